/- The list of laid variables of the rows of quote. -/
import Derived.Test.YtompmkcpicfdfaaDoorLaid
import Derived.Test.YtompmkcpicfdfaaDoorDec
namespace Go.Proofs.YtompmkcpicfdfaaDoor
open Go
noncomputable def laidFive : List (String × DataW Unit) := [("math/bits.deBruijn32tab", Rows.laid_math_bits_deBruijn32tab), ("math/bits.deBruijn64tab", Rows.laid_math_bits_deBruijn64tab), ("internal/strconv.uint64pow10", Rows.laid_internal_strconv_uint64pow10), ("unicode/utf8.acceptRanges", Rows.laid_unicode_utf8_acceptRanges), ("unicode/utf8.first", Rows.laid_unicode_utf8_first)]
set_option maxRecDepth 100000 in
theorem laidFive_met (os : Os) (args : Array Value) : laidMetH Tryd.prog laidFive ((laidWorld os).forCall (fun _ _ => 0) ⟨#[], args, []⟩).memory :=
  laidMetH_of_parts3 (fuel := 8) (laidMet_of_run' 8 (by kernel_rfl) (by kernel_rfl)) (by kernel_rfl) (by kernel_rfl)
theorem pow10_of_five {W : World} (h : laidMetH Tryd.prog laidFive W) : Pow W := by
  rw [MakeChecks.laidMetH_plain _ _ _ (by kernel_rfl)] at h
  have hg : Tryd.prog.globalNamed "internal/strconv.uint64pow10" = some 5 := by kernel_rfl
  have hty : (Tryd.prog.globals[(5 : Nat)]?).map (·.type) = some 136 := by kernel_rfl
  refine tab_of_laid hg hty (n := 20) (e := 121) (by kernel_rfl) (by kernel_rfl) (by kernel_rfl) (by kernel_rfl) h ?_
  have e : (Lib.tabData .u64 Lib.pow10Tab : DataW Unit) = Rows.laid_internal_strconv_uint64pow10 := by kernel_rfl
  rw [e]
  exact .tail _ (.tail _ (.head _))
end Go.Proofs.YtompmkcpicfdfaaDoor
