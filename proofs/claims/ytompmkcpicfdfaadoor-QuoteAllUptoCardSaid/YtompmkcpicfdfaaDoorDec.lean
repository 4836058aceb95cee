/- text.Decimal. -/
import Derived.Test.YtompmkcpicfdfaaDoorNumLaw
import Derived.Test.YtompmkcpicfdfaaDoorLaidFacts
namespace Go.Proofs.YtompmkcpicfdfaaDoor
open Go.RowKit
set_option linter.unusedVariables false
theorem below_grow (w : World) (k : Nat) (os : Array Obj) : Below w.heap.size w (Sort.grow (w.drewN k) os) :=
  ⟨rfl, rfl, rfl, by show w.heap.size ≤ (w.heap ++ os).size; rw [Array.size_append]; omega, fun b hb => by show (w.heap ++ os)[b]? = _; rw [Array.getElem?_append_left hb]⟩
def Pow (w : World) : Prop := Lib.TabIs Tryd.prog w "internal/strconv.uint64pow10" .u64 Lib.pow10Tab
theorem Pow.below {w w' : World} (h : Pow w) (hb : Below w.heap.size w w') : Pow w' := by
  have hg : Tryd.prog.globalNamed "internal/strconv.uint64pow10" = some 5 := by kernel_rfl
  unfold Pow Lib.TabIs World.var? at h ⊢
  rw [hg] at h ⊢
  simp only [Option.bind_some] at h ⊢
  have hlt : 5 < w.heap.size := by
    rcases Nat.lt_or_ge 5 w.heap.size with h' | h'
    · exact h'
    · rw [Array.getElem?_eq_none h'] at h; cases h
  rw [hb.block _ hlt]
  exact h
theorem bd_of_wf {n : Int} (h : (Lit.int .i64 n).wf = true) : -9223372036854775808 ≤ n ∧ n ≤ 9223372036854775807 := by
  simpa [Lit.wf, IntKind.min, IntKind.max, IntKind.signed, IntKind.bits] using h
theorem Decimal_any (n : Int) (w : World) (h0 : -9223372036854775808 ≤ n) (h1 : n ≤ 9223372036854775807) (ht : Pow w) : Calls Tryd.prog 33 #[.int .i64 n] w (SPost (Lib.itoa n) w) := by
  go_enter Tryd.func33, Tryd.ntmps33
  go_wp2_with (go_at_call 60; refine (Tryd.strconv_Itoa n h0 h1 _ ht).mono ?_; rintro e w' ⟨rfl, k, os, rfl⟩)
  go_ret
  exact ⟨⟨_, rfl, rfl⟩, below_grow _ _ _⟩
theorem itoa_pos (n : Int) : 0 < (Lib.itoa n).length := by
  rw [itoa_length]
  have := Lib.nDigits_pos n.natAbs
  omega
theorem cons_list (c : UInt8) (y : ByteArray) : ((⟨#[c]⟩ : ByteArray) ++ y).data.toList = c :: y.data.toList := by
  rw [ByteArray.data_append, Array.toList_append]; rfl
end Go.Proofs.YtompmkcpicfdfaaDoor
