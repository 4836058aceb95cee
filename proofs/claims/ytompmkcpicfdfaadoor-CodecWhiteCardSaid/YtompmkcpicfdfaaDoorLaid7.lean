/- The lists of laid variables of the rows of codec and of quote. -/
import Derived.Test.YtompmkcpicfdfaaDoorLaid
namespace Go.Proofs.YtompmkcpicfdfaaDoor
open Go
noncomputable def laidTwo : List (String × DataW Unit) := [("unicode/utf8.acceptRanges", Rows.laid_unicode_utf8_acceptRanges), ("unicode/utf8.first", Rows.laid_unicode_utf8_first)]
set_option maxRecDepth 100000 in
theorem laidTwo_met (os : Os) (args : Array Value) : laidMetH Tryd.prog laidTwo ((laidWorld os).forCall (fun _ _ => 0) ⟨#[], args, []⟩).memory :=
  laidMetH_of_parts3 (fuel := 8) (laidMet_of_run' 8 (by kernel_rfl) (by kernel_rfl)) (by kernel_rfl) (by kernel_rfl)
end Go.Proofs.YtompmkcpicfdfaaDoor
