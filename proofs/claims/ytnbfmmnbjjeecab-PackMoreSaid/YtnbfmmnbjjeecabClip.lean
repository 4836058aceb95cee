/- slices.Clip; make([]T, n) in a fence. -/
import Derived.Test.YtnbfmmnbjjeecabGroups
namespace Go.Proofs.Ytnbfmmnbjjeecab
open Go.RowKit Go.Shelf
set_option linter.unusedVariables false
theorem Clip_nil (cap : Nat) (a : Option Addr) (w : World) : Calls Try.prog 16 #[.slice none 0 0] w fun e w' => e = .returned (.slice none 0 0) ∧ w = w' := by
  go_enter Try.func16, Try.ntmps16
  go_wp2_with fail
  go_ret
  exact ⟨rfl, rfl⟩
theorem Clip_some (n cap b off : Nat) (hn : n ≤ cap) (hc : cap ≤ maxLen) (h0 : 0 < n) (w : World) : Calls Try.prog 16 #[.slice (some ⟨b, off, none⟩) n cap] w fun e w' => e = .returned (.slice (some ⟨b, off, none⟩) n n) ∧ w = w' := by
  unfold maxLen at hc
  go_enter Try.func16, Try.ntmps16
  go_wp2_with fail
  go_ret
  exact ⟨rfl, rfl⟩
end Go.Proofs.Ytnbfmmnbjjeecab
