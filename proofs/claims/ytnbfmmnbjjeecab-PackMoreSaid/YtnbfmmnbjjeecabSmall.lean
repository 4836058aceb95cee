/- Contracts of package pack's and its reference's small functions. -/
import Derived.Test.YtnbfmmnbjjeecabRows
import Derived.Test.YtnbfmmnbjjeecabKit
namespace Go.Proofs.Ytnbfmmnbjjeecab
open Go.RowKit
set_option linter.unusedVariables false
/-- a size, or 0 if it is negative -/
def pos (n : Int) : Int := max n 0
theorem pos_bd (n : Int) : 0 ≤ pos n ∧ n ≤ pos n := by unfold pos; omega
theorem size_any (n : Int) (w : World) : Calls Try.prog 18 #[.int .i64 n] w fun e w' => e = .returned (.int .i64 (pos n)) ∧ w = w' := by
  go_enter Try.func18, Try.ntmps18
  go_wp2
  all_goals
    go_ret
    exact ⟨ret_int (by unfold pos; omega), rfl⟩
theorem rest_any (b h : Int) (w : World) (hb : 0 < b) (hb2 : b ≤ 9223372036854775807) (hh : h ≤ 9223372036854775807) : Calls Try.prog 17 #[.int .i64 b, .int .i64 h] w fun e w' => e = .returned (.int .i64 (b - pos h)) ∧ w = w' := by
  have h1 : 0 ≤ pos h := (pos_bd h).1
  have h2 : pos h ≤ 9223372036854775807 := by unfold pos; omega
  go_enter Try.func17, Try.ntmps17
  go_wp2_with (go_at_call 18; refine (size_any _ _).mono ?_; rintro e w' ⟨rfl, rfl⟩)
  go_ret
  exact ⟨rfl, rfl⟩
theorem wrap64_bd (x : Int) : -9223372036854775808 ≤ wrap64 x ∧ wrap64 x ≤ 9223372036854775807 := by
  unfold wrap64; omega
/-- rest at a budget that is not positive: some number -/
theorem rest_wild (b h : Int) (w : World) : Calls Try.prog 17 #[.int .i64 b, .int .i64 h] w fun e w' => (∃ x : Int, (-9223372036854775808 ≤ x ∧ x ≤ 9223372036854775807) ∧ e = .returned (.int .i64 x)) ∧ w = w' := by
  go_enter Try.func17, Try.ntmps17
  go_wp2_with (go_at_call 18; refine (size_any _ _).mono ?_; rintro e w' ⟨rfl, rfl⟩)
  go_ret
  exact ⟨⟨_, wrap64_bd _, rfl⟩, rfl⟩

/-- whether a size does not fit alone -/
def alone (n b h : Int) : Bool := decide (0 < b ∧ b - pos h < pos n)
theorem Alone_any (n b h : Int) (w : World) (hb2 : b ≤ 9223372036854775807) (hh : h ≤ 9223372036854775807) : Calls Try.prog 11 #[.int .i64 n, .int .i64 b, .int .i64 h] w fun e w' => e = .returned (.bool (alone n b h)) ∧ w = w' := by
  by_cases c : 0 < b
  · go_enter Try.func11, Try.ntmps11
    go_wp2
    all_goals
      go_ret
      exact ⟨ret_bool (by simp [alone, pos, c]; omega), rfl⟩
  · go_enter Try.func11, Try.ntmps11
    go_wp2
    all_goals
      go_ret
      exact ⟨ret_bool (by simp [alone]; omega), rfl⟩
theorem RefAlone_any (n b h : Int) (w : World) (hb2 : b ≤ 9223372036854775807) (hh : h ≤ 9223372036854775807) : Calls Try.prog 12 #[.int .i64 n, .int .i64 b, .int .i64 h] w fun e w' => e = .returned (.bool (alone n b h)) ∧ w = w' := by
  by_cases c : 0 < b
  · go_enter Try.func12, Try.ntmps12
    go_wp2_with (first | (go_at_call 17; refine (rest_any _ _ _ c hb2 hh).mono ?_; rintro e w' ⟨rfl, rfl⟩) | (go_at_call 18; refine (size_any _ _).mono ?_; rintro e w' ⟨rfl, rfl⟩))
    all_goals
      go_ret
      exact ⟨ret_bool (by simp [alone, c]; have := pos_bd n; omega), rfl⟩
  · go_enter Try.func12, Try.ntmps12
    go_wp2_with fail
    all_goals
      go_ret
      exact ⟨ret_bool (by simp [alone]; omega), rfl⟩
end Go.Proofs.Ytnbfmmnbjjeecab
