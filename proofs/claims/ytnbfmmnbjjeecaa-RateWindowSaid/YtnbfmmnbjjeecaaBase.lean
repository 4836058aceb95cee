/- Contracts of package rate's small functions (within, time, limited, level): what each returns. -/
import Derived.Test.YtnbfmmnbjjeecaaRows
import Derived.Test.YtnbfmmnbjjeecaaKit
namespace Go.Proofs.Ytnbfmmnbjjeecaa
set_option linter.unusedVariables false
open Go.RowKit
theorem within_any (x lo hi : Int) (w : World) : Calls Try.prog 15 #[.int .i64 x, .int .i64 lo, .int .i64 hi] w fun e w' => e = .returned (.int .i64 (min (max x lo) hi)) ∧ w = w' := by
  go_enter Try.func15, Try.ntmps15
  go_wp2
  all_goals
    go_ret
    exact ⟨ret_int (by omega), rfl⟩
/-- a time between its bounds -/
def clT (x : Int) : Int := min (max x 0) 70368744177664
theorem clT_bd (x : Int) : 0 ≤ clT x ∧ clT x ≤ 70368744177664 := by unfold clT; omega
theorem clT_id (x : Int) (h : 0 ≤ x) (h2 : x ≤ 70368744177664) : clT x = x := by unfold clT; omega
/-- a limit at most 1000000 -/
def cap (x : Int) : Int := min x 1000000
theorem cap_bd (x : Int) (h : 0 < x) : 1 ≤ cap x ∧ cap x ≤ 1000000 := by unfold cap; omega
theorem cap_id (x : Int) (h2 : x ≤ 1000000) : cap x = x := by unfold cap; omega
theorem time_any (x : Int) (w : World) : Calls Try.prog 13 #[.int .i64 x] w fun e w' => e = .returned (.int .i64 (clT x)) ∧ w = w' := by
  go_enter Try.func13, Try.ntmps13
  go_wp2_with (go_at_call 15; refine (within_any _ _ _ _).mono ?_; rintro e w' ⟨rfl, rfl⟩)
  go_ret
  exact ⟨rfl, rfl⟩
def lvl (p b m t now : Int) : Int :=
  if (b * 3600000 - min (max m 0) (b * 3600000)) / p < (if now - t < 0 then 0 else now - t) then b * 3600000 else min (max m 0) (b * 3600000) + p * (if now - t < 0 then 0 else now - t)
theorem mul_le_of_le_div {a p q : Int} (hp : 1 ≤ p) (h : q ≤ a / p) : p * q ≤ a := by
  have h1 := Int.mul_ediv_self_le (x := a) (k := p) (by omega)
  have h2 : p * q ≤ p * (a / p) := Int.mul_le_mul_of_nonneg_left h (by omega)
  omega
theorem mul_gt_of_gt_div {a p q : Int} (hp : 1 ≤ p) (h : a / p < q) : a < p * q := by
  have h1 := Int.lt_mul_ediv_self_add (x := a) (k := p) (by omega)
  have h2 : p * (a / p + 1) ≤ p * q := Int.mul_le_mul_of_nonneg_left (by omega) (by omega)
  rw [Int.mul_add] at h2
  omega
/-- lvl without a division -/
theorem lvl_eq (p b m t now : Int) (hp : 1 ≤ p) : lvl p b m t now = min (b * 3600000) (min (max m 0) (b * 3600000) + p * max (now - t) 0) := by
  unfold lvl
  have e : (if now - t < 0 then 0 else now - t) = max (now - t) 0 := by split <;> omega
  rw [e]
  generalize max (now - t) 0 = q
  split
  · have := mul_gt_of_gt_div hp ‹_›; omega
  · have := mul_le_of_le_div hp (Int.not_lt.1 ‹_›); omega
theorem lvl_bd (p b m t now : Int) (hp : 1 ≤ p) (hb : 0 ≤ b) : 0 ≤ lvl p b m t now ∧ lvl p b m t now ≤ b * 3600000 := by
  rw [lvl_eq p b m t now hp]
  have : 0 ≤ p * max (now - t) 0 := Int.mul_nonneg (by omega) (by omega)
  omega
theorem level_bel (p b m t now : Int) (w : World) (hp1 : 1 ≤ p) (hp2 : p ≤ 1000000) (hb1 : 1 ≤ b) (hb2 : b ≤ 1000000) (ht1 : 0 ≤ t) (ht2 : t ≤ 70368744177664) (hn1 : 0 ≤ now) (hn2 : now ≤ 70368744177664) :
   Calls Try.prog 14 #[.agg #[.int .i64 p, .int .i64 b], .agg #[.int .i64 m, .int .i64 t], .int .i64 now] w fun e w' => e = .returned (.int .i64 (lvl p b m t now)) ∧ Bel w w' := by
  by_cases hc : (b * 3600000 - min (max m 0) (b * 3600000)) / p < (if now - t < 0 then 0 else now - t)
  · have hl : lvl p b m t now = b * 3600000 := if_pos hc
    by_cases h : now - t < 0
    all_goals
      go_enter Try.func14, Try.ntmps14
      go_wp2_with (go_at_call 15; refine (within_any _ _ _ _).mono ?_; rintro e w' ⟨rfl, rfl⟩)
      go_ret
      exact ⟨ret_int hl.symm, by go_grown⟩
  · have hl : lvl p b m t now = min (max m 0) (b * 3600000) + p * (if now - t < 0 then 0 else now - t) := if_neg hc
    have hm := mul_le_of_le_div hp1 (Int.not_lt.1 hc)
    by_cases h : now - t < 0
    · rw [if_pos h] at hl
      go_enter Try.func14, Try.ntmps14
      go_wp2_with (go_at_call 15; refine (within_any _ _ _ _).mono ?_; rintro e w' ⟨rfl, rfl⟩)
      go_ret
      exact ⟨ret_int (by omega), by go_grown⟩
    · rw [if_neg h] at hl hm
      have h0 : 0 ≤ p * (now - t) := Int.mul_nonneg (by omega) (by omega)
      go_enter Try.func14, Try.ntmps14
      go_wp2_with (go_at_call 15; refine (within_any _ _ _ _).mono ?_; rintro e w' ⟨rfl, rfl⟩)
      go_ret
      exact ⟨ret_int (by omega), by go_grown⟩
theorem limited_yes (p b : Int) (w : World) (hp : 0 < p) (hb : 0 < b) :
    Calls Try.prog 12 #[.int .i64 p, .int .i64 b] w fun e w' => e = .returned (.tuple #[.agg #[.int .i64 (cap p), .int .i64 (cap b)], .bool true]) ∧ Bel w w' := by
  have e1 : (if 1000000 < p then 1000000 else p) = cap p := by unfold cap; split <;> omega
  have e2 : (if 1000000 < b then 1000000 else b) = cap b := by unfold cap; split <;> omega
  rw [← e1, ← e2]; clear e1 e2
  by_cases h1 : 1000000 < p <;> by_cases h2 : 1000000 < b
  all_goals
    go_enter Try.func12, Try.ntmps12
    go_wp2
    go_returns
    exact ⟨rfl, by go_grown⟩
theorem limited_no (p b : Int) (w : World) (hp : p ≤ 0) :
    Calls Try.prog 12 #[.int .i64 p, .int .i64 b] w fun e w' => e = .returned (.tuple #[.agg #[.int .i64 p, .int .i64 (cap b)], .bool false]) ∧ Bel w w' := by
  have e2 : (if 1000000 < b then 1000000 else b) = cap b := by unfold cap; split <;> omega
  rw [← e2]; clear e2
  have hp' : ¬ 0 < p := by omega
  by_cases h2 : 1000000 < b
  all_goals
    go_enter Try.func12, Try.ntmps12
    go_wp2
    go_returns
    exact ⟨rfl, by go_grown⟩
end Go.Proofs.Ytnbfmmnbjjeecaa
