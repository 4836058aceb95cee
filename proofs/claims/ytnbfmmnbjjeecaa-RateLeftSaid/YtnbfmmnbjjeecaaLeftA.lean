/- RateLeft: its plain laws, and the inputs outside its bounds. -/
import Derived.Test.YtnbfmmnbjjeecaaSmall
namespace Go.Proofs.Ytnbfmmnbjjeecaa
open Go.RowKit
set_option linter.unusedVariables false
/-- What the level is at its own time. -/
theorem lev_own (M p b now : Int) (hp : 0 < p) (hb : 0 < b) (hb2 : b ≤ 1000000) (h1 : 0 ≤ M) (h2 : M ≤ b * 3600000) : lev M now p b now = M := by
  unfold lev
  rw [lvl_eq _ _ _ _ _ (cap_bd p hp).1, cap_id b hb2]
  have e : max (clT now - clT now) 0 = 0 := by omega
  rw [e, Int.mul_zero]; omega
/-- Below one message's worth the level goes on from any call's time. -/
theorem lev_later (M t p b now later : Int) (hp : 0 < p) (hb : 0 < b) (hb2 : b ≤ 1000000) (h0 : 0 ≤ now) (h1 : now ≤ later) (h2 : later ≤ 70368744177664) (h3 : t ≤ now) (h4 : lev M t p b now < 3600000) :
    lev (lev M t p b now) now p b later = lev M t p b later := by
  have hl := lev_bd M t p b now hp hb
  generalize hL : lev M t p b now = L at *
  unfold lev at *
  have hP := cap_bd p hp
  have e1 : clT now = now := clT_id now h0 (by omega)
  rw [lvl_eq _ _ _ _ _ hP.1, cap_id b hb2, e1] at hL
  rw [cap_id b hb2]
  have e2 : clT later = later := clT_id later (by omega) h2
  have e3 : clT t ≤ now := by unfold clT; omega
  rw [e1, e2, lvl_eq _ _ L _ _ hP.1, lvl_eq _ _ M _ _ hP.1]
  clear e1 e2
  have e4 : max (later - now) 0 = later - now := by omega
  have e5 : max (later - clT t) 0 = (later - now) + (now - clT t) := by omega
  have e6 : max (now - clT t) 0 = now - clT t := by omega
  rw [e6] at hL
  rw [e4, e5, Int.mul_add]
  have e7 : 0 ≤ cap p * (later - now) := Int.mul_nonneg (by omega) (by omega)
  have e8 : 0 ≤ cap p * (now - clT t) := Int.mul_nonneg (by omega) (by omega)
  generalize cap p * (later - now) = X at *
  generalize cap p * (now - clT t) = Y at *
  omega
set_option maxHeartbeats 1000000 in
theorem left_early (m t p b now later : Int) (w : World) (h : p < 1 ∨
      1 ≤ p ∧ 1000 < p ∨
      1 ≤ p ∧ p ≤ 1000 ∧ b < 1 ∨
      1 ≤ p ∧ p ≤ 1000 ∧ 1 ≤ b ∧ 40 < b ∨
      1 ≤ p ∧ p ≤ 1000 ∧ 1 ≤ b ∧ b ≤ 40 ∧ now < 0 ∨
      1 ≤ p ∧ p ≤ 1000 ∧ 1 ≤ b ∧ b ≤ 40 ∧ 0 ≤ now ∧ later < now ∨
      1 ≤ p ∧ p ≤ 1000 ∧ 1 ≤ b ∧ b ≤ 40 ∧ 0 ≤ now ∧ now ≤ later ∧ 70368744177664 < later ∨
      1 ≤ p ∧ p ≤ 1000 ∧ 1 ≤ b ∧ b ≤ 40 ∧ 0 ≤ now ∧ now ≤ later ∧ later ≤ 70368744177664 ∧ now < t) :
    Calls Try.prog 5 #[.agg #[.int .i64 m, .int .i64 t], .int .i64 p, .int .i64 b, .int .i64 now, .int .i64 later] w fun e w' => e = .returned (.bool true) ∧ Bel w w' := by
  rcases h with h1 | ⟨h1, h2⟩ | ⟨h1, h2, h3⟩ | ⟨h1, h2, h3, h4⟩ | ⟨h1, h2, h3, h4, h5⟩ | ⟨h1, h2, h3, h4, h5, h6⟩ | ⟨h1, h2, h3, h4, h5, h6, h7⟩ | ⟨h1, h2, h3, h4, h5, h6, h7, h8⟩
  all_goals
    go_enter Try.func5, Try.ntmps5
    go_wp2_with (go_at_call 7; refine (small_any _).mono ?_; rintro e w1 ⟨rfl, hb1⟩; have xc00 : w1.cell? ⟨w.heap.size, 0, none⟩ = some (.int .i64 m) := bget hb1 (by go_size) (by go_cell); have xf00 : w1.frozen? ⟨w.heap.size, 0, none⟩ = false := bfrz hb1 (by go_size) (by first | assumption | (go_simp; done) | (simp [*]; done)); have xc01 : w1.cell? ⟨w.heap.size, 1, none⟩ = some (.int .i64 t) := bget hb1 (by go_size) (by go_cell); have xf01 : w1.frozen? ⟨w.heap.size, 1, none⟩ = false := bfrz hb1 (by go_size) (by first | assumption | (go_simp; done) | (simp [*]; done)); have xz0 : w.heap.size < w1.heap.size := bsize hb1 (by go_size))
    go_ret
    refine ⟨rfl, ?_⟩
    repeat (first | with_reducible exact Below.refl _ _ | with_reducible assumption | (with_reducible refine balloc ?_) | (with_reducible refine bdrew ?_) | (with_reducible refine bset ?_ (by first | omega | (simp; done) | (simp; omega))) | (with_reducible refine bnext ?_ (by assumption)))
end Go.Proofs.Ytnbfmmnbjjeecaa
