/- RateWaits: who waits long enough behind a call may send. The walk. -/
import Derived.Test.YtnbfmmnbjjeecaaSmall
namespace Go.Proofs.Ytnbfmmnbjjeecaa
open Go.RowKit
set_option linter.unusedVariables false
/-- The plain law: who waits long enough behind a call may send. -/
theorem waits_law (m t p b now : Int) (h1 : 1 ≤ p) (h2 : p ≤ 1000000) (h3 : 1 ≤ b) (h5 : 0 ≤ now) (h7 : t ≤ now) (h8 : now + (3600000 + p - 1) / p ≤ 70368744177664) :
    3600000 ≤ lev (if lev m t p b now < 3600000 then lev m t p b now else lev m t p b now - 3600000) (max (clT t) (clT now)) p b (now + (3600000 + p - 1) / p) := by
  have hl := lev_bd m t p b now (by omega) (by omega)
  have hw1 : 0 ≤ (3600000 + p - 1) / p := Int.ediv_nonneg (by omega) (by omega)
  have hw2 : 3600000 ≤ p * ((3600000 + p - 1) / p) := by
    have := Int.lt_mul_ediv_self_add (x := 3600000 + p - 1) (k := p) (by omega)
    omega
  have e1 : clT now = now := clT_id now h5 (by omega)
  have e2 : max (clT t) (clT now) = now := by rw [e1]; unfold clT; omega
  rw [e2]
  generalize hM : (if lev m t p b now < 3600000 then lev m t p b now else lev m t p b now - 3600000) = M
  have hM0 : 0 ≤ M := by rw [← hM]; split <;> omega
  unfold lev
  rw [lvl_eq _ _ _ _ _ (cap_bd p (by omega)).1, cap_id p h2, e1, clT_id (now + (3600000 + p - 1) / p) (by omega) (by omega)]
  have hB := cap_bd b (by omega)
  have e3 : max (now + (3600000 + p - 1) / p - now) 0 = (3600000 + p - 1) / p := by omega
  rw [e3]
  generalize p * ((3600000 + p - 1) / p) = X at *
  omega
theorem waits_early (m t p b now : Int) (w : World) (h : p < 1 ∨ 1 ≤ p ∧ 1000000 < p ∨ 1 ≤ p ∧ p ≤ 1000000 ∧ b < 1 ∨ 1 ≤ p ∧ p ≤ 1000000 ∧ 1 ≤ b ∧ 1000000 < b ∨ 1 ≤ p ∧ p ≤ 1000000 ∧ 1 ≤ b ∧ b ≤ 1000000 ∧ now < 0 ∨
      1 ≤ p ∧ p ≤ 1000000 ∧ 1 ≤ b ∧ b ≤ 1000000 ∧ 0 ≤ now ∧ 70368744177664 < now ∨ 1 ≤ p ∧ p ≤ 1000000 ∧ 1 ≤ b ∧ b ≤ 1000000 ∧ 0 ≤ now ∧ now ≤ 70368744177664 ∧ now < t) :
    Calls Try.prog 4 #[.agg #[.int .i64 m, .int .i64 t], .int .i64 p, .int .i64 b, .int .i64 now] w fun e w' => e = .returned (.bool true) ∧ Bel w w' := by
  rcases h with h1 | ⟨h1, h2⟩ | ⟨h1, h2, h3⟩ | ⟨h1, h2, h3, h4⟩ | ⟨h1, h2, h3, h4, h5⟩ | ⟨h1, h2, h3, h4, h5, h6⟩ | ⟨h1, h2, h3, h4, h5, h6, h7⟩
  all_goals
    go_enter Try.func4, Try.ntmps4
    go_wp2_with (go_at_call 7; refine (small_any _).mono ?_; rintro e w1 ⟨rfl, hb1⟩; have xc00 : w1.cell? ⟨w.heap.size, 0, none⟩ = some (.int .i64 m) := bget hb1 (by go_size) (by go_cell); have xf00 : w1.frozen? ⟨w.heap.size, 0, none⟩ = false := bfrz hb1 (by go_size) (by first | assumption | (go_simp; done) | (simp [*]; done)); have xc01 : w1.cell? ⟨w.heap.size, 1, none⟩ = some (.int .i64 t) := bget hb1 (by go_size) (by go_cell); have xf01 : w1.frozen? ⟨w.heap.size, 1, none⟩ = false := bfrz hb1 (by go_size) (by first | assumption | (go_simp; done) | (simp [*]; done)); have xz := hb1.size; simp at xz; have xz0 : w.heap.size < w1.heap.size := (by omega))
    go_ret
    refine ⟨rfl, ?_⟩
    repeat (first | with_reducible exact Below.refl _ _ | with_reducible assumption | (with_reducible refine balloc ?_) | (with_reducible refine bdrew ?_) | (with_reducible refine bset ?_ (by first | omega | (simp; done) | (simp; omega))) | (with_reducible refine bnext ?_ (by assumption)))
theorem waits_late (m t p b now : Int) (w : World) (h1 : 1 ≤ p) (h2 : p ≤ 1000000) (h3 : 1 ≤ b) (h4 : b ≤ 1000000) (h5 : 0 ≤ now) (h6 : now ≤ 70368744177664) (h7 : t ≤ now) :
    Calls Try.prog 4 #[.agg #[.int .i64 m, .int .i64 t], .int .i64 p, .int .i64 b, .int .i64 now] w fun e w' => e = .returned (.bool true) ∧ Bel w w' := by
  have hw1 : 0 ≤ (3600000 + p - 1) / p := Int.ediv_nonneg (by omega) (by omega)
  have hw2 : (3600000 + p - 1) / p ≤ 3600000 + p - 1 := Int.ediv_le_self _ (by omega)
  have hL := waits_law m t p b now h1 h2 h3 h5 h7
  obtain ⟨M, hM⟩ : ∃ M, (if lev m t p b now < 3600000 then lev m t p b now else lev m t p b now - 3600000) = M := ⟨_, rfl⟩
  obtain ⟨T, hT⟩ : ∃ M, max (clT t) (clT now) = M := ⟨_, rfl⟩
  obtain ⟨ok, hO⟩ : ∃ M, decide (3600000 ≤ lev m t p b now) = M := ⟨_, rfl⟩
  rw [hM, hT] at hL
  go_enter Try.func4, Try.ntmps4
  go_wp2_with (go_at_call 7; refine (small_any _).mono ?_; rintro e w1 ⟨rfl, hb1⟩; have xc00 : w1.cell? ⟨w.heap.size, 0, none⟩ = some (.int .i64 m) := bget hb1 (by go_size) (by go_cell); have xf00 : w1.frozen? ⟨w.heap.size, 0, none⟩ = false := bfrz hb1 (by go_size) (by first | assumption | (go_simp; done) | (simp [*]; done)); have xc01 : w1.cell? ⟨w.heap.size, 1, none⟩ = some (.int .i64 t) := bget hb1 (by go_size) (by go_cell); have xf01 : w1.frozen? ⟨w.heap.size, 1, none⟩ = false := bfrz hb1 (by go_size) (by first | assumption | (go_simp; done) | (simp [*]; done)); have xz := hb1.size; simp at xz; have xz0 : w.heap.size < w1.heap.size := (by omega))
  refine (Allow_at m t p b now M T ok _ (by omega) (by omega) hM hT hO).mono ?_
  clear hM hT hO
  rintro e w2 ⟨rfl, hb2⟩
  by_cases h8 : 70368744177664 < now + (3600000 + p - 1) / p
  · go_wp2_with fail
    go_ret
    refine ⟨rfl, ?_⟩
    repeat (first | with_reducible exact Below.refl _ _ | with_reducible assumption | (with_reducible refine balloc ?_) | (with_reducible refine bdrew ?_) | (with_reducible refine bset ?_ (by first | omega | (simp; done) | (simp; omega))) | (with_reducible refine bnext ?_ (by assumption)))
  · replace hL := hL (by omega)
    go_wp2_with fail
    refine (Allow_at _ _ p b _ _ _ true _ (by omega) (by omega) rfl rfl (by simpa using hL)).mono ?_
    rintro e w3 ⟨rfl, hb3⟩
    go_wp2_with fail
    go_ret
    refine ⟨rfl, ?_⟩
    repeat (first | with_reducible exact Below.refl _ _ | with_reducible assumption | (with_reducible refine balloc ?_) | (with_reducible refine bdrew ?_) | (with_reducible refine bset ?_ (by first | omega | (simp; done) | (simp; omega))) | (with_reducible refine bnext ?_ (by assumption)))
theorem waits_walk (m t p b now : Int) (w : World) :
    Calls Try.prog 4 #[.agg #[.int .i64 m, .int .i64 t], .int .i64 p, .int .i64 b, .int .i64 now] w fun e w' => e = .returned (.bool true) ∧ Bel w w' := by
  by_cases h : 1 ≤ p ∧ p ≤ 1000000 ∧ 1 ≤ b ∧ b ≤ 1000000 ∧ 0 ≤ now ∧ now ≤ 70368744177664 ∧ t ≤ now
  · obtain ⟨h1, h2, h3, h4, h5, h6, h7⟩ := h
    exact waits_late m t p b now w h1 h2 h3 h4 h5 h6 h7
  · exact waits_early m t p b now w (by omega)
end Go.Proofs.Ytnbfmmnbjjeecaa
