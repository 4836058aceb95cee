/- RateMore: more in the bucket, a larger rate, a later time never allow less. The walk. -/
import Derived.Test.YtnbfmmnbjjeecaaSmall
namespace Go.Proofs.Ytnbfmmnbjjeecaa
open Go.RowKit
set_option linter.unusedVariables false
/-- More in the bucket, a larger rate, a later time: never less. -/
theorem lev_mono (m m' t p p' b now now' : Int) (hp : 0 < p) (hb : 0 < b) (h1 : m ≤ m') (h2 : p ≤ p') (h3 : now ≤ now') : lev m t p b now ≤ lev m' t p' b now' := by
  unfold lev
  have hP := cap_bd p hp
  have hP' := cap_bd p' (by omega)
  have hB := cap_bd b hb
  rw [lvl_eq _ _ _ _ _ hP.1, lvl_eq _ _ _ _ _ hP'.1]
  have e1 : cap p ≤ cap p' := by unfold cap; omega
  have e2 : max (clT now - clT t) 0 ≤ max (clT now' - clT t) 0 := by unfold clT; omega
  have e3 : cap p * max (clT now - clT t) 0 ≤ cap p' * max (clT now' - clT t) 0 :=
    Int.le_trans (Int.mul_le_mul_of_nonneg_left e2 (by omega)) (Int.mul_le_mul_of_nonneg_right e1 (by omega))
  generalize cap p * max (clT now - clT t) 0 = X at *
  generalize cap p' * max (clT now' - clT t) 0 = Y at *
  omega
theorem left_mono (m m' t p p' b now now' : Int) (hp : 0 < p) (hb : 0 < b) (h1 : m ≤ m') (h2 : p ≤ p') (h3 : now ≤ now') : lev m t p b now / 3600000 ≤ lev m' t p' b now' / 3600000 := by
  have := lev_mono m m' t p p' b now now' hp hb h1 h2 h3; omega
theorem more_early (m t more p faster b now later : Int) (w : World) (h : p < 1 ∨
      1 ≤ p ∧ 1000000 < p ∨
      1 ≤ p ∧ p ≤ 1000000 ∧ b < 1 ∨
      1 ≤ p ∧ p ≤ 1000000 ∧ 1 ≤ b ∧ 1000000 < b ∨
      1 ≤ p ∧ p ≤ 1000000 ∧ 1 ≤ b ∧ b ≤ 1000000 ∧ more < m ∨
      1 ≤ p ∧ p ≤ 1000000 ∧ 1 ≤ b ∧ b ≤ 1000000 ∧ m ≤ more ∧ faster < p ∨
      1 ≤ p ∧ p ≤ 1000000 ∧ 1 ≤ b ∧ b ≤ 1000000 ∧ m ≤ more ∧ p ≤ faster ∧ later < now) :
    Calls Try.prog 6 #[.agg #[.int .i64 m, .int .i64 t], .int .i64 more, .int .i64 p, .int .i64 faster, .int .i64 b, .int .i64 now, .int .i64 later] w fun e w' => e = .returned (.bool true) ∧ Bel w w' := by
  rcases h with h1 | ⟨h1, h2⟩ | ⟨h1, h2, h3⟩ | ⟨h1, h2, h3, h4⟩ | ⟨h1, h2, h3, h4, h5⟩ | ⟨h1, h2, h3, h4, h5, h6⟩ | ⟨h1, h2, h3, h4, h5, h6, h7⟩
  all_goals
    go_enter Try.func6, Try.ntmps6
    go_wp2_with (go_at_call 7; refine (small_any _).mono ?_; rintro e w1 ⟨rfl, hb1⟩; have xc00 : w1.cell? ⟨w.heap.size, 0, none⟩ = some (.int .i64 m) := bget hb1 (by go_size) (by go_cell); have xf00 : w1.frozen? ⟨w.heap.size, 0, none⟩ = false := bfrz hb1 (by go_size) (by first | assumption | (go_simp; done) | (simp [*]; done)); have xc01 : w1.cell? ⟨w.heap.size, 1, none⟩ = some (.int .i64 t) := bget hb1 (by go_size) (by go_cell); have xf01 : w1.frozen? ⟨w.heap.size, 1, none⟩ = false := bfrz hb1 (by go_size) (by first | assumption | (go_simp; done) | (simp [*]; done)); have xz := hb1.size; simp at xz; have xz0 : w.heap.size < w1.heap.size := (by omega))
    go_ret
    refine ⟨rfl, ?_⟩
    repeat (first | with_reducible exact Below.refl _ _ | with_reducible assumption | (with_reducible refine balloc ?_) | (with_reducible refine bdrew ?_) | (with_reducible refine bset ?_ (by first | omega | (simp; done) | (simp; omega))) | (with_reducible refine bnext ?_ (by assumption)))
theorem more_late (m t more p faster b now later : Int) (w : World) (h1 : 1 ≤ p) (h2 : p ≤ 1000000) (h3 : 1 ≤ b) (h4 : b ≤ 1000000) (h5 : m ≤ more) (h6 : p ≤ faster) (h7 : now ≤ later) :
    Calls Try.prog 6 #[.agg #[.int .i64 m, .int .i64 t], .int .i64 more, .int .i64 p, .int .i64 faster, .int .i64 b, .int .i64 now, .int .i64 later] w fun e w' => e = .returned (.bool true) ∧ Bel w w' := by
  have l1 := left_mono m more t p p b now now (by omega) (by omega) h5 (by omega) (by omega)
  have l2 := left_mono m m t p faster b now now (by omega) (by omega) (by omega) h6 (by omega)
  have l3 := left_mono m m t p p b now later (by omega) (by omega) (by omega) (by omega) h7
  have l0 : 0 ≤ lev m t p b now / 3600000 := by have := lev_bd m t p b now (by omega) (by omega); omega
  obtain ⟨n0, e0⟩ : ∃ n, lev m t p b now / 3600000 = n := ⟨_, rfl⟩
  obtain ⟨n1, e1⟩ : ∃ n, lev more t p b now / 3600000 = n := ⟨_, rfl⟩
  obtain ⟨n2, e2⟩ : ∃ n, lev m t faster b now / 3600000 = n := ⟨_, rfl⟩
  obtain ⟨n3, e3⟩ : ∃ n, lev m t p b later / 3600000 = n := ⟨_, rfl⟩
  rw [e0] at l0 l1 l2 l3
  rw [e1] at l1
  rw [e2] at l2
  rw [e3] at l3
  replace e0 := Lib.hid e0
  replace e1 := Lib.hid e1
  replace e2 := Lib.hid e2
  replace e3 := Lib.hid e3
  go_enter Try.func6, Try.ntmps6
  go_wp2_with (go_at_call 7; refine (small_any _).mono ?_; rintro e w1 ⟨rfl, hb1⟩; have xc00 : w1.cell? ⟨w.heap.size, 0, none⟩ = some (.int .i64 m) := bget hb1 (by go_size) (by go_cell); have xf00 : w1.frozen? ⟨w.heap.size, 0, none⟩ = false := bfrz hb1 (by go_size) (by first | assumption | (go_simp; done) | (simp [*]; done)); have xc01 : w1.cell? ⟨w.heap.size, 1, none⟩ = some (.int .i64 t) := bget hb1 (by go_size) (by go_cell); have xf01 : w1.frozen? ⟨w.heap.size, 1, none⟩ = false := bfrz hb1 (by go_size) (by first | assumption | (go_simp; done) | (simp [*]; done)); have xz := hb1.size; simp at xz; have xz0 : w.heap.size < w1.heap.size := (by omega))
  refine (Left_at m t p b now n0 _ (by omega) (by omega) e0.out).mono ?_
  rintro e w2 ⟨rfl, hb2⟩
  have yc00 : w2.cell? ⟨w.heap.size, 0, none⟩ = some (.int .i64 m) := bget hb2 (by go_size) (by go_cell)
  have yf00 : w2.frozen? ⟨w.heap.size, 0, none⟩ = false := bfrz hb2 (by go_size) (by first | assumption | (go_simp; done) | (simp [*]; done))
  have yc01 : w2.cell? ⟨w.heap.size, 1, none⟩ = some (.int .i64 t) := bget hb2 (by go_size) (by go_cell)
  have yf01 : w2.frozen? ⟨w.heap.size, 1, none⟩ = false := bfrz hb2 (by go_size) (by first | assumption | (go_simp; done) | (simp [*]; done))
  have yz0 : w.heap.size < w2.heap.size := bsize hb2 (by go_size)
  go_wp2_with fail
  refine (Left_at more t p b now n1 _ (by omega) (by omega) e1.out).mono ?_
  rintro e w3 ⟨rfl, hb3⟩
  have zc00 : w3.cell? ⟨w.heap.size, 0, none⟩ = some (.int .i64 m) := bget hb3 (by go_size) (by go_cell)
  have zf00 : w3.frozen? ⟨w.heap.size, 0, none⟩ = false := bfrz hb3 (by go_size) (by first | assumption | (go_simp; done) | (simp [*]; done))
  have zc01 : w3.cell? ⟨w.heap.size, 1, none⟩ = some (.int .i64 t) := bget hb3 (by go_size) (by go_cell)
  have zf01 : w3.frozen? ⟨w.heap.size, 1, none⟩ = false := bfrz hb3 (by go_size) (by first | assumption | (go_simp; done) | (simp [*]; done))
  have zz0 : w.heap.size < w3.heap.size := bsize hb3 (by go_size)
  go_wp2_with fail
  refine (Left_at m t faster b now n2 _ (by omega) (by omega) e2.out).mono ?_
  rintro e w4 ⟨rfl, hb4⟩
  have uc00 : w4.cell? ⟨w.heap.size, 0, none⟩ = some (.int .i64 m) := bget hb4 (by go_size) (by go_cell)
  have uf00 : w4.frozen? ⟨w.heap.size, 0, none⟩ = false := bfrz hb4 (by go_size) (by first | assumption | (go_simp; done) | (simp [*]; done))
  have uc01 : w4.cell? ⟨w.heap.size, 1, none⟩ = some (.int .i64 t) := bget hb4 (by go_size) (by go_cell)
  have uf01 : w4.frozen? ⟨w.heap.size, 1, none⟩ = false := bfrz hb4 (by go_size) (by first | assumption | (go_simp; done) | (simp [*]; done))
  have uz0 : w.heap.size < w4.heap.size := bsize hb4 (by go_size)
  go_wp2_with fail
  refine (Left_at m t p b later n3 _ (by omega) (by omega) e3.out).mono ?_
  rintro e w5 ⟨rfl, hb5⟩
  go_wp2_with fail
  go_ret
  refine ⟨rfl, ?_⟩
  repeat (first | with_reducible exact Below.refl _ _ | with_reducible assumption | (with_reducible refine balloc ?_) | (with_reducible refine bdrew ?_) | (with_reducible refine bset ?_ (by first | omega | (simp; done) | (simp; omega))) | (with_reducible refine bnext ?_ (by assumption)))
theorem more_walk (m t more p faster b now later : Int) (w : World) :
    Calls Try.prog 6 #[.agg #[.int .i64 m, .int .i64 t], .int .i64 more, .int .i64 p, .int .i64 faster, .int .i64 b, .int .i64 now, .int .i64 later] w fun e w' => e = .returned (.bool true) ∧ Bel w w' := by
  by_cases h : 1 ≤ p ∧ p ≤ 1000000 ∧ 1 ≤ b ∧ b ≤ 1000000 ∧ m ≤ more ∧ p ≤ faster ∧ now ≤ later
  · obtain ⟨h1, h2, h3, h4, h5, h6, h7⟩ := h
    exact more_late m t more p faster b now later w h1 h2 h3 h4 h5 h6 h7
  · exact more_early m t more p faster b now later w (by omega)
end Go.Proofs.Ytnbfmmnbjjeecaa
