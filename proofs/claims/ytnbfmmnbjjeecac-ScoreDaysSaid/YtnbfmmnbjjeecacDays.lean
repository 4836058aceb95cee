/- ScoreDays: the walk. -/
import Derived.Test.YtnbfmmnbjjeecacDaysLaw
import Derived.Test.YtnbfmmnbjjeecacTail
namespace Go.Proofs.Ytnbfmmnbjjeecac
open Go.RowKit
set_option linter.unusedVariables false
set_option maxHeartbeats 1000000 in
theorem days_early (h : H) (now more : Int) (w : World) (hh : h.st = 3 ∨
      ¬ h.st = 3 ∧ h.sc < 0 ∨
      ¬ h.st = 3 ∧ 0 ≤ h.sc ∧ 1099511627776 < h.sc ∨
      ¬ h.st = 3 ∧ 0 ≤ h.sc ∧ h.sc ≤ 1099511627776 ∧ now < 0 ∨
      ¬ h.st = 3 ∧ 0 ≤ h.sc ∧ h.sc ≤ 1099511627776 ∧ 0 ≤ now ∧ 1099511627776 < now ∨
      ¬ h.st = 3 ∧ 0 ≤ h.sc ∧ h.sc ≤ 1099511627776 ∧ 0 ≤ now ∧ now ≤ 1099511627776 ∧ h.dy < -1 ∨
      ¬ h.st = 3 ∧ 0 ≤ h.sc ∧ h.sc ≤ 1099511627776 ∧ 0 ≤ now ∧ now ≤ 1099511627776 ∧ -1 ≤ h.dy ∧ now / 86400000 ≤ h.dy ∨
      ¬ h.st = 3 ∧ 0 ≤ h.sc ∧ h.sc ≤ 1099511627776 ∧ 0 ≤ now ∧ now ≤ 1099511627776 ∧ -1 ≤ h.dy ∧ h.dy < now / 86400000 ∧ more < 0 ∨
      ¬ h.st = 3 ∧ 0 ≤ h.sc ∧ h.sc ≤ 1099511627776 ∧ 0 ≤ now ∧ now ≤ 1099511627776 ∧ -1 ≤ h.dy ∧ h.dy < now / 86400000 ∧ 0 ≤ more ∧ 86400000 < more ∨
      ¬ h.st = 3 ∧ 0 ≤ h.sc ∧ h.sc ≤ 1099511627776 ∧ 0 ≤ now ∧ now ≤ 1099511627776 ∧ -1 ≤ h.dy ∧ h.dy < now / 86400000 ∧ 0 ≤ more ∧ more ≤ 86400000 ∧ ¬ now / 86400000 = (now + more) / 86400000) :
    Calls Try.prog 3 #[.agg #[.string h.a, .int .i64 h.sc, .int .i64 h.dy, .int .i64 h.td, .int .i64 h.st, .int .i64 h.nx, .int .i64 h.pr], .int .i64 now, .int .i64 more] w fun e w' => e = .returned (.bool true) ∧ Bel w w' := by
  rcases hh with h1 | ⟨h1, h2⟩ | ⟨h1, h2, h3⟩ | ⟨h1, h2, h3, h4⟩ | ⟨h1, h2, h3, h4, h5⟩ | ⟨h1, h2, h3, h4, h5, h6⟩ | ⟨h1, h2, h3, h4, h5, h6, h7⟩ | ⟨h1, h2, h3, h4, h5, h6, h7, h8⟩ | ⟨h1, h2, h3, h4, h5, h6, h7, h8, h9⟩ | ⟨h1, h2, h3, h4, h5, h6, h7, h8, h9, h10⟩
  all_goals
    try (have h1' : (h.st == 3) = false := by simp [h1])
    try (have h1'' : (h.st == 3) = true := by simp [h1])
    try clear h1
    try (have h10' : (now / 86400000 != (now + more) / 86400000) = true := by simp [h10])
    try clear h10
    go_enter Try.func3, Try.ntmps3
    go_wp2_with (go_at_call 7; refine (small_any _).mono ?_; rintro e w1 ⟨rfl, hb1⟩; have xc00 : w1.cell? ⟨w.heap.size, 0, none⟩ = some (.string h.a) := bget hb1 (by go_size) (by go_cell); have xf00 : w1.frozen? ⟨w.heap.size, 0, none⟩ = false := bfrz hb1 (by go_size) (by first | (with_reducible assumption) | (go_simp; done) | (simp [*]; done)); have xc01 : w1.cell? ⟨w.heap.size, 1, none⟩ = some (.int .i64 h.sc) := bget hb1 (by go_size) (by go_cell); have xf01 : w1.frozen? ⟨w.heap.size, 1, none⟩ = false := bfrz hb1 (by go_size) (by first | (with_reducible assumption) | (go_simp; done) | (simp [*]; done)); have xc02 : w1.cell? ⟨w.heap.size, 2, none⟩ = some (.int .i64 h.dy) := bget hb1 (by go_size) (by go_cell); have xf02 : w1.frozen? ⟨w.heap.size, 2, none⟩ = false := bfrz hb1 (by go_size) (by first | (with_reducible assumption) | (go_simp; done) | (simp [*]; done)); have xc03 : w1.cell? ⟨w.heap.size, 3, none⟩ = some (.int .i64 h.td) := bget hb1 (by go_size) (by go_cell); have xf03 : w1.frozen? ⟨w.heap.size, 3, none⟩ = false := bfrz hb1 (by go_size) (by first | (with_reducible assumption) | (go_simp; done) | (simp [*]; done)); have xc04 : w1.cell? ⟨w.heap.size, 4, none⟩ = some (.int .i64 h.st) := bget hb1 (by go_size) (by go_cell); have xf04 : w1.frozen? ⟨w.heap.size, 4, none⟩ = false := bfrz hb1 (by go_size) (by first | (with_reducible assumption) | (go_simp; done) | (simp [*]; done)); have xc05 : w1.cell? ⟨w.heap.size, 5, none⟩ = some (.int .i64 h.nx) := bget hb1 (by go_size) (by go_cell); have xf05 : w1.frozen? ⟨w.heap.size, 5, none⟩ = false := bfrz hb1 (by go_size) (by first | (with_reducible assumption) | (go_simp; done) | (simp [*]; done)); have xc06 : w1.cell? ⟨w.heap.size, 6, none⟩ = some (.int .i64 h.pr) := bget hb1 (by go_size) (by go_cell); have xf06 : w1.frozen? ⟨w.heap.size, 6, none⟩ = false := bfrz hb1 (by go_size) (by first | (with_reducible assumption) | (go_simp; done) | (simp [*]; done)); have xz0 : w.heap.size < w1.heap.size := bsize hb1 (by go_size))
    go_ret
    refine ⟨rfl, ?_⟩
    repeat (first | with_reducible exact Below.refl _ _ | with_reducible assumption | (with_reducible refine balloc ?_) | (with_reducible refine bdrew ?_) | (with_reducible refine bdrewN ?_) | (with_reducible refine bset ?_ (by first | omega | (simp; done) | (simp; omega))) | (with_reducible refine bnext ?_ (by assumption)))
set_option maxHeartbeats 2000000 in
theorem days_late (h : H) (now more : Int) (w : World) (h1 : ¬ h.st = 3) (h2 : 0 ≤ h.sc) (h3 : h.sc ≤ 1099511627776) (h4 : 0 ≤ now) (h5 : now ≤ 1099511627776) (h6 : -1 ≤ h.dy) (h7 : h.dy < now / 86400000) (h8 : 0 ≤ more) (h9 : more ≤ 86400000) (h10 : now / 86400000 = (now + more) / 86400000) :
    Calls Try.prog 3 #[.agg #[.string h.a, .int .i64 h.sc, .int .i64 h.dy, .int .i64 h.td, .int .i64 h.st, .int .i64 h.nx, .int .i64 h.pr], .int .i64 now, .int .i64 more] w fun e w' => e = .returned (.bool true) ∧ Bel w w' := by
  obtain ⟨r1, r2, r3, r4, r5, e1, e2, e3, e4, e5, k1, k2, k3, k4, f1, f2, f3, f4, f5, f6, f7⟩ := days_law h now more h1 h2 h3 h4 h5 h6 h7 h8 h9 h10
  replace e1 := Lib.hid e1
  replace e2 := Lib.hid e2
  replace e3 := Lib.hid e3
  replace e4 := Lib.hid e4
  replace e5 := Lib.hid e5
  replace k1 := Lib.hid k1
  replace k2 := Lib.hid k2
  replace k3 := Lib.hid k3
  replace k4 := Lib.hid k4
  have g1 : (r2.sc != r1.sc) = false := by simp [f1]
  have g2 : (r2.dy != r1.dy) = false := by simp [f2]
  have g3 : (r4.sc != r1.sc) = false := by simp [f3]
  have g4 : (r4.td != r1.td) = false := by simp [f4]
  have g5 : (r4.dy != r1.dy) = false := by simp [f5]
  have g6 : (r5.sc == 250) = true := by simp [f6]
  have g7 : (r5.dy == now / 86400000 + 9) = true := by simp [f7]
  have h1' : (h.st == 3) = false := by simp [h1]
  have h10' : (now / 86400000 != (now + more) / 86400000) = false := by simp [h10]
  clear f1 f2 f3 f4 f5 f6 f7 h1 h10
  go_enter Try.func3, Try.ntmps3
  go_wp2_with (go_at_call 7; refine (small_any _).mono ?_; rintro e w1 ⟨rfl, hb1⟩; have xc00 : w1.cell? ⟨w.heap.size, 0, none⟩ = some (.string h.a) := bget hb1 (by go_size) (by go_cell); have xf00 : w1.frozen? ⟨w.heap.size, 0, none⟩ = false := bfrz hb1 (by go_size) (by first | (with_reducible assumption) | (go_simp; done) | (simp [*]; done)); have xc01 : w1.cell? ⟨w.heap.size, 1, none⟩ = some (.int .i64 h.sc) := bget hb1 (by go_size) (by go_cell); have xf01 : w1.frozen? ⟨w.heap.size, 1, none⟩ = false := bfrz hb1 (by go_size) (by first | (with_reducible assumption) | (go_simp; done) | (simp [*]; done)); have xc02 : w1.cell? ⟨w.heap.size, 2, none⟩ = some (.int .i64 h.dy) := bget hb1 (by go_size) (by go_cell); have xf02 : w1.frozen? ⟨w.heap.size, 2, none⟩ = false := bfrz hb1 (by go_size) (by first | (with_reducible assumption) | (go_simp; done) | (simp [*]; done)); have xc03 : w1.cell? ⟨w.heap.size, 3, none⟩ = some (.int .i64 h.td) := bget hb1 (by go_size) (by go_cell); have xf03 : w1.frozen? ⟨w.heap.size, 3, none⟩ = false := bfrz hb1 (by go_size) (by first | (with_reducible assumption) | (go_simp; done) | (simp [*]; done)); have xc04 : w1.cell? ⟨w.heap.size, 4, none⟩ = some (.int .i64 h.st) := bget hb1 (by go_size) (by go_cell); have xf04 : w1.frozen? ⟨w.heap.size, 4, none⟩ = false := bfrz hb1 (by go_size) (by first | (with_reducible assumption) | (go_simp; done) | (simp [*]; done)); have xc05 : w1.cell? ⟨w.heap.size, 5, none⟩ = some (.int .i64 h.nx) := bget hb1 (by go_size) (by go_cell); have xf05 : w1.frozen? ⟨w.heap.size, 5, none⟩ = false := bfrz hb1 (by go_size) (by first | (with_reducible assumption) | (go_simp; done) | (simp [*]; done)); have xc06 : w1.cell? ⟨w.heap.size, 6, none⟩ = some (.int .i64 h.pr) := bget hb1 (by go_size) (by go_cell); have xf06 : w1.frozen? ⟨w.heap.size, 6, none⟩ = false := bfrz hb1 (by go_size) (by first | (with_reducible assumption) | (go_simp; done) | (simp [*]; done)); have xz0 : w.heap.size < w1.heap.size := bsize hb1 (by go_size))
  refine (Bounce_h h r1 now true _ k1.out e1.out).mono ?_
  rintro e w2 ⟨rfl, hb2⟩
  have y0c00 : w2.cell? ⟨w.heap.size, 0, none⟩ = some (.string h.a) := bget hb2 (by go_size) (by go_cell)
  have y0f00 : w2.frozen? ⟨w.heap.size, 0, none⟩ = false := bfrz hb2 (by go_size) (by first | (with_reducible assumption) | (go_simp; done) | (simp [*]; done))
  have y0c01 : w2.cell? ⟨w.heap.size, 1, none⟩ = some (.int .i64 h.sc) := bget hb2 (by go_size) (by go_cell)
  have y0f01 : w2.frozen? ⟨w.heap.size, 1, none⟩ = false := bfrz hb2 (by go_size) (by first | (with_reducible assumption) | (go_simp; done) | (simp [*]; done))
  have y0c02 : w2.cell? ⟨w.heap.size, 2, none⟩ = some (.int .i64 h.dy) := bget hb2 (by go_size) (by go_cell)
  have y0f02 : w2.frozen? ⟨w.heap.size, 2, none⟩ = false := bfrz hb2 (by go_size) (by first | (with_reducible assumption) | (go_simp; done) | (simp [*]; done))
  have y0c03 : w2.cell? ⟨w.heap.size, 3, none⟩ = some (.int .i64 h.td) := bget hb2 (by go_size) (by go_cell)
  have y0f03 : w2.frozen? ⟨w.heap.size, 3, none⟩ = false := bfrz hb2 (by go_size) (by first | (with_reducible assumption) | (go_simp; done) | (simp [*]; done))
  have y0c04 : w2.cell? ⟨w.heap.size, 4, none⟩ = some (.int .i64 h.st) := bget hb2 (by go_size) (by go_cell)
  have y0f04 : w2.frozen? ⟨w.heap.size, 4, none⟩ = false := bfrz hb2 (by go_size) (by first | (with_reducible assumption) | (go_simp; done) | (simp [*]; done))
  have y0c05 : w2.cell? ⟨w.heap.size, 5, none⟩ = some (.int .i64 h.nx) := bget hb2 (by go_size) (by go_cell)
  have y0f05 : w2.frozen? ⟨w.heap.size, 5, none⟩ = false := bfrz hb2 (by go_size) (by first | (with_reducible assumption) | (go_simp; done) | (simp [*]; done))
  have y0c06 : w2.cell? ⟨w.heap.size, 6, none⟩ = some (.int .i64 h.pr) := bget hb2 (by go_size) (by go_cell)
  have y0f06 : w2.frozen? ⟨w.heap.size, 6, none⟩ = false := bfrz hb2 (by go_size) (by first | (with_reducible assumption) | (go_simp; done) | (simp [*]; done))
  have y0z0 : w.heap.size < w2.heap.size := bsize hb2 (by go_size)
  go_wp2_with fail
  refine (Bounce_h h r1 now true _ k1.out e1.out).mono ?_
  rintro e w3 ⟨rfl, hb3⟩
  have z0c00 : w3.cell? ⟨w.heap.size, 0, none⟩ = some (.string h.a) := bget hb3 (by go_size) (by go_cell)
  have z0f00 : w3.frozen? ⟨w.heap.size, 0, none⟩ = false := bfrz hb3 (by go_size) (by first | (with_reducible assumption) | (go_simp; done) | (simp [*]; done))
  have z0c01 : w3.cell? ⟨w.heap.size, 1, none⟩ = some (.int .i64 h.sc) := bget hb3 (by go_size) (by go_cell)
  have z0f01 : w3.frozen? ⟨w.heap.size, 1, none⟩ = false := bfrz hb3 (by go_size) (by first | (with_reducible assumption) | (go_simp; done) | (simp [*]; done))
  have z0c02 : w3.cell? ⟨w.heap.size, 2, none⟩ = some (.int .i64 h.dy) := bget hb3 (by go_size) (by go_cell)
  have z0f02 : w3.frozen? ⟨w.heap.size, 2, none⟩ = false := bfrz hb3 (by go_size) (by first | (with_reducible assumption) | (go_simp; done) | (simp [*]; done))
  have z0c03 : w3.cell? ⟨w.heap.size, 3, none⟩ = some (.int .i64 h.td) := bget hb3 (by go_size) (by go_cell)
  have z0f03 : w3.frozen? ⟨w.heap.size, 3, none⟩ = false := bfrz hb3 (by go_size) (by first | (with_reducible assumption) | (go_simp; done) | (simp [*]; done))
  have z0c04 : w3.cell? ⟨w.heap.size, 4, none⟩ = some (.int .i64 h.st) := bget hb3 (by go_size) (by go_cell)
  have z0f04 : w3.frozen? ⟨w.heap.size, 4, none⟩ = false := bfrz hb3 (by go_size) (by first | (with_reducible assumption) | (go_simp; done) | (simp [*]; done))
  have z0c05 : w3.cell? ⟨w.heap.size, 5, none⟩ = some (.int .i64 h.nx) := bget hb3 (by go_size) (by go_cell)
  have z0f05 : w3.frozen? ⟨w.heap.size, 5, none⟩ = false := bfrz hb3 (by go_size) (by first | (with_reducible assumption) | (go_simp; done) | (simp [*]; done))
  have z0c06 : w3.cell? ⟨w.heap.size, 6, none⟩ = some (.int .i64 h.pr) := bget hb3 (by go_size) (by go_cell)
  have z0f06 : w3.frozen? ⟨w.heap.size, 6, none⟩ = false := bfrz hb3 (by go_size) (by first | (with_reducible assumption) | (go_simp; done) | (simp [*]; done))
  have z0z0 : w.heap.size < w3.heap.size := bsize hb3 (by go_size)
  have z1c00 : w3.cell? ⟨w2.heap.size, 0, none⟩ = some (.string r1.a) := bget hb3 (by go_size) (by go_cell)
  have z1f00 : w3.frozen? ⟨w2.heap.size, 0, none⟩ = false := bfrz hb3 (by go_size) (by first | (with_reducible assumption) | (go_simp; done) | (simp [*]; done))
  have z1c01 : w3.cell? ⟨w2.heap.size, 1, none⟩ = some (.int .i64 r1.sc) := bget hb3 (by go_size) (by go_cell)
  have z1f01 : w3.frozen? ⟨w2.heap.size, 1, none⟩ = false := bfrz hb3 (by go_size) (by first | (with_reducible assumption) | (go_simp; done) | (simp [*]; done))
  have z1c02 : w3.cell? ⟨w2.heap.size, 2, none⟩ = some (.int .i64 r1.dy) := bget hb3 (by go_size) (by go_cell)
  have z1f02 : w3.frozen? ⟨w2.heap.size, 2, none⟩ = false := bfrz hb3 (by go_size) (by first | (with_reducible assumption) | (go_simp; done) | (simp [*]; done))
  have z1c03 : w3.cell? ⟨w2.heap.size, 3, none⟩ = some (.int .i64 r1.td) := bget hb3 (by go_size) (by go_cell)
  have z1f03 : w3.frozen? ⟨w2.heap.size, 3, none⟩ = false := bfrz hb3 (by go_size) (by first | (with_reducible assumption) | (go_simp; done) | (simp [*]; done))
  have z1c04 : w3.cell? ⟨w2.heap.size, 4, none⟩ = some (.int .i64 r1.st) := bget hb3 (by go_size) (by go_cell)
  have z1f04 : w3.frozen? ⟨w2.heap.size, 4, none⟩ = false := bfrz hb3 (by go_size) (by first | (with_reducible assumption) | (go_simp; done) | (simp [*]; done))
  have z1c05 : w3.cell? ⟨w2.heap.size, 5, none⟩ = some (.int .i64 r1.nx) := bget hb3 (by go_size) (by go_cell)
  have z1f05 : w3.frozen? ⟨w2.heap.size, 5, none⟩ = false := bfrz hb3 (by go_size) (by first | (with_reducible assumption) | (go_simp; done) | (simp [*]; done))
  have z1c06 : w3.cell? ⟨w2.heap.size, 6, none⟩ = some (.int .i64 r1.pr) := bget hb3 (by go_size) (by go_cell)
  have z1f06 : w3.frozen? ⟨w2.heap.size, 6, none⟩ = false := bfrz hb3 (by go_size) (by first | (with_reducible assumption) | (go_simp; done) | (simp [*]; done))
  have z1z0 : w2.heap.size < w3.heap.size := bsize hb3 (by go_size)
  go_wp2_with fail
  refine (Bounce_h r1 r2 (now + more) false _ k2.out e2.out).mono ?_
  rintro e w4 ⟨rfl, hb4⟩
  have u0c00 : w4.cell? ⟨w.heap.size, 0, none⟩ = some (.string h.a) := bget hb4 (by go_size) (by go_cell)
  have u0f00 : w4.frozen? ⟨w.heap.size, 0, none⟩ = false := bfrz hb4 (by go_size) (by first | (with_reducible assumption) | (go_simp; done) | (simp [*]; done))
  have u0c01 : w4.cell? ⟨w.heap.size, 1, none⟩ = some (.int .i64 h.sc) := bget hb4 (by go_size) (by go_cell)
  have u0f01 : w4.frozen? ⟨w.heap.size, 1, none⟩ = false := bfrz hb4 (by go_size) (by first | (with_reducible assumption) | (go_simp; done) | (simp [*]; done))
  have u0c02 : w4.cell? ⟨w.heap.size, 2, none⟩ = some (.int .i64 h.dy) := bget hb4 (by go_size) (by go_cell)
  have u0f02 : w4.frozen? ⟨w.heap.size, 2, none⟩ = false := bfrz hb4 (by go_size) (by first | (with_reducible assumption) | (go_simp; done) | (simp [*]; done))
  have u0c03 : w4.cell? ⟨w.heap.size, 3, none⟩ = some (.int .i64 h.td) := bget hb4 (by go_size) (by go_cell)
  have u0f03 : w4.frozen? ⟨w.heap.size, 3, none⟩ = false := bfrz hb4 (by go_size) (by first | (with_reducible assumption) | (go_simp; done) | (simp [*]; done))
  have u0c04 : w4.cell? ⟨w.heap.size, 4, none⟩ = some (.int .i64 h.st) := bget hb4 (by go_size) (by go_cell)
  have u0f04 : w4.frozen? ⟨w.heap.size, 4, none⟩ = false := bfrz hb4 (by go_size) (by first | (with_reducible assumption) | (go_simp; done) | (simp [*]; done))
  have u0c05 : w4.cell? ⟨w.heap.size, 5, none⟩ = some (.int .i64 h.nx) := bget hb4 (by go_size) (by go_cell)
  have u0f05 : w4.frozen? ⟨w.heap.size, 5, none⟩ = false := bfrz hb4 (by go_size) (by first | (with_reducible assumption) | (go_simp; done) | (simp [*]; done))
  have u0c06 : w4.cell? ⟨w.heap.size, 6, none⟩ = some (.int .i64 h.pr) := bget hb4 (by go_size) (by go_cell)
  have u0f06 : w4.frozen? ⟨w.heap.size, 6, none⟩ = false := bfrz hb4 (by go_size) (by first | (with_reducible assumption) | (go_simp; done) | (simp [*]; done))
  have u0z0 : w.heap.size < w4.heap.size := bsize hb4 (by go_size)
  have u1c00 : w4.cell? ⟨w2.heap.size, 0, none⟩ = some (.string r1.a) := bget hb4 (by go_size) (by go_cell)
  have u1f00 : w4.frozen? ⟨w2.heap.size, 0, none⟩ = false := bfrz hb4 (by go_size) (by first | (with_reducible assumption) | (go_simp; done) | (simp [*]; done))
  have u1c01 : w4.cell? ⟨w2.heap.size, 1, none⟩ = some (.int .i64 r1.sc) := bget hb4 (by go_size) (by go_cell)
  have u1f01 : w4.frozen? ⟨w2.heap.size, 1, none⟩ = false := bfrz hb4 (by go_size) (by first | (with_reducible assumption) | (go_simp; done) | (simp [*]; done))
  have u1c02 : w4.cell? ⟨w2.heap.size, 2, none⟩ = some (.int .i64 r1.dy) := bget hb4 (by go_size) (by go_cell)
  have u1f02 : w4.frozen? ⟨w2.heap.size, 2, none⟩ = false := bfrz hb4 (by go_size) (by first | (with_reducible assumption) | (go_simp; done) | (simp [*]; done))
  have u1c03 : w4.cell? ⟨w2.heap.size, 3, none⟩ = some (.int .i64 r1.td) := bget hb4 (by go_size) (by go_cell)
  have u1f03 : w4.frozen? ⟨w2.heap.size, 3, none⟩ = false := bfrz hb4 (by go_size) (by first | (with_reducible assumption) | (go_simp; done) | (simp [*]; done))
  have u1c04 : w4.cell? ⟨w2.heap.size, 4, none⟩ = some (.int .i64 r1.st) := bget hb4 (by go_size) (by go_cell)
  have u1f04 : w4.frozen? ⟨w2.heap.size, 4, none⟩ = false := bfrz hb4 (by go_size) (by first | (with_reducible assumption) | (go_simp; done) | (simp [*]; done))
  have u1c05 : w4.cell? ⟨w2.heap.size, 5, none⟩ = some (.int .i64 r1.nx) := bget hb4 (by go_size) (by go_cell)
  have u1f05 : w4.frozen? ⟨w2.heap.size, 5, none⟩ = false := bfrz hb4 (by go_size) (by first | (with_reducible assumption) | (go_simp; done) | (simp [*]; done))
  have u1c06 : w4.cell? ⟨w2.heap.size, 6, none⟩ = some (.int .i64 r1.pr) := bget hb4 (by go_size) (by go_cell)
  have u1f06 : w4.frozen? ⟨w2.heap.size, 6, none⟩ = false := bfrz hb4 (by go_size) (by first | (with_reducible assumption) | (go_simp; done) | (simp [*]; done))
  have u1z0 : w2.heap.size < w4.heap.size := bsize hb4 (by go_size)
  go_wp2_with fail
  refine (Bounce_h h r3 now false _ k1.out e3.out).mono ?_
  rintro e w5 ⟨rfl, hb5⟩
  have p0c00 : w5.cell? ⟨w.heap.size, 0, none⟩ = some (.string h.a) := bget hb5 (by go_size) (by go_cell)
  have p0f00 : w5.frozen? ⟨w.heap.size, 0, none⟩ = false := bfrz hb5 (by go_size) (by first | (with_reducible assumption) | (go_simp; done) | (simp [*]; done))
  have p0c01 : w5.cell? ⟨w.heap.size, 1, none⟩ = some (.int .i64 h.sc) := bget hb5 (by go_size) (by go_cell)
  have p0f01 : w5.frozen? ⟨w.heap.size, 1, none⟩ = false := bfrz hb5 (by go_size) (by first | (with_reducible assumption) | (go_simp; done) | (simp [*]; done))
  have p0c02 : w5.cell? ⟨w.heap.size, 2, none⟩ = some (.int .i64 h.dy) := bget hb5 (by go_size) (by go_cell)
  have p0f02 : w5.frozen? ⟨w.heap.size, 2, none⟩ = false := bfrz hb5 (by go_size) (by first | (with_reducible assumption) | (go_simp; done) | (simp [*]; done))
  have p0c03 : w5.cell? ⟨w.heap.size, 3, none⟩ = some (.int .i64 h.td) := bget hb5 (by go_size) (by go_cell)
  have p0f03 : w5.frozen? ⟨w.heap.size, 3, none⟩ = false := bfrz hb5 (by go_size) (by first | (with_reducible assumption) | (go_simp; done) | (simp [*]; done))
  have p0c04 : w5.cell? ⟨w.heap.size, 4, none⟩ = some (.int .i64 h.st) := bget hb5 (by go_size) (by go_cell)
  have p0f04 : w5.frozen? ⟨w.heap.size, 4, none⟩ = false := bfrz hb5 (by go_size) (by first | (with_reducible assumption) | (go_simp; done) | (simp [*]; done))
  have p0c05 : w5.cell? ⟨w.heap.size, 5, none⟩ = some (.int .i64 h.nx) := bget hb5 (by go_size) (by go_cell)
  have p0f05 : w5.frozen? ⟨w.heap.size, 5, none⟩ = false := bfrz hb5 (by go_size) (by first | (with_reducible assumption) | (go_simp; done) | (simp [*]; done))
  have p0c06 : w5.cell? ⟨w.heap.size, 6, none⟩ = some (.int .i64 h.pr) := bget hb5 (by go_size) (by go_cell)
  have p0f06 : w5.frozen? ⟨w.heap.size, 6, none⟩ = false := bfrz hb5 (by go_size) (by first | (with_reducible assumption) | (go_simp; done) | (simp [*]; done))
  have p0z0 : w.heap.size < w5.heap.size := bsize hb5 (by go_size)
  have p1c00 : w5.cell? ⟨w2.heap.size, 0, none⟩ = some (.string r1.a) := bget hb5 (by go_size) (by go_cell)
  have p1f00 : w5.frozen? ⟨w2.heap.size, 0, none⟩ = false := bfrz hb5 (by go_size) (by first | (with_reducible assumption) | (go_simp; done) | (simp [*]; done))
  have p1c01 : w5.cell? ⟨w2.heap.size, 1, none⟩ = some (.int .i64 r1.sc) := bget hb5 (by go_size) (by go_cell)
  have p1f01 : w5.frozen? ⟨w2.heap.size, 1, none⟩ = false := bfrz hb5 (by go_size) (by first | (with_reducible assumption) | (go_simp; done) | (simp [*]; done))
  have p1c02 : w5.cell? ⟨w2.heap.size, 2, none⟩ = some (.int .i64 r1.dy) := bget hb5 (by go_size) (by go_cell)
  have p1f02 : w5.frozen? ⟨w2.heap.size, 2, none⟩ = false := bfrz hb5 (by go_size) (by first | (with_reducible assumption) | (go_simp; done) | (simp [*]; done))
  have p1c03 : w5.cell? ⟨w2.heap.size, 3, none⟩ = some (.int .i64 r1.td) := bget hb5 (by go_size) (by go_cell)
  have p1f03 : w5.frozen? ⟨w2.heap.size, 3, none⟩ = false := bfrz hb5 (by go_size) (by first | (with_reducible assumption) | (go_simp; done) | (simp [*]; done))
  have p1c04 : w5.cell? ⟨w2.heap.size, 4, none⟩ = some (.int .i64 r1.st) := bget hb5 (by go_size) (by go_cell)
  have p1f04 : w5.frozen? ⟨w2.heap.size, 4, none⟩ = false := bfrz hb5 (by go_size) (by first | (with_reducible assumption) | (go_simp; done) | (simp [*]; done))
  have p1c05 : w5.cell? ⟨w2.heap.size, 5, none⟩ = some (.int .i64 r1.nx) := bget hb5 (by go_size) (by go_cell)
  have p1f05 : w5.frozen? ⟨w2.heap.size, 5, none⟩ = false := bfrz hb5 (by go_size) (by first | (with_reducible assumption) | (go_simp; done) | (simp [*]; done))
  have p1c06 : w5.cell? ⟨w2.heap.size, 6, none⟩ = some (.int .i64 r1.pr) := bget hb5 (by go_size) (by go_cell)
  have p1f06 : w5.frozen? ⟨w2.heap.size, 6, none⟩ = false := bfrz hb5 (by go_size) (by first | (with_reducible assumption) | (go_simp; done) | (simp [*]; done))
  have p1z0 : w2.heap.size < w5.heap.size := bsize hb5 (by go_size)
  have p2c00 : w5.cell? ⟨w4.heap.size, 0, none⟩ = some (.string r2.a) := bget hb5 (by go_size) (by go_cell)
  have p2f00 : w5.frozen? ⟨w4.heap.size, 0, none⟩ = false := bfrz hb5 (by go_size) (by first | (with_reducible assumption) | (go_simp; done) | (simp [*]; done))
  have p2c01 : w5.cell? ⟨w4.heap.size, 1, none⟩ = some (.int .i64 r2.sc) := bget hb5 (by go_size) (by go_cell)
  have p2f01 : w5.frozen? ⟨w4.heap.size, 1, none⟩ = false := bfrz hb5 (by go_size) (by first | (with_reducible assumption) | (go_simp; done) | (simp [*]; done))
  have p2c02 : w5.cell? ⟨w4.heap.size, 2, none⟩ = some (.int .i64 r2.dy) := bget hb5 (by go_size) (by go_cell)
  have p2f02 : w5.frozen? ⟨w4.heap.size, 2, none⟩ = false := bfrz hb5 (by go_size) (by first | (with_reducible assumption) | (go_simp; done) | (simp [*]; done))
  have p2c03 : w5.cell? ⟨w4.heap.size, 3, none⟩ = some (.int .i64 r2.td) := bget hb5 (by go_size) (by go_cell)
  have p2f03 : w5.frozen? ⟨w4.heap.size, 3, none⟩ = false := bfrz hb5 (by go_size) (by first | (with_reducible assumption) | (go_simp; done) | (simp [*]; done))
  have p2c04 : w5.cell? ⟨w4.heap.size, 4, none⟩ = some (.int .i64 r2.st) := bget hb5 (by go_size) (by go_cell)
  have p2f04 : w5.frozen? ⟨w4.heap.size, 4, none⟩ = false := bfrz hb5 (by go_size) (by first | (with_reducible assumption) | (go_simp; done) | (simp [*]; done))
  have p2c05 : w5.cell? ⟨w4.heap.size, 5, none⟩ = some (.int .i64 r2.nx) := bget hb5 (by go_size) (by go_cell)
  have p2f05 : w5.frozen? ⟨w4.heap.size, 5, none⟩ = false := bfrz hb5 (by go_size) (by first | (with_reducible assumption) | (go_simp; done) | (simp [*]; done))
  have p2c06 : w5.cell? ⟨w4.heap.size, 6, none⟩ = some (.int .i64 r2.pr) := bget hb5 (by go_size) (by go_cell)
  have p2f06 : w5.frozen? ⟨w4.heap.size, 6, none⟩ = false := bfrz hb5 (by go_size) (by first | (with_reducible assumption) | (go_simp; done) | (simp [*]; done))
  have p2z0 : w4.heap.size < w5.heap.size := bsize hb5 (by go_size)
  go_wp2_with fail
  refine (Bounce_h r3 r4 (now + more) true _ k3.out e4.out).mono ?_
  rintro e w6 ⟨rfl, hb6⟩
  have q0c00 : w6.cell? ⟨w.heap.size, 0, none⟩ = some (.string h.a) := bget hb6 (by go_size) (by go_cell)
  have q0f00 : w6.frozen? ⟨w.heap.size, 0, none⟩ = false := bfrz hb6 (by go_size) (by first | (with_reducible assumption) | (go_simp; done) | (simp [*]; done))
  have q0c01 : w6.cell? ⟨w.heap.size, 1, none⟩ = some (.int .i64 h.sc) := bget hb6 (by go_size) (by go_cell)
  have q0f01 : w6.frozen? ⟨w.heap.size, 1, none⟩ = false := bfrz hb6 (by go_size) (by first | (with_reducible assumption) | (go_simp; done) | (simp [*]; done))
  have q0c02 : w6.cell? ⟨w.heap.size, 2, none⟩ = some (.int .i64 h.dy) := bget hb6 (by go_size) (by go_cell)
  have q0f02 : w6.frozen? ⟨w.heap.size, 2, none⟩ = false := bfrz hb6 (by go_size) (by first | (with_reducible assumption) | (go_simp; done) | (simp [*]; done))
  have q0c03 : w6.cell? ⟨w.heap.size, 3, none⟩ = some (.int .i64 h.td) := bget hb6 (by go_size) (by go_cell)
  have q0f03 : w6.frozen? ⟨w.heap.size, 3, none⟩ = false := bfrz hb6 (by go_size) (by first | (with_reducible assumption) | (go_simp; done) | (simp [*]; done))
  have q0c04 : w6.cell? ⟨w.heap.size, 4, none⟩ = some (.int .i64 h.st) := bget hb6 (by go_size) (by go_cell)
  have q0f04 : w6.frozen? ⟨w.heap.size, 4, none⟩ = false := bfrz hb6 (by go_size) (by first | (with_reducible assumption) | (go_simp; done) | (simp [*]; done))
  have q0c05 : w6.cell? ⟨w.heap.size, 5, none⟩ = some (.int .i64 h.nx) := bget hb6 (by go_size) (by go_cell)
  have q0f05 : w6.frozen? ⟨w.heap.size, 5, none⟩ = false := bfrz hb6 (by go_size) (by first | (with_reducible assumption) | (go_simp; done) | (simp [*]; done))
  have q0c06 : w6.cell? ⟨w.heap.size, 6, none⟩ = some (.int .i64 h.pr) := bget hb6 (by go_size) (by go_cell)
  have q0f06 : w6.frozen? ⟨w.heap.size, 6, none⟩ = false := bfrz hb6 (by go_size) (by first | (with_reducible assumption) | (go_simp; done) | (simp [*]; done))
  have q0z0 : w.heap.size < w6.heap.size := bsize hb6 (by go_size)
  have q1c00 : w6.cell? ⟨w2.heap.size, 0, none⟩ = some (.string r1.a) := bget hb6 (by go_size) (by go_cell)
  have q1f00 : w6.frozen? ⟨w2.heap.size, 0, none⟩ = false := bfrz hb6 (by go_size) (by first | (with_reducible assumption) | (go_simp; done) | (simp [*]; done))
  have q1c01 : w6.cell? ⟨w2.heap.size, 1, none⟩ = some (.int .i64 r1.sc) := bget hb6 (by go_size) (by go_cell)
  have q1f01 : w6.frozen? ⟨w2.heap.size, 1, none⟩ = false := bfrz hb6 (by go_size) (by first | (with_reducible assumption) | (go_simp; done) | (simp [*]; done))
  have q1c02 : w6.cell? ⟨w2.heap.size, 2, none⟩ = some (.int .i64 r1.dy) := bget hb6 (by go_size) (by go_cell)
  have q1f02 : w6.frozen? ⟨w2.heap.size, 2, none⟩ = false := bfrz hb6 (by go_size) (by first | (with_reducible assumption) | (go_simp; done) | (simp [*]; done))
  have q1c03 : w6.cell? ⟨w2.heap.size, 3, none⟩ = some (.int .i64 r1.td) := bget hb6 (by go_size) (by go_cell)
  have q1f03 : w6.frozen? ⟨w2.heap.size, 3, none⟩ = false := bfrz hb6 (by go_size) (by first | (with_reducible assumption) | (go_simp; done) | (simp [*]; done))
  have q1c04 : w6.cell? ⟨w2.heap.size, 4, none⟩ = some (.int .i64 r1.st) := bget hb6 (by go_size) (by go_cell)
  have q1f04 : w6.frozen? ⟨w2.heap.size, 4, none⟩ = false := bfrz hb6 (by go_size) (by first | (with_reducible assumption) | (go_simp; done) | (simp [*]; done))
  have q1c05 : w6.cell? ⟨w2.heap.size, 5, none⟩ = some (.int .i64 r1.nx) := bget hb6 (by go_size) (by go_cell)
  have q1f05 : w6.frozen? ⟨w2.heap.size, 5, none⟩ = false := bfrz hb6 (by go_size) (by first | (with_reducible assumption) | (go_simp; done) | (simp [*]; done))
  have q1c06 : w6.cell? ⟨w2.heap.size, 6, none⟩ = some (.int .i64 r1.pr) := bget hb6 (by go_size) (by go_cell)
  have q1f06 : w6.frozen? ⟨w2.heap.size, 6, none⟩ = false := bfrz hb6 (by go_size) (by first | (with_reducible assumption) | (go_simp; done) | (simp [*]; done))
  have q1z0 : w2.heap.size < w6.heap.size := bsize hb6 (by go_size)
  have q2c00 : w6.cell? ⟨w4.heap.size, 0, none⟩ = some (.string r2.a) := bget hb6 (by go_size) (by go_cell)
  have q2f00 : w6.frozen? ⟨w4.heap.size, 0, none⟩ = false := bfrz hb6 (by go_size) (by first | (with_reducible assumption) | (go_simp; done) | (simp [*]; done))
  have q2c01 : w6.cell? ⟨w4.heap.size, 1, none⟩ = some (.int .i64 r2.sc) := bget hb6 (by go_size) (by go_cell)
  have q2f01 : w6.frozen? ⟨w4.heap.size, 1, none⟩ = false := bfrz hb6 (by go_size) (by first | (with_reducible assumption) | (go_simp; done) | (simp [*]; done))
  have q2c02 : w6.cell? ⟨w4.heap.size, 2, none⟩ = some (.int .i64 r2.dy) := bget hb6 (by go_size) (by go_cell)
  have q2f02 : w6.frozen? ⟨w4.heap.size, 2, none⟩ = false := bfrz hb6 (by go_size) (by first | (with_reducible assumption) | (go_simp; done) | (simp [*]; done))
  have q2c03 : w6.cell? ⟨w4.heap.size, 3, none⟩ = some (.int .i64 r2.td) := bget hb6 (by go_size) (by go_cell)
  have q2f03 : w6.frozen? ⟨w4.heap.size, 3, none⟩ = false := bfrz hb6 (by go_size) (by first | (with_reducible assumption) | (go_simp; done) | (simp [*]; done))
  have q2c04 : w6.cell? ⟨w4.heap.size, 4, none⟩ = some (.int .i64 r2.st) := bget hb6 (by go_size) (by go_cell)
  have q2f04 : w6.frozen? ⟨w4.heap.size, 4, none⟩ = false := bfrz hb6 (by go_size) (by first | (with_reducible assumption) | (go_simp; done) | (simp [*]; done))
  have q2c05 : w6.cell? ⟨w4.heap.size, 5, none⟩ = some (.int .i64 r2.nx) := bget hb6 (by go_size) (by go_cell)
  have q2f05 : w6.frozen? ⟨w4.heap.size, 5, none⟩ = false := bfrz hb6 (by go_size) (by first | (with_reducible assumption) | (go_simp; done) | (simp [*]; done))
  have q2c06 : w6.cell? ⟨w4.heap.size, 6, none⟩ = some (.int .i64 r2.pr) := bget hb6 (by go_size) (by go_cell)
  have q2f06 : w6.frozen? ⟨w4.heap.size, 6, none⟩ = false := bfrz hb6 (by go_size) (by first | (with_reducible assumption) | (go_simp; done) | (simp [*]; done))
  have q2z0 : w4.heap.size < w6.heap.size := bsize hb6 (by go_size)
  go_wp2_with fail
  refine (Bounce_h r1 r5 (now + 777600000) false _ k4.out e5.out).mono ?_
  rintro e w7 ⟨rfl, hb7⟩
  go_wp2_with fail
  go_ret
  refine ⟨rfl, ?_⟩
  repeat (first | with_reducible exact Below.refl _ _ | with_reducible assumption | (with_reducible refine balloc ?_) | (with_reducible refine bdrew ?_) | (with_reducible refine bdrewN ?_) | (with_reducible refine bset ?_ (by first | omega | (simp; done) | (simp; omega))) | (with_reducible refine bnext ?_ (by assumption)))
theorem days_walk (h : H) (now more : Int) (w : World) :
    Calls Try.prog 3 #[.agg #[.string h.a, .int .i64 h.sc, .int .i64 h.dy, .int .i64 h.td, .int .i64 h.st, .int .i64 h.nx, .int .i64 h.pr], .int .i64 now, .int .i64 more] w fun e w' => e = .returned (.bool true) ∧ Bel w w' := by
  by_cases c1 : h.st = 3
  · exact days_early h now more w (.inl c1)
  by_cases c2 : h.sc < 0
  · exact days_early h now more w (.inr (.inl ⟨c1, c2⟩))
  by_cases c3 : 1099511627776 < h.sc
  · exact days_early h now more w (.inr (.inr (.inl ⟨c1, (by omega), c3⟩)))
  by_cases c4 : now < 0
  · exact days_early h now more w (.inr (.inr (.inr (.inl ⟨c1, (by omega), (by omega), c4⟩))))
  by_cases c5 : 1099511627776 < now
  · exact days_early h now more w (.inr (.inr (.inr (.inr (.inl ⟨c1, (by omega), (by omega), (by omega), c5⟩)))))
  by_cases c6 : h.dy < -1
  · exact days_early h now more w (.inr (.inr (.inr (.inr (.inr (.inl ⟨c1, (by omega), (by omega), (by omega), (by omega), c6⟩))))))
  by_cases c7 : now / 86400000 ≤ h.dy
  · exact days_early h now more w (.inr (.inr (.inr (.inr (.inr (.inr (.inl ⟨c1, (by omega), (by omega), (by omega), (by omega), (by omega), c7⟩)))))))
  by_cases c8 : more < 0
  · exact days_early h now more w (.inr (.inr (.inr (.inr (.inr (.inr (.inr (.inl ⟨c1, (by omega), (by omega), (by omega), (by omega), (by omega), (by omega), c8⟩))))))))
  by_cases c9 : 86400000 < more
  · exact days_early h now more w (.inr (.inr (.inr (.inr (.inr (.inr (.inr (.inr (.inl ⟨c1, (by omega), (by omega), (by omega), (by omega), (by omega), (by omega), (by omega), c9⟩)))))))))
  by_cases c10 : now / 86400000 = (now + more) / 86400000
  · exact days_late h now more w c1 (by omega) (by omega) (by omega) (by omega) (by omega) (by omega) (by omega) (by omega) c10
  · exact days_early h now more w (.inr (.inr (.inr (.inr (.inr (.inr (.inr (.inr (.inr ⟨c1, (by omega), (by omega), (by omega), (by omega), (by omega), (by omega), (by omega), (by omega), c10⟩)))))))))
end Go.Proofs.Ytnbfmmnbjjeecac
