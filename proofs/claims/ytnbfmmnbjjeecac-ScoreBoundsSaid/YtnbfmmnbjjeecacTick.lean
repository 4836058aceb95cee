/- package score: Tick over a structure. -/
import Derived.Test.YtnbfmmnbjjeecacDown
import Derived.Test.YtnbfmmnbjjeecacTail
namespace Go.Proofs.Ytnbfmmnbjjeecac
open Go.RowKit
set_option linter.unusedVariables false
set_option maxHeartbeats 1000000 in
theorem Tick_a (h : H) (now : Int) (w : World) (h1 : now ≤ 1125899906842624) (h0 : 0 ≤ now) (c1 : h.nx ≤ now) (c2 : (h.st == 1) = true) :
    Calls Try.prog 16 #[.agg #[.string h.a, .int .i64 h.sc, .int .i64 h.dy, .int .i64 h.td, .int .i64 h.st, .int .i64 h.nx, .int .i64 h.pr], .int .i64 now] w fun e w' => e = .returned (.tuple #[.agg #[.string h.a, .int .i64 h.sc, .int .i64 h.dy, .int .i64 h.td, .int .i64 2, .int .i64 (now + 604800000), .int .i64 h.pr], .bool true]) ∧ Bel w w' := by
  go_enter Try.func16, Try.ntmps16
  go_wp2_with fail
  refine wp_named fun W hW => ?_
  have nc00 : W.cell? ⟨w.heap.size, 0, none⟩ = some (.string h.a) := by rw [← hW]; clear hW; go_cell
  have nf00 : W.frozen? ⟨w.heap.size, 0, none⟩ = false := by rw [← hW]; clear hW; first | (with_reducible assumption) | (go_simp; done) | (simp [*]; done)
  have nc01 : W.cell? ⟨w.heap.size, 1, none⟩ = some (.int .i64 h.sc) := by rw [← hW]; clear hW; go_cell
  have nf01 : W.frozen? ⟨w.heap.size, 1, none⟩ = false := by rw [← hW]; clear hW; first | (with_reducible assumption) | (go_simp; done) | (simp [*]; done)
  have nc02 : W.cell? ⟨w.heap.size, 2, none⟩ = some (.int .i64 h.dy) := by rw [← hW]; clear hW; go_cell
  have nf02 : W.frozen? ⟨w.heap.size, 2, none⟩ = false := by rw [← hW]; clear hW; first | (with_reducible assumption) | (go_simp; done) | (simp [*]; done)
  have nc03 : W.cell? ⟨w.heap.size, 3, none⟩ = some (.int .i64 h.td) := by rw [← hW]; clear hW; go_cell
  have nf03 : W.frozen? ⟨w.heap.size, 3, none⟩ = false := by rw [← hW]; clear hW; first | (with_reducible assumption) | (go_simp; done) | (simp [*]; done)
  have nc04 : W.cell? ⟨w.heap.size, 4, none⟩ = some (.int .i64 2) := by rw [← hW]; clear hW; go_cell
  have nf04 : W.frozen? ⟨w.heap.size, 4, none⟩ = false := by rw [← hW]; clear hW; first | (with_reducible assumption) | (go_simp; done) | (simp [*]; done)
  have nc05 : W.cell? ⟨w.heap.size, 5, none⟩ = some (.int .i64 (now + 604800000)) := by rw [← hW]; clear hW; go_cell
  have nf05 : W.frozen? ⟨w.heap.size, 5, none⟩ = false := by rw [← hW]; clear hW; first | (with_reducible assumption) | (go_simp; done) | (simp [*]; done)
  have nc06 : W.cell? ⟨w.heap.size, 6, none⟩ = some (.int .i64 h.pr) := by rw [← hW]; clear hW; go_cell
  have nf06 : W.frozen? ⟨w.heap.size, 6, none⟩ = false := by rw [← hW]; clear hW; first | (with_reducible assumption) | (go_simp; done) | (simp [*]; done)
  have nc10 : W.cell? ⟨w.heap.size + 1, 0, none⟩ = some (.string { data := #[] }) := by rw [← hW]; clear hW; go_cell
  have nf10 : W.frozen? ⟨w.heap.size + 1, 0, none⟩ = false := by rw [← hW]; clear hW; first | (with_reducible assumption) | (go_simp; done) | (simp [*]; done)
  have nc11 : W.cell? ⟨w.heap.size + 1, 1, none⟩ = some (.int .i64 0) := by rw [← hW]; clear hW; go_cell
  have nf11 : W.frozen? ⟨w.heap.size + 1, 1, none⟩ = false := by rw [← hW]; clear hW; first | (with_reducible assumption) | (go_simp; done) | (simp [*]; done)
  have nc12 : W.cell? ⟨w.heap.size + 1, 2, none⟩ = some (.int .i64 0) := by rw [← hW]; clear hW; go_cell
  have nf12 : W.frozen? ⟨w.heap.size + 1, 2, none⟩ = false := by rw [← hW]; clear hW; first | (with_reducible assumption) | (go_simp; done) | (simp [*]; done)
  have nc13 : W.cell? ⟨w.heap.size + 1, 3, none⟩ = some (.int .i64 0) := by rw [← hW]; clear hW; go_cell
  have nf13 : W.frozen? ⟨w.heap.size + 1, 3, none⟩ = false := by rw [← hW]; clear hW; first | (with_reducible assumption) | (go_simp; done) | (simp [*]; done)
  have nc14 : W.cell? ⟨w.heap.size + 1, 4, none⟩ = some (.int .i64 0) := by rw [← hW]; clear hW; go_cell
  have nf14 : W.frozen? ⟨w.heap.size + 1, 4, none⟩ = false := by rw [← hW]; clear hW; first | (with_reducible assumption) | (go_simp; done) | (simp [*]; done)
  have nc15 : W.cell? ⟨w.heap.size + 1, 5, none⟩ = some (.int .i64 0) := by rw [← hW]; clear hW; go_cell
  have nf15 : W.frozen? ⟨w.heap.size + 1, 5, none⟩ = false := by rw [← hW]; clear hW; first | (with_reducible assumption) | (go_simp; done) | (simp [*]; done)
  have nc16 : W.cell? ⟨w.heap.size + 1, 6, none⟩ = some (.int .i64 0) := by rw [← hW]; clear hW; go_cell
  have nf16 : W.frozen? ⟨w.heap.size + 1, 6, none⟩ = false := by rw [← hW]; clear hW; first | (with_reducible assumption) | (go_simp; done) | (simp [*]; done)
  have nc20 : W.cell? ⟨w.heap.size + 2, 0, none⟩ = some (.string h.a) := by rw [← hW]; clear hW; go_cell
  have nf20 : W.frozen? ⟨w.heap.size + 2, 0, none⟩ = false := by rw [← hW]; clear hW; first | (with_reducible assumption) | (go_simp; done) | (simp [*]; done)
  have nc21 : W.cell? ⟨w.heap.size + 2, 1, none⟩ = some (.int .i64 h.sc) := by rw [← hW]; clear hW; go_cell
  have nf21 : W.frozen? ⟨w.heap.size + 2, 1, none⟩ = false := by rw [← hW]; clear hW; first | (with_reducible assumption) | (go_simp; done) | (simp [*]; done)
  have nc22 : W.cell? ⟨w.heap.size + 2, 2, none⟩ = some (.int .i64 h.dy) := by rw [← hW]; clear hW; go_cell
  have nf22 : W.frozen? ⟨w.heap.size + 2, 2, none⟩ = false := by rw [← hW]; clear hW; first | (with_reducible assumption) | (go_simp; done) | (simp [*]; done)
  have nc23 : W.cell? ⟨w.heap.size + 2, 3, none⟩ = some (.int .i64 h.td) := by rw [← hW]; clear hW; go_cell
  have nf23 : W.frozen? ⟨w.heap.size + 2, 3, none⟩ = false := by rw [← hW]; clear hW; first | (with_reducible assumption) | (go_simp; done) | (simp [*]; done)
  have nc24 : W.cell? ⟨w.heap.size + 2, 4, none⟩ = some (.int .i64 h.st) := by rw [← hW]; clear hW; go_cell
  have nf24 : W.frozen? ⟨w.heap.size + 2, 4, none⟩ = false := by rw [← hW]; clear hW; first | (with_reducible assumption) | (go_simp; done) | (simp [*]; done)
  have nc25 : W.cell? ⟨w.heap.size + 2, 5, none⟩ = some (.int .i64 h.nx) := by rw [← hW]; clear hW; go_cell
  have nf25 : W.frozen? ⟨w.heap.size + 2, 5, none⟩ = false := by rw [← hW]; clear hW; first | (with_reducible assumption) | (go_simp; done) | (simp [*]; done)
  have nc26 : W.cell? ⟨w.heap.size + 2, 6, none⟩ = some (.int .i64 h.pr) := by rw [← hW]; clear hW; go_cell
  have nf26 : W.frozen? ⟨w.heap.size + 2, 6, none⟩ = false := by rw [← hW]; clear hW; first | (with_reducible assumption) | (go_simp; done) | (simp [*]; done)
  have nz0 : w.heap.size < W.heap.size := by rw [← hW]; clear hW; go_size
  have nz1 : w.heap.size + 1 < W.heap.size := by rw [← hW]; clear hW; go_size
  have nz2 : w.heap.size + 2 < W.heap.size := by rw [← hW]; clear hW; go_size
  have hWB : Below w.heap.size w W := by
    rw [← hW]
    repeat (first | with_reducible exact Below.refl _ _ | with_reducible assumption | (with_reducible refine balloc ?_) | (with_reducible refine bdrew ?_) | (with_reducible refine bdrewN ?_) | (with_reducible refine bset ?_ (by first | omega | (simp; done) | (simp; omega))) | (with_reducible refine bnext ?_ (by assumption)))
  clear hW
  go_region
  all_goals go_wp2
  all_goals
    refine bodyPost_ret (by simp [results, Try.results16, go_sem, nc10, nc11, nc12, nc13, nc14, nc15, nc16]; try rfl) rfl ?_
    refine ⟨rfl, ?_⟩
    repeat (first | with_reducible exact Below.refl _ _ | with_reducible assumption | (with_reducible refine balloc ?_) | (with_reducible refine bdrew ?_) | (with_reducible refine bdrewN ?_) | (with_reducible refine bset ?_ (by first | omega | (simp; done) | (simp; omega))) | (with_reducible refine bnext ?_ (by assumption)))
set_option maxHeartbeats 1000000 in
theorem Tick_same (h : H) (now : Int) (w : World) (c1 : now < h.nx ∨ h.nx ≤ now ∧ (h.st == 1) = false ∧ (h.st == 2) = false) :
    Calls Try.prog 16 #[.agg #[.string h.a, .int .i64 h.sc, .int .i64 h.dy, .int .i64 h.td, .int .i64 h.st, .int .i64 h.nx, .int .i64 h.pr], .int .i64 now] w fun e w' => e = .returned (.tuple #[.agg #[.string h.a, .int .i64 h.sc, .int .i64 h.dy, .int .i64 h.td, .int .i64 h.st, .int .i64 h.nx, .int .i64 h.pr], .bool false]) ∧ Bel w w' := by
  rcases c1 with c1 | ⟨c1, c2, c3⟩
  · go_enter Try.func16, Try.ntmps16
    go_wp2_with fail
    refine wp_named fun W hW => ?_
    have nc00 : W.cell? ⟨w.heap.size, 0, none⟩ = some (.string h.a) := by rw [← hW]; clear hW; go_cell
    have nf00 : W.frozen? ⟨w.heap.size, 0, none⟩ = false := by rw [← hW]; clear hW; first | (with_reducible assumption) | (go_simp; done) | (simp [*]; done)
    have nc01 : W.cell? ⟨w.heap.size, 1, none⟩ = some (.int .i64 h.sc) := by rw [← hW]; clear hW; go_cell
    have nf01 : W.frozen? ⟨w.heap.size, 1, none⟩ = false := by rw [← hW]; clear hW; first | (with_reducible assumption) | (go_simp; done) | (simp [*]; done)
    have nc02 : W.cell? ⟨w.heap.size, 2, none⟩ = some (.int .i64 h.dy) := by rw [← hW]; clear hW; go_cell
    have nf02 : W.frozen? ⟨w.heap.size, 2, none⟩ = false := by rw [← hW]; clear hW; first | (with_reducible assumption) | (go_simp; done) | (simp [*]; done)
    have nc03 : W.cell? ⟨w.heap.size, 3, none⟩ = some (.int .i64 h.td) := by rw [← hW]; clear hW; go_cell
    have nf03 : W.frozen? ⟨w.heap.size, 3, none⟩ = false := by rw [← hW]; clear hW; first | (with_reducible assumption) | (go_simp; done) | (simp [*]; done)
    have nc04 : W.cell? ⟨w.heap.size, 4, none⟩ = some (.int .i64 h.st) := by rw [← hW]; clear hW; go_cell
    have nf04 : W.frozen? ⟨w.heap.size, 4, none⟩ = false := by rw [← hW]; clear hW; first | (with_reducible assumption) | (go_simp; done) | (simp [*]; done)
    have nc05 : W.cell? ⟨w.heap.size, 5, none⟩ = some (.int .i64 h.nx) := by rw [← hW]; clear hW; go_cell
    have nf05 : W.frozen? ⟨w.heap.size, 5, none⟩ = false := by rw [← hW]; clear hW; first | (with_reducible assumption) | (go_simp; done) | (simp [*]; done)
    have nc06 : W.cell? ⟨w.heap.size, 6, none⟩ = some (.int .i64 h.pr) := by rw [← hW]; clear hW; go_cell
    have nf06 : W.frozen? ⟨w.heap.size, 6, none⟩ = false := by rw [← hW]; clear hW; first | (with_reducible assumption) | (go_simp; done) | (simp [*]; done)
    have nc10 : W.cell? ⟨w.heap.size + 1, 0, none⟩ = some (.string { data := #[] }) := by rw [← hW]; clear hW; go_cell
    have nf10 : W.frozen? ⟨w.heap.size + 1, 0, none⟩ = false := by rw [← hW]; clear hW; first | (with_reducible assumption) | (go_simp; done) | (simp [*]; done)
    have nc11 : W.cell? ⟨w.heap.size + 1, 1, none⟩ = some (.int .i64 0) := by rw [← hW]; clear hW; go_cell
    have nf11 : W.frozen? ⟨w.heap.size + 1, 1, none⟩ = false := by rw [← hW]; clear hW; first | (with_reducible assumption) | (go_simp; done) | (simp [*]; done)
    have nc12 : W.cell? ⟨w.heap.size + 1, 2, none⟩ = some (.int .i64 0) := by rw [← hW]; clear hW; go_cell
    have nf12 : W.frozen? ⟨w.heap.size + 1, 2, none⟩ = false := by rw [← hW]; clear hW; first | (with_reducible assumption) | (go_simp; done) | (simp [*]; done)
    have nc13 : W.cell? ⟨w.heap.size + 1, 3, none⟩ = some (.int .i64 0) := by rw [← hW]; clear hW; go_cell
    have nf13 : W.frozen? ⟨w.heap.size + 1, 3, none⟩ = false := by rw [← hW]; clear hW; first | (with_reducible assumption) | (go_simp; done) | (simp [*]; done)
    have nc14 : W.cell? ⟨w.heap.size + 1, 4, none⟩ = some (.int .i64 0) := by rw [← hW]; clear hW; go_cell
    have nf14 : W.frozen? ⟨w.heap.size + 1, 4, none⟩ = false := by rw [← hW]; clear hW; first | (with_reducible assumption) | (go_simp; done) | (simp [*]; done)
    have nc15 : W.cell? ⟨w.heap.size + 1, 5, none⟩ = some (.int .i64 0) := by rw [← hW]; clear hW; go_cell
    have nf15 : W.frozen? ⟨w.heap.size + 1, 5, none⟩ = false := by rw [← hW]; clear hW; first | (with_reducible assumption) | (go_simp; done) | (simp [*]; done)
    have nc16 : W.cell? ⟨w.heap.size + 1, 6, none⟩ = some (.int .i64 0) := by rw [← hW]; clear hW; go_cell
    have nf16 : W.frozen? ⟨w.heap.size + 1, 6, none⟩ = false := by rw [← hW]; clear hW; first | (with_reducible assumption) | (go_simp; done) | (simp [*]; done)
    have nc20 : W.cell? ⟨w.heap.size + 2, 0, none⟩ = some (.string h.a) := by rw [← hW]; clear hW; go_cell
    have nf20 : W.frozen? ⟨w.heap.size + 2, 0, none⟩ = false := by rw [← hW]; clear hW; first | (with_reducible assumption) | (go_simp; done) | (simp [*]; done)
    have nc21 : W.cell? ⟨w.heap.size + 2, 1, none⟩ = some (.int .i64 h.sc) := by rw [← hW]; clear hW; go_cell
    have nf21 : W.frozen? ⟨w.heap.size + 2, 1, none⟩ = false := by rw [← hW]; clear hW; first | (with_reducible assumption) | (go_simp; done) | (simp [*]; done)
    have nc22 : W.cell? ⟨w.heap.size + 2, 2, none⟩ = some (.int .i64 h.dy) := by rw [← hW]; clear hW; go_cell
    have nf22 : W.frozen? ⟨w.heap.size + 2, 2, none⟩ = false := by rw [← hW]; clear hW; first | (with_reducible assumption) | (go_simp; done) | (simp [*]; done)
    have nc23 : W.cell? ⟨w.heap.size + 2, 3, none⟩ = some (.int .i64 h.td) := by rw [← hW]; clear hW; go_cell
    have nf23 : W.frozen? ⟨w.heap.size + 2, 3, none⟩ = false := by rw [← hW]; clear hW; first | (with_reducible assumption) | (go_simp; done) | (simp [*]; done)
    have nc24 : W.cell? ⟨w.heap.size + 2, 4, none⟩ = some (.int .i64 h.st) := by rw [← hW]; clear hW; go_cell
    have nf24 : W.frozen? ⟨w.heap.size + 2, 4, none⟩ = false := by rw [← hW]; clear hW; first | (with_reducible assumption) | (go_simp; done) | (simp [*]; done)
    have nc25 : W.cell? ⟨w.heap.size + 2, 5, none⟩ = some (.int .i64 h.nx) := by rw [← hW]; clear hW; go_cell
    have nf25 : W.frozen? ⟨w.heap.size + 2, 5, none⟩ = false := by rw [← hW]; clear hW; first | (with_reducible assumption) | (go_simp; done) | (simp [*]; done)
    have nc26 : W.cell? ⟨w.heap.size + 2, 6, none⟩ = some (.int .i64 h.pr) := by rw [← hW]; clear hW; go_cell
    have nf26 : W.frozen? ⟨w.heap.size + 2, 6, none⟩ = false := by rw [← hW]; clear hW; first | (with_reducible assumption) | (go_simp; done) | (simp [*]; done)
    have nz0 : w.heap.size < W.heap.size := by rw [← hW]; clear hW; go_size
    have nz1 : w.heap.size + 1 < W.heap.size := by rw [← hW]; clear hW; go_size
    have nz2 : w.heap.size + 2 < W.heap.size := by rw [← hW]; clear hW; go_size
    have hWB : Below w.heap.size w W := by
      rw [← hW]
      repeat (first | with_reducible exact Below.refl _ _ | with_reducible assumption | (with_reducible refine balloc ?_) | (with_reducible refine bdrew ?_) | (with_reducible refine bdrewN ?_) | (with_reducible refine bset ?_ (by first | omega | (simp; done) | (simp; omega))) | (with_reducible refine bnext ?_ (by assumption)))
    clear hW
    go_region
    all_goals go_wp2
    all_goals
      refine bodyPost_ret (by simp [results, Try.results16, go_sem, nc10, nc11, nc12, nc13, nc14, nc15, nc16]; try rfl) rfl ?_
      refine ⟨rfl, ?_⟩
      repeat (first | with_reducible exact Below.refl _ _ | with_reducible assumption | (with_reducible refine balloc ?_) | (with_reducible refine bdrew ?_) | (with_reducible refine bdrewN ?_) | (with_reducible refine bset ?_ (by first | omega | (simp; done) | (simp; omega))) | (with_reducible refine bnext ?_ (by assumption)))
  · go_enter Try.func16, Try.ntmps16
    go_wp2_with fail
    refine wp_named fun W hW => ?_
    have nc00 : W.cell? ⟨w.heap.size, 0, none⟩ = some (.string h.a) := by rw [← hW]; clear hW; go_cell
    have nf00 : W.frozen? ⟨w.heap.size, 0, none⟩ = false := by rw [← hW]; clear hW; first | (with_reducible assumption) | (go_simp; done) | (simp [*]; done)
    have nc01 : W.cell? ⟨w.heap.size, 1, none⟩ = some (.int .i64 h.sc) := by rw [← hW]; clear hW; go_cell
    have nf01 : W.frozen? ⟨w.heap.size, 1, none⟩ = false := by rw [← hW]; clear hW; first | (with_reducible assumption) | (go_simp; done) | (simp [*]; done)
    have nc02 : W.cell? ⟨w.heap.size, 2, none⟩ = some (.int .i64 h.dy) := by rw [← hW]; clear hW; go_cell
    have nf02 : W.frozen? ⟨w.heap.size, 2, none⟩ = false := by rw [← hW]; clear hW; first | (with_reducible assumption) | (go_simp; done) | (simp [*]; done)
    have nc03 : W.cell? ⟨w.heap.size, 3, none⟩ = some (.int .i64 h.td) := by rw [← hW]; clear hW; go_cell
    have nf03 : W.frozen? ⟨w.heap.size, 3, none⟩ = false := by rw [← hW]; clear hW; first | (with_reducible assumption) | (go_simp; done) | (simp [*]; done)
    have nc04 : W.cell? ⟨w.heap.size, 4, none⟩ = some (.int .i64 h.st) := by rw [← hW]; clear hW; go_cell
    have nf04 : W.frozen? ⟨w.heap.size, 4, none⟩ = false := by rw [← hW]; clear hW; first | (with_reducible assumption) | (go_simp; done) | (simp [*]; done)
    have nc05 : W.cell? ⟨w.heap.size, 5, none⟩ = some (.int .i64 h.nx) := by rw [← hW]; clear hW; go_cell
    have nf05 : W.frozen? ⟨w.heap.size, 5, none⟩ = false := by rw [← hW]; clear hW; first | (with_reducible assumption) | (go_simp; done) | (simp [*]; done)
    have nc06 : W.cell? ⟨w.heap.size, 6, none⟩ = some (.int .i64 h.pr) := by rw [← hW]; clear hW; go_cell
    have nf06 : W.frozen? ⟨w.heap.size, 6, none⟩ = false := by rw [← hW]; clear hW; first | (with_reducible assumption) | (go_simp; done) | (simp [*]; done)
    have nc10 : W.cell? ⟨w.heap.size + 1, 0, none⟩ = some (.string { data := #[] }) := by rw [← hW]; clear hW; go_cell
    have nf10 : W.frozen? ⟨w.heap.size + 1, 0, none⟩ = false := by rw [← hW]; clear hW; first | (with_reducible assumption) | (go_simp; done) | (simp [*]; done)
    have nc11 : W.cell? ⟨w.heap.size + 1, 1, none⟩ = some (.int .i64 0) := by rw [← hW]; clear hW; go_cell
    have nf11 : W.frozen? ⟨w.heap.size + 1, 1, none⟩ = false := by rw [← hW]; clear hW; first | (with_reducible assumption) | (go_simp; done) | (simp [*]; done)
    have nc12 : W.cell? ⟨w.heap.size + 1, 2, none⟩ = some (.int .i64 0) := by rw [← hW]; clear hW; go_cell
    have nf12 : W.frozen? ⟨w.heap.size + 1, 2, none⟩ = false := by rw [← hW]; clear hW; first | (with_reducible assumption) | (go_simp; done) | (simp [*]; done)
    have nc13 : W.cell? ⟨w.heap.size + 1, 3, none⟩ = some (.int .i64 0) := by rw [← hW]; clear hW; go_cell
    have nf13 : W.frozen? ⟨w.heap.size + 1, 3, none⟩ = false := by rw [← hW]; clear hW; first | (with_reducible assumption) | (go_simp; done) | (simp [*]; done)
    have nc14 : W.cell? ⟨w.heap.size + 1, 4, none⟩ = some (.int .i64 0) := by rw [← hW]; clear hW; go_cell
    have nf14 : W.frozen? ⟨w.heap.size + 1, 4, none⟩ = false := by rw [← hW]; clear hW; first | (with_reducible assumption) | (go_simp; done) | (simp [*]; done)
    have nc15 : W.cell? ⟨w.heap.size + 1, 5, none⟩ = some (.int .i64 0) := by rw [← hW]; clear hW; go_cell
    have nf15 : W.frozen? ⟨w.heap.size + 1, 5, none⟩ = false := by rw [← hW]; clear hW; first | (with_reducible assumption) | (go_simp; done) | (simp [*]; done)
    have nc16 : W.cell? ⟨w.heap.size + 1, 6, none⟩ = some (.int .i64 0) := by rw [← hW]; clear hW; go_cell
    have nf16 : W.frozen? ⟨w.heap.size + 1, 6, none⟩ = false := by rw [← hW]; clear hW; first | (with_reducible assumption) | (go_simp; done) | (simp [*]; done)
    have nc20 : W.cell? ⟨w.heap.size + 2, 0, none⟩ = some (.string h.a) := by rw [← hW]; clear hW; go_cell
    have nf20 : W.frozen? ⟨w.heap.size + 2, 0, none⟩ = false := by rw [← hW]; clear hW; first | (with_reducible assumption) | (go_simp; done) | (simp [*]; done)
    have nc21 : W.cell? ⟨w.heap.size + 2, 1, none⟩ = some (.int .i64 h.sc) := by rw [← hW]; clear hW; go_cell
    have nf21 : W.frozen? ⟨w.heap.size + 2, 1, none⟩ = false := by rw [← hW]; clear hW; first | (with_reducible assumption) | (go_simp; done) | (simp [*]; done)
    have nc22 : W.cell? ⟨w.heap.size + 2, 2, none⟩ = some (.int .i64 h.dy) := by rw [← hW]; clear hW; go_cell
    have nf22 : W.frozen? ⟨w.heap.size + 2, 2, none⟩ = false := by rw [← hW]; clear hW; first | (with_reducible assumption) | (go_simp; done) | (simp [*]; done)
    have nc23 : W.cell? ⟨w.heap.size + 2, 3, none⟩ = some (.int .i64 h.td) := by rw [← hW]; clear hW; go_cell
    have nf23 : W.frozen? ⟨w.heap.size + 2, 3, none⟩ = false := by rw [← hW]; clear hW; first | (with_reducible assumption) | (go_simp; done) | (simp [*]; done)
    have nc24 : W.cell? ⟨w.heap.size + 2, 4, none⟩ = some (.int .i64 h.st) := by rw [← hW]; clear hW; go_cell
    have nf24 : W.frozen? ⟨w.heap.size + 2, 4, none⟩ = false := by rw [← hW]; clear hW; first | (with_reducible assumption) | (go_simp; done) | (simp [*]; done)
    have nc25 : W.cell? ⟨w.heap.size + 2, 5, none⟩ = some (.int .i64 h.nx) := by rw [← hW]; clear hW; go_cell
    have nf25 : W.frozen? ⟨w.heap.size + 2, 5, none⟩ = false := by rw [← hW]; clear hW; first | (with_reducible assumption) | (go_simp; done) | (simp [*]; done)
    have nc26 : W.cell? ⟨w.heap.size + 2, 6, none⟩ = some (.int .i64 h.pr) := by rw [← hW]; clear hW; go_cell
    have nf26 : W.frozen? ⟨w.heap.size + 2, 6, none⟩ = false := by rw [← hW]; clear hW; first | (with_reducible assumption) | (go_simp; done) | (simp [*]; done)
    have nz0 : w.heap.size < W.heap.size := by rw [← hW]; clear hW; go_size
    have nz1 : w.heap.size + 1 < W.heap.size := by rw [← hW]; clear hW; go_size
    have nz2 : w.heap.size + 2 < W.heap.size := by rw [← hW]; clear hW; go_size
    have hWB : Below w.heap.size w W := by
      rw [← hW]
      repeat (first | with_reducible exact Below.refl _ _ | with_reducible assumption | (with_reducible refine balloc ?_) | (with_reducible refine bdrew ?_) | (with_reducible refine bdrewN ?_) | (with_reducible refine bset ?_ (by first | omega | (simp; done) | (simp; omega))) | (with_reducible refine bnext ?_ (by assumption)))
    clear hW
    go_region
    all_goals go_wp2
    all_goals
      refine bodyPost_ret (by simp [results, Try.results16, go_sem, nc10, nc11, nc12, nc13, nc14, nc15, nc16]; try rfl) rfl ?_
      refine ⟨rfl, ?_⟩
      repeat (first | with_reducible exact Below.refl _ _ | with_reducible assumption | (with_reducible refine balloc ?_) | (with_reducible refine bdrew ?_) | (with_reducible refine bdrewN ?_) | (with_reducible refine bset ?_ (by first | omega | (simp; done) | (simp; omega))) | (with_reducible refine bnext ?_ (by assumption)))
/-- A failed probe. -/
def downS (h : H) : Int := if 3 ≤ h.pr + 1 then 3 else 1
def downN (h : H) (now : Int) : Int := if 3 ≤ h.pr + 1 then 0 else if h.pr + 1 ≤ 1 then now + 259200000 else now + 604800000
theorem downH_fail (h : H) (now : Int) (c : h.st = 2) : downH h now false = ⟨h.a, h.sc, h.dy, h.td, downS h, downN h now, h.pr + 1⟩ := by
  rw [downH, if_neg (by simp [c]), if_neg (by simp)]
  unfold downS downN
  by_cases h1 : 3 ≤ h.pr + 1
  · rw [if_pos h1, if_pos h1, if_pos h1]
  · rw [if_neg h1, if_neg h1, if_neg h1]
    by_cases h2 : h.pr + 1 ≤ 1
    · rw [if_pos h2, if_pos h2]
    · rw [if_neg h2, if_neg h2]
theorem Down_fail (h : H) (now s n : Int) (w : World) (hk : HOk h now) (hp0 : -1 ≤ h.pr) (hp1 : h.pr ≤ 1000) (c : h.st = 2) (hs : downS h = s) (hn : downN h now = n) :
    Calls Try.prog 17 #[.agg #[.string h.a, .int .i64 h.sc, .int .i64 h.dy, .int .i64 h.td, .int .i64 h.st, .int .i64 h.nx, .int .i64 h.pr], .int .i64 now, .bool false] w fun e w' => e = .returned (.agg #[.string h.a, .int .i64 h.sc, .int .i64 h.dy, .int .i64 h.td, .int .i64 s, .int .i64 n, .int .i64 (h.pr + 1)]) ∧ Bel w w' := by
  subst hs hn
  exact Down_h h _ now false w hk hp0 hp1 (downH_fail h now c)
set_option maxHeartbeats 1000000 in
theorem Tick_down (h : H) (now s n : Int) (w : World) (hk : HOk h now) (hp0 : -1 ≤ h.pr) (hp1 : h.pr ≤ 1000) (c1 : h.nx ≤ now) (c2 : (h.st == 2) = true) (hs : downS h = s) (hn : downN h now = n) :
    Calls Try.prog 16 #[.agg #[.string h.a, .int .i64 h.sc, .int .i64 h.dy, .int .i64 h.td, .int .i64 h.st, .int .i64 h.nx, .int .i64 h.pr], .int .i64 now] w fun e w' => e = .returned (.tuple #[.agg #[.string h.a, .int .i64 h.sc, .int .i64 h.dy, .int .i64 h.td, .int .i64 s, .int .i64 n, .int .i64 (h.pr + 1)], .bool false]) ∧ Bel w w' := by
  have c3 : (h.st == 1) = false := by simp at c2; simp [c2]
  have c4 : (s == h.st) = false := by simp at c2; rw [← hs, c2]; unfold downS; split <;> decide
  have c5 : h.st = 2 := by simpa using c2
  replace c5 := Lib.hid c5
  replace hs := Lib.hid hs
  replace hn := Lib.hid hn
  replace hk := Lib.hid hk
  go_enter Try.func16, Try.ntmps16
  go_wp2_with (go_at_call 17; refine (Down_fail h now s n _ hk.out hp0 hp1 c5.out hs.out hn.out).mono ?_; rintro e w1 ⟨rfl, hb1⟩; have xc00 : w1.cell? ⟨w.heap.size, 0, none⟩ = some (.string h.a) := bget hb1 (by go_size) (by go_cell); have xf00 : w1.frozen? ⟨w.heap.size, 0, none⟩ = false := bfrz hb1 (by go_size) (by first | (with_reducible assumption) | (go_simp; done) | (simp [*]; done)); have xc01 : w1.cell? ⟨w.heap.size, 1, none⟩ = some (.int .i64 h.sc) := bget hb1 (by go_size) (by go_cell); have xf01 : w1.frozen? ⟨w.heap.size, 1, none⟩ = false := bfrz hb1 (by go_size) (by first | (with_reducible assumption) | (go_simp; done) | (simp [*]; done)); have xc02 : w1.cell? ⟨w.heap.size, 2, none⟩ = some (.int .i64 h.dy) := bget hb1 (by go_size) (by go_cell); have xf02 : w1.frozen? ⟨w.heap.size, 2, none⟩ = false := bfrz hb1 (by go_size) (by first | (with_reducible assumption) | (go_simp; done) | (simp [*]; done)); have xc03 : w1.cell? ⟨w.heap.size, 3, none⟩ = some (.int .i64 h.td) := bget hb1 (by go_size) (by go_cell); have xf03 : w1.frozen? ⟨w.heap.size, 3, none⟩ = false := bfrz hb1 (by go_size) (by first | (with_reducible assumption) | (go_simp; done) | (simp [*]; done)); have xc04 : w1.cell? ⟨w.heap.size, 4, none⟩ = some (.int .i64 h.st) := bget hb1 (by go_size) (by go_cell); have xf04 : w1.frozen? ⟨w.heap.size, 4, none⟩ = false := bfrz hb1 (by go_size) (by first | (with_reducible assumption) | (go_simp; done) | (simp [*]; done)); have xc05 : w1.cell? ⟨w.heap.size, 5, none⟩ = some (.int .i64 h.nx) := bget hb1 (by go_size) (by go_cell); have xf05 : w1.frozen? ⟨w.heap.size, 5, none⟩ = false := bfrz hb1 (by go_size) (by first | (with_reducible assumption) | (go_simp; done) | (simp [*]; done)); have xc06 : w1.cell? ⟨w.heap.size, 6, none⟩ = some (.int .i64 h.pr) := bget hb1 (by go_size) (by go_cell); have xf06 : w1.frozen? ⟨w.heap.size, 6, none⟩ = false := bfrz hb1 (by go_size) (by first | (with_reducible assumption) | (go_simp; done) | (simp [*]; done)); have xc10 : w1.cell? ⟨w.heap.size + 1, 0, none⟩ = some (.string { data := #[] }) := bget hb1 (by go_size) (by go_cell); have xf10 : w1.frozen? ⟨w.heap.size + 1, 0, none⟩ = false := bfrz hb1 (by go_size) (by first | (with_reducible assumption) | (go_simp; done) | (simp [*]; done)); have xc11 : w1.cell? ⟨w.heap.size + 1, 1, none⟩ = some (.int .i64 0) := bget hb1 (by go_size) (by go_cell); have xf11 : w1.frozen? ⟨w.heap.size + 1, 1, none⟩ = false := bfrz hb1 (by go_size) (by first | (with_reducible assumption) | (go_simp; done) | (simp [*]; done)); have xc12 : w1.cell? ⟨w.heap.size + 1, 2, none⟩ = some (.int .i64 0) := bget hb1 (by go_size) (by go_cell); have xf12 : w1.frozen? ⟨w.heap.size + 1, 2, none⟩ = false := bfrz hb1 (by go_size) (by first | (with_reducible assumption) | (go_simp; done) | (simp [*]; done)); have xc13 : w1.cell? ⟨w.heap.size + 1, 3, none⟩ = some (.int .i64 0) := bget hb1 (by go_size) (by go_cell); have xf13 : w1.frozen? ⟨w.heap.size + 1, 3, none⟩ = false := bfrz hb1 (by go_size) (by first | (with_reducible assumption) | (go_simp; done) | (simp [*]; done)); have xc14 : w1.cell? ⟨w.heap.size + 1, 4, none⟩ = some (.int .i64 0) := bget hb1 (by go_size) (by go_cell); have xf14 : w1.frozen? ⟨w.heap.size + 1, 4, none⟩ = false := bfrz hb1 (by go_size) (by first | (with_reducible assumption) | (go_simp; done) | (simp [*]; done)); have xc15 : w1.cell? ⟨w.heap.size + 1, 5, none⟩ = some (.int .i64 0) := bget hb1 (by go_size) (by go_cell); have xf15 : w1.frozen? ⟨w.heap.size + 1, 5, none⟩ = false := bfrz hb1 (by go_size) (by first | (with_reducible assumption) | (go_simp; done) | (simp [*]; done)); have xc16 : w1.cell? ⟨w.heap.size + 1, 6, none⟩ = some (.int .i64 0) := bget hb1 (by go_size) (by go_cell); have xf16 : w1.frozen? ⟨w.heap.size + 1, 6, none⟩ = false := bfrz hb1 (by go_size) (by first | (with_reducible assumption) | (go_simp; done) | (simp [*]; done)); have xc20 : w1.cell? ⟨w.heap.size + 2, 0, none⟩ = some (.string h.a) := bget hb1 (by go_size) (by go_cell); have xf20 : w1.frozen? ⟨w.heap.size + 2, 0, none⟩ = false := bfrz hb1 (by go_size) (by first | (with_reducible assumption) | (go_simp; done) | (simp [*]; done)); have xc21 : w1.cell? ⟨w.heap.size + 2, 1, none⟩ = some (.int .i64 h.sc) := bget hb1 (by go_size) (by go_cell); have xf21 : w1.frozen? ⟨w.heap.size + 2, 1, none⟩ = false := bfrz hb1 (by go_size) (by first | (with_reducible assumption) | (go_simp; done) | (simp [*]; done)); have xc22 : w1.cell? ⟨w.heap.size + 2, 2, none⟩ = some (.int .i64 h.dy) := bget hb1 (by go_size) (by go_cell); have xf22 : w1.frozen? ⟨w.heap.size + 2, 2, none⟩ = false := bfrz hb1 (by go_size) (by first | (with_reducible assumption) | (go_simp; done) | (simp [*]; done)); have xc23 : w1.cell? ⟨w.heap.size + 2, 3, none⟩ = some (.int .i64 h.td) := bget hb1 (by go_size) (by go_cell); have xf23 : w1.frozen? ⟨w.heap.size + 2, 3, none⟩ = false := bfrz hb1 (by go_size) (by first | (with_reducible assumption) | (go_simp; done) | (simp [*]; done)); have xc24 : w1.cell? ⟨w.heap.size + 2, 4, none⟩ = some (.int .i64 h.st) := bget hb1 (by go_size) (by go_cell); have xf24 : w1.frozen? ⟨w.heap.size + 2, 4, none⟩ = false := bfrz hb1 (by go_size) (by first | (with_reducible assumption) | (go_simp; done) | (simp [*]; done)); have xc25 : w1.cell? ⟨w.heap.size + 2, 5, none⟩ = some (.int .i64 h.nx) := bget hb1 (by go_size) (by go_cell); have xf25 : w1.frozen? ⟨w.heap.size + 2, 5, none⟩ = false := bfrz hb1 (by go_size) (by first | (with_reducible assumption) | (go_simp; done) | (simp [*]; done)); have xc26 : w1.cell? ⟨w.heap.size + 2, 6, none⟩ = some (.int .i64 h.pr) := bget hb1 (by go_size) (by go_cell); have xf26 : w1.frozen? ⟨w.heap.size + 2, 6, none⟩ = false := bfrz hb1 (by go_size) (by first | (with_reducible assumption) | (go_simp; done) | (simp [*]; done)); have xz0 : w.heap.size < w1.heap.size := bsize hb1 (by go_size); have xz1 : w.heap.size + 1 < w1.heap.size := bsize hb1 (by go_size); have xz2 : w.heap.size + 2 < w1.heap.size := bsize hb1 (by go_size))
  refine wp_named fun W hW => ?_
  have nc00 : W.cell? ⟨w.heap.size, 0, none⟩ = some (.string h.a) := by rw [← hW]; clear hW; go_cell
  have nf00 : W.frozen? ⟨w.heap.size, 0, none⟩ = false := by rw [← hW]; clear hW; first | (with_reducible assumption) | (go_simp; done) | (simp [*]; done)
  have nc01 : W.cell? ⟨w.heap.size, 1, none⟩ = some (.int .i64 h.sc) := by rw [← hW]; clear hW; go_cell
  have nf01 : W.frozen? ⟨w.heap.size, 1, none⟩ = false := by rw [← hW]; clear hW; first | (with_reducible assumption) | (go_simp; done) | (simp [*]; done)
  have nc02 : W.cell? ⟨w.heap.size, 2, none⟩ = some (.int .i64 h.dy) := by rw [← hW]; clear hW; go_cell
  have nf02 : W.frozen? ⟨w.heap.size, 2, none⟩ = false := by rw [← hW]; clear hW; first | (with_reducible assumption) | (go_simp; done) | (simp [*]; done)
  have nc03 : W.cell? ⟨w.heap.size, 3, none⟩ = some (.int .i64 h.td) := by rw [← hW]; clear hW; go_cell
  have nf03 : W.frozen? ⟨w.heap.size, 3, none⟩ = false := by rw [← hW]; clear hW; first | (with_reducible assumption) | (go_simp; done) | (simp [*]; done)
  have nc04 : W.cell? ⟨w.heap.size, 4, none⟩ = some (.int .i64 s) := by rw [← hW]; clear hW; go_cell
  have nf04 : W.frozen? ⟨w.heap.size, 4, none⟩ = false := by rw [← hW]; clear hW; first | (with_reducible assumption) | (go_simp; done) | (simp [*]; done)
  have nc05 : W.cell? ⟨w.heap.size, 5, none⟩ = some (.int .i64 n) := by rw [← hW]; clear hW; go_cell
  have nf05 : W.frozen? ⟨w.heap.size, 5, none⟩ = false := by rw [← hW]; clear hW; first | (with_reducible assumption) | (go_simp; done) | (simp [*]; done)
  have nc06 : W.cell? ⟨w.heap.size, 6, none⟩ = some (.int .i64 (h.pr + 1)) := by rw [← hW]; clear hW; go_cell
  have nf06 : W.frozen? ⟨w.heap.size, 6, none⟩ = false := by rw [← hW]; clear hW; first | (with_reducible assumption) | (go_simp; done) | (simp [*]; done)
  have nc10 : W.cell? ⟨w.heap.size + 1, 0, none⟩ = some (.string { data := #[] }) := by rw [← hW]; clear hW; go_cell
  have nf10 : W.frozen? ⟨w.heap.size + 1, 0, none⟩ = false := by rw [← hW]; clear hW; first | (with_reducible assumption) | (go_simp; done) | (simp [*]; done)
  have nc11 : W.cell? ⟨w.heap.size + 1, 1, none⟩ = some (.int .i64 0) := by rw [← hW]; clear hW; go_cell
  have nf11 : W.frozen? ⟨w.heap.size + 1, 1, none⟩ = false := by rw [← hW]; clear hW; first | (with_reducible assumption) | (go_simp; done) | (simp [*]; done)
  have nc12 : W.cell? ⟨w.heap.size + 1, 2, none⟩ = some (.int .i64 0) := by rw [← hW]; clear hW; go_cell
  have nf12 : W.frozen? ⟨w.heap.size + 1, 2, none⟩ = false := by rw [← hW]; clear hW; first | (with_reducible assumption) | (go_simp; done) | (simp [*]; done)
  have nc13 : W.cell? ⟨w.heap.size + 1, 3, none⟩ = some (.int .i64 0) := by rw [← hW]; clear hW; go_cell
  have nf13 : W.frozen? ⟨w.heap.size + 1, 3, none⟩ = false := by rw [← hW]; clear hW; first | (with_reducible assumption) | (go_simp; done) | (simp [*]; done)
  have nc14 : W.cell? ⟨w.heap.size + 1, 4, none⟩ = some (.int .i64 0) := by rw [← hW]; clear hW; go_cell
  have nf14 : W.frozen? ⟨w.heap.size + 1, 4, none⟩ = false := by rw [← hW]; clear hW; first | (with_reducible assumption) | (go_simp; done) | (simp [*]; done)
  have nc15 : W.cell? ⟨w.heap.size + 1, 5, none⟩ = some (.int .i64 0) := by rw [← hW]; clear hW; go_cell
  have nf15 : W.frozen? ⟨w.heap.size + 1, 5, none⟩ = false := by rw [← hW]; clear hW; first | (with_reducible assumption) | (go_simp; done) | (simp [*]; done)
  have nc16 : W.cell? ⟨w.heap.size + 1, 6, none⟩ = some (.int .i64 0) := by rw [← hW]; clear hW; go_cell
  have nf16 : W.frozen? ⟨w.heap.size + 1, 6, none⟩ = false := by rw [← hW]; clear hW; first | (with_reducible assumption) | (go_simp; done) | (simp [*]; done)
  have nc20 : W.cell? ⟨w.heap.size + 2, 0, none⟩ = some (.string h.a) := by rw [← hW]; clear hW; go_cell
  have nf20 : W.frozen? ⟨w.heap.size + 2, 0, none⟩ = false := by rw [← hW]; clear hW; first | (with_reducible assumption) | (go_simp; done) | (simp [*]; done)
  have nc21 : W.cell? ⟨w.heap.size + 2, 1, none⟩ = some (.int .i64 h.sc) := by rw [← hW]; clear hW; go_cell
  have nf21 : W.frozen? ⟨w.heap.size + 2, 1, none⟩ = false := by rw [← hW]; clear hW; first | (with_reducible assumption) | (go_simp; done) | (simp [*]; done)
  have nc22 : W.cell? ⟨w.heap.size + 2, 2, none⟩ = some (.int .i64 h.dy) := by rw [← hW]; clear hW; go_cell
  have nf22 : W.frozen? ⟨w.heap.size + 2, 2, none⟩ = false := by rw [← hW]; clear hW; first | (with_reducible assumption) | (go_simp; done) | (simp [*]; done)
  have nc23 : W.cell? ⟨w.heap.size + 2, 3, none⟩ = some (.int .i64 h.td) := by rw [← hW]; clear hW; go_cell
  have nf23 : W.frozen? ⟨w.heap.size + 2, 3, none⟩ = false := by rw [← hW]; clear hW; first | (with_reducible assumption) | (go_simp; done) | (simp [*]; done)
  have nc24 : W.cell? ⟨w.heap.size + 2, 4, none⟩ = some (.int .i64 h.st) := by rw [← hW]; clear hW; go_cell
  have nf24 : W.frozen? ⟨w.heap.size + 2, 4, none⟩ = false := by rw [← hW]; clear hW; first | (with_reducible assumption) | (go_simp; done) | (simp [*]; done)
  have nc25 : W.cell? ⟨w.heap.size + 2, 5, none⟩ = some (.int .i64 h.nx) := by rw [← hW]; clear hW; go_cell
  have nf25 : W.frozen? ⟨w.heap.size + 2, 5, none⟩ = false := by rw [← hW]; clear hW; first | (with_reducible assumption) | (go_simp; done) | (simp [*]; done)
  have nc26 : W.cell? ⟨w.heap.size + 2, 6, none⟩ = some (.int .i64 h.pr) := by rw [← hW]; clear hW; go_cell
  have nf26 : W.frozen? ⟨w.heap.size + 2, 6, none⟩ = false := by rw [← hW]; clear hW; first | (with_reducible assumption) | (go_simp; done) | (simp [*]; done)
  have nz0 : w.heap.size < W.heap.size := by rw [← hW]; clear hW; go_size
  have nz1 : w.heap.size + 1 < W.heap.size := by rw [← hW]; clear hW; go_size
  have nz2 : w.heap.size + 2 < W.heap.size := by rw [← hW]; clear hW; go_size
  have hWB : Below w.heap.size w W := by
    rw [← hW]
    repeat (first | with_reducible exact Below.refl _ _ | with_reducible assumption | (with_reducible refine balloc ?_) | (with_reducible refine bdrew ?_) | (with_reducible refine bdrewN ?_) | (with_reducible refine bset ?_ (by first | omega | (simp; done) | (simp; omega))) | (with_reducible refine bnext ?_ (by assumption)))
  clear hW
  go_region
  all_goals go_wp2
  all_goals
    refine bodyPost_ret (by simp [results, Try.results16, go_sem, nc10, nc11, nc12, nc13, nc14, nc15, nc16]; try rfl) rfl ?_
    refine ⟨rfl, ?_⟩
    repeat (first | with_reducible exact Below.refl _ _ | with_reducible assumption | (with_reducible refine balloc ?_) | (with_reducible refine bdrew ?_) | (with_reducible refine bdrewN ?_) | (with_reducible refine bset ?_ (by first | omega | (simp; done) | (simp; omega))) | (with_reducible refine bnext ?_ (by assumption)))
end Go.Proofs.Ytnbfmmnbjjeecac
