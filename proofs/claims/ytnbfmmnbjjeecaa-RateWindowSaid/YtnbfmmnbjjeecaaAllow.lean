/- Contracts of rate.Allow, rate.Left and rate.Full. -/
import Derived.Test.YtnbfmmnbjjeecaaBase
namespace Go.Proofs.Ytnbfmmnbjjeecaa
open Go.RowKit
set_option linter.unusedVariables false
/-- the level that Allow and Left see -/
def lev (m t p b now : Int) : Int := lvl (cap p) (cap b) m (clT t) (clT now)
theorem lev_bd (m t p b now : Int) (hp : 0 < p) (hb : 0 < b) : 0 ≤ lev m t p b now ∧ lev m t p b now ≤ 3600000000000 := by
  have h1 := cap_bd p hp; have h2 := cap_bd b hb
  have h3 := lvl_bd (cap p) (cap b) m (clT t) (clT now) (by omega) (by omega)
  unfold lev; omega
theorem ret_m {a b c d : Int} {x y : Bool} (h1 : a = c) (h2 : b = d) (h3 : x = y) : Ending.returned (.tuple #[.agg #[.int .i64 a, .int .i64 b], .bool x]) = .returned (.tuple #[.agg #[.int .i64 c, .int .i64 d], .bool y]) := by rw [h1, h2, h3]
theorem max_if {a b : Int} : max a b = if a < b then b else a := by split <;> omega
/-- Allow takes a message out of the bucket, if it can. -/
theorem Allow_any (m t p b now : Int) (w : World) (hp : 0 < p) (hb : 0 < b) :
    Calls Try.prog 9 #[.agg #[.int .i64 m, .int .i64 t], .int .i64 p, .int .i64 b, .int .i64 now] w fun e w' =>
      e = .returned (.tuple #[.agg #[.int .i64 (if lev m t p b now < 3600000 then lev m t p b now else lev m t p b now - 3600000), .int .i64 (max (clT t) (clT now))], .bool (decide (3600000 ≤ lev m t p b now))]) ∧ Bel w w' := by
  have hu := lev_bd m t p b now hp hb
  unfold lev at *
  have hP := cap_bd p hp
  have hB := cap_bd b hb
  have hT := clT_bd t
  have hN := clT_bd now
  by_cases hl : lvl (cap p) (cap b) m (clT t) (clT now) < 3600000
  all_goals
    go_enter Try.func9, Try.ntmps9
    go_wp2_with (first | (go_at_call 12; refine (limited_yes _ _ _ hp hb).mono ?_; rintro e w1 ⟨rfl, hb1⟩; have xc00 : w1.cell? ⟨w.heap.size, 0, none⟩ = some (.int .i64 m) := bget hb1 (by go_size) (by go_cell); have xf00 : w1.frozen? ⟨w.heap.size, 0, none⟩ = false := bfrz hb1 (by go_size) (by first | assumption | (go_simp; done) | (simp [*]; done)); have xc01 : w1.cell? ⟨w.heap.size, 1, none⟩ = some (.int .i64 t) := bget hb1 (by go_size) (by go_cell); have xf01 : w1.frozen? ⟨w.heap.size, 1, none⟩ = false := bfrz hb1 (by go_size) (by first | assumption | (go_simp; done) | (simp [*]; done)); have xc10 : w1.cell? ⟨w.heap.size + 1, 0, none⟩ = some (.int .i64 0) := bget hb1 (by go_size) (by go_cell); have xf10 : w1.frozen? ⟨w.heap.size + 1, 0, none⟩ = false := bfrz hb1 (by go_size) (by first | assumption | (go_simp; done) | (simp [*]; done)); have xc11 : w1.cell? ⟨w.heap.size + 1, 1, none⟩ = some (.int .i64 0) := bget hb1 (by go_size) (by go_cell); have xf11 : w1.frozen? ⟨w.heap.size + 1, 1, none⟩ = false := bfrz hb1 (by go_size) (by first | assumption | (go_simp; done) | (simp [*]; done)); have xz := hb1.size; simp at xz; have xz0 : w.heap.size < w1.heap.size := (by omega); have xz1 : w.heap.size + 1 < w1.heap.size := (by omega)) | (go_at_call 13; refine (time_any _ _).mono ?_; rintro e w' ⟨rfl, rfl⟩) | (go_at_call 14; go_must (refine (level_bel _ _ _ _ _ _ (by omega) (by omega) (by omega) (by omega) (by omega) (by omega) (by omega) (by omega)).mono ?_; rintro e w2 ⟨rfl, hb2⟩; have yc00 : w2.cell? ⟨w.heap.size, 0, none⟩ = some (.int .i64 m) := bget hb2 (by go_size) (by go_cell); have yf00 : w2.frozen? ⟨w.heap.size, 0, none⟩ = false := bfrz hb2 (by go_size) (by first | assumption | (go_simp; done) | (simp [*]; done)); have yc01 : w2.cell? ⟨w.heap.size, 1, none⟩ = some (.int .i64 (clT t)) := bget hb2 (by go_size) (by go_cell); have yf01 : w2.frozen? ⟨w.heap.size, 1, none⟩ = false := bfrz hb2 (by go_size) (by first | assumption | (go_simp; done) | (simp [*]; done)); have yc10 : w2.cell? ⟨w.heap.size + 1, 0, none⟩ = some (.int .i64 0) := bget hb2 (by go_size) (by go_cell); have yf10 : w2.frozen? ⟨w.heap.size + 1, 0, none⟩ = false := bfrz hb2 (by go_size) (by first | assumption | (go_simp; done) | (simp [*]; done)); have yc11 : w2.cell? ⟨w.heap.size + 1, 1, none⟩ = some (.int .i64 0) := bget hb2 (by go_size) (by go_cell); have yf11 : w2.frozen? ⟨w.heap.size + 1, 1, none⟩ = false := bfrz hb2 (by go_size) (by first | assumption | (go_simp; done) | (simp [*]; done)); have yz := hb2.size; simp at yz; have yz0 : w.heap.size < w2.heap.size := (by omega); have yz1 : w.heap.size + 1 < w2.heap.size := (by omega))))
  all_goals
    refine bodyPost_ret (by simp [results, Try.results9, go_sem, yc10, yc11]; try rfl) rfl ?_
    refine ⟨ret_m (by first | rfl | (split <;> omega)) (by omega) (by first | rfl | (simp; omega)), ?_⟩
    repeat (first | with_reducible exact Below.refl _ _ | with_reducible assumption | (with_reducible refine balloc ?_) | (with_reducible refine bdrew ?_) | (with_reducible refine bset ?_ (by first | omega | (simp; done) | (simp; omega))) | (with_reducible refine bnext ?_ (by assumption)))
/-- Left returns how many messages a bucket allows. -/
theorem Left_any (m t p b now : Int) (w : World) (hp : 0 < p) (hb : 0 < b) :
    Calls Try.prog 10 #[.agg #[.int .i64 m, .int .i64 t], .int .i64 p, .int .i64 b, .int .i64 now] w fun e w' =>
      e = .returned (.int .i64 (lev m t p b now / 3600000)) ∧ Bel w w' := by
  have hu := lev_bd m t p b now hp hb
  unfold lev at *
  have hP := cap_bd p hp
  have hB := cap_bd b hb
  have hT := clT_bd t
  have hN := clT_bd now
  go_enter Try.func10, Try.ntmps10
  go_wp2_with (first | (go_at_call 12; refine (limited_yes _ _ _ hp hb).mono ?_; rintro e w1 ⟨rfl, hb1⟩; have xc00 : w1.cell? ⟨w.heap.size, 0, none⟩ = some (.int .i64 m) := bget hb1 (by go_size) (by go_cell); have xf00 : w1.frozen? ⟨w.heap.size, 0, none⟩ = false := bfrz hb1 (by go_size) (by first | assumption | (go_simp; done) | (simp [*]; done)); have xc01 : w1.cell? ⟨w.heap.size, 1, none⟩ = some (.int .i64 t) := bget hb1 (by go_size) (by go_cell); have xf01 : w1.frozen? ⟨w.heap.size, 1, none⟩ = false := bfrz hb1 (by go_size) (by first | assumption | (go_simp; done) | (simp [*]; done)); have xz := hb1.size; simp at xz; have xz0 : w.heap.size < w1.heap.size := (by omega)) | (go_at_call 13; refine (time_any _ _).mono ?_; rintro e w' ⟨rfl, rfl⟩) | (go_at_call 14; go_must (refine (level_bel _ _ _ _ _ _ (by omega) (by omega) (by omega) (by omega) (by omega) (by omega) (by omega) (by omega)).mono ?_; rintro e w2 ⟨rfl, hb2⟩; have yc00 : w2.cell? ⟨w.heap.size, 0, none⟩ = some (.int .i64 m) := bget hb2 (by go_size) (by go_cell); have yf00 : w2.frozen? ⟨w.heap.size, 0, none⟩ = false := bfrz hb2 (by go_size) (by first | assumption | (go_simp; done) | (simp [*]; done)); have yc01 : w2.cell? ⟨w.heap.size, 1, none⟩ = some (.int .i64 (clT t)) := bget hb2 (by go_size) (by go_cell); have yf01 : w2.frozen? ⟨w.heap.size, 1, none⟩ = false := bfrz hb2 (by go_size) (by first | assumption | (go_simp; done) | (simp [*]; done)); have yz := hb2.size; simp at yz; have yz0 : w.heap.size < w2.heap.size := (by omega))))
  generalize hW : (w1.setCell ⟨w.heap.size, 1, none⟩ (Value.int IntKind.i64 (clT t))).alloc (Obj.cells #[Value.int IntKind.i64 (cap p), Value.int IntKind.i64 (cap b)] 36) = W
  have d0 := sget (W := W) (b := w1.heap.size) (o := 0) (v := .int .i64 (cap p)) (by rw [← hW]; go_size) (by rw [← hW]; clear hW; go_cell)
  have d1 := sget (W := W) (b := w1.heap.size) (o := 1) (v := .int .i64 (cap b)) (by rw [← hW]; go_size) (by rw [← hW]; clear hW; go_cell)
  have d2 := sget (W := W) (b := w.heap.size) (o := 0) (v := .int .i64 m) (by rw [← hW]; go_size) (by rw [← hW]; clear hW; go_cell)
  have d3 := sget (W := W) (b := w.heap.size) (o := 1) (v := .int .i64 (clT t)) (by rw [← hW]; go_size) (by rw [← hW]; clear hW; go_cell)
  have hWB : Below w.heap.size w W := by
    rw [← hW]
    repeat (first | with_reducible exact Below.refl _ _ | with_reducible assumption | (with_reducible refine balloc ?_) | (with_reducible refine bdrew ?_) | (with_reducible refine bset ?_ (by first | omega | (simp; done) | (simp; omega))) | (with_reducible refine bnext ?_ (by assumption)))
  clear hW
  refine wp_region_bel (by kernel_rfl) (by kernel_rfl) ?_
  repeat (go_big_quiet_step (first | (go_at_call 13; exact Calls.bel_same (time_any _ _)) | (go_at_call 14; exact Calls.bel_of (level_bel _ _ _ _ _ _ (by omega) (by omega) (by omega) (by omega) (by omega) (by omega) (by omega) (by omega)))))
  refine wpQuiet_nil ?_
  rintro _ ⟨s, rfl⟩
  go_wp2
  go_ret
  exact ⟨rfl, bnext hWB s.2⟩
theorem Left_none (m t b now : Int) (w : World) :
    Calls Try.prog 10 #[.agg #[.int .i64 m, .int .i64 t], .int .i64 0, .int .i64 b, .int .i64 now] w fun e w' =>
      e = .returned (.int .i64 (-1)) ∧ Bel w w' := by
  go_enter Try.func10, Try.ntmps10
  go_wp2_with (first | (go_at_call 12; refine (limited_no _ _ _ (by omega)).mono ?_; rintro e w1 ⟨rfl, hb1⟩; have xc00 : w1.cell? ⟨w.heap.size, 0, none⟩ = some (.int .i64 m) := bget hb1 (by go_size) (by go_cell); have xf00 : w1.frozen? ⟨w.heap.size, 0, none⟩ = false := bfrz hb1 (by go_size) (by first | assumption | (go_simp; done) | (simp [*]; done)); have xc01 : w1.cell? ⟨w.heap.size, 1, none⟩ = some (.int .i64 t) := bget hb1 (by go_size) (by go_cell); have xf01 : w1.frozen? ⟨w.heap.size, 1, none⟩ = false := bfrz hb1 (by go_size) (by first | assumption | (go_simp; done) | (simp [*]; done)); have xz := hb1.size; simp at xz; have xz0 : w.heap.size < w1.heap.size := (by omega)))
  go_ret
  refine ⟨rfl, ?_⟩
  repeat (first | with_reducible exact Below.refl _ _ | with_reducible assumption | (with_reducible refine balloc ?_) | (with_reducible refine bdrew ?_) | (with_reducible refine bset ?_ (by first | omega | (simp; done) | (simp; omega))) | (with_reducible refine bnext ?_ (by assumption)))
theorem Full_any (b now : Int) (w : World) :
    Calls Try.prog 11 #[.int .i64 b, .int .i64 now] w fun e w' =>
      e = .returned (.agg #[.int .i64 (min (max b 0) 1000000 * 3600000), .int .i64 (clT now)]) ∧ Bel w w' := by
  go_enter Try.func11, Try.ntmps11
  go_wp2_with (first | (go_at_call 13; refine (time_any _ _).mono ?_; rintro e w' ⟨rfl, rfl⟩) | (go_at_call 15; refine (within_any _ _ _ _).mono ?_; rintro e w' ⟨rfl, rfl⟩))
  go_returns
  exact ⟨rfl, by go_grown⟩
theorem Allow_at (m t p b now m' t' : Int) (ok : Bool) (w : World) (hp : 0 < p) (hb : 0 < b) (h1 : (if lev m t p b now < 3600000 then lev m t p b now else lev m t p b now - 3600000) = m') (h2 : max (clT t) (clT now) = t') (h3 : decide (3600000 ≤ lev m t p b now) = ok) :
    Calls Try.prog 9 #[.agg #[.int .i64 m, .int .i64 t], .int .i64 p, .int .i64 b, .int .i64 now] w fun e w' => e = .returned (.tuple #[.agg #[.int .i64 m', .int .i64 t'], .bool ok]) ∧ Bel w w' := by
  subst h1 h2 h3; exact Allow_any m t p b now w hp hb
theorem Left_at (m t p b now n : Int) (w : World) (hp : 0 < p) (hb : 0 < b) (h1 : lev m t p b now / 3600000 = n) :
    Calls Try.prog 10 #[.agg #[.int .i64 m, .int .i64 t], .int .i64 p, .int .i64 b, .int .i64 now] w fun e w' => e = .returned (.int .i64 n) ∧ Bel w w' := by
  subst h1; exact Left_any m t p b now w hp hb
theorem Full_at (b now m t : Int) (w : World) (h1 : min (max b 0) 1000000 * 3600000 = m) (h2 : clT now = t) :
    Calls Try.prog 11 #[.int .i64 b, .int .i64 now] w fun e w' => e = .returned (.agg #[.int .i64 m, .int .i64 t]) ∧ Bel w w' := by
  subst h1 h2; exact Full_any b now w
end Go.Proofs.Ytnbfmmnbjjeecaa
