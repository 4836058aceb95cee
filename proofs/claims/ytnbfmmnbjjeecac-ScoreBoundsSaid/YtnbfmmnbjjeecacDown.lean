/- package score: Down over a structure; what Tick does. -/
import Derived.Test.YtnbfmmnbjjeecacHealth
import Derived.Test.YtnbfmmnbjjeecacTail
namespace Go.Proofs.Ytnbfmmnbjjeecac
open Go.RowKit
set_option linter.unusedVariables false
/-- What Down does. -/
def downH (h : H) (now : Int) (ok : Bool) : H :=
  if h.st ≠ 2 then (if ok = true then h else bounceH h now true)
  else if ok = true then { h with st := 0, sc := 0, nx := 0, pr := 0 }
  else if 3 ≤ h.pr + 1 then { h with pr := h.pr + 1, st := 3, nx := 0 }
  else if h.pr + 1 ≤ 1 then { h with pr := h.pr + 1, st := 1, nx := now + 259200000 }
  else { h with pr := h.pr + 1, st := 1, nx := now + 604800000 }
set_option maxHeartbeats 1000000 in
theorem Down_h (h r : H) (now : Int) (ok : Bool) (w : World) (hk : HOk h now) (hp0 : -1 ≤ h.pr) (hp1 : h.pr ≤ 1000) (hr : downH h now ok = r) :
    Calls Try.prog 17 #[.agg #[.string h.a, .int .i64 h.sc, .int .i64 h.dy, .int .i64 h.td, .int .i64 h.st, .int .i64 h.nx, .int .i64 h.pr], .int .i64 now, .bool ok] w fun e w' => e = .returned (.agg #[.string r.a, .int .i64 r.sc, .int .i64 r.dy, .int .i64 r.td, .int .i64 r.st, .int .i64 r.nx, .int .i64 r.pr]) ∧ Bel w w' := by
  have hk' := hk
  obtain ⟨o1, o2, o3, o4, o5, o6, o7⟩ := hk
  clear o7
  by_cases c1 : h.st = 2
  · have c1' : (h.st == 2) = true := by simp [c1]
    have c1'' : (h.st != 2) = false := by simp [c1]
    cases ok
    · by_cases c2 : 3 ≤ h.pr + 1
      · have e : r = { h with pr := h.pr + 1, st := 3, nx := 0 } := by rw [← hr, downH, if_neg (by simp [c1]), if_neg (by simp), if_pos c2]
        subst e
        clear hr c1 hk'
        go_enter Try.func17, Try.ntmps17
        go_wp2
        refine bodyPost_ret (by simp [results, Try.results17, go_sem]; try rfl) rfl ?_
        refine ⟨rfl, ?_⟩
        repeat (first | with_reducible exact Below.refl _ _ | with_reducible assumption | (with_reducible refine balloc ?_) | (with_reducible refine bdrew ?_) | (with_reducible refine bdrewN ?_) | (with_reducible refine bset ?_ (by first | omega | (simp; done) | (simp; omega))) | (with_reducible refine bnext ?_ (by assumption)))
      · by_cases c3 : h.pr + 1 ≤ 1
        · have e : r = { h with pr := h.pr + 1, st := 1, nx := now + 259200000 } := by rw [← hr, downH, if_neg (by simp [c1]), if_neg (by simp), if_neg c2, if_pos c3]
          subst e
          clear hr c1 hk'
          go_enter Try.func17, Try.ntmps17
          go_wp2
          refine bodyPost_ret (by simp [results, Try.results17, go_sem]; try rfl) rfl ?_
          refine ⟨rfl, ?_⟩
          repeat (first | with_reducible exact Below.refl _ _ | with_reducible assumption | (with_reducible refine balloc ?_) | (with_reducible refine bdrew ?_) | (with_reducible refine bdrewN ?_) | (with_reducible refine bset ?_ (by first | omega | (simp; done) | (simp; omega))) | (with_reducible refine bnext ?_ (by assumption)))
        · have e : r = { h with pr := h.pr + 1, st := 1, nx := now + 604800000 } := by rw [← hr, downH, if_neg (by simp [c1]), if_neg (by simp), if_neg c2, if_neg c3]
          subst e
          clear hr c1 hk'
          go_enter Try.func17, Try.ntmps17
          go_wp2
          refine bodyPost_ret (by simp [results, Try.results17, go_sem]; try rfl) rfl ?_
          refine ⟨rfl, ?_⟩
          repeat (first | with_reducible exact Below.refl _ _ | with_reducible assumption | (with_reducible refine balloc ?_) | (with_reducible refine bdrew ?_) | (with_reducible refine bdrewN ?_) | (with_reducible refine bset ?_ (by first | omega | (simp; done) | (simp; omega))) | (with_reducible refine bnext ?_ (by assumption)))
    · have e : r = { h with st := 0, sc := 0, nx := 0, pr := 0 } := by rw [← hr, downH, if_neg (by simp [c1]), if_pos rfl]
      subst e
      clear hr c1 hk'
      go_enter Try.func17, Try.ntmps17
      go_wp2
      refine bodyPost_ret (by simp [results, Try.results17, go_sem]; try rfl) rfl ?_
      refine ⟨rfl, ?_⟩
      repeat (first | with_reducible exact Below.refl _ _ | with_reducible assumption | (with_reducible refine balloc ?_) | (with_reducible refine bdrew ?_) | (with_reducible refine bdrewN ?_) | (with_reducible refine bset ?_ (by first | omega | (simp; done) | (simp; omega))) | (with_reducible refine bnext ?_ (by assumption)))
  · have c1' : (h.st == 2) = false := by simp [c1]
    have c1'' : (h.st != 2) = true := by simp [c1]
    cases ok
    · have e : bounceH h now true = r := by rw [← hr, downH, if_pos c1, if_neg (by simp)]
      clear hr c1
      replace e := Lib.hid e
      replace hk' := Lib.hid hk'
      go_enter Try.func17, Try.ntmps17
      go_wp2_with (go_at_call 8; refine (Bounce_h h r now true _ hk'.out e.out).mono ?_; rintro e w1 ⟨rfl, hb1⟩; have xc00 : w1.cell? ⟨w.heap.size, 0, none⟩ = some (.string h.a) := bget hb1 (by go_size) (by go_cell); have xf00 : w1.frozen? ⟨w.heap.size, 0, none⟩ = false := bfrz hb1 (by go_size) (by first | (with_reducible assumption) | (go_simp; done) | (simp [*]; done)); have xc01 : w1.cell? ⟨w.heap.size, 1, none⟩ = some (.int .i64 h.sc) := bget hb1 (by go_size) (by go_cell); have xf01 : w1.frozen? ⟨w.heap.size, 1, none⟩ = false := bfrz hb1 (by go_size) (by first | (with_reducible assumption) | (go_simp; done) | (simp [*]; done)); have xc02 : w1.cell? ⟨w.heap.size, 2, none⟩ = some (.int .i64 h.dy) := bget hb1 (by go_size) (by go_cell); have xf02 : w1.frozen? ⟨w.heap.size, 2, none⟩ = false := bfrz hb1 (by go_size) (by first | (with_reducible assumption) | (go_simp; done) | (simp [*]; done)); have xc03 : w1.cell? ⟨w.heap.size, 3, none⟩ = some (.int .i64 h.td) := bget hb1 (by go_size) (by go_cell); have xf03 : w1.frozen? ⟨w.heap.size, 3, none⟩ = false := bfrz hb1 (by go_size) (by first | (with_reducible assumption) | (go_simp; done) | (simp [*]; done)); have xc04 : w1.cell? ⟨w.heap.size, 4, none⟩ = some (.int .i64 h.st) := bget hb1 (by go_size) (by go_cell); have xf04 : w1.frozen? ⟨w.heap.size, 4, none⟩ = false := bfrz hb1 (by go_size) (by first | (with_reducible assumption) | (go_simp; done) | (simp [*]; done)); have xc05 : w1.cell? ⟨w.heap.size, 5, none⟩ = some (.int .i64 h.nx) := bget hb1 (by go_size) (by go_cell); have xf05 : w1.frozen? ⟨w.heap.size, 5, none⟩ = false := bfrz hb1 (by go_size) (by first | (with_reducible assumption) | (go_simp; done) | (simp [*]; done)); have xc06 : w1.cell? ⟨w.heap.size, 6, none⟩ = some (.int .i64 h.pr) := bget hb1 (by go_size) (by go_cell); have xf06 : w1.frozen? ⟨w.heap.size, 6, none⟩ = false := bfrz hb1 (by go_size) (by first | (with_reducible assumption) | (go_simp; done) | (simp [*]; done)); have xc10 : w1.cell? ⟨w.heap.size + 1, 0, none⟩ = some (.string { data := #[] }) := bget hb1 (by go_size) (by go_cell); have xf10 : w1.frozen? ⟨w.heap.size + 1, 0, none⟩ = false := bfrz hb1 (by go_size) (by first | (with_reducible assumption) | (go_simp; done) | (simp [*]; done)); have xc11 : w1.cell? ⟨w.heap.size + 1, 1, none⟩ = some (.int .i64 0) := bget hb1 (by go_size) (by go_cell); have xf11 : w1.frozen? ⟨w.heap.size + 1, 1, none⟩ = false := bfrz hb1 (by go_size) (by first | (with_reducible assumption) | (go_simp; done) | (simp [*]; done)); have xc12 : w1.cell? ⟨w.heap.size + 1, 2, none⟩ = some (.int .i64 0) := bget hb1 (by go_size) (by go_cell); have xf12 : w1.frozen? ⟨w.heap.size + 1, 2, none⟩ = false := bfrz hb1 (by go_size) (by first | (with_reducible assumption) | (go_simp; done) | (simp [*]; done)); have xc13 : w1.cell? ⟨w.heap.size + 1, 3, none⟩ = some (.int .i64 0) := bget hb1 (by go_size) (by go_cell); have xf13 : w1.frozen? ⟨w.heap.size + 1, 3, none⟩ = false := bfrz hb1 (by go_size) (by first | (with_reducible assumption) | (go_simp; done) | (simp [*]; done)); have xc14 : w1.cell? ⟨w.heap.size + 1, 4, none⟩ = some (.int .i64 0) := bget hb1 (by go_size) (by go_cell); have xf14 : w1.frozen? ⟨w.heap.size + 1, 4, none⟩ = false := bfrz hb1 (by go_size) (by first | (with_reducible assumption) | (go_simp; done) | (simp [*]; done)); have xc15 : w1.cell? ⟨w.heap.size + 1, 5, none⟩ = some (.int .i64 0) := bget hb1 (by go_size) (by go_cell); have xf15 : w1.frozen? ⟨w.heap.size + 1, 5, none⟩ = false := bfrz hb1 (by go_size) (by first | (with_reducible assumption) | (go_simp; done) | (simp [*]; done)); have xc16 : w1.cell? ⟨w.heap.size + 1, 6, none⟩ = some (.int .i64 0) := bget hb1 (by go_size) (by go_cell); have xf16 : w1.frozen? ⟨w.heap.size + 1, 6, none⟩ = false := bfrz hb1 (by go_size) (by first | (with_reducible assumption) | (go_simp; done) | (simp [*]; done)); have xz0 : w.heap.size < w1.heap.size := bsize hb1 (by go_size); have xz1 : w.heap.size + 1 < w1.heap.size := bsize hb1 (by go_size))
      refine bodyPost_ret (by simp [results, Try.results17, go_sem, xc10, xc11, xc12, xc13, xc14, xc15, xc16]; try rfl) rfl ?_
      refine ⟨rfl, ?_⟩
      repeat (first | with_reducible exact Below.refl _ _ | with_reducible assumption | (with_reducible refine balloc ?_) | (with_reducible refine bdrew ?_) | (with_reducible refine bdrewN ?_) | (with_reducible refine bset ?_ (by first | omega | (simp; done) | (simp; omega))) | (with_reducible refine bnext ?_ (by assumption)))
    · have e : r = h := by rw [← hr, downH, if_pos c1, if_pos rfl]
      subst e
      clear hr c1 hk'
      go_enter Try.func17, Try.ntmps17
      go_wp2
      refine bodyPost_ret (by simp [results, Try.results17, go_sem]; try rfl) rfl ?_
      refine ⟨rfl, ?_⟩
      repeat (first | with_reducible exact Below.refl _ _ | with_reducible assumption | (with_reducible refine balloc ?_) | (with_reducible refine bdrew ?_) | (with_reducible refine bdrewN ?_) | (with_reducible refine bset ?_ (by first | omega | (simp; done) | (simp; omega))) | (with_reducible refine bnext ?_ (by assumption)))
/-- What Tick does. -/
def tickH (h : H) (now : Int) : H := if h.nx ≤ now then (if h.st = 1 then { h with st := 2, nx := now + 604800000 } else if h.st = 2 then downH h now false else h) else h
end Go.Proofs.Ytnbfmmnbjjeecac
