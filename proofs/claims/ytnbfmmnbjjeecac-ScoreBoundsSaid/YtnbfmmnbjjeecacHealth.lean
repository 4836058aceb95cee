/- package score: New, Resume, Success, Bounce over a structure. -/
import Derived.Test.YtnbfmmnbjjeecacBounce
import Derived.Test.YtnbfmmnbjjeecacTail
namespace Go.Proofs.Ytnbfmmnbjjeecac
open Go.RowKit
set_option linter.unusedVariables false
/-- api.Health -/
structure H where
  a : ByteArray
  sc : Int
  dy : Int
  td : Int
  st : Int
  nx : Int
  pr : Int
/-- What Bounce does. -/
def bounceH (h : H) (now : Int) (hard : Bool) : H :=
  if h.st = 3 then h else
    let pt : Int := if hard = true then 1000 else 250
    let dd := max (now / 86400000) h.dy
    let s := sc1 h.sc h.dy h.td dd pt
    ⟨h.a, s, dd, td1 h.dy h.td dd pt, if susp h.st s then 1 else h.st, if susp h.st s then now + 86400000 else h.nx, if susp h.st s then 0 else h.pr⟩
/-- The bounds under which the arithmetic does not wrap. -/
def HOk (h : H) (now : Int) : Prop := 0 ≤ now ∧ now ≤ 1125899906842624 ∧ 0 ≤ h.sc ∧ h.sc ≤ 1125899906842624 ∧ -1 ≤ h.dy ∧ h.dy ≤ 1125899906842624 ∧ (now / 86400000 ≤ h.dy → 0 ≤ h.td ∧ h.td ≤ 1125899906842624)
theorem Bounce_h (h r : H) (now : Int) (hard : Bool) (w : World) (ok : HOk h now) (hr : bounceH h now hard = r) :
    Calls Try.prog 8 #[.agg #[.string h.a, .int .i64 h.sc, .int .i64 h.dy, .int .i64 h.td, .int .i64 h.st, .int .i64 h.nx, .int .i64 h.pr], .int .i64 now, .bool hard] w fun e w' => e = .returned (.agg #[.string r.a, .int .i64 r.sc, .int .i64 r.dy, .int .i64 r.td, .int .i64 r.st, .int .i64 r.nx, .int .i64 r.pr]) ∧ Bel w w' := by
  by_cases hst : h.st = 3
  · have e : h = r := by rw [← hr, bounceH, if_pos hst]
    subst e
    have hst' : (h.st == 3) = true := by simp [hst]
    clear hr hst
    go_enter Try.func8, Try.ntmps8
    go_wp2
    refine bodyPost_ret (by simp [results, Try.results8, go_sem]; try rfl) rfl ?_
    refine ⟨rfl, ?_⟩
    repeat (first | with_reducible exact Below.refl _ _ | with_reducible assumption | (with_reducible refine balloc ?_) | (with_reducible refine bdrew ?_) | (with_reducible refine bdrewN ?_) | (with_reducible refine bset ?_ (by first | omega | (simp; done) | (simp; omega))) | (with_reducible refine bnext ?_ (by assumption)))
  · obtain ⟨o1, o2, o3, o4, o5, o6, o7⟩ := ok
    refine (Bounce_any h.a h.sc h.dy h.td h.st h.nx h.pr now _ _ hard w (by simp [hst]) o1 o2 o3 o4 o5 o6 o7 rfl rfl).mono ?_
    rintro e w' ⟨he, hb⟩
    refine ⟨?_, hb⟩
    rw [he, ← hr, bounceH, if_neg hst]
theorem New_any (a : ByteArray) (w : World) : Calls Try.prog 10 #[.string a] w fun e w' => e = .returned (.agg #[.string a, .int .i64 0, .int .i64 (-1), .int .i64 0, .int .i64 0, .int .i64 0, .int .i64 0]) ∧ Bel w w' := by
  go_enter Try.func10, Try.ntmps10
  go_wp2
  refine bodyPost_ret (by simp [results, Try.results10, go_sem]; try rfl) rfl ?_
  refine ⟨rfl, ?_⟩
  repeat (first | with_reducible exact Below.refl _ _ | with_reducible assumption | (with_reducible refine balloc ?_) | (with_reducible refine bdrew ?_) | (with_reducible refine bdrewN ?_) | (with_reducible refine bset ?_ (by first | omega | (simp; done) | (simp; omega))) | (with_reducible refine bnext ?_ (by assumption)))
theorem Resume_any (h : H) (w : World) : Calls Try.prog 14 #[.agg #[.string h.a, .int .i64 h.sc, .int .i64 h.dy, .int .i64 h.td, .int .i64 h.st, .int .i64 h.nx, .int .i64 h.pr]] w fun e w' => e = .returned (.agg #[.string h.a, .int .i64 0, .int .i64 (-1), .int .i64 0, .int .i64 0, .int .i64 0, .int .i64 0]) ∧ Bel w w' := by
  go_enter Try.func14, Try.ntmps14
  go_wp2_with (go_at_call 10; refine (New_any _ _).mono ?_; rintro e w1 ⟨rfl, hb1⟩; have xc00 : w1.cell? ⟨w.heap.size, 0, none⟩ = some (.string h.a) := bget hb1 (by go_size) (by go_cell); have xf00 : w1.frozen? ⟨w.heap.size, 0, none⟩ = false := bfrz hb1 (by go_size) (by first | (with_reducible assumption) | (go_simp; done) | (simp [*]; done)); have xc01 : w1.cell? ⟨w.heap.size, 1, none⟩ = some (.int .i64 h.sc) := bget hb1 (by go_size) (by go_cell); have xf01 : w1.frozen? ⟨w.heap.size, 1, none⟩ = false := bfrz hb1 (by go_size) (by first | (with_reducible assumption) | (go_simp; done) | (simp [*]; done)); have xc02 : w1.cell? ⟨w.heap.size, 2, none⟩ = some (.int .i64 h.dy) := bget hb1 (by go_size) (by go_cell); have xf02 : w1.frozen? ⟨w.heap.size, 2, none⟩ = false := bfrz hb1 (by go_size) (by first | (with_reducible assumption) | (go_simp; done) | (simp [*]; done)); have xc03 : w1.cell? ⟨w.heap.size, 3, none⟩ = some (.int .i64 h.td) := bget hb1 (by go_size) (by go_cell); have xf03 : w1.frozen? ⟨w.heap.size, 3, none⟩ = false := bfrz hb1 (by go_size) (by first | (with_reducible assumption) | (go_simp; done) | (simp [*]; done)); have xc04 : w1.cell? ⟨w.heap.size, 4, none⟩ = some (.int .i64 h.st) := bget hb1 (by go_size) (by go_cell); have xf04 : w1.frozen? ⟨w.heap.size, 4, none⟩ = false := bfrz hb1 (by go_size) (by first | (with_reducible assumption) | (go_simp; done) | (simp [*]; done)); have xc05 : w1.cell? ⟨w.heap.size, 5, none⟩ = some (.int .i64 h.nx) := bget hb1 (by go_size) (by go_cell); have xf05 : w1.frozen? ⟨w.heap.size, 5, none⟩ = false := bfrz hb1 (by go_size) (by first | (with_reducible assumption) | (go_simp; done) | (simp [*]; done)); have xc06 : w1.cell? ⟨w.heap.size, 6, none⟩ = some (.int .i64 h.pr) := bget hb1 (by go_size) (by go_cell); have xf06 : w1.frozen? ⟨w.heap.size, 6, none⟩ = false := bfrz hb1 (by go_size) (by first | (with_reducible assumption) | (go_simp; done) | (simp [*]; done)); have xc10 : w1.cell? ⟨w.heap.size + 1, 0, none⟩ = some (.string { data := #[] }) := bget hb1 (by go_size) (by go_cell); have xf10 : w1.frozen? ⟨w.heap.size + 1, 0, none⟩ = false := bfrz hb1 (by go_size) (by first | (with_reducible assumption) | (go_simp; done) | (simp [*]; done)); have xc11 : w1.cell? ⟨w.heap.size + 1, 1, none⟩ = some (.int .i64 0) := bget hb1 (by go_size) (by go_cell); have xf11 : w1.frozen? ⟨w.heap.size + 1, 1, none⟩ = false := bfrz hb1 (by go_size) (by first | (with_reducible assumption) | (go_simp; done) | (simp [*]; done)); have xc12 : w1.cell? ⟨w.heap.size + 1, 2, none⟩ = some (.int .i64 0) := bget hb1 (by go_size) (by go_cell); have xf12 : w1.frozen? ⟨w.heap.size + 1, 2, none⟩ = false := bfrz hb1 (by go_size) (by first | (with_reducible assumption) | (go_simp; done) | (simp [*]; done)); have xc13 : w1.cell? ⟨w.heap.size + 1, 3, none⟩ = some (.int .i64 0) := bget hb1 (by go_size) (by go_cell); have xf13 : w1.frozen? ⟨w.heap.size + 1, 3, none⟩ = false := bfrz hb1 (by go_size) (by first | (with_reducible assumption) | (go_simp; done) | (simp [*]; done)); have xc14 : w1.cell? ⟨w.heap.size + 1, 4, none⟩ = some (.int .i64 0) := bget hb1 (by go_size) (by go_cell); have xf14 : w1.frozen? ⟨w.heap.size + 1, 4, none⟩ = false := bfrz hb1 (by go_size) (by first | (with_reducible assumption) | (go_simp; done) | (simp [*]; done)); have xc15 : w1.cell? ⟨w.heap.size + 1, 5, none⟩ = some (.int .i64 0) := bget hb1 (by go_size) (by go_cell); have xf15 : w1.frozen? ⟨w.heap.size + 1, 5, none⟩ = false := bfrz hb1 (by go_size) (by first | (with_reducible assumption) | (go_simp; done) | (simp [*]; done)); have xc16 : w1.cell? ⟨w.heap.size + 1, 6, none⟩ = some (.int .i64 0) := bget hb1 (by go_size) (by go_cell); have xf16 : w1.frozen? ⟨w.heap.size + 1, 6, none⟩ = false := bfrz hb1 (by go_size) (by first | (with_reducible assumption) | (go_simp; done) | (simp [*]; done)); have xz0 : w.heap.size < w1.heap.size := bsize hb1 (by go_size); have xz1 : w.heap.size + 1 < w1.heap.size := bsize hb1 (by go_size))
  refine bodyPost_ret (by simp [results, Try.results14, go_sem, xc10, xc11, xc12, xc13, xc14, xc15, xc16]; try rfl) rfl ?_
  refine ⟨rfl, ?_⟩
  repeat (first | with_reducible exact Below.refl _ _ | with_reducible assumption | (with_reducible refine balloc ?_) | (with_reducible refine bdrew ?_) | (with_reducible refine bdrewN ?_) | (with_reducible refine bset ?_ (by first | omega | (simp; done) | (simp; omega))) | (with_reducible refine bnext ?_ (by assumption)))
/-- What Success does. -/
def successH (h : H) (now : Int) : H := if h.st = 0 ∧ h.dy + 1 < now / 86400000 then { h with sc := 0 } else h
theorem Success_h (h r : H) (now : Int) (w : World) (h0 : 0 ≤ now) (h1 : now ≤ 1125899906842624) (h2 : -1 ≤ h.dy) (h3 : h.dy ≤ 1125899906842624) (hr : successH h now = r) :
    Calls Try.prog 15 #[.agg #[.string h.a, .int .i64 h.sc, .int .i64 h.dy, .int .i64 h.td, .int .i64 h.st, .int .i64 h.nx, .int .i64 h.pr], .int .i64 now] w fun e w' => e = .returned (.agg #[.string r.a, .int .i64 r.sc, .int .i64 r.dy, .int .i64 r.td, .int .i64 r.st, .int .i64 r.nx, .int .i64 r.pr]) ∧ Bel w w' := by
  by_cases c1 : h.st = 0
  · have c1' : (h.st == 0) = true := by simp [c1]
    by_cases c2 : h.dy + 1 < now / 86400000
    · have e : r = { h with sc := 0 } := by rw [← hr, successH, if_pos ⟨c1, c2⟩]
      subst e
      clear hr c1
      go_enter Try.func15, Try.ntmps15
      go_wp2_with fail
      go_quiet ((go_at_call 18; exact Calls.quiet_of_same (day_q _ _ h0 (by omega))))
      go_wp2_with fail
      refine bodyPost_ret (by simp [results, Try.results15, go_sem]; try rfl) rfl ?_
      refine ⟨rfl, ?_⟩
      repeat (first | with_reducible exact Below.refl _ _ | with_reducible assumption | (with_reducible refine balloc ?_) | (with_reducible refine bdrew ?_) | (with_reducible refine bdrewN ?_) | (with_reducible refine bset ?_ (by first | omega | (simp; done) | (simp; omega))) | (with_reducible refine bnext ?_ (by assumption)))
    · have e : r = h := by rw [← hr, successH, if_neg (fun hh => c2 hh.2)]
      subst e
      clear hr c1
      go_enter Try.func15, Try.ntmps15
      go_wp2_with fail
      go_quiet ((go_at_call 18; exact Calls.quiet_of_same (day_q _ _ h0 (by omega))))
      go_wp2_with fail
      refine bodyPost_ret (by simp [results, Try.results15, go_sem]; try rfl) rfl ?_
      refine ⟨rfl, ?_⟩
      repeat (first | with_reducible exact Below.refl _ _ | with_reducible assumption | (with_reducible refine balloc ?_) | (with_reducible refine bdrew ?_) | (with_reducible refine bdrewN ?_) | (with_reducible refine bset ?_ (by first | omega | (simp; done) | (simp; omega))) | (with_reducible refine bnext ?_ (by assumption)))
  · have e : r = h := by rw [← hr, successH, if_neg (fun hh => c1 hh.1)]
    subst e
    have c1' : (r.st == 0) = false := by simp [c1]
    clear hr c1
    go_enter Try.func15, Try.ntmps15
    go_wp2_with fail
    go_quiet ((go_at_call 18; exact Calls.quiet_of_same (day_q _ _ h0 (by omega))))
    go_wp2_with fail
    refine bodyPost_ret (by simp [results, Try.results15, go_sem]; try rfl) rfl ?_
    refine ⟨rfl, ?_⟩
    repeat (first | with_reducible exact Below.refl _ _ | with_reducible assumption | (with_reducible refine balloc ?_) | (with_reducible refine bdrew ?_) | (with_reducible refine bdrewN ?_) | (with_reducible refine bset ?_ (by first | omega | (simp; done) | (simp; omega))) | (with_reducible refine bnext ?_ (by assumption)))
end Go.Proofs.Ytnbfmmnbjjeecac
