/- score.day and score.Bounce: what they return. -/
import Derived.Test.YtnbfmmnbjjeecacRows
import Derived.Test.YtnbfmmnbjjeecacKit
namespace Go.Proofs.Ytnbfmmnbjjeecac
open Go.RowKit
set_option linter.unusedVariables false
theorem day_any (now : Int) (w : World) (h0 : 0 ≤ now) (h1 : now ≤ 4611686018427387904) : Calls Try.prog 18 #[.int .i64 now] w fun e w' => e = .returned (.int .i64 (now / 86400000)) ∧ w = w' := by
  have h2 : now / 86400000 * 86400000 ≤ now := by omega
  have h3 : 0 ≤ now / 86400000 := by omega
  go_enter Try.func18, Try.ntmps18
  go_wp2
  go_ret
  exact ⟨rfl, rfl⟩
theorem day_q (now : Int) (w : World) (h0 : 0 ≤ now) (h1 : now ≤ 4611686018427387904) : Calls Try.prog 18 #[.int .i64 now] w fun e w' => e = .returned (.int .i64 (now / 86400000)) ∧ w' = w :=
  (day_any now w h0 h1).mono fun _ _ h => ⟨h.1, h.2.symm⟩
def sc1 (sc dy td dd pt : Int) : Int := if dd = dy then (if td < pt then sc + (pt - td) else sc) else if dy ≠ -1 ∧ 7 < dd - dy then 0 + pt else sc + pt
def td1 (dy td dd pt : Int) : Int := if dd = dy then (if td < pt then pt else td) else pt
def susp (st s : Int) : Bool := decide (st = 0 ∧ 3000 ≤ s)
theorem ret_h {a : ByteArray} {b c d e f g b' c' d' e' f' g' : Int} (h1 : b = b') (h2 : c = c') (h3 : d = d') (h4 : e = e') (h5 : f = f') (h6 : g = g') :
    Ending.returned (.agg #[.string a, .int .i64 b, .int .i64 c, .int .i64 d, .int .i64 e, .int .i64 f, .int .i64 g]) = .returned (.agg #[.string a, .int .i64 b', .int .i64 c', .int .i64 d', .int .i64 e', .int .i64 f', .int .i64 g']) := by
  rw [h1, h2, h3, h4, h5, h6]
/-- What Bounce returns. -/
def BP (a : ByteArray) (sc dy td st nx pr now pt dd : Int) (w : World) (e : Ending) (w' : World) : Prop :=
  e = .returned (.agg #[.string a, .int .i64 (sc1 sc dy td dd pt), .int .i64 dd, .int .i64 (td1 dy td dd pt), .int .i64 (if susp st (sc1 sc dy td dd pt) then 1 else st), .int .i64 (if susp st (sc1 sc dy td dd pt) then now + 86400000 else nx), .int .i64 (if susp st (sc1 sc dy td dd pt) then 0 else pr)]) ∧ Bel w w'
theorem BP_yes {a : ByteArray} {sc dy td st nx pr now pt dd s t : Int} {w : World} {e : Ending} {w' : World} (hs : sc1 sc dy td dd pt = s) (ht : td1 dy td dd pt = t) (h0 : st = 0) (h1 : 3000 ≤ s)
    (he : e = .returned (.agg #[.string a, .int .i64 s, .int .i64 dd, .int .i64 t, .int .i64 1, .int .i64 (now + 86400000), .int .i64 0])) (hb : Bel w w') : BP a sc dy td st nx pr now pt dd w e w' := by
  subst hs ht
  have : susp st (sc1 sc dy td dd pt) = true := by simp [susp, h0, h1]
  exact ⟨by rw [he, this]; simp, hb⟩
theorem BP_no {a : ByteArray} {sc dy td st nx pr now pt dd s t st' : Int} {w : World} {e : Ending} {w' : World} (hs : sc1 sc dy td dd pt = s) (ht : td1 dy td dd pt = t) (hst : st = st') (h0 : st = 0 → s < 3000)
    (he : e = .returned (.agg #[.string a, .int .i64 s, .int .i64 dd, .int .i64 t, .int .i64 st', .int .i64 nx, .int .i64 pr])) (hb : Bel w w') : BP a sc dy td st nx pr now pt dd w e w' := by
  subst hs ht hst
  have : susp st (sc1 sc dy td dd pt) = false := by simp [susp]; intro h; have := h0 h; omega
  exact ⟨by rw [he, this]; simp, hb⟩
set_option maxHeartbeats 2000000 in
theorem Bounce_any (a : ByteArray) (sc dy td st nx pr now pt dd : Int) (hard : Bool) (w : World) (hst : (st == 3) = false) (h0 : 0 ≤ now) (h1 : now ≤ 1125899906842624) (hs0 : 0 ≤ sc) (hs1 : sc ≤ 1125899906842624) (hd0 : -1 ≤ dy) (hd1 : dy ≤ 1125899906842624)
    (htd : now / 86400000 ≤ dy → 0 ≤ td ∧ td ≤ 1125899906842624) (hpt : (if hard = true then 1000 else 250) = pt) (hdd : max (now / 86400000) dy = dd) :
    Calls Try.prog 8 #[.agg #[.string a, .int .i64 sc, .int .i64 dy, .int .i64 td, .int .i64 st, .int .i64 nx, .int .i64 pr], .int .i64 now, .bool hard] w (BP a sc dy td st nx pr now pt dd w) := by
  have hday : 0 ≤ now / 86400000 := by omega
  have hm : (if now / 86400000 < dy then dy else now / 86400000) = dd := by rw [← hdd]; split <;> omega
  have hdd2 : dy ≤ dd ∧ 0 ≤ dd ∧ dd ≤ 1125899906842624 := by omega
  have hdd3 : dd ≤ dy → now / 86400000 ≤ dy := by omega
  have hp : pt = 1000 ∧ hard = true ∨ pt = 250 ∧ hard = false := by cases hard <;> simp at hpt <;> simp [hpt.symm]
  clear hdd hpt
  replace htd := fun h => htd (hdd3 h)
  clear hdd3
  rcases hp with ⟨rfl, rfl⟩ | ⟨rfl, rfl⟩
  · by_cases e1 : dd = dy
    · subst e1
      have htd' := htd (Int.le_refl _)
      by_cases e2 : td < 1000
      · have hs : Hid (sc1 sc dd td dd 1000 = sc + (1000 - td)) := by show _ = _; simp [sc1, e2]
        have ht : Hid (td1 dd td dd 1000 = 1000) := by show _ = _; simp [td1, e2]
        go_enter Try.func8, Try.ntmps8
        go_wp2_with fail
        go_quiet ((go_at_call 18; exact Calls.quiet_of_same (day_q _ _ h0 (by omega))))
        go_wp2_with fail
        all_goals
          refine bodyPost_ret (by simp [results, Try.results8, go_sem]; try rfl) rfl ?_
          first
            | refine BP_yes hs.out ht.out (by assumption) (by first | assumption | omega) rfl ?_
            | refine BP_no (st' := 0) hs.out ht.out (by assumption) (by intro _; first | assumption | omega) rfl ?_
            | refine BP_no hs.out ht.out rfl (by intro h; first | contradiction | omega) rfl ?_
          repeat (first | with_reducible exact Below.refl _ _ | with_reducible assumption | (with_reducible refine balloc ?_) | (with_reducible refine bdrew ?_) | (with_reducible refine bdrewN ?_) | (with_reducible refine bset ?_ (by first | omega | (simp; done) | (simp; omega))) | (with_reducible refine bnext ?_ (by assumption)))
      · have hs : Hid (sc1 sc dd td dd 1000 = sc) := by show _ = _; simp [sc1, e2]
        have ht : Hid (td1 dd td dd 1000 = td) := by show _ = _; simp [td1, e2]
        go_enter Try.func8, Try.ntmps8
        go_wp2_with fail
        go_quiet ((go_at_call 18; exact Calls.quiet_of_same (day_q _ _ h0 (by omega))))
        go_wp2_with fail
        all_goals
          refine bodyPost_ret (by simp [results, Try.results8, go_sem]; try rfl) rfl ?_
          first
            | refine BP_yes hs.out ht.out (by assumption) (by first | assumption | omega) rfl ?_
            | refine BP_no (st' := 0) hs.out ht.out (by assumption) (by intro _; first | assumption | omega) rfl ?_
            | refine BP_no hs.out ht.out rfl (by intro h; first | contradiction | omega) rfl ?_
          repeat (first | with_reducible exact Below.refl _ _ | with_reducible assumption | (with_reducible refine balloc ?_) | (with_reducible refine bdrew ?_) | (with_reducible refine bdrewN ?_) | (with_reducible refine bset ?_ (by first | omega | (simp; done) | (simp; omega))) | (with_reducible refine bnext ?_ (by assumption)))
    · obtain rfl : dd = now / 86400000 := by rw [← hm]; split <;> omega
      have ht : Hid (td1 dy td (now / 86400000) 1000 = 1000) := by show _ = _; simp [td1, e1]
      have e1' : (now / 86400000 == dy) = false := by simp [e1]
      by_cases e2 : dy = -1
      · subst e2
        have hs : Hid (sc1 sc (-1) td (now / 86400000) 1000 = sc + 1000) := by show _ = _; simp [sc1, e1]
        go_enter Try.func8, Try.ntmps8
        go_wp2_with fail
        go_quiet ((go_at_call 18; exact Calls.quiet_of_same (day_q _ _ h0 (by omega))))
        go_wp2_with fail
        all_goals
          refine bodyPost_ret (by simp [results, Try.results8, go_sem]; try rfl) rfl ?_
          first
            | refine BP_yes hs.out ht.out (by assumption) (by first | assumption | omega) rfl ?_
            | refine BP_no (st' := 0) hs.out ht.out (by assumption) (by intro _; first | assumption | omega) rfl ?_
            | refine BP_no hs.out ht.out rfl (by intro h; first | contradiction | omega) rfl ?_
          repeat (first | with_reducible exact Below.refl _ _ | with_reducible assumption | (with_reducible refine balloc ?_) | (with_reducible refine bdrew ?_) | (with_reducible refine bdrewN ?_) | (with_reducible refine bset ?_ (by first | omega | (simp; done) | (simp; omega))) | (with_reducible refine bnext ?_ (by assumption)))
      · have e2' : (dy != -1) = true := by simp [e2]
        by_cases e3 : 7 < now / 86400000 - dy
        · have hs : Hid (sc1 sc dy td (now / 86400000) 1000 = 1000) := by show _ = _; simp [sc1, e1, e2, e3]
          go_enter Try.func8, Try.ntmps8
          go_wp2_with fail
          go_quiet ((go_at_call 18; exact Calls.quiet_of_same (day_q _ _ h0 (by omega))))
          go_wp2_with fail
          all_goals
            refine bodyPost_ret (by simp [results, Try.results8, go_sem]; try rfl) rfl ?_
            first
              | refine BP_yes hs.out ht.out (by assumption) (by first | assumption | omega) rfl ?_
              | refine BP_no (st' := 0) hs.out ht.out (by assumption) (by intro _; first | assumption | omega) rfl ?_
              | refine BP_no hs.out ht.out rfl (by intro h; first | contradiction | omega) rfl ?_
            repeat (first | with_reducible exact Below.refl _ _ | with_reducible assumption | (with_reducible refine balloc ?_) | (with_reducible refine bdrew ?_) | (with_reducible refine bdrewN ?_) | (with_reducible refine bset ?_ (by first | omega | (simp; done) | (simp; omega))) | (with_reducible refine bnext ?_ (by assumption)))
        · have hs : Hid (sc1 sc dy td (now / 86400000) 1000 = sc + 1000) := by show _ = _; simp [sc1, e1, e2, e3]
          go_enter Try.func8, Try.ntmps8
          go_wp2_with fail
          go_quiet ((go_at_call 18; exact Calls.quiet_of_same (day_q _ _ h0 (by omega))))
          go_wp2_with fail
          all_goals
            refine bodyPost_ret (by simp [results, Try.results8, go_sem]; try rfl) rfl ?_
            first
              | refine BP_yes hs.out ht.out (by assumption) (by first | assumption | omega) rfl ?_
              | refine BP_no (st' := 0) hs.out ht.out (by assumption) (by intro _; first | assumption | omega) rfl ?_
              | refine BP_no hs.out ht.out rfl (by intro h; first | contradiction | omega) rfl ?_
            repeat (first | with_reducible exact Below.refl _ _ | with_reducible assumption | (with_reducible refine balloc ?_) | (with_reducible refine bdrew ?_) | (with_reducible refine bdrewN ?_) | (with_reducible refine bset ?_ (by first | omega | (simp; done) | (simp; omega))) | (with_reducible refine bnext ?_ (by assumption)))
  · by_cases e1 : dd = dy
    · subst e1
      have htd' := htd (Int.le_refl _)
      by_cases e2 : td < 250
      · have hs : Hid (sc1 sc dd td dd 250 = sc + (250 - td)) := by show _ = _; simp [sc1, e2]
        have ht : Hid (td1 dd td dd 250 = 250) := by show _ = _; simp [td1, e2]
        go_enter Try.func8, Try.ntmps8
        go_wp2_with fail
        go_quiet ((go_at_call 18; exact Calls.quiet_of_same (day_q _ _ h0 (by omega))))
        go_wp2_with fail
        all_goals
          refine bodyPost_ret (by simp [results, Try.results8, go_sem]; try rfl) rfl ?_
          first
            | refine BP_yes hs.out ht.out (by assumption) (by first | assumption | omega) rfl ?_
            | refine BP_no (st' := 0) hs.out ht.out (by assumption) (by intro _; first | assumption | omega) rfl ?_
            | refine BP_no hs.out ht.out rfl (by intro h; first | contradiction | omega) rfl ?_
          repeat (first | with_reducible exact Below.refl _ _ | with_reducible assumption | (with_reducible refine balloc ?_) | (with_reducible refine bdrew ?_) | (with_reducible refine bdrewN ?_) | (with_reducible refine bset ?_ (by first | omega | (simp; done) | (simp; omega))) | (with_reducible refine bnext ?_ (by assumption)))
      · have hs : Hid (sc1 sc dd td dd 250 = sc) := by show _ = _; simp [sc1, e2]
        have ht : Hid (td1 dd td dd 250 = td) := by show _ = _; simp [td1, e2]
        go_enter Try.func8, Try.ntmps8
        go_wp2_with fail
        go_quiet ((go_at_call 18; exact Calls.quiet_of_same (day_q _ _ h0 (by omega))))
        go_wp2_with fail
        all_goals
          refine bodyPost_ret (by simp [results, Try.results8, go_sem]; try rfl) rfl ?_
          first
            | refine BP_yes hs.out ht.out (by assumption) (by first | assumption | omega) rfl ?_
            | refine BP_no (st' := 0) hs.out ht.out (by assumption) (by intro _; first | assumption | omega) rfl ?_
            | refine BP_no hs.out ht.out rfl (by intro h; first | contradiction | omega) rfl ?_
          repeat (first | with_reducible exact Below.refl _ _ | with_reducible assumption | (with_reducible refine balloc ?_) | (with_reducible refine bdrew ?_) | (with_reducible refine bdrewN ?_) | (with_reducible refine bset ?_ (by first | omega | (simp; done) | (simp; omega))) | (with_reducible refine bnext ?_ (by assumption)))
    · obtain rfl : dd = now / 86400000 := by rw [← hm]; split <;> omega
      have ht : Hid (td1 dy td (now / 86400000) 250 = 250) := by show _ = _; simp [td1, e1]
      have e1' : (now / 86400000 == dy) = false := by simp [e1]
      by_cases e2 : dy = -1
      · subst e2
        have hs : Hid (sc1 sc (-1) td (now / 86400000) 250 = sc + 250) := by show _ = _; simp [sc1, e1]
        go_enter Try.func8, Try.ntmps8
        go_wp2_with fail
        go_quiet ((go_at_call 18; exact Calls.quiet_of_same (day_q _ _ h0 (by omega))))
        go_wp2_with fail
        all_goals
          refine bodyPost_ret (by simp [results, Try.results8, go_sem]; try rfl) rfl ?_
          first
            | refine BP_yes hs.out ht.out (by assumption) (by first | assumption | omega) rfl ?_
            | refine BP_no (st' := 0) hs.out ht.out (by assumption) (by intro _; first | assumption | omega) rfl ?_
            | refine BP_no hs.out ht.out rfl (by intro h; first | contradiction | omega) rfl ?_
          repeat (first | with_reducible exact Below.refl _ _ | with_reducible assumption | (with_reducible refine balloc ?_) | (with_reducible refine bdrew ?_) | (with_reducible refine bdrewN ?_) | (with_reducible refine bset ?_ (by first | omega | (simp; done) | (simp; omega))) | (with_reducible refine bnext ?_ (by assumption)))
      · have e2' : (dy != -1) = true := by simp [e2]
        by_cases e3 : 7 < now / 86400000 - dy
        · have hs : Hid (sc1 sc dy td (now / 86400000) 250 = 250) := by show _ = _; simp [sc1, e1, e2, e3]
          go_enter Try.func8, Try.ntmps8
          go_wp2_with fail
          go_quiet ((go_at_call 18; exact Calls.quiet_of_same (day_q _ _ h0 (by omega))))
          go_wp2_with fail
          all_goals
            refine bodyPost_ret (by simp [results, Try.results8, go_sem]; try rfl) rfl ?_
            first
              | refine BP_yes hs.out ht.out (by assumption) (by first | assumption | omega) rfl ?_
              | refine BP_no (st' := 0) hs.out ht.out (by assumption) (by intro _; first | assumption | omega) rfl ?_
              | refine BP_no hs.out ht.out rfl (by intro h; first | contradiction | omega) rfl ?_
            repeat (first | with_reducible exact Below.refl _ _ | with_reducible assumption | (with_reducible refine balloc ?_) | (with_reducible refine bdrew ?_) | (with_reducible refine bdrewN ?_) | (with_reducible refine bset ?_ (by first | omega | (simp; done) | (simp; omega))) | (with_reducible refine bnext ?_ (by assumption)))
        · have hs : Hid (sc1 sc dy td (now / 86400000) 250 = sc + 250) := by show _ = _; simp [sc1, e1, e2, e3]
          go_enter Try.func8, Try.ntmps8
          go_wp2_with fail
          go_quiet ((go_at_call 18; exact Calls.quiet_of_same (day_q _ _ h0 (by omega))))
          go_wp2_with fail
          all_goals
            refine bodyPost_ret (by simp [results, Try.results8, go_sem]; try rfl) rfl ?_
            first
              | refine BP_yes hs.out ht.out (by assumption) (by first | assumption | omega) rfl ?_
              | refine BP_no (st' := 0) hs.out ht.out (by assumption) (by intro _; first | assumption | omega) rfl ?_
              | refine BP_no hs.out ht.out rfl (by intro h; first | contradiction | omega) rfl ?_
            repeat (first | with_reducible exact Below.refl _ _ | with_reducible assumption | (with_reducible refine balloc ?_) | (with_reducible refine bdrew ?_) | (with_reducible refine bdrewN ?_) | (with_reducible refine bset ?_ (by first | omega | (simp; done) | (simp; omega))) | (with_reducible refine bnext ?_ (by assumption)))
end Go.Proofs.Ytnbfmmnbjjeecac
