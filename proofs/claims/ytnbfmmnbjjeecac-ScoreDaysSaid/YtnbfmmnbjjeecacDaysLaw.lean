/- ScoreDays: its plain law. -/
import Derived.Test.YtnbfmmnbjjeecacSmall
import Derived.Test.YtnbfmmnbjjeecacTail
namespace Go.Proofs.Ytnbfmmnbjjeecac
open Go.RowKit
set_option linter.unusedVariables false
/-- The plain law. -/
theorem days_law (h : H) (now more : Int) (h1 : ¬ h.st = 3) (h2 : 0 ≤ h.sc) (h3 : h.sc ≤ 1099511627776) (h4 : 0 ≤ now) (h5 : now ≤ 1099511627776) (h6 : -1 ≤ h.dy) (h7 : h.dy < now / 86400000) (h8 : 0 ≤ more) (h9 : more ≤ 86400000) (h10 : now / 86400000 = (now + more) / 86400000) :
    ∃ r1 r2 r3 r4 r5 : H, bounceH h now true = r1 ∧ bounceH r1 (now + more) false = r2 ∧ bounceH h now false = r3 ∧ bounceH r3 (now + more) true = r4 ∧ bounceH r1 (now + 777600000) false = r5 ∧
      HOk h now ∧ HOk r1 (now + more) ∧ HOk r3 (now + more) ∧ HOk r1 (now + 777600000) ∧ r2.sc = r1.sc ∧ r2.dy = r1.dy ∧ r4.sc = r1.sc ∧ r4.td = r1.td ∧ r4.dy = r1.dy ∧ r5.sc = 250 ∧ r5.dy = now / 86400000 + 9 := by
  have hd0 : 0 ≤ now / 86400000 := by omega
  have m1 : max (now / 86400000) h.dy = now / 86400000 := by omega
  have n1 : ¬ now / 86400000 = h.dy := by omega
  have m2 : max ((now + more) / 86400000) (now / 86400000) = now / 86400000 := by omega
  have m3 : max ((now + 777600000) / 86400000) (now / 86400000) = now / 86400000 + 9 := by omega
  have n3 : ¬ now / 86400000 + 9 = now / 86400000 := by omega
  generalize hbase : (if h.dy ≠ -1 ∧ 7 < now / 86400000 - h.dy then 0 else h.sc) = base at *
  have hb : 0 ≤ base ∧ base ≤ 1099511627776 := by rw [← hbase]; split <;> omega
  have s1 : ∀ pt, sc1 h.sc h.dy h.td (now / 86400000) pt = base + pt := by
    intro pt; unfold sc1; rw [if_neg n1, ← hbase]; split <;> rfl
  have t1 : ∀ pt, td1 h.dy h.td (now / 86400000) pt = pt := by intro pt; unfold td1; rw [if_neg n1]
  have e1 : bounceH h now true = ⟨h.a, base + 1000, now / 86400000, 1000, if susp h.st (base + 1000) then 1 else h.st, if susp h.st (base + 1000) then now + 86400000 else h.nx, if susp h.st (base + 1000) then 0 else h.pr⟩ := by
    simp only [bounceH, if_neg h1, if_true, m1, s1, t1]
  have e3 : bounceH h now false = ⟨h.a, base + 250, now / 86400000, 250, if susp h.st (base + 250) then 1 else h.st, if susp h.st (base + 250) then now + 86400000 else h.nx, if susp h.st (base + 250) then 0 else h.pr⟩ := by
    simp only [bounceH, if_neg h1, m1, s1, t1]; simp
  refine ⟨_, _, _, _, _, rfl, rfl, rfl, rfl, rfl, ⟨h4, by omega, h2, by omega, h6, by omega, fun hh => by omega⟩, ?_, ?_, ?_, ?_⟩
  · rw [e1]; exact ⟨by omega, by omega, by show 0 ≤ base + 1000; omega, by show base + 1000 ≤ _; omega, by show -1 ≤ now / 86400000; omega, by show now / 86400000 ≤ _; omega, fun _ => ⟨by show (0 : Int) ≤ 1000; omega, by show (1000 : Int) ≤ _; omega⟩⟩
  · rw [e3]; exact ⟨by omega, by omega, by show 0 ≤ base + 250; omega, by show base + 250 ≤ _; omega, by show -1 ≤ now / 86400000; omega, by show now / 86400000 ≤ _; omega, fun _ => ⟨by show (0 : Int) ≤ 250; omega, by show (250 : Int) ≤ _; omega⟩⟩
  · rw [e1]; exact ⟨by omega, by omega, by show 0 ≤ base + 1000; omega, by show base + 1000 ≤ _; omega, by show -1 ≤ now / 86400000; omega, by show now / 86400000 ≤ _; omega, fun _ => ⟨by show (0 : Int) ≤ 1000; omega, by show (1000 : Int) ≤ _; omega⟩⟩
  · have st1 : ¬ (if susp h.st (base + 1000) then (1 : Int) else h.st) = 3 := by split <;> omega
    have st3 : ¬ (if susp h.st (base + 250) then (1 : Int) else h.st) = 3 := by split <;> omega
    rw [e1, e3]
    simp only [bounceH, if_neg st1, if_neg st3, m2, m3, sc1, td1, if_true, n3, if_false]
    refine ⟨?_, trivial, ?_, ?_, trivial, ?_, trivial⟩ <;> simp <;> omega
end Go.Proofs.Ytnbfmmnbjjeecac
