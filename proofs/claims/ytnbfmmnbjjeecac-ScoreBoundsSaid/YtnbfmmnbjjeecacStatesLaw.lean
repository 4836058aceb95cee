/- ScoreStates: its plain law. -/
import Derived.Test.YtnbfmmnbjjeecacInv
namespace Go.Proofs.Ytnbfmmnbjjeecac
open Go.RowKit
set_option linter.unusedVariables false
/-- Alive: at most two probes have failed in a row. -/
def HP (h : H) : Prop := h.st ≠ 3 → h.pr ≤ 2
theorem hp_bounce {h : H} {t : Int} (hard : Bool) (hp : HP h) : HP (bounceH h t hard) := by
  unfold bounceH HP at *
  split
  · exact hp
  · intro h3
    dsimp only at h3 ⊢
    generalize sc1 h.sc h.dy h.td (max (t / 86400000) h.dy) (if hard = true then 1000 else 250) = s at h3 ⊢
    cases hq : susp h.st s
    · rw [hq] at h3
      simpa using hp (by simpa using h3)
    · simp
theorem hp_down {h : H} {t : Int} (k : Bool) (hp : HP h) : HP (downH h t k) := by
  have hb := hp_bounce (t := t) true hp
  unfold downH
  repeat' split
  · exact hp
  · exact hb
  all_goals
    intro h3
    dsimp only at h3 ⊢
    omega
theorem hp_do {h : H} {k t : Int} (hp : HP h) : HP (doH h k t) := by
  unfold doH
  split
  · exact hp_bounce _ hp
  split
  · exact hp_bounce _ hp
  split
  · unfold successH; split
    · exact hp
    · exact hp
  split
  · unfold tickH
    repeat' split
    · rename_i h1 h2
      intro h3
      exact hp (by omega)
    · exact hp_down _ hp
    · exact hp
    · exact hp
  split
  · exact hp_down _ hp
  split
  · exact hp_down _ hp
  split
  · intro h3; show (0 : Int) ≤ 2; omega
  · exact hp
/-- How the states follow one another. -/
def Step (h r : H) (k t : Int) (q : Bool) : Prop :=
  (h.st = 3 ∧ r = h ∧ q = false) ∨ (h.st = 1 ∧ r.st = 1 ∧ q = false) ∨ (h.st ≠ 3 ∧ h.st ≠ 1 ∧ r.st = h.st ∧ q = false) ∨
  (h.st = 0 ∧ r.st = 1 ∧ 3000 ≤ r.sc ∧ r.pr = 0 ∧ q = false) ∨ (h.st = 1 ∧ r.st = 2 ∧ q = true) ∨ (h.st = 2 ∧ r.st = 0 ∧ k = 5 ∧ r.sc = 0 ∧ q = false) ∨
  (h.st = 2 ∧ r.st = 1 ∧ r.pr = h.pr + 1 ∧ r.pr < 3 ∧ t < r.nx ∧ q = false) ∨ (h.st = 2 ∧ r.st = 3 ∧ r.pr = 3 ∧ q = false)
theorem step_same {h r : H} {k t : Int} (h3 : h.st = 3 → r = h) (hs : r.st = h.st) : Step h r k t false := by
  by_cases a : h.st = 3
  · exact .inl ⟨a, h3 a, rfl⟩
  by_cases b : h.st = 1
  · exact .inr (.inl ⟨b, by omega, rfl⟩)
  · exact .inr (.inr (.inl ⟨a, b, hs, rfl⟩))
theorem step_bounce (h : H) (k t : Int) (hard : Bool) : Step h (bounceH h t hard) k t false := by
  unfold bounceH
  split
  · exact step_same (fun _ => rfl) rfl
  · rename_i h3
    dsimp only
    generalize sc1 h.sc h.dy h.td (max (t / 86400000) h.dy) (if hard = true then 1000 else 250) = s
    cases hq : susp h.st s
    · exact step_same (fun h => absurd h h3) (by simp)
    · have : h.st = 0 ∧ 3000 ≤ s := by simpa [susp] using hq
      exact .inr (.inr (.inr (.inl ⟨this.1, by simp, by simpa using this.2, by simp, rfl⟩)))
theorem step_down (h : H) (k t : Int) (ok : Bool) (hp : HP h) (hp0 : 0 ≤ h.pr) (hk : ok = true → k = 5) : Step h (downH h t ok) k t false := by
  have hb := step_bounce h k t true
  unfold downH
  split
  · split
    · exact step_same (fun _ => rfl) rfl
    · exact hb
  · rename_i h2
    have h2' : h.st = 2 := by omega
    have hp2 := hp (by omega)
    split
    · rename_i hok
      exact .inr (.inr (.inr (.inr (.inr (.inl ⟨h2', rfl, hk hok, rfl, rfl⟩)))))
    · split
      · exact .inr (.inr (.inr (.inr (.inr (.inr (.inr ⟨h2', rfl, by dsimp only; omega, rfl⟩))))))
      · split
        · exact .inr (.inr (.inr (.inr (.inr (.inr (.inl ⟨h2', rfl, rfl, by dsimp only; omega, by dsimp only; omega, rfl⟩))))))
        · exact .inr (.inr (.inr (.inr (.inr (.inr (.inl ⟨h2', rfl, rfl, by dsimp only; omega, by dsimp only; omega, rfl⟩))))))
theorem step_do (h : H) (k t : Int) (hk : k ≠ 6) (hp : HP h) (hp0 : 0 ≤ h.pr) : Step h (doH h k t) k t (doP h k t) := by
  by_cases c3 : k = 3
  · subst c3
    have e1 : doH h 3 t = tickH h t := by simp [doH]
    have e2 : doP h 3 t = tickP h t := by simp [doP]
    rw [e1, e2]
    by_cases a : h.nx ≤ t
    · by_cases b : h.st = 1
      · have e3 : tickP h t = true := by simp [tickP, a, b]
        rw [e3, tickH, if_pos a, if_pos b]
        exact .inr (.inr (.inr (.inr (.inl ⟨b, rfl, rfl⟩))))
      · have e3 : tickP h t = false := by simp [tickP, b]
        rw [e3, tickH, if_pos a, if_neg b]
        split
        · exact step_down h 3 t false hp hp0 (fun h => by cases h)
        · exact step_same (fun _ => rfl) rfl
    · have e3 : tickP h t = false := by simp [tickP, a]
      rw [e3, tickH, if_neg a]
      exact step_same (fun _ => rfl) rfl
  · have e2 : doP h k t = false := by simp [doP, c3]
    rw [e2]
    unfold doH
    split
    · exact step_bounce h k t false
    split
    · exact step_bounce h k t true
    split
    · unfold successH
      split
      · rename_i hs
        exact step_same (fun h3 => by omega) rfl
      · exact step_same (fun _ => rfl) rfl
    split
    · exact step_down h k t false hp hp0 (fun h => by cases h)
    split
    · exact step_down h k t true hp hp0 (fun _ => by assumption)
    · exact step_same (fun _ => rfl) rfl
end Go.Proofs.Ytnbfmmnbjjeecac
