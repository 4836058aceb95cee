/- The groups of 'fin' are the fewest (plain). -/
import Derived.Test.YtnbfmmnbjjeecabFinLaw
namespace Go.Proofs.Ytnbfmmnbjjeecab
set_option linter.unusedVariables false
theorem wsum_nonneg (l : List Int) (f k : Nat) : 0 ≤ wsum l f k := by
  induction k with
  | zero => exact Int.le_refl _
  | succ k ih => have := pos_bd (l.getD (f + k) 0); simp only [wsum]; omega
theorem wsum_add (l : List Int) (f a m : Nat) : wsum l f (a + m) = wsum l f a + wsum l (f + a) m := by
  induction m with
  | zero => simp [wsum]
  | succ m ih => rw [← Nat.add_assoc, wsum, ih, wsum, Nat.add_assoc f a m, Int.add_assoc]
theorem wsum_part (l : List Int) (f f' n n' : Nat) (h1 : f ≤ f') (h2 : f' + n' ≤ f + n) : wsum l f' n' ≤ wsum l f n := by
  obtain ⟨a, rfl⟩ : ∃ a, f' = f + a := ⟨f' - f, by omega⟩
  obtain ⟨z, rfl⟩ : ∃ z, n = a + n' + z := ⟨n - a - n', by omega⟩
  rw [wsum_add, wsum_add]
  have := wsum_nonneg l f a
  have := wsum_nonneg l (f + (a + n')) z
  omega
/-- The division 'fin' with its cuts. -/
def FinCuts (l : List Int) (b R : Int) (c : Nat → Nat) : Prop := Cuts c (fin l b R) l.length ∧ (∀ i, i < (fin l b R).length → Fits l b R (c i, c (i + 1)) ∧ (c (i + 1) < l.length → Full l b R (c i, c (i + 1))))
theorem ahead_step {l : List Int} {b R : Int} {c : Nat → Nat} (h : FinCuts l b R c) {i d n : Nat} (hi : i < (fin l b R).length) (hd : d ≤ c i) (hdl : d + n ≤ l.length) (hfit : 0 < b → 1 < n → wsum l d n ≤ R) : d + n ≤ c (i + 1) := by
  obtain ⟨h1, h2⟩ := h
  rcases Nat.lt_or_ge (c (i + 1)) (d + n) with h3 | h3
  · exfalso
    have h4 := (h2 i hi).2 (by omega)
    obtain ⟨hb, h5⟩ := h4
    have h6 := (h1.2.2 i hi).2
    dsimp only at h5
    have h7 := hfit hb (by omega)
    have h8 : wsum l (c i) (c (i + 1) - c i + 1) = wsum l (c i) (c (i + 1) - c i) + pos (l.getD (c (i + 1)) 0) := by
      rw [wsum, show c i + (c (i + 1) - c i) = c (i + 1) by omega]
    have h9 := wsum_part l d (c i) n (c (i + 1) - c i + 1) hd (by omega)
    omega
  · exact h3
def Ahead (l : List Int) (b R : Int) (c : Nat → Nat) (i d : Nat) : Prop := d ≤ c (min i (fin l b R).length)
theorem ahead_zero {l : List Int} {b R : Int} {c : Nat → Nat} : Ahead l b R c 0 0 := Nat.zero_le _
theorem ahead_next {l : List Int} {b R : Int} {c : Nat → Nat} (h : FinCuts l b R c) {i d n : Nat} (hd : Ahead l b R c i d) (hdl : d + n ≤ l.length) (hfit : 0 < b → 1 < n → wsum l d n ≤ R) : Ahead l b R c (i + 1) (d + n) := by
  unfold Ahead at hd ⊢
  rcases Nat.lt_or_ge i (fin l b R).length with h1 | h1
  · rw [Nat.min_eq_left (by omega)] at hd ⊢
    exact ahead_step h h1 hd hdl hfit
  · rw [Nat.min_eq_right (by omega), h.1.2.1]
    exact hdl
theorem ahead_end {l : List Int} {b R : Int} {c : Nat → Nat} (h : FinCuts l b R c) {i : Nat} (hd : Ahead l b R c i l.length) : (fin l b R).length ≤ i := by
  unfold Ahead at hd
  rcases Nat.lt_or_ge i (fin l b R).length with h1 | h1
  · exfalso
    rw [Nat.min_eq_left (by omega)] at hd
    have h2 := (h.1.2.2 i h1).2
    have h3 := h.1.le (i := i + 1) h1
    omega
  · exact h1
end Go.Proofs.Ytnbfmmnbjjeecab
