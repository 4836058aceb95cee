/- The groups of 'fin' (plain): adjacent, as long as can be. -/
import Derived.Test.YtnbfmmnbjjeecabRefLaw
namespace Go.Proofs.Ytnbfmmnbjjeecab
set_option linter.unusedVariables false
/-- Adjacent groups from 0 to n: group i goes from c i to c (i + 1). -/
def Cuts (c : Nat → Nat) (ys : List (Nat × Nat)) (n : Nat) : Prop := c 0 = 0 ∧ c ys.length = n ∧ ∀ i, i < ys.length → ys[i]? = some (c i, c (i + 1)) ∧ c i < c (i + 1)
theorem cuts_nil : Cuts (fun _ => 0) [] 0 := ⟨rfl, rfl, fun i h => by simp at h⟩
theorem cuts_snoc {c : Nat → Nat} {ys : List (Nat × Nat)} {n m : Nat} (h : Cuts c ys n) (hm : n < m) : Cuts (fun j => if j ≤ ys.length then c j else m) (ys ++ [(n, m)]) m := by
  obtain ⟨h1, h2, h3⟩ := h
  refine ⟨by simp [h1], by simp; omega, fun i hi => ?_⟩
  simp at hi
  dsimp only
  rcases Nat.lt_or_ge i ys.length with h4 | h4
  · rw [if_pos (by omega), if_pos (by omega), List.getElem?_append_left h4]
    exact h3 i h4
  · obtain rfl : i = ys.length := by omega
    rw [if_pos (by omega), if_neg (by omega), h2]
    exact ⟨by simp, hm⟩
theorem Cuts.mono {c : Nat → Nat} {ys : List (Nat × Nat)} {n : Nat} (h : Cuts c ys n) {i j : Nat} (hij : i ≤ j) (hj : j ≤ ys.length) : c i ≤ c j := by
  induction j with
  | zero => obtain rfl : i = 0 := by omega
            exact Nat.le_refl _
  | succ j ih =>
    rcases Nat.lt_or_ge j i with h1 | h1
    · obtain rfl : i = j + 1 := by omega
      exact Nat.le_refl _
    · exact Nat.le_trans (ih h1 (by omega)) (Nat.le_of_lt (h.2.2 j (by omega)).2)
theorem Cuts.le {c : Nat → Nat} {ys : List (Nat × Nat)} {n : Nat} (h : Cuts c ys n) {i : Nat} (hi : i ≤ ys.length) : c i ≤ n := by
  rw [← h.2.1]; exact h.mono hi (Nat.le_refl _)
/-- A group that is closed. -/
def Full (l : List Int) (b R : Int) (x : Nat × Nat) : Prop := 0 < b ∧ R < wsum l x.1 (x.2 - x.1) + pos (l.getD x.2 0)
/-- A group within the budget, or a single element. -/
def Fits (l : List Int) (b R : Int) (x : Nat × Nat) : Prop := 0 < b → wsum l x.1 (x.2 - x.1) ≤ R ∨ x.2 = x.1 + 1
/-- What is left of the group under way. -/
def LfOk (l : List Int) (b R : Int) (f i : Nat) (lf : Int) : Prop := 0 < b → (0 ≤ lf ∧ lf = R - wsum l f (i - f)) ∨ (lf = -1 ∧ i = f + 1 ∧ R < wsum l f 1)
theorem lfOk_first (l : List Int) (b R : Int) (f : Nat) : LfOk l b R f (f + 1) (if R < pos (l.getD f 0) then -1 else R - pos (l.getD f 0)) := by
  intro _
  have h1 : wsum l f 1 = pos (l.getD f 0) := by simp [wsum]
  rw [show f + 1 - f = 1 by omega, h1]
  have := pos_bd (l.getD f 0)
  split <;> omega
theorem st_law (l : List Int) (b R : Int) (i : Nat) : ∃ c, Cuts c (st l b R (i + 1)).2.2 (st l b R (i + 1)).1 ∧ (st l b R (i + 1)).1 ≤ i ∧ LfOk l b R (st l b R (i + 1)).1 (i + 1) (st l b R (i + 1)).2.1 ∧ (∀ x ∈ (st l b R (i + 1)).2.2, Full l b R x ∧ Fits l b R x) := by
  induction i with
  | zero => exact ⟨_, by simpa [st] using cuts_nil, by simp [st], by simpa [st] using lfOk_first l b R 0, by simp [st]⟩
  | succ i ih =>
    obtain ⟨c, h1, h2, h3, h4⟩ := ih
    rw [st]
    rw [if_neg (by omega)]
    generalize hs : st l b R (i + 1) = s at h1 h2 h3 h4
    obtain ⟨f, lf, ys⟩ := s
    simp only at h1 h2 h3 h4
    by_cases hc : 0 < b ∧ lf < pos (l.getD (i + 1) 0)
    · rw [if_pos hc]
      refine ⟨_, cuts_snoc h1 (by omega), Nat.le_refl _, lfOk_first l b R (i + 1), fun x hx => ?_⟩
      rcases List.mem_append.1 hx with hx | hx
      · exact h4 x hx
      · simp at hx
        subst hx
        have h5 := h3 hc.1
        have h6 := hc.2
        have hp := pos_bd (l.getD (i + 1) 0)
        refine ⟨⟨hc.1, ?_⟩, fun _ => ?_⟩
        · show R < wsum l f (i + 1 - f) + pos (l.getD (i + 1) 0)
          rcases h5 with ⟨h7, h8⟩ | ⟨h7, h8, h9⟩
          · omega
          · rw [show i + 1 - f = 1 by omega]; omega
        · show wsum l f (i + 1 - f) ≤ R ∨ i + 1 = f + 1
          rcases h5 with ⟨h7, h8⟩ | ⟨h7, h8, h9⟩
          · exact .inl (by omega)
          · exact .inr h8
    · rw [if_neg hc]
      refine ⟨c, h1, by simp only; omega, ?_, h4⟩
      intro hb
      have hle : pos (l.getD (i + 1) 0) ≤ lf := by
        have : ¬ lf < pos (l.getD (i + 1) 0) := fun h => hc ⟨hb, h⟩
        omega
      have hp := pos_bd (l.getD (i + 1) 0)
      have h5 := h3 hb
      simp only
      rw [if_neg (by omega)]
      refine .inl ⟨by omega, ?_⟩
      rcases h5 with ⟨h7, h8⟩ | ⟨h7, h8, h9⟩
      · rw [show i + 1 + 1 - f = (i + 1 - f) + 1 by omega, wsum, show f + (i + 1 - f) = i + 1 by omega]
        omega
      · omega
theorem fin_law (l : List Int) (b R : Int) : ∃ c, Cuts c (fin l b R) l.length ∧ (∀ i, i < (fin l b R).length → Fits l b R (c i, c (i + 1)) ∧ (c (i + 1) < l.length → Full l b R (c i, c (i + 1)))) := by
  by_cases h0 : l.length = 0
  · rw [fin, if_pos h0, h0]
    exact ⟨_, cuts_nil, fun i h => by simp at h⟩
  · rw [fin, if_neg h0]
    obtain ⟨i, hi⟩ : ∃ i, l.length = i + 1 := ⟨l.length - 1, by omega⟩
    rw [hi]
    obtain ⟨c, h1, h2, h3, h4⟩ := st_law l b R i
    generalize hs : st l b R (i + 1) = s at h1 h2 h3 h4
    obtain ⟨f, lf, ys⟩ := s
    simp only at h1 h2 h3 h4 ⊢
    have h5 := cuts_snoc h1 (show f < i + 1 by omega)
    refine ⟨_, h5, fun j hj => ?_⟩
    have h6 := h5.2.2 j hj
    have hle := h5.le (i := j + 1) hj
    rcases Nat.lt_or_ge j ys.length with h7 | h7
    · have h8 := h4 _ (List.mem_of_getElem? ((List.getElem?_append_left h7).symm.trans h6.1))
      exact ⟨h8.2, fun _ => h8.1⟩
    · have h9 : j = ys.length := by simp at hj; omega
      subst h9
      simp only [Nat.le_refl, if_true, show ¬ ys.length + 1 ≤ ys.length by omega, if_false, h1.2.1]
      refine ⟨fun hb => ?_, fun h => by omega⟩
      rcases h3 hb with ⟨h7, h8⟩ | ⟨h7, h8, h9⟩
      · exact .inl (by show wsum l f (i + 1 - f) ≤ R; omega)
      · exact .inr h8
end Go.Proofs.Ytnbfmmnbjjeecab
