/- More budget, smaller sizes: not more groups; the groups without the last size (plain). -/
import Derived.Test.YtnbfmmnbjjeecabAhead
namespace Go.Proofs.Ytnbfmmnbjjeecab
set_option linter.unusedVariables false
theorem wsum_mono {l l' : List Int} (h : ∀ j, pos (l'.getD j 0) ≤ pos (l.getD j 0)) (f k : Nat) : wsum l' f k ≤ wsum l f k := by
  induction k with
  | zero => exact Int.le_refl _
  | succ k ih => have := h (f + k); simp only [wsum]; omega
theorem fin_mono {l l' : List Int} {b b' R R' : Int} (hl : l'.length = l.length) (hb : 0 < b) (hR : R ≤ R') (hp : ∀ j, pos (l'.getD j 0) ≤ pos (l.getD j 0)) : (fin l' b' R').length ≤ (fin l b R).length := by
  obtain ⟨c, hc⟩ := fin_law l b R
  obtain ⟨c', hc'⟩ : ∃ c', FinCuts l' b' R' c' := fin_law l' b' R'
  have key : ∀ i, i ≤ (fin l b R).length → Ahead l' b' R' c' i (c i) := by
    intro i
    induction i with
    | zero => intro _; rw [hc.1.1]; exact ahead_zero
    | succ i ih =>
      intro hi
      have h1 := ih (by omega)
      have h2 := (hc.1.2.2 i hi).2
      have h3 := hc.1.le hi
      have h4 := (hc.2 i hi).1 hb
      dsimp only at h4
      have h5 := wsum_mono hp (c i) (c (i + 1) - c i)
      have h6 := ahead_next hc' (n := c (i + 1) - c i) h1 (by omega) (fun _ h => by omega)
      rw [show c i + (c (i + 1) - c i) = c (i + 1) by omega] at h6
      exact h6
  have h7 := key _ (Nat.le_refl _)
  rw [hc.1.2.1, ← hl] at h7
  exact ahead_end hc' h7
theorem st_take (l : List Int) (b R : Int) (n : Nat) : ∀ i, i ≤ n → st (l.take n) b R i = st l b R i := by
  intro i
  induction i with
  | zero => intro _; rfl
  | succ i ih =>
    intro hi
    have h1 : (l.take n).getD i 0 = l.getD i 0 := by
      rw [List.getD_eq_getElem?_getD, List.getD_eq_getElem?_getD, List.getElem?_take_of_lt (by omega)]
    rw [st, st, ih (by omega), h1]
def Prefix (gs ms : List (List Int)) : Prop := 0 < gs.length ∧ (ms.length = gs.length ∨ ms.length + 1 = gs.length) ∧ ∀ i, i + 1 < gs.length → i < ms.length ∧ ms.getD i [] = gs.getD i []
theorem prefix_of {xs ys : List (Nat × Nat)} (h0 : 0 < xs.length) (h1 : ys.length = xs.length ∨ ys.length + 1 = xs.length) (h2 : ∀ i, i + 1 < xs.length → ys[i]? = xs[i]?) : Prefix (xs.map rng) (ys.map rng) := by
  refine ⟨by simpa using h0, by simpa using h1, fun i hi => ?_⟩
  simp at hi
  refine ⟨by simp; omega, ?_⟩
  rw [List.getD_eq_getElem?_getD, List.getD_eq_getElem?_getD, List.getElem?_map, List.getElem?_map, h2 i hi]
theorem fin_take {l : List Int} {b R : Int} {n : Nat} (hl : l.length = n + 1) : Prefix ((fin l b R).map rng) ((fin (l.take n) b R).map rng) := by
  have hn : (l.take n).length = n := by simp; omega
  have e1 : fin l b R = (st l b R (n + 1)).2.2 ++ [((st l b R (n + 1)).1, n + 1)] := by rw [fin, if_neg (by omega), hl]
  by_cases h0 : n = 0
  · have e2 : fin (l.take n) b R = [] := by rw [fin, if_pos (by omega)]
    rw [e1, e2]
    subst h0
    refine prefix_of (by simp) (.inr (by simp [st])) fun i hi => ?_
    simp [st] at hi
  · have e2 : fin (l.take n) b R = (st l b R n).2.2 ++ [((st l b R n).1, n)] := by rw [fin, if_neg (by omega), hn, st_take l b R n n (Nat.le_refl _)]
    rw [e1, e2, st, if_neg h0]
    split
    · refine prefix_of (by simp) (.inr (by simp)) fun i hi => ?_
      simp at hi
      exact (List.getElem?_append_left (by simp; omega)).symm
    · refine prefix_of (by simp) (.inl (by simp)) fun i hi => ?_
      simp at hi
      rw [List.getElem?_append_left (by omega), List.getElem?_append_left (by omega)]
/-- A size made smaller. -/
def changed (l : List Int) (at_ : Nat) (x : Int) : List Int := l.take at_ ++ [x] ++ l.drop (at_ + 1)
theorem changed_length {l : List Int} {k : Nat} {x : Int} (h : k < l.length) : (changed l k x).length = l.length := by simp [changed]; omega
theorem changed_pos {l : List Int} {k : Nat} {x : Int} (h : k < l.length) (hx : x ≤ l.getD k 0) (j : Nat) : pos ((changed l k x).getD j 0) ≤ pos (l.getD j 0) := by
  have e : changed l k x = l.set k x := by
    rw [changed, List.append_assoc, List.set_eq_take_append_cons_drop, if_pos h]; rfl
  rw [e]
  by_cases hj : j = k
  · subst hj
    have : (l.set j x).getD j 0 = x := by simp [List.getD_eq_getElem?_getD, h]
    rw [this]; unfold pos; omega
  · have : (l.set k x).getD j 0 = l.getD j 0 := by simp [List.getD_eq_getElem?_getD, show ¬ k = j by omega]
    rw [this]; exact Int.le_refl _
end Go.Proofs.Ytnbfmmnbjjeecab
