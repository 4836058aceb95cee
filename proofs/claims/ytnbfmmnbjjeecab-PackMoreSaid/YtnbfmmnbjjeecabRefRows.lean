/- missiveref35.Pack: what it returns. -/
import Derived.Test.YtnbfmmnbjjeecabRefLaw
namespace Go.Proofs.Ytnbfmmnbjjeecab
open Go.RowKit Go.Shelf
set_option linter.unusedVariables false
/-- The rows of the groups so far. -/
def RowsOf (n₁ : Nat) (W : World) (ys : List (Nat × Nat)) (vs : List Value) : Prop := ∀ (i : Nat) (x : Nat × Nat), ys[i]? = some x → ∃ u, vs[i]? = some u ∧ W.ownsRow n₁ 3 1 u (x.2 - x.1) (cells64 (rng x))
/-- What the outer loop holds. -/
def OutAt (n₁ : Nat) (W : World) (v : Value) (ys : List (Nat × Nat)) : Prop := ∃ vs, W.ownsRow n₁ 22 1 v ys.length vs ∧ RowsOf n₁ W ys vs
theorem OutAt.nil (n₁ : Nat) (W : World) : OutAt n₁ W (.slice none 0 0) [] := ⟨[], World.ownsRow_nil _ _ _ _, fun i x hx => by simp at hx⟩
theorem OutAt.bel {n₁ : Nat} {W W' : World} {v : Value} {ys : List (Nat × Nat)} (h : OutAt n₁ W v ys) (hb : Below W.heap.size W W') : OutAt n₁ W' v ys := by
  obtain ⟨vs, h1, h2⟩ := h
  refine ⟨vs, own_bel h1 hb, fun i x hx => ?_⟩
  obtain ⟨u, h3, h4⟩ := h2 i x hx
  exact ⟨u, h3, own_bel h4 hb⟩
/-- A group more. -/
theorem OutAt.snoc {n₁ : Nat} {W W1 : World} {v v' u : Value} {ys : List (Nat × Nat)} {vs : List Value} {x : Nat × Nat} (h1 : W.ownsRow n₁ 22 1 v ys.length vs) (h2 : RowsOf n₁ W ys vs) (hu : W.ownsRow n₁ 3 1 u (x.2 - x.1) (cells64 (rng x))) (hown : W1.ownsRow n₁ 22 1 v' (ys.length + 1) (vs ++ [u])) (hg : W.grownBy W1 v.ownBlock) : OutAt n₁ W1 v' (ys ++ [x]) := by
  have hvl : vs.length = ys.length := by have := h1.1; omega
  refine ⟨vs ++ [u], by rw [show (ys ++ [x]).length = ys.length + 1 by simp]; exact hown, fun i y hy => ?_⟩
  rcases Nat.lt_or_ge i ys.length with h5 | h5
  · rw [List.getElem?_append_left h5] at hy
    obtain ⟨u', h6, h7⟩ := h2 i y hy
    exact ⟨u', by rw [List.getElem?_append_left (by omega)]; exact h6, own_other h7 hg (own_types h7 h1 (by decide))⟩
  · rw [List.getElem?_append_right h5] at hy
    have h6 : i - ys.length = 0 := by
      rcases Nat.lt_or_ge 0 (i - ys.length) with h | h
      · rw [List.getElem?_eq_none (by simp; omega)] at hy; simp at hy
      · omega
    rw [h6] at hy
    obtain rfl : x = y := by simpa using hy
    exact ⟨u, by rw [List.getElem?_append_right (by omega), show i - vs.length = 0 by omega]; rfl, own_other hu hg (own_types hu h1 (by decide))⟩
theorem OutAt.div {n₁ : Nat} {W : World} {v : Value} {ys : List (Nat × Nat)} (h : OutAt n₁ W v ys) : IsDiv W v (ys.map rng) := by
  obtain ⟨vs, h1, h2⟩ := h
  refine ⟨vs, by rw [List.length_map]; exact Sl.of_own h1, fun i g hg => ?_⟩
  rw [List.getElem?_map] at hg
  cases hx : ys[i]? with
  | none => rw [hx] at hg; simp at hg
  | some x =>
    rw [hx] at hg
    simp at hg
    obtain ⟨u, h3, h4⟩ := h2 i x hx
    refine ⟨u, h3, ?_⟩
    rw [← hg, rng_length]
    exact Sl.of_own h4
end Go.Proofs.Ytnbfmmnbjjeecab
