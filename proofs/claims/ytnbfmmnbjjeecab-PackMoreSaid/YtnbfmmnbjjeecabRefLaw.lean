/- The reference's loops over the same states (plain). -/
import Derived.Test.YtnbfmmnbjjeecabWeight
namespace Go.Proofs.Ytnbfmmnbjjeecab
set_option linter.unusedVariables false
/-- The outer loop of the reference stands at index i; ys: the groups so far. -/
def CutAt (l : List Int) (b R : Int) (i : Nat) (ys : List (Nat × Nat)) : Prop :=
  (i = 0 ∧ ys = []) ∨ (0 < i ∧ 0 < b ∧ (st l b R i).2.1 < pos (l.getD i 0) ∧ (st l b R i).2.2 ++ [((st l b R i).1, i)] = ys)
/-- The inner loop stands at u, from f on. -/
def InAt (l : List Int) (b R : Int) (f u : Nat) (lf : Int) (ys : List (Nat × Nat)) : Prop :=
  (u = f ∧ lf = R ∧ CutAt l b R f ys) ∨ (f < u ∧ st l b R u = (f, lf, ys))
theorem inAt_step {l : List Int} {b R lf : Int} {f u : Nat} {ys : List (Nat × Nat)} (h : InAt l b R f u lf ys) (hb : 0 < b) (hc : u = f ∨ pos (l.getD u 0) ≤ lf) :
    InAt l b R f (u + 1) (if lf < pos (l.getD u 0) then -1 else lf - pos (l.getD u 0)) ys := by
  rcases h with ⟨rfl, rfl, hc1⟩ | ⟨hfu, hs⟩
  · right
    refine ⟨by omega, ?_⟩
    rcases hc1 with ⟨rfl, rfl⟩ | ⟨h0, hb', hlt, hy⟩
    · simp [st]
    · rw [st, if_neg (by omega), if_pos ⟨hb, hlt⟩, hy]
  · right
    refine ⟨by omega, ?_⟩
    have hle : pos (l.getD u 0) ≤ lf := by omega
    rw [st, if_neg (by omega), hs]
    simp only
    rw [if_neg (by omega), if_neg (by omega)]
theorem inAt_exit {l : List Int} {b R lf : Int} {f u : Nat} {ys : List (Nat × Nat)} (h : InAt l b R f u lf ys) (hb : 0 < b) (hfu : f < u) (hc : lf < pos (l.getD u 0)) : CutAt l b R u (ys ++ [(f, u)]) := by
  rcases h with ⟨rfl, _, _⟩ | ⟨_, hs⟩
  · omega
  · right
    refine ⟨by omega, hb, by rw [hs]; exact hc, by rw [hs]⟩
theorem inAt_end {l : List Int} {b R lf : Int} {f : Nat} {ys : List (Nat × Nat)} (h : InAt l b R f l.length lf ys) (hfu : f < l.length) : fin l b R = ys ++ [(f, l.length)] := by
  rcases h with ⟨h1, _, _⟩ | ⟨_, hs⟩
  · omega
  · rw [fin, if_neg (by omega), hs]
/-- A budget that is not positive: one group. -/
theorem st_wide {l : List Int} {b R : Int} (hb : ¬ 0 < b) (i : Nat) : (st l b R i).1 = 0 ∧ (st l b R i).2.2 = [] := by
  induction i with
  | zero => exact ⟨rfl, rfl⟩
  | succ i ih =>
    rw [st]
    by_cases h : i = 0
    · rw [if_pos h]; exact ⟨rfl, rfl⟩
    · rw [if_neg h, if_neg (fun h2 => hb h2.1)]; exact ih
theorem fin_wide {l : List Int} {b R : Int} (hb : ¬ 0 < b) (hl : 0 < l.length) : fin l b R = [(0, l.length)] := by
  rw [fin, if_neg (by omega), (st_wide hb _).1, (st_wide hb _).2]; rfl
end Go.Proofs.Ytnbfmmnbjjeecab
