/- RateWindow: its plain law: what is allowed within a window. -/
import Derived.Test.YtnbfmmnbjjeecaaBase
import Derived.Test.YtnbfmmnbjjeecaaAllow
namespace Go.Proofs.Ytnbfmmnbjjeecaa
open Go.RowKit
set_option linter.unusedVariables false
/-- Behind the call at the time u: what the bucket holds, and how many were allowed since each allowed time. -/
def WInv (p b M T u : Int) (al : List Int) : Prop :=
  0 ≤ u ∧ u ≤ clT T ∧
  (∀ i, i < al.length → min (max M 0) (b * 3600000) + ((al.length : Int) - (i : Int)) * 3600000 ≤ b * 3600000 + p * (u - al.getD i 0) ∧ 0 ≤ al.getD i 0 ∧ al.getD i 0 ≤ u) ∧
  (∀ i k, i ≤ k → k < al.length → ((k : Int) - (i : Int) + 1) * 3600000 ≤ b * 3600000 + p * (al.getD k 0 - al.getD i 0) ∧ al.getD i 0 ≤ al.getD k 0)
theorem winv_nil (p b M T : Int) : WInv p b M T 0 [] :=
  ⟨Int.le_refl _, (clT_bd T).1, fun i h => (by simp at h), fun i k _ h => (by simp at h)⟩
theorem lev_le (p b M T u u' : Int) (hp : 1 ≤ p) (hp2 : p ≤ 1000000) (hb : 1 ≤ b) (hb2 : b ≤ 1000000) (h0 : 0 ≤ u) (h1 : u ≤ clT T) (h2 : u ≤ u') (h3 : u' ≤ 70368744177664) :
    0 ≤ lev M T p b u' ∧ lev M T p b u' ≤ b * 3600000 ∧ lev M T p b u' ≤ min (max M 0) (b * 3600000) + p * (u' - u) := by
  unfold lev
  rw [cap_id p hp2, cap_id b hb2, clT_id u' (by omega) h3, lvl_eq _ _ _ _ _ hp]
  have e1 : 0 ≤ p * max (u' - clT T) 0 := Int.mul_nonneg (by omega) (by omega)
  have e2 : p * max (u' - clT T) 0 ≤ p * (u' - u) := Int.mul_le_mul_of_nonneg_left (by omega) (by omega)
  generalize p * max (u' - clT T) 0 = X at *
  generalize p * (u' - u) = Y at *
  omega
theorem getD_snoc_lt (l : List Int) (x : Int) (i : Nat) (h : i < l.length) : (l ++ [x]).getD i 0 = l.getD i 0 := by
  simp [List.getD_eq_getElem?_getD, List.getElem?_append_left h]
theorem getD_snoc_eq (l : List Int) (x : Int) : (l ++ [x]).getD l.length 0 = x := by
  simp [List.getD_eq_getElem?_getD]
theorem winv_no (p b M T u u' : Int) (al : List Int) (hp : 1 ≤ p) (hp2 : p ≤ 1000000) (hb : 1 ≤ b) (hb2 : b ≤ 1000000) (h : WInv p b M T u al) (hu : u ≤ u') (hu2 : u' ≤ 70368744177664) :
    WInv p b (lev M T p b u') (max (clT T) (clT u')) u' al := by
  obtain ⟨h0, h1, h2, h3⟩ := h
  obtain ⟨l0, l1, l2⟩ := lev_le p b M T u u' hp hp2 hb hb2 h0 h1 hu hu2
  have hc := clT_id u' (by omega) hu2
  have hT := clT_bd T
  refine ⟨by omega, by rw [hc]; unfold clT at *; omega, fun i hi => ?_, h3⟩
  obtain ⟨a1, a2, a3⟩ := h2 i hi
  have e : p * (u' - al.getD i 0) = p * (u - al.getD i 0) + p * (u' - u) := by rw [← Int.mul_add]; congr 1; omega
  rw [e]
  generalize p * (u - al.getD i 0) = X at *
  generalize p * (u' - u) = Y at *
  omega
theorem winv_yes (p b M T u u' : Int) (al : List Int) (hp : 1 ≤ p) (hp2 : p ≤ 1000000) (hb : 1 ≤ b) (hb2 : b ≤ 1000000) (h : WInv p b M T u al) (hu : u ≤ u') (hu2 : u' ≤ 70368744177664) (hL : 3600000 ≤ lev M T p b u') :
    WInv p b (lev M T p b u' - 3600000) (max (clT T) (clT u')) u' (al ++ [u']) := by
  obtain ⟨h0, h1, h2, h3⟩ := winv_no p b M T u u' al hp hp2 hb hb2 h hu hu2
  obtain ⟨l0, l1, l2⟩ := lev_le p b M T u u' hp hp2 hb hb2 h.1 h.2.1 hu hu2
  refine ⟨h0, h1, fun i hi => ?_, fun i k hik hk => ?_⟩
  · rw [List.length_append, List.length_singleton] at hi ⊢
    rcases Nat.lt_or_ge i al.length with hlt | hge
    · rw [getD_snoc_lt _ _ _ hlt]
      obtain ⟨a1, a2, a3⟩ := h2 i hlt
      refine ⟨?_, a2, a3⟩
      generalize p * (u' - al.getD i 0) = X at *
      omega
    · obtain rfl : i = al.length := by omega
      rw [getD_snoc_eq]
      have e : p * (u' - u') = 0 := by rw [Int.sub_self, Int.mul_zero]
      rw [e]; omega
  · rw [List.length_append, List.length_singleton] at hk
    rcases Nat.lt_or_ge k al.length with hlt | hge
    · rw [getD_snoc_lt _ _ _ hlt, getD_snoc_lt _ _ _ (by omega)]
      exact h3 i k hik hlt
    · obtain rfl : k = al.length := by omega
      rw [getD_snoc_eq]
      rcases Nat.lt_or_ge i al.length with hlt | hge
      · rw [getD_snoc_lt _ _ _ hlt]
        obtain ⟨a1, a2, a3⟩ := h2 i hlt
        refine ⟨?_, a3⟩
        generalize p * (u' - al.getD i 0) = X at *
        omega
      · obtain rfl : i = al.length := by omega
        rw [getD_snoc_eq]
        have e : p * (u' - u') = 0 := by rw [Int.sub_self, Int.mul_zero]
        rw [e]; omega
theorem window_bound (p b w n : Int) (hp : 1 ≤ p) (hw : 0 ≤ w) (h : n * 3600000 ≤ b * 3600000 + p * w) : n ≤ b + p * (w / 3600000) + p * (w % 3600000) / 3600000 := by
  have e : w = 3600000 * (w / 3600000) + w % 3600000 := by omega
  have e2 : p * w = 3600000 * (p * (w / 3600000)) + p * (w % 3600000) := by
    conv => lhs; rw [e]
    rw [Int.mul_add, Int.mul_left_comm]
  have h2 : (n - b - p * (w / 3600000)) * 3600000 ≤ p * (w % 3600000) := by
    rw [e2] at h
    generalize p * (w / 3600000) = X at *
    generalize p * (w % 3600000) = Y at *
    omega
  have := Int.le_ediv_of_mul_le (by omega) h2
  omega
end Go.Proofs.Ytnbfmmnbjjeecaa
