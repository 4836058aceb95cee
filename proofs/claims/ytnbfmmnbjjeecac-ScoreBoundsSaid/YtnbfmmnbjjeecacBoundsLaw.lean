/- ScoreBounds: its plain law. -/
import Derived.Test.YtnbfmmnbjjeecacInv
import Derived.Test.YtnbfmmnbjjeecacWith
namespace Go.Proofs.Ytnbfmmnbjjeecac
open Go.RowKit
set_option linter.unusedVariables false
/-- Elements that meet p or q, which exclude each other, all meet r. -/
theorem filter_two {α : Type} (p q r : α → Bool) (l : List α) (h1 : ∀ x, p x = true → q x = false) (h2 : ∀ x, p x = true → r x = true) (h3 : ∀ x, q x = true → r x = true) : (l.filter p).length + (l.filter q).length ≤ (l.filter r).length := by
  induction l with
  | nil => simp
  | cons a l ih =>
    have k1 := h1 a
    have k2 := h2 a
    have k3 := h3 a
    cases hp : p a <;> cases hq : q a <;> cases hr : r a <;> simp_all <;> omega
theorem filter_pos {α : Type} (q : α → Bool) (l : List α) (x : α) (hx : x ∈ l) (hq : q x = true) : 1 ≤ (l.filter q).length :=
  List.length_pos_of_mem (List.mem_filter.2 ⟨hx, hq⟩)
def other (hard soft : List Int) : Nat := (soft.filter fun x => decide (x ∉ hard)).length
def wlt (hard soft : List Int) (e : Int) : Int := 1000 * ((hard.filter fun x => decide (x < e)).length : Int) + 250 * ((soft.filter fun x => decide (x < e) && decide (x ∉ hard)).length : Int)
def wt (hard soft : List Int) (e : Int) : Int := if e ∈ hard then 1000 else if e ∈ soft then 250 else 0
def wall (hard soft : List Int) : Int := 1000 * (hard.length : Int) + 250 * (other hard soft : Int)
theorem wt_le (hard soft : List Int) (e : Int) (H S : Nat) (hH : (hard.filter fun x => decide (x < e)).length + (hard.filter fun x => decide (x = e)).length ≤ H)
    (hS : (soft.filter fun x => decide (x < e) && decide (x ∉ hard)).length + (soft.filter fun x => decide (x = e) && decide (x ∉ hard)).length ≤ S) : wlt hard soft e + wt hard soft e ≤ 1000 * (H : Int) + 250 * (S : Int) := by
  unfold wlt wt
  split
  · rename_i h
    have := filter_pos (fun x => decide (x = e)) hard e h (by simp)
    omega
  · rename_i h
    split
    · rename_i h2
      have := filter_pos (fun x => decide (x = e) && decide (x ∉ hard)) soft e h2 (by simp [h])
      omega
    · omega
theorem wt_all (hard soft : List Int) (e : Int) : wlt hard soft e + wt hard soft e ≤ wall hard soft := by
  refine wt_le hard soft e _ _ ?_ ?_
  · exact Nat.le_trans (filter_two (fun x => decide (x < e)) (fun x => decide (x = e)) (fun _ => true) hard (by intro x; simp; omega) (by simp) (by simp)) (List.length_filter_le _ _)
  · exact filter_two _ _ _ soft (by intro x; simp; intro h1 h2 h3; omega) (by intro x; simp) (by intro x; simp)
theorem wt_next (hard soft : List Int) (e d : Int) (h : e < d) : wlt hard soft e + wt hard soft e ≤ wlt hard soft d := by
  refine wt_le hard soft e _ _ ?_ ?_
  · exact filter_two _ _ _ hard (by intro x; simp; omega) (by intro x; simp; omega) (by intro x; simp; omega)
  · exact filter_two _ _ _ soft (by intro x; simp; intro h1 h2 h3; omega) (by intro x; simp; intro h1 h2; exact ⟨by omega, h2⟩) (by intro x; simp; intro h1 h2; exact ⟨by omega, h2⟩)
theorem mem_addL (l : List Int) (d x : Int) : x ∈ addL l d ↔ x ∈ l ∨ x = d := by
  unfold addL; split
  · constructor
    · exact .inl
    · rintro (h | rfl) <;> assumption
  · simp
theorem wlt_hard (hard soft : List Int) (e d : Int) (h : e ≤ d) : wlt (addL hard d) soft e = wlt hard soft e := by
  unfold wlt
  have h1 : (addL hard d).filter (fun x => decide (x < e)) = hard.filter (fun x => decide (x < e)) := by
    unfold addL; split
    · rfl
    · rw [List.filter_append]; simp; omega
  have h2 : soft.filter (fun x => decide (x < e) && decide (x ∉ addL hard d)) = soft.filter (fun x => decide (x < e) && decide (x ∉ hard)) := by
    apply List.filter_congr
    intro x _
    rw [Bool.eq_iff_iff]
    simp only [Bool.and_eq_true, decide_eq_true_eq, mem_addL, not_or]
    constructor
    · rintro ⟨a, b, _⟩; exact ⟨a, b⟩
    · rintro ⟨a, b⟩; exact ⟨a, b, by omega⟩
  rw [h1, h2]
theorem wlt_soft (hard soft : List Int) (e d : Int) (h : e ≤ d) : wlt hard (addL soft d) e = wlt hard soft e := by
  unfold wlt
  have h1 : (addL soft d).filter (fun x => decide (x < e) && decide (x ∉ hard)) = soft.filter (fun x => decide (x < e) && decide (x ∉ hard)) := by
    unfold addL; split
    · rfl
    · rw [List.filter_append]; simp; omega
  rw [h1]
theorem wt_bd (hard soft : List Int) (e : Int) : 0 ≤ wt hard soft e ∧ wt hard soft e ≤ 1000 := by unfold wt; split <;> (try split) <;> omega
theorem wt_hard (hard soft : List Int) (e d : Int) : wt hard soft e ≤ wt (addL hard d) soft e := by
  unfold wt
  by_cases h : e ∈ hard
  · rw [if_pos h, if_pos ((mem_addL _ _ _).2 (.inl h))]; omega
  · rw [if_neg h]
    split <;> split <;> omega
theorem wt_soft (hard soft : List Int) (e d : Int) : wt hard soft e ≤ wt hard (addL soft d) e := by
  unfold wt
  by_cases h : e ∈ hard
  · rw [if_pos h, if_pos h]; omega
  · rw [if_neg h, if_neg h]
    by_cases h2 : e ∈ soft
    · rw [if_pos h2, if_pos ((mem_addL _ _ _).2 (.inl h2))]; omega
    · rw [if_neg h2]; split <;> omega
theorem wt_hard_at (hard soft : List Int) (d : Int) : wt (addL hard d) soft d = 1000 := by unfold wt; rw [if_pos ((mem_addL _ _ _).2 (.inr rfl))]
theorem wt_soft_at (hard soft : List Int) (d : Int) : 250 ≤ wt hard (addL soft d) d := by
  unfold wt; split
  · omega
  · rw [if_pos ((mem_addL _ _ _).2 (.inr rfl))]; omega
def days (hard soft : List Int) : Nat := hard.length + other hard soft
theorem days_soft (hard soft : List Int) (d : Int) : days hard soft ≤ days hard (addL soft d) := by
  unfold days other addL
  split
  · omega
  · rw [List.filter_append, List.length_append]; omega
theorem nodup_count (l : List Int) (h : l.Nodup) (d : Int) : (l.filter fun x => decide (x = d)).length ≤ 1 := by
  induction l with
  | nil => simp
  | cons a l ih =>
    rw [List.nodup_cons] at h
    rw [List.filter_cons]
    by_cases ha : a = d
    · have : l.filter (fun x => decide (x = d)) = [] := by
        rw [List.filter_eq_nil_iff]; intro x hx; simp; intro e; subst ha; subst e; exact h.1 hx
      simp [ha, this]
    · simp only [ha, decide_false, Bool.false_eq_true, if_false]
      exact ih h.2
theorem days_hard (hard soft : List Int) (d : Int) (hn : soft.Nodup) : days hard soft ≤ days (addL hard d) soft := by
  unfold days
  by_cases hd : d ∈ hard
  · have : addL hard d = hard := by unfold addL; rw [if_pos hd]
    rw [this]; exact Nat.le_refl _
  · have e : addL hard d = hard ++ [d] := by unfold addL; rw [if_neg hd]
    have h1 : (addL hard d).length = hard.length + 1 := by rw [e]; simp
    rw [h1]
    have h2 : other hard soft ≤ other (addL hard d) soft + (soft.filter fun x => decide (x = d)).length := by
      unfold other
      clear hn h1
      induction soft with
      | nil => simp
      | cons a s ih =>
        simp only [List.filter_cons]
        by_cases ha : a = d
        · subst ha
          simp only [hd, not_false_eq_true, decide_true, if_true, List.length_cons]
          have : (decide (a ∉ addL hard a)) = false := by simp [mem_addL]
          rw [this]
          simp only [Bool.false_eq_true, if_false]
          omega
        · have e1 : decide (a ∉ addL hard d) = decide (a ∉ hard) := by
            rw [Bool.eq_iff_iff]; simp [mem_addL, ha]
          rw [e1]
          simp only [ha, decide_false, Bool.false_eq_true, if_false]
          split
          · simp only [List.length_cons]; omega
          · omega
    have := nodup_count soft hn d
    omega
theorem wall_days (hard soft : List Int) : wall hard soft ≤ 1000 * (days hard soft : Int) := by unfold wall days; omega
theorem nodup_addL (l : List Int) (d : Int) (h : l.Nodup) : (addL l d).Nodup := by
  unfold addL; split
  · exact h
  · rename_i hd
    rw [List.nodup_append]
    exact ⟨h, by simp, by intro a ha b hb; simp at hb; subst hb; intro e; subst e; exact hd ha⟩
/-- The score against the days that were counted. -/
def BInv (h : H) (hard soft : List Int) (u : Int) : Prop :=
  soft.Nodup ∧ 0 ≤ h.sc ∧ h.sc ≤ wlt hard soft h.dy + h.td ∧ 0 ≤ h.td ∧ h.td ≤ wt hard soft h.dy ∧ (h.st ≠ 0 → 3 ≤ days hard soft) ∧ h.dy ≤ u / 86400000
theorem binv_hard {h : H} {hard soft : List Int} {u t : Int} (hi : BInv h hard soft u) (hu : u ≤ t) : BInv h (addL hard (t / 86400000)) soft t := by
  obtain ⟨a, b, c, d, e, f, g⟩ := hi
  have hd : h.dy ≤ t / 86400000 := by omega
  have := wt_hard hard soft h.dy (t / 86400000)
  refine ⟨a, b, by rw [wlt_hard _ _ _ _ hd]; exact c, d, by omega, fun h0 => ?_, hd⟩
  have := days_hard hard soft (t / 86400000) a
  have := f h0
  omega
theorem binv_soft {h : H} {hard soft : List Int} {u t : Int} (hi : BInv h hard soft u) (hu : u ≤ t) : BInv h hard (addL soft (t / 86400000)) t := by
  obtain ⟨a, b, c, d, e, f, g⟩ := hi
  have hd : h.dy ≤ t / 86400000 := by omega
  have := wt_soft hard soft h.dy (t / 86400000)
  refine ⟨nodup_addL _ _ a, b, by rw [wlt_soft _ _ _ _ hd]; exact c, d, by omega, fun h0 => ?_, hd⟩
  have := days_soft hard soft (t / 86400000)
  have := f h0
  omega
theorem binv_later {h : H} {hard soft : List Int} {u t : Int} (hi : BInv h hard soft u) (hu : u ≤ t) : BInv h hard soft t := by
  obtain ⟨a, b, c, d, e, f, g⟩ := hi
  exact ⟨a, b, c, d, e, f, by omega⟩
theorem binv_bounce {h : H} {hs : List Int} {soft : List Int} {t : Int} (hard : Bool) (hi : BInv h hs soft t) (hp : (if hard = true then (1000 : Int) else 250) ≤ wt hs soft (t / 86400000)) : BInv (bounceH h t hard) hs soft t := by
  obtain ⟨a, b, c, d, e, f, g⟩ := hi
  unfold bounceH
  split
  · exact ⟨a, b, c, d, e, f, g⟩
  · have hp0 : 0 ≤ (if hard = true then (1000 : Int) else 250) := by split <;> omega
    generalize (if hard = true then (1000 : Int) else 250) = p at *
    have hm : max (t / 86400000) h.dy = t / 86400000 := by omega
    have key : 0 ≤ sc1 h.sc h.dy h.td (t / 86400000) p ∧ sc1 h.sc h.dy h.td (t / 86400000) p ≤ wlt hs soft (t / 86400000) + td1 h.dy h.td (t / 86400000) p ∧ 0 ≤ td1 h.dy h.td (t / 86400000) p ∧ td1 h.dy h.td (t / 86400000) p ≤ wt hs soft (t / 86400000) := by
      by_cases hd : t / 86400000 = h.dy
      · rw [hd] at hp ⊢
        unfold sc1 td1
        rw [if_pos rfl, if_pos rfl]
        split <;> omega
      · have := wt_next hs soft h.dy (t / 86400000) (by omega)
        unfold sc1 td1
        rw [if_neg hd, if_neg hd]
        split <;> omega
    have hw := wt_all hs soft (t / 86400000)
    have hwd := wall_days hs soft
    dsimp only
    rw [hm]
    generalize sc1 h.sc h.dy h.td (t / 86400000) p = s at *
    generalize td1 h.dy h.td (t / 86400000) p = q at *
    refine ⟨a, key.1, key.2.1, key.2.2.1, key.2.2.2, fun h0 => ?_, by dsimp only; omega⟩
    dsimp only at h0
    cases hq : susp h.st s
    · rw [hq] at h0; exact f (by simpa using h0)
    · have : h.st = 0 ∧ 3000 ≤ s := by simpa [susp] using hq
      omega
theorem binv_down {h : H} {hs soft : List Int} {t : Int} (k : Bool) (hi : BInv h hs soft t) (hp : k = false → 1000 ≤ wt hs soft (t / 86400000)) : BInv (downH h t k) hs soft t := by
  have hb := fun hk => binv_bounce true hi (by simpa using hp hk)
  have hi0 := hi
  obtain ⟨a, b, c, d, e, f, g⟩ := hi
  have := wt_all hs soft h.dy
  unfold downH
  split
  · cases k
    · exact hb rfl
    · exact hi0
  · have hst : h.st ≠ 0 := by omega
    have f' := f hst
    split
    · have hl : 0 ≤ wlt hs soft h.dy := by unfold wlt; omega
      exact ⟨a, by show (0 : Int) ≤ 0; omega, by show (0 : Int) ≤ wlt hs soft h.dy + h.td; omega, d, e, fun h0 => absurd rfl h0, g⟩
    · repeat' split
      all_goals exact ⟨a, b, c, d, e, fun _ => f', g⟩
theorem binv_do {h : H} {hs soft : List Int} {k t : Int} (hi : BInv h hs soft t) (h0 : 0 ≤ t) (hp0 : k = 0 → 250 ≤ wt hs soft (t / 86400000)) (hp1 : k = 1 ∨ k = 3 ∨ k = 4 → 1000 ≤ wt hs soft (t / 86400000)) : BInv (doH h k t) hs soft t := by
  have hl : ∀ e, 0 ≤ wlt hs soft e := by intro e; unfold wlt; omega
  unfold doH
  split
  · rename_i hk; exact binv_bounce false hi (by simpa using hp0 hk)
  split
  · rename_i hk; exact binv_bounce true hi (by simpa using hp1 (.inl hk))
  split
  · unfold successH
    split
    · obtain ⟨a, b, c, d, e, f, g⟩ := hi
      have := hl h.dy
      exact ⟨a, by show (0 : Int) ≤ 0; omega, by show (0 : Int) ≤ wlt hs soft h.dy + h.td; omega, d, e, f, g⟩
    · exact hi
  split
  · rename_i hk
    unfold tickH
    have hd := binv_down false hi (fun _ => hp1 (.inr (.inl hk)))
    obtain ⟨a, b, c, d, e, f, g⟩ := hi
    split
    · split
      · rename_i h1
        exact ⟨a, b, c, d, e, fun _ => f (by omega), g⟩
      · split
        · exact hd
        · exact ⟨a, b, c, d, e, f, g⟩
    · exact ⟨a, b, c, d, e, f, g⟩
  split
  · rename_i hk; exact binv_down false hi (fun _ => hp1 (.inr (.inr hk)))
  split
  · exact binv_down true hi (fun h => by cases h)
  split
  · obtain ⟨a, b, c, d, e, f, g⟩ := hi
    have := hl (-1)
    have := wt_bd hs soft (-1)
    exact ⟨a, by show (0 : Int) ≤ 0; omega, by show (0 : Int) ≤ wlt hs soft (-1) + 0; omega, by show (0 : Int) ≤ 0; omega, by show (0 : Int) ≤ wt hs soft (-1); omega, fun h => absurd rfl h, by show (-1 : Int) ≤ _; omega⟩
  · exact hi
/-- What the statement asks at the end of a round. -/
theorem binv_end {h : H} {hs soft : List Int} {t : Int} (hi : BInv h hs soft t) : h.sc ≤ 1000 * (hs.length : Int) + 250 * (other hs soft : Int) ∧ 0 ≤ h.sc ∧ (h.st ≠ 0 → 3 ≤ (hs.length : Int) + (other hs soft : Int)) := by
  obtain ⟨a, b, c, d, e, f, g⟩ := hi
  have h1 := wt_all hs soft h.dy
  unfold wall at h1
  exact ⟨by omega, b, fun h0 => by have := f h0; unfold days at this; omega⟩
theorem binv_new : BInv ⟨{ data := #[97, 64, 120] }, 0, -1, 0, 0, 0, 0⟩ [] [] 0 :=
  ⟨List.nodup_nil, Int.le_refl _, by show (0 : Int) ≤ wlt [] [] (-1) + 0; simp [wlt], Int.le_refl _, by show (0 : Int) ≤ wt [] [] (-1); simp [wt], fun h => absurd rfl h, by show (-1 : Int) ≤ _; omega⟩
end Go.Proofs.Ytnbfmmnbjjeecac
