/- Lines and their ends (plain). -/
import Derived.Test.YtompmkcpicfdfaaDoorTextC
namespace Go.Proofs.YtompmkcpicfdfaaDoor
open Go.RowKit
set_option linter.unusedVariables false
theorem chomp_snoc (x : List UInt8) : chomp (x ++ [13]) = x := by
  unfold chomp Lib.trimSuffix
  rw [if_pos (by simp [Lib.hasSuffix])]
  simp
theorem chomp_same {x : List UInt8} (h : x.getLast? ≠ some 13) : chomp x = x := by
  unfold chomp Lib.trimSuffix
  rw [if_neg]
  intro h2
  have h3 : ([13] : List UInt8) <:+ x := by simpa [Lib.hasSuffix] using h2
  obtain ⟨t, rfl⟩ := h3
  simp at h
theorem chomp_sub {x : List UInt8} : ∀ c ∈ chomp x, c ∈ x := by
  unfold chomp Lib.trimSuffix
  split
  · exact fun c hc => List.mem_of_mem_take hc
  · exact fun c hc => hc
theorem lgo_no : ∀ (l cur : List UInt8), (∀ c ∈ cur, c ≠ 10) → ∀ x ∈ lgo cur l, ∀ c ∈ x, c ≠ 10
  | [], cur, h, x, hx => by
    rw [lgo] at hx
    split at hx
    · cases hx
    · rw [List.mem_singleton.1 hx]; exact h
  | d :: r, cur, h, x, hx => by
    rw [lgo] at hx
    split at hx
    · rcases List.mem_cons.1 hx with rfl | hx
      · exact fun c hc => h c (chomp_sub c hc)
      · exact lgo_no r [] (by simp) x hx
    · rename_i hd
      refine lgo_no r (cur ++ [d]) (fun c hc => ?_) x hx
      rcases List.mem_append.1 hc with hc | hc
      · exact h c hc
      · rw [List.mem_singleton.1 hc]; simpa using hd
/-- The lines of a text contain no line end. -/
theorem wlines_no (l : List UInt8) : ∀ x ∈ wlines l, ∀ c ∈ x, c ≠ 10 := lgo_no l [] (by simp)
theorem lgo_le : ∀ (l cur : List UInt8), ∀ x ∈ lgo cur l, x.length ≤ cur.length + l.length
  | [], cur, x, hx => by
    rw [lgo] at hx
    split at hx
    · cases hx
    · rw [List.mem_singleton.1 hx]; simp
  | d :: r, cur, x, hx => by
    rw [lgo] at hx
    rw [List.length_cons]
    split at hx
    · rcases List.mem_cons.1 hx with rfl | hx
      · have := chomp_le cur; omega
      · have := lgo_le r [] x hx
        simp at this; omega
    · have := lgo_le r _ x hx
      simp at this; omega
theorem wlines_le (l : List UInt8) : ∀ x ∈ wlines l, x.length ≤ l.length := fun x hx => by
  have := lgo_le l [] x hx
  simpa using this
/-- lines, each with its end -/
def unl (ls : List (List UInt8)) : List UInt8 := ls.flatMap fun x => x ++ [10]
def goodLine (x : List UInt8) : Prop := (∀ c ∈ x, c ≠ 10) ∧ x.getLast? ≠ some 13
theorem wlines_nil : wlines [] = [] := rfl
theorem wlines_unl : ∀ ls : List (List UInt8), (∀ x ∈ ls, goodLine x) → wlines (unl ls) = ls
  | [], _ => rfl
  | x :: ls, h => by
    have hx := h x (by simp)
    rw [show unl (x :: ls) = x ++ 10 :: unl ls by simp [unl], wlines_first hx.1, chomp_same hx.2, wlines_unl ls fun y hy => h y (by simp [hy])]
def uncr (ls : List (List UInt8)) : List UInt8 := ls.flatMap fun x => x ++ [13, 10]
theorem wlines_uncr : ∀ ls : List (List UInt8), (∀ x ∈ ls, goodLine x) → wlines (uncr ls) = ls
  | [], _ => rfl
  | x :: ls, h => by
    have hx := h x (by simp)
    rw [show uncr (x :: ls) = (x ++ [13]) ++ 10 :: uncr ls by simp [uncr], wlines_first, chomp_snoc, wlines_uncr ls fun y hy => h y (by simp [hy])]
    intro c hc
    rcases List.mem_append.1 hc with hc | hc
    · exact hx.1 c hc
    · rw [List.mem_singleton.1 hc]; decide
/-- .. and the last end taken away -/
theorem wlines_unl_last (ls : List (List UInt8)) (x : List UInt8) (h : ∀ y ∈ ls ++ [x], goodLine y) (hx : x ≠ []) : wlines (unl (ls ++ [x])).dropLast = ls ++ [x] := by
  have e : (unl (ls ++ [x])).dropLast = unl ls ++ x := by
    rw [show unl (ls ++ [x]) = (unl ls ++ x) ++ [10] by simp [unl], List.dropLast_concat]
  rw [e]
  clear e
  induction ls with
  | nil => exact wlines_last (h x (by simp)).1 hx
  | cons y ls ih =>
    have hy := h y (by simp)
    rw [show unl (y :: ls) ++ x = y ++ 10 :: (unl ls ++ x) by simp [unl], wlines_first hy.1, chomp_same hy.2, ih fun z hz => h z (List.mem_cons_of_mem _ hz)]
    rfl
theorem unl_snoc (ls : List (List UInt8)) (x : List UInt8) : unl (ls ++ [x]) = unl ls ++ (x ++ [10]) := by simp [unl]
theorem uncr_snoc (ls : List (List UInt8)) (x : List UInt8) : uncr (ls ++ [x]) = uncr ls ++ (x ++ [13, 10]) := by simp [uncr]
/-- The lines of a text without CRs, put together: the text without the line ends. -/
theorem lgo_flat : ∀ (l cur : List UInt8), (∀ c ∈ cur ++ l, c ≠ 13) → (lgo cur l).flatten = cur ++ l.filter (fun c => c != 10)
  | [], cur, h => by
    rw [lgo]
    split
    · rename_i e
      have : cur = [] := List.isEmpty_iff.1 e
      simp [this]
    · simp
  | d :: r, cur, h => by
    have hch : chomp cur = cur := chomp_same fun e => h 13 (by
      have := List.mem_of_getLast? e
      simp [this]) rfl
    rw [lgo]
    by_cases hd : d = 10
    · subst hd
      simp only [beq_self_eq_true, if_true]
      rw [List.flatten_cons, hch, lgo_flat r [] (fun c hc => h c (List.mem_append.2 (.inr (List.mem_cons_of_mem _ hc))))]
      simp
    · have e : (d == 10) = false := by simpa using hd
      rw [e]
      simp only [Bool.false_eq_true, if_false]
      rw [lgo_flat r (cur ++ [d]) (fun c hc => h c (by rw [List.append_assoc] at hc; exact hc))]
      simp [hd]
theorem wlines_flat (l : List UInt8) (h : ∀ c ∈ l, c ≠ 13) : (wlines l).flatten = l.filter (fun c => c != 10) := by
  exact lgo_flat l [] (by simpa using h)
end Go.Proofs.YtompmkcpicfdfaaDoor
