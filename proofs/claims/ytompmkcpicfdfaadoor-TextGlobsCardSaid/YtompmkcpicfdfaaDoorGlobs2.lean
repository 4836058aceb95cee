/- Patterns: the laws that TextGlobs asks for (plain). -/
import Derived.Test.YtompmkcpicfdfaaDoorCases
namespace Go.Proofs.YtompmkcpicfdfaaDoor
set_option linter.unusedVariables false
theorem low_eq42 (c : UInt8) : (mv 65 90 32 c == 42) = (c == 42) := by
  simpa using byte_all (p := fun c => (mv 65 90 32 c == 42) == (c == 42)) (by kernel_rfl) c
theorem low_eq63 (c : UInt8) : (mv 65 90 32 c == 63) = (c == 63) := by
  simpa using byte_all (p := fun c => (mv 65 90 32 c == 63) == (c == 63)) (by kernel_rfl) c
theorem gm_plain : ∀ (P S : List UInt8), (∀ c ∈ P, c ≠ 42 ∧ c ≠ 63) → gm P S = decide (P = S)
  | [], S, _ => by cases S <;> simp [gm]
  | c :: P, S, h => by
    obtain ⟨h1, h2⟩ := h c (by simp)
    cases S with
    | nil => rw [gm_cons_nil h1]; simp
    | cons d r =>
      rw [gm_cons h1, gm_plain P r fun x hx => h x (by simp [hx])]
      rw [Bool.eq_iff_iff]
      simp [h2]
theorem gm_all (S : List UInt8) : gm [42] S = true := by
  rw [gm_star, anyTail_iff]
  exact ⟨S.length, Nat.le_refl _, by rw [List.drop_length]; rfl⟩
theorem gm_tail (T : List UInt8) : ∀ (P S : List UInt8), gm P S = true → gm (P ++ [42]) (S ++ T) = true
  | [], S, _ => gm_all _
  | c :: P, S, h => by
    by_cases hc : c = 42
    · subst hc
      rw [gm_star, anyTail_iff] at h
      obtain ⟨k, hk, h⟩ := h
      rw [List.cons_append, gm_star, anyTail_iff]
      refine ⟨k, by simp; omega, ?_⟩
      rw [List.drop_append_of_le_length hk]
      exact gm_tail T P _ h
    · cases S with
      | nil => rw [gm_cons_nil hc] at h; cases h
      | cons d r =>
        rw [gm_cons hc, Bool.and_eq_true] at h
        rw [List.cons_append, List.cons_append, gm_cons hc, Bool.and_eq_true]
        exact ⟨h.1, gm_tail T P r h.2⟩
theorem gm_wrap {P S : List UInt8} (h : gm P S = true) : gm (42 :: (P ++ [42])) (120 :: (S ++ [121])) = true := by
  rw [gm_star, anyTail_iff]
  exact ⟨1, by simp, by simpa using gm_tail [121] P S h⟩
theorem low_cons (c : UInt8) (l : List UInt8) : low (c :: l) = mv 65 90 32 c :: low l := rfl
theorem low_append (l r : List UInt8) : low (l ++ r) = low l ++ low r := by simp [low]
/-- a star -/
theorem want_star (r : List UInt8) (s : List UInt8) : gm (low (42 :: r)) (low s) = (gm (low r) (low s) || (!s.isEmpty && gm (low (42 :: r)) (low (s.drop 1)))) := by
  have e : low (42 :: r) = 42 :: low r := rfl
  rw [e, gm_star]
  cases s with
  | nil => simp [low, anyTail]
  | cons d s => rw [low_cons, anyTail]; simp [gm_star]
theorem want_byte {c : UInt8} (hc : c ≠ 42) (r s : List UInt8) : gm (low (c :: r)) (low s) = (!s.isEmpty && ((c == 63) || decide (low [c] = low (s.take 1))) && gm (low r) (low (s.drop 1))) := by
  have h1 : mv 65 90 32 c ≠ 42 := by
    have := low_eq42 c
    rw [beq_eq_false_iff_ne.2 hc] at this
    exact beq_eq_false_iff_ne.1 this
  rw [low_cons]
  cases s with
  | nil => simp [low, gm_cons_nil h1]
  | cons d s =>
    rw [low_cons, gm_cons h1, low_eq63]
    have : (mv 65 90 32 c == mv 65 90 32 d) = decide (low [c] = low ((d :: s).take 1)) := by
      rw [Bool.eq_iff_iff]; simp [low]
    rw [this]; rfl
/-- no star and no question mark among the first k bytes -/
def plainTo (l : List UInt8) (k : Nat) : Bool := (l.take k).all fun c => c != 42 && c != 63
theorem plainTo_succ {l : List UInt8} {k : Nat} (hk : k < l.length) : plainTo l (k + 1) = (plainTo l k && (l.getD k 0 != 42 && l.getD k 0 != 63)) := by
  unfold plainTo
  rw [List.take_succ_eq_append_getElem hk, List.all_append]
  simp [List.getD_eq_getElem?_getD, hk]
theorem plain_same {l : List UInt8} (h : plainTo l l.length = true) (s : List UInt8) : gm (low l) (low s) = decide (low l = low s) := by
  refine gm_plain _ _ fun c hc => ?_
  obtain ⟨d, hd, rfl⟩ := List.mem_map.1 (show c ∈ l.map (mv 65 90 32) from hc)
  unfold plainTo at h
  rw [List.take_length] at h
  have := List.all_eq_true.1 h d hd
  rw [Bool.and_eq_true] at this
  have h1 : (d == 42) = false := by simpa using this.1
  have h2 : (d == 63) = false := by simpa using this.2
  exact ⟨beq_eq_false_iff_ne.1 ((low_eq42 d).trans h1), beq_eq_false_iff_ne.1 ((low_eq63 d).trans h2)⟩
end Go.Proofs.YtompmkcpicfdfaaDoor
