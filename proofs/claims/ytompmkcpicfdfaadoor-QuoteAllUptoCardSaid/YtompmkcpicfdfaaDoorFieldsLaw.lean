/- The words of a string (plain). -/
import Derived.Test.YtompmkcpicfdfaaDoorIndexAny
import Derived.Lib.SlTrimSet
namespace Go.Proofs.YtompmkcpicfdfaaDoor
set_option linter.unusedVariables false
/-- the words, cur having begun -/
def wgo : List UInt8 → List UInt8 → List (List UInt8)
  | cur, [] => if cur.isEmpty then [] else [cur]
  | cur, c :: r => if wh c then (if cur.isEmpty then wgo [] r else cur :: wgo [] r) else wgo (cur ++ [c]) r
def wfields (l : List UInt8) : List (List UInt8) := wgo [] l
theorem wgo_word {x : List UInt8} (hx : ∀ c ∈ x, wh c = false) (cur r : List UInt8) : wgo cur (x ++ r) = wgo (cur ++ x) r := by
  induction x generalizing cur with
  | nil => simp
  | cons c x ih =>
    have h1 : wh c = false := hx c (by simp)
    rw [List.cons_append, wgo, h1]
    simp only [Bool.false_eq_true, if_false]
    rw [ih (fun d hd => hx d (by simp [hd])), List.append_assoc]; rfl
theorem wfields_drop (l : List UInt8) : wfields (l.dropWhile wh) = wfields l := by
  induction l with
  | nil => rfl
  | cons c l ih =>
    rw [List.dropWhile_cons]
    split
    · rename_i h
      rw [ih]
      show wgo [] l = wgo [] (c :: l)
      rw [wgo, h]; rfl
    · rfl
theorem wfields_white {c : UInt8} (h : wh c = true) (r : List UInt8) : wfields (c :: r) = wfields r := by
  show wgo [] (c :: r) = _
  rw [wgo, h]; rfl
theorem wfields_nil : wfields [] = [] := rfl
/-- a word ahead of the end or of a white byte -/
theorem wfields_first {x r : List UInt8} (hx : ∀ c ∈ x, wh c = false) (h0 : x ≠ []) (hr : r = [] ∨ ∃ c q, r = c :: q ∧ wh c = true) : wfields (x ++ r) = x :: wfields r := by
  have e : x.isEmpty = false := by cases x with
    | nil => exact absurd rfl h0
    | cons _ _ => rfl
  show wgo [] (x ++ r) = _
  rw [wgo_word hx, List.nil_append]
  rcases hr with rfl | ⟨c, q, rfl, hc⟩
  · rw [wgo, e]; rfl
  · rw [wgo, hc, e, wfields_white hc]; rfl
theorem trimLeft_white (l : List UInt8) : Lib.trimLeftS l whites = l.dropWhile wh := by
  unfold Lib.trimLeftS
  congr 1
  funext c
  exact whites_contains c
theorem mem_tw {p : UInt8 → Bool} {l : List UInt8} {c : UInt8} (h : c ∈ l.takeWhile p) : p c = true := by
  induction l with
  | nil => simp at h
  | cons a l ih =>
    rw [List.takeWhile_cons] at h
    split at h
    · rename_i ha
      rcases List.mem_cons.1 h with rfl | h
      · exact ha
      · exact ih h
    · simp at h
theorem dw_head {p : UInt8 → Bool} {l : List UInt8} {c : UInt8} {q : List UInt8} (h : l.dropWhile p = c :: q) : p c = false := by
  induction l with
  | nil => simp at h
  | cons a l ih =>
    rw [List.dropWhile_cons] at h
    split at h
    · exact ih h
    · rename_i ha
      injection h with h1 _
      subst h1; simpa using ha
/-- What IndexAny finds. -/
theorem indexAny_cut (l : List UInt8) : (Lib.indexAny l whites = -1 ∧ ∀ c ∈ l, wh c = false) ∨ (∃ k : Nat, Lib.indexAny l whites = k ∧ k < l.length ∧ (∀ c ∈ l.take k, wh c = false) ∧ ∃ c q, l.drop k = c :: q ∧ wh c = true) := by
  by_cases h : ∀ c ∈ l, wh c = false
  · left
    refine ⟨Lib.indexAny_none fun j b hj hb => ?_, h⟩
    rw [whites_contains]; exact h b (List.mem_of_getElem? hb)
  · right
    obtain ⟨k, hk⟩ : ∃ k, (l.takeWhile fun c => !wh c).length = k := ⟨_, rfl⟩
    have h1 : l = (l.takeWhile fun c => !wh c) ++ (l.dropWhile fun c => !wh c) := (List.takeWhile_append_dropWhile).symm
    obtain ⟨d, hd⟩ : ∃ d, (l.dropWhile fun c => !wh c) = d := ⟨_, rfl⟩
    have htw : ∀ c ∈ (l.takeWhile fun c => !wh c), wh c = false := fun c hc => by
      have := mem_tw hc; simpa using this
    cases d with
    | nil =>
      rw [hd, List.append_nil] at h1
      exact absurd (fun c hc => htw c (by rw [← h1]; exact hc)) h
    | cons c q =>
      have hc : wh c = true := by
        have := dw_head hd
        simpa using this
      rw [hd] at h1
      have hlen : l.length = k + (q.length + 1) := by rw [h1, List.length_append, hk]; rfl
      have hdr : l.drop k = c :: q := by
        rw [h1, List.drop_append_of_le_length (by omega), ← hk, List.drop_length, List.nil_append]
      have htk : l.take k = (l.takeWhile fun c => !wh c) := by
        rw [h1, List.take_append_of_le_length (by omega), ← hk, List.take_length]
        simp only [← h1]
      refine ⟨k, ?_, by omega, fun e he => htw e (by rw [← htk]; exact he), c, q, hdr, hc⟩
      have hck : l[k]? = some c := by
        have := congrArg (fun z : List UInt8 => z[0]?) hdr
        simpa using this
      refine Lib.indexAny_hit (x := c) (fun j b hj hb => ?_) hck (by rw [whites_contains]; exact hc)
      rw [whites_contains]
      refine htw b ?_
      rw [← htk]
      exact List.mem_of_getElem? (by rw [List.getElem?_take_of_lt hj]; exact hb)
end Go.Proofs.YtompmkcpicfdfaaDoor
