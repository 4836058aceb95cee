/- Patterns (plain). -/
import Derived.Test.YtompmkcpicfdfaaDoorTextD
namespace Go.Proofs.YtompmkcpicfdfaaDoor
set_option linter.unusedVariables false
def anyTail (f : List UInt8 → Bool) : List UInt8 → Bool
  | [] => f []
  | c :: s => f (c :: s) || anyTail f s
/-- whether a pattern stands for a string -/
def gm : List UInt8 → List UInt8 → Bool
  | [], s => s.isEmpty
  | c :: p, s => if c == 42 then anyTail (gm p) s else match s with
    | [] => false
    | d :: r => (c == 63 || c == d) && gm p r
theorem anyTail_iff (f : List UInt8 → Bool) : ∀ s, anyTail f s = true ↔ ∃ k, k ≤ s.length ∧ f (s.drop k) = true
  | [] => by simp [anyTail]
  | c :: s => by
    rw [anyTail, Bool.or_eq_true, anyTail_iff f s]
    constructor
    · rintro (h | ⟨k, hk, h⟩)
      · exact ⟨0, by simp, h⟩
      · exact ⟨k + 1, by simpa using hk, by simpa using h⟩
    · rintro ⟨k, hk, h⟩
      cases k with
      | zero => exact .inl h
      | succ k => exact .inr ⟨k, by simpa using hk, by simpa using h⟩
theorem gm_star (p s : List UInt8) : gm (42 :: p) s = anyTail (gm p) s := by simp [gm]
theorem gm_cons {c : UInt8} (hc : c ≠ 42) (p : List UInt8) (d : UInt8) (r : List UInt8) : gm (c :: p) (d :: r) = ((c == 63 || c == d) && gm p r) := by
  simp [gm, hc]
theorem gm_cons_nil {c : UInt8} (hc : c ≠ 42) (p : List UInt8) : gm (c :: p) [] = false := by simp [gm, hc]
/-- a part without stars takes as many bytes as it has -/
theorem gm_seg {seg : List UInt8} (hs : ∀ c ∈ seg, c ≠ 42) : ∀ (q s : List UInt8), gm (seg ++ q) s = true → seg.length ≤ s.length ∧ gm q (s.drop seg.length) = true := by
  induction seg with
  | nil => intro q s h; exact ⟨Nat.zero_le _, h⟩
  | cons c seg ih =>
    intro q s h
    cases s with
    | nil => rw [List.cons_append, gm_cons_nil (hs c (by simp))] at h; cases h
    | cons d r =>
      rw [List.cons_append, gm_cons (hs c (by simp)), Bool.and_eq_true] at h
      obtain ⟨h1, h2⟩ := ih (fun x hx => hs x (by simp [hx])) q r h.2
      exact ⟨by simpa using h1, by simpa using h2⟩
/-- Behind the last star: st is where the pattern goes on, bk where the string does. -/
def Back (P S : List UInt8) (G : Bool) (p i st bk : Nat) : Prop :=
  st ≤ p ∧ i = bk + (p - st) ∧ bk ≤ S.length ∧ (∀ t, st ≤ t → t < p → P.getD t 0 ≠ 42) ∧ G = anyTail (gm (P.drop st)) (S.drop bk) ∧ gm (P.drop st) (S.drop bk) = gm (P.drop p) (S.drop i)
def GlobAt (P S : List UInt8) (G : Bool) (p i : Nat) (star : Int) (bk : Nat) : Prop :=
  (star = -1 ∧ G = gm (P.drop p) (S.drop i)) ∨ ∃ st : Nat, star = st ∧ Back P S G p i st bk
theorem getD_drop {P : List UInt8} {p : Nat} (hp : p < P.length) : P.drop p = P.getD p 0 :: P.drop (p + 1) := by
  rw [List.drop_eq_getElem_cons hp, List.getD_eq_getElem?_getD, List.getElem?_eq_getElem hp]; rfl
theorem bool_iff {a b : Bool} (h : a = true ↔ b = true) : a = b := Bool.eq_iff_iff.2 h
/-- a new star -/
theorem glob_star {P S : List UInt8} {G : Bool} {p i bk : Nat} {star : Int} (h : GlobAt P S G p i star bk) (hp : p < P.length) (hi : i ≤ S.length) (hc : P.getD p 0 = 42) : GlobAt P S G (p + 1) i ((p + 1 : Nat) : Int) i := by
  refine .inr ⟨p + 1, rfl, Nat.le_refl _, by omega, hi, fun t h1 h2 => by omega, ?_, rfl⟩
  have hd := getD_drop hp
  rw [hc] at hd
  rcases h with ⟨_, h⟩ | ⟨st, _, h1, h2, h3, h4, h5, h6⟩
  · rw [h, hd, gm_star]
  · rw [h5]
    apply bool_iff
    rw [anyTail_iff, anyTail_iff]
    constructor
    · rintro ⟨k, hk, hg⟩
      have hseg : P.drop st = (P.drop st).take (p - st) ++ (42 :: P.drop (p + 1)) := by
        rw [← hd]
        have : P.drop p = (P.drop st).drop (p - st) := by rw [List.drop_drop, show st + (p - st) = p by omega]
        rw [this, List.take_append_drop]
      rw [hseg, List.drop_drop] at hg
      have hns : ∀ c ∈ (P.drop st).take (p - st), c ≠ 42 := by
        intro c hcm
        obtain ⟨j, hj, e⟩ := List.mem_iff_getElem.1 hcm
        have hj1 : j < p - st := by simp at hj; omega
        have := h4 (st + j) (by omega) (by omega)
        rw [List.getElem_take, List.getElem_drop] at e
        rw [List.getD_eq_getElem?_getD, List.getElem?_eq_getElem (by omega)] at this
        rw [← e]; exact this
      have hsl : ((P.drop st).take (p - st)).length = p - st := by simp; omega
      obtain ⟨g1, g2⟩ := gm_seg hns _ _ hg
      rw [hsl] at g1 g2
      rw [gm_star, anyTail_iff] at g2
      obtain ⟨m, hm, hg2⟩ := g2
      simp only [List.length_drop] at g1 hm hk
      rw [List.drop_drop, List.drop_drop] at hg2
      refine ⟨bk + k + (p - st) + m - i, by rw [List.length_drop]; omega, ?_⟩
      rw [List.drop_drop, show i + (bk + k + (p - st) + m - i) = bk + k + (p - st + m) by omega]
      exact hg2
    · rintro ⟨k, hk, hg⟩
      refine ⟨0, Nat.zero_le _, ?_⟩
      rw [List.drop_zero, h6, hd, gm_star, anyTail_iff]
      exact ⟨k, hk, hg⟩
/-- a byte more -/
theorem glob_step {P S : List UInt8} {G : Bool} {p i bk : Nat} {star : Int} (h : GlobAt P S G p i star bk) (hp : p < P.length) (hi : i < S.length) (hc : P.getD p 0 ≠ 42) (hm : P.getD p 0 = 63 ∨ P.getD p 0 = S.getD i 0) : GlobAt P S G (p + 1) (i + 1) star bk := by
  have e : gm (P.drop p) (S.drop i) = gm (P.drop (p + 1)) (S.drop (i + 1)) := by
    rw [getD_drop hp, getD_drop hi, gm_cons hc]
    have : (P.getD p 0 == 63 || P.getD p 0 == S.getD i 0) = true := by simpa using hm
    rw [this]; rfl
  rcases h with ⟨h1, h2⟩ | ⟨st, h0, h1, h2, h3, h4, h5, h6⟩
  · exact .inl ⟨h1, by rw [h2, e]⟩
  · refine .inr ⟨st, h0, by omega, by omega, h3, fun t t1 t2 => ?_, h5, by rw [h6, e]⟩
    rcases Nat.lt_or_ge t p with h7 | h7
    · exact h4 t t1 h7
    · obtain rfl : t = p := by omega
      exact hc
/-- nothing fits here -/
theorem glob_miss {P S : List UInt8} {p i : Nat} (h : (p = P.length ∧ i < S.length) ∨ (p < P.length ∧ P.getD p 0 ≠ 42 ∧ i = S.length) ∨ (p < P.length ∧ P.getD p 0 ≠ 42 ∧ P.getD p 0 ≠ 63 ∧ i < S.length ∧ P.getD p 0 ≠ S.getD i 0)) : gm (P.drop p) (S.drop i) = false := by
  rcases h with ⟨rfl, h⟩ | ⟨h1, h2, rfl⟩ | ⟨h1, h2, h3, h4, h5⟩
  · rw [List.drop_length, getD_drop h]; rfl
  · rw [List.drop_length, getD_drop h1, gm_cons_nil h2]
  · rw [getD_drop h1, getD_drop h4, gm_cons h2]
    have : (P.getD p 0 == 63 || P.getD p 0 == S.getD i 0) = false := by rw [Bool.or_eq_false_iff]; exact ⟨beq_eq_false_iff_ne.2 h3, beq_eq_false_iff_ne.2 h5⟩
    rw [this]; rfl
theorem glob_back {P S : List UInt8} {G : Bool} {p i bk st : Nat} (h : Back P S G p i st bk) (hm : gm (P.drop p) (S.drop i) = false) (hb : bk < S.length) : GlobAt P S G st (bk + 1) (st : Int) (bk + 1) := by
  obtain ⟨h1, h2, h3, h4, h5, h6⟩ := h
  refine .inr ⟨st, rfl, Nat.le_refl _, by omega, hb, fun t t1 t2 => by omega, ?_, rfl⟩
  rw [h5, getD_drop hb, anyTail, ← getD_drop hb, h6, hm]; rfl
theorem glob_false {P S : List UInt8} {G : Bool} {p i bk : Nat} {star : Int} (h : GlobAt P S G p i star bk) (hm : gm (P.drop p) (S.drop i) = false) (hb : star = -1 ∨ bk = S.length) : G = false := by
  rcases h with ⟨_, h⟩ | ⟨st, h0, h1, h2, h3, h4, h5, h6⟩
  · rw [h, hm]
  · have hb' : bk = S.length := by omega
    rw [h5, hb', List.drop_length, anyTail]
    rw [hb', List.drop_length] at h6
    rw [h6, hm]
theorem glob_true {P S : List UInt8} {G : Bool} {p i bk : Nat} {star : Int} (h : GlobAt P S G p i star bk) (hp : p = P.length) (hi : i = S.length) : G = true := by
  have e : gm (P.drop p) (S.drop i) = true := by rw [hp, hi, List.drop_length, List.drop_length]; rfl
  rcases h with ⟨_, h⟩ | ⟨st, h0, h1, h2, h3, h4, h5, h6⟩
  · rw [h, e]
  · rw [h5, anyTail_iff]
    exact ⟨0, Nat.zero_le _, by rw [List.drop_zero, h6, e]⟩
end Go.Proofs.YtompmkcpicfdfaaDoor
