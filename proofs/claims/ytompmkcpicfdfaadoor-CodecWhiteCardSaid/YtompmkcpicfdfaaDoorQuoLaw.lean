/- Quoted-printable: what it writes and reads (plain). -/
import Derived.Test.YtompmkcpicfdfaaDoorPercLaw
namespace Go.Proofs.YtompmkcpicfdfaaDoor
open Go.RowKit
set_option linter.unusedVariables false
def blank (c : UInt8) : Bool := c == 32 || c == 9
/-- the end of a line, or of the string, behind blanks -/
def endL (soft : Bool) (l : List UInt8) : Option (List UInt8) :=
  match l.dropWhile blank with
  | [] => some []
  | c :: r =>
    if c = 10 then some (if soft then r else c :: r)
    else if c = 13 then match r with
      | [] => none
      | d :: q => if d = 10 then some (if soft then q else c :: d :: q) else none
    else none
theorem endL_le {soft : Bool} {l t : List UInt8} (h : endL soft l = some t) : t.length ≤ (l.dropWhile blank).length := by
  unfold endL at h
  split at h
  · cases h; simp
  · rename_i c r e
    rw [e]
    split at h
    · cases h; cases soft <;> simp
    · split at h
      · cases r with
        | nil => cases h
        | cons d q =>
          simp only at h
          split at h
          · cases h; cases soft <;> simp; omega
          · cases h
      · cases h
theorem dwb_le (l : List UInt8) : (l.dropWhile blank).length ≤ l.length := (List.dropWhile_suffix blank).length_le
/-- a byte that may stand in a text -/
def okc (c : UInt8) : Bool := decide (c.toNat ≤ 126) && (decide (32 ≤ c.toNat) || wh c)
theorem endL_blank_lt {c : UInt8} {r t : List UInt8} (hb : blank c = true) (h : endL false (c :: r) = some t) : t.length ≤ r.length := by
  have h1 := endL_le h
  rw [List.dropWhile_cons, hb] at h1
  have := dwb_le r
  simp at h1; omega
theorem endL_soft_le {r t : List UInt8} (h : endL true r = some t) : t.length ≤ r.length := Nat.le_trans (endL_le h) (dwb_le r)
def unqN : Nat → List UInt8 → List UInt8 × Bool
  | 0, _ => ([], true)
  | _ + 1, [] => ([], true)
  | n + 1, c :: r =>
    if c = 61 then
      match hpair r with
      | some x => (x :: (unqN n (r.drop 2)).1, (unqN n (r.drop 2)).2)
      | none =>
        match endL true r with
        | some t => unqN n t
        | none => (c :: (unqN n r).1, false)
    else if blank c then
      match endL false (c :: r) with
      | some t => unqN n t
      | none => (c :: (unqN n r).1, (unqN n r).2)
    else (c :: (unqN n r).1, okc c && (unqN n r).2)
theorem unqN_enough : ∀ (n m : Nat) (l : List UInt8), l.length ≤ n → l.length ≤ m → unqN n l = unqN m l
  | 0, m, l, h1, h2 => by
    obtain rfl : l = [] := List.eq_nil_of_length_eq_zero (by omega)
    cases m <;> rfl
  | n + 1, 0, l, h1, h2 => by
    obtain rfl : l = [] := List.eq_nil_of_length_eq_zero (by omega)
    rfl
  | n + 1, m + 1, [], _, _ => rfl
  | n + 1, m + 1, c :: r, h1, h2 => by
    simp only [List.length_cons] at h1 h2
    have e1 := unqN_enough n m r (by omega) (by omega)
    have e2 := unqN_enough n m (r.drop 2) (by rw [List.length_drop]; omega) (by rw [List.length_drop]; omega)
    unfold unqN
    rw [e1, e2]
    split
    · cases hpair r with
      | some x => rfl
      | none =>
        simp only
        cases he : endL true r with
        | none => rfl
        | some t =>
          have := endL_soft_le he
          exact unqN_enough n m t (by omega) (by omega)
    · split
      · rename_i hb
        cases he : endL false (c :: r) with
        | none => rfl
        | some t =>
          have := endL_blank_lt hb he
          exact unqN_enough n m t (by omega) (by omega)
      · rfl
/-- what is read -/
def unq (l : List UInt8) : List UInt8 × Bool := unqN l.length l
theorem unqN_eq {n : Nat} {l : List UInt8} (h : l.length ≤ n) : unqN n l = unq l := unqN_enough _ _ _ h (Nat.le_refl _)
theorem unq_nil : unq [] = ([], true) := rfl
theorem unq_pair {r : List UInt8} {x : UInt8} (h : hpair r = some x) : unq (61 :: r) = (x :: (unq (r.drop 2)).1, (unq (r.drop 2)).2) := by
  show unqN (r.length + 1) _ = _
  rw [unqN, if_pos rfl, h]
  simp only
  rw [unqN_eq (by rw [List.length_drop]; omega)]
theorem unq_soft {r t : List UInt8} (h : hpair r = none) (h2 : endL true r = some t) : unq (61 :: r) = unq t := by
  show unqN (r.length + 1) _ = _
  rw [unqN, if_pos rfl, h]
  simp only [h2]
  rw [unqN_eq (endL_soft_le h2)]
theorem unq_bad {r : List UInt8} (h : hpair r = none) (h2 : endL true r = none) : unq (61 :: r) = (61 :: (unq r).1, false) := by
  show unqN (r.length + 1) _ = _
  rw [unqN, if_pos rfl, h]
  simp only [h2]
  rw [unqN_eq (Nat.le_refl _)]
theorem blank_ne {c : UInt8} (hb : blank c = true) : c ≠ 61 := by rintro rfl; cases hb
theorem unq_blanks {c : UInt8} {r t : List UInt8} (hb : blank c = true) (h2 : endL false (c :: r) = some t) : unq (c :: r) = unq t := by
  show unqN (r.length + 1) _ = _
  rw [unqN, if_neg (blank_ne hb), if_pos hb]
  simp only [h2]
  rw [unqN_eq (endL_blank_lt hb h2)]
theorem unq_blank {c : UInt8} {r : List UInt8} (hb : blank c = true) (h2 : endL false (c :: r) = none) : unq (c :: r) = (c :: (unq r).1, (unq r).2) := by
  show unqN (r.length + 1) _ = _
  rw [unqN, if_neg (blank_ne hb), if_pos hb]
  simp only [h2]
  rw [unqN_eq (Nat.le_refl _)]
theorem unq_byte {c : UInt8} (r : List UInt8) (h : c ≠ 61) (hb : blank c = false) : unq (c :: r) = (c :: (unq r).1, okc c && (unq r).2) := by
  show unqN (r.length + 1) _ = _
  rw [unqN, if_neg h, hb]
  simp only [Bool.false_eq_true, if_false]
  rw [unqN_eq (Nat.le_refl _)]
theorem unq_len : ∀ (n : Nat) (l : List UInt8), l.length ≤ n → (unq l).1.length ≤ l.length
  | 0, l, h => by
    obtain rfl : l = [] := List.eq_nil_of_length_eq_zero (by omega)
    exact Nat.le_refl _
  | n + 1, [], _ => Nat.le_refl _
  | n + 1, c :: r, h => by
    simp only [List.length_cons] at h
    have h1 := unq_len n r (by omega)
    have h2 := unq_len n (r.drop 2) (by rw [List.length_drop]; omega)
    rw [List.length_drop] at h2
    by_cases hc : c = 61
    · subst hc
      cases hp : hpair r with
      | some x => rw [unq_pair hp]; simp; omega
      | none =>
        cases he : endL true r with
        | none => rw [unq_bad hp he]; simp; omega
        | some t =>
          have h3 := endL_soft_le he
          have h4 := unq_len n t (by omega)
          rw [unq_soft hp he]; simp; omega
    · cases hb : blank c
      · rw [unq_byte r hc hb]; simp; omega
      · cases he : endL false (c :: r) with
        | none => rw [unq_blank hb he]; simp; omega
        | some t =>
          have h3 := endL_blank_lt hb he
          have h4 := unq_len n t (by omega)
          rw [unq_blanks hb he]; simp; omega
/-! ### writing -/
def plainB (c : UInt8) (last : Bool) : Bool := if blank c then !last else decide (32 < c.toNat) && decide (c.toNat < 127) && c != 61
def qform (c : UInt8) (last : Bool) : List UInt8 := if plainB c last then [c] else qf 61 c
def most (last : Bool) : Nat := if last then 76 else 75
/-- a line, from a column on -/
def qln : Nat → List UInt8 → List UInt8
  | _, [] => []
  | col, c :: r => if most r.isEmpty < col + (qform c r.isEmpty).length then 61 :: 10 :: (qform c r.isEmpty ++ qln (qform c r.isEmpty).length r) else qform c r.isEmpty ++ qln (col + (qform c r.isEmpty).length) r
def isLast : List UInt8 → Bool
  | [] => true
  | c :: _ => c == 10
/-- all lines -/
def qall : Nat → List UInt8 → List UInt8
  | _, [] => []
  | col, c :: r => if c = 10 then 10 :: qall 0 r else if most (isLast r) < col + (qform c (isLast r)).length then 61 :: 10 :: (qform c (isLast r) ++ qall (qform c (isLast r)).length r) else qform c (isLast r) ++ qall (col + (qform c (isLast r)).length) r
theorem qall_lf (col : Nat) (r : List UInt8) : qall col (10 :: r) = 10 :: qall 0 r := by rw [qall, if_pos rfl]
theorem qform_len (c : UInt8) (b : Bool) : 1 ≤ (qform c b).length ∧ (qform c b).length ≤ 3 := by
  unfold qform qf; split <;> simp
theorem isLast_app (r t : List UInt8) : isLast (r ++ 10 :: t) = isLast r := by cases r <;> rfl
theorem qall_app : ∀ (s : List UInt8) (col : Nat) (t : List UInt8), qall col (s ++ 10 :: t) = qall col s ++ 10 :: qall 0 t
  | [], col, t => by rw [List.nil_append, qall_lf]; rfl
  | c :: s, col, t => by
    rw [List.cons_append, qall, qall, isLast_app]
    by_cases hc : c = 10
    · rw [if_pos hc, if_pos hc, qall_app s 0 t]; rfl
    · rw [if_neg hc, if_neg hc]
      split
      · rw [qall_app s _ t]; simp
      · rw [qall_app s _ t]; simp
theorem qln_all : ∀ (x : List UInt8) (col : Nat), (∀ c ∈ x, c ≠ 10) → qln col x = qall col x
  | [], _, _ => rfl
  | c :: x, col, h => by
    have e : x.isEmpty = isLast x := by
      cases x with
      | nil => rfl
      | cons d q =>
        have := h d (by simp)
        simp [isLast, this]
    rw [qln, qall, if_neg (h c (by simp)), e]
    rw [qln_all x _ (fun d hd => h d (by simp [hd])), qln_all x _ (fun d hd => h d (by simp [hd]))]
/-! ### back -/
theorem qf_byte {c : UInt8} (h : 32 < c.toNat) (h2 : c.toNat < 127) : okc c = true ∧ blank c = false ∧ c ≠ 10 ∧ c ≠ 13 := by
  have := u8_all (p := fun c => !(decide (32 < c.toNat) && decide (c.toNat < 127)) || (okc c && !blank c && c != 10 && c != 13)) (by decide +kernel) c
  simp [h, h2] at this
  exact ⟨this.1.1.1, this.1.1.2, this.1.2, this.2⟩
theorem endL_stop {soft : Bool} {c : UInt8} {r : List UInt8} (h0 : blank c = false) (h1 : c ≠ 10) (h2 : c ≠ 13) : endL soft (c :: r) = none := by
  unfold endL
  rw [List.dropWhile_cons, h0]
  simp only [Bool.false_eq_true, if_false]
  rw [if_neg h1, if_neg h2]
theorem endL_pass {soft : Bool} {c : UInt8} {r : List UInt8} (h0 : blank c = true) : endL soft (c :: r) = endL soft r := by
  unfold endL
  rw [List.dropWhile_cons, h0]; rfl
theorem endL_qall (soft : Bool) : ∀ (r : List UInt8) (col : Nat), isLast r = false → endL soft (qall col r) = none
  | [], _, h => by cases h
  | c :: r, col, h => by
    have hc : c ≠ 10 := by simpa [isLast] using h
    rw [qall, if_neg hc]
    split
    · exact endL_stop (by decide) (by decide) (by decide)
    · unfold qform plainB
      cases hb : blank c
      · simp only [Bool.false_eq_true, if_false]
        split
        · rename_i hp
          simp at hp
          have := qf_byte hp.1.1 hp.1.2
          exact endL_stop hb this.2.2.1 this.2.2.2
        · exact endL_stop (by decide) (by decide) (by decide)
      · simp only [if_true]
        cases hl : isLast r
        · simp only [Bool.not_false, if_true, List.singleton_append]
          rw [endL_pass hb]
          exact endL_qall soft r _ hl
        · exact endL_stop (by decide) (by decide) (by decide)
theorem unq_softline (t : List UInt8) : unq (61 :: 10 :: t) = unq t := by
  refine unq_soft ?_ rfl
  cases t with
  | nil => rfl
  | cons d q => rfl
theorem unq_form {c : UInt8} {r t : List UInt8} (hc : c ≠ 10) (ht : isLast r = false → endL false t = none) : unq (qform c (isLast r) ++ t) = (c :: (unq t).1, (unq t).2) := by
  have hq : unq (qf 61 c ++ t) = (c :: (unq t).1, (unq t).2) := by
    rw [show qf 61 c ++ t = 61 :: (hexD (c.toNat / 16) :: hexD (c.toNat % 16) :: t) from rfl, unq_pair (hpair_qf c t)]; rfl
  unfold qform plainB
  cases hb : blank c
  · simp only [Bool.false_eq_true, if_false]
    split
    · rename_i hp
      simp at hp
      have := qf_byte hp.1.1 hp.1.2
      rw [List.singleton_append, unq_byte t hp.2 hb, this.1]; simp
    · exact hq
  · simp only [if_true]
    cases hl : isLast r
    · simp only [Bool.not_false, if_true, List.singleton_append]
      exact unq_blank hb (by rw [endL_pass hb]; exact ht hl)
    · exact hq
theorem unq_qall : ∀ (s : List UInt8) (col : Nat), unq (qall col s) = (s, true)
  | [], _ => rfl
  | c :: r, col => by
    rw [qall]
    by_cases hc : c = 10
    · rw [if_pos hc, hc, unq_byte _ (by decide) (by decide), unq_qall r]; rfl
    · rw [if_neg hc]
      split
      · rw [unq_softline, unq_form hc (fun h => endL_qall false r _ h), unq_qall r]
      · rw [unq_form hc (fun h => endL_qall false r _ h), unq_qall r]
/-! ### lines -/
/-- the lines' bytes and lengths -/
def fitsL (tabs : Bool) : Nat → List UInt8 → Bool
  | _, [] => true
  | n, c :: r => if c = 10 then fitsL tabs 0 r else decide (n + 1 ≤ 76) && ((decide (32 ≤ c.toNat) && decide (c.toNat ≤ 126)) || (tabs && c == 9)) && !(blank c && isLast r) && fitsL tabs (n + 1) r
theorem qf_fits {c : UInt8} (n : Nat) (t : List UInt8) (h : n + 3 ≤ 76) : fitsL true n (qf 61 c ++ t) = fitsL true (n + 3) t := by
  have hd : ∀ m, m < 16 → (hexD m ≠ 10 ∧ 32 ≤ (hexD m).toNat ∧ (hexD m).toNat ≤ 126 ∧ blank (hexD m) = false) := by decide +kernel
  have h1 := hd (c.toNat / 16) (by have := c.toNat_lt; omega)
  have h2 := hd (c.toNat % 16) (by omega)
  rw [show qf 61 c ++ t = 61 :: hexD (c.toNat / 16) :: hexD (c.toNat % 16) :: t from rfl]
  rw [fitsL, if_neg (by decide), fitsL, if_neg h1.1, fitsL, if_neg h2.1]
  have a1 : n ≤ 75 := by omega
  have a2 : n ≤ 74 := by omega
  have a3 : n ≤ 73 := by omega
  simp [h1, h2, show blank 61 = false from rfl, a1, a2, a3]
theorem isLast_qall : ∀ (r : List UInt8) (col : Nat), isLast (qall col r) = isLast r
  | [], _ => rfl
  | c :: r, col => by
    rw [qall]
    by_cases hc : c = 10
    · rw [if_pos hc, hc]; rfl
    · rw [if_neg hc]
      have e : isLast (c :: r) = false := by simp [isLast, hc]
      rw [e]
      split
      · rfl
      · unfold qform; split
        · exact e
        · rfl
theorem form_fits {c : UInt8} {r t : List UInt8} (n : Nat) (hc : c ≠ 10) (h : n + (qform c (isLast r)).length ≤ 76) (ht : isLast t = isLast r) :
    fitsL true n (qform c (isLast r) ++ t) = fitsL true (n + (qform c (isLast r)).length) t := by
  unfold qform at h ⊢
  cases hp : plainB c (isLast r)
  · simp only [hp, Bool.false_eq_true, if_false] at h ⊢
    exact qf_fits n t (by simpa [qf] using h)
  · simp only [hp, if_true] at h ⊢
    rw [List.singleton_append, fitsL, if_neg hc, ht]
    have h1 : n + 1 ≤ 76 := by simpa using h
    have h2 : ((decide (32 ≤ c.toNat) && decide (c.toNat ≤ 126)) || (true && c == 9)) = true ∧ (blank c && isLast r) = false := by
      unfold plainB at hp
      cases hb : blank c
      · rw [hb] at hp
        simp at hp
        simp; omega
      · rw [hb] at hp
        simp at hp
        have : c = 32 ∨ c = 9 := by simpa [blank] using hb
        rcases this with rfl | rfl <;> simp [hp]
    rw [h2.1, h2.2]
    simp
    omega
theorem fits_qall : ∀ (s : List UInt8) (col : Nat), col ≤ 75 ∨ (col ≤ 76 ∧ isLast s = true) → fitsL true col (qall col s) = true
  | [], _, _ => rfl
  | c :: r, col, h => by
    rw [qall]
    by_cases hc : c = 10
    · rw [if_pos hc, fitsL, if_pos rfl]; exact fits_qall r 0 (.inl (by omega))
    · have e : isLast (c :: r) = false := by simp [isLast, hc]
      rw [e] at h
      have h75 : col ≤ 75 := by
        rcases h with h1 | h1
        · exact h1
        · exact absurd h1.2 (by decide)
      have hl := qform_len c (isLast r)
      rw [if_neg hc]
      split
      · rw [fitsL, if_neg (by decide), fitsL, if_pos rfl, form_fits 0 hc (by omega) (isLast_qall r _), Nat.zero_add, fits_qall r _ (.inl (by omega))]
        simp [show blank 61 = false from rfl]
        omega
      · rename_i hm
        have hm' : col + (qform c (isLast r)).length ≤ most (isLast r) := by omega
        have h76 : most (isLast r) ≤ 76 := by unfold most; split <;> omega
        rw [form_fits col hc (by omega) (isLast_qall r _)]
        refine fits_qall r _ ?_
        cases hl2 : isLast r
        · rw [hl2] at hm'; exact .inl hm'
        · rw [hl2] at hm'; exact .inr ⟨hm', rfl⟩
/-! ### what has nothing to read -/
/-- no '=', no blank in front of a line's end -/
def clean : List UInt8 → Bool
  | [] => true
  | c :: r => c != 61 && !(blank c && (isLast r || r.head? == some 13)) && clean r
theorem endL_clean : ∀ (r : List UInt8), clean r = true → isLast r = false → r.head? ≠ some 13 → endL false r = none
  | [], _, h, _ => by cases h
  | c :: r, hcl, h, h3 => by
    have hc : c ≠ 10 := by simpa [isLast] using h
    have hc3 : c ≠ 13 := by simpa using h3
    cases hb : blank c
    · exact endL_stop hb hc hc3
    · rw [endL_pass hb]
      simp [clean, hb] at hcl
      exact endL_clean r hcl.2 (by simpa using hcl.1.2.1) (by simpa using hcl.1.2.2)
theorem unq_clean : ∀ (s : List UInt8), clean s = true → unq s = (s, s.all okc)
  | [], _ => rfl
  | c :: r, h => by
    have h' := h
    simp [clean] at h
    obtain ⟨⟨h1, h2⟩, h3⟩ := h
    have ih := unq_clean r h3
    cases hb : blank c
    · rw [unq_byte r h1 hb, ih]; rfl
    · have h4 : isLast r = false ∧ r.head? ≠ some 13 := by
        rcases h2 with h2 | h2
        · rw [h2] at hb; cases hb
        · exact h2
      have hok : okc c = true := by
        have : c = 32 ∨ c = 9 := by simpa [blank] using hb
        rcases this with rfl | rfl <;> rfl
      rw [unq_blank hb (by rw [endL_pass hb]; exact endL_clean r h3 h4.1 h4.2), ih, List.all_cons, hok]
      simp
theorem qall_len : ∀ (s : List UInt8) (col : Nat), s.length ≤ (qall col s).length ∧ (qall col s).length ≤ 5 * s.length
  | [], _ => by simp [qall]
  | c :: r, col => by
    rw [qall]
    by_cases hc : c = 10
    · have := qall_len r 0
      rw [if_pos hc]; simp; omega
    · have hl := qform_len c (isLast r)
      rw [if_neg hc]
      split
      · have := qall_len r (qform c (isLast r)).length
        simp; omega
      · have := qall_len r (col + (qform c (isLast r)).length)
        simp; omega
end Go.Proofs.YtompmkcpicfdfaaDoor
