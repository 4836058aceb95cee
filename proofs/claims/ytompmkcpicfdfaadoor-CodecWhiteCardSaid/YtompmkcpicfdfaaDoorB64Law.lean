/- base64: what it writes and reads (plain). -/
import Derived.Test.YtompmkcpicfdfaaDoorQuoLaw
namespace Go.Proofs.YtompmkcpicfdfaaDoor
open Go.RowKit
set_option linter.unusedVariables false
def dig64 : List UInt8 := [65, 66, 67, 68, 69, 70, 71, 72, 73, 74, 75, 76, 77, 78, 79, 80, 81, 82, 83, 84, 85, 86, 87, 88, 89, 90, 97, 98, 99, 100, 101, 102, 103, 104, 105, 106, 107, 108, 109, 110, 111, 112, 113, 114, 115, 116, 117, 118, 119, 120, 121, 122, 48, 49, 50, 51, 52, 53, 54, 55, 56, 57, 43, 47]
def D64 (n : Nat) : UInt8 := dig64.getD n 0
def isD (c : UInt8) : Bool := dig64.contains c
def v64 (c : UInt8) : Nat := dig64.idxOf c
theorem D64_facts : ∀ n, n < 64 → isD (D64 n) = true ∧ v64 (D64 n) = n ∧ wh (D64 n) = false ∧ D64 n ≠ 61 ∧ D64 n ≠ 10 ∧ D64 n ≠ 13 ∧ blank (D64 n) = false ∧ 32 ≤ (D64 n).toNat ∧ (D64 n).toNat ≤ 126 := by decide +kernel
/-- the digits alone -/
def e64c : List UInt8 → List UInt8
  | a :: b :: c :: r => D64 (a.toNat / 4) :: D64 (a.toNat % 4 * 16 + b.toNat / 16) :: D64 (b.toNat % 16 * 4 + c.toNat / 64) :: D64 (c.toNat % 64) :: e64c r
  | [a, b] => [D64 (a.toNat / 4), D64 (a.toNat % 4 * 16 + b.toNat / 16), D64 (b.toNat % 16 * 4)]
  | [a] => [D64 (a.toNat / 4), D64 (a.toNat % 4 * 16)]
  | [] => []
def pad64 : List UInt8 → List UInt8
  | _ :: _ :: _ :: r => pad64 r
  | [_, _] => [61]
  | [_] => [61, 61]
  | [] => []
/-- a group of one to three bytes -/
def grp (l : List UInt8) : List UInt8 := e64c (l.take 3) ++ pad64 (l.take 3)
/-- in lines -/
def enc64 : Nat → List UInt8 → List UInt8
  | col, a :: b :: c :: r => grp [a, b, c] ++ if col + 4 = 76 then 10 :: enc64 0 r else enc64 (col + 4) r
  | _, [a, b] => grp [a, b] ++ [10]
  | _, [a] => grp [a] ++ [10]
  | col, [] => if 0 < col then [10] else []
/-- without the line ends -/
def e64 (l : List UInt8) : List UInt8 := e64c l ++ pad64 l
theorem u8lt (c : UInt8) : c.toNat < 256 := c.toNat_lt
/-- every byte of a group is a digit, or the sign behind them -/
theorem e64c_all {p : UInt8 → Prop} (h : ∀ n, n < 64 → p (D64 n)) : ∀ l : List UInt8, ∀ c ∈ e64c l, p c
  | a :: b :: c :: r => by
    have ha := u8lt a; have hb := u8lt b; have hc := u8lt c
    intro d hd
    rw [e64c] at hd
    simp only [List.mem_cons] at hd
    rcases hd with rfl | rfl | rfl | rfl | hd
    · exact h _ (by omega)
    · exact h _ (by omega)
    · exact h _ (by omega)
    · exact h _ (by omega)
    · exact e64c_all h r d hd
  | [a, b] => by
    have ha := u8lt a; have hb := u8lt b
    intro d hd
    simp only [e64c, List.mem_cons, List.not_mem_nil, or_false] at hd
    rcases hd with rfl | rfl | rfl <;> exact h _ (by omega)
  | [a] => by
    have ha := u8lt a
    intro d hd
    simp only [e64c, List.mem_cons, List.not_mem_nil, or_false] at hd
    rcases hd with rfl | rfl <;> exact h _ (by omega)
  | [] => by simp [e64c]
theorem pad64_all : ∀ l : List UInt8, ∀ c ∈ pad64 l, c = 61
  | a :: b :: c :: r => by rw [pad64]; exact pad64_all r
  | [a, b] => by simp [pad64]
  | [a] => by simp [pad64]
  | [] => by simp [pad64]
theorem e64_all {p : UInt8 → Prop} (h : ∀ n, n < 64 → p (D64 n)) (h61 : p 61) (l : List UInt8) : ∀ c ∈ e64 l, p c := by
  intro c hc
  rcases List.mem_append.1 hc with hc | hc
  · exact e64c_all h l c hc
  · rw [pad64_all l c hc]; exact h61
theorem grp_e64 (l : List UInt8) : grp l = e64 (l.take 3) := rfl
theorem filter_keep {p : UInt8 → Bool} : ∀ {l : List UInt8}, (∀ c ∈ l, p c = true) → l.filter p = l := by
  intro l h; exact List.filter_eq_self.2 h
/-- The text without what p drops, if p keeps digits and signs and drops line ends. -/
theorem enc64_filter {p : UInt8 → Bool} (h : ∀ n, n < 64 → p (D64 n) = true) (h61 : p 61 = true) (h10 : p 10 = false) : ∀ (l : List UInt8) (col : Nat), (enc64 col l).filter p = e64 l
  | a :: b :: c :: r, col => by
    have hg : (grp [a, b, c]).filter p = grp [a, b, c] := filter_keep (e64_all h h61 _)
    rw [enc64, List.filter_append, hg]
    have e : (if col + 4 = 76 then 10 :: enc64 0 r else enc64 (col + 4) r).filter p = e64 r := by
      split
      · rw [List.filter_cons, h10]; simpa using enc64_filter h h61 h10 r 0
      · exact enc64_filter h h61 h10 r _
    rw [e]
    simp [grp, e64, e64c, pad64]
  | [a, b], col => by
    have hg : (grp [a, b]).filter p = grp [a, b] := filter_keep (e64_all h h61 _)
    rw [enc64, List.filter_append, hg]
    simp [h10, grp, e64]
  | [a], col => by
    have hg : (grp [a]).filter p = grp [a] := filter_keep (e64_all h h61 _)
    rw [enc64, List.filter_append, hg]
    simp [h10, grp, e64]
  | [], col => by
    rw [enc64]; split <;> simp [e64, e64c, pad64, h10]
/-! ### reading -/
def d64g : List UInt8 → List UInt8
  | x :: y :: z :: w :: r => UInt8.ofNat (v64 x * 4 + v64 y / 16) :: UInt8.ofNat (v64 y % 16 * 16 + v64 z / 4) :: UInt8.ofNat (v64 z % 4 * 64 + v64 w) :: d64g r
  | [x, y, z] => [UInt8.ofNat (v64 x * 4 + v64 y / 16), UInt8.ofNat (v64 y % 16 * 16 + v64 z / 4)]
  | [x, y] => [UInt8.ofNat (v64 x * 4 + v64 y / 16)]
  | [_] => []
  | [] => []
def padOk (n : Nat) (rest : List UInt8) : Bool := if n % 4 = 0 then rest == [] else if n % 4 = 2 then rest == [61, 61] else if n % 4 = 3 then rest == [61] else false
/-- what is read, of a text without white bytes -/
def dec64 (t : List UInt8) : List UInt8 × Bool := (d64g (t.takeWhile isD), padOk (t.takeWhile isD).length (t.dropWhile isD))
def nw (c : UInt8) : Bool := !wh c
def unb (s : List UInt8) : List UInt8 × Bool := dec64 (s.filter nw)
theorem ofNat_eq {c : UInt8} {n : Nat} (h : n = c.toNat) : UInt8.ofNat n = c := by subst h; simp
theorem d64g_e64c : ∀ l : List UInt8, d64g (e64c l) = l
  | a :: b :: c :: r => by
    have ha := u8lt a; have hb := u8lt b; have hc := u8lt c
    rw [e64c, d64g, d64g_e64c r, (D64_facts _ (show a.toNat / 4 < 64 by omega)).2.1, (D64_facts _ (show a.toNat % 4 * 16 + b.toNat / 16 < 64 by omega)).2.1, (D64_facts _ (show b.toNat % 16 * 4 + c.toNat / 64 < 64 by omega)).2.1, (D64_facts _ (show c.toNat % 64 < 64 by omega)).2.1]
    rw [ofNat_eq (c := a) (by omega), ofNat_eq (c := b) (by omega), ofNat_eq (c := c) (by omega)]
  | [a, b] => by
    have ha := u8lt a; have hb := u8lt b
    rw [e64c, d64g, (D64_facts _ (show a.toNat / 4 < 64 by omega)).2.1, (D64_facts _ (show a.toNat % 4 * 16 + b.toNat / 16 < 64 by omega)).2.1, (D64_facts _ (show b.toNat % 16 * 4 < 64 by omega)).2.1]
    rw [ofNat_eq (c := a) (by omega), ofNat_eq (c := b) (by omega)]
  | [a] => by
    have ha := u8lt a
    rw [e64c, d64g, (D64_facts _ (show a.toNat / 4 < 64 by omega)).2.1, (D64_facts _ (show a.toNat % 4 * 16 < 64 by omega)).2.1]
    rw [ofNat_eq (c := a) (by omega)]
  | [] => rfl
theorem e64c_len : ∀ l : List UInt8, (e64c l).length % 4 = (if l.length % 3 = 0 then 0 else l.length % 3 + 1)
  | a :: b :: c :: r => by
    have := e64c_len r
    rw [e64c]
    simp only [List.length_cons]
    rw [show ((e64c r).length + 1 + 1 + 1 + 1) % 4 = (e64c r).length % 4 by omega, this, show (r.length + 1 + 1 + 1) % 3 = r.length % 3 by omega]
  | [a, b] => rfl
  | [a] => rfl
  | [] => rfl
theorem pad64_eq : ∀ l : List UInt8, pad64 l = if l.length % 3 = 0 then [] else if l.length % 3 = 1 then [61, 61] else [61]
  | a :: b :: c :: r => by
    have e : (r.length + 1 + 1 + 1) % 3 = r.length % 3 := by omega
    rw [pad64, pad64_eq r]
    simp only [List.length_cons, e]
  | [a, b] => rfl
  | [a] => rfl
  | [] => rfl
theorem tw_all {p : UInt8 → Bool} : ∀ {l r : List UInt8}, (∀ c ∈ l, p c = true) → (l ++ r).takeWhile p = l ++ r.takeWhile p ∧ (l ++ r).dropWhile p = r.dropWhile p
  | [], r, _ => ⟨rfl, rfl⟩
  | c :: l, r, h => by
    have hc := h c (by simp)
    obtain ⟨h1, h2⟩ := tw_all (l := l) (r := r) fun d hd => h d (by simp [hd])
    rw [List.cons_append, List.takeWhile_cons, List.dropWhile_cons, hc]
    exact ⟨by simpa using h1, by simpa using h2⟩
theorem dec64_of (l r : List UInt8) (hr : ∀ c q, r = c :: q → isD c = false) : dec64 (e64c l ++ r) = (l, padOk (e64c l).length r) := by
  obtain ⟨h1, h2⟩ := tw_all (l := e64c l) (r := r) (e64c_all (p := fun c => isD c = true) (fun n hn => (D64_facts n hn).1) l)
  have h3 : r.takeWhile isD = [] ∧ r.dropWhile isD = r := by
    cases r with
    | nil => exact ⟨rfl, rfl⟩
    | cons c q => rw [List.takeWhile_cons, List.dropWhile_cons, hr c q rfl]; exact ⟨rfl, rfl⟩
  unfold dec64
  rw [h1, h2, h3.1, h3.2, List.append_nil, d64g_e64c]
theorem dec64_e64 (l : List UInt8) : dec64 (e64 l) = (l, true) := by
  unfold e64
  rw [dec64_of l (pad64 l) (fun c q e => by rw [pad64_all l c (by rw [e]; simp)]; rfl)]
  congr 1
  unfold padOk
  rw [e64c_len, pad64_eq]
  have : l.length % 3 = 0 ∨ l.length % 3 = 1 ∨ l.length % 3 = 2 := by omega
  rcases this with h | h | h <;> rw [h] <;> rfl
theorem dec64_bare (l : List UInt8) : dec64 (e64c l) = (l, decide (l.length % 3 = 0)) := by
  have h := dec64_of l [] (fun c q e => by cases e)
  rw [List.append_nil] at h
  rw [h]
  congr 1
  unfold padOk
  rw [e64c_len]
  have : l.length % 3 = 0 ∨ l.length % 3 = 1 ∨ l.length % 3 = 2 := by omega
  rcases this with h | h | h <;> rw [h] <;> rfl
theorem dec64_other (l r : List UInt8) (x : UInt8) (h1 : isD x = false) (h2 : x ≠ 61) : dec64 (e64c l ++ x :: r) = (l, false) := by
  rw [dec64_of l (x :: r) (fun c q e => by cases e; exact h1)]
  congr 1
  unfold padOk
  have e1 : (x :: r == ([] : List UInt8)) = false := rfl
  have e2 : (x :: r == ([61, 61] : List UInt8)) = false := by simp [h2]
  have e3 : (x :: r == ([61] : List UInt8)) = false := by simp [h2]
  rw [e1, e2, e3]
  simp
theorem nwD (n : Nat) (h : n < 64) : nw (D64 n) = true := by unfold nw; rw [(D64_facts n h).2.2.1]; rfl
theorem unb_enc64 (l : List UInt8) (col : Nat) : unb (enc64 col l) = (l, true) := by
  unfold unb
  rw [enc64_filter nwD (by decide) (by decide), dec64_e64]
theorem d64g_len : ∀ l : List UInt8, (d64g l).length ≤ l.length
  | x :: y :: z :: w :: r => by have := d64g_len r; rw [d64g]; simp; omega
  | [x, y, z] => by simp [d64g]
  | [x, y] => by simp [d64g]
  | [_] => by simp [d64g]
  | [] => by simp [d64g]
theorem unb_len (s : List UInt8) : (unb s).1.length ≤ s.length := by
  refine Nat.le_trans (d64g_len _) (Nat.le_trans ?_ (List.length_filter_le nw s))
  exact (List.takeWhile_prefix isD).length_le
/-! ### lines -/
theorem fits_word (n : Nat) : ∀ (x t : List UInt8), (∀ c ∈ x, c ≠ 10 ∧ blank c = false ∧ 32 ≤ c.toNat ∧ c.toNat ≤ 126) → ∀ m, m + x.length ≤ 76 → fitsL false m (x ++ t) = fitsL false (m + x.length) t
  | [], t, _, m, _ => rfl
  | c :: x, t, h, m, hm => by
    obtain ⟨h1, h2, h3, h4⟩ := h c (by simp)
    simp only [List.length_cons] at hm
    rw [List.cons_append, fitsL, if_neg h1, fits_word n x t (fun d hd => h d (by simp [hd])) (m + 1) (by omega), h2]
    have a1 : m ≤ 75 := by omega
    simp [h3, h4, a1]
    rw [show m + 1 + x.length = m + (x.length + 1) by omega]
theorem grp_word (l : List UInt8) : ∀ c ∈ grp l, c ≠ 10 ∧ blank c = false ∧ 32 ≤ c.toNat ∧ c.toNat ≤ 126 :=
  e64_all (p := fun c => c ≠ 10 ∧ blank c = false ∧ 32 ≤ c.toNat ∧ c.toNat ≤ 126) (fun n hn => by have := D64_facts n hn; exact ⟨this.2.2.2.2.1, this.2.2.2.2.2.2.1, this.2.2.2.2.2.2.2⟩) (by decide) _
theorem grp_len (l : List UInt8) (h : l ≠ []) : (grp l).length = 4 := by
  match l with
  | [] => exact absurd rfl h
  | [a] => rfl
  | [a, b] => rfl
  | a :: b :: c :: r => rfl
theorem fits_enc64 : ∀ (l : List UInt8) (col : Nat), col % 4 = 0 → col < 76 → fitsL false col (enc64 col l) = true
  | a :: b :: c :: r, col, h1, h2 => by
    have hl := grp_len [a, b, c] (by simp)
    rw [enc64, fits_word 0 _ _ (grp_word _) col (by omega), hl]
    split
    · rw [fitsL, if_pos rfl]; exact fits_enc64 r 0 rfl (by decide)
    · exact fits_enc64 r _ (by omega) (by omega)
  | [a, b], col, h1, h2 => by
    have hl := grp_len [a, b] (by simp)
    rw [enc64, fits_word 0 _ _ (grp_word _) col (by omega), hl]; rfl
  | [a], col, h1, h2 => by
    have hl := grp_len [a] (by simp)
    rw [enc64, fits_word 0 _ _ (grp_word _) col (by omega), hl]; rfl
  | [], col, _, _ => by rw [enc64]; split <;> rfl
theorem enc64_last : ∀ (l : List UInt8) (col : Nat), enc64 col l = [] ∨ ∃ x, enc64 col l = x ++ [10]
  | a :: b :: c :: r, col => by
    right
    rw [enc64]
    split
    · rcases enc64_last r 0 with h | ⟨x, h⟩
      · rw [h]; exact ⟨_, rfl⟩
      · rw [h]; exact ⟨grp [a, b, c] ++ (10 :: x), by simp⟩
    · rcases enc64_last r (col + 4) with h | ⟨x, h⟩
      · cases r with
        | nil => rw [enc64, if_pos (by omega)]; exact ⟨_, rfl⟩
        | cons d r =>
          exfalso
          have := enc64_filter nwD (by decide) (by decide) (d :: r) (col + 4)
          rw [h] at this
          have h3 := d64g_e64c (d :: r)
          have h4 : e64c (d :: r) = [] := by
            have h5 : e64 (d :: r) = [] := this.symm
            unfold e64 at h5
            exact (List.append_eq_nil_iff.1 h5).1
          rw [h4] at h3
          cases h3
      · rw [h]; exact ⟨grp [a, b, c] ++ x, by simp⟩
  | [a, b], col => .inr ⟨_, rfl⟩
  | [a], col => .inr ⟨_, rfl⟩
  | [], col => by
    rw [enc64]; split
    · exact .inr ⟨[], rfl⟩
    · exact .inl rfl
theorem enc64_nil {l : List UInt8} (h : enc64 0 l = []) : l = [] := by
  have := unb_enc64 l 0
  rw [h] at this
  have h2 : ([] : List UInt8) = l := congrArg Prod.fst this
  exact h2.symm
/-! ### parts -/
theorem e64_app : ∀ (s t : List UInt8), s.length % 3 = 0 → e64 (s ++ t) = e64 s ++ e64 t
  | a :: b :: c :: r, t, h => by
    have := e64_app r t (by simp only [List.length_cons] at h; omega)
    unfold e64 at this ⊢
    rw [List.cons_append, List.cons_append, List.cons_append, e64c, pad64, e64c, pad64]
    simp [this]
  | [a, b], t, h => by simp at h
  | [a], t, h => by simp at h
  | [], t, _ => by rw [List.nil_append]; rfl
theorem enc64_len : ∀ (l : List UInt8) (col : Nat), (enc64 col l).length ≤ 2 * l.length + 5
  | a :: b :: c :: r, col => by
    have h1 := enc64_len r 0
    have h2 := enc64_len r (col + 4)
    have hl := grp_len [a, b, c] (by simp)
    rw [enc64, List.length_append, hl]
    split
    · simp; omega
    · simp; omega
  | [a, b], col => by rw [enc64, List.length_append, grp_len _ (by simp)]; simp
  | [a], col => by rw [enc64, List.length_append, grp_len _ (by simp)]; simp
  | [], col => by rw [enc64]; split <;> simp
end Go.Proofs.YtompmkcpicfdfaaDoor
