/- quote: what is taken out (plain). -/
import Derived.Test.YtompmkcpicfdfaaDoorLinesLaw
import Derived.Lib.Itoa
namespace Go.Proofs.YtompmkcpicfdfaaDoor
open Go.RowKit
set_option linter.unusedVariables false
/-- the level of a line, and what is left -/
def levG : Nat → List UInt8 → List UInt8 → Nat × List UInt8
  | n, rest, [] => (n, rest)
  | n, rest, c :: l => if c = 32 then levG n rest l else if c = 62 then levG (n + 1) l l else (n, rest)
def dropSp : List UInt8 → List UInt8
  | [] => []
  | c :: l => if c = 32 then l else c :: l
def lev (l : List UInt8) : Nat × List UInt8 := if (levG 0 l l).1 = 0 then levG 0 l l else ((levG 0 l l).1, dropSp (levG 0 l l).2)
def qtd (l : List UInt8) : Bool := decide (0 < (lev l).1)
def keyL (l : List UInt8) : List UInt8 := Lib.join (wfields (lev l).2) [32]
abbrev KK := List UInt8
section
/-- how many agree at the beginning -/
def agr : List KK → List KK → Nat
  | a :: x, b :: y => if a = b then agr x y + 1 else 0
  | _, _ => 0
def findIn (q : List KK) : List KK → Option (List KK)
  | [] => none
  | x :: r => if 3 ≤ agr q (x :: r) then some (x :: r) else findIn q r
def firstP (q : List KK) (texts : List (List KK)) : Option (List KK) := texts.findSome? (findIn q)
theorem agr_le_left : ∀ (x y : List KK), agr x y ≤ x.length
  | [], y => by simp [agr]
  | a :: x, [] => by simp [agr]
  | a :: x, b :: y => by
    rw [agr]; split
    · have := agr_le_left x y; simp; omega
    · simp
theorem agr_le_right : ∀ (x y : List KK), agr x y ≤ y.length
  | [], y => by simp [agr]
  | a :: x, [] => by simp [agr]
  | a :: x, b :: y => by
    rw [agr]; split
    · have := agr_le_right x y; simp; omega
    · simp
theorem agr_take : ∀ (n : Nat) (x y : List KK), agr (x.take n) y = min n (agr x y)
  | 0, x, y => by simp [agr]
  | n + 1, [], y => by simp [agr]
  | n + 1, a :: x, [] => by simp [agr]
  | n + 1, a :: x, b :: y => by
    rw [List.take_succ_cons, agr, agr, agr_take n x y]
    split <;> omega
/-- three agree -/
theorem agr_three : ∀ (n : Nat) (x y : List KK), n ≤ agr x y ↔ (n ≤ x.length ∧ n ≤ y.length ∧ x.take n = y.take n)
  | 0, x, y => by simp
  | n + 1, [], y => by simp [agr]
  | n + 1, a :: x, [] => by simp [agr]
  | n + 1, a :: x, b :: y => by
    have := agr_three n x y
    rw [agr]
    split
    · rename_i h
      subst h
      simp only [List.length_cons, List.take_succ_cons, List.cons.injEq, true_and, Nat.add_le_add_iff_right]
      exact this
    · rename_i h
      simp [h]
/-- the triples of a text, with their places -/
def triL (t : Nat) : Nat → List KK → List ((KK × KK × KK) × (Nat × Nat))
  | k, a :: b :: c :: r => ((a, b, c), (t, k)) :: triL t (k + 1) (b :: c :: r)
  | _, _ => []
def triAll : Nat → List (List KK) → List ((KK × KK × KK) × (Nat × Nat))
  | _, [] => []
  | t, x :: r => triL t 0 x ++ triAll (t + 1) r
theorem lookup_append {κ β : Type} [BEq κ] (x : κ) : ∀ (l r : List (κ × β)), (l ++ r).lookup x = ((l.lookup x).or (r.lookup x))
  | [], r => by simp
  | (k, v) :: l, r => by
    rw [List.cons_append, List.lookup_cons, List.lookup_cons]
    split
    · simp
    · exact lookup_append x l r
theorem findIn_short (q : List KK) : ∀ (l : List KK), l.length < 3 → findIn q l = none
  | [], _ => rfl
  | x :: r, h => by
    have h1 := agr_le_right q (x :: r)
    rw [findIn, if_neg (by omega), findIn_short q r (by simp at h; omega)]
theorem triL_find (a b c : KK) (q : List KK) (t : Nat) : ∀ (l pre : List KK) (k : Nat), pre.length = k → ∀ full, full = pre ++ l →
    findIn (a :: b :: c :: q) l = ((triL t k l).lookup (a, b, c)).map (fun p => full.drop p.2) ∧ ∀ p, (triL t k l).lookup (a, b, c) = some p → p.1 = t ∧ p.2 + 3 ≤ full.length
  | [], pre, k, hk, full, hf => by simp [findIn, triL]
  | [x], pre, k, hk, full, hf => by
    rw [findIn_short _ [x] (by simp)]; simp [triL]
  | [x, y], pre, k, hk, full, hf => by
    rw [findIn_short _ [x, y] (by simp)]; simp [triL]
  | x :: y :: z :: r, pre, k, hk, full, hf => by
    obtain ⟨ih1, ih2⟩ := triL_find a b c q t (y :: z :: r) (pre ++ [x]) (k + 1) (by simp [hk]) full (by simp [hf])
    rw [findIn, triL, List.lookup_cons]
    by_cases h : (a, b, c) = (x, y, z)
    · injection h with h1 h2
      injection h2 with h2 h3
      subst h1 h2 h3
      have e : 3 ≤ agr (a :: b :: c :: q) (a :: b :: c :: r) := (agr_three 3 _ _).2 ⟨by simp, by simp, rfl⟩
      rw [if_pos e]
      simp only [beq_self_eq_true, Option.map_some]
      refine ⟨?_, ?_⟩
      · rw [hf, ← hk]; simp
      · rintro p hp
        injection hp with hp
        subst hp
        refine ⟨rfl, ?_⟩
        rw [hf]; simp; omega
    · have e : ¬ 3 ≤ agr (a :: b :: c :: q) (x :: y :: z :: r) := by
        intro h5
        obtain ⟨_, _, h6⟩ := (agr_three 3 _ _).1 h5
        simp at h6
        exact h (by rw [h6.1, h6.2.1, h6.2.2])
      rw [if_neg e]
      have e2 : ((a, b, c) == (x, y, z)) = false := by simpa using h
      rw [e2]
      exact ⟨ih1, ih2⟩
theorem triAll_find (a b c : KK) (q : List KK) : ∀ (texts pre : List (List KK)) (t : Nat), pre.length = t → ∀ full, full = pre ++ texts →
    firstP (a :: b :: c :: q) texts = ((triAll t texts).lookup (a, b, c)).map (fun p => (full.getD p.1 []).drop p.2) ∧ ∀ p, (triAll t texts).lookup (a, b, c) = some p → p.1 < full.length ∧ p.2 + 3 ≤ (full.getD p.1 []).length
  | [], pre, t, ht, full, hf => by simp [firstP, triAll]
  | x :: r, pre, t, ht, full, hf => by
    obtain ⟨ih1, ih2⟩ := triAll_find a b c q r (pre ++ [x]) (t + 1) (by simp [ht]) full (by simp [hf])
    obtain ⟨j1, j2⟩ := triL_find a b c q t x [] 0 rfl x rfl
    have hx : full.getD t [] = x := by
      rw [hf, ← ht]; simp [List.getD_eq_getElem?_getD]
    have hlt : t < full.length := by rw [hf, ← ht]; simp
    rw [triAll, lookup_append]
    unfold firstP at ih1 ⊢
    rw [List.findSome?_cons, j1]
    cases hl : (triL t 0 x).lookup (a, b, c) with
    | none => simp only [Option.map_none, Option.none_or]; exact ⟨ih1, ih2⟩
    | some p =>
      obtain ⟨h1, h2⟩ := j2 p hl
      simp only [Option.map_some, Option.some_or]
      refine ⟨?_, ?_⟩
      · rw [h1, hx]
      · rintro p' hp'
        injection hp' with hp'
        subst hp'
        rw [h1, hx]
        exact ⟨hlt, h2⟩
end
/-- the quoted lines from the first one on -/
def runQ (lines : List (List UInt8)) : Nat := (lines.takeWhile qtd).length
def quotN (texts : List (List (List UInt8))) (lines : List (List UInt8)) : Nat :=
  if runQ lines < 3 then 0 else match firstP (lines.map keyL) texts with
    | some x => min (runQ lines) (agr (lines.map keyL) x)
    | none => 0
def markL (n : Nat) : List UInt8 := [91] ++ Lib.itoa n ++ [32, 113, 117, 111, 116, 101, 100, 32, 108, 105, 110, 101, 115, 93]
def trimS (texts : List (List (List UInt8))) : Nat → List (List UInt8) → List (List UInt8)
  | _, [] => []
  | k + 1, _ :: r => trimS texts k r
  | 0, x :: r => if quotN texts (x :: r) = 0 then x :: trimS texts 0 r else markL (quotN texts (x :: r)) :: trimS texts (quotN texts (x :: r) - 1) r
def keysL (l : List UInt8) : List (List UInt8) := (wlines l).map keyL
def trimL (s : List UInt8) (earlier : List (List UInt8)) : List UInt8 := unl (trimS (earlier.map keysL) 0 (wlines s))
theorem trimS_drop (texts : List (List (List UInt8))) : ∀ (k : Nat) (l : List (List UInt8)), trimS texts k l = trimS texts 0 (l.drop k)
  | _, [] => by simp [trimS]
  | 0, x :: r => by simp
  | k + 1, x :: r => by rw [trimS, trimS_drop texts k r]; simp
theorem runQ_le (l : List (List UInt8)) : runQ l ≤ l.length := (List.takeWhile_prefix qtd).length_le
theorem quotN_le (texts : List (List (List UInt8))) (l : List (List UInt8)) : quotN texts l ≤ l.length := by
  unfold quotN
  split
  · omega
  · split
    · have := runQ_le l; omega
    · omega
theorem trimS_step (texts : List (List (List UInt8))) (l : List (List UInt8)) (h : l ≠ []) :
    (quotN texts l = 0 ∧ ∃ x r, l = x :: r ∧ trimS texts 0 l = x :: trimS texts 0 r) ∨ (0 < quotN texts l ∧ trimS texts 0 l = markL (quotN texts l) :: trimS texts 0 (l.drop (quotN texts l))) := by
  cases l with
  | nil => exact absurd rfl h
  | cons x r =>
    by_cases h0 : quotN texts (x :: r) = 0
    · left
      exact ⟨h0, x, r, rfl, by rw [trimS, if_pos h0]⟩
    · right
      refine ⟨by omega, ?_⟩
      rw [trimS, if_neg h0, trimS_drop]
      congr 2
      obtain ⟨m, hm⟩ : ∃ m, quotN texts (x :: r) = m + 1 := ⟨quotN texts (x :: r) - 1, by omega⟩
      rw [hm]; rfl
theorem levG_dw (n : Nat) (rest : List UInt8) : ∀ l : List UInt8, levG n rest l = match l.dropWhile (fun c => c == 32) with
    | [] => (n, rest)
    | c :: t => if c = 62 then levG (n + 1) t t else (n, rest)
  | [] => by simp [levG]
  | c :: l => by
    rw [levG, List.dropWhile_cons]
    by_cases h : c = 32
    · subst h
      simp only [if_true, beq_self_eq_true]
      exact levG_dw n rest l
    · have e : (c == 32) = false := by simpa using h
      rw [if_neg h, e]
      simp
end Go.Proofs.YtompmkcpicfdfaaDoor
