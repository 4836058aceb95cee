/- Decimal numerals (plain). -/
import Derived.Test.YtompmkcpicfdfaaDoorTextD
import Derived.Lib.ItoaMem
namespace Go.Proofs.YtompmkcpicfdfaaDoor
open Go.Lib
set_option linter.unusedVariables false
theorem digitVal_dig : ∀ d : Nat, d < 10 → digitVal (UInt8.ofNat (48 + d)) = some d := by decide
theorem decFrom_append (c : UInt8) : ∀ (l : List UInt8) (a : Nat), decFrom a (l ++ [c]) = (decFrom a l).bind fun m => (digitVal c).map fun d => m * 10 + d
  | [], a => by
    simp only [List.nil_append, decFrom, Option.bind]
    cases digitVal c <;> rfl
  | b :: l, a => by
    simp only [List.cons_append, decFrom]
    cases digitVal b with
    | none => rfl
    | some d => exact decFrom_append c l _
theorem decFrom_digits (u : Nat) : decFrom 0 (decDigits u) = some u := by
  induction u using Nat.strongRecOn with
  | _ u ih =>
    by_cases h : u < 10
    · rw [decDigits, dif_pos h]
      simp only [decFrom, digitVal_dig u h]
      simp
    · rw [decDigits, dif_neg h, decFrom_append, ih (u / 10) (by omega), digitVal_dig _ (by omega)]
      simp only [Option.bind, Option.map]
      congr 1
      omega
theorem nDigits_le : ∀ (k u : Nat), u < 10 ^ (k + 1) → nDigits u ≤ k + 1
  | 0, u, h => by rw [nDigits_small (by simpa using h)]; exact Nat.le_refl _
  | k + 1, u, h => by
    by_cases hs : u < 10
    · rw [nDigits_small hs]; omega
    · rw [nDigits_big hs]
      have := nDigits_le k (u / 10) (by rw [Nat.pow_succ] at h; omega)
      omega
theorem nDigits_15 (u : Nat) : nDigits u ≤ 15 ↔ u ≤ 999999999999999 := by
  constructor
  · intro h
    have h1 := lt_pow_nDigits u
    have h2 : 10 ^ nDigits u ≤ 10 ^ 15 := Nat.pow_le_pow_right (by decide) h
    have h3 : (10 : Nat) ^ 15 = 1000000000000000 := by decide
    omega
  · intro h
    exact nDigits_le 14 u (by have h3 : (10 : Nat) ^ 15 = 1000000000000000 := by decide
                              show u < 10 ^ 15
                              omega)
theorem digits_ne (u : Nat) : decDigits u ≠ [] := fun h => by
  have := congrArg List.length h
  rw [decDigits_length] at this
  have := nDigits_pos u
  simp at *
  omega
theorem decFrom_minus (l : List UInt8) : decFrom 0 (45 :: l) = none := by simp [decFrom, digitVal]
theorem itoa_inj {n m : Int} (h : itoa n = itoa m) : n = m := by
  unfold itoa at h
  by_cases h1 : n < 0 <;> by_cases h2 : m < 0
  · rw [if_pos h1, if_pos h2] at h
    have := congrArg (decFrom 0) (List.cons.inj h).2
    rw [decFrom_digits, decFrom_digits] at this
    have := Option.some.inj this
    omega
  · rw [if_pos h1, if_neg h2] at h
    have := congrArg (decFrom 0) h
    rw [decFrom_digits, decFrom_minus] at this
    cases this
  · rw [if_neg h1, if_pos h2] at h
    have := congrArg (decFrom 0) h
    rw [decFrom_digits, decFrom_minus] at this
    cases this
  · rw [if_neg h1, if_neg h2] at h
    have := congrArg (decFrom 0) h
    rw [decFrom_digits, decFrom_digits] at this
    have := Option.some.inj this
    omega
theorem itoa_length (n : Int) : (itoa n).length = nDigits n.natAbs + (if n < 0 then 1 else 0) := by
  unfold itoa
  by_cases h : n < 0
  · rw [if_pos h, if_pos h, List.length_cons, decDigits_length]
  · rw [if_neg h, if_neg h, decDigits_length, show n.toNat = n.natAbs by omega]; rfl
theorem itoa_le (n : Int) (h1 : -9223372036854775808 ≤ n) (h2 : n ≤ 9223372036854775807) : (itoa n).length ≤ 21 := by
  rw [itoa_length]
  have := nDigits_le 19 n.natAbs (by have h3 : (10 : Nat) ^ 20 = 100000000000000000000 := by decide
                                     show n.natAbs < 10 ^ 20
                                     omega)
  by_cases h : n < 0
  · rw [if_pos h]; omega
  · rw [if_neg h]; omega
theorem decFrom_zeros (l : List UInt8) : ∀ k, decFrom 0 (List.replicate k 48 ++ l) = decFrom 0 l
  | 0 => rfl
  | k + 1 => by
    rw [List.replicate_succ, List.cons_append]
    simp only [decFrom, show digitVal 48 = some 0 by decide]
    exact decFrom_zeros l k
theorem wnum_yes {n : Int} (k : Nat) (h0 : 0 ≤ n) (hl : (List.replicate k 48 ++ itoa n).length ≤ 15) : wnum (List.replicate k 48 ++ itoa n) = some n.toNat := by
  unfold wnum
  rw [if_pos hl]
  unfold decNat
  have hi : itoa n = decDigits n.toNat := by unfold itoa; rw [if_neg (by omega)]
  have hne : (List.replicate k (48 : UInt8) ++ itoa n).isEmpty = false := by
    rw [hi, List.isEmpty_eq_false_iff]
    intro h
    exact digits_ne _ (List.append_eq_nil_iff.1 h).2
  rw [hne, decFrom_zeros, hi, decFrom_digits]; rfl
theorem wnum_long {l : List UInt8} (h : ¬ l.length ≤ 15) : wnum l = none := by unfold wnum; rw [if_neg h]
/-- Number of Decimal -/
theorem wnum_good {n : Int} (h0 : 0 ≤ n) (h1 : n ≤ 999999999999999) : wnum (itoa n) = some n.toNat := by
  have := wnum_yes (n := n) 0 h0 (by
    rw [List.replicate_zero, List.nil_append, itoa_length, if_neg (by omega)]
    exact (nDigits_15 n.natAbs).2 (by omega))
  simpa using this
theorem wnum_bad {n : Int} (h : ¬ (0 ≤ n ∧ n ≤ 999999999999999)) : wnum (itoa n) = none := by
  by_cases h0 : n < 0
  · unfold wnum
    split
    · unfold decNat
      have hi : itoa n = 45 :: decDigits n.natAbs := by unfold itoa; rw [if_pos h0]
      rw [hi, decFrom_minus]; rfl
    · rfl
  · refine wnum_long ?_
    rw [itoa_length, if_neg h0]
    intro h2
    have := (nDigits_15 n.natAbs).1 (by simpa using h2)
    omega
end Go.Proofs.YtompmkcpicfdfaaDoor
