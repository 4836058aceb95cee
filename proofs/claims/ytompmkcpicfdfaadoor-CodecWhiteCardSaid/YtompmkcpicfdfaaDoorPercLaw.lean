/- Percent-encoding: what it writes and reads (plain). -/
import Derived.Test.YtompmkcpicfdfaaDoorRefA
namespace Go.Proofs.YtompmkcpicfdfaaDoor
open Go.RowKit
set_option linter.unusedVariables false
theorem u8_all {p : UInt8 → Bool} (h : (List.range 256).all (fun n => p (UInt8.ofNat n)) = true) (c : UInt8) : p c = true := by
  have := List.all_eq_true.1 h c.toNat (List.mem_range.2 c.toNat_lt)
  simpa using this
def hexL : List UInt8 := [48, 49, 50, 51, 52, 53, 54, 55, 56, 57, 65, 66, 67, 68, 69, 70]
/-- the digit of a number -/
def hexD (n : Nat) : UInt8 := hexL.getD n 0
/-- the value of a digit, in either case -/
def hv (c : UInt8) : Option Nat :=
  if 48 ≤ c.toNat ∧ c.toNat ≤ 57 then some (c.toNat - 48) else if 65 ≤ c.toNat ∧ c.toNat ≤ 70 then some (c.toNat - 55) else if 97 ≤ c.toNat ∧ c.toNat ≤ 102 then some (c.toNat - 87) else none
/-- the byte of two digits -/
def hpair : List UInt8 → Option UInt8
  | a :: b :: _ => (hv a).bind fun x => (hv b).map fun y => UInt8.ofNat (x * 16 + y)
  | _ => none
/-- a byte that stands for itself -/
def unres (c : UInt8) : Bool := (decide (97 ≤ c.toNat) && decide (c.toNat ≤ 122)) || (decide (65 ≤ c.toNat) && decide (c.toNat ≤ 90)) || (decide (48 ≤ c.toNat) && decide (c.toNat ≤ 57)) || [45, 46, 95, 126].contains c
/-- the quoted form -/
def qf (m c : UInt8) : List UInt8 := [m, hexD (c.toNat / 16), hexD (c.toNat % 16)]
/-- a byte's percent form -/
def pc (c : UInt8) : List UInt8 := if unres c then [c] else if c == 32 then [43] else qf 37 c
def perc (l : List UInt8) : List UInt8 := l.flatMap pc
/-- what is read -/
def unp : List UInt8 → List UInt8 × Bool
  | [] => ([], true)
  | c :: r =>
    if c = 43 then (32 :: (unp r).1, (unp r).2)
    else if c = 37 then
      match hpair r with
      | some x => (x :: (unp (r.drop 2)).1, (unp (r.drop 2)).2)
      | none => (37 :: (unp r).1, false)
    else (c :: (unp r).1, (unp r).2)
termination_by l => l.length
decreasing_by all_goals simp; try omega
theorem unp_nil : unp [] = ([], true) := by rw [unp]
theorem unp_plus (r : List UInt8) : unp (43 :: r) = (32 :: (unp r).1, (unp r).2) := by rw [unp]; rfl
theorem unp_pair {r : List UInt8} {x : UInt8} (h : hpair r = some x) : unp (37 :: r) = (x :: (unp (r.drop 2)).1, (unp (r.drop 2)).2) := by
  rw [unp, if_neg (by decide), if_pos rfl, h]
theorem unp_bad {r : List UInt8} (h : hpair r = none) : unp (37 :: r) = (37 :: (unp r).1, false) := by
  rw [unp, if_neg (by decide), if_pos rfl, h]
theorem unp_byte {c : UInt8} (r : List UInt8) (h1 : c ≠ 43) (h2 : c ≠ 37) : unp (c :: r) = (c :: (unp r).1, (unp r).2) := by
  rw [unp, if_neg h1, if_neg h2]
theorem hv_hex (c : UInt8) : hv (hexD (c.toNat / 16)) = some (c.toNat / 16) ∧ hv (hexD (c.toNat % 16)) = some (c.toNat % 16) := by
  have := u8_all (p := fun c => hv (hexD (c.toNat / 16)) == some (c.toNat / 16) && hv (hexD (c.toNat % 16)) == some (c.toNat % 16)) (by decide +kernel) c
  simpa using this
theorem hpair_qf (c : UInt8) (r : List UInt8) : hpair (hexD (c.toNat / 16) :: hexD (c.toNat % 16) :: r) = some c := by
  obtain ⟨h1, h2⟩ := hv_hex c
  simp only [hpair, h1, h2, Option.bind, Option.map]
  congr 1
  apply UInt8.toNat_inj.1
  have := c.toNat_lt
  simp; omega
theorem unres_ne (c : UInt8) (h : unres c = true) : c ≠ 43 ∧ c ≠ 37 ∧ c ≠ 38 ∧ c ≠ 61 ∧ c ≠ 32 := by
  have := u8_all (p := fun c => !unres c || (c != 43 && c != 37 && c != 38 && c != 61 && c != 32)) (by decide +kernel) c
  simp [h] at this
  exact ⟨this.1.1.1.1, this.1.1.1.2, this.1.1.2, this.1.2, this.2⟩
theorem unp_pc (c : UInt8) (r : List UInt8) : unp (pc c ++ r) = (c :: (unp r).1, (unp r).2) := by
  unfold pc
  cases h : unres c
  · simp only [Bool.false_eq_true, if_false]
    by_cases h2 : c = 32
    · subst h2; exact unp_plus r
    · rw [if_neg (by simpa using h2)]
      rw [show qf 37 c ++ r = 37 :: (hexD (c.toNat / 16) :: hexD (c.toNat % 16) :: r) from rfl, unp_pair (hpair_qf c r)]
      rfl
  · have h3 := unres_ne c h
    exact unp_byte r h3.1 h3.2.1
theorem unp_perc_app (l r : List UInt8) : unp (perc l ++ r) = (l ++ (unp r).1, (unp r).2) := by
  induction l with
  | nil => rfl
  | cons c l ih =>
    rw [show perc (c :: l) = pc c ++ perc l from rfl, List.append_assoc, unp_pc, ih]; rfl
theorem unp_perc (l : List UInt8) : unp (perc l) = (l, true) := by
  have := unp_perc_app l []
  rw [List.append_nil, unp_nil] at this
  simpa using this
theorem pc_sep (c : UInt8) : ∀ d ∈ pc c, d ≠ 38 ∧ d ≠ 61 ∧ 33 ≤ d.toNat ∧ d.toNat ≤ 126 := by
  have := u8_all (p := fun c => (pc c).all fun d => d != 38 && d != 61 && decide (33 ≤ d.toNat) && decide (d.toNat ≤ 126)) (by decide +kernel) c
  intro d hd
  have h := List.all_eq_true.1 this d hd
  simp at h
  exact ⟨h.1.1.1, h.1.1.2, h.1.2, h.2⟩
theorem perc_sep (l : List UInt8) : ∀ d ∈ perc l, d ≠ 38 ∧ d ≠ 61 ∧ 33 ≤ d.toNat ∧ d.toNat ≤ 126 := by
  intro d hd
  obtain ⟨c, _, hc⟩ := List.mem_flatMap.1 hd
  exact pc_sep c d hc
theorem perc_app (a b : List UInt8) : perc (a ++ b) = perc a ++ perc b := by simp [perc]
theorem pc_len (c : UInt8) : 1 ≤ (pc c).length ∧ (pc c).length ≤ 3 := by
  unfold pc qf; split
  · simp
  · split <;> simp
theorem perc_len (l : List UInt8) : l.length ≤ (perc l).length ∧ (perc l).length ≤ 3 * l.length := by
  induction l with
  | nil => simp [perc]
  | cons c l ih =>
    have := pc_len c
    rw [show perc (c :: l) = pc c ++ perc l from rfl, List.length_append, List.length_cons]; omega
theorem unp_len : ∀ (n : Nat) (l : List UInt8), l.length ≤ n → (unp l).1.length ≤ l.length
  | 0, l, h => by
    obtain rfl : l = [] := List.eq_nil_of_length_eq_zero (by omega)
    rw [unp_nil]; simp
  | n + 1, [], h => by rw [unp_nil]; simp
  | n + 1, c :: r, h => by
    simp only [List.length_cons] at h
    have h1 := unp_len n r (by omega)
    have h2 := unp_len n (r.drop 2) (by rw [List.length_drop]; omega)
    rw [List.length_drop] at h2
    rw [unp]
    split
    · simp; omega
    · split
      · cases hpair r with
        | some x => simp; omega
        | none => simp; omega
      · simp; omega
/-- nothing to read: it stays -/
theorem unp_plain (l : List UInt8) (h : ∀ c ∈ l, c ≠ 43 ∧ c ≠ 37) : unp l = (l, true) := by
  induction l with
  | nil => exact unp_nil
  | cons c r ih =>
    rw [unp_byte r (h c (by simp)).1 (h c (by simp)).2, ih fun d hd => h d (by simp [hd])]
end Go.Proofs.YtompmkcpicfdfaaDoor
