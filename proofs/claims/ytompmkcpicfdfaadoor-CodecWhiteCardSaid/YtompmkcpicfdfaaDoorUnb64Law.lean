/- base64: reading group by group (plain). -/
import Derived.Test.YtompmkcpicfdfaaDoorB64Law
import Derived.Test.YtompmkcpicfdfaaDoorTextB
namespace Go.Proofs.YtompmkcpicfdfaaDoor
open Go.RowKit
set_option linter.unusedVariables false
theorem wgo_filter : ∀ (l cur : List UInt8), (wgo cur l).flatten = cur ++ l.filter nw
  | [], cur => by
    rw [wgo]; split
    · rename_i h; rw [List.isEmpty_iff.1 h]; rfl
    · simp
  | c :: l, cur => by
    rw [wgo]
    cases hc : wh c
    · have e : nw c = true := by unfold nw; rw [hc]; rfl
      simp only [Bool.false_eq_true, if_false]
      rw [wgo_filter l (cur ++ [c]), List.filter_cons, e]; simp
    · have e : nw c = false := by unfold nw; rw [hc]; rfl
      simp only [if_true]
      split
      · rename_i h
        rw [wgo_filter l [], List.filter_cons, e, List.isEmpty_iff.1 h]; simp
      · rw [List.flatten_cons, wgo_filter l [], List.filter_cons, e]; simp
theorem join_nil_flatten : ∀ ls : List (List UInt8), Lib.join ls [] = ls.flatten
  | [] => by simp [Lib.join, List.intercalate]
  | [x] => by rw [join_one]; simp
  | x :: y :: r => by rw [join_cons, join_nil_flatten (y :: r)]; simp
theorem join_words (l : List UInt8) : Lib.join (wfields l) [] = l.filter nw := by
  rw [join_nil_flatten]
  exact wgo_filter l []
/-- the bits of the first i digits -/
def acc64 (t : List UInt8) : Nat → Nat
  | 0 => 0
  | i + 1 => acc64 t i * 64 + (if i < t.length then v64 (t.getD i 0) else 0)
theorem v64_lt {c : UInt8} (h : isD c = true) : v64 c < 64 := by
  have := u8_all (p := fun c => !isD c || decide (v64 c < 64)) (by decide +kernel) c
  rw [h] at this
  simpa using this
theorem acc64_lt {t : List UInt8} (h : ∀ c ∈ t, isD c = true) : ∀ i, acc64 t i < 64 ^ i
  | 0 => by simp [acc64]
  | i + 1 => by
    have ih := acc64_lt h i
    have hv : (if i < t.length then v64 (t.getD i 0) else 0) < 64 := by
      split
      · rename_i hi
        refine v64_lt (h _ ?_)
        rw [List.getD_eq_getElem?_getD, List.getElem?_eq_getElem hi]
        exact List.getElem_mem hi
      · decide
    rw [acc64, Nat.pow_succ]
    omega
/-- the three bytes of four digits -/
def grp3 (t : List UInt8) : List UInt8 := [UInt8.ofNat (acc64 t 4 / 65536), UInt8.ofNat (acc64 t 4 / 256), UInt8.ofNat (acc64 t 4)]
theorem ofNat_mod (a b : Nat) (h : a % 256 = b % 256) : UInt8.ofNat a = UInt8.ofNat b := UInt8.toNat_inj.1 (by simpa using h)
theorem d64g_step (t : List UInt8) (h : t ≠ []) (hd : ∀ c ∈ t, isD c = true) : d64g t = (grp3 t).take (min 4 t.length - 1) ++ d64g (t.drop 4) := by
  match t, h with
  | [x], _ => rfl
  | [x, y], _ =>
    have h1 := v64_lt (hd x (by simp)); have h2 := v64_lt (hd y (by simp))
    have e : acc64 [x, y] 4 = v64 x * 262144 + v64 y * 4096 := by simp [acc64]; omega
    rw [d64g]
    show _ = [UInt8.ofNat (acc64 [x, y] 4 / 65536)] ++ d64g []
    rw [e]
    simp only [d64g, List.append_nil]
    congr 1
    exact ofNat_mod _ _ (by omega)
  | [x, y, z], _ =>
    have h1 := v64_lt (hd x (by simp)); have h2 := v64_lt (hd y (by simp)); have h3 := v64_lt (hd z (by simp))
    have e : acc64 [x, y, z] 4 = v64 x * 262144 + v64 y * 4096 + v64 z * 64 := by simp [acc64]; omega
    rw [d64g]
    show _ = [UInt8.ofNat (acc64 [x, y, z] 4 / 65536), UInt8.ofNat (acc64 [x, y, z] 4 / 256)] ++ d64g []
    rw [e]
    simp only [d64g, List.append_nil]
    congr 1
    · exact ofNat_mod _ _ (by omega)
    · congr 1
      exact ofNat_mod _ _ (by omega)
  | x :: y :: z :: w :: r, _ =>
    have h1 := v64_lt (hd x (by simp)); have h2 := v64_lt (hd y (by simp)); have h3 := v64_lt (hd z (by simp)); have h4 := v64_lt (hd w (by simp))
    have e : acc64 (x :: y :: z :: w :: r) 4 = v64 x * 262144 + v64 y * 4096 + v64 z * 64 + v64 w := by simp [acc64]; omega
    have hm : min 4 (x :: y :: z :: w :: r).length - 1 = 3 := by simp
    rw [hm, d64g]
    show _ = [UInt8.ofNat (acc64 (x :: y :: z :: w :: r) 4 / 65536), UInt8.ofNat (acc64 (x :: y :: z :: w :: r) 4 / 256), UInt8.ofNat (acc64 (x :: y :: z :: w :: r) 4)] ++ d64g r
    rw [e]
    simp only [List.cons_append, List.nil_append]
    congr 1
    · exact ofNat_mod _ _ (by omega)
    · congr 1
      · exact ofNat_mod _ _ (by omega)
      · congr 1
        exact ofNat_mod _ _ (by omega)
/-- the padding that is wanted -/
def wantPad (n : Nat) : Option (List UInt8) := if n % 4 = 0 then some [] else if n % 4 = 2 then some [61, 61] else if n % 4 = 3 then some [61] else none
theorem padOk_want (n : Nat) (r : List UInt8) : padOk n r = (match wantPad n with | some p => r == p | none => false) := by
  unfold padOk wantPad
  split
  · rfl
  · split
    · rfl
    · split <;> rfl
end Go.Proofs.YtompmkcpicfdfaaDoor
