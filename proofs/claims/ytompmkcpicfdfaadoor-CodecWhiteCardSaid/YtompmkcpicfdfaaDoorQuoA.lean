/- package codec: plain; what Quoted writes, piece by piece. -/
import Derived.Test.YtompmkcpicfdfaaDoorPercB
import Derived.Test.YtompmkcpicfdfaaDoorSplit
import Derived.Test.YtompmkcpicfdfaaDoorQuoLaw
namespace Go.Proofs.YtompmkcpicfdfaaDoor
open Go.RowKit
set_option linter.unusedVariables false
theorem plainB_or (c : UInt8) (b : Bool) : plainB c b = if ((c.toNat : Int) == 32 || (c.toNat : Int) == 9) then !b else decide (32 < (c.toNat : Int)) && decide ((c.toNat : Int) < 127) && ((c.toNat : Int) != 61) := by
  have e1 : blank c = ((c.toNat : Int) == 32 || (c.toNat : Int) == 9) := by
    unfold blank; rw [beq_nat, beq_nat, Bool.eq_iff_iff]; simp; omega
  have e2 : (decide (32 < c.toNat) && decide (c.toNat < 127) && c != 61) = (decide (32 < (c.toNat : Int)) && decide ((c.toNat : Int) < 127) && ((c.toNat : Int) != 61)) := by
    have : (c != 61) = ((c.toNat : Int) != 61) := by
      rw [bne, bne, beq_nat]; congr 1; rw [Bool.eq_iff_iff]; simp; omega
    rw [this]; congr 1; rw [Bool.eq_iff_iff]; simp; omega
  unfold plainB
  rw [e1, e2]
set_option maxRecDepth 100000 in
theorem plain_any (c : UInt8) (b : Bool) (w : World) : Calls Tryd.prog 54 #[.int .u8 c.toNat, .bool b] w fun e w' => e = .returned (.bool (plainB c b)) ∧ w = w' := by
  rw [plainB_or]
  have hw : ((((c.toNat : Int) == 32) = true ∨ (((c.toNat : Int) == 32) = false ∧ ((c.toNat : Int) == 9) = true)) ∧ ((c.toNat : Int) == 32 || (c.toNat : Int) == 9) = true) ∨ (((c.toNat : Int) == 32) = false ∧ ((c.toNat : Int) == 9) = false) := by
    cases ((c.toNat : Int) == 32) <;> cases ((c.toNat : Int) == 9) <;> simp
  rcases hw with ⟨hw | ⟨h1, h2⟩, h3⟩ | ⟨h1, h2⟩
  · rw [h3]
    cases b
    all_goals
      go_enter Tryd.func54, Tryd.ntmps54
      go_wp2
      go_ret
      exact ⟨rfl, rfl⟩
  · rw [h3]
    cases b
    all_goals
      go_enter Tryd.func54, Tryd.ntmps54
      go_wp2
      go_ret
      exact ⟨rfl, rfl⟩
  · rw [h1, h2]
    go_enter Tryd.func54, Tryd.ntmps54
    go_wp2
    all_goals
      go_ret
      refine ⟨ret_bool ?_, rfl⟩
      simp <;> omega
/-- the pieces behind the first -/
def qtail (ps : List (List UInt8)) : List UInt8 := ps.flatMap fun p => 10 :: qln 0 p
/-- what is written from piece i on -/
def qrem (ps : List (List UInt8)) (i : Nat) : List UInt8 := if i = 0 then qln 0 (ps.headD []) ++ qtail (ps.drop 1) else qtail (ps.drop i)
theorem qrem_first (ps : List (List UInt8)) (h : 0 < ps.length) : qrem ps 0 = qln 0 ps[0] ++ qtail (ps.drop 1) := by
  cases ps with
  | nil => simp at h
  | cons p r => rfl
theorem qrem_next (ps : List (List UInt8)) (i : Nat) (h : i < ps.length) (h0 : i ≠ 0) : qrem ps i = 10 :: (qln 0 ps[i] ++ qtail (ps.drop (i + 1))) := by
  unfold qrem qtail
  rw [if_neg h0, List.drop_eq_getElem_cons h, List.flatMap_cons]; rfl
theorem qrem_succ (ps : List (List UInt8)) (i : Nat) : qrem ps (i + 1) = qtail (ps.drop (i + 1)) := by unfold qrem; rw [if_neg (by omega)]
theorem qrem_split : ∀ (n : Nat) (l : List UInt8), l.length ≤ n → qrem (wsplit 10 l) 0 = qall 0 l := by
  intro n
  induction n with
  | zero =>
    intro l h
    obtain rfl : l = [] := List.eq_nil_of_length_eq_zero (by omega)
    rfl
  | succ n ih =>
    intro l h
    rcases indexByte_cut 10 l with ⟨h1, h2⟩ | ⟨i, h1, h2, h3, h4⟩
    · rw [wsplit_word h2]
      show qln 0 l ++ [] = _
      rw [List.append_nil, qln_all l 0 h2]
    · have e : l = l.take i ++ 10 :: l.drop (i + 1) := by rw [← h4, List.take_append_drop]
      have hr := ih (l.drop (i + 1)) (by rw [List.length_drop]; omega)
      conv => lhs; rw [e]
      conv => rhs; rw [e]
      rw [wsplit_first _ h3, qall_app, ← qln_all _ 0 h3, ← hr]
      show qln 0 (l.take i) ++ qtail (wsplit 10 (l.drop (i + 1))) = _
      congr 1
      cases hs : wsplit 10 (l.drop (i + 1)) with
      | nil =>
        exfalso
        rw [hs] at hr
        cases hd : l.drop (i + 1) with
        | nil => rw [hd] at hs; cases hs
        | cons d q =>
          rw [hd, wsplit] at hs
          split at hs
          · cases hs
          · split at hs <;> cases hs
      | cons p r => simp [qtail, qrem]
theorem wsplit_le (c : UInt8) : ∀ (l : List UInt8), ∀ p ∈ wsplit c l, p.length ≤ l.length
  | [], p, h => by simp [wsplit] at h; simp [h]
  | d :: r, p, h => by
    have ih := wsplit_le c r
    rw [wsplit] at h
    rw [List.length_cons]
    split at h
    · rcases List.mem_cons.1 h with rfl | h
      · simp
      · have := ih p h; omega
    · split at h
      · simp at h; simp [h]
      · rename_i e
        rcases List.mem_cons.1 h with rfl | h
        · have := ih _ (by rw [e]; exact List.mem_cons_self ..)
          simp; omega
        · have := ih p (by rw [e]; exact List.mem_cons_of_mem _ h)
          omega
theorem wsplit_ne (c : UInt8) (l : List UInt8) : wsplit c l ≠ [] := by
  cases l with
  | nil => simp [wsplit]
  | cons d q =>
    rw [wsplit]
    split
    · simp
    · split <;> simp
end Go.Proofs.YtompmkcpicfdfaaDoor
