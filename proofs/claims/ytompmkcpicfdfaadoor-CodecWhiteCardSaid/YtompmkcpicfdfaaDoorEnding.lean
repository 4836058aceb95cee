/- package codec: ending. -/
import Derived.Test.YtompmkcpicfdfaaDoorUnperc
import Derived.Test.YtompmkcpicfdfaaDoorQuoLaw
import Derived.Test.YtompmkcpicfdfaaDoorEmp
namespace Go.Proofs.YtompmkcpicfdfaaDoor
open Go.RowKit
set_option linter.unusedVariables false
def EndPost (o : Option (List UInt8)) (w : World) (e : Ending) (w' : World) : Prop := (∃ t : ByteArray, e = .returned (.tuple #[.string t, .bool o.isSome]) ∧ ∀ x, o = some x → t.data.toList = x) ∧ Below w.heap.size w w'
theorem blanks_contains (c : UInt8) : ([32, 9] : List UInt8).contains c = blank c := by
  unfold blank; rw [Bool.eq_iff_iff]; simp
theorem TrimLeft_blank (s : ByteArray) (w : World) : Calls Tryd.prog 49 #[.string s, .string ⟨#[32, 9]⟩] w (SPost (s.data.toList.dropWhile blank) w) := by
  refine (Any.strings_TrimLeft_laid Tryd.lays161 (by kernel_rfl) s ⟨#[32, 9]⟩ w (by decide) ?_).mono fun e w' ⟨h1, h2⟩ => ⟨⟨_, h1, ?_⟩, h2⟩
  · intro j b hb
    have hm : b ∈ ([32, 9] : List UInt8) := List.mem_of_getElem? hb
    simp at hm
    rcases hm with rfl | rfl <;> decide
  · show (Lib.trimLeftS s.data.toList [32, 9]).toArray.toList = _
    unfold Lib.trimLeftS
    have e : (fun c : UInt8 => ([32, 9] : List UInt8).contains c) = blank := funext blanks_contains
    rw [e]
theorem HasPrefix_any (s p : ByteArray) (w : World) (v : Bool) (h : Lib.hasPrefix s.data.toList p.data.toList = v) : Calls Tryd.prog 83 #[.string s, .string p] w fun e w' => e = .returned (.bool v) ∧ w = w' :=
  (Tryd.strings_HasPrefix s p w).mono fun e w' ⟨h1, h2⟩ => ⟨by rw [h1, h], h2.symm⟩
set_option maxRecDepth 100000 in
set_option maxHeartbeats 2000000 in
theorem ending_any (s : ByteArray) (soft : Bool) (w : World) : Calls Tryd.prog 52 #[.string s, .bool soft] w (EndPost (endL soft s.data.toList) w) := by
  obtain ⟨o, ho⟩ : ∃ o, endL soft s.data.toList = o := ⟨_, rfl⟩
  rw [ho]
  replace ho := Lib.hid ho
  go_enter Tryd.func52, Tryd.ntmps52
  go_wp2_with fail
  refine (TrimLeft_blank s _).mono ?_
  rintro e W1 ⟨⟨t, rfl, ht⟩, b1⟩
  have hway : (Lib.hasPrefix t.data.toList [13, 10] = true ∧ 2 ≤ t.size ∧ o = some (if soft then t.data.toList.drop 2 else t.data.toList)) ∨
      (Lib.hasPrefix t.data.toList [13, 10] = false ∧ Lib.hasPrefix t.data.toList [10] = true ∧ 1 ≤ t.size ∧ o = some (if soft then t.data.toList.drop 1 else t.data.toList)) ∨
      (Lib.hasPrefix t.data.toList [13, 10] = false ∧ Lib.hasPrefix t.data.toList [10] = false ∧ t.toList.isEmpty = false ∧ o = none) ∨
      (Lib.hasPrefix t.data.toList [13, 10] = false ∧ Lib.hasPrefix t.data.toList [10] = false ∧ t.toList.isEmpty = true ∧ o = some t.data.toList) := by
    have he := ho.out
    unfold endL at he
    rw [← ht] at he
    have hsz := str_size t
    cases e : t.data.toList with
    | nil =>
      rw [e] at he hsz
      right; right; right
      exact ⟨rfl, rfl, emp_yes (by simpa using hsz.symm), he.symm⟩
    | cons c r =>
      rw [e] at he hsz
      simp only [List.length_cons] at hsz
      simp only at he
      by_cases h10 : c = 10
      · subst h10
        rw [if_pos rfl] at he
        right; left
        exact ⟨rfl, rfl, by omega, he.symm⟩
      · rw [if_neg h10] at he
        have hp10 : Lib.hasPrefix (c :: r) [10] = false := by simp [Lib.hasPrefix, List.isPrefixOf, Ne.symm h10]
        have hne : t.toList.isEmpty = false := isEmpty_of (by omega)
        by_cases h13 : c = 13
        · subst h13
          rw [if_pos rfl] at he
          cases r with
          | nil => right; right; left; exact ⟨rfl, hp10, hne, he.symm⟩
          | cons d q =>
            simp only at he
            by_cases hd : d = 10
            · subst hd
              rw [if_pos rfl] at he
              left
              exact ⟨rfl, by simp at hsz; omega, he.symm⟩
            · rw [if_neg hd] at he
              right; right; left
              exact ⟨by simp [Lib.hasPrefix, List.isPrefixOf, Ne.symm hd], hp10, hne, he.symm⟩
        · rw [if_neg h13] at he
          right; right; left
          exact ⟨by simp [Lib.hasPrefix, List.isPrefixOf, Ne.symm h13], hp10, hne, he.symm⟩
  clear ht
  rcases hway with ⟨p1, p2, hE⟩ | ⟨p1, p2, p3, hE⟩ | ⟨p1, p2, p3, hE⟩ | ⟨p1, p2, p3, hE⟩
  · subst hE
    have i1 : (2 : Int) ≤ (t.size : Int) := by omega
    obtain ⟨q, hq⟩ : ∃ q, t.extract 2 t.size = q := ⟨_, rfl⟩
    have hqd : q.data.toList = t.data.toList.drop 2 := by rw [← hq, ext_drop]
    replace hqd := Lib.hid hqd
    cases soft
    all_goals
      go_wp2_with (go_at_call 83; refine (HasPrefix_any t ⟨#[13, 10]⟩ _ true p1).mono ?_; rintro e w' ⟨rfl, rfl⟩)
      go_ret2
      exact ⟨⟨_, rfl, by rintro x ⟨⟩; first | rfl | exact hqd.out⟩, b1⟩
  · subst hE
    have i1 : (1 : Int) ≤ (t.size : Int) := by omega
    obtain ⟨q, hq⟩ : ∃ q, t.extract 1 t.size = q := ⟨_, rfl⟩
    have hqd : q.data.toList = t.data.toList.drop 1 := by rw [← hq, ext_drop]
    replace hqd := Lib.hid hqd
    cases soft
    all_goals
      go_wp2_with (first | (go_at_call 83; refine (HasPrefix_any t ⟨#[13, 10]⟩ _ false p1).mono ?_; rintro e w' ⟨rfl, rfl⟩) | (go_at_call 83; refine (HasPrefix_any t ⟨#[10]⟩ _ true p2).mono ?_; rintro e w' ⟨rfl, rfl⟩))
      go_ret2
      exact ⟨⟨_, rfl, by rintro x ⟨⟩; first | rfl | exact hqd.out⟩, b1⟩
  · subst hE
    go_wp2_with (first | (go_at_call 83; refine (HasPrefix_any t ⟨#[13, 10]⟩ _ false p1).mono ?_; rintro e w' ⟨rfl, rfl⟩) | (go_at_call 83; refine (HasPrefix_any t ⟨#[10]⟩ _ false p2).mono ?_; rintro e w' ⟨rfl, rfl⟩))
    go_ret2
    exact ⟨⟨_, rfl, by rintro x ⟨⟩⟩, b1⟩
  · subst hE
    cases soft
    all_goals
      go_wp2_with (first | (go_at_call 83; refine (HasPrefix_any t ⟨#[13, 10]⟩ _ false p1).mono ?_; rintro e w' ⟨rfl, rfl⟩) | (go_at_call 83; refine (HasPrefix_any t ⟨#[10]⟩ _ false p2).mono ?_; rintro e w' ⟨rfl, rfl⟩))
      go_ret2
      exact ⟨⟨_, rfl, by rintro x ⟨⟩; rfl⟩, b1⟩
end Go.Proofs.YtompmkcpicfdfaaDoor
