/- package text: Lines; strings.Cut at a line feed. -/
import Derived.Test.YtompmkcpicfdfaaDoorTextB
namespace Go.Proofs.YtompmkcpicfdfaaDoor
open Go.RowKit
set_option linter.unusedVariables false
/-- a line without the CR at its end -/
def chomp (x : List UInt8) : List UInt8 := Lib.trimSuffix x [13]
def lgo : List UInt8 → List UInt8 → List (List UInt8)
  | cur, [] => if cur.isEmpty then [] else [cur]
  | cur, c :: r => if c == 10 then chomp cur :: lgo [] r else lgo (cur ++ [c]) r
/-- the lines -/
def wlines (l : List UInt8) : List (List UInt8) := lgo [] l
theorem lgo_word {x : List UInt8} (hx : ∀ c ∈ x, c ≠ 10) (cur r : List UInt8) : lgo cur (x ++ r) = lgo (cur ++ x) r := by
  induction x generalizing cur with
  | nil => simp
  | cons c x ih =>
    have h1 : (c == 10) = false := by simpa using hx c (by simp)
    rw [List.cons_append, lgo, h1]
    simp only [Bool.false_eq_true, if_false]
    rw [ih (fun d hd => hx d (by simp [hd])), List.append_assoc]; rfl
theorem wlines_last {x : List UInt8} (hx : ∀ c ∈ x, c ≠ 10) (h0 : x ≠ []) : wlines x = [x] := by
  have e : x.isEmpty = false := by cases x with
    | nil => exact absurd rfl h0
    | cons _ _ => rfl
  have := lgo_word hx [] []
  rw [List.append_nil, List.nil_append, lgo, e] at this
  exact this
theorem wlines_first {x : List UInt8} (hx : ∀ c ∈ x, c ≠ 10) (r : List UInt8) : wlines (x ++ 10 :: r) = chomp x :: wlines r := by
  show lgo [] _ = _
  rw [lgo_word hx, List.nil_append, lgo]; rfl
theorem indexByte_cut (c : UInt8) : ∀ l : List UInt8, (Lib.indexByte l c = -1 ∧ ∀ b ∈ l, b ≠ c) ∨ ∃ k : Nat, Lib.indexByte l c = k ∧ k < l.length ∧ (∀ b ∈ l.take k, b ≠ c) ∧ l.drop k = c :: l.drop (k + 1)
  | [] => .inl ⟨rfl, by simp⟩
  | a :: l => by
    by_cases h : a = c
    · subst h
      exact .inr ⟨0, by simp [Lib.indexByte], by simp, by simp, rfl⟩
    · have hb : (a == c) = false := by simpa using h
      rcases indexByte_cut c l with ⟨h1, h2⟩ | ⟨k, h1, h2, h3, h4⟩
      · left
        refine ⟨by rw [Lib.indexByte, hb, h1]; rfl, fun b hb2 => ?_⟩
        rcases List.mem_cons.1 hb2 with rfl | hb2
        · exact h
        · exact h2 b hb2
      · right
        have hk : ((k : Int) == -1) = false := by simp
        refine ⟨k + 1, by rw [Lib.indexByte, hb, h1, hk]; rfl, by simpa using h2, fun b hb2 => ?_, by simpa using h4⟩
        rw [List.take_succ_cons] at hb2
        rcases List.mem_cons.1 hb2 with rfl | hb2
        · exact h
        · exact h3 b hb2
theorem Index_lf (s : ByteArray) (w : World) {v : Int} (h : Lib.indexByte s.data.toList 10 = v) : Calls Tryd.prog 120 #[.string s, .string ⟨#[10]⟩] w fun e w' => e = .returned (.int .i64 v) ∧ w = w' :=
  (Tryd.stringslite_Index_one s 10 w).mono fun e w' ⟨h1, h2⟩ => ⟨by rw [h1, h], h2.symm⟩
theorem Cut_no (s : ByteArray) (w : World) (h : Lib.indexByte s.data.toList 10 = -1) : Calls Tryd.prog 63 #[.string s, .string ⟨#[10]⟩] w fun e w' => e = .returned (.tuple #[.string s, .string ⟨#[]⟩, .bool false]) ∧ Below w.heap.size w w' := by
  have hc : Calls Tryd.prog 93 #[.string s, .string ⟨#[10]⟩] w fun e w' => e = .returned (.tuple #[.string s, .string ⟨#[]⟩, .bool false]) ∧ Below w.heap.size w w' := by
    replace h := Lib.hid h
    go_enter Tryd.func93, Tryd.ntmps93
    go_wp2_with (go_at_call 120; refine (Index_lf s _ h.out).mono ?_; rintro e w' ⟨rfl, rfl⟩)
    go_ret3
    exact ⟨rfl, Below.refl _ _⟩
  go_enter Tryd.func63, Tryd.ntmps63
  go_wp2_with (go_at_call 93; refine hc.mono ?_; rintro e w' ⟨rfl, hb⟩)
  go_ret3
  exact ⟨rfl, hb⟩
theorem Cut_yes (s : ByteArray) (w : World) (k : Nat) (h : Lib.indexByte s.data.toList 10 = k) (hk : k < s.size) (hs : s.size ≤ maxLen) : Calls Tryd.prog 63 #[.string s, .string ⟨#[10]⟩] w fun e w' => e = .returned (.tuple #[.string (s.extract 0 k), .string (s.extract (k + 1) s.size), .bool true]) ∧ Below w.heap.size w w' := by
  unfold maxLen at hs
  have hc : Calls Tryd.prog 93 #[.string s, .string ⟨#[10]⟩] w fun e w' => e = .returned (.tuple #[.string (s.extract 0 k), .string (s.extract (k + 1) s.size), .bool true]) ∧ Below w.heap.size w w' := by
    replace h := Lib.hid h
    have i1 : (0 : Int) ≤ (k : Int) := by omega
    have i2 : (k : Int) ≤ (s.size : Int) := by omega
    have i3 : IntKind.i64.wrap ((k : Int) + 1) = (k : Int) + 1 := IntWalk.i64_in _ (by omega)
    have i4 : (0 : Int) ≤ (k : Int) + 1 := by omega
    have i5 : (k : Int) + 1 ≤ (s.size : Int) := by omega
    have i6 : ((k : Int) + 1).toNat = k + 1 := by omega
    go_enter Tryd.func93, Tryd.ntmps93
    go_wp2_with (go_at_call 120; refine (Index_lf s _ h.out).mono ?_; rintro e w' ⟨rfl, rfl⟩)
    go_quiet (fail)
    go_wp2_with fail
    go_ret3
    exact ⟨rfl, bdrewN (Below.refl _ _)⟩
  go_enter Tryd.func63, Tryd.ntmps63
  go_wp2_with (go_at_call 93; refine hc.mono ?_; rintro e w' ⟨rfl, hb⟩)
  go_ret3
  exact ⟨rfl, hb⟩
/-- The length of a string value. -/
def strLen : Value → Nat
  | .string t => t.size
  | _ => 0
theorem isEmpty_of {t : ByteArray} (h : t.size ≠ 0) : t.toList.isEmpty = false := by
  rw [Lib.toList_data]
  cases e : t.data.toList with
  | nil => have := str_size t; rw [e] at this; simp at this; omega
  | cons _ _ => rfl
theorem chomp_le (x : List UInt8) : (chomp x).length ≤ x.length := by
  unfold chomp Lib.trimSuffix; split
  · rw [List.length_take]; omega
  · exact Nat.le_refl _
set_option maxHeartbeats 1000000 in
theorem Lines_any (s : ByteArray) (w : World) (hs : s.size < 4294967281) : Calls Tryd.prog 39 #[.string s] w (LPost (wlines s.data.toList) w) := by
  obtain ⟨i0, hi, hz0, hz1, hz2⟩ := info_parts infoStr
  go_enter Tryd.func39, Tryd.ntmps39
  go_wp2_with fail
  go_loopw [3, 0] (fun v u wr => ∃ (t : ByteArray) (pre : List ByteArray), u = .string t ∧ wr.ownsRow w.heap.size 9 1 v pre.length (pre.map .string) ∧ pre.length + t.size ≤ s.size ∧ Hid (wlines s.data.toList = pre.map (·.data.toList) ++ wlines t.data.toList) ∧ Below w.heap.size w wr) (fun _ u _ => strLen u)
  case atStart => exact ⟨s, [], rfl, World.ownsRow_nil _ _ _ _, by simp, rfl, Below.refl _ _⟩
  case round =>
    obtain ⟨t, pre, rfl, hr, hsz, hE, hB⟩ := hrel
    by_cases h0 : t.size = 0
    · have hnil : t.data.toList = [] := List.eq_nil_of_length_eq_zero (by rw [str_size]; exact h0)
      obtain rfl : t = ByteArray.empty := str_inj (by rw [hnil]; rfl)
      have hE2 : Hid (pre.map (·.data.toList) = wlines s.data.toList) := by
        have := hE.out
        rw [hnil] at this
        show _ = _
        rw [this]; simp [wlines, lgo]
      replace hr := Lib.hid hr
      go_wp2_with fail
      go_ret
      exact ⟨⟨_, pre, rfl, Sl.of_own (by simpa using hr.out), hE2.out⟩, hB⟩
    · have hne := isEmpty_of h0
      rcases indexByte_cut 10 t.data.toList with ⟨h1, h2⟩ | ⟨k, h1, h2, h3, h4⟩
      · have hE2 : Hid (wlines s.data.toList = (pre ++ [t]).map (·.data.toList) ++ wlines (ByteArray.mk #[]).data.toList) := by
          show _ = _
          rw [hE.out, wlines_last h2 (by intro e; have := str_size t; rw [e] at this; simp at this; omega)]
          simp [wlines, lgo]
        have hszB := hB.size
        replace hr := Lib.hid hr
        replace hB := Lib.hid hB
        go_wp2_with fail
        refine (Cut_no t _ h1).mono ?_
        rintro e W1 ⟨rfl, b1⟩
        have hr1 := own_bel hr.out b1
        have hB1 := hB.out.trans (b1.mono hszB)
        have hsz1 := b1.size
        clear b1 hr hB
        go_wp2_with fail
        refine (Clone_any t _ (by omega)).mono ?_
        rintro e W2 ⟨rfl, b2⟩
        have hr2 := own_bel hr1 b2
        have hB2 := hB1.trans (b2.mono (by omega))
        have hsz2 := b2.size
        clear b2 hr1 hB1
        replace hB2 := Lib.hid hB2
        go_wp2_with (at_builtin; refine wpList_append_own _ rfl _ _ 32 rfl w.heap.size 9 i0 (.string ByteArray.empty) 1 16 Tryd.underlying32 hi hz0 hz1 hz2 rfl (by decide) _ _ _ rfl (hr2.alloc _) ⟨W2.heap.size, 0, none⟩ 1 1 [.string t] rfl rfl (cell_one_new _ _ _) (by simp [Value.oneCell']) (by unfold maxLen; omega) (by omega) (by simp; omega) ?_; intro v' w1 hown' hgrow _)
        have hB3 : Below w.heap.size w w1 := (hB2.out.alloc (by omega) _).trans (below_grown (hr2.alloc _) (by simp; omega) hgrow)
        go_roundw
        case rel => exact ⟨⟨#[]⟩, pre ++ [t], rfl, by simpa using hown', by rw [List.length_append]; show pre.length + 1 + 0 ≤ _; omega, hE2, hB3⟩
        case measure => show (0 : Nat) < t.size; omega
      · rw [str_size] at h2
        obtain ⟨x, hx⟩ : ∃ x, t.extract 0 k = x := ⟨_, rfl⟩
        obtain ⟨r, hrr⟩ : ∃ r, t.extract (k + 1) t.size = r := ⟨_, rfl⟩
        have hxl : x.data.toList = t.data.toList.take k := by rw [← hx, str_extract]; simp
        have hrl : r.data.toList = t.data.toList.drop (k + 1) := by rw [← hrr, str_extract, List.take_of_length_le (by rw [str_size]; exact Nat.le_refl _)]
        have hxs : x.size ≤ t.size := by rw [← str_size x, hxl, List.length_take, str_size]; omega
        have hrs : r.size + 1 ≤ t.size := by rw [← str_size r, hrl, List.length_drop, str_size]; omega
        obtain ⟨y, hy⟩ : ∃ y : ByteArray, (⟨(Lib.trimSuffix x.data.toList [13]).toArray⟩ : ByteArray) = y := ⟨_, rfl⟩
        have hyl : y.data.toList = chomp x.data.toList := by rw [← hy]; simp [chomp]
        have hys : y.size ≤ x.size := by rw [← str_size y, hyl, ← str_size x]; exact chomp_le _
        have hE2 : Hid (wlines s.data.toList = (pre ++ [y]).map (·.data.toList) ++ wlines r.data.toList) := by
          show _ = _
          have h5 : t.data.toList = t.data.toList.take k ++ 10 :: t.data.toList.drop (k + 1) := by rw [← h4, List.take_append_drop]
          rw [hE.out, h5, wlines_first h3, ← hrl, ← hxl, List.map_append, List.append_assoc, ← hyl]; rfl
        have hszB := hB.size
        replace hr := Lib.hid hr
        replace hB := Lib.hid hB
        replace hxl := Lib.hid hxl
        replace hrl := Lib.hid hrl
        replace hyl := Lib.hid hyl
        replace hy := Lib.hid hy
        go_wp2_with fail
        refine (Cut_yes t _ k h1 h2 (by unfold maxLen; omega)).mono ?_
        rw [hx, hrr]
        rintro e W1 ⟨rfl, b1⟩
        have hr1 := own_bel hr.out b1
        have hB1 := hB.out.trans (b1.mono hszB)
        have hsz1 := b1.size
        clear b1 hr hB hx hrr h1
        go_wp2_with fail
        refine (Tryd.strings_TrimSuffix x ⟨#[13]⟩ _ (by omega)).mono ?_
        rintro e W1' ⟨he, hw⟩
        subst hw
        rw [show (⟨#[13]⟩ : ByteArray).data.toList = [13] from rfl, hy.out] at he
        subst he
        go_wp2_with fail
        refine (Clone_any y _ (by omega)).mono ?_
        rintro e W2 ⟨rfl, b2⟩
        have hr2 := own_bel hr1 b2
        have hB2 := hB1.trans (b2.mono (by omega))
        have hsz2 := b2.size
        clear b2 hr1 hB1
        replace hB2 := Lib.hid hB2
        go_wp2_with (at_builtin; refine wpList_append_own _ rfl _ _ 32 rfl w.heap.size 9 i0 (.string ByteArray.empty) 1 16 Tryd.underlying32 hi hz0 hz1 hz2 rfl (by decide) _ _ _ rfl (hr2.alloc _) ⟨W2.heap.size, 0, none⟩ 1 1 [.string y] rfl rfl (cell_one_new _ _ _) (by simp [Value.oneCell']) (by unfold maxLen; omega) (by omega) (by simp; omega) ?_; intro v' w1 hown' hgrow _)
        have hB3 : Below w.heap.size w w1 := (hB2.out.alloc (by omega) _).trans (below_grown (hr2.alloc _) (by simp; omega) hgrow)
        go_roundw
        case rel => exact ⟨r, pre ++ [y], rfl, by simpa using hown', by rw [List.length_append]; show pre.length + 1 + _ ≤ _; omega, hE2, hB3⟩
        case measure => show r.size < t.size; omega
end Go.Proofs.YtompmkcpicfdfaaDoor
