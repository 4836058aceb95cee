/- package codec: pair. -/
import Derived.Test.YtompmkcpicfdfaaDoorPercA
import Derived.Test.YtompmkcpicfdfaaDoorGlob
namespace Go.Proofs.YtompmkcpicfdfaaDoor
open Go.RowKit
set_option linter.unusedVariables false
def up (c : UInt8) : UInt8 := mv 97 122 (-32) c
theorem hex_val (c : UInt8) : Lib.indexByte hexL (up c) = (match hv c with | some x => (x : Int) | none => -1) := by
  have := u8_all (p := fun c => Lib.indexByte hexL (up c) == (match hv c with | some x => (x : Int) | none => -1)) (by decide +kernel) c
  simpa using this
theorem hv_lt (c : UInt8) (x : Nat) (h : hv c = some x) : x < 16 := by
  have := u8_all (p := fun c => match hv c with | some x => decide (x < 16) | none => true) (by decide +kernel) c
  rw [h] at this
  simpa using this
theorem hex_any (c : UInt8) (v : Int) (hv : Lib.indexByte hexL c = v) (w : World) : Calls Tryd.prog 82 #[.string ⟨#[48, 49, 50, 51, 52, 53, 54, 55, 56, 57, 65, 66, 67, 68, 69, 70]⟩, .int .u8 c.toNat] w fun e w' => e = .returned (.int .i64 v) ∧ w = w' :=
  (Tryd.strings_IndexByte hexS c.toNat w).mono fun e w' ⟨h1, h2⟩ => ⟨by rw [h1, u8_back, ← hv]; rfl, h2.symm⟩
theorem str_first (u : ByteArray) (c : UInt8) (h : u.data.toList = [c]) : u.size = 1 ∧ ∀ W, (Instr.index 9 (.string u) (.int .i64 0)).run Tryd.prog W = .ok (.int .u8 c.toNat) W := by
  have hs : u.size = 1 := by rw [← str_size, h]; rfl
  exact ⟨hs, fun W => idx_k .i64 u 0 (by omega) c (by rw [h]; rfl) 0 rfl W⟩
theorem upp_one (s : ByteArray) (i : Nat) (h : i < s.size) : upp (s.extract i (i + 1)).data.toList = [up s[i]] := by
  rw [str_extract, str_take s i h, List.drop_append_of_le_length (by rw [List.length_take, str_size]; omega), List.drop_eq_nil_of_le (by rw [List.length_take]; omega)]
  rfl
theorem hex_join : ∀ x, x < 16 → ∀ y, y < 16 → bits BinOp.or IntKind.i64 (wrap64 ((x : Nat) * 16)) (bits BinOp.and IntKind.i64 (y : Nat) 15) % 256 = ((UInt8.ofNat (x * 16 + y)).toNat : Int) := by decide +kernel
theorem pair_fin {a b : UInt8} {h l : Int} {o : Option UInt8} (va : h = (match hv a with | some x => (x : Int) | none => -1)) (vb : l = (match hv b with | some x => (x : Int) | none => -1)) (ho : ((hv a).bind fun x => (hv b).map fun y => UInt8.ofNat (x * 16 + y)) = o) :
    (h < 0 ∧ o.isSome = false) ∨ (0 ≤ h ∧ o.isSome = decide (0 ≤ l) ∧ ∀ x, o = some x → bits BinOp.or IntKind.i64 (wrap64 (h * 16)) (bits BinOp.and IntKind.i64 l 15) % 256 = x.toNat) := by
  cases ea : hv a with
  | none =>
    left
    rw [ea] at va ho
    subst va ho
    exact ⟨by decide, rfl⟩
  | some x =>
    right
    rw [ea] at va ho
    simp only at va
    cases eb : hv b with
    | none =>
      rw [eb] at vb ho
      subst va vb ho
      exact ⟨by omega, rfl, fun x h => by cases h⟩
    | some y =>
      rw [eb] at vb ho
      simp only at vb
      subst va vb ho
      refine ⟨by omega, by simp, fun z hz => ?_⟩
      simp only [Option.bind, Option.map, Option.some.injEq] at hz
      subst hz
      exact hex_join x (hv_lt a x ea) y (hv_lt b y eb)
def PairPost (o : Option UInt8) (w : World) (e : Ending) (w' : World) : Prop := (∃ b : Int, e = .returned (.tuple #[.int .u8 b, .bool o.isSome]) ∧ ∀ x, o = some x → b = x.toNat) ∧ Below w.heap.size w w'
set_option maxRecDepth 100000 in
theorem pair_any (s : ByteArray) (w : World) (hs : s.size ≤ maxLen) : Calls Tryd.prog 51 #[.string s] w (PairPost (hpair s.data.toList) w) := by
  by_cases h2 : s.size < 2
  · have hp : hpair s.data.toList = none := by
      have := str_size s
      match e : s.data.toList with
      | [] => rfl
      | [_] => rfl
      | _ :: _ :: _ => rw [e] at this; simp at this; omega
    rw [hp]
    clear hp
    have g1 : decide ((s.size : Int) < 2) = true := decide_eq_true (by omega)
    go_enter Tryd.func51, Tryd.ntmps51
    go_wp2_with fail
    go_ret2
    exact ⟨⟨_, rfl, fun x h => by cases h⟩, Below.refl _ _⟩
  · have g1 : decide ((s.size : Int) < 2) = false := decide_eq_false (by omega)
    have hp : hpair s.data.toList = (hv s[0]).bind fun x => (hv s[1]).map fun y => UInt8.ofNat (x * 16 + y) := by
      have e := str_drop s 0 (by omega)
      rw [List.drop_zero, str_drop s 1 (by omega)] at e
      rw [e]; rfl
    have ha := upp_one s 0 (by omega)
    have hb := upp_one s 1 (by omega)
    have va := hex_val s[0]
    have vb := hex_val s[1]
    obtain ⟨a, ea⟩ : ∃ a, s[0] = a := ⟨_, rfl⟩
    obtain ⟨b, eb⟩ : ∃ b, s[1] = b := ⟨_, rfl⟩
    rw [ea] at ha va hp
    rw [eb] at hb vb hp
    obtain ⟨h, eh⟩ : ∃ h, Lib.indexByte hexL (up a) = h := ⟨_, rfl⟩
    obtain ⟨l, el⟩ : ∃ l, Lib.indexByte hexL (up b) = l := ⟨_, rfl⟩
    obtain ⟨t1, et1⟩ : ∃ t, s.extract 0 1 = t := ⟨_, rfl⟩
    obtain ⟨t2, et2⟩ : ∃ t, s.extract 1 2 = t := ⟨_, rfl⟩
    simp only [Nat.zero_add, Nat.reduceAdd] at ha hb
    rw [et1] at ha
    rw [et2] at hb
    have hs1 : t1.size ≤ maxLen := by rw [← et1, ByteArray.size_extract]; omega
    have hs2 : t2.size ≤ maxLen := by rw [← et2, ByteArray.size_extract]; omega
    have i2 : (2 : Int) ≤ (s.size : Int) := by omega
    have i1 : (1 : Int) ≤ (s.size : Int) := by omega
    obtain ⟨o, ho⟩ : ∃ o, hpair s.data.toList = o := ⟨_, rfl⟩
    rw [ho]
    have hfin := pair_fin (eh.symm.trans va) (el.symm.trans vb) (hp.symm.trans ho)
    clear ea eb hp ho va vb
    replace eh := Lib.hid eh
    replace el := Lib.hid el
    obtain ⟨q, hq⟩ : ∃ q, o.isSome = q := ⟨_, rfl⟩
    rw [hq] at hfin
    obtain ⟨g, hg⟩ : ∃ g, bits BinOp.or IntKind.i64 (wrap64 (h * 16)) (bits BinOp.and IntKind.i64 l 15) % 256 = g := ⟨_, rfl⟩
    rw [hg] at hfin
    replace hq := Lib.hid hq
    replace hg := Lib.hid hg
    go_enter Tryd.func51, Tryd.ntmps51
    go_wp2_with fail
    refine (Upper_any t1 _ hs1).mono ?_
    rintro e W1 ⟨⟨u1, rfl, hu1⟩, b1⟩
    obtain ⟨z1, x1⟩ := str_first u1 _ (hu1.trans ha)
    go_wp2_with (go_at_call 82; refine (hex_any _ h eh.out _).mono ?_; rintro e w' ⟨rfl, rfl⟩)
    refine (Upper_any t2 _ hs2).mono ?_
    rintro e W2 ⟨⟨u2, rfl, hu2⟩, b2⟩
    obtain ⟨z2, x2⟩ := str_first u2 _ (hu2.trans hb)
    have hB2 := b1.trans (b2.mono b1.size)
    clear b1 b2 hu1 hu2
    rcases hfin with ⟨f1, f2⟩ | ⟨f1, f2, f3⟩
    · subst f2
      go_wp2_with (go_at_call 82; refine (hex_any _ l el.out _).mono ?_; rintro e w' ⟨rfl, rfl⟩)
      go_ret2
      exact ⟨⟨_, by rw [hq.out]; rfl, fun x hx => by have := hq.out; rw [hx] at this; cases this⟩, hB2⟩
    · replace f3 := Lib.hid f3
      replace f2 := Lib.hid f2
      go_wp2_with (go_at_call 82; refine (hex_any _ l el.out _).mono ?_; rintro e w' ⟨rfl, rfl⟩)
      go_ret2
      exact ⟨⟨g, by rw [hq.out, f2.out, ← hg.out]; rfl, fun x hx => f3.out x hx⟩, hB2⟩
end Go.Proofs.YtompmkcpicfdfaaDoor
