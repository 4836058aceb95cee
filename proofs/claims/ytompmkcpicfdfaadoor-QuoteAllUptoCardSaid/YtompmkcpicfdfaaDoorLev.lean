/- package body: Level; missiveref14: Level; the keys of lines. -/
import Derived.Test.YtompmkcpicfdfaaDoorQLaw
import Derived.Test.YtompmkcpicfdfaaDoorRefC
namespace Go.Proofs.YtompmkcpicfdfaaDoor
open Go.RowKit
set_option linter.unusedVariables false
def LevPost (p : Nat × List UInt8) (w : World) (e : Ending) (w' : World) : Prop := (∃ t : ByteArray, e = .returned (.tuple #[.int .i64 p.1, .string t]) ∧ t.data.toList = p.2) ∧ w = w'
theorem TrimLeft_sp (s : ByteArray) (w : World) (d : ByteArray) (hd : d.data.toList = s.data.toList.dropWhile (fun c => c == 32)) : Calls Tryd.prog 49 #[.string s, .string ⟨#[32]⟩] w fun e w' => e = .returned (.string d) ∧ w = w' :=
  (Tryd.strings_TrimLeft_one s 32 (by decide) w).mono fun e w' ⟨h1, h2⟩ => ⟨by rw [h1]; congr 2; exact str_inj (by rw [hd]; rfl), h2.symm⟩
theorem CutPrefix_any (s p : ByteArray) (w : World) (d : ByteArray) (b : Bool) (hd : d.data.toList = Lib.trimPrefix s.data.toList p.data.toList) (hb : Lib.hasPrefix s.data.toList p.data.toList = b) : Calls Tryd.prog 97 #[.string s, .string p] w fun e w' => e = .returned (.tuple #[.string d, .bool b]) ∧ w = w' :=
  (Tryd.strings_CutPrefix s p w).mono fun e w' ⟨h1, h2⟩ => ⟨by rw [h1, hb, show d = ⟨(Lib.trimPrefix s.data.toList p.data.toList).toArray⟩ from str_inj hd], h2.symm⟩
theorem TrimPrefix_any (s p : ByteArray) (w : World) (d : ByteArray) (hd : d.data.toList = Lib.trimPrefix s.data.toList p.data.toList) : Calls Tryd.prog 98 #[.string s, .string p] w fun e w' => e = .returned (.string d) ∧ w = w' :=
  (Tryd.strings_TrimPrefix s p w).mono fun e w' ⟨h1, h2⟩ => ⟨by rw [h1, show d = ⟨(Lib.trimPrefix s.data.toList p.data.toList).toArray⟩ from str_inj hd], h2.symm⟩
theorem pre_one (c d : UInt8) (l : List UInt8) : Lib.hasPrefix (c :: l) [d] = (d == c) := by simp [Lib.hasPrefix, List.isPrefixOf]
theorem pre_nil (d : UInt8) : Lib.hasPrefix [] [d] = false := rfl
theorem trimPre_sp (l : List UInt8) : Lib.trimPrefix l [32] = dropSp l := by
  cases l with
  | nil => rfl
  | cons c l =>
    unfold Lib.trimPrefix
    rw [pre_one, dropSp]
    by_cases h : c = 32
    · subst h; rfl
    · rw [if_neg (by simpa using fun e => h e.symm), if_neg h]
set_option maxHeartbeats 1000000 in
theorem Level_any (s : ByteArray) (w : World) (hs : s.size ≤ maxLen) : Calls Tryd.prog 68 #[.string s] w (LevPost (lev s.data.toList) w) := by
  unfold maxLen at hs
  go_enter Tryd.func68, Tryd.ntmps68
  go_wp2_with fail
  go_loop [4, 5] (fun nn rr => ∃ (n : Nat) (r : ByteArray), nn = .int .i64 n ∧ rr = .string r ∧ n + r.size ≤ s.size ∧ Hid (levG 0 s.data.toList s.data.toList = levG n r.data.toList r.data.toList)) (fun _ rr => strLen rr)
  case atStart => exact ⟨0, s, rfl, rfl, by omega, rfl⟩
  case round =>
    obtain ⟨n, r, rfl, rfl, hsz, hI⟩ := hrel
    obtain ⟨l, hl⟩ : ∃ l, r.data.toList = l := ⟨_, rfl⟩
    have hll : l.length = r.size := by rw [← hl, str_size]
    have hst := levG_dw n l l
    obtain ⟨d, hd⟩ := ba_of (l.dropWhile fun c => c == 32)
    rw [hl] at hI
    have hdl : (l.dropWhile fun c => c == 32).length ≤ l.length := (List.dropWhile_suffix _).length_le
    have hex : (∃ t : ByteArray, d.data.toList = 62 :: t.data.toList ∧ levG n l l = levG (n + 1) t.data.toList t.data.toList ∧ t.size < r.size) ∨ (Lib.hasPrefix d.data.toList [62] = false ∧ levG n l l = (n, l)) := by
      cases hq : l.dropWhile fun c => c == 32 with
      | nil =>
        rw [hq] at hst hd
        exact .inr ⟨by rw [hd]; rfl, hst⟩
      | cons c t =>
        rw [hq] at hst hd
        obtain ⟨t', ht'⟩ := ba_of t
        by_cases hc : c = 62
        · subst hc
          simp only [if_true] at hst
          refine .inl ⟨t', by rw [hd, ht'], by rw [ht']; exact hst, ?_⟩
          have h5 : t'.size = t.length := by rw [← str_size, ht']
          rw [hq] at hdl; simp at hdl; omega
        · refine .inr ⟨by rw [hd, pre_one]; simpa using fun e => hc e.symm, ?_⟩
          simpa [hc] using hst
    clear hst hdl
    rcases hex with ⟨t, ht, hlv, hts⟩ | ⟨hno, hlv⟩
    · have hp : Lib.hasPrefix d.data.toList [62] = true := by rw [ht, pre_one]; rfl
      have htp : t.data.toList = Lib.trimPrefix d.data.toList [62] := by unfold Lib.trimPrefix; rw [hp, ht]; rfl
      have hI2 : Hid (levG 0 s.data.toList s.data.toList = levG (n + 1) t.data.toList t.data.toList) := by show _ = _; rw [hI.out, hlv]
      have C1 := fun w => TrimLeft_sp r w d (by rw [hl]; exact hd)
      have C2 := fun w => CutPrefix_any d ⟨#[62]⟩ w t true htp hp
      replace C1 := Lib.hid C1
      replace C2 := Lib.hid C2
      clear hI hl hd ht hp htp hlv
      go_wp2_with (first | (go_at_call 49; refine (C1.out _).mono ?_; rintro e w' ⟨rfl, rfl⟩) | (go_at_call 97; refine (C2.out _).mono ?_; rintro e w' ⟨rfl, rfl⟩))
      go_round
      case rel => exact ⟨n + 1, t, by go_num, rfl, by omega, hI2⟩
      case measure => exact hts
    · obtain ⟨t, ht⟩ := ba_of (Lib.trimPrefix d.data.toList [62])
      have C1 := fun w => TrimLeft_sp r w d (by rw [hl]; exact hd)
      have C2 := fun w => CutPrefix_any d ⟨#[62]⟩ w t false ht hno
      replace C1 := Lib.hid C1
      replace C2 := Lib.hid C2
      have hI2 : levG 0 s.data.toList s.data.toList = (n, l) := by rw [hI.out, hlv]
      obtain ⟨u, hu⟩ := ba_of (dropSp l)
      have C3 := fun w => TrimPrefix_any r ⟨#[32]⟩ w u (by rw [hl, hu]; exact (trimPre_sp l).symm)
      replace C3 := Lib.hid C3
      by_cases h0 : n = 0
      · have hres : Hid (lev s.data.toList = (n, l)) := by show _ = _; unfold lev; rw [hI2]; simp [h0]
        have k1 : decide ((0 : Int) < (n : Int)) = false := decide_eq_false (by omega)
        have k2 : decide (0 < n) = false := decide_eq_false (by omega)
        replace hl := Lib.hid hl
        replace h0 := Lib.hid h0
        clear hI hd ht hno hlv hI2 hu
        go_wp2_with (first | (go_at_call 49; refine (C1.out _).mono ?_; rintro e w' ⟨rfl, rfl⟩) | (go_at_call 97; refine (C2.out _).mono ?_; rintro e w' ⟨rfl, rfl⟩))
        go_ret2
        refine ⟨⟨r, ?_, ?_⟩, rfl⟩
        · rw [hres.out]; rfl
        · rw [hres.out]; exact hl.out
      · have hres : Hid (lev s.data.toList = (n, dropSp l)) := by show _ = _; unfold lev; rw [hI2]; simp [h0]
        have k1 : decide ((0 : Int) < (n : Int)) = true := decide_eq_true (by omega)
        have k2 : decide (0 < n) = true := decide_eq_true (by omega)
        replace hl := Lib.hid hl
        replace hu := Lib.hid hu
        replace h0 := Lib.hid h0
        clear hI hd ht hno hlv hI2
        go_wp2_with (first | (go_at_call 49; refine (C1.out _).mono ?_; rintro e w' ⟨rfl, rfl⟩) | (go_at_call 97; refine (C2.out _).mono ?_; rintro e w' ⟨rfl, rfl⟩) | (go_at_call 98; refine (C3.out _).mono ?_; rintro e w' ⟨rfl, rfl⟩))
        go_ret2
        refine ⟨⟨u, ?_, ?_⟩, rfl⟩
        · rw [hres.out]; rfl
        · rw [hres.out]; exact hu.out
theorem lev_le (l : List UInt8) : (lev l).2.length ≤ l.length := by
  have H : ∀ (l rest : List UInt8) (n : Nat), l.length ≤ rest.length → (levG n rest l).2.length ≤ rest.length := by
    intro l
    induction l with
    | nil => intro rest n _; simp [levG]
    | cons c l ih =>
      intro rest n h
      simp at h
      rw [levG]
      split
      · exact ih rest n (by omega)
      · split
        · have := ih l (n + 1) (Nat.le_refl _)
          omega
        · simp
  have h1 := H l l 0 (Nat.le_refl _)
  unfold lev
  split
  · exact h1
  · show (dropSp _).length ≤ _
    have : ∀ x : List UInt8, (dropSp x).length ≤ x.length := by
      intro x
      cases x with
      | nil => simp [dropSp]
      | cons c x => rw [dropSp]; split <;> simp
    exact Nat.le_trans (this _) h1
theorem lev_n_le (l : List UInt8) : (lev l).1 ≤ l.length := by
  have H : ∀ (l rest : List UInt8) (n : Nat), (levG n rest l).1 ≤ n + l.length := by
    intro l
    induction l with
    | nil => intro rest n; simp [levG]
    | cons c l ih =>
      intro rest n
      rw [levG]
      split
      · have := ih rest n; simp; omega
      · split
        · have := ih l (n + 1); simp; omega
        · simp
  have h1 := H l l 0
  unfold lev
  split <;> simpa using h1
theorem key_any (s : ByteArray) (w : World) (hs : s.size < 4294967281) : Calls Tryd.prog 96 #[.string s] w (SPost (keyL s.data.toList) w) := by
  have hle := lev_le s.data.toList
  rw [str_size] at hle
  go_enter Tryd.func96, Tryd.ntmps96
  go_wp2_with fail
  refine (Level_any s _ (by unfold maxLen; omega)).mono ?_
  rintro e w' ⟨⟨t, rfl, ht⟩, rfl⟩
  have hts : t.size < 4294967281 := by rw [← str_size, ht]; omega
  have hk : Hid (Lib.join (wfields t.data.toList) [32] = keyL s.data.toList) := by show _ = _; rw [ht]; rfl
  clear ht hle
  go_wp2_with fail
  refine (Squeeze_any t _ hts).mono ?_
  rintro e W1 ⟨⟨q, rfl, hq⟩, b1⟩
  rw [hk.out] at hq
  replace hq := Lib.hid hq
  go_wp2_with fail
  go_ret
  exact ⟨⟨q, rfl, hq.out⟩, b1⟩
end Go.Proofs.YtompmkcpicfdfaaDoor
