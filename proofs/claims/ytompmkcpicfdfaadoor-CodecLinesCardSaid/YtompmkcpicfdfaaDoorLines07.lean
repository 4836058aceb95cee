/- missivelaw07.CodecLines: the walk. -/
import Derived.Test.YtompmkcpicfdfaaDoorBack07
namespace Go.Proofs.YtompmkcpicfdfaaDoor
open Go.RowKit
set_option linter.unusedVariables false
theorem fits_step {tabs : Bool} {n : Nat} {c : UInt8} {r : List UInt8} (h : fitsL tabs n (c :: r) = true) :
    (c = 10 ∧ fitsL tabs 0 r = true) ∨ (c ≠ 10 ∧ n + 1 ≤ 76 ∧ ((32 ≤ c.toNat ∧ c.toNat ≤ 126) ∨ (tabs = true ∧ c = 9)) ∧ (blank c = true → isLast r = false) ∧ fitsL tabs (n + 1) r = true) := by
  rw [fitsL] at h
  by_cases hc : c = 10
  · rw [if_pos hc] at h; exact .inl ⟨hc, h⟩
  · rw [if_neg hc] at h
    simp only [Bool.and_eq_true, decide_eq_true_eq, Bool.or_eq_true, beq_iff_eq, Bool.not_eq_true'] at h
    obtain ⟨⟨⟨h1, h2⟩, h3⟩, h4⟩ := h
    refine .inr ⟨hc, h1, h2, fun hb => ?_, h4⟩
    rw [hb] at h3
    simpa using h3
theorem isLast_at {s : ByteArray} {i : Nat} (h : isLast (s.data.toList.drop (i + 1)) = false) : i + 1 < s.size ∧ ∃ d : UInt8, s.data.toList.getD (i + 1) 0 = d ∧ d ≠ 10 := by
  by_cases hi : i + 1 < s.size
  · rw [str_drop s (i + 1) hi] at h
    exact ⟨hi, s[i + 1], str_getD s (i + 1) hi, by simpa [isLast] using h⟩
  · rw [List.drop_eq_nil_of_le (by rw [str_size]; omega)] at h
    cases h
set_option maxRecDepth 100000 in
set_option maxHeartbeats 8000000 in
theorem fits_any (s : ByteArray) (tabs : Bool) (w : World) (hs : s.size ≤ 4294967281) (hf : fitsL tabs 0 s.data.toList = true) : Calls Tryd.prog 24 #[.string s, .bool tabs] w fun e w' => e = .returned (.bool true) ∧ Below w.heap.size w w' := by
  replace hf := Lib.hid hf
  go_enter Tryd.func24, Tryd.ntmps24
  go_wp2_with fail
  go_loopw [5, 6] (fun nn ii wr => Below w.heap.size w wr ∧ ∃ (n i : Nat), nn = .int .i64 n ∧ ii = .int .i64 i ∧ n ≤ 76 ∧ i ≤ s.size ∧ Hid (fitsL tabs n (s.data.toList.drop i) = true)) (fun _ ii _ => s.size - (intOf ii).toNat)
  case atStart => exact ⟨Below.refl _ _, 0, 0, rfl, rfl, by omega, by omega, hf⟩
  case round =>
    obtain ⟨hBr, n, i, rfl, rfl, hn, hi, hF⟩ := hrel
    by_cases hlt : i < s.size
    · have q1 : decide ((i : Int) < (s.size : Int)) = true := decide_eq_true (by omega)
      have q2 : decide (i < s.size) = true := decide_eq_true hlt
      have hdr := str_drop s i hlt
      obtain ⟨c, hc⟩ : ∃ c, s[i] = c := ⟨_, rfl⟩
      have hxc := idx_at s i hlt c (by rw [str_getD s i hlt, hc])
      rw [hc] at hdr
      have hF2 := hF.out
      rw [hdr] at hF2
      have tst : ∀ d : UInt8, ∀ n : Int, n = d.toNat → ((c.toNat : Int) == n) = (c == d) := fun d n hn => u8_beq n hn
      clear hdr hc hF
      rcases fits_step hF2 with ⟨h10, hN⟩ | ⟨h10, h76, hpr, hbl, hN⟩
      · have k1 : ((c.toNat : Int) == 10) = true := by rw [tst 10 10 rfl, h10]; rfl
        replace h10 := Lib.hid h10
        replace hN := Lib.hid hN
        clear hF2 tst
        go_wp2_with fail
        go_roundw
        case rel => exact ⟨hBr, 0, i + 1, rfl, by go_num, by omega, hlt, hN⟩
        case measure => simp only [intOf]; go_num
      · have k1 : ((c.toNat : Int) == 10) = false := by rw [tst 10 10 rfl]; simpa using h10
        have k2 : decide ((76 : Int) < (n : Int) + 1) = false := decide_eq_false (by omega)
        have hways : (decide ((c.toNat : Int) < 32) = false ∧ decide ((126 : Int) < (c.toNat : Int)) = false ∧ ((c.toNat : Int) == 32) = false ∧ ((c.toNat : Int) == 9) = false) ∨
            (decide ((c.toNat : Int) < 32) = false ∧ decide ((126 : Int) < (c.toNat : Int)) = false ∧ ((c.toNat : Int) == 32) = true ∧ isLast (s.data.toList.drop (i + 1)) = false) ∨
            (decide ((c.toNat : Int) < 32) = true ∧ tabs = true ∧ ((c.toNat : Int) == 32) = false ∧ ((c.toNat : Int) == 9) = true ∧ isLast (s.data.toList.drop (i + 1)) = false) := by
          rcases hpr with ⟨p1, p2⟩ | ⟨p1, p2⟩
          · cases hb : blank c
            · have := noblank_tests hb
              exact .inl ⟨decide_eq_false (by omega), decide_eq_false (by omega), this.1, this.2⟩
            · have hl := hbl hb
              have h9 : c ≠ 9 := by rintro rfl; exact absurd p1 (by decide)
              have h32 : c = 32 := by
                have : c = 32 ∨ c = 9 := by simpa [blank] using hb
                rcases this with h | h
                · exact h
                · exact absurd h h9
              exact .inr (.inl ⟨decide_eq_false (by omega), decide_eq_false (by omega), by rw [tst 32 32 rfl, h32]; rfl, hl⟩)
          · have hl := hbl (by rw [p2]; rfl)
            exact .inr (.inr ⟨by rw [p2]; rfl, p1, by rw [p2]; rfl, by rw [p2]; rfl, hl⟩)
        replace h10 := Lib.hid h10
        replace hN := Lib.hid hN
        clear hF2 tst hpr hbl
        rcases hways with ⟨k3, k4, k5, k6⟩ | ⟨k3, k4, k5, hl⟩ | ⟨k3, ht, k5, k6, hl⟩
        · go_wp2_with fail
          go_roundw
          case rel => exact ⟨hBr, n + 1, i + 1, by go_num, by go_num, h76, hlt, hN⟩
          case measure => simp only [intOf]; go_num
        · skip
          obtain ⟨hi1, d, hd, hd10⟩ := isLast_at hl
          have hxd := idx_k .i64 s (i + 1) hi1 d hd ((i : Int) + 1) (by omega)
          have k7 : ((i : Int) + 1 == (s.size : Int)) = false := by simp; omega
          have k8 : ((d.toNat : Int) == 10) = false := by rw [u8_beq 10 (d := 10) rfl]; simpa using hd10
          replace hd10 := Lib.hid hd10
          replace hd := Lib.hid hd
          clear hl
          go_wp2_with fail
          go_roundw
          case rel => exact ⟨hBr, n + 1, i + 1, by go_num, by go_num, h76, hlt, hN⟩
          case measure => simp only [intOf]; go_num
        · subst ht
          obtain ⟨hi1, d, hd, hd10⟩ := isLast_at hl
          have hxd := idx_k .i64 s (i + 1) hi1 d hd ((i : Int) + 1) (by omega)
          have k7 : ((i : Int) + 1 == (s.size : Int)) = false := by simp; omega
          have k8 : ((d.toNat : Int) == 10) = false := by rw [u8_beq 10 (d := 10) rfl]; simpa using hd10
          replace hd10 := Lib.hid hd10
          replace hd := Lib.hid hd
          clear hl
          go_wp2_with fail
          go_roundw
          case rel => exact ⟨hBr, n + 1, i + 1, by go_num, by go_num, h76, hlt, hN⟩
          case measure => simp only [intOf]; go_num
    · obtain rfl : i = s.size := by omega
      have q1 : decide ((s.size : Int) < (s.size : Int)) = false := by simp
      have q2 : decide (s.size < s.size) = false := by simp
      go_wp2_with fail
      go_ret
      exact ⟨rfl, hBr⟩
set_option maxRecDepth 100000 in
set_option maxHeartbeats 8000000 in
theorem lines07_walk (s : ByteArray) (w : World) (hs : s.size ≤ maxLen) :
    Calls Tryd.prog 6 #[.string s] w fun e w' => e = .returned (.bool true) ∧ Below w.heap.size w w' := by
  by_cases h1 : s.size ≤ 2000
  · have g1 : decide ((2000 : Int) < (s.size : Int)) = false := decide_eq_false (by omega)
    have hl1 := enc64_len s.data.toList 0
    have hl2 := (qall_len s.data.toList 0).2
    have hl3 := (perc_len s.data.toList).2
    rw [str_size] at hl1 hl2 hl3
    go_enter Tryd.func6, Tryd.ntmps6
    go_wp2_with fail
    refine (small07_any _).mono ?_
    rintro e W1 ⟨rfl, b1⟩
    go_wp2_with fail
    refine (Base64_any s _ (by omega)).mono ?_
    rintro e W2 ⟨⟨a, rfl, ha⟩, b2⟩
    have has : a.size ≤ 4294967281 := by rw [← str_size, ha]; omega
    have hfa : fitsL false 0 a.data.toList = true := by rw [ha]; exact fits_enc64 _ 0 rfl (by decide)
    go_wp2_with fail
    refine (Quoted_any s _ (by omega)).mono ?_
    rintro e W3 ⟨⟨b, rfl, hb⟩, b3⟩
    have hbs : b.size ≤ 4294967281 := by rw [← str_size, hb]; omega
    have hfb : fitsL true 0 b.data.toList = true := by rw [hb]; exact fits_qall _ 0 (.inl (by decide))
    go_wp2_with fail
    refine (Percent_any s _ (by omega)).mono ?_
    rintro e W4 ⟨⟨c, rfl, hc⟩, b4⟩
    have hcs : c.size ≤ 4294967281 := by rw [← str_size, hc]; omega
    have hcb : ∀ d ∈ c.data.toList, 33 ≤ d.toNat ∧ d.toNat ≤ 126 := by rw [hc]; exact fun d hd => (perc_sep _ d hd).2.2
    have hB := bnext (bnext (bnext b1 b2) b3) b4
    clear b1 b2 b3 b4
    have hae : (a.toList.isEmpty = true ∧ s.toList.isEmpty = true) ∨ (a.toList.isEmpty = false ∧ s.toList.isEmpty = false ∧ ∀ W, (Instr.index 9 (.string a) (.int .i64 ((a.size : Int) - 1))).run Tryd.prog W = .ok (.int .u8 10) W) := by
      by_cases h0 : s.size = 0
      · left
        have hnil : s.data.toList = [] := List.eq_nil_of_length_eq_zero (by rw [str_size]; exact h0)
        rw [hnil] at ha
        exact ⟨emp_yes (by rw [← str_size, ha]; rfl), emp_yes h0⟩
      · right
        have hne : a.data.toList ≠ [] := by
          rw [ha]; intro h
          have := enc64_nil h
          exact h0 (by rw [← str_size, this]; rfl)
        have h0a : a.size ≠ 0 := fun h => hne (List.eq_nil_of_length_eq_zero (by rw [str_size]; exact h))
        refine ⟨isEmpty_of h0a, isEmpty_of h0, fun W => ?_⟩
        rcases enc64_last s.data.toList 0 with h | ⟨x, h⟩
        · exact absurd (ha.trans h) hne
        · refine idx_k .i64 a (a.size - 1) (by omega) 10 ?_ _ (by omega) W
          have h8 : a.data.toList = x ++ [10] := ha.trans h
          have h9 : a.size = (x ++ [10]).length := by rw [← str_size, h8]
          rw [h9, h8]
          simp [List.getD_eq_getElem?_getD]
    clear ha hb hc hl1 hl2 hl3
    replace hfa := Lib.hid hfa
    replace hfb := Lib.hid hfb
    replace hcb := Lib.hid hcb
    rcases hae with ⟨m1, m2⟩ | ⟨m1, m2, m3⟩
    all_goals
      go_wp2_with fail
      go_loopw [7] (fun ii wr => Below w.heap.size w wr ∧ ∃ i : Nat, ii = .int .i64 i ∧ i ≤ c.size) (fun ii _ => c.size - (intOf ii).toNat)
      case atStart => exact ⟨hB, 0, rfl, by omega⟩
      case round =>
        obtain ⟨hBr, i, rfl, hi⟩ := hrel
        by_cases hlt : i < c.size
        · have q1 : decide ((i : Int) < (c.size : Int)) = true := decide_eq_true (by omega)
          have q2 : decide (i < c.size) = true := decide_eq_true hlt
          obtain ⟨d, hd⟩ : ∃ d, c.data.toList.getD i 0 = d := ⟨_, rfl⟩
          have hxc := idx_at c i hlt d hd
          obtain ⟨d1, d2⟩ := hcb.out d (by rw [← hd, str_getD c i hlt]; exact List.mem_of_getElem? (str_get c i hlt))
          have k1 : decide ((d.toNat : Int) < 33) = false := decide_eq_false (by omega)
          have k2 : decide ((126 : Int) < (d.toNat : Int)) = false := decide_eq_false (by omega)
          have k3 : wh d = false := by rw [wh_eq]; exact decide_eq_false (by omega)
          replace hd := Lib.hid hd
          clear d1 d2
          go_wp2_with (go_at_call 19; refine (White_any _ _).mono ?_; rw [k3]; rintro e w' ⟨rfl, rfl⟩)
          go_roundw
          case rel => exact ⟨hBr, i + 1, by go_num, hlt⟩
          case measure => simp only [intOf]; go_num
        · obtain rfl : i = c.size := by omega
          have q1 : decide ((c.size : Int) < (c.size : Int)) = false := by simp
          have q2 : decide (c.size < c.size) = false := by simp
          go_wp2_with fail
          refine (fits_any a false _ has hfa.out).mono ?_
          rintro e W5 ⟨rfl, b5⟩
          go_wp2_with fail
          refine (fits_any b true _ hbs hfb.out).mono ?_
          rintro e W6 ⟨rfl, b6⟩
          go_wp2_with fail
          go_ret
          exact ⟨rfl, bnext (bnext hBr b5) b6⟩
  · have g1 : decide ((2000 : Int) < (s.size : Int)) = true := decide_eq_true (by omega)
    go_enter Tryd.func6, Tryd.ntmps6
    go_wp2_with fail
    refine (small07_any _).mono ?_
    rintro e W1 ⟨rfl, b1⟩
    go_wp2_with fail
    go_ret
    exact ⟨rfl, b1⟩
end Go.Proofs.YtompmkcpicfdfaaDoor
