/- missivelaw07.CodecStays: the law and the walk. -/
import Derived.Test.YtompmkcpicfdfaaDoorBack07
namespace Go.Proofs.YtompmkcpicfdfaaDoor
open Go.RowKit
set_option linter.unusedVariables false
theorem okc_cases (c : UInt8) : okc c = ((decide ((32 : Int) ≤ (c.toNat : Int)) && decide ((c.toNat : Int) < 127)) || ((c.toNat : Int) == 9) || ((c.toNat : Int) == 10) || ((c.toNat : Int) == 13)) := by
  have := u8_all (p := fun c => okc c == ((decide ((32 : Int) ≤ (c.toNat : Int)) && decide ((c.toNat : Int) < 127)) || ((c.toNat : Int) == 9) || ((c.toNat : Int) == 10) || ((c.toNat : Int) == 13))) (by decide +kernel) c
  simpa using this
theorem clean_step {c : UInt8} {r : List UInt8} (h1 : c ≠ 61) (h2 : blank c = true → isLast r = false ∧ r.head? ≠ some 13) (h3 : clean r = true) : clean (c :: r) = true := by
  rw [clean, h3]
  cases hb : blank c
  · simp [h1]
  · obtain ⟨h4, h5⟩ := h2 hb
    simp [h1, h4, h5]
theorem next_cases (s : ByteArray) (i : Nat) : (¬ i + 1 < s.size) ∨ (∃ h : i + 1 < s.size, s[i + 1] = 10) ∨ (∃ h : i + 1 < s.size, s[i + 1] = 13) ∨ (∃ h : i + 1 < s.size, s[i + 1] ≠ 10 ∧ s[i + 1] ≠ 13) := by
  by_cases h : i + 1 < s.size
  · by_cases h1 : s[i + 1] = 10
    · exact .inr (.inl ⟨h, h1⟩)
    · by_cases h2 : s[i + 1] = 13
      · exact .inr (.inr (.inl ⟨h, h2⟩))
      · exact .inr (.inr (.inr ⟨h, h1, h2⟩))
  · exact .inl h
theorem fine_next {s : ByteArray} {i : Nat} (h : i + 1 < s.size) (h1 : s[i + 1] ≠ 10) (h2 : s[i + 1] ≠ 13) : isLast (s.data.toList.drop (i + 1)) = false ∧ (s.data.toList.drop (i + 1)).head? ≠ some 13 := by
  rw [str_drop s (i + 1) h]
  exact ⟨by simp [isLast, h1], by simp [h2]⟩
set_option maxRecDepth 100000 in
set_option maxHeartbeats 16000000 in
theorem stays07_walk (s : ByteArray) (w : World) (hs : s.size ≤ maxLen) :
    Calls Tryd.prog 4 #[.string s] w fun e w' => e = .returned (.bool true) ∧ Below w.heap.size w w' := by
  by_cases h1 : s.size ≤ 2000
  · have g1 : decide ((2000 : Int) < (s.size : Int)) = false := decide_eq_false (by omega)
    have hl1 := unb_len s.data.toList
    have hl2 := unq_len s.data.toList.length s.data.toList (Nat.le_refl _)
    have hl3 := unp_len s.data.toList.length s.data.toList (Nat.le_refl _)
    rw [str_size] at hl1 hl2 hl3
    have hU := unq_clean s.data.toList
    have hV := unp_plain s.data.toList
    obtain ⟨A, hA⟩ : ∃ A, unb s.data.toList = A := ⟨_, rfl⟩
    obtain ⟨B, hB'⟩ : ∃ B, unq s.data.toList = B := ⟨_, rfl⟩
    obtain ⟨C, hC⟩ : ∃ C, unp s.data.toList = C := ⟨_, rfl⟩
    rw [hA] at hl1
    rw [hB'] at hl2 hU
    rw [hC] at hl3 hV
    replace hA := Lib.hid hA
    replace hB' := Lib.hid hB'
    replace hC := Lib.hid hC
    replace hU := Lib.hid hU
    replace hV := Lib.hid hV
    go_enter Tryd.func4, Tryd.ntmps4
    go_wp2_with fail
    refine (small07_any _).mono ?_
    rintro e W1 ⟨rfl, b1⟩
    go_wp2_with fail
    refine (Unbase64_any s _ (by omega)).mono ?_
    rw [hA.out]
    rintro e W2 ⟨⟨a, rfl, ha⟩, b2⟩
    have k1s : a.size ≤ s.size := by rw [← str_size a, ha]; omega
    have k1 : decide ((s.size : Int) < (a.size : Int)) = false := decide_eq_false (by omega)
    have k1n : decide (s.size < a.size) = false := decide_eq_false (by omega)
    go_wp2_with fail
    refine (Unquoted_any s _ (by omega)).mono ?_
    rw [hB'.out]
    rintro e W3 ⟨⟨b, rfl, hb⟩, b3⟩
    have k2s : b.size ≤ s.size := by rw [← str_size b, hb]; omega
    have k2 : decide ((s.size : Int) < (b.size : Int)) = false := decide_eq_false (by omega)
    have k2n : decide (s.size < b.size) = false := decide_eq_false (by omega)
    go_wp2_with fail
    refine (Unpercent_any s _ (by omega)).mono ?_
    rw [hC.out]
    rintro e W4 ⟨⟨c0, rfl, hc0⟩, b4⟩
    have k3s : c0.size ≤ s.size := by rw [← str_size c0, hc0]; omega
    have k3 : decide ((s.size : Int) < (c0.size : Int)) = false := decide_eq_false (by omega)
    have k3n : decide (s.size < c0.size) = false := decide_eq_false (by omega)
    have hB := bnext (bnext (bnext b1 b2) b3) b4
    obtain ⟨gb, hgb⟩ : ∃ gb, B.2 = gb := ⟨_, rfl⟩
    obtain ⟨gc, hgc⟩ : ∃ gc, C.2 = gc := ⟨_, rfl⟩
    rw [hgb, hgc]
    clear b1 b2 b3 b4 ha hl1 hl2 hl3
    replace hb := Lib.hid hb
    replace hc0 := Lib.hid hc0
    replace hgb := Lib.hid hgb
    replace hgc := Lib.hid hgc
    go_wp2_with fail
    go_loopw [10, 11] (fun pp ii wr => Below w.heap.size w wr ∧ ∃ (p : Bool) (i : Nat), pp = .bool p ∧ ii = .int .i64 i ∧ i ≤ s.size ∧ Hid (p = (s.data.toList.take i).all okc) ∧ Hid (clean (s.data.toList.drop i) = true → clean s.data.toList = true) ∧ Hid (∀ c ∈ s.data.toList.take i, c ≠ 43 ∧ c ≠ 37)) (fun _ ii _ => s.size - (intOf ii).toNat)
    case atStart => exact ⟨hB, true, 0, rfl, rfl, by omega, rfl, fun h => h, fun c hc => by simp at hc⟩
    case round =>
      obtain ⟨hBr, p, i, rfl, rfl, hi, hP, hCl, hN⟩ := hrel
      by_cases hlt : i < s.size
      · have q1 : decide ((i : Int) < (s.size : Int)) = true := decide_eq_true (by omega)
        have q2 : decide (i < s.size) = true := decide_eq_true hlt
        obtain ⟨c, hc⟩ : ∃ c, s[i] = c := ⟨_, rfl⟩
        have hxc := idx_at s i hlt c (by rw [str_getD s i hlt, hc])
        have htk := str_take s i hlt
        have hdr := str_drop s i hlt
        rw [hc] at htk hdr
        have tst : ∀ d : UInt8, ∀ n : Int, n = d.toNat → ((c.toNat : Int) == n) = (c == d) := fun d n hn => u8_beq n hn
        have hnx := next_cases s i
        have hnum : ∀ (h : i + 1 < s.size) (d : UInt8), s[i + 1] = d → ∀ W, (Instr.index 9 (.string s) (.int .i64 ((i : Int) + 1))).run Tryd.prog W = .ok (.int .u8 d.toNat) W := fun h d hd W => idx_k .i64 s (i + 1) h d (by rw [str_getD s (i + 1) h, hd]) _ (by omega) W
        clear hc
        replace htk := Lib.hid htk
        replace hdr := Lib.hid hdr
        replace hnum := Lib.hid hnum
        by_cases h61 : c = 61
        · have t1 : ((c.toNat : Int) == 61) = true := by rw [tst 61 61 rfl, h61]; rfl
          clear hP hCl hN
          go_wp2_with fail
          go_ret
          exact ⟨rfl, hBr⟩
        · have t1 : ((c.toNat : Int) == 61) = false := by rw [tst 61 61 rfl]; simpa using h61
          by_cases h43 : c = 43
          · have t2 : ((c.toNat : Int) == 43) = true := by rw [tst 43 43 rfl, h43]; rfl
            clear hP hCl hN
            go_wp2_with fail
            go_ret
            exact ⟨rfl, hBr⟩
          · have t2 : ((c.toNat : Int) == 43) = false := by rw [tst 43 43 rfl]; simpa using h43
            by_cases h37 : c = 37
            · have t3 : ((c.toNat : Int) == 37) = true := by rw [tst 37 37 rfl, h37]; rfl
              clear hP hCl hN
              go_wp2_with fail
              go_ret
              exact ⟨rfl, hBr⟩
            · have t3 : ((c.toNat : Int) == 37) = false := by rw [tst 37 37 rfl]; simpa using h37
              have hN2 : Hid (∀ d ∈ s.data.toList.take (i + 1), d ≠ 43 ∧ d ≠ 37) := by
                show ∀ d ∈ _, _
                rw [htk.out]
                intro d hd
                rcases List.mem_append.1 hd with hd | hd
                · exact hN.out d hd
                · rw [List.mem_singleton.1 hd]; exact ⟨h43, h37⟩
              have hCl2 : (blank c = true → isLast (s.data.toList.drop (i + 1)) = false ∧ (s.data.toList.drop (i + 1)).head? ≠ some 13) → Hid (clean (s.data.toList.drop (i + 1)) = true → clean s.data.toList = true) := fun h (h5 : _ = true) => hCl.out (by rw [hdr.out]; exact clean_step h61 h h5)
              have hP2 : ∀ q : Bool, q = (p && okc c) → Hid (q = (s.data.toList.take (i + 1)).all okc) := fun q hq => by
                show _ = _
                rw [hq, htk.out, List.all_append, ← hP.out]; simp
              have hoc := okc_cases c
              replace h61 := Lib.hid h61
              replace h43 := Lib.hid h43
              replace h37 := Lib.hid h37
              clear hN hP hCl
              replace hCl2 := Lib.hid hCl2
              replace hP2 := Lib.hid hP2
              cases hbl : blank c
              · obtain ⟨b1, b2⟩ := noblank_tests hbl
                have hCl3 := hCl2.out (fun h => by rw [hbl] at h; cases h)
                replace hbl := Lib.hid hbl
                clear hCl2 tst hnx
                cases p with
                | false =>
                  have hP3 := hP2.out false rfl
                  clear hoc
                  go_wp2_with fail
                  refine ⟨⟨hBr, false, i + 1, rfl, by go_num, hlt, hP3, hCl3, hN2⟩, by simp only [intOf]; go_num⟩
                | true =>
                  rw [b2] at hoc
                  cases u1 : decide ((32 : Int) ≤ (c.toNat : Int)) with
                  | true =>
                    cases u2 : decide ((c.toNat : Int) < 127) with
                    | true =>
                      have hP3 := hP2.out true (by rw [hoc]; rw [u1, u2]; rfl)
                      clear hoc
                      go_wp2_with fail
                      refine ⟨⟨hBr, true, i + 1, rfl, by go_num, hlt, hP3, hCl3, hN2⟩, by simp only [intOf]; go_num⟩
                    | false =>
                      cases v1 : ((c.toNat : Int) == 10) with
                      | true =>
                        have hP3 := hP2.out true (by rw [hoc]; rw [u1, u2, v1]; simp)
                        clear hoc
                        go_wp2_with fail
                        refine ⟨⟨hBr, true, i + 1, rfl, by go_num, hlt, hP3, hCl3, hN2⟩, by simp only [intOf]; go_num⟩
                      | false =>
                        cases v2 : ((c.toNat : Int) == 13) with
                        | true =>
                          have hP3 := hP2.out true (by rw [hoc]; rw [u1, u2, v1, v2]; simp)
                          clear hoc
                          go_wp2_with fail
                          refine ⟨⟨hBr, true, i + 1, rfl, by go_num, hlt, hP3, hCl3, hN2⟩, by simp only [intOf]; go_num⟩
                        | false =>
                          have hP3 := hP2.out false (by rw [hoc]; rw [u1, u2, v1, v2]; simp)
                          clear hoc
                          go_wp2_with fail
                          refine ⟨⟨hBr, false, i + 1, rfl, by go_num, hlt, hP3, hCl3, hN2⟩, by simp only [intOf]; go_num⟩
                  | false =>
                    cases v1 : ((c.toNat : Int) == 10) with
                    | true =>
                      have hP3 := hP2.out true (by rw [hoc]; rw [u1, v1]; simp)
                      clear hoc
                      go_wp2_with fail
                      refine ⟨⟨hBr, true, i + 1, rfl, by go_num, hlt, hP3, hCl3, hN2⟩, by simp only [intOf]; go_num⟩
                    | false =>
                      cases v2 : ((c.toNat : Int) == 13) with
                      | true =>
                        have hP3 := hP2.out true (by rw [hoc]; rw [u1, v1, v2]; simp)
                        clear hoc
                        go_wp2_with fail
                        refine ⟨⟨hBr, true, i + 1, rfl, by go_num, hlt, hP3, hCl3, hN2⟩, by simp only [intOf]; go_num⟩
                      | false =>
                        have hP3 := hP2.out false (by rw [hoc]; rw [u1, v1, v2]; simp)
                        clear hoc
                        go_wp2_with fail
                        refine ⟨⟨hBr, false, i + 1, rfl, by go_num, hlt, hP3, hCl3, hN2⟩, by simp only [intOf]; go_num⟩
              · have hbt := blank_tests hbl
                rcases hnx with hx | ⟨hx, hy⟩ | ⟨hx, hy⟩ | ⟨hx, hy, hz⟩
                · have x1 : ((i : Int) + 1 == (s.size : Int)) = true := by simp; omega
                  replace hbl := Lib.hid hbl
                  rcases hbt with b1 | ⟨b1, b2⟩
                  all_goals
                    go_wp2_with fail
                    go_ret
                    exact ⟨rfl, hBr⟩
                · have x1 : ((i : Int) + 1 == (s.size : Int)) = false := by simp; omega
                  have x2 := hnum.out hx 10 hy
                  replace hbl := Lib.hid hbl
                  replace hy := Lib.hid hy
                  rcases hbt with b1 | ⟨b1, b2⟩
                  all_goals
                    go_wp2_with fail
                    go_ret
                    exact ⟨rfl, hBr⟩
                · have x1 : ((i : Int) + 1 == (s.size : Int)) = false := by simp; omega
                  have x2 := hnum.out hx 13 hy
                  replace hbl := Lib.hid hbl
                  replace hy := Lib.hid hy
                  rcases hbt with b1 | ⟨b1, b2⟩
                  all_goals
                    go_wp2_with fail
                    go_ret
                    exact ⟨rfl, hBr⟩
                · have x1 : ((i : Int) + 1 == (s.size : Int)) = false := by simp; omega
                  have hCl3 := hCl2.out (fun _ => fine_next hx hy hz)
                  obtain ⟨d, hd⟩ : ∃ d, s[i + 1] = d := ⟨_, rfl⟩
                  have x2 := hnum.out hx d hd
                  rw [hd] at hy hz
                  have x3 : ((d.toNat : Int) == 10) = false := by rw [u8_beq 10 (d := 10) rfl]; simpa using hy
                  have x4 : ((d.toNat : Int) == 13) = false := by rw [u8_beq 13 (d := 13) rfl]; simpa using hz
                  replace hbl := Lib.hid hbl
                  replace hy := Lib.hid hy
                  replace hz := Lib.hid hz
                  replace hd := Lib.hid hd
                  clear hCl2 tst
                  rcases hbt with b1 | ⟨b1, b2⟩
                  · have u1 : decide ((32 : Int) ≤ (c.toNat : Int)) = true := by have := beq_iff_eq.1 b1; exact decide_eq_true (by omega)
                    have u2 : decide ((c.toNat : Int) < 127) = true := by have := beq_iff_eq.1 b1; exact decide_eq_true (by omega)
                    cases p with
                    | false =>
                      have hP3 := hP2.out false rfl
                      clear hoc
                      go_wp2_with fail
                      refine ⟨⟨hBr, false, i + 1, rfl, by go_num, hlt, hP3, hCl3, hN2⟩, by simp only [intOf]; go_num⟩
                    | true =>
                      have hP3 := hP2.out true (by rw [hoc, u1, u2]; rfl)
                      clear hoc
                      go_wp2_with fail
                      refine ⟨⟨hBr, true, i + 1, rfl, by go_num, hlt, hP3, hCl3, hN2⟩, by simp only [intOf]; go_num⟩
                  · have u1 : decide ((32 : Int) ≤ (c.toNat : Int)) = false := by have := beq_iff_eq.1 b2; exact decide_eq_false (by omega)
                    cases p with
                    | false =>
                      have hP3 := hP2.out false rfl
                      clear hoc
                      go_wp2_with fail
                      refine ⟨⟨hBr, false, i + 1, rfl, by go_num, hlt, hP3, hCl3, hN2⟩, by simp only [intOf]; go_num⟩
                    | true =>
                      have hP3 := hP2.out true (by rw [hoc, u1, b2]; simp)
                      clear hoc
                      go_wp2_with fail
                      refine ⟨⟨hBr, true, i + 1, rfl, by go_num, hlt, hP3, hCl3, hN2⟩, by simp only [intOf]; go_num⟩
      · obtain rfl : i = s.size := by omega
        have q1 : decide ((s.size : Int) < (s.size : Int)) = false := by simp
        have q2 : decide (s.size < s.size) = false := by simp
        have hcl : clean s.data.toList = true := hCl.out (by rw [List.drop_eq_nil_of_le (by rw [str_size]; exact Nat.le_refl _)]; rfl)
        have hu := hU.out hcl
        have hv := hV.out (by
          have := hN.out
          rw [List.take_of_length_le (by rw [str_size]; exact Nat.le_refl _)] at this
          exact this)
        have hp := hP.out
        rw [List.take_of_length_le (by rw [str_size]; exact Nat.le_refl _)] at hp
        obtain rfl : b = s := str_inj (by rw [hb.out, hu])
        obtain rfl : c0 = b := str_inj (by rw [hc0.out, hv])
        obtain rfl : gb = p := by rw [← hgb.out, hu, hp]
        obtain rfl : gc = true := by rw [← hgc.out, hv]
        have hse := same_eq c0
        have hpp : (gb == gb) = true := by simp
        clear hu hv hp hcl
        go_wp2_with fail
        go_ret
        exact ⟨rfl, hBr⟩
  · have g1 : decide ((2000 : Int) < (s.size : Int)) = true := decide_eq_true (by omega)
    go_enter Tryd.func4, Tryd.ntmps4
    go_wp2_with fail
    refine (small07_any _).mono ?_
    rintro e W1 ⟨rfl, b1⟩
    go_wp2_with fail
    go_ret
    exact ⟨rfl, b1⟩
end Go.Proofs.YtompmkcpicfdfaaDoor
