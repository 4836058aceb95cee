/- missivelaw01.TextNumbers: the walk. -/
import Derived.Test.YtompmkcpicfdfaaDoorSmall01
import Derived.Test.YtompmkcpicfdfaaDoorNumLaw
import Derived.Test.YtompmkcpicfdfaaDoorLaidFacts
namespace Go.Proofs.YtompmkcpicfdfaaDoor
open Go.RowKit
set_option linter.unusedVariables false
theorem below_grow (w : World) (k : Nat) (os : Array Obj) : Below w.heap.size w (Sort.grow (w.drewN k) os) :=
  ⟨rfl, rfl, rfl, by show w.heap.size ≤ (w.heap ++ os).size; rw [Array.size_append]; omega, fun b hb => by show (w.heap ++ os)[b]? = _; rw [Array.getElem?_append_left hb]⟩
def Pow (w : World) : Prop := Lib.TabIs Tryd.prog w "internal/strconv.uint64pow10" .u64 Lib.pow10Tab
theorem Pow.below {w w' : World} (h : Pow w) (hb : Below w.heap.size w w') : Pow w' := by
  have hg : Tryd.prog.globalNamed "internal/strconv.uint64pow10" = some 5 := by kernel_rfl
  unfold Pow Lib.TabIs World.var? at h ⊢
  rw [hg] at h ⊢
  simp only [Option.bind_some] at h ⊢
  have hlt : 5 < w.heap.size := by
    rcases Nat.lt_or_ge 5 w.heap.size with h' | h'
    · exact h'
    · rw [Array.getElem?_eq_none h'] at h; cases h
  rw [hb.block _ hlt]
  exact h
theorem bd_of_wf {n : Int} (h : (Lit.int .i64 n).wf = true) : -9223372036854775808 ≤ n ∧ n ≤ 9223372036854775807 := by
  simpa [Lit.wf, IntKind.min, IntKind.max, IntKind.signed, IntKind.bits] using h
theorem Decimal_any (n : Int) (w : World) (h0 : -9223372036854775808 ≤ n) (h1 : n ≤ 9223372036854775807) (ht : Pow w) : Calls Tryd.prog 33 #[.int .i64 n] w (SPost (Lib.itoa n) w) := by
  go_enter Tryd.func33, Tryd.ntmps33
  go_wp2_with (go_at_call 60; refine (Tryd.strconv_Itoa n h0 h1 _ ht).mono ?_; rintro e w' ⟨rfl, k, os, rfl⟩)
  go_ret
  exact ⟨⟨_, rfl, rfl⟩, below_grow _ _ _⟩
theorem itoa_pos (n : Int) : 0 < (Lib.itoa n).length := by
  rw [itoa_length]
  have := Lib.nDigits_pos n.natAbs
  omega
theorem cons_list (c : UInt8) (y : ByteArray) : ((⟨#[c]⟩ : ByteArray) ++ y).data.toList = c :: y.data.toList := by
  rw [ByteArray.data_append, Array.toList_append]; rfl
set_option maxRecDepth 100000 in
set_option maxHeartbeats 16000000 in
theorem numbers_walk (n m z : Int) (w : World) (wn : (Lit.int .i64 n).wf = true) (wm : (Lit.int .i64 m).wf = true) (wz : (Lit.int .i64 z).wf = true) (ht : Pow w) :
    Calls Tryd.prog 9 #[.int .i64 n, .int .i64 m, .int .i64 z] w fun e w' => e = .returned (.bool true) ∧ Below w.heap.size w w' := by
  obtain ⟨n1, n2⟩ := bd_of_wf wn
  obtain ⟨m1, m2⟩ := bd_of_wf wm
  clear wn wm wz
  have hnm : (n = m ∧ (n == m) = true) ∨ (n ≠ m ∧ (n == m) = false) := by
    by_cases h : n = m
    · exact .inl ⟨h, by simpa using h⟩
    · exact .inr ⟨h, by simpa using h⟩
  have hgood : (n < 0) ∨ (999999999999999 < n) ∨ ∃ N : Nat, n = N ∧ N ≤ 999999999999999 := by
    by_cases h : n < 0
    · exact .inl h
    · by_cases h2 : 999999999999999 < n
      · exact .inr (.inl h2)
      · exact .inr (.inr ⟨n.toNat, by omega, by omega⟩)
  have hz : z < 0 ∨ 20 < z ∨ ∃ Z : Nat, z = Z ∧ Z ≤ 20 := by
    by_cases h : z < 0
    · exact .inl h
    · by_cases h2 : 20 < z
      · exact .inr (.inl h2)
      · exact .inr (.inr ⟨z.toNat, by omega, by omega⟩)
  rcases hgood with hg | hg | ⟨N, rfl, hg⟩
  · rcases hnm with ⟨hnm, hb⟩ | ⟨hnm, hb⟩
    · have a1 : decide ((0 : Int) ≤ n) = false := by simp; omega
      have hw := wnum_bad (n := n) (by omega)
      replace n1 := Lib.hid n1
      replace n2 := Lib.hid n2
      replace m1 := Lib.hid m1
      replace m2 := Lib.hid m2
      replace hw := Lib.hid hw
      replace hnm := Lib.hid hnm
      replace hg := Lib.hid hg
      clear hz
      go_enter Tryd.func9, Tryd.ntmps9
      go_wp2_with fail
      refine (small_any _).mono ?_
      rintro e W1 ⟨rfl, b1⟩
      have p1 := ht.below b1
      go_wp2_with fail
      refine (Decimal_any n _ n1.out n2.out p1).mono ?_
      rintro e W2 ⟨⟨s, rfl, hs⟩, b2⟩
      have p2 := p1.below b2
      have hsz : s.size = (Lib.itoa n).length := by rw [← str_size, hs]
      have hB := bnext b1 b2
      go_wp2_with fail
      refine (Number_no s _ (by have := itoa_le n n1.out n2.out; omega) (by rw [hs]; exact hw.out) (fun h => by have := itoa_pos n; omega)).mono ?_
      rintro e W3 ⟨rfl, b3⟩
      have p3 := p2.below b3
      replace hB := bnext hB b3
      clear b1 b2 b3 p1 p2
      replace hsz := Lib.hid hsz
      go_wp2_with fail
      refine (Decimal_any m _ m1.out m2.out p3).mono ?_
      rintro e W4 ⟨⟨t, rfl, htt⟩, b4⟩
      replace hB := bnext hB b4
      have e1 : (s.toList == t.toList) = true := by rw [Lib.toList_data, Lib.toList_data, hs, htt, hnm.out]; simp
      clear b4 p3 htt
      replace hs := Lib.hid hs
      go_wp2_with fail
      go_ret
      exact ⟨rfl, hB⟩
    · have a1 : decide ((0 : Int) ≤ n) = false := by simp; omega
      have hw := wnum_bad (n := n) (by omega)
      replace n1 := Lib.hid n1
      replace n2 := Lib.hid n2
      replace m1 := Lib.hid m1
      replace m2 := Lib.hid m2
      replace hw := Lib.hid hw
      replace hnm := Lib.hid hnm
      replace hg := Lib.hid hg
      clear hz
      go_enter Tryd.func9, Tryd.ntmps9
      go_wp2_with fail
      refine (small_any _).mono ?_
      rintro e W1 ⟨rfl, b1⟩
      have p1 := ht.below b1
      go_wp2_with fail
      refine (Decimal_any n _ n1.out n2.out p1).mono ?_
      rintro e W2 ⟨⟨s, rfl, hs⟩, b2⟩
      have p2 := p1.below b2
      have hsz : s.size = (Lib.itoa n).length := by rw [← str_size, hs]
      have hB := bnext b1 b2
      go_wp2_with fail
      refine (Number_no s _ (by have := itoa_le n n1.out n2.out; omega) (by rw [hs]; exact hw.out) (fun h => by have := itoa_pos n; omega)).mono ?_
      rintro e W3 ⟨rfl, b3⟩
      have p3 := p2.below b3
      replace hB := bnext hB b3
      clear b1 b2 b3 p1 p2
      replace hsz := Lib.hid hsz
      go_wp2_with fail
      refine (Decimal_any m _ m1.out m2.out p3).mono ?_
      rintro e W4 ⟨⟨t, rfl, htt⟩, b4⟩
      replace hB := bnext hB b4
      have e1 : (s.toList == t.toList) = false := by
        rw [Lib.toList_data, Lib.toList_data, hs, htt]
        simp only [beq_eq_false_iff_ne]
        exact fun h => hnm.out (itoa_inj h)
      clear b4 p3 htt
      replace hs := Lib.hid hs
      go_wp2_with fail
      go_ret
      exact ⟨rfl, hB⟩
  · rcases hnm with ⟨hnm, hb⟩ | ⟨hnm, hb⟩
    · have a1 : decide ((0 : Int) ≤ n) = true := by simp; omega
      have a2 : decide (n ≤ (999999999999999 : Int)) = false := by simp; omega
      have hw := wnum_bad (n := n) (by omega)
      replace n1 := Lib.hid n1
      replace n2 := Lib.hid n2
      replace m1 := Lib.hid m1
      replace m2 := Lib.hid m2
      replace hw := Lib.hid hw
      replace hnm := Lib.hid hnm
      replace hg := Lib.hid hg
      clear hz
      go_enter Tryd.func9, Tryd.ntmps9
      go_wp2_with fail
      refine (small_any _).mono ?_
      rintro e W1 ⟨rfl, b1⟩
      have p1 := ht.below b1
      go_wp2_with fail
      refine (Decimal_any n _ n1.out n2.out p1).mono ?_
      rintro e W2 ⟨⟨s, rfl, hs⟩, b2⟩
      have p2 := p1.below b2
      have hsz : s.size = (Lib.itoa n).length := by rw [← str_size, hs]
      have hB := bnext b1 b2
      go_wp2_with fail
      refine (Number_no s _ (by have := itoa_le n n1.out n2.out; omega) (by rw [hs]; exact hw.out) (fun h => by have := itoa_pos n; omega)).mono ?_
      rintro e W3 ⟨rfl, b3⟩
      have p3 := p2.below b3
      replace hB := bnext hB b3
      clear b1 b2 b3 p1 p2
      replace hsz := Lib.hid hsz
      go_wp2_with fail
      refine (Decimal_any m _ m1.out m2.out p3).mono ?_
      rintro e W4 ⟨⟨t, rfl, htt⟩, b4⟩
      replace hB := bnext hB b4
      have e1 : (s.toList == t.toList) = true := by rw [Lib.toList_data, Lib.toList_data, hs, htt, hnm.out]; simp
      clear b4 p3 htt
      replace hs := Lib.hid hs
      go_wp2_with fail
      go_ret
      exact ⟨rfl, hB⟩
    · have a1 : decide ((0 : Int) ≤ n) = true := by simp; omega
      have a2 : decide (n ≤ (999999999999999 : Int)) = false := by simp; omega
      have hw := wnum_bad (n := n) (by omega)
      replace n1 := Lib.hid n1
      replace n2 := Lib.hid n2
      replace m1 := Lib.hid m1
      replace m2 := Lib.hid m2
      replace hw := Lib.hid hw
      replace hnm := Lib.hid hnm
      replace hg := Lib.hid hg
      clear hz
      go_enter Tryd.func9, Tryd.ntmps9
      go_wp2_with fail
      refine (small_any _).mono ?_
      rintro e W1 ⟨rfl, b1⟩
      have p1 := ht.below b1
      go_wp2_with fail
      refine (Decimal_any n _ n1.out n2.out p1).mono ?_
      rintro e W2 ⟨⟨s, rfl, hs⟩, b2⟩
      have p2 := p1.below b2
      have hsz : s.size = (Lib.itoa n).length := by rw [← str_size, hs]
      have hB := bnext b1 b2
      go_wp2_with fail
      refine (Number_no s _ (by have := itoa_le n n1.out n2.out; omega) (by rw [hs]; exact hw.out) (fun h => by have := itoa_pos n; omega)).mono ?_
      rintro e W3 ⟨rfl, b3⟩
      have p3 := p2.below b3
      replace hB := bnext hB b3
      clear b1 b2 b3 p1 p2
      replace hsz := Lib.hid hsz
      go_wp2_with fail
      refine (Decimal_any m _ m1.out m2.out p3).mono ?_
      rintro e W4 ⟨⟨t, rfl, htt⟩, b4⟩
      replace hB := bnext hB b4
      have e1 : (s.toList == t.toList) = false := by
        rw [Lib.toList_data, Lib.toList_data, hs, htt]
        simp only [beq_eq_false_iff_ne]
        exact fun h => hnm.out (itoa_inj h)
      clear b4 p3 htt
      replace hs := Lib.hid hs
      go_wp2_with fail
      go_ret
      exact ⟨rfl, hB⟩
  · rcases hnm with ⟨hnm, hb⟩ | ⟨hnm, hb⟩
    · rcases hz with hz | hz | ⟨Z, rfl, hz⟩
      · have a1 : decide ((0 : Int) ≤ (N : Int)) = true := by simp
        have a2 : decide ((N : Int) ≤ (999999999999999 : Int)) = true := by simp; omega
        have hw := wnum_good (n := (N : Int)) (by omega) (by omega)
        rw [Int.toNat_natCast] at hw
        have a4 : ((N : Int) != (N : Int)) = false := by simp
        have z1 : decide (z < (0 : Int)) = true := by simp; omega
        replace n1 := Lib.hid n1
        replace n2 := Lib.hid n2
        replace m1 := Lib.hid m1
        replace m2 := Lib.hid m2
        replace hw := Lib.hid hw
        replace hnm := Lib.hid hnm
        replace hg := Lib.hid hg
        replace hz := Lib.hid hz
        go_enter Tryd.func9, Tryd.ntmps9
        go_wp2_with fail
        refine (small_any _).mono ?_
        rintro e W1 ⟨rfl, b1⟩
        have p1 := ht.below b1
        go_wp2_with fail
        refine (Decimal_any (N : Int) _ n1.out n2.out p1).mono ?_
        rintro e W2 ⟨⟨s, rfl, hs⟩, b2⟩
        have p2 := p1.below b2
        have hsz : s.size = (Lib.itoa (N : Int)).length := by rw [← str_size, hs]
        have hB := bnext b1 b2
        go_wp2_with fail
        refine (Number_yes s _ N (by rw [hs]; exact hw.out)).mono ?_
        rintro e W3 ⟨rfl, b3⟩
        have p3 := p2.below b3
        replace hB := bnext hB b3
        clear b1 b2 b3 p1 p2
        replace hsz := Lib.hid hsz
        go_wp2_with fail
        refine (Decimal_any m _ m1.out m2.out p3).mono ?_
        rintro e W4 ⟨⟨t, rfl, htt⟩, b4⟩
        replace hB := bnext hB b4
        have e1 : (s.toList == t.toList) = true := by rw [Lib.toList_data, Lib.toList_data, hs, htt, hnm.out]; simp
        clear b4 p3 htt
        replace hs := Lib.hid hs
        go_wp2_with fail
        go_ret
        exact ⟨rfl, hB⟩
      · have a1 : decide ((0 : Int) ≤ (N : Int)) = true := by simp
        have a2 : decide ((N : Int) ≤ (999999999999999 : Int)) = true := by simp; omega
        have hw := wnum_good (n := (N : Int)) (by omega) (by omega)
        rw [Int.toNat_natCast] at hw
        have a4 : ((N : Int) != (N : Int)) = false := by simp
        have z1 : decide (z < (0 : Int)) = false := by simp; omega
        have z2 : decide ((20 : Int) < z) = true := by simp; omega
        replace n1 := Lib.hid n1
        replace n2 := Lib.hid n2
        replace m1 := Lib.hid m1
        replace m2 := Lib.hid m2
        replace hw := Lib.hid hw
        replace hnm := Lib.hid hnm
        replace hg := Lib.hid hg
        replace hz := Lib.hid hz
        go_enter Tryd.func9, Tryd.ntmps9
        go_wp2_with fail
        refine (small_any _).mono ?_
        rintro e W1 ⟨rfl, b1⟩
        have p1 := ht.below b1
        go_wp2_with fail
        refine (Decimal_any (N : Int) _ n1.out n2.out p1).mono ?_
        rintro e W2 ⟨⟨s, rfl, hs⟩, b2⟩
        have p2 := p1.below b2
        have hsz : s.size = (Lib.itoa (N : Int)).length := by rw [← str_size, hs]
        have hB := bnext b1 b2
        go_wp2_with fail
        refine (Number_yes s _ N (by rw [hs]; exact hw.out)).mono ?_
        rintro e W3 ⟨rfl, b3⟩
        have p3 := p2.below b3
        replace hB := bnext hB b3
        clear b1 b2 b3 p1 p2
        replace hsz := Lib.hid hsz
        go_wp2_with fail
        refine (Decimal_any m _ m1.out m2.out p3).mono ?_
        rintro e W4 ⟨⟨t, rfl, htt⟩, b4⟩
        replace hB := bnext hB b4
        have e1 : (s.toList == t.toList) = true := by rw [Lib.toList_data, Lib.toList_data, hs, htt, hnm.out]; simp
        clear b4 p3 htt
        replace hs := Lib.hid hs
        go_wp2_with fail
        go_ret
        exact ⟨rfl, hB⟩
      · have a1 : decide ((0 : Int) ≤ (N : Int)) = true := by simp
        have a2 : decide ((N : Int) ≤ (999999999999999 : Int)) = true := by simp; omega
        have hw := wnum_good (n := (N : Int)) (by omega) (by omega)
        rw [Int.toNat_natCast] at hw
        have a4 : ((N : Int) != (N : Int)) = false := by simp
        have z1 : decide ((Z : Int) < (0 : Int)) = false := by simp
        have z2 : decide ((20 : Int) < (Z : Int)) = false := by simp; omega
        replace n1 := Lib.hid n1
        replace n2 := Lib.hid n2
        replace m1 := Lib.hid m1
        replace m2 := Lib.hid m2
        replace hw := Lib.hid hw
        replace hnm := Lib.hid hnm
        replace hg := Lib.hid hg
        go_enter Tryd.func9, Tryd.ntmps9
        go_wp2_with fail
        refine (small_any _).mono ?_
        rintro e W1 ⟨rfl, b1⟩
        have p1 := ht.below b1
        go_wp2_with fail
        refine (Decimal_any (N : Int) _ n1.out n2.out p1).mono ?_
        rintro e W2 ⟨⟨s, rfl, hs⟩, b2⟩
        have p2 := p1.below b2
        have hsz : s.size = (Lib.itoa (N : Int)).length := by rw [← str_size, hs]
        have hB := bnext b1 b2
        go_wp2_with fail
        refine (Number_yes s _ N (by rw [hs]; exact hw.out)).mono ?_
        rintro e W3 ⟨rfl, b3⟩
        have p3 := p2.below b3
        replace hB := bnext hB b3
        clear b1 b2 b3 p1 p2
        replace hsz := Lib.hid hsz
        go_wp2_with fail
        refine (Decimal_any m _ m1.out m2.out p3).mono ?_
        rintro e W4 ⟨⟨t, rfl, htt⟩, b4⟩
        replace hB := bnext hB b4
        have e1 : (s.toList == t.toList) = true := by rw [Lib.toList_data, Lib.toList_data, hs, htt, hnm.out]; simp
        clear b4 p3 htt
        replace hs := Lib.hid hs
        go_wp2_with fail
        go_loopw [12, 13] (fun y i wr => Below w.heap.size w wr ∧ ∃ (k : Nat) (x : ByteArray), i = .int .i64 k ∧ k ≤ Z ∧ y = .string x ∧ x.data.toList = List.replicate k 48 ++ Lib.itoa (N : Int)) (fun _ i _ => Z - (intOf i).toNat)
        case atStart => exact ⟨hB, 0, s, rfl, by omega, rfl, by rw [hs.out]; rfl⟩
        case round =>
          clear hB
          obtain ⟨hB, k, x, rfl, hk, rfl, hx⟩ := hrel
          by_cases hlt : k < Z
          · have q1 : decide ((k : Int) < (Z : Int)) = true := by simp; omega
            have q2 : decide (k < Z) = true := by simp; omega
            have hk3 : k < 20 := by omega
            have hxs : x.size ≤ 41 := by
              have := itoa_le (N : Int) n1.out n2.out
              rw [← str_size, hx, List.length_append, List.length_replicate]
              omega
            replace hx := Lib.hid hx
            replace hlt := Lib.hid hlt
            go_wp2_with fail
            go_roundw
            case rel => exact ⟨hB, k + 1, _, by go_num, hlt.out, rfl, by rw [cons_list, hx.out]; rfl⟩
            case measure => have := hlt.out; simp only [intOf]; go_num
          · obtain rfl : k = Z := by omega
            have q1 : decide ((k : Int) < (k : Int)) = false := by simp
            have q2 : decide (k < k) = false := by simp
            by_cases h15 : x.size ≤ 15
            · have r1 : decide ((x.size : Int) ≤ (15 : Int)) = true := by simp; omega
              have r2 : ((N : Int) == (N : Int)) = true := by simp
              replace hlt := Lib.hid hlt
              have hwy : wnum x.data.toList = some N := by
                rw [hx]
                have := wnum_yes (n := (N : Int)) k (by omega) (by rw [← hx, str_size]; exact h15)
                rwa [Int.toNat_natCast] at this
              replace hwy := Lib.hid hwy
              replace hx := Lib.hid hx
              replace h15 := Lib.hid h15
              go_wp2_with fail
              refine (Number_yes x _ N hwy.out).mono ?_
              rintro e W5 ⟨rfl, b5⟩
              go_wp2_with fail
              go_ret
              exact ⟨rfl, bnext hB b5⟩
            · have r1 : decide ((x.size : Int) ≤ (15 : Int)) = false := by simp; omega
              have hwy : wnum x.data.toList = none := wnum_long (by rw [str_size]; exact h15)
              have hxz : x.size ≤ 9223372036854775807 := by
                have := itoa_le (N : Int) n1.out n2.out
                rw [← str_size, hx, List.length_append, List.length_replicate]
                omega
              replace hwy := Lib.hid hwy
              replace hx := Lib.hid hx
              replace hxz := Lib.hid hxz
              replace h15 := Lib.hid h15
              replace hlt := Lib.hid hlt
              go_wp2_with fail
              refine (Number_no x _ hxz.out hwy.out (fun h => by have := h15.out; omega)).mono ?_
              rintro e W5 ⟨rfl, b5⟩
              go_wp2_with fail
              go_ret
              exact ⟨rfl, bnext hB b5⟩
    · rcases hz with hz | hz | ⟨Z, rfl, hz⟩
      · have a1 : decide ((0 : Int) ≤ (N : Int)) = true := by simp
        have a2 : decide ((N : Int) ≤ (999999999999999 : Int)) = true := by simp; omega
        have hw := wnum_good (n := (N : Int)) (by omega) (by omega)
        rw [Int.toNat_natCast] at hw
        have a4 : ((N : Int) != (N : Int)) = false := by simp
        have z1 : decide (z < (0 : Int)) = true := by simp; omega
        replace n1 := Lib.hid n1
        replace n2 := Lib.hid n2
        replace m1 := Lib.hid m1
        replace m2 := Lib.hid m2
        replace hw := Lib.hid hw
        replace hnm := Lib.hid hnm
        replace hg := Lib.hid hg
        replace hz := Lib.hid hz
        go_enter Tryd.func9, Tryd.ntmps9
        go_wp2_with fail
        refine (small_any _).mono ?_
        rintro e W1 ⟨rfl, b1⟩
        have p1 := ht.below b1
        go_wp2_with fail
        refine (Decimal_any (N : Int) _ n1.out n2.out p1).mono ?_
        rintro e W2 ⟨⟨s, rfl, hs⟩, b2⟩
        have p2 := p1.below b2
        have hsz : s.size = (Lib.itoa (N : Int)).length := by rw [← str_size, hs]
        have hB := bnext b1 b2
        go_wp2_with fail
        refine (Number_yes s _ N (by rw [hs]; exact hw.out)).mono ?_
        rintro e W3 ⟨rfl, b3⟩
        have p3 := p2.below b3
        replace hB := bnext hB b3
        clear b1 b2 b3 p1 p2
        replace hsz := Lib.hid hsz
        go_wp2_with fail
        refine (Decimal_any m _ m1.out m2.out p3).mono ?_
        rintro e W4 ⟨⟨t, rfl, htt⟩, b4⟩
        replace hB := bnext hB b4
        have e1 : (s.toList == t.toList) = false := by
          rw [Lib.toList_data, Lib.toList_data, hs, htt]
          simp only [beq_eq_false_iff_ne]
          exact fun h => hnm.out (itoa_inj h)
        clear b4 p3 htt
        replace hs := Lib.hid hs
        go_wp2_with fail
        go_ret
        exact ⟨rfl, hB⟩
      · have a1 : decide ((0 : Int) ≤ (N : Int)) = true := by simp
        have a2 : decide ((N : Int) ≤ (999999999999999 : Int)) = true := by simp; omega
        have hw := wnum_good (n := (N : Int)) (by omega) (by omega)
        rw [Int.toNat_natCast] at hw
        have a4 : ((N : Int) != (N : Int)) = false := by simp
        have z1 : decide (z < (0 : Int)) = false := by simp; omega
        have z2 : decide ((20 : Int) < z) = true := by simp; omega
        replace n1 := Lib.hid n1
        replace n2 := Lib.hid n2
        replace m1 := Lib.hid m1
        replace m2 := Lib.hid m2
        replace hw := Lib.hid hw
        replace hnm := Lib.hid hnm
        replace hg := Lib.hid hg
        replace hz := Lib.hid hz
        go_enter Tryd.func9, Tryd.ntmps9
        go_wp2_with fail
        refine (small_any _).mono ?_
        rintro e W1 ⟨rfl, b1⟩
        have p1 := ht.below b1
        go_wp2_with fail
        refine (Decimal_any (N : Int) _ n1.out n2.out p1).mono ?_
        rintro e W2 ⟨⟨s, rfl, hs⟩, b2⟩
        have p2 := p1.below b2
        have hsz : s.size = (Lib.itoa (N : Int)).length := by rw [← str_size, hs]
        have hB := bnext b1 b2
        go_wp2_with fail
        refine (Number_yes s _ N (by rw [hs]; exact hw.out)).mono ?_
        rintro e W3 ⟨rfl, b3⟩
        have p3 := p2.below b3
        replace hB := bnext hB b3
        clear b1 b2 b3 p1 p2
        replace hsz := Lib.hid hsz
        go_wp2_with fail
        refine (Decimal_any m _ m1.out m2.out p3).mono ?_
        rintro e W4 ⟨⟨t, rfl, htt⟩, b4⟩
        replace hB := bnext hB b4
        have e1 : (s.toList == t.toList) = false := by
          rw [Lib.toList_data, Lib.toList_data, hs, htt]
          simp only [beq_eq_false_iff_ne]
          exact fun h => hnm.out (itoa_inj h)
        clear b4 p3 htt
        replace hs := Lib.hid hs
        go_wp2_with fail
        go_ret
        exact ⟨rfl, hB⟩
      · have a1 : decide ((0 : Int) ≤ (N : Int)) = true := by simp
        have a2 : decide ((N : Int) ≤ (999999999999999 : Int)) = true := by simp; omega
        have hw := wnum_good (n := (N : Int)) (by omega) (by omega)
        rw [Int.toNat_natCast] at hw
        have a4 : ((N : Int) != (N : Int)) = false := by simp
        have z1 : decide ((Z : Int) < (0 : Int)) = false := by simp
        have z2 : decide ((20 : Int) < (Z : Int)) = false := by simp; omega
        replace n1 := Lib.hid n1
        replace n2 := Lib.hid n2
        replace m1 := Lib.hid m1
        replace m2 := Lib.hid m2
        replace hw := Lib.hid hw
        replace hnm := Lib.hid hnm
        replace hg := Lib.hid hg
        go_enter Tryd.func9, Tryd.ntmps9
        go_wp2_with fail
        refine (small_any _).mono ?_
        rintro e W1 ⟨rfl, b1⟩
        have p1 := ht.below b1
        go_wp2_with fail
        refine (Decimal_any (N : Int) _ n1.out n2.out p1).mono ?_
        rintro e W2 ⟨⟨s, rfl, hs⟩, b2⟩
        have p2 := p1.below b2
        have hsz : s.size = (Lib.itoa (N : Int)).length := by rw [← str_size, hs]
        have hB := bnext b1 b2
        go_wp2_with fail
        refine (Number_yes s _ N (by rw [hs]; exact hw.out)).mono ?_
        rintro e W3 ⟨rfl, b3⟩
        have p3 := p2.below b3
        replace hB := bnext hB b3
        clear b1 b2 b3 p1 p2
        replace hsz := Lib.hid hsz
        go_wp2_with fail
        refine (Decimal_any m _ m1.out m2.out p3).mono ?_
        rintro e W4 ⟨⟨t, rfl, htt⟩, b4⟩
        replace hB := bnext hB b4
        have e1 : (s.toList == t.toList) = false := by
          rw [Lib.toList_data, Lib.toList_data, hs, htt]
          simp only [beq_eq_false_iff_ne]
          exact fun h => hnm.out (itoa_inj h)
        clear b4 p3 htt
        replace hs := Lib.hid hs
        go_wp2_with fail
        go_loopw [12, 13] (fun y i wr => Below w.heap.size w wr ∧ ∃ (k : Nat) (x : ByteArray), i = .int .i64 k ∧ k ≤ Z ∧ y = .string x ∧ x.data.toList = List.replicate k 48 ++ Lib.itoa (N : Int)) (fun _ i _ => Z - (intOf i).toNat)
        case atStart => exact ⟨hB, 0, s, rfl, by omega, rfl, by rw [hs.out]; rfl⟩
        case round =>
          clear hB
          obtain ⟨hB, k, x, rfl, hk, rfl, hx⟩ := hrel
          by_cases hlt : k < Z
          · have q1 : decide ((k : Int) < (Z : Int)) = true := by simp; omega
            have q2 : decide (k < Z) = true := by simp; omega
            have hk3 : k < 20 := by omega
            have hxs : x.size ≤ 41 := by
              have := itoa_le (N : Int) n1.out n2.out
              rw [← str_size, hx, List.length_append, List.length_replicate]
              omega
            replace hx := Lib.hid hx
            replace hlt := Lib.hid hlt
            go_wp2_with fail
            go_roundw
            case rel => exact ⟨hB, k + 1, _, by go_num, hlt.out, rfl, by rw [cons_list, hx.out]; rfl⟩
            case measure => have := hlt.out; simp only [intOf]; go_num
          · obtain rfl : k = Z := by omega
            have q1 : decide ((k : Int) < (k : Int)) = false := by simp
            have q2 : decide (k < k) = false := by simp
            by_cases h15 : x.size ≤ 15
            · have r1 : decide ((x.size : Int) ≤ (15 : Int)) = true := by simp; omega
              have r2 : ((N : Int) == (N : Int)) = true := by simp
              replace hlt := Lib.hid hlt
              have hwy : wnum x.data.toList = some N := by
                rw [hx]
                have := wnum_yes (n := (N : Int)) k (by omega) (by rw [← hx, str_size]; exact h15)
                rwa [Int.toNat_natCast] at this
              replace hwy := Lib.hid hwy
              replace hx := Lib.hid hx
              replace h15 := Lib.hid h15
              go_wp2_with fail
              refine (Number_yes x _ N hwy.out).mono ?_
              rintro e W5 ⟨rfl, b5⟩
              go_wp2_with fail
              go_ret
              exact ⟨rfl, bnext hB b5⟩
            · have r1 : decide ((x.size : Int) ≤ (15 : Int)) = false := by simp; omega
              have hwy : wnum x.data.toList = none := wnum_long (by rw [str_size]; exact h15)
              have hxz : x.size ≤ 9223372036854775807 := by
                have := itoa_le (N : Int) n1.out n2.out
                rw [← str_size, hx, List.length_append, List.length_replicate]
                omega
              replace hwy := Lib.hid hwy
              replace hx := Lib.hid hx
              replace hxz := Lib.hid hxz
              replace h15 := Lib.hid h15
              replace hlt := Lib.hid hlt
              go_wp2_with fail
              refine (Number_no x _ hxz.out hwy.out (fun h => by have := h15.out; omega)).mono ?_
              rintro e W5 ⟨rfl, b5⟩
              go_wp2_with fail
              go_ret
              exact ⟨rfl, bnext hB b5⟩
end Go.Proofs.YtompmkcpicfdfaaDoor
