/- missivelaw34: small, few, QuoteTells. -/
import Derived.Test.YtompmkcpicfdfaaDoorQuoteY
namespace Go.Proofs.YtompmkcpicfdfaaDoor
open Go.RowKit
set_option linter.unusedVariables false
def FewPost (es : List ByteArray) (w : World) (e : Ending) (w' : World) : Prop := (∃ b : Bool, e = .returned (.bool b) ∧ (b = true → es.length ≤ 8 ∧ ∀ x ∈ es, x.size ≤ 800)) ∧ w = w'
set_option maxHeartbeats 2000000 in
theorem few34_any (v : Value) (es : List ByteArray) (w : World) (hv : Ss w v es) (hz : Hid (∀ x ∈ es, x.size ≤ maxLen)) : Calls Tryd.prog 42 #[v] w (FewPost es w) := by
  obtain ⟨ae, ce, rfl, hce, hde⟩ := hv.val
  unfold maxLen at hde
  go_enter Tryd.func42, Tryd.ntmps42
  go_wp2_with fail
  go_loop [3] (fun ii => ∃ k : Nat, ii = .int .i64 k ∧ k ≤ es.length ∧ Hid (∀ x ∈ es.take k, x.size ≤ 800)) (fun ii => es.length - (intOf ii).toNat)
  case atStart => exact ⟨0, rfl, by omega, by show ∀ x ∈ _, _; simp⟩
  case round =>
    obtain ⟨k, rfl, hk, hI⟩ := hrel
    by_cases hlt : k < es.length
    · have q1 : decide ((k : Int) < (es.length : Int)) = true := decide_eq_true (by omega)
      have q2 : decide (k < es.length) = true := decide_eq_true hlt
      obtain ⟨bb, oo, dd, hee, _, _, hbb, hcell⟩ := Ss.at hv (by omega)
      cases hee
      have x0 := hcell k _ (List.getElem?_eq_getElem hlt)
      have htk : es.take (k + 1) = es.take k ++ [es[k]] := List.take_succ_eq_append_getElem hlt
      have hxm := hz.out es[k] (List.getElem_mem hlt)
      obtain ⟨x, hx⟩ : ∃ x, es[k] = x := ⟨_, rfl⟩
      rw [hx] at x0 htk hxm
      unfold maxLen at hxm
      replace htk := Lib.hid htk
      clear hcell hx hv
      by_cases h8 : x.size ≤ 800
      · have k1 : decide ((800 : Int) < (x.size : Int)) = false := decide_eq_false (by omega)
        have k2 : decide (800 < x.size) = false := decide_eq_false (by omega)
        have hI2 : Hid (∀ y ∈ es.take (k + 1), y.size ≤ 800) := by
          show ∀ y ∈ _, _
          intro y hy
          rw [htk.out] at hy
          rcases List.mem_append.1 hy with hy | hy
          · exact hI.out y hy
          · rw [List.mem_singleton.1 hy]; exact h8
        clear hI
        go_wp2_with fail
        go_round
        case rel => exact ⟨k + 1, by go_num, hlt, hI2⟩
        case measure => simp [intOf]; omega
      · have k1 : decide ((800 : Int) < (x.size : Int)) = true := decide_eq_true (by omega)
        have k2 : decide (800 < x.size) = true := decide_eq_true (by omega)
        clear hI
        go_wp2_with fail
        go_ret
        exact ⟨⟨false, rfl, fun h => by cases h⟩, rfl⟩
    · obtain rfl : k = es.length := by omega
      have q1 : decide ((es.length : Int) < (es.length : Int)) = false := by simp
      have q2 : decide (es.length < es.length) = false := by simp
      rw [List.take_length] at hI
      obtain ⟨bq, hbq⟩ : ∃ bq, decide ((es.length : Int) ≤ 8) = bq := ⟨_, rfl⟩
      have hb2 : Hid (bq = true → es.length ≤ 8) := by
        show _ → _
        intro h
        rw [h] at hbq
        have := of_decide_eq_true hbq
        omega
      go_wp2_with fail
      go_ret
      refine ⟨⟨bq, ?_, fun h => ⟨hb2.out h, hI.out⟩⟩, rfl⟩
      first | rfl | rw [← hbq]
theorem ss_one (w : World) (x : ByteArray) (e : TypeId) : Ss (w.alloc (.cells #[.string x] e)) (.slice (some ⟨w.heap.size, 0, none⟩) 1 1) [x] := by
  refine ⟨by simp, _, 1, rfl, Nat.le_refl _, by unfold maxLen; decide, fun hh => (by cases hh), .inr ⟨w.heap.size, 0, rfl, by simp, fun j u hu => ?_⟩⟩
  match j, hu with
  | 0, hu =>
    have : u = .string x := by simpa using hu.symm
    rw [this, Nat.zero_add]
    exact cell_new1 rfl
theorem itoa3 : Lib.itoa 3 = [51] := by
  unfold Lib.itoa
  rw [if_neg (by decide)]
  show Lib.decDigits 3 = _
  rw [Lib.decDigits, dif_pos (by decide)]; rfl
theorem ex34a : trimL [62, 32, 97, 10, 62, 32, 98, 10, 62, 32, 32, 99, 10, 121, 101, 115] [[120, 10, 97, 10, 98, 10, 99, 10]] = [91, 51, 32, 113, 117, 111, 116, 101, 100, 32, 108, 105, 110, 101, 115, 93, 10, 121, 101, 115, 10] := by
  have h : trimS ([[120, 10, 97, 10, 98, 10, 99, 10]].map keysL) 0 (wlines [62, 32, 97, 10, 62, 32, 98, 10, 62, 32, 32, 99, 10, 121, 101, 115]) = [markL 3, [121, 101, 115]] := by kernel_rfl
  unfold trimL
  rw [h, markL, show ((3 : Nat) : Int) = 3 from rfl, itoa3]; rfl
theorem ex34b : trimL [62, 32, 97, 10, 62, 32, 98, 10, 121, 101, 115, 10] [[120, 10, 97, 10, 98, 10, 99, 10]] = [62, 32, 97, 10, 62, 32, 98, 10, 121, 101, 115, 10] := by kernel_rfl
theorem ex34c : trimL [97, 10, 98, 10, 99, 10] [[120, 10, 97, 10, 98, 10, 99, 10]] = [97, 10, 98, 10, 99, 10] := by kernel_rfl
set_option maxRecDepth 100000 in
set_option maxHeartbeats 4000000 in
theorem small34_any (w : World) (hP : Pow w) : Calls Tryd.prog 41 #[] w fun e w' => e = .returned (.bool true) ∧ Below w.heap.size w w' := by
  have e1 := Lib.hid ex34a
  have e2 := Lib.hid ex34b
  have e3 := Lib.hid ex34c
  have hz : Hid (∀ x ∈ [(⟨#[120, 10, 97, 10, 98, 10, 99, 10]⟩ : ByteArray)], x.size ≤ 1000000) := by
    show ∀ x ∈ _, _
    intro x hx
    rw [List.mem_singleton.1 hx]; decide
  have hS0 := ss_one w ⟨#[120, 10, 97, 10, 98, 10, 99, 10]⟩ 9
  have hB0 : Below w.heap.size w (w.alloc (.cells #[.string ⟨#[120, 10, 97, 10, 98, 10, 99, 10]⟩] 9)) := (Below.refl _ _).alloc (Nat.le_refl _) _
  replace hP := Lib.hid hP
  go_enter Tryd.func41, Tryd.ntmps41
  go_wp2_with fail
  refine (QTrim_any _ _ [_] _ hS0 (by decide) (by decide) hz (hP.out.below hB0)).mono ?_
  rintro e W1 ⟨⟨t1, rfl, h1⟩, b1⟩
  rw [show bysL [(⟨#[120, 10, 97, 10, 98, 10, 99, 10]⟩ : ByteArray)] = [[120, 10, 97, 10, 98, 10, 99, 10]] from rfl] at h1
  have h1' := h1.trans e1.out
  obtain rfl := sb_of h1'
  have hS1 := Sl.below hS0 b1
  have hB1 := bnext hB0 b1
  clear h1 h1' b1 hS0
  go_wp2_with fail
  refine (QTrim_any _ _ [_] _ hS1 (by decide) (by decide) hz (hP.out.below hB1)).mono ?_
  rintro e W2 ⟨⟨t2, rfl, h2⟩, b2⟩
  have h2' := h2.trans e2.out
  obtain rfl := sb_of h2'
  have hS2 := Sl.below hS1 b2
  have hB2 := bnext hB1 b2
  clear h2 h2' b2 hS1
  go_wp2_with fail
  refine (QTrim_any _ _ [_] _ hS2 (by decide) (by decide) hz (hP.out.below hB2)).mono ?_
  rintro e W3 ⟨⟨t3, rfl, h3⟩, b3⟩
  have h3' := h3.trans e3.out
  obtain rfl := sb_of h3'
  have hB3 := bnext hB2 b3
  clear h3 h3' b3 hS2
  go_wp2_with fail
  go_ret
  exact ⟨rfl, hB3⟩
set_option maxRecDepth 100000 in
set_option maxHeartbeats 4000000 in
theorem tells34_walk (s : ByteArray) (v : Value) (es : List ByteArray) (w : World) (hs : s.size ≤ maxLen) (hv : Ss w v es) (hz0 : ∀ x ∈ es, x.size ≤ maxLen) (hP : Pow w) :
    Calls Tryd.prog 13 #[.string s, v] w fun e w' => e = .returned (.bool true) ∧ Below w.heap.size w w' := by
  have hz := Lib.hid hz0
  clear hz0
  obtain ⟨ae, ce, rfl, hce, hde⟩ := hv.val
  by_cases h1 : s.size ≤ 1500
  · have g1 : decide ((1500 : Int) < (s.size : Int)) = false := decide_eq_false (by omega)
    go_enter Tryd.func13, Tryd.ntmps13
    go_wp2_with fail
    refine (small34_any _ hP).mono ?_
    rintro e W1 ⟨rfl, b1⟩
    have hv1 := Sl.below hv b1
    go_wp2_with fail
    refine (few34_any _ es _ hv1 hz).mono ?_
    rintro e w' ⟨⟨b, rfl, hb⟩, rfl⟩
    cases b with
    | false =>
      clear hb
      go_wp2_with fail
      go_ret
      exact ⟨rfl, b1⟩
    | true =>
      obtain ⟨hn8, hz8⟩ := hb rfl
      have hzm : Hid (∀ x ∈ es, x.size ≤ 1000000) := fun x hx => Nat.le_trans (hz8 x hx) (by decide)
      replace hz8 := Lib.hid hz8
      clear hb
      replace hP := Lib.hid hP
      go_wp2_with fail
      refine (QTrim_any s _ es _ hv1 (by omega) (by omega) hzm (hP.out.below b1)).mono ?_
      rintro e W2 ⟨⟨t, rfl, ht⟩, b2⟩
      have hv2 := Sl.below hv1 b2
      have hB2 := bnext b1 b2
      replace ht := Lib.hid ht
      clear b1 b2 hv1
      go_wp2_with fail
      refine (RefTrim_any s _ es _ hv2 (by omega) (by omega) hzm).mono ?_
      rintro e W3 ⟨⟨t', rfl, ht'⟩, b3⟩
      obtain rfl : t' = t := str_inj (ht'.trans ht.out.symm)
      have hse := same_eq t'
      clear ht'
      go_wp2_with fail
      go_ret
      exact ⟨rfl, bnext hB2 b3⟩
  · have g1 : decide ((1500 : Int) < (s.size : Int)) = true := decide_eq_true (by omega)
    go_enter Tryd.func13, Tryd.ntmps13
    go_wp2_with fail
    refine (small34_any _ hP).mono ?_
    rintro e W1 ⟨rfl, b1⟩
    go_wp2_with fail
    go_ret
    exact ⟨rfl, b1⟩
end Go.Proofs.YtompmkcpicfdfaaDoor
