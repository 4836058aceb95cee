/- package codec: Quoted. -/
import Derived.Test.YtompmkcpicfdfaaDoorQuoA
namespace Go.Proofs.YtompmkcpicfdfaaDoor
open Go.RowKit
set_option linter.unusedVariables false
theorem Bld.not_str {B b : Nat} {l : List UInt8} {w : World} (h : Bld B b l w) {k : Nat} {x : ByteArray} (hx : w.cell? ⟨b, k, none⟩ = some (.string x)) : False := by
  obtain ⟨p, v, hp, hb, ho⟩ := h
  rw [Lib.cell_of_heap hb] at hx
  obtain ⟨ao, cap, rfl⟩ := slice_of_own ho
  match k, hx with
  | 0, hx => rcases hp with rfl | rfl <;> simp at hx
  | 1, hx => simp at hx
  | n + 2, hx => simp at hx
theorem Kp.cell {B b : Nat} {w w' : World} (h : Kp B b w w') {p : Addr} (h1 : p.block < B) (h2 : p.block ≠ b) : w'.cell? p = w.cell? p := World.cell?_of_block (h.block p.block h1 h2)
set_option maxRecDepth 100000 in
set_option maxHeartbeats 8000000 in
theorem Quoted_any (s : ByteArray) (w : World) (hs : 5 * s.size < 4294967281) : Calls Tryd.prog 22 #[.string s] w (SPost (qall 0 s.data.toList) w) := by
  obtain ⟨l, hl⟩ : ∃ l, s.data.toList = l := ⟨_, rfl⟩
  have hF := qrem_split l.length l (Nat.le_refl _)
  have hFl := (qall_len l 0).2
  have hn : l.length = s.size := by rw [← hl, str_size]
  rw [hl]
  rw [hn] at hFl
  obtain ⟨F, eF⟩ : ∃ F, qall 0 l = F := ⟨_, rfl⟩
  rw [eF] at hF hFl ⊢
  have hne := wsplit_ne 10 l
  obtain ⟨P, eP⟩ : ∃ P, wsplit 10 l = P := ⟨_, rfl⟩
  rw [eP] at hF hne
  replace hl := Lib.hid hl
  replace hn := Lib.hid hn
  replace eF := Lib.hid eF
  replace hF := Lib.hid hF
  go_enter Tryd.func22, Tryd.ntmps22
  go_wp2_with fail
  obtain ⟨W1, hW1⟩ : ∃ W1, w.alloc (Obj.cells #[Value.pointer none, Value.slice none 0 0] 48) = W1 := ⟨_, rfl⟩
  have hb1 : Below w.heap.size w W1 := by rw [← hW1]; exact (Below.refl _ _).alloc (Nat.le_refl _) _
  have hs1 : W1.heap.size = w.heap.size + 1 := by rw [← hW1]; simp
  have hf1 : W1.heap[w.heap.size]? = some (.cells #[.pointer none, .slice none 0 0] 48 (0, 0)) := by rw [← hW1]; exact World.alloc_heap_new _ _
  rw [hW1]
  clear hW1
  refine (Split_one s 10 W1 (by omega)).mono ?_
  rintro e W2 ⟨⟨v, ts, rfl, hv, hts⟩, b2⟩
  have hz2 := b2.size
  have hB0 : Bld W2.heap.size w.heap.size [] W2 := Bld.fresh (by rw [b2.block _ (by omega)]; exact hf1)
  have hb2 : Below w.heap.size w W2 := hb1.trans (b2.mono (by omega))
  rw [hl.out, eP] at hts
  obtain ⟨av, cv, rfl, hc1, hc2⟩ := hv.val
  have hm : ts.length ≤ 9223372036854775807 := by unfold maxLen at hc2; omega
  clear hb1 hf1 b2 hs1
  go_wp2_with fail
  go_loopw [14] (fun i wr => ∃ (k : Nat) (o : List UInt8), i = .int .i64 k ∧ k ≤ ts.length ∧ Bld W2.heap.size w.heap.size o wr ∧ Kp W2.heap.size w.heap.size W2 wr ∧ Hid (o ++ qrem P k = F)) (fun i _ => ts.length - (intOf i).toNat)
  case atStart => exact ⟨0, [], rfl, by omega, hB0, Kp.refl _ _ _, hF⟩
  case round =>
    obtain ⟨i, o, rfl, hi, hB, hK, hO⟩ := hrel
    have hzr := hK.size
    have hP : P.length = ts.length := by rw [← hts, List.length_map]
    by_cases hlt : i < ts.length
    · have q1 : decide ((i : Int) < (ts.length : Int)) = true := by simp; omega
      have q2 : decide (i < ts.length) = true := by simp; omega
      obtain ⟨bb, oo, dd, hee, _, _, hbb, hcell⟩ := hv.at (by omega)
      cases hee
      have x0 := hcell i _ (List.getElem?_eq_getElem hlt)
      have hpi : P[i]'(by omega) = ts[i].data.toList := by
        have : P[i]? = some ts[i].data.toList := by rw [← hts, List.getElem?_map, List.getElem?_eq_getElem hlt]; rfl
        rw [List.getElem?_eq_getElem (by omega)] at this
        exact Option.some.inj this
      obtain ⟨x, hx⟩ : ∃ x, ts[i] = x := ⟨_, rfl⟩
      rw [hx] at x0 hpi
      have hbne : bb ≠ w.heap.size := by rintro rfl; exact hB0.not_str x0
      have x1 : wr.cell? ⟨bb, oo + i, none⟩ = some (.string x) := (hK.cell hbb hbne).trans x0
      obtain ⟨X, hX⟩ : ∃ X, x.data.toList = X := ⟨_, rfl⟩
      obtain ⟨T, hT⟩ : ∃ T, qtail (P.drop (i + 1)) = T := ⟨_, rfl⟩
      have hst : (i = 0 ∧ qrem P i = qln 0 X ++ T) ∨ (i ≠ 0 ∧ qrem P i = 10 :: (qln 0 X ++ T)) := by
        by_cases h0 : i = 0
        · subst h0; exact .inl ⟨rfl, by rw [qrem_first P (by omega), hpi, hX]; rw [← hT]⟩
        · exact .inr ⟨h0, by rw [qrem_next P i (by omega) h0, hpi, hX, hT]⟩
      have hsucc : qrem P (i + 1) = T := by rw [qrem_succ, hT]
      have hXs : X.length = x.size := by rw [← hX, str_size]
      have hxb : x.size ≤ 4294967281 := by
        have h5 := wsplit_le 10 l P[i] (by rw [eP]; exact List.getElem_mem _)
        rw [hpi, str_size, hn.out] at h5
        omega
      clear hcell hx hpi x0 hv
      replace hts := Lib.hid hts
      replace hX := Lib.hid hX
      replace hT := Lib.hid hT
      replace hP := Lib.hid hP
      replace hXs := Lib.hid hXs
      replace hsucc := Lib.hid hsucc
      go_upto_if 20 with fail
      go_cut [] (fun wx => ∃ o2 : List UInt8, Bld W2.heap.size w.heap.size o2 wx ∧ Kp W2.heap.size w.heap.size W2 wx ∧ Hid (o2 ++ qln 0 X ++ T = F))
      case first =>
        rcases hst with ⟨h0, hst⟩ | ⟨h0, hst⟩
        · have z1 : decide ((0 : Int) < (i : Int)) = false := decide_eq_false (by omega)
          have z2 : decide (0 < i) = false := decide_eq_false (by omega)
          go_wp2_with fail
          go_meet
          case rel => exact ⟨o, hB, hK, by have := hO.out; rw [hst] at this; show _ = _; rw [List.append_assoc]; exact this⟩
        · have z1 : decide ((0 : Int) < (i : Int)) = true := decide_eq_true (by omega)
          have z2 : decide (0 < i) = true := decide_eq_true (by omega)
          have hol : o.length + 1 ≤ F.length := by have := congrArg List.length hO.out; rw [hst] at this; simp at this; omega
          go_wp2_with (go_at_call 46; refine (WriteByte_any 10 10 rfl hB (by omega) (by omega)).mono ?_; rintro e W3 ⟨rfl, hB3, k3⟩)
          go_meet
          case rel => exact ⟨_, hB3, hK.trans k3, by have := hO.out; rw [hst] at this; show _ = _; rw [← this]; simp⟩
      case rest =>
        obtain ⟨o2, hB2, hK2, hO2⟩ := hcut
        obtain ⟨W5, rfl⟩ : ∃ W5 : World, W5 = wc := ⟨_, rfl⟩
        clear hB hK hO hst hzr x1
        have hz5 := hK2.size
        go_wp2_with fail
        go_loopw [6, 24] (fun cc kk wr => ∃ (k col : Nat) (o : List UInt8), cc = .int .i64 col ∧ kk = .int .i64 k ∧ k ≤ x.size ∧ col ≤ 76 ∧ Bld W2.heap.size w.heap.size o wr ∧ Kp W2.heap.size w.heap.size W2 wr ∧ Hid (o ++ qln col (X.drop k) ++ T = F)) (fun _ kk _ => x.size - (intOf kk).toNat)
        case atStart => exact ⟨0, 0, o2, rfl, rfl, by omega, by omega, hB2, hK2, by rw [List.drop_zero]; exact hO2⟩
        case round =>
          obtain ⟨k, col, o, rfl, rfl, hk, hcol, hB, hK, hO⟩ := hrel
          have hzr := hK.size
          by_cases hkt : k < x.size
          · have q3 : decide ((k : Int) < (x.size : Int)) = true := by simp; omega
            have q4 : decide (k < x.size) = true := by simp; omega
            have hdr := str_drop x k hkt
            obtain ⟨c, hc⟩ : ∃ c, x[k] = c := ⟨_, rfl⟩
            have hxc := idx_at x k hkt c (by rw [str_getD x k hkt, hc])
            rw [hX.out, hc] at hdr
            have hstep := hO.out
            rw [hdr, qln] at hstep
            have hL : (X.drop (k + 1)).isEmpty = decide (k + 1 = x.size) := by
              rw [Bool.eq_iff_iff]; simp only [List.isEmpty_iff, List.drop_eq_nil_iff, decide_eq_true_eq]; have := hXs.out; omega
            rw [hL] at hstep
            obtain ⟨t1, ht1⟩ : ∃ t, x.extract k (k + 1) = t := ⟨_, rfl⟩
            have hd1 : t1.data.toList = [c] := by
              rw [← ht1, str_extract, str_take x k hkt, hc, List.drop_append_of_le_length (by rw [List.length_take, str_size]; omega), List.drop_eq_nil_of_le (by rw [List.length_take]; omega)]; rfl
            have hs1 : t1.size = 1 := by rw [← str_size, hd1]; rfl
            have i1 : (0 : Int) ≤ (k : Int) := by omega
            have i2 : (k : Int) ≤ (k : Int) + 1 := by omega
            have i3 : (k : Int) + 1 ≤ (x.size : Int) := by omega
            have i4 : ((k : Int) + 1).toNat = k + 1 := by omega
            obtain ⟨R, hR⟩ : ∃ R, X.drop (k + 1) = R := ⟨_, rfl⟩
            rw [hR] at hstep
            have hzw : W2.heap.size ≤ wr.heap.size := hzr
            clear hO hdr hc hL
            replace hd1 := Lib.hid hd1
            replace hR := Lib.hid hR
            replace hB := Lib.hid hB
            replace hK := Lib.hid hK
            rcases (show (k + 1 = x.size ∨ k + 1 ≠ x.size) by omega) with hlast | hlast
            · have e1 : decide (k + 1 = x.size) = true := decide_eq_true hlast
              have e2 : ((k : Int) + 1 == (x.size : Int)) = true := by simp; omega
              rw [e1, show most true = 76 from rfl] at hstep
              replace hlast := Lib.hid hlast
              cases hp : plainB c true
              · have hq : qform c true = qf 61 c := by unfold qform; rw [hp]; rfl
                rw [hq, show (qf 61 c : List UInt8).length = 3 from rfl] at hstep
                by_cases ho : 76 < col + 3
                · rw [if_pos ho] at hstep
                  have o1 : decide ((76 : Int) < (col : Int) + 3) = true := decide_eq_true (by omega)
                  have hol : o.length + 5 ≤ F.length := by have := congrArg List.length hstep; simp [qf] at this; omega
                  replace hstep := Lib.hid hstep
                  go_wp2_with (first | (go_at_call 54; refine (plain_any c true _).mono ?_; rw [hp]; rintro e w' ⟨rfl, rfl⟩) | fail)
                  refine (quoted_any 61 c _).mono ?_
                  rintro e W6 ⟨⟨t, rfl, ht⟩, b6⟩
                  have hz6 := b6.size
                  have hB6 := hB.out.bel b6
                  have hK6 := hK.out.trans (Kp.of_below (b6.mono hzw))
                  have hts3 : t.size = 3 := by rw [← str_size, ht]; rfl
                  replace ht := Lib.hid ht
                  replace hB6 := Lib.hid hB6
                  clear b6
                  go_wp2_with fail
                  refine (WriteString_any ⟨#[61, 10]⟩ hB6.out (by show _ + 2 ≤ _; omega) (by omega)).mono ?_
                  rintro e W7 ⟨rfl, hB7, k7⟩
                  have hz7 := k7.size
                  replace hB7 := Lib.hid hB7
                  have hK7 := hK6.trans k7
                  clear k7
                  go_wp2_with fail
                  refine (WriteString_any t hB7.out (by rw [List.length_append]; show _ + 2 + _ ≤ _; omega) (by omega)).mono ?_
                  rintro e W8 ⟨rfl, hB8, k8⟩
                  rw [ht.out] at hB8
                  have hK8 := hK7.trans k8
                  go_wp2_with fail
                  refine ⟨⟨k + 1, 3, _, by go_num, by go_num, hkt, by omega, hB8, hK8, ?_⟩, by simp only [intOf]; go_num⟩
                  show _ = _
                  rw [hR.out, ← hstep.out]
                  simp [List.append_assoc]
                · rw [if_neg ho] at hstep
                  have o1 : decide ((76 : Int) < (col : Int) + 3) = false := decide_eq_false (by omega)
                  have hol : o.length + 3 ≤ F.length := by have := congrArg List.length hstep; simp [qf] at this; omega
                  replace hstep := Lib.hid hstep
                  go_wp2_with (first | (go_at_call 54; refine (plain_any c true _).mono ?_; rw [hp]; rintro e w' ⟨rfl, rfl⟩) | fail)
                  refine (quoted_any 61 c _).mono ?_
                  rintro e W6 ⟨⟨t, rfl, ht⟩, b6⟩
                  have hz6 := b6.size
                  have hB6 := hB.out.bel b6
                  have hK6 := hK.out.trans (Kp.of_below (b6.mono hzw))
                  have hts3 : t.size = 3 := by rw [← str_size, ht]; rfl
                  replace ht := Lib.hid ht
                  replace hB6 := Lib.hid hB6
                  clear b6
                  go_wp2_with fail
                  refine (WriteString_any t hB6.out (by omega) (by omega)).mono ?_
                  rintro e W8 ⟨rfl, hB8, k8⟩
                  rw [ht.out] at hB8
                  have hK8 := hK6.trans k8
                  go_wp2_with fail
                  refine ⟨⟨k + 1, col + 3, _, by go_num, by go_num, hkt, by omega, hB8, hK8, ?_⟩, by simp only [intOf]; go_num⟩
                  show _ = _
                  rw [hR.out, ← hstep.out]
                  simp [List.append_assoc]
              · have hq : qform c true = [c] := by unfold qform; rw [hp]; rfl
                rw [hq, show ([c] : List UInt8).length = 1 from rfl] at hstep
                by_cases ho : 76 < col + 1
                · rw [if_pos ho] at hstep
                  have o1 : decide ((76 : Int) < (col : Int) + 1) = true := decide_eq_true (by omega)
                  have hol : o.length + 3 ≤ F.length := by have := congrArg List.length hstep; simp at this; omega
                  replace hstep := Lib.hid hstep
                  go_wp2_with (first | (go_at_call 54; refine (plain_any c true _).mono ?_; rw [hp]; rintro e w' ⟨rfl, rfl⟩) | fail)
                  refine (WriteString_any ⟨#[61, 10]⟩ hB.out (by show _ + 2 ≤ _; omega) (by omega)).mono ?_
                  rintro e W7 ⟨rfl, hB7, k7⟩
                  have hz7 := k7.size
                  replace hB7 := Lib.hid hB7
                  have hK7 := hK.out.trans k7
                  clear k7
                  go_wp2_with fail
                  refine (WriteString_any t1 hB7.out (by rw [List.length_append]; show _ + 2 + _ ≤ _; omega) (by omega)).mono ?_
                  rintro e W8 ⟨rfl, hB8, k8⟩
                  rw [hd1.out] at hB8
                  have hK8 := hK7.trans k8
                  go_wp2_with fail
                  refine ⟨⟨k + 1, 1, _, by go_num, by go_num, hkt, by omega, hB8, hK8, ?_⟩, by simp only [intOf]; go_num⟩
                  show _ = _
                  rw [hR.out, ← hstep.out]
                  simp [List.append_assoc]
                · rw [if_neg ho] at hstep
                  have o1 : decide ((76 : Int) < (col : Int) + 1) = false := decide_eq_false (by omega)
                  have hol : o.length + 1 ≤ F.length := by have := congrArg List.length hstep; simp at this; omega
                  replace hstep := Lib.hid hstep
                  go_wp2_with (first | (go_at_call 54; refine (plain_any c true _).mono ?_; rw [hp]; rintro e w' ⟨rfl, rfl⟩) | fail)
                  refine (WriteString_any t1 hB.out (by omega) (by omega)).mono ?_
                  rintro e W8 ⟨rfl, hB8, k8⟩
                  rw [hd1.out] at hB8
                  have hK8 := hK.out.trans k8
                  go_wp2_with fail
                  refine ⟨⟨k + 1, col + 1, _, by go_num, by go_num, hkt, by omega, hB8, hK8, ?_⟩, by simp only [intOf]; go_num⟩
                  show _ = _
                  rw [hR.out, ← hstep.out]
                  simp [List.append_assoc]
            · have e1 : decide (k + 1 = x.size) = false := decide_eq_false hlast
              have e2 : ((k : Int) + 1 == (x.size : Int)) = false := by simp; omega
              rw [e1, show most false = 75 from rfl] at hstep
              replace hlast := Lib.hid hlast
              cases hp : plainB c false
              · have hq : qform c false = qf 61 c := by unfold qform; rw [hp]; rfl
                rw [hq, show (qf 61 c : List UInt8).length = 3 from rfl] at hstep
                by_cases ho : 75 < col + 3
                · rw [if_pos ho] at hstep
                  have o1 : decide ((75 : Int) < (col : Int) + 3) = true := decide_eq_true (by omega)
                  have hol : o.length + 5 ≤ F.length := by have := congrArg List.length hstep; simp [qf] at this; omega
                  replace hstep := Lib.hid hstep
                  go_wp2_with (first | (go_at_call 54; refine (plain_any c false _).mono ?_; rw [hp]; rintro e w' ⟨rfl, rfl⟩) | fail)
                  refine (quoted_any 61 c _).mono ?_
                  rintro e W6 ⟨⟨t, rfl, ht⟩, b6⟩
                  have hz6 := b6.size
                  have hB6 := hB.out.bel b6
                  have hK6 := hK.out.trans (Kp.of_below (b6.mono hzw))
                  have hts3 : t.size = 3 := by rw [← str_size, ht]; rfl
                  replace ht := Lib.hid ht
                  replace hB6 := Lib.hid hB6
                  clear b6
                  go_wp2_with fail
                  refine (WriteString_any ⟨#[61, 10]⟩ hB6.out (by show _ + 2 ≤ _; omega) (by omega)).mono ?_
                  rintro e W7 ⟨rfl, hB7, k7⟩
                  have hz7 := k7.size
                  replace hB7 := Lib.hid hB7
                  have hK7 := hK6.trans k7
                  clear k7
                  go_wp2_with fail
                  refine (WriteString_any t hB7.out (by rw [List.length_append]; show _ + 2 + _ ≤ _; omega) (by omega)).mono ?_
                  rintro e W8 ⟨rfl, hB8, k8⟩
                  rw [ht.out] at hB8
                  have hK8 := hK7.trans k8
                  go_wp2_with fail
                  refine ⟨⟨k + 1, 3, _, by go_num, by go_num, hkt, by omega, hB8, hK8, ?_⟩, by simp only [intOf]; go_num⟩
                  show _ = _
                  rw [hR.out, ← hstep.out]
                  simp [List.append_assoc]
                · rw [if_neg ho] at hstep
                  have o1 : decide ((75 : Int) < (col : Int) + 3) = false := decide_eq_false (by omega)
                  have hol : o.length + 3 ≤ F.length := by have := congrArg List.length hstep; simp [qf] at this; omega
                  replace hstep := Lib.hid hstep
                  go_wp2_with (first | (go_at_call 54; refine (plain_any c false _).mono ?_; rw [hp]; rintro e w' ⟨rfl, rfl⟩) | fail)
                  refine (quoted_any 61 c _).mono ?_
                  rintro e W6 ⟨⟨t, rfl, ht⟩, b6⟩
                  have hz6 := b6.size
                  have hB6 := hB.out.bel b6
                  have hK6 := hK.out.trans (Kp.of_below (b6.mono hzw))
                  have hts3 : t.size = 3 := by rw [← str_size, ht]; rfl
                  replace ht := Lib.hid ht
                  replace hB6 := Lib.hid hB6
                  clear b6
                  go_wp2_with fail
                  refine (WriteString_any t hB6.out (by omega) (by omega)).mono ?_
                  rintro e W8 ⟨rfl, hB8, k8⟩
                  rw [ht.out] at hB8
                  have hK8 := hK6.trans k8
                  go_wp2_with fail
                  refine ⟨⟨k + 1, col + 3, _, by go_num, by go_num, hkt, by omega, hB8, hK8, ?_⟩, by simp only [intOf]; go_num⟩
                  show _ = _
                  rw [hR.out, ← hstep.out]
                  simp [List.append_assoc]
              · have hq : qform c false = [c] := by unfold qform; rw [hp]; rfl
                rw [hq, show ([c] : List UInt8).length = 1 from rfl] at hstep
                by_cases ho : 75 < col + 1
                · rw [if_pos ho] at hstep
                  have o1 : decide ((75 : Int) < (col : Int) + 1) = true := decide_eq_true (by omega)
                  have hol : o.length + 3 ≤ F.length := by have := congrArg List.length hstep; simp at this; omega
                  replace hstep := Lib.hid hstep
                  go_wp2_with (first | (go_at_call 54; refine (plain_any c false _).mono ?_; rw [hp]; rintro e w' ⟨rfl, rfl⟩) | fail)
                  refine (WriteString_any ⟨#[61, 10]⟩ hB.out (by show _ + 2 ≤ _; omega) (by omega)).mono ?_
                  rintro e W7 ⟨rfl, hB7, k7⟩
                  have hz7 := k7.size
                  replace hB7 := Lib.hid hB7
                  have hK7 := hK.out.trans k7
                  clear k7
                  go_wp2_with fail
                  refine (WriteString_any t1 hB7.out (by rw [List.length_append]; show _ + 2 + _ ≤ _; omega) (by omega)).mono ?_
                  rintro e W8 ⟨rfl, hB8, k8⟩
                  rw [hd1.out] at hB8
                  have hK8 := hK7.trans k8
                  go_wp2_with fail
                  refine ⟨⟨k + 1, 1, _, by go_num, by go_num, hkt, by omega, hB8, hK8, ?_⟩, by simp only [intOf]; go_num⟩
                  show _ = _
                  rw [hR.out, ← hstep.out]
                  simp [List.append_assoc]
                · rw [if_neg ho] at hstep
                  have o1 : decide ((75 : Int) < (col : Int) + 1) = false := decide_eq_false (by omega)
                  have hol : o.length + 1 ≤ F.length := by have := congrArg List.length hstep; simp at this; omega
                  replace hstep := Lib.hid hstep
                  go_wp2_with (first | (go_at_call 54; refine (plain_any c false _).mono ?_; rw [hp]; rintro e w' ⟨rfl, rfl⟩) | fail)
                  refine (WriteString_any t1 hB.out (by omega) (by omega)).mono ?_
                  rintro e W8 ⟨rfl, hB8, k8⟩
                  rw [hd1.out] at hB8
                  have hK8 := hK.out.trans k8
                  go_wp2_with fail
                  refine ⟨⟨k + 1, col + 1, _, by go_num, by go_num, hkt, by omega, hB8, hK8, ?_⟩, by simp only [intOf]; go_num⟩
                  show _ = _
                  rw [hR.out, ← hstep.out]
                  simp [List.append_assoc]
          · obtain rfl : k = x.size := by omega
            have q3 : decide ((x.size : Int) < (x.size : Int)) = false := by simp
            have q4 : decide (x.size < x.size) = false := by simp
            have hO3 : Hid (o ++ qrem P (i + 1) = F) := by
              have h5 := hO.out
              rw [List.drop_eq_nil_of_le (by rw [hXs.out]; exact Nat.le_refl _)] at h5
              show _ = _
              rw [hsucc.out, ← h5]; simp [qln]
            go_wp2_with fail
            refine ⟨⟨i + 1, o, by go_num, hlt, hB, hK, hO3⟩, by simp only [intOf]; go_num⟩
    · obtain rfl : i = ts.length := by omega
      have q1 : decide ((ts.length : Int) < (ts.length : Int)) = false := by simp
      have q2 : decide (ts.length < ts.length) = false := by simp
      have hfin : o = F := by
        have h5 := hO.out
        have h0 : ts.length ≠ 0 := by rw [← hP]; intro h; exact hne (List.eq_nil_of_length_eq_zero h)
        unfold qrem at h5
        rw [if_neg h0, List.drop_eq_nil_of_le (by omega)] at h5
        rw [← h5]; simp [qtail]
      rw [hfin] at hB
      replace hP := Lib.hid hP
      replace hfin := Lib.hid hfin
      have hzz := hb2.size
      clear hO
      go_wp2_with (go_at_call 47; refine (String_any hB w.heap.size (by omega) (Nat.le_refl _)).mono ?_; rintro e W3 ⟨⟨t, rfl, ht⟩, b3⟩)
      go_ret
      exact ⟨⟨t, rfl, ht⟩, (hb2.trans (hK.below (by omega) (Nat.le_refl _))).trans b3⟩
end Go.Proofs.YtompmkcpicfdfaaDoor
