/- package codec: Base64. -/
import Derived.Test.YtompmkcpicfdfaaDoorB64A
import Derived.Test.YtompmkcpicfdfaaDoorUnperc
import Derived.Lib.SlBuf
namespace Go.Proofs.YtompmkcpicfdfaaDoor
open Go.RowKit
set_option linter.unusedVariables false
def digS : ByteArray := ⟨#[65, 66, 67, 68, 69, 70, 71, 72, 73, 74, 75, 76, 77, 78, 79, 80, 81, 82, 83, 84, 85, 86, 87, 88, 89, 90, 97, 98, 99, 100, 101, 102, 103, 104, 105, 106, 107, 108, 109, 110, 111, 112, 113, 114, 115, 116, 117, 118, 119, 120, 121, 122, 48, 49, 50, 51, 52, 53, 54, 55, 56, 57, 43, 47]⟩
theorem digS_at (n : Nat) (h : n < 64) (v : Int) (hv : v = n) (W : World) : (Instr.index 9 (.string digS) (.int .i64 v)).run Tryd.prog W = .ok (.int .u8 (D64 n).toNat) W :=
  idx_k .i64 digS n h (D64 n) rfl v hv W
set_option maxRecDepth 100000 in
set_option maxHeartbeats 8000000 in
theorem Base64_any (s : ByteArray) (w : World) (hs : s.size ≤ 4294967281) : Calls Tryd.prog 17 #[.string s] w (SPost (enc64 0 s.data.toList) w) := by
  obtain ⟨l, hl⟩ : ∃ l, s.data.toList = l := ⟨_, rfl⟩
  have hn : l.length = s.size := by rw [← hl, str_size]
  have hFl := enc64_len l 0
  rw [hl]
  rw [hn] at hFl
  obtain ⟨F, eF⟩ : ∃ F, enc64 0 l = F := ⟨_, rfl⟩
  rw [eF] at hFl ⊢
  replace hl := Lib.hid hl
  replace hn := Lib.hid hn
  replace eF := Lib.hid eF
  go_enter Tryd.func17, Tryd.ntmps17
  go_wp2_with fail
  obtain ⟨W1, hW1⟩ : ∃ W1, w.alloc (Obj.cells #[Value.pointer none, Value.slice none 0 0] 48) = W1 := ⟨_, rfl⟩
  have hb1 : Below w.heap.size w W1 := by rw [← hW1]; exact (Below.refl _ _).alloc (Nat.le_refl _) _
  have hs1 : W1.heap.size = w.heap.size + 1 := by rw [← hW1]; simp
  have hf1 : Bld (w.heap.size + 1) w.heap.size [] W1 := by rw [← hW1]; exact Bld.fresh (World.alloc_heap_new _ _)
  rw [hW1]
  clear hW1
  go_loopw [0, 4] (fun u cc wr => ∃ (t : ByteArray) (col : Nat) (o : List UInt8), u = .string t ∧ cc = .int .i64 col ∧ col < 76 ∧ col % 4 = 0 ∧ t.size ≤ s.size ∧ Bld (w.heap.size + 1) w.heap.size o wr ∧ Kp (w.heap.size + 1) w.heap.size W1 wr ∧ Hid (o ++ enc64 col t.data.toList = F)) (fun u _ _ => strLen u)
  case atStart => exact ⟨s, 0, [], rfl, rfl, by omega, by omega, by omega, hf1, Kp.refl _ _ _, by show _ = _; rw [hl.out, eF.out]; rfl⟩
  case round =>
    obtain ⟨t, col, o, rfl, rfl, hcol, hcm, hts, hB, hK, hO⟩ := hrel
    have hzs := hK.size
    have hzw : w.heap.size + 1 ≤ wr.heap.size := by omega
    by_cases h0 : t.size = 0
    · have hnil : t.data.toList = [] := List.eq_nil_of_length_eq_zero (by rw [str_size]; exact h0)
      have hemp : t.toList.isEmpty = true := by rw [Lib.toList_data, hnil]; rfl
      have hO2 := hO.out
      rw [hnil, enc64] at hO2
      clear hnil h0
      by_cases hc0 : 0 < col
      · rw [if_pos hc0] at hO2
        have c1 : decide ((0 : Int) < (col : Int)) = true := decide_eq_true (by omega)
        have c2 : decide (0 < col) = true := decide_eq_true hc0
        have hol : o.length + 1 ≤ F.length := by have := congrArg List.length hO2; simp at this; omega
        replace hO2 := Lib.hid hO2
        go_wp2_with (go_at_call 46; refine (WriteByte_any 10 10 rfl hB (by omega) hzw).mono ?_; rintro e W3 ⟨rfl, hB3, k3⟩)
        refine (String_any hB3 w.heap.size (by omega) (Nat.le_refl _)).mono ?_
        rintro e W4 ⟨⟨q, rfl, hq⟩, b4⟩
        go_wp2_with fail
        go_ret
        exact ⟨⟨q, rfl, by rw [hq]; exact hO2.out⟩, (hb1.trans ((hK.trans k3).below (by omega) (Nat.le_refl _))).trans b4⟩
      · rw [if_neg hc0, List.append_nil] at hO2
        have c1 : decide ((0 : Int) < (col : Int)) = false := decide_eq_false (by omega)
        have c2 : decide (0 < col) = false := decide_eq_false hc0
        replace hO2 := Lib.hid hO2
        go_wp2_with (go_at_call 47; refine (String_any hB w.heap.size (by omega) (Nat.le_refl _)).mono ?_; rintro e W4 ⟨⟨q, rfl, hq⟩, b4⟩)
        go_ret
        exact ⟨⟨q, rfl, by rw [hq]; exact hO2.out⟩, (hb1.trans (hK.below (by omega) (Nat.le_refl _))).trans b4⟩
    · have hne := isEmpty_of h0
      have hnn : t.data.toList ≠ [] := fun h => h0 (by rw [← str_size, h]; rfl)
      have hstep := hO.out
      rw [enc64_step _ hnn] at hstep
      obtain ⟨x, hx⟩ : ∃ x, t.data.toList.take 3 = x := ⟨_, rfl⟩
      have hxl : x.length = min t.size 3 := by rw [← hx, List.length_take, str_size]; omega
      have hxn : x ≠ [] := fun h => by rw [h] at hxl; simp at hxl; omega
      have hgx : ∀ j, j < 3 → t.data.toList.getD j 0 = x.getD j 0 := fun j hj => by
        rw [← hx, List.getD_eq_getElem?_getD, List.getD_eq_getElem?_getD, List.getElem?_take_of_lt hj]
      have hgrp := grp_at x hxn (by omega)
      have hg4 := grp_len x hxn
      obtain ⟨a, ea⟩ : ∃ a, x.getD 0 0 = a := ⟨_, rfl⟩
      obtain ⟨b, eb⟩ : ∃ b, x.getD 1 0 = b := ⟨_, rfl⟩
      obtain ⟨c, ec⟩ : ∃ c, x.getD 2 0 = c := ⟨_, rfl⟩
      have hcp := fun W hW => run_copy_group (P := Tryd.prog) W 24 9 3 5 49 wr.heap.size t Tryd.underlying24 (by kernel_rfl) hW
      rw [hgx 0 (by decide), hgx 1 (by decide), hgx 2 (by decide), ea, eb, ec] at hcp
      rw [ea, eb, ec] at hgrp
      have hN := bits3_or a b c
      have hNl := bits3_lt a b c
      obtain ⟨N, eN⟩ : ∃ N, bits3 a b c = N := ⟨_, rfl⟩
      rw [eN] at hgrp hN hNl
      rw [hx] at hstep
      have ha := u8lt a
      have hb := u8lt b
      have hc := u8lt c
      obtain ⟨G, eG⟩ : ∃ G, grp x = G := ⟨_, rfl⟩
      rw [eG] at hgrp hg4 hstep
      obtain ⟨n, en⟩ : ∃ n, min t.size 3 = n := ⟨_, rfl⟩
      rw [en] at hxl hcp
      rw [hxl] at hgrp
      clear hgx ea eb ec eG hx hxn hnn
      replace hgrp := Lib.hid hgrp
      replace hxl := Lib.hid hxl
      obtain ⟨W2, hW2⟩ : ∃ W2, (wr.alloc (.cells #[.int .u8 0, .int .u8 0, .int .u8 0] 49)).setRow wr.heap.size #[.int .u8 a.toNat, .int .u8 b.toNat, .int .u8 c.toNat] = W2 := ⟨_, rfl⟩
      have hcp1 := hcp _ (heap_alloc_new wr _)
      rw [hW2] at hcp1
      have hh2 : W2.heap[wr.heap.size]? = some (.cells #[.int .u8 a.toNat, .int .u8 b.toNat, .int .u8 c.toNat] 49 (0, 0)) := by
        rw [← hW2]; exact setRow_heap _ _ _ _ _ _ (heap_alloc_new wr _)
      have c0 : W2.cell? ⟨wr.heap.size, 0, none⟩ = some (.int .u8 a.toNat) := by rw [Lib.cell_of_heap hh2]; rfl
      have c1 : W2.cell? ⟨wr.heap.size, 1, none⟩ = some (.int .u8 b.toNat) := by rw [Lib.cell_of_heap hh2]; rfl
      have c2 : W2.cell? ⟨wr.heap.size, 2, none⟩ = some (.int .u8 c.toNat) := by rw [Lib.cell_of_heap hh2]; rfl
      have hb2 : Below wr.heap.size wr W2 := by
        rw [← hW2]
        refine ⟨rfl, rfl, rfl, by simp, fun k hk => ?_⟩
        rw [setRow_other _ _ _ _ (by omega)]
        exact Below.heap_alloc wr _ k hk
      have hz2 : wr.heap.size < W2.heap.size := (Array.getElem?_eq_some_iff.1 hh2).1
      have hB2 := hB.bel hb2
      have hK2 := hK.trans (Kp.of_below (hb2.mono hzw))
      clear hcp hW2 hh2 hb2 hB hK
      replace hcp1 := Lib.hid hcp1
      go_wp2_with ((with_reducible show wpList _ _ _ (⟨some 18, _, _, _, _, _⟩ :: _) _ _); refine Lib.wpList_copy_run _ (o := ⟨some 18, _, _, _, _, _⟩) rfl (.tmp 16) (.tmp 17) 24 9 rfl _ _ rfl rfl hcp1.out ?_)
      obtain ⟨W3, rfl⟩ : ∃ W3 : World, W3 = W2 := ⟨_, rfl⟩
      have hn3 : n ≤ 3 := by omega
      have hol : o.length + 4 ≤ F.length := by have := congrArg List.length hstep; simp [hg4] at this; omega
      clear c0 c1 c2 hcp1 hN hO
      replace hstep := Lib.hid hstep
      go_loopw [32] (fun kk wr => ∃ k : Nat, kk = .int .i64 k ∧ k ≤ 4 ∧ Bld (w.heap.size + 1) w.heap.size (o ++ G.take k) wr ∧ Kp (w.heap.size + 1) w.heap.size W1 wr) (fun kk _ => 4 - (intOf kk).toNat)
      case atStart => exact ⟨0, rfl, by omega, by simpa using hB2, hK2⟩
      case round =>
        obtain ⟨k, rfl, hk, hB, hK⟩ := hrel
        have hzs := hK.size
        have hzw : w.heap.size + 1 ≤ wr.heap.size := by omega
        have hol2 : (o ++ G.take k).length + 1 ≤ 140737488355328 := by rw [List.length_append, List.length_take]; omega
        by_cases hk4 : k < 4
        · have hgk := hgrp.out k hk4
          have htk : G.take (k + 1) = G.take k ++ [if n < k then 61 else D64 (N / 2 ^ (18 - 6 * k) % 64)] := by
            obtain ⟨hh, hgk2⟩ := List.getElem?_eq_some_iff.1 hgk
            rw [List.take_succ_eq_append_getElem hh, hgk2]
          clear hgk
          by_cases hnk : n < k
          · rw [if_pos hnk] at htk
            have g1 : decide ((n : Int) < (k : Int)) = true := decide_eq_true (by omega)
            have g2 : decide (n < k) = true := decide_eq_true hnk
            replace htk := Lib.hid htk
            go_wp2_with (go_at_call 46; refine (WriteByte_any 61 61 rfl hB hol2 hzw).mono ?_; rintro e W4 ⟨rfl, hB4, k4⟩)
            go_roundw
            case rel => exact ⟨k + 1, by go_num, by omega, by rw [htk.out, ← List.append_assoc]; exact hB4, hK.trans k4⟩
            case measure => simp only [intOf]; go_num
          · rw [if_neg hnk] at htk
            have g1 : decide ((n : Int) < (k : Int)) = false := decide_eq_false (by omega)
            have g2 : decide (n < k) = false := decide_eq_false hnk
            obtain ⟨D, hD⟩ : ∃ D, D64 (N / 2 ^ (18 - 6 * k) % 64) = D := ⟨_, rfl⟩
            rw [hD] at htk
            replace htk := Lib.hid htk
            have hcases : k = 0 ∨ k = 1 ∨ k = 2 ∨ k = 3 := by omega
            rcases hcases with rfl | rfl | rfl | rfl
            · have hix : ∀ W, (Instr.index 9 (.string ⟨#[65, 66, 67, 68, 69, 70, 71, 72, 73, 74, 75, 76, 77, 78, 79, 80, 81, 82, 83, 84, 85, 86, 87, 88, 89, 90, 97, 98, 99, 100, 101, 102, 103, 104, 105, 106, 107, 108, 109, 110, 111, 112, 113, 114, 115, 116, 117, 118, 119, 120, 121, 122, 48, 49, 50, 51, 52, 53, 54, 55, 56, 57, 43, 47]⟩) (.int .i64 (bits BinOp.and IntKind.i64 ((N : Int) / 262144) 63))).run Tryd.prog W = .ok (.int .u8 D.toNat) W := fun W => by
                rw [← hD]
                refine digS_at _ (by omega) _ ?_ W
                have h5 := and63 (N / 2 ^ (18 - 6 * 0)) (by omega)
                rw [← h5]
                congr 1 <;> omega
              replace hD := Lib.hid hD
              go_wp2_with (go_at_call 46; refine (WriteByte_any D _ rfl hB hol2 hzw).mono ?_; rintro e W4 ⟨rfl, hB4, k4⟩)
              go_roundw
              case rel => exact ⟨0 + 1, by go_num, by omega, by rw [htk.out, ← List.append_assoc]; exact hB4, hK.trans k4⟩
              case measure => simp only [intOf]; go_num
            · have hix : ∀ W, (Instr.index 9 (.string ⟨#[65, 66, 67, 68, 69, 70, 71, 72, 73, 74, 75, 76, 77, 78, 79, 80, 81, 82, 83, 84, 85, 86, 87, 88, 89, 90, 97, 98, 99, 100, 101, 102, 103, 104, 105, 106, 107, 108, 109, 110, 111, 112, 113, 114, 115, 116, 117, 118, 119, 120, 121, 122, 48, 49, 50, 51, 52, 53, 54, 55, 56, 57, 43, 47]⟩) (.int .i64 (bits BinOp.and IntKind.i64 ((N : Int) / 4096) 63))).run Tryd.prog W = .ok (.int .u8 D.toNat) W := fun W => by
                rw [← hD]
                refine digS_at _ (by omega) _ ?_ W
                have h5 := and63 (N / 2 ^ (18 - 6 * 1)) (by omega)
                rw [← h5]
                congr 1 <;> omega
              replace hD := Lib.hid hD
              go_wp2_with (go_at_call 46; refine (WriteByte_any D _ rfl hB hol2 hzw).mono ?_; rintro e W4 ⟨rfl, hB4, k4⟩)
              go_roundw
              case rel => exact ⟨1 + 1, by go_num, by omega, by rw [htk.out, ← List.append_assoc]; exact hB4, hK.trans k4⟩
              case measure => simp only [intOf]; go_num
            · have hix : ∀ W, (Instr.index 9 (.string ⟨#[65, 66, 67, 68, 69, 70, 71, 72, 73, 74, 75, 76, 77, 78, 79, 80, 81, 82, 83, 84, 85, 86, 87, 88, 89, 90, 97, 98, 99, 100, 101, 102, 103, 104, 105, 106, 107, 108, 109, 110, 111, 112, 113, 114, 115, 116, 117, 118, 119, 120, 121, 122, 48, 49, 50, 51, 52, 53, 54, 55, 56, 57, 43, 47]⟩) (.int .i64 (bits BinOp.and IntKind.i64 ((N : Int) / 64) 63))).run Tryd.prog W = .ok (.int .u8 D.toNat) W := fun W => by
                rw [← hD]
                refine digS_at _ (by omega) _ ?_ W
                have h5 := and63 (N / 2 ^ (18 - 6 * 2)) (by omega)
                rw [← h5]
                congr 1 <;> omega
              replace hD := Lib.hid hD
              go_wp2_with (go_at_call 46; refine (WriteByte_any D _ rfl hB hol2 hzw).mono ?_; rintro e W4 ⟨rfl, hB4, k4⟩)
              go_roundw
              case rel => exact ⟨2 + 1, by go_num, by omega, by rw [htk.out, ← List.append_assoc]; exact hB4, hK.trans k4⟩
              case measure => simp only [intOf]; go_num
            · have hix : ∀ W, (Instr.index 9 (.string ⟨#[65, 66, 67, 68, 69, 70, 71, 72, 73, 74, 75, 76, 77, 78, 79, 80, 81, 82, 83, 84, 85, 86, 87, 88, 89, 90, 97, 98, 99, 100, 101, 102, 103, 104, 105, 106, 107, 108, 109, 110, 111, 112, 113, 114, 115, 116, 117, 118, 119, 120, 121, 122, 48, 49, 50, 51, 52, 53, 54, 55, 56, 57, 43, 47]⟩) (.int .i64 (bits BinOp.and IntKind.i64 (N : Int) 63))).run Tryd.prog W = .ok (.int .u8 D.toNat) W := fun W => by
                rw [← hD]
                refine digS_at _ (by omega) _ ?_ W
                have h5 := and63 (N / 2 ^ (18 - 6 * 3)) (by omega)
                rw [← h5]
                congr 1 <;> omega
              replace hD := Lib.hid hD
              go_wp2_with (go_at_call 46; refine (WriteByte_any D _ rfl hB hol2 hzw).mono ?_; rintro e W4 ⟨rfl, hB4, k4⟩)
              go_roundw
              case rel => exact ⟨3 + 1, by go_num, by omega, by rw [htk.out, ← List.append_assoc]; exact hB4, hK.trans k4⟩
              case measure => simp only [intOf]; go_num
        · obtain rfl : k = 4 := by omega
          rw [List.take_of_length_le (by omega)] at hB
          obtain ⟨W5, rfl⟩ : ∃ W5 : World, W5 = wr := ⟨_, rfl⟩
          have hmn : (min (3 : Int) (t.size : Int)).toNat = min 3 t.size := by omega
          obtain ⟨t3, ht3⟩ : ∃ t3, t.extract (min (3 : Int) (t.size : Int)).toNat t.size = t3 := ⟨_, rfl⟩
          have hd3 : t3.data.toList = t.data.toList.drop 3 := by
            rw [← ht3, ext_drop, hmn]
            rcases Nat.le_total 3 t.size with h | h
            · rw [Nat.min_eq_left h]
            · rw [Nat.min_eq_right h, List.drop_eq_nil_of_le (by rw [str_size]; exact Nat.le_refl _), List.drop_eq_nil_of_le (by rw [str_size]; exact h)]
          have hs3 : t3.size < t.size := by rw [← ht3, ext_size, hmn]; omega
          rw [hmn] at ht3
          replace hd3 := Lib.hid hd3
          have hst := hstep.out
          rw [← hd3.out] at hst
          by_cases h76 : col + 4 = 76
          · rw [if_pos h76] at hst
            have k1 : ((col : Int) + 4 == 76) = true := by simp; omega
            have hol3 : (o ++ G).length + 1 ≤ 140737488355328 := by rw [List.length_append]; have := congrArg List.length hst; simp at this; omega
            replace hst := Lib.hid hst
            go_wp2_with (go_at_call 46; refine (WriteByte_any 10 10 rfl hB hol3 hzw).mono ?_; rintro e W6 ⟨rfl, hB6, k6⟩)
            try rw [ht3]
            refine ⟨⟨t3, 0, _, rfl, rfl, by omega, by omega, by omega, hB6, hK.trans k6, ?_⟩, hs3⟩
            show _ = _
            rw [← hst.out]; simp
          · rw [if_neg h76] at hst
            have k1 : ((col : Int) + 4 == 76) = false := by simp; omega
            replace hst := Lib.hid hst
            go_wp2_with fail
            try rw [ht3]
            refine ⟨⟨t3, col + 4, _, rfl, by go_num, by omega, by omega, by omega, hB, hK, ?_⟩, hs3⟩
            show _ = _
            rw [← hst.out]; simp
end Go.Proofs.YtompmkcpicfdfaaDoor
