/- missiveref34: Key, Quoted, keys, same. -/
import Derived.Test.YtompmkcpicfdfaaDoorQuoteR
namespace Go.Proofs.YtompmkcpicfdfaaDoor
open Go.RowKit
set_option linter.unusedVariables false
theorem RefKey_any (s : ByteArray) (w : World) (hs : s.size < 4294967281) : Calls Tryd.prog 99 #[.string s] w (SPost (keyL s.data.toList) w) := by
  have hle := lev_le s.data.toList
  rw [str_size] at hle
  go_enter Tryd.func99, Tryd.ntmps99
  go_wp2_with fail
  refine (RefLevel_any s _ (by unfold maxLen; omega)).mono ?_
  rintro e w' ⟨⟨t, rfl, ht⟩, rfl⟩
  have hts : t.size < 4294967281 := by rw [← str_size, ht]; omega
  have hk : Hid (Lib.join (wfields t.data.toList) [32] = keyL s.data.toList) := by show _ = _; rw [ht]; rfl
  clear ht hle
  go_wp2_with fail
  refine (RefSqueeze_any t _ hts).mono ?_
  rintro e W1 ⟨⟨q, rfl, hq⟩, b1⟩
  rw [hk.out] at hq
  replace hq := Lib.hid hq
  go_wp2_with fail
  go_ret
  exact ⟨⟨q, rfl, hq.out⟩, b1⟩
theorem RefQuoted_any (s : ByteArray) (w : World) (hs : s.size < 4294967281) : Calls Tryd.prog 45 #[.string s] w fun e w' => e = .returned (.bool (qtd s.data.toList)) ∧ w = w' := by
  have hnl := lev_n_le s.data.toList
  rw [str_size] at hnl
  obtain ⟨n, hn⟩ : ∃ n, (lev s.data.toList).1 = n := ⟨_, rfl⟩
  have hq : Hid (qtd s.data.toList = decide (0 < n)) := by show _ = _; rw [← hn]; rfl
  rw [hn] at hnl
  have hn2 : Hid ((lev s.data.toList).1 = n) := hn
  clear hn
  by_cases h0 : 0 < n
  · have k1 : decide ((0 : Int) < (n : Int)) = true := decide_eq_true (by omega)
    have k2 : decide (0 < n) = true := decide_eq_true h0
    go_enter Tryd.func45, Tryd.ntmps45
    go_wp2_with fail
    refine (RefLevel_any s _ (by unfold maxLen; omega)).mono ?_
    rintro e w' ⟨⟨t, he, ht⟩, rfl⟩
    rw [hn2.out] at he
    subst he
    clear ht
    go_wp2_with fail
    go_ret
    exact ⟨by rw [hq.out, k2]; rfl, rfl⟩
  · have k1 : decide ((0 : Int) < (n : Int)) = false := decide_eq_false (by omega)
    have k2 : decide (0 < n) = false := decide_eq_false h0
    go_enter Tryd.func45, Tryd.ntmps45
    go_wp2_with fail
    refine (RefLevel_any s _ (by unfold maxLen; omega)).mono ?_
    rintro e w' ⟨⟨t, he, ht⟩, rfl⟩
    rw [hn2.out] at he
    subst he
    clear ht
    go_wp2_with fail
    go_ret
    exact ⟨by rw [hq.out, k2]; rfl, rfl⟩
set_option maxHeartbeats 2000000 in
theorem RefKeys_any (v : Value) (ts : List ByteArray) (w : World) (hv : Ss w v ts) (hm : ts.length ≤ 4294967281) (hsz : Hid (∀ x ∈ ts, x.size < 4294967281)) : Calls Tryd.prog 71 #[v] w (OPost ((bysL ts).map keyL) w) := by
  obtain ⟨i0, hif, hz0, hz1, hz2⟩ := info_parts infoStr
  obtain ⟨a1, c1, rfl, hc1, hd1⟩ := hv.val
  go_enter Tryd.func71, Tryd.ntmps71
  go_wp2_with fail
  go_loopw [3, 4] (fun v ii wr => ∃ (k : Nat) (pre : List ByteArray), ii = .int .i64 k ∧ k ≤ ts.length ∧ wr.ownsRow w.heap.size 9 1 v pre.length (pre.map .string) ∧ Hid (bysL pre = ((bysL ts).take k).map keyL) ∧ pre.length ≤ k ∧ Below w.heap.size w wr) (fun _ ii _ => ts.length - (intOf ii).toNat)
  case atStart => exact ⟨0, [], rfl, by omega, World.ownsRow_nil _ _ _ _, rfl, by simp, Below.refl _ _⟩
  case round =>
    obtain ⟨k, pre, rfl, hk, hr, hP, hpl, hB⟩ := hrel
    have hzB := hB.size
    by_cases hlt : k < ts.length
    · have q1 : decide ((k : Int) < (ts.length : Int)) = true := decide_eq_true (by omega)
      have q2 : decide (k < ts.length) = true := decide_eq_true hlt
      obtain ⟨bb, oo, dd, hee, _, _, hbb, hcell⟩ := Ss.at hv (by omega)
      cases hee
      have x0 := hcell k _ (List.getElem?_eq_getElem hlt)
      have hx4 := hsz.out ts[k] (List.getElem_mem hlt)
      have hbt := bysL_take hlt
      obtain ⟨x, hx⟩ : ∃ x, ts[k] = x := ⟨_, rfl⟩
      rw [hx] at x0 hx4 hbt
      have x1 : wr.cell? ⟨bb, oo + k, none⟩ = some (.string x) := (hB.cell (p := ⟨bb, oo + k, none⟩) hbb).trans x0
      have hkl := keyL_le x.data.toList
      rw [str_size] at hkl
      replace hbt := Lib.hid hbt
      clear hcell hx hv
      go_wp2_with fail
      refine (RefKey_any x _ (by omega)).mono ?_
      rintro e W2 ⟨⟨q, rfl, hq⟩, b2⟩
      have hr2 := own_bel hr b2
      have hB2 := hB.trans (b2.mono hzB)
      have hz2' := hB2.size
      have hP2 : Hid (bysL (pre ++ [q]) = ((bysL ts).take (k + 1)).map keyL) := by
        show _ = _
        have h5 := hbt.out
        rw [bysL_snoc, hP.out, hq]
        rw [show bysL (ts.take (k + 1)) = (bysL ts).take (k + 1) by simp [bysL, List.map_take], show bysL (ts.take k) = (bysL ts).take k by simp [bysL, List.map_take]] at h5
        rw [h5, List.map_append]; rfl
      clear hr hB b2 hP hq
      go_wp2_with (at_builtin; refine wpList_append_own _ rfl _ _ 32 rfl w.heap.size 9 i0 (.string ByteArray.empty) 1 16 Tryd.underlying32 hif hz0 hz1 hz2 rfl (by decide) _ _ _ rfl (hr2.alloc _) ⟨W2.heap.size, 0, none⟩ 1 1 [.string q] rfl rfl (cell_one_new _ _ _) (by simp [Value.oneCell']) (by unfold maxLen; omega) (by omega) (by simp; omega) ?_; intro v' w1 hown' hgrow _)
      have hB3 : Below w.heap.size w w1 := (hB2.alloc (by omega) _).trans (below_grown (hr2.alloc _) (by simp; omega) hgrow)
      go_roundw
      case rel => exact ⟨k + 1, pre ++ [q], by go_num, hlt, by simpa using hown', hP2, by rw [List.length_append]; simp only [List.length_cons, List.length_nil]; omega, hB3⟩
      case measure => simp only [intOf]; go_num
    · obtain rfl : k = ts.length := by omega
      have q1 : decide ((ts.length : Int) < (ts.length : Int)) = false := by simp
      have q2 : decide (ts.length < ts.length) = false := by simp
      have hE2 : Hid (bysL pre = (bysL ts).map keyL) := by
        show _ = _
        rw [hP.out, List.take_of_length_le (by rw [bysL_len]; exact Nat.le_refl _)]
      replace hr := Lib.hid hr
      clear hP
      go_wp2_with fail
      go_ret
      exact ⟨⟨_, pre, rfl, by simpa using hr.out, hE2.out⟩, hB⟩
set_option maxHeartbeats 4000000 in
theorem same34_any (v u : Value) (ts us : List ByteArray) (i j : Nat) (w : World) (hv : Ss w v ts) (hu : Ss w u us) (hm : ts.length ≤ 140737488355328) (hm2 : us.length ≤ 140737488355328) (hi : i ≤ 140737488355328) (hj : j ≤ 140737488355328) :
    Calls Tryd.prog 100 #[v, .int .i64 i, u, .int .i64 j] w fun e w' => e = .returned (.int .i64 (agr ((bysL ts).drop i) ((bysL us).drop j) : Nat)) ∧ Below w.heap.size w w' := by
  obtain ⟨a1, c1, rfl, hc1, hd1⟩ := hv.val
  obtain ⟨a2, c2, rfl, hc2, hd2⟩ := hu.val
  obtain ⟨A, hA⟩ : ∃ A, bysL ts = A := ⟨_, rfl⟩
  obtain ⟨B, hBB⟩ : ∃ B, bysL us = B := ⟨_, rfl⟩
  have hAl : A.length = ts.length := by rw [← hA, bysL_len]
  have hBl : B.length = us.length := by rw [← hBB, bysL_len]
  obtain ⟨R, hR⟩ : ∃ R, agr (A.drop i) (B.drop j) = R := ⟨_, rfl⟩
  rw [hA, hBB, hR]
  replace hA := Lib.hid hA
  replace hBB := Lib.hid hBB
  replace hAl := Lib.hid hAl
  replace hBl := Lib.hid hBl
  replace hR := Lib.hid hR
  go_enter Tryd.func100, Tryd.ntmps100
  go_wp2_with fail
  go_loopw [9] (fun q wr => Below w.heap.size w wr ∧ ∃ k : Nat, q = .int .i64 k ∧ (k = 0 ∨ i + k ≤ ts.length) ∧ Hid (R = k + agr (A.drop (i + k)) (B.drop (j + k)))) (fun q _ => ts.length - (intOf q).toNat)
  case atStart => exact ⟨Below.refl _ _, 0, rfl, .inl rfl, by show _ = _; rw [← hR.out]; simp⟩
  case round =>
    obtain ⟨hBr, k, rfl, hk, hI⟩ := hrel
    have hkb : k ≤ 140737488355328 := by omega
    clear hk
    by_cases hlt : i + k < ts.length ∧ j + k < us.length
    · obtain ⟨hlt, hlt2⟩ := hlt
      have q1 : decide ((i : Int) + (k : Int) < (ts.length : Int)) = true := decide_eq_true (by omega)
      have q2 : decide ((j : Int) + (k : Int) < (us.length : Int)) = true := decide_eq_true (by omega)
      obtain ⟨b1, o1, d1, he1, _, _, hb1, hcell1⟩ := (hv.below hBr).at (by omega)
      obtain ⟨b2, o2, d2, he2, _, _, hb2, hcell2⟩ := (hu.below hBr).at (by omega)
      cases he1
      cases he2
      have x1 := hcell1 (i + k) _ (ss_get hlt)
      have x2 := hcell2 (j + k) _ (ss_get hlt2)
      have hst := agr_drop2 (A := A) (B := B) (n := i + k) (m := j + k) (by rw [hAl.out]; exact hlt) (by rw [hBl.out]; exact hlt2)
      have hAk : A[i + k]'(by rw [hAl.out]; exact hlt) = ts[i + k].data.toList := by simp [← hA.out, bysL]
      have hBk : B[j + k]'(by rw [hBl.out]; exact hlt2) = us[j + k].data.toList := by simp [← hBB.out, bysL]
      rw [hAk, hBk] at hst
      clear hcell1 hcell2 hv hu hAk hBk
      obtain ⟨x, hx⟩ : ∃ x, ts[i + k] = x := ⟨_, rfl⟩
      obtain ⟨y, hy⟩ : ∃ y, us[j + k] = y := ⟨_, rfl⟩
      rw [hx] at x1 hst
      rw [hy] at x2 hst
      clear hx hy
      by_cases hxy : x = y
      · have r1 : (x.toList == y.toList) = true := by rw [hxy]; simp
        have hI2 : Hid (R = (k + 1) + agr (A.drop (i + (k + 1))) (B.drop (j + (k + 1)))) := by
          show _ = _
          rw [hI.out, hst, if_pos (by rw [hxy]), ← Nat.add_assoc i k 1, ← Nat.add_assoc j k 1]; omega
        clear hst hI
        replace hxy := Lib.hid hxy
        go_wp2_with fail
        go_quiet (fail)
        have hB2 := bdrewN (n := nq) hBr
        go_wp2_with fail
        go_roundw
        case rel => exact ⟨hB2, k + 1, by go_num, .inr (by omega), hI2⟩
        case measure => simp only [intOf]; go_num
      · have r1 : (x.toList == y.toList) = false := by
          rw [Lib.toList_data, Lib.toList_data]
          simp only [beq_eq_false_iff_ne]
          exact fun h => hxy (str_inj h)
        have hres : Hid (R = k) := by
          show _ = _
          rw [hI.out, hst, if_neg (fun h => hxy (str_inj h))]; rfl
        clear hst hI
        replace hxy := Lib.hid hxy
        go_wp2_with fail
        go_quiet (fail)
        have hB2 := bdrewN (n := nq) hBr
        go_wp2_with fail
        go_ret
        exact ⟨by rw [hres.out]; rfl, hB2⟩
    · have hres : Hid (R = k) := by
        show _ = _
        rw [hI.out, agr_end2 (by rw [hAl.out, hBl.out]; omega)]; rfl
      have hways : (decide ((i : Int) + (k : Int) < (ts.length : Int)) = false) ∨ (decide ((i : Int) + (k : Int) < (ts.length : Int)) = true ∧ decide ((j : Int) + (k : Int) < (us.length : Int)) = false) := by
        by_cases h : i + k < ts.length
        · exact .inr ⟨decide_eq_true (by omega), decide_eq_false (by omega)⟩
        · exact .inl (decide_eq_false (by omega))
      clear hI hlt
      rcases hways with q1 | ⟨q1, q2⟩
      all_goals
        go_wp2_with fail
        go_quiet (fail)
        have hB2 := bdrewN (n := nq) hBr
        go_wp2_with fail
        go_ret
        exact ⟨by rw [hres.out]; rfl, hB2⟩
end Go.Proofs.YtompmkcpicfdfaaDoor
