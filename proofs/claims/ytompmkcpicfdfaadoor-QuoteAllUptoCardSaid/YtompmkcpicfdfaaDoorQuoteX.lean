/- missiveref34: Quotation. -/
import Derived.Test.YtompmkcpicfdfaaDoorQuoteT
import Derived.Test.YtompmkcpicfdfaaDoorQuoteS
namespace Go.Proofs.YtompmkcpicfdfaaDoor
open Go.RowKit
set_option linter.unusedVariables false
theorem findIn_drop {q T : List KK} {k : Nat} (h : k < T.length) : findIn q (T.drop k) = if 3 ≤ agr q (T.drop k) then some (T.drop k) else findIn q (T.drop (k + 1)) := by
  rw [List.drop_eq_getElem_cons h, findIn]
theorem firstP_drop {q : List KK} {TX : List (List KK)} {t : Nat} (h : t < TX.length) : firstP q (TX.drop t) = (findIn q (TX[t].drop 0)).or (firstP q (TX.drop (t + 1))) := by
  unfold firstP
  rw [List.drop_eq_getElem_cons h, List.findSome?_cons, List.drop_zero]
  cases findIn q TX[t] <;> rfl
set_option maxRecDepth 100000 in
set_option maxHeartbeats 8000000 in
theorem Quotation_any (lv kv tv : Value) (ls ks : List ByteArray) (tss : List (List ByteArray)) (i : Nat) (w : World) (hl : Ss w lv ls) (hk : Ss w kv ks) (ht : Tx w tv tss)
    (hks : Hid (bysL ks = (bysL ls).map keyL)) (hi : i < ls.length) (hln : ls.length ≤ 1000000) (hlz : Hid (∀ x ∈ ls, x.size ≤ 1000000)) (htn : tss.length ≤ 1000000) (htz : Hid (∀ ts ∈ tss, ts.length ≤ 4294967281)) :
    Calls Tryd.prog 72 #[lv, kv, tv, .int .i64 i] w fun e w' => e = .returned (.int .i64 (quotN (byss tss) ((bysL ls).drop i) : Nat)) ∧ Below w.heap.size w w' := by
  obtain ⟨la, lc, rfl, hlc, hld⟩ := hl.val
  obtain ⟨ka, kc, rfl, hkc, hkd⟩ := hk.val
  obtain ⟨ta, tc, rfl, htc, htd⟩ := ht.val
  obtain ⟨L, hL⟩ : ∃ L, bysL ls = L := ⟨_, rfl⟩
  have hLl : L.length = ls.length := by rw [← hL, bysL_len]
  obtain ⟨TX, hTX⟩ : ∃ TX, byss tss = TX := ⟨_, rfl⟩
  have hTl : TX.length = tss.length := by rw [← hTX]; simp [byss]
  have hkn : ks.length = ls.length := by
    have := congrArg List.length hks.out
    rw [bysL_len, List.length_map, bysL_len] at this; exact this
  have hknb : ks.length ≤ 1000000 := by omega
  obtain ⟨Q, hQ⟩ : ∃ Q, quotN TX (L.drop i) = Q := ⟨_, rfl⟩
  rw [hTX, hL, hQ]
  rw [hL] at hks
  replace hL := Lib.hid hL
  replace hLl := Lib.hid hLl
  replace hTX := Lib.hid hTX
  replace hTl := Lib.hid hTl
  replace hkn := Lib.hid hkn
  replace hQ := Lib.hid hQ
  go_enter Tryd.func72, Tryd.ntmps72
  go_wp2_with fail
  go_loop [9] (fun nn => ∃ k : Nat, nn = .int .i64 k ∧ i + k ≤ ls.length ∧ Hid (runQ (L.drop i) = k + runQ (L.drop (i + k)))) (fun nn => ls.length - (intOf nn).toNat)
  case atStart => exact ⟨0, rfl, by omega, by show _ = _; simp⟩
  case round =>
    obtain ⟨k, rfl, hik, hI⟩ := hrel
    have hex : (i + k < ls.length ∧ ∃ h : i + k < ls.length, qtd ls[i + k].data.toList = true) ∨ ((i + k < ls.length ∧ ∃ h : i + k < ls.length, qtd ls[i + k].data.toList = false) ∨ i + k = ls.length) := by
      by_cases h : i + k < ls.length
      · cases hq : qtd ls[i + k].data.toList
        · exact .inr (.inl ⟨h, h, hq⟩)
        · exact .inl ⟨h, h, hq⟩
      · exact .inr (.inr (by omega))
    rcases hex with ⟨hlt, _, hq⟩ | hex
    · have q1 : decide ((i : Int) + (k : Int) < (ls.length : Int)) = true := decide_eq_true (by omega)
      have hI2 : Hid (runQ (L.drop i) = (k + 1) + runQ (L.drop (i + (k + 1)))) := by
        show _ = _
        have hh : i + k < L.length := by rw [hLl.out]; exact hlt
        rw [hI.out, runQ_drop hh, show L[i + k] = ls[i + k].data.toList by simp [← hL.out, bysL], hq, ← Nat.add_assoc i k 1]
        simp only [if_true]; omega
      obtain ⟨bb, oo, dd, hee, _, _, hbb, hcell⟩ := Ss.at hl (by omega)
      cases hee
      have x0 := hcell (i + k) _ (List.getElem?_eq_getElem hlt)
      have hx4 := hlz.out ls[i + k] (List.getElem_mem hlt)
      obtain ⟨x, hx⟩ : ∃ x, ls[i + k] = x := ⟨_, rfl⟩
      rw [hx] at x0 hx4 hq
      replace hq := Lib.hid hq
      clear hcell hx hl hI
      go_wp2_with (go_at_call 45; refine (RefQuoted_any x _ (by omega)).mono ?_; rw [hq.out]; rintro e w' ⟨rfl, rfl⟩)
      go_round
      case rel => exact ⟨k + 1, by go_num, by omega, hI2⟩
      case measure => simp [intOf]; omega
    · have hR : Hid (runQ (L.drop i) = k) := by
        show _ = _
        rw [hI.out]
        rcases hex with ⟨hlt, _, hq⟩ | h
        · have hh : i + k < L.length := by rw [hLl.out]; exact hlt
          rw [runQ_drop hh, show L[i + k] = ls[i + k].data.toList by simp [← hL.out, bysL], hq]; simp
        · rw [List.drop_eq_nil_of_le (by rw [hLl.out]; omega)]; rfl
      have hway : (∃ (bb oo : Nat) (x : ByteArray), la = some ⟨bb, oo, none⟩ ∧ w.cell? ⟨bb, oo + (i + k), none⟩ = some (.string x) ∧ x.size ≤ 1000000 ∧ qtd x.data.toList = false ∧ i + k < ls.length ∧ decide ((i : Int) + (k : Int) < (ls.length : Int)) = true) ∨ decide ((i : Int) + (k : Int) < (ls.length : Int)) = false := by
        rcases hex with ⟨hlt, _, hq⟩ | h
        · left
          obtain ⟨bb, oo, dd, hee, _, _, hbb, hcell⟩ := Ss.at hl (by omega)
          injection hee with hee
          exact ⟨bb, oo, _, hee, hcell (i + k) _ (List.getElem?_eq_getElem hlt), hlz.out _ (List.getElem_mem hlt), hq, hlt, decide_eq_true (by omega)⟩
        · right; exact decide_eq_false (by omega)
      clear hI hex
      have hik2 : k ≤ 1000000 := by omega
      by_cases h3 : k < 3
      · have k1 : decide ((k : Int) < 3) = true := decide_eq_true (by omega)
        have k2 : decide (k < 3) = true := decide_eq_true h3
        have hQ0 : Hid (Q = 0) := by show _ = _; rw [← hQ.out]; unfold quotN; rw [if_pos (by rw [hR.out]; omega)]
        rcases hway with ⟨bb, oo, x, rfl, x0, hxs, hq, hlt, q1⟩ | q1
        · replace hq := Lib.hid hq
          go_wp2_with (go_at_call 45; refine (RefQuoted_any x _ (by omega)).mono ?_; rw [hq.out]; rintro e w' ⟨rfl, rfl⟩)
          go_ret
          exact ⟨by rw [hQ0.out]; rfl, Below.refl _ _⟩
        · go_wp2_with fail
          go_ret
          exact ⟨by rw [hQ0.out]; rfl, Below.refl _ _⟩
      · have k1 : decide ((k : Int) < 3) = false := decide_eq_false (by omega)
        have k2 : decide (k < 3) = false := decide_eq_false h3
        obtain ⟨K, hK⟩ : ∃ K, (L.drop i).map keyL = K := ⟨_, rfl⟩
        have hQe : Hid (Q = match firstP K TX with | some x => min k (agr K x) | none => 0) := by
          show _ = _
          rw [← hQ.out]; unfold quotN; rw [if_neg (by rw [hR.out]; omega), hK, hR.out]; cases firstP K TX <;> rfl
        have hKd : Hid ((bysL ks).drop i = K) := by show _ = _; rw [hks.out, ← List.map_drop, hK]
        replace hK := Lib.hid hK
        rcases hway with ⟨bb, oo, x, rfl, x0, hxs, hq, hlt, q1⟩ | q1
        · replace hq := Lib.hid hq
          go_wp2_with (go_at_call 45; refine (RefQuoted_any x _ (by omega)).mono ?_; rw [hq.out]; rintro e w' ⟨rfl, rfl⟩)
          go_loopw [10] (fun uu wr => ∃ t : Nat, uu = .int .i64 t ∧ t ≤ tss.length ∧ Hid (firstP K TX = firstP K (TX.drop t)) ∧ Below w.heap.size w wr) (fun uu _ => tss.length - (intOf uu).toNat)
          case atStart => exact ⟨0, rfl, by omega, rfl, Below.refl _ _⟩
          case round =>
            obtain ⟨t, rfl, htl, hF, hB⟩ := hrel
            by_cases hlt2 : t < tss.length
            · have q3 : decide ((t : Int) < (tss.length : Int)) = true := decide_eq_true (by omega)
              have q4 : decide (t < tss.length) = true := decide_eq_true hlt2
              have hTt : t < TX.length := by rw [hTl.out]; exact hlt2
              obtain ⟨T, hT⟩ : ∃ T, TX[t] = T := ⟨_, rfl⟩
              have hF2 : Hid (firstP K TX = (findIn K (T.drop 0)).or (firstP K (TX.drop (t + 1)))) := by show _ = _; rw [hF.out, firstP_drop hTt, hT]
              obtain ⟨ts, hts⟩ : ∃ ts, tss[t] = ts := ⟨_, rfl⟩
              have hTe : Hid (bysL ts = T) := by show _ = _; rw [← hT, ← hts]; simp [← hTX.out, byss]
              have htsz := htz.out ts (by rw [← hts]; exact List.getElem_mem _)
              have hTln : Hid (T.length = ts.length) := by show _ = _; rw [← hTe.out, bysL_len]
              replace hT := Lib.hid hT
              replace hts := Lib.hid hts
              clear hF
              go_wp2_with fail
              obtain ⟨W1, rfl⟩ : ∃ W1 : World, W1 = wr := ⟨_, rfl⟩
              go_loopw [11] (fun vv wr => ∃ j : Nat, vv = .int .i64 j ∧ j ≤ ts.length ∧ Hid (firstP K TX = (findIn K (T.drop j)).or (firstP K (TX.drop (t + 1)))) ∧ Below w.heap.size w wr) (fun vv _ => ts.length - (intOf vv).toNat)
              case atStart => exact ⟨0, rfl, by omega, hF2, hB⟩
              case round =>
                obtain ⟨j, rfl, hj, hG, hB⟩ := hrel
                clear hF2
                have hzB := hB.size
                obtain ⟨bt, ot, ct, u, hee, hbt, tc, hu⟩ := (ht.below hB).at t hlt2
                injection hee with hee1 hee2 hee3
                subst hee1 hee3
                rw [hts.out] at hu
                obtain ⟨ua, uc, rfl, huc, hud⟩ := hu.val
                have hks' := Sl.below hk hB
                by_cases hjl : j < ts.length
                · have q5 : decide ((j : Int) < (ts.length : Int)) = true := decide_eq_true (by omega)
                  have q6 : decide (j < ts.length) = true := decide_eq_true hjl
                  obtain ⟨m, hm⟩ : ∃ m, agr K (T.drop j) = m := ⟨_, rfl⟩
                  have hml : m ≤ 4294967281 := by
                    have h1 := agr_le_right K (T.drop j)
                    rw [List.length_drop, hTln.out, hm] at h1; omega
                  have hfd := findIn_drop (q := K) (T := T) (k := j) (by rw [hTln.out]; exact hjl)
                  rw [hm] at hfd
                  have C : ∀ w0, Ss w0 (.slice ka ks.length kc) ks → Ss w0 (.slice ua ts.length uc) ts → Calls Tryd.prog 100 #[.slice ka ks.length kc, .int .i64 i, .slice ua ts.length uc, .int .i64 j] w0 fun e w' => e = .returned (.int .i64 (m : Nat)) ∧ Below w0.heap.size w0 w' := by
                    intro w0 c1 c2
                    have := same34_any _ _ ks ts i j w0 c1 c2 (by omega) (by omega) (by omega) (by omega)
                    rw [hKd.out, hTe.out, hm] at this
                    exact this
                  replace C := Lib.hid C
                  replace hm := Lib.hid hm
                  by_cases h3m : 3 ≤ m
                  · have p1 : decide ((3 : Int) ≤ (m : Int)) = true := decide_eq_true (by omega)
                    have p2 : decide (3 ≤ m) = true := decide_eq_true h3m
                    have hQm : Hid (Q = min k m) := by
                      show _ = _
                      rw [hQe.out, hG.out, hfd, if_pos h3m]
                      show min k (agr K (T.drop j)) = _
                      rw [hm.out]
                    have hmin : min (k : Int) (m : Int) = ((min k m : Nat) : Int) := by omega
                    replace hfd := Lib.hid hfd
                    go_wp2_with (go_at_call 100; refine (C.out _ hks' hu).mono ?_; rintro e W2 ⟨rfl, b2⟩)
                    go_ret
                    exact ⟨by rw [hQm.out]; first | rfl | rw [hmin], hB.trans (b2.mono hzB)⟩
                  · have p1 : decide ((3 : Int) ≤ (m : Int)) = false := decide_eq_false (by omega)
                    have p2 : decide (3 ≤ m) = false := decide_eq_false h3m
                    have hG2 : Hid (firstP K TX = (findIn K (T.drop (j + 1))).or (firstP K (TX.drop (t + 1)))) := by show _ = _; rw [hG.out, hfd, if_neg h3m]
                    clear hG hfd
                    go_wp2_with (go_at_call 100; refine (C.out _ hks' hu).mono ?_; rintro e W2 ⟨rfl, b2⟩)
                    go_roundw
                    case rel => exact ⟨j + 1, by go_num, hjl, hG2, hB.trans (b2.mono hzB)⟩
                    case measure => simp only [intOf]; go_num
                · obtain rfl : j = ts.length := by omega
                  have q5 : decide ((ts.length : Int) < (ts.length : Int)) = false := by simp
                  have q6 : decide (ts.length < ts.length) = false := by simp
                  have hF3 : Hid (firstP K TX = firstP K (TX.drop (t + 1))) := by
                    show _ = _
                    rw [hG.out, List.drop_eq_nil_of_le (by rw [hTln.out]; exact Nat.le_refl _)]; rfl
                  clear hG
                  go_wp2_with fail
                  refine ⟨⟨t + 1, by go_num, hlt2, hF3, hB⟩, ?_⟩
                  simp only [intOf]; omega
            · obtain rfl : t = tss.length := by omega
              have q3 : decide ((tss.length : Int) < (tss.length : Int)) = false := by simp
              have q4 : decide (tss.length < tss.length) = false := by simp
              have hQ0 : Hid (Q = 0) := by
                show _ = _
                rw [hQe.out, hF.out, List.drop_eq_nil_of_le (by rw [hTl.out]; exact Nat.le_refl _)]; rfl
              clear hF
              go_wp2_with fail
              go_ret
              exact ⟨by rw [hQ0.out]; rfl, hB⟩
        · go_wp2_with fail
          go_loopw [10] (fun uu wr => ∃ t : Nat, uu = .int .i64 t ∧ t ≤ tss.length ∧ Hid (firstP K TX = firstP K (TX.drop t)) ∧ Below w.heap.size w wr) (fun uu _ => tss.length - (intOf uu).toNat)
          case atStart => exact ⟨0, rfl, by omega, rfl, Below.refl _ _⟩
          case round =>
            obtain ⟨t, rfl, htl, hF, hB⟩ := hrel
            by_cases hlt2 : t < tss.length
            · have q3 : decide ((t : Int) < (tss.length : Int)) = true := decide_eq_true (by omega)
              have q4 : decide (t < tss.length) = true := decide_eq_true hlt2
              have hTt : t < TX.length := by rw [hTl.out]; exact hlt2
              obtain ⟨T, hT⟩ : ∃ T, TX[t] = T := ⟨_, rfl⟩
              have hF2 : Hid (firstP K TX = (findIn K (T.drop 0)).or (firstP K (TX.drop (t + 1)))) := by show _ = _; rw [hF.out, firstP_drop hTt, hT]
              obtain ⟨ts, hts⟩ : ∃ ts, tss[t] = ts := ⟨_, rfl⟩
              have hTe : Hid (bysL ts = T) := by show _ = _; rw [← hT, ← hts]; simp [← hTX.out, byss]
              have htsz := htz.out ts (by rw [← hts]; exact List.getElem_mem _)
              have hTln : Hid (T.length = ts.length) := by show _ = _; rw [← hTe.out, bysL_len]
              replace hT := Lib.hid hT
              replace hts := Lib.hid hts
              clear hF
              go_wp2_with fail
              obtain ⟨W1, rfl⟩ : ∃ W1 : World, W1 = wr := ⟨_, rfl⟩
              go_loopw [11] (fun vv wr => ∃ j : Nat, vv = .int .i64 j ∧ j ≤ ts.length ∧ Hid (firstP K TX = (findIn K (T.drop j)).or (firstP K (TX.drop (t + 1)))) ∧ Below w.heap.size w wr) (fun vv _ => ts.length - (intOf vv).toNat)
              case atStart => exact ⟨0, rfl, by omega, hF2, hB⟩
              case round =>
                obtain ⟨j, rfl, hj, hG, hB⟩ := hrel
                clear hF2
                have hzB := hB.size
                obtain ⟨bt, ot, ct, u, hee, hbt, tc, hu⟩ := (ht.below hB).at t hlt2
                injection hee with hee1 hee2 hee3
                subst hee1 hee3
                rw [hts.out] at hu
                obtain ⟨ua, uc, rfl, huc, hud⟩ := hu.val
                have hks' := Sl.below hk hB
                by_cases hjl : j < ts.length
                · have q5 : decide ((j : Int) < (ts.length : Int)) = true := decide_eq_true (by omega)
                  have q6 : decide (j < ts.length) = true := decide_eq_true hjl
                  obtain ⟨m, hm⟩ : ∃ m, agr K (T.drop j) = m := ⟨_, rfl⟩
                  have hml : m ≤ 4294967281 := by
                    have h1 := agr_le_right K (T.drop j)
                    rw [List.length_drop, hTln.out, hm] at h1; omega
                  have hfd := findIn_drop (q := K) (T := T) (k := j) (by rw [hTln.out]; exact hjl)
                  rw [hm] at hfd
                  have C : ∀ w0, Ss w0 (.slice ka ks.length kc) ks → Ss w0 (.slice ua ts.length uc) ts → Calls Tryd.prog 100 #[.slice ka ks.length kc, .int .i64 i, .slice ua ts.length uc, .int .i64 j] w0 fun e w' => e = .returned (.int .i64 (m : Nat)) ∧ Below w0.heap.size w0 w' := by
                    intro w0 c1 c2
                    have := same34_any _ _ ks ts i j w0 c1 c2 (by omega) (by omega) (by omega) (by omega)
                    rw [hKd.out, hTe.out, hm] at this
                    exact this
                  replace C := Lib.hid C
                  replace hm := Lib.hid hm
                  by_cases h3m : 3 ≤ m
                  · have p1 : decide ((3 : Int) ≤ (m : Int)) = true := decide_eq_true (by omega)
                    have p2 : decide (3 ≤ m) = true := decide_eq_true h3m
                    have hQm : Hid (Q = min k m) := by
                      show _ = _
                      rw [hQe.out, hG.out, hfd, if_pos h3m]
                      show min k (agr K (T.drop j)) = _
                      rw [hm.out]
                    have hmin : min (k : Int) (m : Int) = ((min k m : Nat) : Int) := by omega
                    replace hfd := Lib.hid hfd
                    go_wp2_with (go_at_call 100; refine (C.out _ hks' hu).mono ?_; rintro e W2 ⟨rfl, b2⟩)
                    go_ret
                    exact ⟨by rw [hQm.out]; first | rfl | rw [hmin], hB.trans (b2.mono hzB)⟩
                  · have p1 : decide ((3 : Int) ≤ (m : Int)) = false := decide_eq_false (by omega)
                    have p2 : decide (3 ≤ m) = false := decide_eq_false h3m
                    have hG2 : Hid (firstP K TX = (findIn K (T.drop (j + 1))).or (firstP K (TX.drop (t + 1)))) := by show _ = _; rw [hG.out, hfd, if_neg h3m]
                    clear hG hfd
                    go_wp2_with (go_at_call 100; refine (C.out _ hks' hu).mono ?_; rintro e W2 ⟨rfl, b2⟩)
                    go_roundw
                    case rel => exact ⟨j + 1, by go_num, hjl, hG2, hB.trans (b2.mono hzB)⟩
                    case measure => simp only [intOf]; go_num
                · obtain rfl : j = ts.length := by omega
                  have q5 : decide ((ts.length : Int) < (ts.length : Int)) = false := by simp
                  have q6 : decide (ts.length < ts.length) = false := by simp
                  have hF3 : Hid (firstP K TX = firstP K (TX.drop (t + 1))) := by
                    show _ = _
                    rw [hG.out, List.drop_eq_nil_of_le (by rw [hTln.out]; exact Nat.le_refl _)]; rfl
                  clear hG
                  go_wp2_with fail
                  refine ⟨⟨t + 1, by go_num, hlt2, hF3, hB⟩, ?_⟩
                  simp only [intOf]; omega
            · obtain rfl : t = tss.length := by omega
              have q3 : decide ((tss.length : Int) < (tss.length : Int)) = false := by simp
              have q4 : decide (tss.length < tss.length) = false := by simp
              have hQ0 : Hid (Q = 0) := by
                show _ = _
                rw [hQe.out, hF.out, List.drop_eq_nil_of_le (by rw [hTl.out]; exact Nat.le_refl _)]; rfl
              clear hF
              go_wp2_with fail
              go_ret
              exact ⟨by rw [hQ0.out]; rfl, hB⟩
end Go.Proofs.YtompmkcpicfdfaaDoor
