/- missiveref34: Trim; missivelaw34: small, few, QuoteTells. -/
import Derived.Test.YtompmkcpicfdfaaDoorQuoteX
import Derived.Test.YtompmkcpicfdfaaDoorRefD
namespace Go.Proofs.YtompmkcpicfdfaaDoor
open Go.RowKit
set_option linter.unusedVariables false
set_option maxRecDepth 100000 in
set_option maxHeartbeats 8000000 in
theorem RefTrim_any (s : ByteArray) (v : Value) (es : List ByteArray) (w : World) (hv : Ss w v es) (hs : s.size ≤ 1000000) (hn : es.length ≤ 1000000) (hsz : Hid (∀ x ∈ es, x.size ≤ 1000000)) :
    Calls Tryd.prog 44 #[.string s, v] w (SPost (trimL s.data.toList (bysL es)) w) := by
  obtain ⟨i0, hif, hz0, hz1, hz2⟩ := info_parts infoStr
  obtain ⟨i1, hif1, hy0, hy1, hy2⟩ := info_parts infoRows
  obtain ⟨ae, ce, rfl, hce, hde⟩ := hv.val
  go_enter Tryd.func44, Tryd.ntmps44
  go_wp2_with fail
  refine (RefLines_any s _ (by omega)).mono ?_
  rintro e W1 ⟨⟨lv, ls, rfl, hlv, hls⟩, b1⟩
  replace hls : bysL ls = wlines s.data.toList := hls
  obtain ⟨hln, hlz⟩ := lines_sizes hls
  have hlz' : Hid (∀ x ∈ ls, x.size ≤ 1000000) := fun x hx => Nat.le_trans (hlz x hx) hs
  have hlz2 : Hid (∀ x ∈ ls, x.size < 4294967281) := fun x hx => Nat.lt_of_le_of_lt (hlz' x hx) (by decide)
  obtain ⟨la, lc, rfl, hlc, hld⟩ := hlv.val
  go_wp2_with fail
  refine (RefKeys_any _ ls _ hlv (by omega) hlz2).mono ?_
  rintro e W2 ⟨⟨kv, ks, rfl, hkv, hks⟩, b2⟩
  have hlv2 := Sl.below hlv b2
  have hkv2 := Sl.of_own hkv
  have hB2 := bnext b1 b2
  obtain ⟨ka, kc, rfl, hkc, hkd⟩ := hkv2.val
  obtain ⟨L, hL⟩ : ∃ L, bysL ls = L := ⟨_, rfl⟩
  have hLl : L.length = ls.length := by rw [← hL, bysL_len]
  replace hL := Lib.hid hL
  replace hLl := Lib.hid hLl
  replace hls := Lib.hid hls
  replace hks := Lib.hid hks
  replace hlz := Lib.hid hlz
  clear hlv hkv b1 b2
  go_wp2_with fail
  go_loopw [7, 8] (fun v ii wr => ∃ (k : Nat) (tss : List (List ByteArray)), ii = .int .i64 k ∧ k ≤ es.length ∧ OutTx W2.heap.size wr v tss ∧ tss.length = k ∧ Hid (byss tss = ((bysL es).take k).map keysL) ∧ Below W2.heap.size W2 wr) (fun _ ii _ => es.length - (intOf ii).toNat)
  case atStart => exact ⟨0, [], rfl, by omega, OutTx.nil _ _, rfl, rfl, Below.refl _ _⟩
  case round =>
    obtain ⟨k, tss, rfl, hk, hO, htl, hE, hB⟩ := hrel
    have hzB := hB.size
    by_cases hlt : k < es.length
    · have q1 : decide ((k : Int) < (es.length : Int)) = true := decide_eq_true (by omega)
      have q2 : decide (k < es.length) = true := decide_eq_true hlt
      obtain ⟨bb, oo, dd, hee, _, _, hbb, hcell⟩ := Ss.at (Sl.below hv hB2) (by omega)
      cases hee
      have x0 := hcell k _ (List.getElem?_eq_getElem hlt)
      have hx4 := hsz.out es[k] (List.getElem_mem hlt)
      have hbt := bysL_take hlt
      obtain ⟨x, hx⟩ : ∃ x, es[k] = x := ⟨_, rfl⟩
      rw [hx] at x0 hx4 hbt
      have xc : wr.cell? ⟨bb, oo + k, none⟩ = some (.string x) := (hB.cell (p := ⟨bb, oo + k, none⟩) hbb).trans x0
      replace hbt := Lib.hid hbt
      clear hcell hx
      go_wp2_with fail
      refine (RefLines_any x _ (by omega)).mono ?_
      rintro e W3 ⟨⟨xv, xs, rfl, hxv, hxs⟩, b3⟩
      replace hxs : bysL xs = wlines x.data.toList := hxs
      obtain ⟨hxn, hxz⟩ := lines_sizes hxs
      have hxz2 : Hid (∀ y ∈ xs, y.size < 4294967281) := fun y hy => Nat.lt_of_le_of_lt (Nat.le_trans (hxz y hy) hx4) (by decide)
      have hO3 := hO.bel b3
      have hB3 := hB.trans (b3.mono hzB)
      replace hxs := Lib.hid hxs
      clear hO hB b3 hxz
      have hz3 := hB3.size
      go_wp2_with fail
      refine (RefKeys_any xv xs _ hxv (by omega) hxz2).mono ?_
      rintro e W4 ⟨⟨u, us, rfl, hu, hus⟩, b4⟩
      have hO4 := hO3.bel b4
      have hB4 := hB3.trans (b4.mono hz3)
      have hz4 := hB4.size
      obtain ⟨vs, ho1, ho2⟩ := hO4
      have hu2 := own_mono hu hz3
      obtain ⟨ua, uc, rfl⟩ := slice_of_own hu2
      have hE2 : Hid (byss (tss ++ [us]) = ((bysL es).take (k + 1)).map keysL) := by
        show _ = _
        have h5 := hbt.out
        rw [show bysL (es.take (k + 1)) = (bysL es).take (k + 1) by simp [bysL, List.map_take], show bysL (es.take k) = (bysL es).take k by simp [bysL, List.map_take]] at h5
        rw [h5, List.map_append, ← hE.out, show byss (tss ++ [us]) = byss tss ++ [bysL us] by simp [byss], hus, hxs.out]; rfl
      clear hO3 hB3 b4 hE hu hus
      replace ho2 := Lib.hid ho2
      go_wp2_with (at_builtin; refine wpList_append_own _ rfl _ _ 73 rfl W2.heap.size 32 i1 (.slice none 0 0) 1 24 Tryd.underlying73 hif1 hy0 hy1 hy2 rfl (by decide) _ _ _ rfl (ho1.alloc _) ⟨W4.heap.size, 0, none⟩ 1 1 [.slice ua us.length uc] rfl rfl (cell_one_new _ _ _) (one_own hu2) (by unfold maxLen; omega) (by omega) (by simp; omega) ?_; intro v' w1 hown' hgrow _)
      have hB5 : Below W2.heap.size W2 w1 := (hB4.alloc (by omega) _).trans (below_grown (ho1.alloc _) (by simp; omega) hgrow)
      have hO5 : OutTx W2.heap.size w1 v' (tss ++ [us]) := OutTx.snoc (ho1.alloc _) (fun i h => by obtain ⟨u, h1, h2⟩ := ho2.out i h; exact ⟨u, h1, h2.alloc _⟩) (hu2.alloc _) hown' hgrow
      go_roundw
      case rel => exact ⟨k + 1, tss ++ [us], by go_num, hlt, hO5, by simp; omega, hE2, hB5⟩
      case measure => simp only [intOf]; go_num
    · obtain rfl : k = es.length := by omega
      have q1 : decide ((es.length : Int) < (es.length : Int)) = false := by simp
      have q2 : decide (es.length < es.length) = false := by simp
      obtain ⟨W3, rfl⟩ : ∃ W3 : World, W3 = wr := ⟨_, rfl⟩
      have htn : tss.length ≤ 1000000 := by omega
      replace htl := Lib.hid htl
      have hTx := hO.tx
      have htx1 : Hid (∀ ts ∈ tss, ts.length ≤ 4294967281) := by
        show ∀ ts ∈ tss, _
        intro ts hts
        have h1 : bysL ts ∈ ((bysL es).take es.length).map keysL := by rw [← hE.out]; exact List.mem_map_of_mem hts
        obtain ⟨t, ht, he⟩ := List.mem_map.1 h1
        obtain ⟨t', ht', rfl⟩ := List.mem_map.1 (List.mem_of_mem_take ht)
        have h2 := hsz.out t' ht'
        exact (keys_bound he h2).1
      obtain ⟨TX, hTX⟩ : ∃ TX, byss tss = TX := ⟨_, rfl⟩
      have hTXe : Hid (trimL s.data.toList (bysL es) = unl (trimS TX 0 L)) := by
        show _ = _
        have h5 := hE.out
        rw [List.take_of_length_le (by rw [bysL_len]; exact Nat.le_refl _)] at h5
        unfold trimL
        rw [← hls.out, hL.out, ← h5, hTX]
      have hks2 : Hid (bysL ks = (bysL ls).map keyL) := hks.out
      replace hTX := Lib.hid hTX
      clear hO hE
      go_wp2_with fail
      go_loopw [9, 10] (fun v ii wr => ∃ (i : Nat) (outs : List ByteArray), ii = .int .i64 i ∧ i ≤ ls.length ∧ wr.ownsRow W3.heap.size 9 1 v outs.length (outs.map .string) ∧ outs.length ≤ i ∧ Hid (trimS TX 0 L = bysL outs ++ trimS TX 0 (L.drop i)) ∧ Below W3.heap.size W3 wr) (fun _ ii _ => ls.length - (intOf ii).toNat)
      case atStart => exact ⟨0, [], rfl, by omega, World.ownsRow_nil _ _ _ _, by simp, rfl, Below.refl _ _⟩
      case round =>
        obtain ⟨i, outs, rfl, hi, hr, hol, hT, hBr⟩ := hrel
        have hzB := hBr.size
        by_cases hlt : i < ls.length
        · have q1 : decide ((i : Int) < (ls.length : Int)) = true := decide_eq_true (by omega)
          have q2 : decide (i < ls.length) = true := decide_eq_true hlt
          obtain ⟨Q, hQ⟩ : ∃ Q, quotN TX (L.drop i) = Q := ⟨_, rfl⟩
          have hbr : Below W2.heap.size W2 wr := hB.trans (hBr.mono (by omega))
          have C := Quotation_any _ _ _ ls ks tss i wr (Sl.below hlv2 hbr) (Sl.below hkv2 hbr) (hTx.below hBr) hks2 hlt (by omega) hlz' htn htx1
          rw [hTX.out, hL.out, hQ] at C
          have hLne : L.drop i ≠ [] := by
            intro h
            have := congrArg List.length h
            rw [List.length_drop, hLl.out] at this
            simp at this; omega
          have hQle := quotN_le TX (L.drop i)
          rw [hQ, List.length_drop, hLl.out] at hQle
          have hstep := trimS_step TX (L.drop i) hLne
          rw [hQ] at hstep
          replace C := Lib.hid C
          clear hLne hQ
          go_wp2_with fail
          refine C.out.mono ?_
          rintro e W9 ⟨rfl, hbc⟩
          have hr9 := own_bel hr hbc
          have hB9 : Below W3.heap.size W3 W9 := hBr.trans (hbc.mono hzB)
          have hbr9 : Below W2.heap.size W2 W9 := hbr.trans (hbc.mono hbr.size)
          have hz9 := hB9.size
          have hlv9 := Sl.below hlv2 hbr9
          clear hr hBr hbr C
          rcases hstep with ⟨hq0, xx, rr, hxr, hst⟩ | ⟨hq0, hst⟩
          · subst hq0
            obtain ⟨bb, oo, dd, hee, _, _, hbb, hcell⟩ := Ss.at hlv9 (by omega)
            injection hee with hee1 hee2 hee3
            subst hee1 hee3
            have x0 := hcell i _ (List.getElem?_eq_getElem hlt)
            obtain ⟨x, hx⟩ : ∃ x, ls[i] = x := ⟨_, rfl⟩
            rw [hx] at x0
            have hT2 : Hid (trimS TX 0 L = bysL (outs ++ [x]) ++ trimS TX 0 (L.drop (i + 1))) := by
              show _ = _
              have hLi : i < L.length := by rw [hLl.out]; exact hlt
              rw [List.drop_eq_getElem_cons hLi] at hxr
              injection hxr with e1 e2
              rw [hT.out, hst, bysL_snoc, ← e1, ← e2, show L[i] = x.data.toList by simp [← hL.out, bysL, hx]]
              simp
            clear hst hxr hcell hx hT
            go_wp2_with (at_builtin; refine wpList_append_own _ rfl _ _ 32 rfl W3.heap.size 9 i0 (.string ByteArray.empty) 1 16 Tryd.underlying32 hif hz0 hz1 hz2 rfl (by decide) _ _ _ rfl (hr9.alloc _) ⟨W9.heap.size, 0, none⟩ 1 1 [.string x] rfl rfl (cell_one_new _ _ _) (by simp [Value.oneCell']) (by unfold maxLen; omega) (by omega) (by simp; omega) ?_; intro v' w1 hown' hgrow _)
            have hB3 : Below W3.heap.size W3 w1 := (hB9.alloc (by omega) _).trans (below_grown (hr9.alloc _) (by simp; omega) hgrow)
            go_roundw
            case rel => exact ⟨i + 1, outs ++ [x], by go_num, by omega, by simpa using hown', by rw [List.length_append]; simp only [List.length_cons, List.length_nil]; omega, hT2, hB3⟩
            case measure => simp only [intOf]; go_num
          · have k1 : ((Q : Int) == 0) = false := by simp; omega
            have k2 : ¬ (Q : Int) = 0 := by omega
            have hdl := markL_len (n := Q) (by omega)
            unfold markL at hdl
            simp only [List.length_append, List.length_cons, List.length_nil] at hdl
            have hT2 : ∀ q : ByteArray, q.data.toList = markL Q → Hid (trimS TX 0 L = bysL (outs ++ [q]) ++ trimS TX 0 (L.drop (i + Q))) := by
              intro q hq
              show _ = _
              rw [hT.out, hst, bysL_snoc, hq, List.drop_drop]
              simp
            replace hT2 := Lib.hid hT2
            clear hst hT
            go_wp2_with (first
              | (go_at_call 73; refine (RefDecimal_any Q (by omega) _).mono ?_; rintro e W10 ⟨⟨d, rfl, hd⟩, b10⟩; have hds : d.size ≤ 20 := (by rw [← str_size, hd]; omega); have hr10 := own_bel hr9 b10; have hB10 : Below W3.heap.size W3 W10 := hB9.trans (b10.mono hz9); have hz10 := hB10.size; clear b10 hB9; replace hd := Lib.hid hd)
              | (at_builtin; refine wpList_append_own _ rfl _ _ 32 rfl W3.heap.size 9 i0 (.string ByteArray.empty) 1 16 Tryd.underlying32 hif hz0 hz1 hz2 rfl (by decide) _ _ _ rfl (hr10.alloc _) ⟨W10.heap.size, 0, none⟩ 1 1 [.string ((⟨#[91]⟩ : ByteArray) ++ d ++ (⟨#[32, 113, 117, 111, 116, 101, 100, 32, 108, 105, 110, 101, 115, 93]⟩ : ByteArray))] rfl rfl (cell_one_new _ _ _) (by simp [Value.oneCell']) (by unfold maxLen; omega) (by omega) (by simp; omega) ?_; intro v' w1 hown' hgrow _))
            have hB3 : Below W3.heap.size W3 w1 := (hB10.alloc (by omega) _).trans (below_grown (hr10.alloc _) (by simp; omega) hgrow)
            go_roundw
            case rel => exact ⟨i + Q, outs ++ [_], by go_num, by omega, by simpa using hown', by rw [List.length_append]; simp only [List.length_cons, List.length_nil]; omega, hT2.out _ (by rw [app_list, app_list, hd.out]; rfl), hB3⟩
            case measure => simp only [intOf]; omega
        · obtain rfl : i = ls.length := by omega
          have q1 : decide ((ls.length : Int) < (ls.length : Int)) = false := by simp
          have q2 : decide (ls.length < ls.length) = false := by simp
          have hT2 : Hid (trimS TX 0 L = bysL outs) := by
            show _ = _
            rw [hT.out, List.drop_eq_nil_of_le (by rw [hLl.out]; exact Nat.le_refl _), trimS]; simp
          have hS := Sl.of_own hr
          have hlen : (unl (bysL outs)).length ≤ 140737488355328 := by
            have h1 := trimS_bound TX L 0 (by rw [hLl.out]; omega)
            have h2 := lines_size s
            rw [← hls.out, hL.out] at h2
            rw [← hT2.out]
            rw [hLl.out] at h1
            omega
          replace hr := Lib.hid hr
          replace hlen := Lib.hid hlen
          clear hT
          go_wp2_with fail
          refine (RefUnlines_any _ outs _ hS hlen.out).mono ?_
          rintro e W11 ⟨⟨q, rfl, hq⟩, b11⟩
          replace hq := Lib.hid hq
          go_wp2_with fail
          go_ret
          exact ⟨⟨q, rfl, by rw [hq.out, hTXe.out, hT2.out]⟩, bnext (bnext hB2 (hB.trans (hBr.mono (by omega)))) b11⟩
end Go.Proofs.YtompmkcpicfdfaaDoor
