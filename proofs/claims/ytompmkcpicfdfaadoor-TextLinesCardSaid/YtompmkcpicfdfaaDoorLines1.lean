/- missivelaw01.TextLines: the walk. -/
import Derived.Test.YtompmkcpicfdfaaDoorUnlines
import Derived.Test.YtompmkcpicfdfaaDoorOpenS
namespace Go.Proofs.YtompmkcpicfdfaaDoor
open Go.RowKit
set_option linter.unusedVariables false
theorem emp_yes {t : ByteArray} (h : t.size = 0) : t.toList.isEmpty = true := by
  rw [Lib.toList_data, List.isEmpty_iff]; exact List.eq_nil_of_length_eq_zero (by rw [str_size]; exact h)
theorem bysL_inj : ∀ {ts us : List ByteArray}, bysL ts = bysL us → ts = us
  | [], [], _ => rfl
  | t :: ts, u :: us, h => by
    simp only [bysL, List.map_cons, List.cons.injEq] at h
    rw [str_inj h.1, bysL_inj (ts := ts) (us := us) h.2]
  | [], u :: us, h => by simp [bysL] at h
  | t :: ts, [], h => by simp [bysL] at h
theorem unl_len_le : ∀ {ls : List (List UInt8)} {m : Nat}, (∀ x ∈ ls, x.length ≤ m) → (unl ls).length ≤ (m + 1) * ls.length
  | [], _, _ => by simp [unl]
  | x :: ls, m, h => by
    have h1 := unl_len_le (ls := ls) (m := m) fun y hy => h y (by simp [hy])
    have h2 := h x (by simp)
    rw [show unl (x :: ls) = (x ++ [10]) ++ unl ls by simp [unl], List.length_append, List.length_append, List.length_cons, List.length_cons, List.length_nil, Nat.mul_add]
    omega
theorem bysL_length (ts : List ByteArray) : (bysL ts).length = ts.length := by simp [bysL]
set_option maxRecDepth 100000 in
set_option maxHeartbeats 16000000 in
theorem lines_walk (v : Value) (ts : List ByteArray) (s : ByteArray) (w : World) (hv : Ss w v ts) (hz : ∀ t ∈ ts, t.size ≤ maxLen) (hs : s.size ≤ maxLen) :
    Calls Tryd.prog 12 #[v, .string s] w fun e w' => e = .returned (.bool true) ∧ Below w.heap.size w w' := by
  obtain ⟨a1, c1, rfl, hc1, hd1⟩ := hv.val
  by_cases h1 : ts.length ≤ 40 ∧ s.size ≤ 300
  · obtain ⟨h40, h300⟩ := h1
    have g1 : decide ((40 : Int) < (ts.length : Int)) = false := by simp; omega
    have g2 : decide ((300 : Int) < (s.size : Int)) = false := by simp; omega
    obtain ⟨i0, hif, hz0, hz1, hz2⟩ := info_parts infoStr
    go_enter Tryd.func12, Tryd.ntmps12
    go_wp2_with fail
    refine (small_any _).mono ?_
    rintro e W1 ⟨rfl, b1⟩
    go_wp2_with fail
    refine (Lines_any s _ (by omega)).mono ?_
    rintro e W2 ⟨⟨v2, tsA, rfl, hvA, htsA⟩, b2⟩
    obtain ⟨a2, c2, rfl, hc2, hd2⟩ := hvA.val
    go_wp2_with fail
    have hno : ∀ i, (h : i < tsA.length) → ∀ c ∈ tsA[i].data.toList, c ≠ 10 := fun i h => wlines_no s.data.toList _ (by rw [← htsA]; exact List.mem_map.2 ⟨tsA[i], List.getElem_mem h, rfl⟩)
    have hmA : tsA.length ≤ 9223372036854775807 := by unfold maxLen at hd2; omega
    have hmx : ∀ i, (h : i < tsA.length) → tsA[i].size ≤ 9223372036854775807 := fun i h => by
      have h5 := wlines_le s.data.toList tsA[i].data.toList (by rw [← htsA]; exact List.mem_map.2 ⟨tsA[i], List.getElem_mem h, rfl⟩)
      rw [str_size, str_size] at h5
      omega
    have hB := bnext b1 b2
    clear b1 b2 htsA
    go_loopw [7] (fun ii wr => Below W2.heap.size W2 wr ∧ ∃ i : Nat, ii = .int .i64 i ∧ i ≤ tsA.length) (fun ii _ => tsA.length - (intOf ii).toNat)
    case atStart => exact ⟨Below.refl _ _, 0, rfl, by omega⟩
    case round =>
      obtain ⟨hBr, i, rfl, hi⟩ := hrel
      by_cases hlt : i < tsA.length
      · have q1 : decide ((i : Int) < (tsA.length : Int)) = true := by simp; omega
        have q2 : decide (i < tsA.length) = true := by simp; omega
        obtain ⟨bb, oo, dd, hee, _, _, hbb, hcell⟩ := Sl.at (hvA.below hBr) (by omega)
        cases hee
        have x1 := hcell i _ (ss_get hlt)
        have hnx := hno i hlt
        have hsx := hmx i hlt
        obtain ⟨x, hx⟩ : ∃ x, tsA[i] = x := ⟨_, rfl⟩
        rw [hx] at x1 hnx hsx
        clear hcell hx hvA hno hmx
        replace hnx := Lib.hid hnx
        obtain ⟨W3, rfl⟩ : ∃ W3 : World, W3 = wr := ⟨_, rfl⟩
        go_wp2_with fail
        go_loopw [8] (fun kk wr => Below W3.heap.size W3 wr ∧ ∃ k : Nat, kk = .int .i64 k ∧ k ≤ x.size) (fun kk _ => x.size - (intOf kk).toNat)
        case atStart => exact ⟨Below.refl _ _, 0, rfl, by omega⟩
        case round =>
          obtain ⟨hBi, k, rfl, hk⟩ := hrel
          have y1 := bget hBi hbb x1
          have hBk := bnext hBr hBi
          by_cases hkt : k < x.size
          · have q3 : decide ((k : Int) < (x.size : Int)) = true := by simp; omega
            have q4 : decide (k < x.size) = true := by simp; omega
            obtain ⟨d, hd⟩ : ∃ d, x.data.toList.getD k 0 = d := ⟨_, rfl⟩
            have hyj := idx_at x k hkt d hd
            have hdn : ((d.toNat : Int) == 10) = false := by
              have h5 : d ≠ 10 := hnx.out d (by rw [← hd, List.getD_eq_getElem?_getD, str_get x k hkt]; exact List.mem_of_getElem? (str_get x k hkt))
              simp only [beq_eq_false_iff_ne]
              exact fun h6 => h5 (UInt8.toNat_inj.1 (by have : (10 : UInt8).toNat = 10 := rfl; omega))
            replace hd := Lib.hid hd
            go_wp2_with fail
            go_roundw
            case rel => exact ⟨hBi, k + 1, by go_num, hkt⟩
            case measure => simp only [intOf]; go_num
          · obtain rfl : k = x.size := by omega
            have q3 : decide ((x.size : Int) < (x.size : Int)) = false := by simp
            have q4 : decide (x.size < x.size) = false := by simp
            go_wp2_with fail
            go_roundw
            case rel => exact ⟨hBk, i + 1, by go_num, hlt⟩
            case measure => simp only [intOf]; go_num
      · obtain rfl : i = tsA.length := by omega
        have q1 : decide ((tsA.length : Int) < (tsA.length : Int)) = false := by simp
        have q2 : decide (tsA.length < tsA.length) = false := by simp
        replace hB := bnext hB hBr
        clear hBr hvA hno
        obtain ⟨W3, rfl⟩ : ∃ W3 : World, W3 = wr := ⟨_, rfl⟩
        go_wp2_with fail
        replace hv := hv.below hB
        go_loopw [9, 10] (fun cc ii wr => Below W3.heap.size W3 wr ∧ ∃ (i : Nat) (c : ByteArray), cc = .string c ∧ ii = .int .i64 i ∧ i ≤ ts.length ∧ c.size ≤ 302 * i ∧ Hid (c.data.toList = uncr (bysL (ts.take i))) ∧ ∀ j, (h : j < i) → (h2 : j < ts.length) → ts[j].size ≤ 300 ∧ goodLine ts[j].data.toList) (fun _ ii _ => ts.length - (intOf ii).toNat)
        case atStart => exact ⟨Below.refl _ _, 0, _, rfl, rfl, by omega, by decide, rfl, fun j h => by omega⟩
        case round =>
          obtain ⟨hBr, i, c, rfl, rfl, hi, hcs, hC, hG⟩ := hrel
          by_cases hlt : i < ts.length
          · have q1 : decide ((i : Int) < (ts.length : Int)) = true := by simp; omega
            have q2 : decide (i < ts.length) = true := by simp; omega
            have htk := bysL_take hlt
            have hxm := hz ts[i] (List.getElem_mem hlt)
            obtain ⟨bb, oo, dd, hee, _, _, hbb, hcell⟩ := Sl.at (hv.below hBr) (by omega)
            cases hee
            have x1 := hcell i _ (ss_get hlt)
            have hGx : ∀ x, ts[i] = x → x.size ≤ 300 → goodLine x.data.toList → ∀ j, (h : j < i + 1) → (h2 : j < ts.length) → ts[j].size ≤ 300 ∧ goodLine ts[j].data.toList := by
              intro x hx h1 h2 j hj hj2
              by_cases hji : j = i
              · subst hji; rw [hx]; exact ⟨h1, h2⟩
              · exact hG j (by omega) hj2
            obtain ⟨x, hx⟩ : ∃ x, ts[i] = x := ⟨_, rfl⟩
            rw [hx] at x1 htk hxm
            have hGx := hGx x hx
            unfold maxLen at hxm
            clear hcell hx
            obtain ⟨W4, rfl⟩ : ∃ W4 : World, W4 = wr := ⟨_, rfl⟩
            go_wp2_with fail
            go_loopw [11] (fun kk wr => W4 = wr ∧ ∃ k : Nat, kk = .int .i64 k ∧ k ≤ x.size ∧ ∀ d ∈ x.data.toList.take k, d ≠ 10) (fun kk _ => x.size - (intOf kk).toNat)
            case atStart => exact ⟨rfl, 0, rfl, by omega, by simp⟩
            case round =>
              obtain ⟨rfl, k, rfl, hk, hD⟩ := hrel
              by_cases hkt : k < x.size
              · have q3 : decide ((k : Int) < (x.size : Int)) = true := by simp; omega
                have q4 : decide (k < x.size) = true := by simp; omega
                obtain ⟨d, hd⟩ : ∃ d, x.data.toList.getD k 0 = d := ⟨_, rfl⟩
                have hyj := idx_at x k hkt d hd
                have hst := str_take x k hkt
                rw [← str_getD x k hkt, hd] at hst
                replace hd := Lib.hid hd
                by_cases h10 : d = 10
                · subst h10
                  clear hst
                  go_wp2_with fail
                  go_ret
                  exact ⟨rfl, bnext hB hBr⟩
                · have hdn : ((d.toNat : Int) == 10) = false := by
                    simp only [beq_eq_false_iff_ne]
                    exact fun h6 => h10 (UInt8.toNat_inj.1 (by have : (10 : UInt8).toNat = 10 := rfl; omega))
                  have hD2 : ∀ e ∈ x.data.toList.take (k + 1), e ≠ 10 := by
                    rw [hst]
                    intro e he
                    rcases List.mem_append.1 he with he | he
                    · exact hD e he
                    · rw [List.mem_singleton.1 he]; exact h10
                  clear hst hD
                  replace h10 := Lib.hid h10
                  go_wp2_with fail
                  go_roundw
                  case rel => exact ⟨trivial, k + 1, by go_num, hkt, hD2⟩
                  case measure => simp only [intOf]; go_num
              · obtain rfl : k = x.size := by omega
                have q3 : decide ((x.size : Int) < (x.size : Int)) = false := by simp
                have q4 : decide (x.size < x.size) = false := by simp
                rw [List.take_of_length_le (by rw [str_size]; exact Nat.le_refl _)] at hD
                have hways : ((∀ W, (Instr.index 9 (.string x) (.int .i64 ((x.size : Int) - 1))).run Tryd.prog W = .ok (.int .u8 13) W) ∧ x.toList.isEmpty = false) ∨ (((x.toList.isEmpty = true) ∨ (x.toList.isEmpty = false ∧ ∃ d : UInt8, (∀ W, (Instr.index 9 (.string x) (.int .i64 ((x.size : Int) - 1))).run Tryd.prog W = .ok (.int .u8 d.toNat) W) ∧ ((d.toNat : Int) == 13) = false)) ∧ goodLine x.data.toList) := by
                  by_cases h0 : x.size = 0
                  · right
                    refine ⟨.inl (emp_yes h0), hD, ?_⟩
                    have : x.data.toList = [] := List.eq_nil_of_length_eq_zero (by rw [str_size]; exact h0)
                    rw [this]; simp
                  · have he := isEmpty_of h0
                    obtain ⟨d, hd⟩ : ∃ d, x.data.toList.getD (x.size - 1) 0 = d := ⟨_, rfl⟩
                    have hi1 : ∀ W, (Instr.index 9 (.string x) (.int .i64 ((x.size : Int) - 1))).run Tryd.prog W = .ok (.int .u8 d.toNat) W := fun W => by
                      have h5 := idx_at x (x.size - 1) (by omega) d hd W
                      rwa [show ((x.size - 1 : Nat) : Int) = (x.size : Int) - 1 by omega] at h5
                    have hlast : x.data.toList.getLast? = some d := by
                      rw [List.getLast?_eq_getElem?, str_size, str_get x _ (by omega), ← hd, str_getD x _ (by omega)]
                    by_cases h13 : d = 13
                    · left
                      subst h13
                      exact ⟨hi1, he⟩
                    · right
                      refine ⟨.inr ⟨he, d, hi1, ?_⟩, hD, ?_⟩
                      · simp only [beq_eq_false_iff_ne]
                        exact fun h6 => h13 (UInt8.toNat_inj.1 (by have : (13 : UInt8).toNat = 13 := rfl; omega))
                      · rw [hlast]; simpa using h13
                clear hv hz
                rcases hways with ⟨hl1, hl2⟩ | ⟨hl, hgood⟩
                · go_wp2_with fail
                  go_quiet (fail)
                  have hBq := bdrewN (n := nq) hBr
                  go_wp2_with fail
                  go_ret
                  exact ⟨rfl, bnext hB hBq⟩
                · by_cases hx3 : x.size ≤ 300
                  · have q5 : decide ((300 : Int) < (x.size : Int)) = false := by simp; omega
                    have hG2 := hGx hx3 hgood
                    replace hgood := Lib.hid hgood
                    clear hGx hG
                    rcases hl with hl | ⟨hl1, d, hl2, hl3⟩
                    · go_wp2_with fail
                      go_quiet (fail)
                      have hBq := bdrewN (n := nq) hBr
                      go_wp2_with fail
                      refine ⟨⟨hBq, i + 1, _, rfl, by go_num, hlt, ?_, ?_, hG2⟩, by simp only [intOf]; go_num⟩
                      · rw [ByteArray.size_append, ByteArray.size_append]; show c.size + x.size + 2 ≤ _; omega
                      · show _ = _
                        rw [htk, uncr_snoc, ← hC.out, ByteArray.data_append, Array.toList_append, ByteArray.data_append, Array.toList_append, List.append_assoc]
                    · go_wp2_with fail
                      go_quiet (fail)
                      have hBq := bdrewN (n := nq) hBr
                      go_wp2_with fail
                      refine ⟨⟨hBq, i + 1, _, rfl, by go_num, hlt, ?_, ?_, hG2⟩, by simp only [intOf]; go_num⟩
                      · rw [ByteArray.size_append, ByteArray.size_append]; show c.size + x.size + 2 ≤ _; omega
                      · show _ = _
                        rw [htk, uncr_snoc, ← hC.out, ByteArray.data_append, Array.toList_append, ByteArray.data_append, Array.toList_append, List.append_assoc]
                  · have q5 : decide ((300 : Int) < (x.size : Int)) = true := by simp; omega
                    clear hGx hG
                    rcases hl with hl | ⟨hl1, d, hl2, hl3⟩
                    · go_wp2_with fail
                      go_quiet (fail)
                      have hBq := bdrewN (n := nq) hBr
                      go_wp2_with fail
                      go_ret
                      exact ⟨rfl, bnext hB hBq⟩
                    · go_wp2_with fail
                      go_quiet (fail)
                      have hBq := bdrewN (n := nq) hBr
                      go_wp2_with fail
                      go_ret
                      exact ⟨rfl, bnext hB hBq⟩
          · obtain rfl : i = ts.length := by omega
            have q1 : decide ((ts.length : Int) < (ts.length : Int)) = false := by simp
            have q2 : decide (ts.length < ts.length) = false := by simp
            have hgood : ∀ x ∈ bysL ts, goodLine x := by
              intro x hx
              obtain ⟨t, ht, rfl⟩ := List.mem_map.1 hx
              obtain ⟨j, hj, rfl⟩ := List.getElem_of_mem ht
              exact (hG j hj hj).2
            have hlen : (unl (bysL ts)).length ≤ 301 * ts.length := by
              have := unl_len_le (ls := bysL ts) (m := 300) fun x hx => by
                obtain ⟨t, ht, rfl⟩ := List.mem_map.1 hx
                obtain ⟨j, hj, rfl⟩ := List.getElem_of_mem ht
                rw [str_size]; exact (hG j hj hj).1
              rwa [bysL_length] at this
            rw [List.take_length] at hC
            have hb1 := wlines_unl _ hgood
            have hb2 := wlines_uncr _ hgood
            have hv4 := hv.below hBr
            replace hB := bnext hB hBr
            clear hBr hv hG
            go_wp2_with fail
            refine (Unlines_any _ ts _ hv4 (by omega)).mono ?_
            rintro e W5 ⟨⟨t, rfl, ht⟩, b5⟩
            have hts : t.size ≤ 301 * ts.length := by rw [← str_size, ht]; exact hlen
            replace hB := bnext hB b5
            have hv5 := hv4.below b5
            clear b5 hv4 hlen
            replace hgood := Lib.hid hgood
            replace ht := Lib.hid ht
            go_wp2_with fail
            refine (Lines_any t _ (by omega)).mono ?_
            rintro e W6 ⟨⟨v6, ts6, rfl, hv6, hts6⟩, b6⟩
            obtain rfl : ts = ts6 := bysL_inj (by rw [show bysL ts6 = wlines t.data.toList from hts6, ht.out, hb1])
            replace hB := bnext hB b6
            have hv5' := hv5.below b6
            clear b6 hts6 hv5
            go_wp2_with fail
            refine (Strings_any _ _ ts ts _ hv6 hv5' (by omega) (by omega)).mono ?_
            rintro e W7 ⟨rfl, b7⟩
            rw [decide_eq_true rfl]
            replace hB := bnext hB b7
            have hv7 := hv5'.below b7
            clear b7 hv6 hv5'
            go_wp2_with fail
            refine (Lines_any c _ (by omega)).mono ?_
            rintro e W8 ⟨⟨v8, ts8, rfl, hv8, hts8⟩, b8⟩
            obtain rfl : ts = ts8 := bysL_inj (by rw [show bysL ts8 = wlines c.data.toList from hts8, hC.out, hb2])
            replace hB := bnext hB b8
            have hv8' := hv7.below b8
            clear b8 hts8 hv7
            go_wp2_with fail
            refine (Strings_any _ _ ts ts _ hv8 hv8' (by omega) (by omega)).mono ?_
            rintro e W9 ⟨rfl, b9⟩
            rw [decide_eq_true rfl]
            replace hB := bnext hB b9
            have hv9 := hv8'.below b9
            clear b9 hv8 hv8'
            by_cases h0 : ts.length = 0
            · have p1 : decide ((0 : Int) < (ts.length : Int)) = false := decide_eq_false (by omega)
              go_wp2_with fail
              go_ret
              exact ⟨rfl, hB⟩
            · have p1 : decide ((0 : Int) < (ts.length : Int)) = true := decide_eq_true (by omega)
              obtain ⟨bb, oo, dd, hee, _, _, hbb, hcell⟩ := Sl.at hv9 (by omega)
              cases hee
              have hl1 : ts.length - 1 < ts.length := by omega
              have x1 := hcell (ts.length - 1) _ (ss_get hl1)
              obtain ⟨x, hx⟩ : ∃ x, ts[ts.length - 1] = x := ⟨_, rfl⟩
              rw [hx] at x1
              clear hcell
              by_cases hxe : x.size = 0
              · have hxe' := emp_yes hxe
                go_wp2_with fail
                go_ret
                exact ⟨rfl, hB⟩
              · have hxe' := isEmpty_of hxe
                have hsp : bysL ts = bysL (ts.take (ts.length - 1)) ++ [x.data.toList] := by
                  have h5 := bysL_take hl1
                  rw [hx, show ts.length - 1 + 1 = ts.length by omega, List.take_length] at h5
                  exact h5
                have hlast := wlines_unl_last (bysL (ts.take (ts.length - 1))) x.data.toList (by rw [← hsp]; exact hgood.out) (fun e => hxe (by rw [← str_size, e]; rfl))
                rw [← hsp] at hlast
                have ht0 : 0 < t.size := by
                  rw [← str_size, ht.out, hsp, unl_snoc]; simp; omega
                have hte := isEmpty_of (t := t) (by omega)
                have i1 : (0 : Int) ≤ (t.size : Int) - 1 := by omega
                have i2 : (t.size : Int) - 1 ≤ (t.size : Int) := by omega
                have hq : (t.extract 0 (t.size - 1)).data.toList = (unl (bysL ts)).dropLast := by
                  rw [str_extract, ← ht.out, List.dropLast_eq_take, str_size]; rfl
                have hqs : (t.extract 0 (t.size - 1)).size ≤ t.size := by
                  rw [ByteArray.size_extract]; omega
                obtain ⟨q, hqe⟩ : ∃ q, t.extract 0 (t.size - 1) = q := ⟨_, rfl⟩
                rw [hqe] at hq hqs
                replace hq := Lib.hid hq
                replace hx := Lib.hid hx
                replace hsp := Lib.hid hsp
                replace hlast := Lib.hid hlast
                clear hb1 hb2
                replace hxe := Lib.hid hxe
                go_wp2_with fail
                refine (Lines_any q _ (by omega)).mono ?_
                rintro e W10 ⟨⟨v10, ts10, rfl, hv10, hts10⟩, b10⟩
                obtain rfl : ts = ts10 := bysL_inj (by rw [show bysL ts10 = wlines q.data.toList from hts10, hq.out, hlast.out])
                replace hB := bnext hB b10
                have hv10' := hv9.below b10
                clear b10 hts10 hv9
                go_wp2_with fail
                refine (Strings_any _ _ ts ts _ hv10 hv10' (by omega) (by omega)).mono ?_
                rintro e W11 ⟨rfl, b11⟩
                rw [decide_eq_true rfl]
                replace hB := bnext hB b11
                clear b11 hv10 hv10'
                go_wp2_with fail
                go_ret
                exact ⟨rfl, hB⟩
  · have hw : (decide ((40 : Int) < (ts.length : Int)) = true) ∨ (decide ((40 : Int) < (ts.length : Int)) = false ∧ decide ((300 : Int) < (s.size : Int)) = true) := by
      by_cases h : ts.length ≤ 40
      · exact .inr ⟨decide_eq_false (by omega), decide_eq_true (by omega)⟩
      · exact .inl (decide_eq_true (by omega))
    clear h1
    rcases hw with g1 | ⟨g1, g2⟩
    · go_enter Tryd.func12, Tryd.ntmps12
      go_wp2_with fail
      refine (small_any _).mono ?_
      rintro e W1 ⟨rfl, b1⟩
      go_wp2_with fail
      go_ret
      exact ⟨rfl, b1⟩
    · go_enter Tryd.func12, Tryd.ntmps12
      go_wp2_with fail
      refine (small_any _).mono ?_
      rintro e W1 ⟨rfl, b1⟩
      go_wp2_with fail
      go_ret
      exact ⟨rfl, b1⟩
end Go.Proofs.YtompmkcpicfdfaaDoor
