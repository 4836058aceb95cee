/- missivelaw01.TextWords: the walk. -/
import Derived.Test.YtompmkcpicfdfaaDoorStrs
import Derived.Test.YtompmkcpicfdfaaDoorWordsLaw
import Derived.Test.YtompmkcpicfdfaaDoorSlG
namespace Go.Proofs.YtompmkcpicfdfaaDoor
open Go.RowKit
set_option linter.unusedVariables false
theorem white_any (c : UInt8) (w : World) : Calls Tryd.prog 29 #[.int .u8 c.toNat] w fun e w' => e = .returned (.bool (wh c)) ∧ w = w' := by
  go_enter Tryd.func29, Tryd.ntmps29
  go_wp2
  all_goals
    go_ret
    exact ⟨ret_bool (by rw [wh_eq, Bool.eq_iff_iff]; simp; omega), rfl⟩
theorem wgo_each : ∀ (r cur : List UInt8), ∀ x ∈ wgo cur r, x.length ≤ cur.length + r.length
  | [], cur, x, hx => by
    by_cases h : cur = []
    · subst h; cases hx
    · rw [wgo_nil cur h] at hx
      rw [List.mem_singleton.1 hx]; simp
  | c :: r, cur, x, hx => by
    rw [List.length_cons]
    cases hc : wh c
    · rw [wgo_byte hc] at hx
      have := wgo_each r _ x hx
      simp at this
      omega
    · by_cases h : cur = []
      · subst h; rw [wgo_white0 hc] at hx
        have := wgo_each r _ x hx
        simp at this ⊢
        omega
      · rw [wgo_white h hc] at hx
        rcases List.mem_cons.1 hx with rfl | hx
        · omega
        · have := wgo_each r _ x hx
          simp at this
          omega
/-- the list's bytes -/
def bys (ts : List ByteArray) : List (List UInt8) := ts.map (·.data.toList)
theorem bys_drop {ts : List ByteArray} {i : Nat} (h : i < ts.length) : (bys ts).drop i = ts[i].data.toList :: (bys ts).drop (i + 1) := by
  have h2 : i < (bys ts).length := by simpa [bys] using h
  rw [List.drop_eq_getElem_cons h2]
  simp [bys]
theorem dw_le (l : List UInt8) : (l.dropWhile wh).length ≤ l.length := (List.dropWhile_suffix wh).length_le
theorem wtrim_le (l : List UInt8) : (wtrim l).length ≤ l.length := by
  unfold wtrim rdrop
  rw [List.length_reverse]
  have h1 := dw_le (l.dropWhile wh).reverse
  have h2 := dw_le l
  rw [List.length_reverse] at h1
  omega
theorem one_strs (ts : List ByteArray) : ∀ u ∈ ts.map Value.string, u.oneCell' = true := by
  intro u hu
  obtain ⟨t, _, rfl⟩ := List.mem_map.1 hu
  rfl
theorem app_list2 (a b : ByteArray) : (a ++ (⟨#[10]⟩ : ByteArray) ++ b).data.toList = a.data.toList ++ 10 :: b.data.toList := by
  rw [ByteArray.data_append, Array.toList_append, ByteArray.data_append, Array.toList_append, List.append_assoc]; rfl
theorem bys_inj : ∀ {ts us : List ByteArray}, bys ts = bys us → ts = us
  | [], [], _ => rfl
  | t :: ts, u :: us, h => by
    simp only [bys, List.map_cons, List.cons.injEq] at h
    rw [str_inj h.1, bys_inj (ts := ts) (us := us) h.2]
  | [], u :: us, h => by simp [bys] at h
  | t :: ts, [], h => by simp [bys] at h
theorem both_size (a b : ByteArray) (ha : a.size ≤ 300) (hb : b.size ≤ 300) : (a ++ (⟨#[10]⟩ : ByteArray) ++ b).size < 4294967281 := by
  rw [ByteArray.size_append, ByteArray.size_append]
  show a.size + 1 + b.size < _
  omega
theorem isEmpty_no {t : ByteArray} (h : 0 < t.size) : t.toList.isEmpty = false := isEmpty_of (by omega)
theorem isEmpty_yes {t : ByteArray} (h : t.size = 0) : t.toList.isEmpty = true := by
  rw [Lib.toList_data, List.isEmpty_iff]; exact List.eq_nil_of_length_eq_zero (by rw [str_size]; exact h)
set_option maxRecDepth 100000 in
set_option maxHeartbeats 16000000 in
theorem words_walk (a b : ByteArray) (w : World) (ha : a.size ≤ maxLen) (hb : b.size ≤ maxLen) :
    Calls Tryd.prog 8 #[.string a, .string b] w fun e w' => e = .returned (.bool true) ∧ Below w.heap.size w w' := by
  by_cases h1 : a.size ≤ 300 ∧ b.size ≤ 300
  · obtain ⟨ha3, hb3⟩ := h1
    have g1 : decide ((300 : Int) < (a.size : Int)) = false := by simp; omega
    have g2 : decide ((300 : Int) < (b.size : Int)) = false := by simp; omega
    obtain ⟨i0, hif, hz0, hz1, hz2⟩ := info_parts infoStr
    go_enter Tryd.func8, Tryd.ntmps8
    go_wp2_with fail
    refine (small_any _).mono ?_
    rintro e W1 ⟨rfl, b1⟩
    go_wp2_with fail
    refine (Fields_any a _ (by omega)).mono ?_
    rintro e W2 ⟨⟨v, ts, rfl, hv, hts⟩, b2⟩
    have hB := bnext b1 b2
    clear b1 b2
    have hne : ∀ i, (h : i < ts.length) → ts[i].data.toList ≠ [] := fun i h => wgo_ne a.data.toList [] _ (by
      rw [show wgo [] a.data.toList = wfields a.data.toList from rfl, ← hts]
      exact List.mem_map.2 ⟨ts[i], List.getElem_mem h, rfl⟩)
    replace hts : bys ts = wgo [] a.data.toList := hts
    have hlen : ts.length ≤ 300 := by
      have := wgo_length a.data.toList []
      rw [← hts] at this
      simp [bys] at this
      omega
    obtain ⟨av, cv, rfl, hcv1, hcv2⟩ := hv.val
    go_wp2_with fail
    go_loopw [7, 8] (fun kk ii wr => Below W2.heap.size W2 wr ∧ ∃ (k i : Nat), kk = .int .i64 k ∧ ii = .int .i64 i ∧ k ≤ a.size ∧ i ≤ ts.length ∧ Hid (wgo [] (a.data.toList.drop k) = (bys ts).drop i)) (fun _ ii _ => ts.length - (intOf ii).toNat)
    case atStart => exact ⟨Below.refl _ _, 0, 0, rfl, rfl, by omega, by omega, hts.symm⟩
    case round =>
      obtain ⟨hBr, k, i, rfl, rfl, hk, hi, hinv⟩ := hrel
      by_cases hlt : i < ts.length
      · have q1 : decide ((i : Int) < (ts.length : Int)) = true := by simp; omega
        have q2 : decide (i < ts.length) = true := by simp; omega
        obtain ⟨bb, oo, dd, hee, _, _, hbb, hcell⟩ := (hv.below hBr).at (by omega)
        cases hee
        have x1 := hcell i _ (ss_get hlt)
        have hxne := hne i hlt
        have hd := bys_drop hlt
        obtain ⟨x, hx⟩ : ∃ x, ts[i] = x := ⟨_, rfl⟩
        rw [hx] at x1 hxne hd
        rw [hd] at hinv
        have hxe : x.toList.isEmpty = false := by
          rw [Lib.toList_data]; cases h : x.data.toList with
          | nil => exact absurd h hxne
          | cons _ _ => rfl
        have hxs : x.size ≤ 300 := by
          have h3 : x.data.toList ∈ wgo [] a.data.toList := by
            rw [← hts]; exact List.mem_map.2 ⟨ts[i], List.getElem_mem hlt, by rw [hx]⟩
          have h4 := wgo_each a.data.toList [] _ h3
          rw [str_size, str_size] at h4
          simp at h4
          omega
        clear hcell hd hv hne hts
        obtain ⟨W3, rfl⟩ : ∃ W3 : World, W3 = wr := ⟨_, rfl⟩
        go_wp2_with fail
        go_loopw [7, 9] (fun kk jj wr => Below W3.heap.size W3 wr ∧ ∃ (k j : Nat), kk = .int .i64 k ∧ jj = .int .i64 j ∧ k ≤ a.size ∧ j ≤ x.size ∧ Hid (wgo (x.data.toList.take j) (a.data.toList.drop k) = x.data.toList :: (bys ts).drop (i + 1))) (fun _ jj _ => x.size - (intOf jj).toNat)
        case atStart => exact ⟨Below.refl _ _, k, 0, rfl, rfl, hk, by omega, hinv⟩
        case round =>
          obtain ⟨hBi, k, j, rfl, rfl, hk, hj, hinv⟩ := hrel
          have y1 := bget hBi hbb x1
          have hBk := bnext hBr hBi
          by_cases hjt : j < x.size
          · have q3 : decide ((j : Int) < (x.size : Int)) = true := by simp; omega
            have q4 : decide (j < x.size) = true := by simp; omega
            have hjl : j < x.data.toList.length := by rw [str_size]; exact hjt
            obtain ⟨d, hd⟩ : ∃ d, x.data.toList.getD j 0 = d := ⟨_, rfl⟩
            have hyj := idx_at x j hjt d hd
            obtain ⟨W4, rfl⟩ : ∃ W4 : World, W4 = wr := ⟨_, rfl⟩
            go_wp2_with fail
            go_loopw [7] (fun kk wr => W4 = wr ∧ ∃ k : Nat, kk = .int .i64 k ∧ k ≤ a.size ∧ Hid (wgo (x.data.toList.take j) (a.data.toList.drop k) = x.data.toList :: (bys ts).drop (i + 1))) (fun kk _ => a.size - (intOf kk).toNat)
            case atStart => exact ⟨rfl, k, rfl, hk, hinv⟩
            case round =>
              obtain ⟨hWe, k, rfl, hk, hinv⟩ := hrel
              by_cases hkt : k < a.size
              · have q5 : decide ((k : Int) < (a.size : Int)) = true := by simp; omega
                have q6 : decide (k < a.size) = true := by simp; omega
                have q7 : ((k : Int) == (a.size : Int)) = false := by simp; omega
                obtain ⟨c, hc⟩ : ∃ c, a.data.toList.getD k 0 = c := ⟨_, rfl⟩
                have hyk := idx_at a k hkt c hc
                have hdr := getD_drop (P := a.data.toList) (p := k) (by rw [str_size]; exact hkt)
                rw [hc] at hdr
                have hinv2 := hinv.out
                rw [hdr] at hinv2
                cases hwc : wh c
                · obtain ⟨hcd, hnext⟩ := cur_byte hjl hwc hinv2
                  rw [hd] at hcd
                  subst hcd
                  replace hnext := Lib.hid hnext
                  clear hinv2 hdr
                  replace hc := Lib.hid hc
                  replace hd := Lib.hid hd
                  subst hWe
                  go_wp2_with fail
                  refine (white_any _ _).mono ?_
                  rintro e w' ⟨rfl, hww⟩
                  subst hww
                  rw [hwc]
                  go_wp2_with fail
                  go_quiet (fail)
                  have hBq := bdrewN (n := nq) hBi
                  go_wp2_with fail
                  go_roundw
                  case rel => exact ⟨hBq, k + 1, j + 1, by go_num, by go_num, hkt, hjt, hnext⟩
                  case measure => simp only [intOf]; go_num
                · have hnext := cur_white hjl hwc hinv2
                  replace hnext := Lib.hid hnext
                  clear hinv2 hdr
                  replace hc := Lib.hid hc
                  replace hd := Lib.hid hd
                  go_wp2_with fail
                  refine (white_any _ _).mono ?_
                  rintro e w' ⟨rfl, hww⟩
                  subst hww
                  rw [hwc]
                  go_wp2_with fail
                  go_roundw
                  case rel => exact ⟨hWe, k + 1, by go_num, hkt, hnext⟩
                  case measure => simp only [intOf]; go_num
              · exfalso
                have h5 := hinv.out
                rw [List.drop_eq_nil_of_le (by rw [str_size]; omega)] at h5
                exact cur_end hjl h5
          · obtain rfl : j = x.size := by omega
            have q3 : decide ((x.size : Int) < (x.size : Int)) = false := by simp
            have q4 : decide (x.size < x.size) = false := by simp
            have hnext : Hid (wgo [] (a.data.toList.drop k) = (bys ts).drop (i + 1)) := by
              have h5 := hinv.out
              rw [List.take_of_length_le (by rw [str_size]; exact Nat.le_refl _)] at h5
              exact cur_done hxne _ h5
            go_wp2_with fail
            go_roundw
            case rel => exact ⟨hBk, k, i + 1, rfl, by go_num, hk, hlt, hnext⟩
            case measure => simp only [intOf]; go_num
      · obtain rfl : i = ts.length := by omega
        have q1 : decide ((ts.length : Int) < (ts.length : Int)) = false := by simp
        have q2 : decide (ts.length < ts.length) = false := by simp
        have hend : Hid (wgo [] (a.data.toList.drop k) = []) := by
          have h5 := hinv.out
          have h6 : (bys ts).drop ts.length = [] := List.drop_eq_nil_of_le (by simp [bys])
          rw [h6] at h5
          exact h5
        clear hinv
        obtain ⟨W3, rfl⟩ : ∃ W3 : World, W3 = wr := ⟨_, rfl⟩
        go_wp2_with fail
        go_loopw [7] (fun kk wr => W3 = wr ∧ ∃ k : Nat, kk = .int .i64 k ∧ k ≤ a.size ∧ Hid (wgo [] (a.data.toList.drop k) = [])) (fun kk _ => a.size - (intOf kk).toNat)
        case atStart => exact ⟨rfl, k, rfl, hk, hend⟩
        case round =>
          obtain ⟨hWe, k, rfl, hk, hinv⟩ := hrel
          by_cases hkt : k < a.size
          · have q5 : decide ((k : Int) < (a.size : Int)) = true := by simp; omega
            have q6 : decide (k < a.size) = true := by simp; omega
            obtain ⟨c, hc⟩ : ∃ c, a.data.toList.getD k 0 = c := ⟨_, rfl⟩
            have hyk := idx_at a k hkt c hc
            have hdr := getD_drop (P := a.data.toList) (p := k) (by rw [str_size]; exact hkt)
            rw [hc] at hdr
            have hinv2 := hinv.out
            rw [hdr] at hinv2
            obtain ⟨hwc, hnext⟩ := rest_white hinv2
            replace hnext := Lib.hid hnext
            clear hinv2 hdr
            replace hc := Lib.hid hc
            go_wp2_with fail
            refine (white_any _ _).mono ?_
            rintro e w' ⟨rfl, hww⟩
            subst hww
            rw [hwc]
            go_wp2_with fail
            go_roundw
            case rel => exact ⟨hWe, k + 1, by go_num, hkt, hnext⟩
            case measure => simp only [intOf]; go_num
          · obtain rfl : k = a.size := by omega
            subst hWe
            have q5 : decide ((a.size : Int) < (a.size : Int)) = false := by simp
            have q6 : decide (a.size < a.size) = false := by simp
            have q7 : ((a.size : Int) != (a.size : Int)) = false := by simp
            have hv3 := hv.below hBr
            replace hB := bnext hB hBr
            clear hBr hv
            go_wp2_with fail
            refine (Trim_text a _ ha).mono ?_
            rintro e W4 ⟨⟨x, rfl, hx⟩, b4⟩
            replace hB := bnext hB b4
            have hv4 := hv3.below b4
            clear b4 hv3
            have hxs : x.size ≤ 300 := by
              have h1 := wtrim_le a.data.toList
              rw [← hx, str_size, str_size] at h1
              omega
            by_cases hx0 : x.size = 0
            · have hxe := isEmpty_yes hx0
              clear hne
              replace hx := Lib.hid hx
              go_wp2_with fail
              refine (Trim_text x _ (by unfold maxLen; omega)).mono ?_
              rintro e W5 ⟨⟨y, rfl, hy⟩, b5⟩
              obtain rfl : x = y := str_inj (by rw [hy, hx.out, wtrim_idem])
              replace hB := bnext hB b5
              replace hv4 := hv4.below b5
              clear b5 hy
              go_wp2_with fail
              refine (Fields_any x _ (by omega)).mono ?_
              rintro e W6 ⟨⟨v2, ts2, rfl, hv2, hts2⟩, b6⟩
              replace hB := bnext hB b6
              replace hv4 := hv4.below b6
              have hts' : ts = ts2 := bys_inj (by rw [hts]; exact (by rw [show bys ts2 = wfields x.data.toList from hts2, hx.out, wfields_trim]; rfl))
              subst hts'
              clear b6 hts2
              go_wp2_with fail
              refine (Strings_any _ _ ts ts _ hv2 hv4 (by omega) (by omega)).mono ?_
              rintro e W7 ⟨rfl, b7⟩
              rw [decide_eq_true rfl]
              replace hB := bnext hB b7
              replace hv4 := hv4.below b7
              clear b7 hv2
              go_wp2_with fail
              refine (Squeeze_any a _ (by omega)).mono ?_
              rintro e W8 ⟨⟨q, rfl, hq⟩, b8⟩
              replace hB := bnext hB b8
              replace hv4 := hv4.below b8
              clear b8
              have hqs : q.size ≤ 300 := by
                have h5 := wgo_join [32] (by decide) a.data.toList []
                rw [show wgo [] a.data.toList = wfields a.data.toList from rfl, ← hq, str_size, str_size] at h5
                simp at h5
                omega
              replace hq := Lib.hid hq
              go_wp2_with fail
              refine (Fields_any _ _ (both_size a b ha3 hb3)).mono ?_
              rintro e W9 ⟨⟨v3, ts3, rfl, hv3, hts3⟩, b9⟩
              replace hB := bnext hB b9
              replace hv4 := hv4.below b9
              clear b9
              obtain ⟨av3, cv3, rfl, hcv31, hcv32⟩ := hv3.val
              go_wp2_with fail
              refine (Squeeze_any q _ (by omega)).mono ?_
              rintro e W10 ⟨⟨q2, rfl, hq2⟩, b10⟩
              obtain rfl : q = q2 := str_inj (by rw [hq2, hq.out, wfields_squeeze])
              replace hB := bnext hB b10
              replace hv4 := hv4.below b10
              replace hv3 := hv3.below b10
              clear b10 hq2
              go_wp2_with fail
              refine (Fields_any q _ (by omega)).mono ?_
              rintro e W11 ⟨⟨v5, ts5, rfl, hv5, hts5⟩, b11⟩
              replace hB := bnext hB b11
              replace hv4 := hv4.below b11
              replace hv3 := hv3.below b11
              have hts' : ts = ts5 := bys_inj (by rw [hts]; exact (by rw [show bys ts5 = wfields q.data.toList from hts5, hq.out, wfields_squeeze]; rfl))
              subst hts'
              clear b11 hts5
              go_wp2_with fail
              refine (Strings_any _ _ ts ts _ hv5 hv4 (by omega) (by omega)).mono ?_
              rintro e W12 ⟨rfl, b12⟩
              rw [decide_eq_true rfl]
              replace hB := bnext hB b12
              replace hv4 := hv4.below b12
              replace hv3 := hv3.below b12
              clear b12 hv5
              have hts3' : ts3.map (·.data.toList) = bys ts ++ wgo [] b.data.toList := by
                rw [hts3, app_list2]
                unfold wfields
                rw [wgo_both (by decide), hts]
              have hl6 : (wgo [] b.data.toList).length ≤ 300 := by
                have := wgo_length b.data.toList []
                rw [str_size] at this
                simp at this
                omega
              clear hts3
              go_wp2_with (((with_reducible show wpList _ _ _ (⟨some 147, _, _, _, _, _⟩ :: _) _ _); refine wpList_append_srcG (o := ⟨some 147, _, _, _, _, _⟩) rfl (.tmp 145) (.tmp 146) 32 32 rfl W12.heap.size 9 i0 (.string ByteArray.empty) 1 16 Tryd.underlying32 hif hz0 hz1 hz2 rfl (by decide) (.slice (some ⟨W12.heap.size, 0, none⟩) 0 0) (0) ([]) rfl (World.ownsRow_made W12 #[] 0 (Nat.le_refl _) (Nat.zero_le _) rfl) (.slice av ts.length cv) rfl (ts.length) (ts.map .string) (Src.ofSl Tryd.underlying32 (hv4.alloc _) (one_strs _)) (by unfold maxLen; omega) (by omega) (by simp) ?_; intro v1 w1 own1 gr1 _ _; have c1 : Below W12.heap.size W12 w1 := ((Below.refl _ _).alloc (Nat.le_refl _) _).trans (below_grown (World.ownsRow_made W12 #[] 0 (base := W12.heap.size) (e := 9) (size := 1) (Nat.le_refl _) (Nat.zero_le _) rfl) (by simp) gr1); clear gr1))
              refine (Fields_any b _ (by omega)).mono ?_
              rintro e w2 ⟨⟨v6, ts6, rfl, hv6, hts6⟩, c2⟩
              replace own1 := own_bel own1 c2
              replace c1 := c1.trans (c2.mono c1.size)
              have hWs := hB.size
              replace hB := hB.trans (c1.mono hB.size)
              have hl6' : ts6.length ≤ 300 := by
                have := congrArg List.length hts6
                rw [List.length_map] at this
                unfold wfields at this
                omega
              obtain ⟨av6, cv6, rfl, hcv61, hcv62⟩ := hv6.val
              go_wp2_with (((with_reducible show wpList _ _ _ (⟨some 150, _, _, _, _, _⟩ :: _) _ _); refine wpList_append_srcG (o := ⟨some 150, _, _, _, _, _⟩) rfl (.tmp 147) (.tmp 149) 32 32 rfl W12.heap.size 9 i0 (.string ByteArray.empty) 1 16 Tryd.underlying32 hif hz0 hz1 hz2 rfl (by decide) v1 (0 + ts.length) ([] ++ ts.map .string) rfl own1 (.slice av6 ts6.length cv6) rfl (ts6.length) (ts6.map .string) (Src.ofSl Tryd.underlying32 hv6 (one_strs _)) (by unfold maxLen; omega) (by omega) c1.size ?_; intro v3 w3 own3 gr3 _ _; have c3 : Below W12.heap.size w2 w3 := below_grown own1 c1.size gr3; clear gr3))
              have hS3 : Ss w3 v3 (ts ++ ts6) := by
                have h5 := Sl.of_own own3
                unfold Ss
                rw [List.length_append, List.map_append]
                simpa using h5
              have he : ts3 = ts ++ ts6 := bys_inj (by
                rw [show bys ts3 = _ from hts3', show bys (ts ++ ts6) = bys ts ++ bys ts6 by simp [bys], show bys ts6 = wfields b.data.toList from hts6]; rfl)
              have hl3 : ts3.length ≤ 600 := by rw [he, List.length_append]; omega
              refine (Strings_any _ _ ts3 (ts ++ ts6) _ (hv3.below (c1.trans c3)) hS3 (by omega) (by rw [← he]; omega)).mono ?_
              rintro e W13 ⟨rfl, b13⟩
              rw [decide_eq_true he]
              go_wp2_with fail
              go_ret
              exact ⟨rfl, bnext (hB.trans (c3.mono hWs)) b13⟩
            · have hxe := isEmpty_no (t := x) (by omega)
              clear hne
              obtain ⟨c, hc⟩ : ∃ c, x.data.toList.getD 0 0 = c := ⟨_, rfl⟩
              have hi0 : ∀ W, (Instr.index 9 (.string x) (.int .i64 0)).run Tryd.prog W = .ok (.int .u8 c.toNat) W := fun W => idx_at x 0 (by omega) c hc W
              have hwc : wh c = false := by
                have h5 := getD_drop (P := x.data.toList) (p := 0) (by rw [str_size]; omega)
                rw [hc, List.drop_zero, hx] at h5
                exact wtrim_head h5
              obtain ⟨d, hd⟩ : ∃ d, x.data.toList.getD (x.size - 1) 0 = d := ⟨_, rfl⟩
              have hi1 : ∀ W, (Instr.index 9 (.string x) (.int .i64 ((x.size : Int) - 1))).run Tryd.prog W = .ok (.int .u8 d.toNat) W := fun W => by
                have h5 := idx_at x (x.size - 1) (by omega) d hd W
                rwa [show ((x.size - 1 : Nat) : Int) = (x.size : Int) - 1 by omega] at h5
              have hwd : wh d = false := by
                have h5 : x.data.toList ≠ [] := fun h => hx0 (by rw [← str_size, h]; rfl)
                have h6 := List.dropLast_concat_getLast h5
                have h7 : x.data.toList.getLast h5 = d := by
                  rw [← hd, List.getLast_eq_getElem, List.getD_eq_getElem?_getD, List.getElem?_eq_getElem (by rw [str_size]; omega)]
                  simp [str_size]
                rw [h7] at h6
                exact wtrim_last (q := x.data.toList.dropLast) (by rw [← hx]; exact h6.symm)
              replace hx := Lib.hid hx
              replace hc := Lib.hid hc
              replace hd := Lib.hid hd
              go_wp2_with fail
              refine (white_any _ _).mono ?_
              rintro e w' ⟨rfl, hww⟩
              subst hww
              rw [hwc]
              go_wp2_with fail
              refine (white_any _ _).mono ?_
              rintro e w' ⟨rfl, hww⟩
              subst hww
              rw [hwd]
              go_wp2_with fail
              refine (Trim_text x _ (by unfold maxLen; omega)).mono ?_
              rintro e W5 ⟨⟨y, rfl, hy⟩, b5⟩
              obtain rfl : x = y := str_inj (by rw [hy, hx.out, wtrim_idem])
              replace hB := bnext hB b5
              replace hv4 := hv4.below b5
              clear b5 hy
              go_wp2_with fail
              refine (Fields_any x _ (by omega)).mono ?_
              rintro e W6 ⟨⟨v2, ts2, rfl, hv2, hts2⟩, b6⟩
              replace hB := bnext hB b6
              replace hv4 := hv4.below b6
              have hts' : ts = ts2 := bys_inj (by rw [hts]; exact (by rw [show bys ts2 = wfields x.data.toList from hts2, hx.out, wfields_trim]; rfl))
              subst hts'
              clear b6 hts2
              go_wp2_with fail
              refine (Strings_any _ _ ts ts _ hv2 hv4 (by omega) (by omega)).mono ?_
              rintro e W7 ⟨rfl, b7⟩
              rw [decide_eq_true rfl]
              replace hB := bnext hB b7
              replace hv4 := hv4.below b7
              clear b7 hv2
              go_wp2_with fail
              refine (Squeeze_any a _ (by omega)).mono ?_
              rintro e W8 ⟨⟨q, rfl, hq⟩, b8⟩
              replace hB := bnext hB b8
              replace hv4 := hv4.below b8
              clear b8
              have hqs : q.size ≤ 300 := by
                have h5 := wgo_join [32] (by decide) a.data.toList []
                rw [show wgo [] a.data.toList = wfields a.data.toList from rfl, ← hq, str_size, str_size] at h5
                simp at h5
                omega
              replace hq := Lib.hid hq
              go_wp2_with fail
              refine (Fields_any _ _ (both_size a b ha3 hb3)).mono ?_
              rintro e W9 ⟨⟨v3, ts3, rfl, hv3, hts3⟩, b9⟩
              replace hB := bnext hB b9
              replace hv4 := hv4.below b9
              clear b9
              obtain ⟨av3, cv3, rfl, hcv31, hcv32⟩ := hv3.val
              go_wp2_with fail
              refine (Squeeze_any q _ (by omega)).mono ?_
              rintro e W10 ⟨⟨q2, rfl, hq2⟩, b10⟩
              obtain rfl : q = q2 := str_inj (by rw [hq2, hq.out, wfields_squeeze])
              replace hB := bnext hB b10
              replace hv4 := hv4.below b10
              replace hv3 := hv3.below b10
              clear b10 hq2
              go_wp2_with fail
              refine (Fields_any q _ (by omega)).mono ?_
              rintro e W11 ⟨⟨v5, ts5, rfl, hv5, hts5⟩, b11⟩
              replace hB := bnext hB b11
              replace hv4 := hv4.below b11
              replace hv3 := hv3.below b11
              have hts' : ts = ts5 := bys_inj (by rw [hts]; exact (by rw [show bys ts5 = wfields q.data.toList from hts5, hq.out, wfields_squeeze]; rfl))
              subst hts'
              clear b11 hts5
              go_wp2_with fail
              refine (Strings_any _ _ ts ts _ hv5 hv4 (by omega) (by omega)).mono ?_
              rintro e W12 ⟨rfl, b12⟩
              rw [decide_eq_true rfl]
              replace hB := bnext hB b12
              replace hv4 := hv4.below b12
              replace hv3 := hv3.below b12
              clear b12 hv5
              have hts3' : ts3.map (·.data.toList) = bys ts ++ wgo [] b.data.toList := by
                rw [hts3, app_list2]
                unfold wfields
                rw [wgo_both (by decide), hts]
              have hl6 : (wgo [] b.data.toList).length ≤ 300 := by
                have := wgo_length b.data.toList []
                rw [str_size] at this
                simp at this
                omega
              clear hts3
              go_wp2_with (((with_reducible show wpList _ _ _ (⟨some 147, _, _, _, _, _⟩ :: _) _ _); refine wpList_append_srcG (o := ⟨some 147, _, _, _, _, _⟩) rfl (.tmp 145) (.tmp 146) 32 32 rfl W12.heap.size 9 i0 (.string ByteArray.empty) 1 16 Tryd.underlying32 hif hz0 hz1 hz2 rfl (by decide) (.slice (some ⟨W12.heap.size, 0, none⟩) 0 0) (0) ([]) rfl (World.ownsRow_made W12 #[] 0 (Nat.le_refl _) (Nat.zero_le _) rfl) (.slice av ts.length cv) rfl (ts.length) (ts.map .string) (Src.ofSl Tryd.underlying32 (hv4.alloc _) (one_strs _)) (by unfold maxLen; omega) (by omega) (by simp) ?_; intro v1 w1 own1 gr1 _ _; have c1 : Below W12.heap.size W12 w1 := ((Below.refl _ _).alloc (Nat.le_refl _) _).trans (below_grown (World.ownsRow_made W12 #[] 0 (base := W12.heap.size) (e := 9) (size := 1) (Nat.le_refl _) (Nat.zero_le _) rfl) (by simp) gr1); clear gr1))
              refine (Fields_any b _ (by omega)).mono ?_
              rintro e w2 ⟨⟨v6, ts6, rfl, hv6, hts6⟩, c2⟩
              replace own1 := own_bel own1 c2
              replace c1 := c1.trans (c2.mono c1.size)
              have hWs := hB.size
              replace hB := hB.trans (c1.mono hB.size)
              have hl6' : ts6.length ≤ 300 := by
                have := congrArg List.length hts6
                rw [List.length_map] at this
                unfold wfields at this
                omega
              obtain ⟨av6, cv6, rfl, hcv61, hcv62⟩ := hv6.val
              go_wp2_with (((with_reducible show wpList _ _ _ (⟨some 150, _, _, _, _, _⟩ :: _) _ _); refine wpList_append_srcG (o := ⟨some 150, _, _, _, _, _⟩) rfl (.tmp 147) (.tmp 149) 32 32 rfl W12.heap.size 9 i0 (.string ByteArray.empty) 1 16 Tryd.underlying32 hif hz0 hz1 hz2 rfl (by decide) v1 (0 + ts.length) ([] ++ ts.map .string) rfl own1 (.slice av6 ts6.length cv6) rfl (ts6.length) (ts6.map .string) (Src.ofSl Tryd.underlying32 hv6 (one_strs _)) (by unfold maxLen; omega) (by omega) c1.size ?_; intro v3 w3 own3 gr3 _ _; have c3 : Below W12.heap.size w2 w3 := below_grown own1 c1.size gr3; clear gr3))
              have hS3 : Ss w3 v3 (ts ++ ts6) := by
                have h5 := Sl.of_own own3
                unfold Ss
                rw [List.length_append, List.map_append]
                simpa using h5
              have he : ts3 = ts ++ ts6 := bys_inj (by
                rw [show bys ts3 = _ from hts3', show bys (ts ++ ts6) = bys ts ++ bys ts6 by simp [bys], show bys ts6 = wfields b.data.toList from hts6]; rfl)
              have hl3 : ts3.length ≤ 600 := by rw [he, List.length_append]; omega
              refine (Strings_any _ _ ts3 (ts ++ ts6) _ (hv3.below (c1.trans c3)) hS3 (by omega) (by rw [← he]; omega)).mono ?_
              rintro e W13 ⟨rfl, b13⟩
              rw [decide_eq_true he]
              go_wp2_with fail
              go_ret
              exact ⟨rfl, bnext (hB.trans (c3.mono hWs)) b13⟩
  · have hw : (decide ((300 : Int) < (a.size : Int)) = true) ∨ (decide ((300 : Int) < (a.size : Int)) = false ∧ decide ((300 : Int) < (b.size : Int)) = true) := by
      by_cases h : a.size ≤ 300
      · right; simp; omega
      · left; simp; omega
    clear h1
    rcases hw with g1 | ⟨g1, g2⟩
    · go_enter Tryd.func8, Tryd.ntmps8
      go_wp2_with fail
      refine (small_any _).mono ?_
      rintro e W1 ⟨rfl, b1⟩
      go_wp2_with fail
      go_ret
      exact ⟨rfl, b1⟩
    · go_enter Tryd.func8, Tryd.ntmps8
      go_wp2_with fail
      refine (small_any _).mono ?_
      rintro e W1 ⟨rfl, b1⟩
      go_wp2_with fail
      go_ret
      exact ⟨rfl, b1⟩
end Go.Proofs.YtompmkcpicfdfaaDoor
