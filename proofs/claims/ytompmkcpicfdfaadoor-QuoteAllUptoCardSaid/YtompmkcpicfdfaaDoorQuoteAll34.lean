/- missivelaw34.QuoteAll: the walk. -/
import Derived.Test.YtompmkcpicfdfaaDoorQuoteZ
import Derived.Test.YtompmkcpicfdfaaDoorQAllLaw
namespace Go.Proofs.YtompmkcpicfdfaaDoor
open Go.RowKit
set_option linter.unusedVariables false
theorem trimL_len (s : List UInt8) (es : List (List UInt8)) (h : s.length ≤ 1000000) : (trimL s es).length ≤ 42 * s.length + 1 := by
  have h2 := wlines_count s
  have h1 := trimS_bound (es.map keysL) (wlines s) 0 (by omega)
  have h3 := lgo_size s []
  unfold trimL
  simp only [List.length_nil] at h3
  have h4 : (unl (wlines s)).length ≤ 2 * s.length + 1 := by simpa [wlines] using h3
  omega
theorem quoteL_snoc (m : List UInt8) (ls : List (List UInt8)) (x : List UInt8) : quoteL m (ls ++ [x]) = quoteL m ls ++ m ++ x ++ [10] := by simp [quoteL]
def goodAll (s a : ByteArray) (mark : ByteArray) : Prop := s.size ≤ 800 ∧ 3 ≤ (wlines s.data.toList).length ∧ a.size ≤ 500 ∧ (∀ x q, wlines a.data.toList = x :: q → qtd x = false) ∧ mark.data.toList ∈ marks3
theorem good_bool (G : Prop) : ∃ B : Bool, (G → B = false) ∧ (¬ G → B = true) := by
  by_cases h : G
  · exact ⟨false, fun _ => rfl, fun h2 => absurd h h2⟩
  · exact ⟨true, fun h2 => absurd h2 h, fun _ => rfl⟩
theorem str_ne {t u : ByteArray} (h : t.data.toList ≠ u.data.toList) : (t.toList == u.toList) = false := by
  rw [Lib.toList_data, Lib.toList_data]
  simpa using h
theorem mark_tests {m : ByteArray} (h : ¬ m.data.toList ∈ marks3) : (m.toList == [62]) = false ∧ (m.toList == [62, 32]) = false ∧ (m.toList == [32, 62, 32, 62, 32]) = false := by
  simp only [marks3, List.mem_cons, List.not_mem_nil, or_false, not_or] at h
  rw [Lib.toList_data]
  simpa using h
set_option maxRecDepth 100000 in
set_option maxHeartbeats 8000000 in
theorem all34_walk (s a mark : ByteArray) (w : World) (hs : s.size ≤ 1048576) (ha : a.size ≤ 1048576) (hmk : mark.size ≤ 1048576) (hP : Pow w) :
    Calls Tryd.prog 14 #[.string s, .string a, .string mark] w fun e w' => e = .returned (.bool true) ∧ Below w.heap.size w w' := by
  obtain ⟨B, hG1, hG2⟩ := good_bool (goodAll s a mark)
  replace hG1 := Lib.hid hG1
  replace hG2 := Lib.hid hG2
  replace hP := Lib.hid hP
  go_enter Tryd.func14, Tryd.ntmps14
  go_wp2_with fail
  refine (small34_any _ hP.out).mono ?_
  rintro e W1 ⟨rfl, b1⟩
  go_wp2_with fail
  refine (Lines_any s _ (by omega)).mono ?_
  rintro e W2 ⟨⟨lv, ls, rfl, hlv, hls⟩, b2⟩
  replace hls : bysL ls = wlines s.data.toList := hls
  have hB2 := bnext b1 b2
  clear b1 b2
  go_wp2_with fail
  refine (Lines_any a _ (by omega)).mono ?_
  rintro e W3 ⟨⟨mv, ms, rfl, hmv, hms⟩, b3⟩
  replace hms : bysL ms = wlines a.data.toList := hms
  have hB3 := bnext hB2 b3
  have hlv3 := Sl.below hlv b3
  clear hB2 b3 hlv
  obtain ⟨la, lc, rfl, hlc, hld⟩ := hlv3.val
  obtain ⟨ma, mc, rfl, hmc, hmd⟩ := hmv.val
  obtain ⟨hln, hlz⟩ := lines_sizes hls
  obtain ⟨hmn, hmz⟩ := lines_sizes hms
  have hll : (wlines s.data.toList).length = ls.length := by rw [← hls, bysL_len]
  replace hll := Lib.hid hll
  replace hls := Lib.hid hls
  replace hms := Lib.hid hms
  replace hlz := Lib.hid hlz
  replace hmz := Lib.hid hmz
  unfold maxLen at hld hmd
  go_upto_region 4 with fail
  go_cut [53] (fun v wx => v = .bool B ∧ wx = W3)
  case first =>
    by_cases c1 : s.size ≤ 800
    · have r1 : decide ((800 : Int) < (s.size : Int)) = false := decide_eq_false (by omega)
      have r1' : decide (800 < s.size) = false := decide_eq_false (by omega)
      by_cases c2 : 3 ≤ ls.length
      · have r2 : decide ((ls.length : Int) < 3) = false := decide_eq_false (by omega)
        have r2' : decide (ls.length < 3) = false := decide_eq_false (by omega)
        by_cases c3 : a.size ≤ 500
        · have r3 : decide ((500 : Int) < (a.size : Int)) = false := decide_eq_false (by omega)
          have r3' : decide (500 < a.size) = false := decide_eq_false (by omega)
          have hmw : (ms.length = 0 ∧ (∀ x q, wlines a.data.toList = x :: q → qtd x = false) ∧ decide ((0 : Int) < (ms.length : Int)) = false ∧ decide (0 < ms.length) = false) ∨ (∃ (bb oo : Nat) (x : ByteArray), decide ((0 : Int) < (ms.length : Int)) = true ∧ decide (0 < ms.length) = true ∧ 0 < ms.length ∧ ma = some ⟨bb, oo, none⟩ ∧ W3.cell? ⟨bb, oo, none⟩ = some (.string x) ∧ x.size ≤ 500 ∧ wlines a.data.toList = x.data.toList :: bysL (ms.drop 1)) := by
            by_cases h0 : ms.length = 0
            · left
              refine ⟨h0, fun x q h => ?_, decide_eq_false (by omega), decide_eq_false (by omega)⟩
              rw [← hms.out, List.eq_nil_of_length_eq_zero h0] at h
              cases h
            · right
              obtain ⟨bb, oo, dd, hee, _, _, hbb, hcell⟩ := Ss.at hmv (by omega)
              injection hee with hee
              have hpos : 0 < ms.length := by omega
              have hx := hcell 0 _ (List.getElem?_eq_getElem hpos)
              refine ⟨bb, oo, ms[0], decide_eq_true (by omega), decide_eq_true hpos, hpos, hee, by simpa using hx, Nat.le_trans (hmz.out _ (List.getElem_mem hpos)) c3, ?_⟩
              rw [← hms.out]
              have := List.drop_eq_getElem_cons hpos
              rw [List.drop_zero] at this
              conv => lhs; rw [this]
              rfl
          rcases hmw with ⟨h0, hno, p1, p2⟩ | ⟨bb, oo, x, p1, p2, hpos, rfl, x0, hxs, hwx⟩
          · replace h0 := Lib.hid h0
            by_cases hm : mark.data.toList ∈ marks3
            · have hB := hG1.out ⟨c1, by rw [hll.out]; exact c2, c3, hno, hm⟩
              subst hB
              clear hno
              simp only [marks3, List.mem_cons, List.not_mem_nil, or_false] at hm
              rcases hm with h | h | h
              all_goals
                obtain rfl := sb_of h
                go_wp2_with fail
                go_meet
                case rel => exact ⟨rfl, rfl⟩
            · have hB := hG2.out fun h => hm h.2.2.2.2
              subst hB
              obtain ⟨t1, t2, t3⟩ := mark_tests hm
              clear hno
              go_wp2_with fail
              go_meet
              case rel => exact ⟨rfl, rfl⟩
          · cases hq : qtd x.data.toList with
            | true =>
              have hB := hG2.out fun h => by
                have := h.2.2.2.1 _ _ hwx
                rw [hq] at this; cases this
              subst hB
              replace hq := Lib.hid hq
              replace hwx := Lib.hid hwx
              go_wp2_with (go_at_call 45; refine (RefQuoted_any x _ (by omega)).mono ?_; rw [hq.out]; rintro e w' ⟨rfl, rfl⟩)
              go_meet
              case rel => exact ⟨rfl, rfl⟩
            | false =>
              have hno : ∀ x' q, wlines a.data.toList = x' :: q → qtd x' = false := by
                intro x' q h
                rw [hwx] at h
                injection h with h1 h2
                rw [← h1]; exact hq
              replace hq := Lib.hid hq
              replace hwx := Lib.hid hwx
              by_cases hm : mark.data.toList ∈ marks3
              · have hB := hG1.out ⟨c1, by rw [hll.out]; exact c2, c3, hno, hm⟩
                subst hB
                clear hno
                simp only [marks3, List.mem_cons, List.not_mem_nil, or_false] at hm
                rcases hm with h | h | h
                all_goals
                  obtain rfl := sb_of h
                  go_wp2_with (go_at_call 45; refine (RefQuoted_any x _ (by omega)).mono ?_; rw [hq.out]; rintro e w' ⟨rfl, rfl⟩)
                  go_meet
                  case rel => exact ⟨rfl, rfl⟩
              · have hB := hG2.out fun h => hm h.2.2.2.2
                subst hB
                obtain ⟨t1, t2, t3⟩ := mark_tests hm
                clear hno
                go_wp2_with (go_at_call 45; refine (RefQuoted_any x _ (by omega)).mono ?_; rw [hq.out]; rintro e w' ⟨rfl, rfl⟩)
                go_meet
                case rel => exact ⟨rfl, rfl⟩
        · have r3 : decide ((500 : Int) < (a.size : Int)) = true := decide_eq_true (by omega)
          have r3' : decide (500 < a.size) = true := decide_eq_true (by omega)
          have hB := hG2.out fun h => c3 h.2.2.1
          subst hB
          go_wp2_with fail
          go_meet
          case rel => exact ⟨rfl, rfl⟩
      · have r2 : decide ((ls.length : Int) < 3) = true := decide_eq_true (by omega)
        have r2' : decide (ls.length < 3) = true := decide_eq_true (by omega)
        have hB := hG2.out fun h => c2 (by have := h.2.1; rw [hll.out] at this; exact this)
        subst hB
        go_wp2_with fail
        go_meet
        case rel => exact ⟨rfl, rfl⟩
    · have r1 : decide ((800 : Int) < (s.size : Int)) = true := decide_eq_true (by omega)
      have r1' : decide (800 < s.size) = true := decide_eq_true (by omega)
      have hB := hG2.out fun h => c1 h.1
      subst hB
      go_wp2_with fail
      go_meet
      case rel => exact ⟨rfl, rfl⟩
  case rest =>
    obtain ⟨rfl, rfl⟩ := hcut
    obtain ⟨W4, rfl⟩ : ∃ W4 : World, W4 = wc := ⟨_, rfl⟩
    by_cases hG : goodAll s a mark
    · obtain rfl := hG1.out hG
      obtain ⟨g1, g2, g3, g4, g5⟩ := hG
      have hmk5 : mark.size ≤ 5 := by
        simp only [marks3, List.mem_cons, List.not_mem_nil, or_false] at g5
        rw [← str_size]
        rcases g5 with h | h | h <;> rw [h] <;> decide
      have htr : trimL (quoteL mark.data.toList (wlines s.data.toList) ++ a.data.toList) [s.data.toList] = markL ls.length ++ [10] ++ trimL a.data.toList [s.data.toList] := by
        rw [trim_all g5 g2 g4, hll.out]
      have htl := trimL_len a.data.toList [s.data.toList] (by rw [str_size]; omega)
      rw [str_size] at htl
      have hmlen := markL_len (n := ls.length) (by omega)
      have hwt : wtrim mark.data.toList ≠ [] := by
        simp only [marks3, List.mem_cons, List.not_mem_nil, or_false] at g5
        rcases g5 with h | h | h <;> rw [h] <;> decide
      replace htr := Lib.hid htr
      replace hwt := Lib.hid hwt
      replace g4 := Lib.hid g4
      replace g5 := Lib.hid g5
      replace g2 := Lib.hid g2
      go_wp2_with fail
      go_loop [10, 11] (fun qq ii => ∃ (q : ByteArray) (i : Nat), qq = .string q ∧ ii = .int .i64 i ∧ i ≤ ls.length ∧ q.size ≤ 810 * i ∧ Hid (q.data.toList = quoteL mark.data.toList (bysL (ls.take i)))) (fun _ ii => ls.length - (intOf ii).toNat)
      case atStart => exact ⟨ByteArray.empty, 0, rfl, rfl, by omega, by decide, rfl⟩
      case round =>
        obtain ⟨q, i, rfl, rfl, hi, hqs, hq⟩ := hrel
        by_cases hlt : i < ls.length
        · have q1 : decide ((i : Int) < (ls.length : Int)) = true := decide_eq_true (by omega)
          have q2 : decide (i < ls.length) = true := decide_eq_true hlt
          obtain ⟨bb, oo, dd, hee, _, _, hbb, hcell⟩ := Ss.at hlv3 (by omega)
          cases hee
          have x0 := hcell i _ (List.getElem?_eq_getElem hlt)
          have hxs := hlz.out ls[i] (List.getElem_mem hlt)
          have hbt := bysL_take hlt
          obtain ⟨x, hx⟩ : ∃ x, ls[i] = x := ⟨_, rfl⟩
          rw [hx] at x0 hxs hbt
          have hq2 : Hid ((q ++ mark ++ x ++ (⟨#[10]⟩ : ByteArray)).data.toList = quoteL mark.data.toList (bysL (ls.take (i + 1)))) := by
            show _ = _
            rw [hbt, quoteL_snoc, app_list, app_list, app_list, hq.out]
          have hqb : q.size ≤ 648000 := by omega
          have hs2 : (q ++ mark ++ x ++ (⟨#[10]⟩ : ByteArray)).size ≤ 810 * (i + 1) := by
            rw [ByteArray.size_append, ByteArray.size_append, ByteArray.size_append]
            show q.size + mark.size + x.size + 1 ≤ _
            omega
          replace hs2 := Lib.hid hs2
          clear hcell hx hlv3 hbt
          go_wp2_with fail
          refine ⟨⟨_, i + 1, rfl, by go_num, hlt, hs2.out, hq2⟩, ?_⟩
          simp only [intOf]; omega
        · obtain rfl : i = ls.length := by omega
          have q1 : decide ((ls.length : Int) < (ls.length : Int)) = false := by simp
          have q2 : decide (ls.length < ls.length) = false := by simp
          have hqb : q.size ≤ 648000 := by omega
          have hqe : Hid (q.data.toList = quoteL mark.data.toList (wlines s.data.toList)) := by show _ = _; rw [hq.out, List.take_length, hls.out]
          have hzs : Hid (∀ x ∈ [s], x.size ≤ 1000000) := by
            show ∀ x ∈ _, _
            intro x hx
            rw [List.mem_singleton.1 hx]; omega
          have hP4 := hP.out.below hB3
          clear hq
          go_wp2_with fail
          refine (Decimal_any (ls.length : Int) _ (by omega) (by omega) hP4).mono ?_
          rintro e W5 ⟨⟨d, rfl, hd⟩, b5⟩
          have hds : d.size ≤ 20 := by
            rw [← str_size, hd]
            unfold markL at hmlen
            simp only [List.length_append, List.length_cons, List.length_nil] at hmlen
            omega
          have hB5 := bnext hB3 b5
          replace hd := Lib.hid hd
          clear b5
          go_wp2_with fail
          refine (QTrim_any a _ [s] _ (ss_one W5 s 9) (by omega) (by simp) hzs (hP.out.below (balloc hB5))).mono ?_
          rintro e W6 ⟨⟨t, rfl, ht⟩, b6⟩
          have hts : t.size ≤ 30000 := by rw [← str_size, ht, show bysL [s] = [s.data.toList] from rfl]; omega
          have hB6 := bnext (balloc hB5) b6
          replace ht := Lib.hid ht
          clear b6
          go_wp2_with fail
          refine (QTrim_any (q ++ a) _ [s] _ (ss_one W6 s 9) (by rw [ByteArray.size_append]; omega) (by simp) hzs (hP.out.below (balloc hB6))).mono ?_
          rintro e W7 ⟨⟨u, rfl, hu⟩, b7⟩
          have hB7 := bnext (balloc hB6) b7
          obtain rfl : u = (⟨#[91]⟩ : ByteArray) ++ d ++ (⟨#[32, 113, 117, 111, 116, 101, 100, 32, 108, 105, 110, 101, 115, 93, 10]⟩ : ByteArray) ++ t := str_inj (by
            rw [hu, app_list, app_list, app_list, app_list, hqe.out, ht.out, hd.out, show bysL [s] = [s.data.toList] from rfl, htr.out]
            unfold markL
            simp)
          have hse := same_eq ((⟨#[91]⟩ : ByteArray) ++ d ++ (⟨#[32, 113, 117, 111, 116, 101, 100, 32, 108, 105, 110, 101, 115, 93, 10]⟩ : ByteArray) ++ t)
          clear hu b7
          obtain ⟨tq, htq⟩ := ba_of (wtrim mark.data.toList)
          have hqem : tq.toList.isEmpty = false := by
            rw [Lib.toList_data, htq]
            cases h : wtrim mark.data.toList with
            | nil => exact absurd h hwt.out
            | cons _ _ => rfl
          replace htq := Lib.hid htq
          go_wp2_with (go_at_call 16; refine (Trim_any mark _ (by omega)).mono ?_; rintro e w' ⟨⟨q', rfl, hq'⟩, rfl⟩; obtain rfl : q' = tq := str_inj (hq'.trans htq.out.symm); clear hq')
          go_ret
          exact ⟨rfl, hB7⟩
    · obtain rfl := hG2.out hG
      go_wp2_with fail
      go_ret
      exact ⟨rfl, hB3⟩
end Go.Proofs.YtompmkcpicfdfaaDoor
