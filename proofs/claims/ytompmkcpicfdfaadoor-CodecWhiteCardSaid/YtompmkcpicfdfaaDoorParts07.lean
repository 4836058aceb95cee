/- missivelaw07.CodecParts: the law and the walk. -/
import Derived.Test.YtompmkcpicfdfaaDoorBack07
import Derived.Test.YtompmkcpicfdfaaDoorRefB
namespace Go.Proofs.YtompmkcpicfdfaaDoor
open Go.RowKit
set_option linter.unusedVariables false
theorem enc64_no13 (l : List UInt8) (col : Nat) : ∀ c ∈ enc64 col l, c ≠ 13 := by
  intro c hc
  by_cases h : c = 10
  · subst h; decide
  · have h2 : c ∈ (enc64 col l).filter (fun c => c != 10) := List.mem_filter.2 ⟨hc, by simpa using h⟩
    rw [enc64_filter (p := fun c => c != 10) (fun n hn => by have := (D64_facts n hn).2.2.2.2.1; simpa using this) (by decide) (by decide)] at h2
    exact e64_all (p := fun c => c ≠ 13) (fun n hn => (D64_facts n hn).2.2.2.2.2.1) (by decide) l c h2
theorem lines_enc64 (l : List UInt8) : Lib.join (wlines (enc64 0 l)) [] = e64 l := by
  rw [join_nil_flatten, wlines_flat _ (enc64_no13 l 0), enc64_filter (p := fun c => c != 10) (fun n hn => by have := (D64_facts n hn).2.2.2.2.1; simpa using this) (by decide) (by decide)]
theorem e64_len (l : List UInt8) : (e64 l).length ≤ 2 * l.length + 5 := by
  rw [← enc64_filter (p := fun c => c != 10) (fun n hn => by have := (D64_facts n hn).2.2.2.2.1; simpa using this) (by decide) (by decide) l 0]
  exact Nat.le_trans (List.length_filter_le _ _) (enc64_len l 0)
theorem app_list (a b : ByteArray) : (a ++ b).data.toList = a.data.toList ++ b.data.toList := by rw [ByteArray.data_append, Array.toList_append]
set_option maxRecDepth 100000 in
set_option maxHeartbeats 8000000 in
theorem parts07_walk (s t : ByteArray) (w : World) (hs : s.size ≤ maxLen) (ht : t.size ≤ maxLen) :
    Calls Tryd.prog 7 #[.string s, .string t] w fun e w' => e = .returned (.bool true) ∧ Below w.heap.size w w' := by
  by_cases h1 : s.size ≤ 500 ∧ t.size ≤ 500
  · obtain ⟨hs5, ht5⟩ := h1
    have g1 : decide ((500 : Int) < (s.size : Int)) = false := decide_eq_false (by omega)
    have g2 : decide ((500 : Int) < (t.size : Int)) = false := decide_eq_false (by omega)
    have hl1 := (qall_len s.data.toList 0).2
    have hl2 := (qall_len t.data.toList 0).2
    have hl3 := (perc_len s.data.toList).2
    have hl4 := (perc_len t.data.toList).2
    rw [str_size] at hl1 hl2 hl3 hl4
    go_enter Tryd.func7, Tryd.ntmps7
    go_wp2_with fail
    refine (small07_any _).mono ?_
    rintro e W1 ⟨rfl, b1⟩
    go_wp2_with fail
    refine (Percent_any (s ++ t) _ (by rw [ByteArray.size_append]; omega)).mono ?_
    rintro e W2 ⟨⟨p, rfl, hp⟩, b2⟩
    have hB := bnext b1 b2
    clear b1 b2
    go_wp2_with fail
    refine (Percent_any s _ (by omega)).mono ?_
    rintro e W3 ⟨⟨p1, rfl, hp1⟩, b3⟩
    go_wp2_with fail
    refine (Percent_any t _ (by omega)).mono ?_
    rintro e W4 ⟨⟨p2, rfl, hp2⟩, b4⟩
    have hB4 := bnext (bnext hB b3) b4
    have hz1 : p1.size ≤ 1500 := by rw [← str_size, hp1]; omega
    have hz2 : p2.size ≤ 1500 := by rw [← str_size, hp2]; omega
    obtain rfl : p = p1 ++ p2 := str_inj (by rw [hp, app_list, app_list, hp1, hp2, perc_app])
    clear hB b3 b4 hp hp1 hp2
    have hse := same_eq (p1 ++ p2)
    go_wp2_with fail
    have hl5 := (qall_len (s.data.toList ++ 10 :: t.data.toList) 0).2
    have hsz : (s ++ (⟨#[10]⟩ : ByteArray) ++ t).size = s.size + 1 + t.size := by rw [ByteArray.size_append, ByteArray.size_append]; rfl
    refine (Quoted_any (s ++ (⟨#[10]⟩ : ByteArray) ++ t) _ (by rw [hsz]; omega)).mono ?_
    rintro e W5 ⟨⟨q, rfl, hq⟩, b5⟩
    have hB5 := bnext hB4 b5
    clear b5 hB4 hl5 hsz hse
    go_wp2_with fail
    refine (Quoted_any s _ (by omega)).mono ?_
    rintro e W6 ⟨⟨q1, rfl, hq1⟩, b6⟩
    have hy1 : q1.size ≤ 2500 := by rw [← str_size, hq1]; omega
    go_wp2_with fail
    refine (Quoted_any t _ (by omega)).mono ?_
    rintro e W7 ⟨⟨q2, rfl, hq2⟩, b7⟩
    have hB7 := bnext (bnext hB5 b6) b7
    have hy2 : q2.size ≤ 2500 := by rw [← str_size, hq2]; omega
    obtain rfl : q = q1 ++ (⟨#[10]⟩ : ByteArray) ++ q2 := str_inj (by
      rw [hq, app_list, app_list, app_list, app_list, hq1, hq2, List.append_assoc, List.append_assoc]
      exact qall_app _ 0 _)
    have hse := same_eq (q1 ++ (⟨#[10]⟩ : ByteArray) ++ q2)
    clear hB5 b6 b7 hq hq1 hq2 hl1 hl2 hl3 hl4
    by_cases h3 : s.size % 3 = 0
    · have k1 : ((s.size : Int) % 3 != 0) = false := by rw [bne_eq_false_iff_eq]; omega
      have k2 : (s.size : Int) % 3 = 0 := by omega
      have e1 := lines_enc64 s.data.toList
      have e2 := lines_enc64 t.data.toList
      have e3 := lines_enc64 (s.data.toList ++ t.data.toList)
      rw [e64_app _ _ (by rw [str_size]; exact h3)] at e3
      have n1 := enc64_len s.data.toList 0
      have n2 := enc64_len t.data.toList 0
      have n3 := enc64_len (s.data.toList ++ t.data.toList) 0
      have m1 := e64_len s.data.toList
      have m2 := e64_len t.data.toList
      rw [List.length_append] at n3
      rw [str_size] at n1 n2 m1 m2
      rw [str_size, str_size] at n3
      replace e1 := Lib.hid e1
      replace e2 := Lib.hid e2
      replace e3 := Lib.hid e3
      replace h3 := Lib.hid h3
      go_wp2_with fail
      refine (Base64_any s _ (by omega)).mono ?_
      rintro e X1 ⟨⟨a1, rfl, ha1⟩, c1⟩
      skip
      go_wp2_with fail
      refine (RefLines_any a1 _ (by rw [← str_size, ha1]; omega)).mono ?_
      rintro e Y1 ⟨⟨v1, ts1, rfl, hv1, hts1⟩, d1⟩
      go_wp2_with fail
      have hj1 : Lib.join (bysL ts1) [] = e64 s.data.toList := by rw [show bysL ts1 = wlines a1.data.toList from hts1, ha1]; exact e1.out
      refine (RefJoin_any v1 ts1 ⟨#[]⟩ _ hv1 (by rw [show (ByteArray.mk #[]).data.toList = [] from rfl, hj1]; omega)).mono ?_
      rw [show (ByteArray.mk #[]).data.toList = [] from rfl, hj1]
      rintro e Z1 ⟨⟨j1, rfl, hjd1⟩, f1⟩
      have hC1 := bnext (bnext (bnext hB7 c1) d1) f1
      clear c1 d1 f1 hv1 hts1 hj1 ha1
      have jz1 : j1.size ≤ 2000 := by rw [← str_size, hjd1]; omega
      replace hjd1 := Lib.hid hjd1
      go_wp2_with fail
      refine (Base64_any t _ (by omega)).mono ?_
      rintro e X2 ⟨⟨a2, rfl, ha2⟩, c2⟩
      skip
      go_wp2_with fail
      refine (RefLines_any a2 _ (by rw [← str_size, ha2]; omega)).mono ?_
      rintro e Y2 ⟨⟨v2, ts2, rfl, hv2, hts2⟩, d2⟩
      go_wp2_with fail
      have hj2 : Lib.join (bysL ts2) [] = e64 t.data.toList := by rw [show bysL ts2 = wlines a2.data.toList from hts2, ha2]; exact e2.out
      refine (RefJoin_any v2 ts2 ⟨#[]⟩ _ hv2 (by rw [show (ByteArray.mk #[]).data.toList = [] from rfl, hj2]; omega)).mono ?_
      rw [show (ByteArray.mk #[]).data.toList = [] from rfl, hj2]
      rintro e Z2 ⟨⟨j2, rfl, hjd2⟩, f2⟩
      have hC2 := bnext (bnext (bnext hC1 c2) d2) f2
      clear c2 d2 f2 hv2 hts2 hj2 ha2
      have jz2 : j2.size ≤ 2000 := by rw [← str_size, hjd2]; omega
      replace hjd2 := Lib.hid hjd2
      go_wp2_with fail
      refine (Base64_any (s ++ t) _ (by rw [ByteArray.size_append]; omega)).mono ?_
      rintro e X3 ⟨⟨a3, rfl, ha3⟩, c3⟩
      rw [app_list] at ha3
      go_wp2_with fail
      refine (RefLines_any a3 _ (by rw [← str_size, ha3]; omega)).mono ?_
      rintro e Y3 ⟨⟨v3, ts3, rfl, hv3, hts3⟩, d3⟩
      go_wp2_with fail
      have hj3 : Lib.join (bysL ts3) [] = e64 s.data.toList ++ e64 t.data.toList := by rw [show bysL ts3 = wlines a3.data.toList from hts3, ha3]; exact e3.out
      refine (RefJoin_any v3 ts3 ⟨#[]⟩ _ hv3 (by rw [show (ByteArray.mk #[]).data.toList = [] from rfl, hj3]; rw [List.length_append]; omega)).mono ?_
      rw [show (ByteArray.mk #[]).data.toList = [] from rfl, hj3]
      rintro e Z3 ⟨⟨j3, rfl, hjd3⟩, f3⟩
      have hC3 := bnext (bnext (bnext hC2 c3) d3) f3
      clear c3 d3 f3 hv3 hts3 hj3 ha3
      obtain rfl : j3 = j1 ++ j2 := str_inj (by rw [hjd3, app_list, hjd1.out, hjd2.out])
      have hse2 := same_eq (j1 ++ j2)
      clear hjd3
      go_wp2_with fail
      go_ret
      exact ⟨rfl, hC3⟩
    · have k1 : ((s.size : Int) % 3 != 0) = true := by rw [bne_iff_ne]; omega
      have k2 : ¬ (s.size : Int) % 3 = 0 := by omega
      go_wp2_with fail
      go_ret
      exact ⟨rfl, hB7⟩
  · have hw : (decide ((500 : Int) < (s.size : Int)) = true) ∨ (decide ((500 : Int) < (s.size : Int)) = false ∧ decide ((500 : Int) < (t.size : Int)) = true) := by
      by_cases h : s.size ≤ 500
      · exact .inr ⟨decide_eq_false (by omega), decide_eq_true (by omega)⟩
      · exact .inl (decide_eq_true (by omega))
    clear h1
    rcases hw with g1 | ⟨g1, g2⟩
    all_goals
      go_enter Tryd.func7, Tryd.ntmps7
      go_wp2_with fail
      refine (small07_any _).mono ?_
      rintro e W1 ⟨rfl, b1⟩
      go_wp2_with fail
      go_ret
      exact ⟨rfl, b1⟩
end Go.Proofs.YtompmkcpicfdfaaDoor
