/- package text: words, Fields. -/
import Derived.Test.YtompmkcpicfdfaaDoorFieldsLaw
import Derived.Test.YtompmkcpicfdfaaDoorRange
import Derived.Shelf.Strings.SlTrimAscii
namespace Go.Proofs.YtompmkcpicfdfaaDoor
open Go.RowKit Go.Shelf
attribute [local go_sem] Oper.semAt_some
set_option linter.unusedVariables false
theorem TrimLeft_white (s : ByteArray) (w : World) : Calls Tryd.prog 49 #[.string s, .string ⟨#[32, 9, 13, 10]⟩] w (SPost (s.data.toList.dropWhile wh) w) := by
  refine (Any.strings_TrimLeft_laid Tryd.lays161 (by kernel_rfl) s ⟨#[32, 9, 13, 10]⟩ w (by decide) ?_).mono fun e w' ⟨h1, h2⟩ => ⟨⟨_, h1, ?_⟩, h2⟩
  · intro j b hb
    have hm : b ∈ whites := List.mem_of_getElem? hb
    simp [whites] at hm
    rcases hm with rfl | rfl | rfl | rfl <;> decide
  · have := trimLeft_white s.data.toList; simpa [whites] using this
theorem Clone_any (s : ByteArray) (w : World) (hs : s.size ≤ 281474976710656) : Calls Tryd.prog 65 #[.string s] w fun e w' => e = .returned (.string s) ∧ Below w.heap.size w w' := by
  go_enter Tryd.func65, Tryd.ntmps65
  go_wp2_with (go_at_call 95; refine (Tryd.stringslite_Clone _ _ hs).mono ?_; rintro e w' ⟨rfl, hb⟩)
  go_ret
  exact ⟨rfl, hb⟩
theorem grown_of_below {W W' : World} (h : Below W.heap.size W W') (r : Option Nat) : W.grownBy W' r := ⟨h.os, h.tape, h.output, h.size, fun k hk _ => h.block k hk⟩
/-- The length of the string in a box. -/
def boxLen (w : World) (b : Nat) : Nat := match w.cell? ⟨b, 0, none⟩ with
  | some (.string t) => t.size
  | _ => 0
theorem boxLen_eq {w : World} {b : Nat} {T : TypeId} {t : ByteArray} (h : Boxed w b T (.string t)) : boxLen w b = t.size := by rw [boxLen, h.cell]
theorem dw_idem (l : List UInt8) : (l.dropWhile wh).dropWhile wh = l.dropWhile wh := by
  cases h : l.dropWhile wh with
  | nil => rfl
  | cons c q => rw [List.dropWhile_cons, dw_head h]; rfl
set_option maxHeartbeats 2000000 in
theorem words_runs (n l Bs : Nat) (s : ByteArray) (hs : s.size < 4294967281) (J : List ByteArray → World → Prop) (hJ : StaysBox Bs J) (hY : RoundGoes Fence.wide (n - 1) Tryd.prog l Bs s.size (fun x => #[.string x]) J) (hn : 1 ≤ n)
    (W : World) (hbx : Boxed W Bs 9 (.string s)) (h0 : J [] W) :
    CallsIn Fence.wide n Tryd.prog 85 #[.func (.yield l) #[] #[], .pointer (some ⟨Bs, 0, none⟩)] W fun e W' => (∃ v, e = .returned v) ∧ ∃ xs : List ByteArray, xs.map (·.data.toList) = wfields s.data.toList ∧ J xs W' := by
  refine callsIn_of_wp Tryd.func85 rfl trivial ?_ rfl
  simp only [Tryd.ntmps85, List.size_toArray, List.length_cons, List.length_nil, Nat.reduceAdd, Nat.reduceSub, Array.replicate_succ, Array.replicate_zero, List.push_toArray, List.append_toArray, List.nil_append, List.cons_append]
  have hc0 := hbx.cell
  have hf0 := hbx.frozen
  gi_wp2_with (refine ⟨trivial, ?_⟩; gi_at_call 49; refine (callsIn_wide.2 (TrimLeft_white s W)).mono ?_; rintro e W1 ⟨⟨t1, rfl, ht1⟩, hb1⟩; have bx1 := hbx.kept (grown_of_below hb1 none) (by simp); have hJ1 := hJ _ _ _ h0 (grown_of_below hb1 _); have hc1 := bx1.cell; have hf1 := bx1.frozen)
  have hsz0 : s.data.toList.length = s.size := str_size s
  gi_loopw [3] (fun _ wr => ∃ (t : ByteArray) (pre : List ByteArray), Boxed wr Bs 9 (.string t) ∧ pre.length + t.size ≤ s.size ∧ J pre wr ∧ Hid (t.data.toList.dropWhile wh = t.data.toList) ∧ Hid (wfields s.data.toList = pre.map (·.data.toList) ++ wfields t.data.toList)) (fun _ wr => boxLen wr Bs)
  case atStart =>
    refine ⟨t1, [], bx1.set _, ?_, hJ _ _ _ hJ1 (grownBy_setCell' _ _ _), ?_, ?_⟩
    · rw [← str_size t1, ht1, ← str_size s]; simpa using (List.dropWhile_sublist wh (l := s.data.toList)).length_le
    · show _ = _; rw [ht1]; exact dw_idem _
    · show _ = _; rw [ht1, wfields_drop]; rfl
  case round =>
    obtain ⟨t, pre, bx, htl, hJr, hD, hE⟩ := hrel
    have hc := bx.cell
    have hf := bx.frozen
    by_cases h00 : t.size = 0
    · have hnil : t.data.toList = [] := List.eq_nil_of_length_eq_zero (by rw [str_size]; exact h00)
      obtain rfl : t = ByteArray.empty := str_inj (by rw [hnil]; rfl)
      have hE2 := hE.out
      rw [hnil, wfields_nil, List.append_nil] at hE2
      gi_wp2
      go_end0
      exact ⟨⟨_, rfl⟩, pre, hE2.symm, hJr⟩
    · have hne : t.toList.isEmpty = false := by
        rw [Lib.toList_data]
        cases h : t.data.toList with
        | nil => have := str_size t; rw [h] at this; simp at this; omega
        | cons _ _ => rfl
      have hcut : ∃ (m : Nat) (v : Int), Lib.indexAny t.data.toList whites = v ∧ ((v = -1 ∧ m = t.size) ∨ (v = m ∧ m < t.size)) ∧ m ≤ t.size ∧ 0 < m ∧ Hid (wfields t.data.toList = t.data.toList.take m :: wfields (t.data.toList.drop m)) := by
        have hD2 := hD.out
        have hL := str_size t
        rcases indexAny_cut t.data.toList with ⟨h1, h2⟩ | ⟨k, h1, h2, h3, c, q, h4, h5⟩
        · refine ⟨t.size, -1, h1, .inl ⟨rfl, rfl⟩, Nat.le_refl _, by omega, ?_⟩
          show _ = _
          have := wfields_first (x := t.data.toList) (r := []) h2 (by intro e; rw [e] at hL; simp at hL; omega) (.inl rfl)
          rw [List.append_nil] at this
          rw [List.take_of_length_le (by omega), List.drop_of_length_le (by omega)]; exact this
        · have hk0 : 0 < k := by
            rcases Nat.eq_zero_or_pos k with rfl | h6
            · rw [List.drop_zero] at h4
              rw [h4, List.dropWhile_cons, h5] at hD2
              have := congrArg List.length hD2
              have h7 : (q.dropWhile wh).length ≤ q.length := (List.dropWhile_sublist _).length_le
              simp at this; omega
            · exact h6
          refine ⟨k, k, h1, .inr ⟨rfl, by omega⟩, by omega, hk0, ?_⟩
          show _ = _
          have := wfields_first (x := t.data.toList.take k) (r := t.data.toList.drop k) h3 (by intro e; have := congrArg List.length e; rw [List.length_take] at this; simp only [List.length_nil] at this; omega) (.inr ⟨c, q, h4, h5⟩)
          rw [List.take_append_drop] at this; exact this
      obtain ⟨m, v, hv, hvm, hm, hm0, hW⟩ := hcut
      have hmi : (m : Int) ≤ (t.size : Int) := by omega
      obtain ⟨x, hx⟩ : ∃ x, t.extract 0 m = x := ⟨_, rfl⟩
      obtain ⟨r, hr⟩ : ∃ r, t.extract m t.size = r := ⟨_, rfl⟩
      have hxl : x.data.toList = t.data.toList.take m := by rw [← hx, str_extract]; simp
      have hrl : r.data.toList = t.data.toList.drop m := by rw [← hr, str_extract, List.take_of_length_le (by rw [str_size]; exact Nat.le_refl _)]
      have hxs : x.size ≤ t.size := by rw [← str_size x, hxl, List.length_take, str_size]; omega
      have hrs : r.size < t.size := by rw [← str_size r, hrl, List.length_drop, str_size]; omega
      have hE2 : Hid (wfields s.data.toList = (pre ++ [x]).map (·.data.toList) ++ wfields r.data.toList) := by
        show _ = _
        rw [hE.out, hW.out, hrl, List.map_append, List.append_assoc, ← hxl]; rfl
      replace hv := Lib.hid hv
      replace hxl := Lib.hid hxl
      replace hrl := Lib.hid hrl
      have hlen := boxLen_eq bx
      replace hlen := Lib.hid hlen
      have hvm2 : (v = -1 ∧ m = t.size ∧ r = ByteArray.empty) ∨ (v = m ∧ m < t.size) := by
        rcases hvm with ⟨h1, h2⟩ | h1
        · refine .inl ⟨h1, h2, str_inj ?_⟩
          rw [hrl.out, h2, List.drop_of_length_le (by rw [str_size]; exact Nat.le_refl _)]; rfl
        · exact .inr h1
      clear hvm
      rcases hvm2 with ⟨rfl, rfl, rfl⟩ | ⟨rfl, hmt⟩
      all_goals
        gi_wp2_with (refine ⟨trivial, ?_⟩; gi_at_call 86; refine (callsIn_wide.2 (IndexAny_white t wr (by omega))).mono ?_; rw [hv.out]; rintro e W2 ⟨rfl, hb2⟩; have bx2 := bx.kept (grown_of_below hb2 none) (by simp); have hJ2 := hJ _ _ _ hJr (grown_of_below hb2 _); clear bx hJr hc hf hb2; have hc := bx2.cell; have hf := bx2.frozen)
        refine ⟨trivial, ?_⟩
        refine (callsIn_wide.2 (Clone_any x W2 (by omega))).mono ?_
        rintro e W3 ⟨rfl, hb3⟩
        have bx3 := bx2.kept (grown_of_below hb3 none) (by simp)
        have hJ3 := hJ _ _ _ hJ2 (grown_of_below hb3 _)
        clear bx2 hJ2 hc hf hb3
        have hc := bx3.cell
        have hf := bx3.frozen
        obtain ⟨fn, tmps, assign, body, hy, hRd⟩ := hY pre x W3 hJ3 (by omega)
        gi_wp2
        refine hRd.mono ?_
        rintro e W4 ⟨rfl, hJ4, hbk, hsz⟩
        have bx4 : Boxed W4 Bs 9 (.string t) := hbk.trans bx3
        clear hc hf bx3 hy hRd hJ3
        have hc := bx4.cell
        have hf := bx4.frozen
        gi_wp2_with fail
        refine ⟨trivial, ?_⟩
        refine (callsIn_wide.2 (TrimLeft_white _ _)).mono ?_
        rintro e W6 ⟨⟨t2, rfl, ht2⟩, hb6⟩
        have bx6 := (bx4.set _).kept (grown_of_below hb6 none) (by simp)
        have hJ6 := hJ _ _ _ (hJ _ _ _ hJ4 (grownBy_setCell' _ _ _)) (grown_of_below hb6 _)
        clear hc hf bx4 hJ4 hb6
        have hc := bx6.cell
        have hf := bx6.frozen
        have ht2s : t2.size < t.size := by
          rw [← str_size t2, ht2]
          exact Nat.lt_of_le_of_lt (List.dropWhile_sublist _).length_le (by rw [str_size]; exact hrs)
        have hD2 : Hid (t2.data.toList.dropWhile wh = t2.data.toList) := by show _ = _; rw [ht2]; exact dw_idem _
        have hE3 : Hid (wfields s.data.toList = (pre ++ [x]).map (·.data.toList) ++ wfields t2.data.toList) := by show _ = _; rw [ht2, wfields_drop]; exact hE2.out
        replace ht2 := Lib.hid ht2
        gi_wp2_with fail
        go_roundw
        case rel => exact ⟨t2, pre ++ [x], bx6.set _, by simp; omega, hJ _ _ _ hJ6 (grownBy_setCell' _ _ _), hD2, hE3⟩
        case measure => rw [boxLen_eq (bx6.set _), hlen.out]; exact ht2s
/-- A slice of strings. -/
def Ss (w : World) (v : Value) (ts : List ByteArray) : Prop := Sl w 1 v ts.length (ts.map .string)
/-- The call returns a list of strings, told by their bytes; it has laid new blocks, at most. -/
def LPost (ls : List (List UInt8)) (w : World) (e : Ending) (w' : World) : Prop := (∃ v ts, e = .returned v ∧ Ss w' v ts ∧ ts.map (·.data.toList) = ls) ∧ Below w.heap.size w w'
theorem infoStr : (Tryd.prog.info? 9).map (fun i => (i.zero, i.size, i.bytes)) = some (some (.string ByteArray.empty), 1, 16) := by kernel_rfl
theorem words_any (s : ByteArray) (w : World) : CallsIn Fence.wide 5 Tryd.prog 58 #[.string s] w fun e w' => e = .returned (.func (.func 85) #[] #[.pointer (some ⟨w.heap.size, 0, none⟩)]) ∧ w' = w.alloc (.cells #[.string s] 9) := by
  refine callsIn_of_wp Tryd.func58 rfl trivial ?_ rfl
  simp only [Tryd.ntmps58, List.size_toArray, List.length_cons, List.length_nil, Nat.reduceAdd, Nat.reduceSub, Array.replicate_succ, Array.replicate_zero, List.push_toArray, List.append_toArray, List.nil_append, List.cons_append]
  gi_wp2
  go_ret
  exact ⟨rfl, rfl⟩
theorem Fields_any (s : ByteArray) (w : World) (hs : s.size < 4294967281) : Calls Tryd.prog 28 #[.string s] w (LPost (wfields s.data.toList) w) := by
  refine callsIn_wide (n := 6) |>.1 ?_
  refine callsIn_of_wp_marks Tryd.func28 rfl trivial ?_ rfl
  simp only [Tryd.ntmps28, List.size_toArray, List.length_cons, List.length_nil, Nat.reduceAdd, Nat.reduceSub, Array.replicate_succ, Array.replicate_zero, List.push_toArray, List.append_toArray, List.nil_append, List.cons_append]
  gi_wp2_with (refine ⟨trivial, ?_⟩; gi_at_call 58; refine (words_any s _).mono ?_; rintro e w' ⟨rfl, rfl⟩)
  obtain ⟨w2, hw2⟩ : ∃ W, (w.alloc (.cells #[.slice none 0 0] 32)).alloc (.cells #[.string s] 9) = W := ⟨_, rfl⟩
  have bO : Boxed w2 w.heap.size 32 (.slice none 0 0) := by rw [← hw2]; exact (Boxed.new w _ _).alloc _
  have bS : Boxed w2 (w.heap.size + 1) 9 (.string s) := by
    have := Boxed.new (w.alloc (.cells #[.slice none 0 0] 32)) 9 (.string s)
    rw [hw2, World.size_alloc] at this; exact this
  have s2 : w2.heap.size = w.heap.size + 2 := by rw [← hw2]; simp
  have hB2 : Below w.heap.size w w2 := by rw [← hw2]; exact ((Below.refl _ w).alloc (Nat.le_refl _) _).alloc (by simp) _
  rw [hw2]
  clear hw2
  obtain ⟨i0, hi, hz0, hz1, hz2⟩ := info_parts infoStr
  refine wpIn_rangeFunc_box (F := Fence.wide) rfl (by omega) (gf := 85) (lb := #[.pointer (some ⟨w.heap.size + 1, 0, none⟩)]) rfl trivial (enters_of Tryd.func85 (by kernel_rfl) rfl) (encs := fun x : ByteArray => #[.string x]) (b := w.heap.size + 1) (N := s.size) (by omega) (S := fun xs => xs.map (·.data.toList) = wfields s.data.toList)
    ?hseq (fun _ => rfl) (fun pre W => (∃ v, Boxed W w.heap.size 32 v ∧ W.ownsRow w2.heap.size 9 1 v pre.length (pre.map .string)) ∧ Below w.heap.size w W ∧ w2.heap.size ≤ W.heap.size) ?hI ?hIb ?h0 
    (fun x => { tmps := #[.string s, undef, .slice none 0 0, .pointer (some ⟨w.heap.size, 0, none⟩), .string x, .string s, .func (.func 85) #[] #[.pointer (some ⟨w.heap.size + 1, 0, none⟩)], .string x, undef, undef, undef, undef, undef], defers := [] }) ?assign ?body ?done
  case hseq =>
    intro l J W hW hJ hY h0
    exact words_runs _ l _ s hs J hJ hY (by omega) W (by rw [Boxed, hW.block _ bS.lt]; exact bS) h0
  case hI =>
    rintro pre A B row ⟨⟨v, hv, hr⟩, hb, hz⟩ hg hrow
    refine ⟨⟨v, hv.kept hg (fun e' => ?_), hr.kept hg (own_notcells hr fun r e => (hrow r e).2)⟩, hb.grown hg (by omega) (fun r e => by have := (hrow r e).1; omega), Nat.le_trans hz hg.size⟩
    obtain ⟨_, o, ho, hc⟩ := hrow _ e'.symm
    rw [show A.heap[w.heap.size]? = _ from hv] at ho; cases ho; cases hc
  case hIb =>
    rintro pre A B ⟨⟨v, hv, hr⟩, hb, hz⟩ hg
    exact ⟨⟨v, hv.kept hg (by simp), hr.kept hg (.inr (own_ne hr (.inl (by omega))))⟩, hb.grown hg (by omega) (fun r e => by cases e; omega), Nat.le_trans hz hg.size⟩
  case h0 => exact ⟨⟨_, bO, World.ownsRow_nil _ _ _ _⟩, hB2, Nat.le_refl _⟩
  case assign =>
    intro l x W K hK
    gi_wp2
    exact hK
  case body =>
    rintro l pre x W ⟨⟨v, hv, hr⟩, hb, hz⟩ hN
    have hvc := hv.cell
    have hvf := hv.frozen
    have hzw : w.heap.size ≤ w2.heap.size := by omega
    gi_wp2_with (gi_at_builtin; refine wpListIn_append_own _ rfl _ _ 32 rfl w2.heap.size 9 i0 (.string ByteArray.empty) 1 16 Tryd.underlying32 hi hz0 hz1 hz2 rfl (by decide) _ _ _ rfl (hr.alloc _) ⟨W.heap.size, 0, none⟩ 1 1 [.string x] rfl rfl (cell_one_new _ _ _) (by simp [Value.oneCell']) (by unfold maxLen; omega) (by omega) (by simp; omega) ?_; intro v' w1 hown' hgrow _; obtain ⟨g', cap', rfl⟩ := ownsRow_succ hown'; obtain ⟨hv1, hv2, hr2, hk2, hb2⟩ := hv.appended (n₀ := w.heap.size) (by decide) (own_mono hr hzw) (by omega) (Nat.le_refl _) (own_mono hown' hzw) hgrow; have hc1 := hv1.cell; have hf1 := hv1.frozen)
    have hbw1 : Below w2.heap.size W w1 := ((Below.refl _ W).alloc hz _).trans (below_grown (hr.alloc _) (by simp; omega) hgrow)
    refine ⟨hk2.from _, ?_, ⟨_, hv2, ?_⟩, hb.trans hb2, ?_⟩
    · rw [Below.heap_setCell _ _ _ _ (by simp), hbw1.block _ (by omega)]
    · have := own_set hown' (a := ⟨w.heap.size, 0, none⟩) (.slice (some ⟨g', 0, none⟩) (pre.length + 1) cap') (own_ne hown' (.inl (by simp; omega)))
      simpa using this
    · have := hbw1.size; simp; omega
  case done =>
    rintro D xs W hD hxs ⟨⟨v, hv, hr⟩, hb, hz⟩ hK
    have hvc := hv.cell
    gi_wp2
    refine ⟨by simp, .inl ⟨_, _, rfl, run_takeDeferred hK, ?_⟩⟩
    refine ⟨_, results_tmp rfl _ _ _, ⟨_, xs, rfl, ?_, hxs⟩, ?_⟩
    · have := Sl.of_own (ownsRow_putObj hr (.deferred none) hK rfl)
      exact this
    · exact hb.grown (grownBy_putObj' W D _) (by omega) (fun r e => by cases e; omega)
end Go.Proofs.YtompmkcpicfdfaaDoor
