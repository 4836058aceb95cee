/- package codec: Unbase64. -/
import Derived.Test.YtompmkcpicfdfaaDoorUnb64Law
import Derived.Test.YtompmkcpicfdfaaDoorVals
import Derived.Test.YtompmkcpicfdfaaDoorStepB
import Derived.Test.YtompmkcpicfdfaaDoorEmp
import Derived.Maps.StringElems
namespace Go.Proofs.YtompmkcpicfdfaaDoor
open Go.RowKit Go.Maps
set_option linter.unusedVariables false
theorem TrimLeft_digits (s : ByteArray) (w : World) : Calls Tryd.prog 49 #[.string s, .string digS] w (SPost (s.data.toList.dropWhile isD) w) := by
  refine (Any.strings_TrimLeft_laid Tryd.lays161 (by kernel_rfl) s digS w (by decide) ?_).mono fun e w' ⟨h1, h2⟩ => ⟨⟨_, h1, ?_⟩, h2⟩
  · intro j b hb
    have hm : b ∈ dig64 := List.mem_of_getElem? hb
    have h2 := u8_all (p := fun c => !dig64.contains c || decide (c.toNat < 128)) (by decide +kernel) b
    have h3 : dig64.contains b = true := by simpa using hm
    rw [h3] at h2
    simpa using h2
  · show (Lib.trimLeftS s.data.toList dig64).toArray.toList = _
    unfold Lib.trimLeftS
    rfl
theorem map_keep {H : Type} {P : Program} {k : TypeId} {R : Value → Option (DataW H × List MemPlace)} {b n : Nat} {D : DataW H} {w w' : World} (h : w.ownsMap P k R b n D) (he : w'.heap[b]? = w.heap[b]?) : w'.ownsMap P k R b n D := by
  obtain ⟨es, clock, h1, h2⟩ := h
  exact ⟨es, clock, by rw [he]; exact h1, h2⟩
theorem map_lt {H : Type} {P : Program} {k : TypeId} {R : Value → Option (DataW H × List MemPlace)} {b n : Nat} {D : DataW H} {w : World} (h : w.ownsMap P k R b n D) : b < w.heap.size := by
  obtain ⟨es, clock, h1, _⟩ := h
  exact (Array.getElem?_eq_some_iff.1 h1).1
theorem run_string_sl {P : Program} {w : World} (src dst e : TypeId) (ad : Option Addr) (n cap : Nat) (l : List UInt8) (hs : P.underlying src = some (.slice e)) (he : P.underlying e = some (.int .u8)) (hd : P.underlying dst = some .string) (hS : Sl w 1 (.slice ad n cap) n (Lib.byteCells l)) :
    ∃ t : ByteArray, (convert src dst (.slice ad n cap)).run P w = .ok (.string t) w ∧ t.data.toList = l := by
  have hl : l.length = n := by have := hS.length; rw [Lib.byteCells_length] at this; omega
  by_cases h0 : n = 0
  · subst h0
    obtain rfl : l = [] := List.eq_nil_of_length_eq_zero hl
    refine ⟨ByteArray.empty, ?_, rfl⟩
    rw [run_convert_bytes_string w src dst e _ 0 cap hs he hd]
    cases ad with
    | none => simp [Conv.bytesToString]
    | some x => exact run_bytesToString w x 0 cap [] (by simp [loadCells, loadCellsFrom])
  · obtain ⟨b, off, cap', hv, _, _, _, hc⟩ := hS.at (by omega)
    injection hv with hv _ _
    subst hv hl
    refine ⟨⟨l.toArray⟩, run_convert_bytes_back w src dst e ⟨b, off, none⟩ cap l hs he hd fun j hj => ?_, by simp⟩
    rw [Addr.add_lit]
    exact hc j _ (by simp [Lib.byteCells, List.getElem?_map, List.getElem?_eq_getElem hj])
theorem lawI64 : Keyed Tryd.prog 3 := int_keyed Tryd.underlying3
theorem zeroStr (w : World) : (zeroValue 9).run Tryd.prog w = .ok (.string ByteArray.empty) w := by kernel_rfl
/-- the map of what is wanted -/
def padD : DataW Unit := (((DataW.map []).put (.int .i64 0) (.lit (.string []))).put (.int .i64 2) (.lit (.string [61, 61]))).put (.int .i64 3) (.lit (.string [61]))
theorem padD_has : ∀ m, m < 4 → Maps.has padD (.int .i64 (m : Nat)) = (wantPad m).isSome := by decide +kernel
def strOf : DataW Unit → List UInt8
  | .lit (.string l) => l
  | _ => [0]
theorem padD_at : ∀ m, m < 4 → ∀ p, wantPad m = some p → strOf (padD.atKey (.int .i64 (m : Nat)) (.lit (.string []))) = p := by
  intro m hm p hp
  have h : ∀ m, m < 4 → (wantPad m).all (fun p => strOf (padD.atKey (.int .i64 (m : Nat)) (.lit (.string []))) == p) = true := by decide +kernel
  have h2 := h m hm
  rw [hp] at h2
  simpa using h2
theorem wantPad_mod (n : Nat) : wantPad n = wantPad (n % 4) := by unfold wantPad; rw [Nat.mod_mod]
/-- The literal map, and what stands in it at a remainder. -/
theorem pads_run (w : World) : ∃ Wa Wb Wc, (Instr.mapUpdate 58 (.map (some w.heap.size)) (.int .i64 0) (.string ⟨#[]⟩)).run Tryd.prog (w.alloc (.map #[] 0)) = .ok () Wa ∧
    (Instr.mapUpdate 58 (.map (some w.heap.size)) (.int .i64 2) (.string ⟨#[61, 61]⟩)).run Tryd.prog Wa = .ok () Wb ∧
    (Instr.mapUpdate 58 (.map (some w.heap.size)) (.int .i64 3) (.string ⟨#[61]⟩)).run Tryd.prog Wb = .ok () Wc ∧ Below w.heap.size w Wc ∧
    ∀ m, m < 4 → ∃ pv : ByteArray, (Instr.lookup 58 (.map (some w.heap.size)) (.int .i64 (m : Nat)) true).run Tryd.prog Wc = .ok (.tuple #[.string pv, .bool (wantPad m).isSome]) Wc ∧ ∀ p, wantPad m = some p → pv.data.toList = p := by
  have h0 : (w.alloc (.map #[] 0)).ownsMap Tryd.prog 3 (plainElem (H := Unit) Tryd.prog 9) w.heap.size 0 (.map []) := World.ownsMap_made _ _ _ _
  obtain ⟨Wa, ra, oa, ga⟩ := h0.update (t := 58) (e := 9) lawI64 Tryd.underlying58 (by unfold maxLen; decide) (key := .int .i64 0) (val := .string ⟨#[]⟩) (keyOf_int_mk Tryd.underlying3 (by decide)) (plainElem_string Tryd.underlying9 (by decide))
  obtain ⟨Wb, rb, ob, gb⟩ := oa.update (t := 58) (e := 9) lawI64 Tryd.underlying58 (by unfold maxLen; decide) (key := .int .i64 2) (val := .string ⟨#[61, 61]⟩) (keyOf_int_mk Tryd.underlying3 (by decide)) (plainElem_string Tryd.underlying9 (by decide))
  obtain ⟨Wc, rc, oc, gc⟩ := ob.update (t := 58) (e := 9) lawI64 Tryd.underlying58 (by unfold maxLen; decide) (key := .int .i64 3) (val := .string ⟨#[61]⟩) (keyOf_int_mk Tryd.underlying3 (by decide)) (plainElem_string Tryd.underlying9 (by decide))
  have hk : ∀ j, some w.heap.size = some j → w.heap.size ≤ j := fun j hj => by cases hj; exact Nat.le_refl _
  have b1 : Below w.heap.size w Wa := ((Below.refl _ _).alloc (Nat.le_refl _) _).grown ga (by simp) hk
  have b2 := b1.grown gb b1.size hk
  have b3 := b2.grown gc b2.size hk
  refine ⟨Wa, Wb, Wc, ra, rb, rc, b3, fun m hm => ?_⟩
  obtain ⟨v, ps, hrun, hv⟩ := oc.look_ok lawI64 Tryd.underlying58 (zeroStr _) (plainElem_string Tryd.underlying9 (by decide)) (key := .int .i64 (m : Nat)) (keyOf_int_mk Tryd.underlying3 (WalkArith.wf_i64 (by omega)))
  obtain ⟨pv, rfl, hz, _⟩ := plainElem_string_inv Tryd.underlying9 hv
  refine ⟨pv, ?_, fun p hp => ?_⟩
  · rw [hrun, ← padD_has m hm]; rfl
  · rw [← padD_at m hm p hp]
    have h5 := congrArg Prod.fst hz
    have h6 : strOf (padD.atKey (.int .i64 (m : Nat)) (.lit (.string []))) = strOf (.lit (.string pv.data.toList)) := congrArg strOf h5
    rw [h6]; rfl
set_option maxRecDepth 100000 in
set_option maxHeartbeats 8000000 in
theorem Unbase64_any (s : ByteArray) (w : World) (hs : s.size < 4294967281) : Calls Tryd.prog 18 #[.string s] w (SBPost (unb s.data.toList).1 (unb s.data.toList).2 w) := by
  obtain ⟨i0, hi, hz0, hz1, hz2⟩ := info_parts infoByte_
  have hfl := List.length_filter_le nw s.data.toList
  rw [str_size] at hfl
  have h2 := wgo_length s.data.toList []
  rw [str_size] at h2
  simp only [List.length_nil, Nat.zero_add] at h2
  have hmm := @run_makeMap Tryd.prog
  go_enter Tryd.func18, Tryd.ntmps18
  go_wp2_with fail
  refine (Fields_any s _ hs).mono ?_
  rintro e W1 ⟨⟨v, ts, rfl, hv, ht⟩, b1⟩
  go_wp2_with fail
  have hl : ts.length = (wfields s.data.toList).length := by rw [← ht, List.length_map]
  refine (Join_any v ts ⟨#[]⟩ _ hv (by rw [hl]; unfold wfields; omega) (by rw [ht]; show (Lib.join (wfields s.data.toList) []).length ≤ _; rw [join_words]; omega)).mono ?_
  rw [ht, show (ByteArray.mk #[]).data.toList = [] from rfl, join_words]
  rintro e W2 ⟨⟨t, rfl, htd⟩, b2⟩
  have hB := bnext b1 b2
  have hts : t.size ≤ s.size := by rw [← str_size, htd]; exact hfl
  clear b1 b2 hv hl ht hfl h2
  have hfin : unb s.data.toList = dec64 t.data.toList := by rw [htd]; rfl
  clear htd
  replace hfin := Lib.hid hfin
  go_wp2_with (go_at_call 49; refine (TrimLeft_digits t _).mono ?_; rintro e W3 ⟨⟨q, rfl, hq⟩, b3⟩; have hql : q.size ≤ t.size := (by rw [← str_size q, hq, ← str_size t]; exact (List.dropWhile_suffix isD).length_le); obtain ⟨n, hn⟩ : ∃ n : Nat, t.size = q.size + n := ⟨t.size - q.size, by omega⟩; have hnn : (t.size : Int) - (q.size : Int) = (n : Int) := (by omega); have hnt : n ≤ t.size := (by omega); replace hn := Lib.hid hn)
  have htw := List.takeWhile_append_dropWhile (p := isD) (l := t.data.toList)
  have hnl : (t.data.toList.takeWhile isD).length = n := by
    have h5 := congrArg List.length htw
    rw [List.length_append, ← hq, str_size, str_size] at h5
    have := hn.out
    omega
  obtain ⟨c0, hc0⟩ : ∃ x, t.extract 0 n = x := ⟨_, rfl⟩
  obtain ⟨r0, hr0⟩ : ∃ x, t.extract n t.size = x := ⟨_, rfl⟩
  have hcd : c0.data.toList = t.data.toList.takeWhile isD := by
    rw [← hc0, str_extract, List.drop_zero]
    conv => lhs; rw [← htw]
    rw [← hnl, List.take_left]
  have hrd : r0.data.toList = t.data.toList.dropWhile isD := by
    rw [← hr0, str_extract, List.take_of_length_le (by rw [str_size]; exact Nat.le_refl _)]
    conv => lhs; rw [← htw]
    rw [← hnl, List.drop_left]
  have hcs : c0.size = n := by rw [← str_size, hcd, hnl]
  have hisd : ∀ c ∈ c0.data.toList, isD c = true := by rw [hcd]; exact fun c hc => mem_tw hc
  have hU : unb s.data.toList = (d64g c0.data.toList, padOk n r0.data.toList) := by rw [hfin.out]; unfold dec64; rw [hcd, hrd, hnl]
  have hB3 := bnext hB b3
  have i1 : (0 : Int) ≤ (n : Int) := by omega
  have i2 : (n : Int) ≤ (t.size : Int) := by omega
  clear hB b3 htw hnl hcd hrd hq
  replace hU := Lib.hid hU
  replace hisd := Lib.hid hisd
  replace hcs := Lib.hid hcs
  go_quiet (fail)
  have hB4 := bdrewN (n := nq) hB3
  obtain ⟨W4, hW4⟩ : ∃ W4, W3.drewN nq = W4 := ⟨_, rfl⟩
  rw [hW4] at hB4 ⊢
  clear hW4 hB3
  go_wp2_with (go_at_call 50; refine (values_any _).mono ?_; rintro e W5 ⟨rfl, hmap, b5⟩)
  have hz5 := map_lt hmap
  go_loopw [5, 8] (fun u v wr => ∃ (x : ByteArray) (pre : List UInt8), u = .string x ∧ wr.ownsRow W5.heap.size 5 1 v pre.length (Lib.byteCells pre) ∧ pre.length + x.size ≤ n ∧ Hid (d64g c0.data.toList = pre ++ d64g x.data.toList) ∧ Hid (∀ c ∈ x.data.toList, isD c = true) ∧ Below W5.heap.size W5 wr) (fun u _ _ => strLen u)
  case atStart => exact ⟨c0, [], rfl, World.ownsRow_nil _ _ _ _, by have := hcs.out; simp; omega, rfl, hisd, Below.refl _ _⟩
  case round =>
    obtain ⟨x, pre, rfl, hr, hsz, hE, hD, hBr⟩ := hrel
    obtain ⟨ao, cap, rfl⟩ := slice_of_own hr
    by_cases h0 : x.size = 0
    · have hemp := emp_yes h0
      have hfin : Hid (d64g c0.data.toList = pre) := by
        show _ = _
        rw [hE.out, show x.data.toList = [] from List.eq_nil_of_length_eq_zero (by rw [str_size]; exact h0)]; simp [d64g]
      clear hE hD h0
      obtain ⟨Wa, Wb, Wc, ra, rb, rc, b9, hlook⟩ := pads_run wr
      obtain ⟨m, hm⟩ : ∃ m, n % 4 = m := ⟨_, rfl⟩
      have hm4 : m < 4 := by omega
      have hnm : (n : Int) % 4 = (m : Int) := by omega
      obtain ⟨pv, hlk, hpv⟩ := hlook m hm4
      have hwp : wantPad n = wantPad m := by rw [wantPad_mod, hm]
      have hS := (Sl.of_own hr).below (b9 : Below wr.heap.size wr Wc)
      have hB9 := bnext hB4 (bnext b5 (bnext hBr b9))
      obtain ⟨o, ho, hod⟩ := run_string_sl (P := Tryd.prog) 24 9 5 ao pre.length cap pre Tryd.underlying24 Tryd.underlying5 Tryd.underlying9 hS
      clear hlook hr hm b9 hS
      replace hm4 := Lib.hid hm4
      replace hod := Lib.hid hod
      cases hw : wantPad m with
      | none =>
        rw [hw] at hlk
        have hU2 : padOk n r0.data.toList = false := by rw [padOk_want, hwp, hw]
        clear hwp hpv hw
        replace hU2 := Lib.hid hU2
        go_wp2_with fail
        go_ret2
        exact ⟨⟨o, by rw [hU.out, hU2.out]; rfl, by rw [hU.out, hod.out]; exact hfin.out.symm⟩, hB9⟩
      | some p =>
        rw [hw] at hlk
        have hp2 := hpv p hw
        have hU2 : padOk n r0.data.toList = (r0.toList == pv.toList) := by rw [padOk_want, hwp, hw, Lib.toList_data, Lib.toList_data, hp2]
        clear hwp hpv hw hp2
        replace hU2 := Lib.hid hU2
        go_wp2_with fail
        go_ret2
        exact ⟨⟨o, by rw [hU.out, hU2.out]; rfl, by rw [hU.out, hod.out]; exact hfin.out.symm⟩, hB9⟩
    · have hne := isEmpty_of h0
      have hm1 : min (4 : Int) (x.size : Int) = ((min 4 x.size : Nat) : Int) := by omega
      obtain ⟨k, hk⟩ : ∃ k, min 4 x.size = k := ⟨_, rfl⟩
      rw [hk] at hm1
      have hk4 : k ≤ 4 := by omega
      have hk1 : 1 ≤ k := by omega
      have hkx : k ≤ x.size := by omega
      have hkk : ∀ i, i < 4 → (i < k ↔ i < x.size) := fun i hi => by omega
      have hal := acc64_lt hD.out
      obtain ⟨W6, hW6⟩ : ∃ W6 : World, W6 = wr := ⟨_, rfl⟩
      subst hW6
      have hmap6 := map_keep hmap (hBr.block _ hz5)
      go_wp2_with fail
      go_loopw [9, 42] (fun bb ii wr => wr = W6 ∧ ∃ i : Nat, ii = .int .i64 i ∧ i ≤ 4 ∧ bb = .int .i64 (acc64 x.data.toList i : Nat)) (fun _ ii _ => 4 - (intOf ii).toNat)
      case atStart => exact ⟨rfl, 0, rfl, by omega, rfl⟩
      case round =>
        obtain ⟨rfl, i, rfl, hi4, rfl⟩ := hrel
        by_cases hi3 : i < 4
        · have hai : acc64 x.data.toList i < 262144 := by
            have h5 := hal i
            have h6 : 64 ^ i ≤ 64 ^ 3 := Nat.pow_le_pow_right (by decide) (by omega)
            omega
          obtain ⟨A, hA⟩ : ∃ A, acc64 x.data.toList i = A := ⟨_, rfl⟩
          have hstep : acc64 x.data.toList (i + 1) = acc64 x.data.toList i * 64 + (if i < x.data.toList.length then v64 (x.data.toList.getD i 0) else 0) := rfl
          rw [hA, str_size] at hstep
          rw [hA] at hai ⊢
          clear hA
          by_cases hik : i < k
          · have hix : i < x.size := (hkk i hi3).1 hik
            have g1 : decide ((i : Int) < (k : Int)) = true := decide_eq_true (by omega)
            have g2 : decide (i < k) = true := decide_eq_true hik
            rw [if_pos hix] at hstep
            obtain ⟨c, hc⟩ : ∃ c, x.data.toList.getD i 0 = c := ⟨_, rfl⟩
            have hxc := idx_at x i hix c hc
            have hcd : isD c = true := hD.out c (by rw [← hc, str_getD x i hix]; exact List.mem_of_getElem? (str_get x i hix))
            rw [hc] at hstep
            have hvl := v64_lt hcd
            have hva := vd_at c hcd
            have hkey : keyOf Tryd.prog 5 (.int .u8 c.toNat) = some (.int .u8 c.toNat) := keyOf_int_mk Tryd.underlying5 (WalkArith.wf_u8 (by have := u8lt c; omega))
            have hor : bits BinOp.or IntKind.i64 ((A : Int) * 64) ((v64 c : Nat) : Int) = ((A * 64 + v64 c : Nat) : Int) := by
              have h5 := i64_or_nat (A * 64) (v64 c) (by omega) (by omega)
              rw [nat_join 6 _ _ (by omega) (by omega)] at h5
              rw [← h5]; simp
            replace hc := Lib.hid hc
            replace hcd := Lib.hid hcd
            replace hstep := Lib.hid hstep
            replace hD := Lib.hid hD
            replace hal := Lib.hid hal
            replace hkk := Lib.hid hkk
            replace hva := Lib.hid hva
            go_wp2_with (at_lookup; refine wpList_lookup_own_int _ rfl _ _ 56 rfl 5 3 .i64 lawU8 Tryd.underlying56 Tryd.underlying3 (zeroInt _) W4.heap.size 64 _ rfl hmap6 _ _ rfl hkey ?_; intro cv hat hwc; have hcv := hva.out; rw [hat] at hcv; have hcv2 : cv = ((v64 c : Nat) : Int) := hcv; subst hcv2)
            refine ⟨⟨trivial, i + 1, by go_num, by omega, by rw [hstep.out]; simp⟩, by simp only [intOf]; go_num⟩
          · have hix : ¬ i < x.size := fun h => hik ((hkk i hi3).2 h)
            have g1 : decide ((i : Int) < (k : Int)) = false := decide_eq_false (by omega)
            have g2 : decide (i < k) = false := decide_eq_false hik
            rw [if_neg hix] at hstep
            replace hstep := Lib.hid hstep
            replace hD := Lib.hid hD
            replace hal := Lib.hid hal
            replace hkk := Lib.hid hkk
            go_wp2_with fail
            refine ⟨⟨trivial, i + 1, by go_num, by omega, by rw [hstep.out]; simp⟩, by simp only [intOf]; go_num⟩
        · obtain rfl : i = 4 := by omega
          obtain ⟨N, hN⟩ : ∃ N, acc64 x.data.toList 4 = N := ⟨_, rfl⟩
          have hNl := hal 4
          rw [hN] at hNl ⊢
          clear hal
          have hNl2 : N < 16777216 := hNl
          have hg3 : grp3 x.data.toList = [UInt8.ofNat (N / 65536), UInt8.ofNat (N / 256), UInt8.ofNat N] := by unfold grp3; rw [hN]
          have hst3 := d64g_step x.data.toList (fun h => h0 (by rw [← str_size, h]; rfl)) hD.out
          rw [str_size, hk] at hst3
          replace hN := Lib.hid hN
          replace hD := Lib.hid hD
          replace hkk := Lib.hid hkk
          clear hNl
          go_upto_region 17 with fail
          obtain ⟨W7, hW7⟩ : ∃ W7, wr.alloc (Obj.cells #[Value.int IntKind.u8 ((N : Int) / 65536), Value.int IntKind.u8 ((N : Int) / 256 % 256), Value.int IntKind.u8 ((N : Int) % 256)] 5) = W7 := ⟨_, rfl⟩
          have hh7 : W7.heap[wr.heap.size]? = some (.cells #[Value.int IntKind.u8 ((N : Int) / 65536), Value.int IntKind.u8 ((N : Int) / 256 % 256), Value.int IntKind.u8 ((N : Int) % 256)] 5 (0, 0)) := by rw [← hW7]; exact heap_alloc_new _ _
          have hb7 : Below wr.heap.size wr W7 := by rw [← hW7]; exact (Below.refl _ _).alloc (Nat.le_refl _) _
          have hr7 := own_bel hr hb7
          have hz7 := hb7.size
          have hzr := hBr.size
          have hB7 := hBr.trans (hb7.mono hzr)
          rw [hW7]
          clear hW7
          have hsrc : Src Tryd.prog 1 24 (.slice (some ⟨wr.heap.size, 0, none⟩) (k - 1) 3) (k - 1) (Lib.byteCells ((grp3 x.data.toList).take (k - 1))) W7 := by
            refine Src.ofSlice W7 Tryd.underlying24 ⟨wr.heap.size, 0, none⟩ (k - 1) 3 _ (by rw [Lib.byteCells_length, List.length_take, hg3]; simp; omega) (fun j u hu => ?_) (Lib.byteCells_one _)
            rw [Addr.add_lit, Nat.zero_add, Lib.cell_of_heap hh7]
            have hj := (List.getElem?_eq_some_iff.1 hu).1
            rw [Lib.byteCells_length, List.length_take] at hj
            rw [hg3] at hu hj
            simp only [List.length_cons, List.length_nil] at hj
            have hu2 : (Lib.byteCells [UInt8.ofNat (N / 65536), UInt8.ofNat (N / 256), UInt8.ofNat N])[j]? = some u := by
              rw [← hu, show Lib.byteCells (List.take (k - 1) [UInt8.ofNat (N / 65536), UInt8.ofNat (N / 256), UInt8.ofNat N]) = (Lib.byteCells [UInt8.ofNat (N / 65536), UInt8.ofNat (N / 256), UInt8.ofNat N]).take (k - 1) by simp [Lib.byteCells, List.map_take], List.getElem?_take_of_lt (by omega)]
            have hj3 : j = 0 ∨ j = 1 ∨ j = 2 := by omega
            rcases hj3 with rfl | rfl | rfl
            · simp [Lib.byteCells] at hu2
              rw [← hu2]; simp; omega
            · simp [Lib.byteCells] at hu2
              rw [← hu2]; simp
            · simp [Lib.byteCells] at hu2
              rw [← hu2]; simp
          have j1 : (0 : Int) ≤ (k : Int) - 1 := by omega
          have j2 : (k : Int) - 1 ≤ 3 := by omega
          have j3 : ((k : Int) - 1).toNat = k - 1 := by omega
          obtain ⟨x4, hx4⟩ : ∃ x4, x.extract k x.size = x4 := ⟨_, rfl⟩
          have hd4 : x4.data.toList = x.data.toList.drop 4 := by
            rw [← hx4, ext_drop, ← hk]
            rcases Nat.le_total 4 x.size with h | h
            · rw [Nat.min_eq_left h]
            · rw [Nat.min_eq_right h, List.drop_eq_nil_of_le (by rw [str_size]; exact Nat.le_refl _), List.drop_eq_nil_of_le (by rw [str_size]; exact h)]
          have hs4 : x4.size = x.size - k := by rw [← hx4, ext_size]
          have hE4 : Hid (d64g c0.data.toList = (pre ++ (grp3 x.data.toList).take (k - 1)) ++ d64g x4.data.toList) := by
            show _ = _
            rw [hE.out, hst3, hd4, List.append_assoc]
          have hD4 : Hid (∀ c ∈ x4.data.toList, isD c = true) := fun c hc => hD.out c (by rw [hd4] at hc; exact List.mem_of_mem_drop hc)
          have hgl : ((grp3 x.data.toList).take (k - 1)).length = k - 1 := by rw [List.length_take, hg3]; simp; omega
          clear hE hg3 hst3 hd4 hh7
          replace hgl := Lib.hid hgl
          replace hs4 := Lib.hid hs4
          have i5 : (0 : Int) ≤ (k : Int) := by omega
          have i6 : (k : Int) ≤ (x.size : Int) := by omega
          go_wp2_with ((with_reducible show wpList _ _ _ (⟨some 72, _, _, _, _, _⟩ :: _) _ _); refine wpList_append_src (o := ⟨some 72, _, _, _, _, _⟩) rfl (.tmp 67) (.tmp 71) 24 24 rfl W5.heap.size 5 i0 (.int .u8 0) 1 1 Tryd.underlying24 hi hz0 hz1 hz2 rfl (by decide) (.slice ao pre.length cap) pre.length _ rfl hr7 (.slice (some ⟨wr.heap.size, 0, none⟩) (k - 1) 3) rfl (k - 1) _ hsrc (by unfold maxLen; omega) (by omega) (by omega) ?_; intro v' w1 hown' hgrow _ _)
          have hgl2 := hgl.out
          have hs4' := hs4.out
          refine ⟨⟨x4, pre ++ (grp3 x.data.toList).take (k - 1), rfl, ?_, by rw [List.length_append]; omega, hE4, hD4, hB7.trans (below_grown hr7 (by omega) hgrow)⟩, by show x4.size < x.size; omega⟩
          rw [List.length_append, hgl2, show Lib.byteCells (pre ++ (grp3 x.data.toList).take (k - 1)) = Lib.byteCells pre ++ Lib.byteCells ((grp3 x.data.toList).take (k - 1)) by simp [Lib.byteCells]]
          exact hown'
end Go.Proofs.YtompmkcpicfdfaaDoor
