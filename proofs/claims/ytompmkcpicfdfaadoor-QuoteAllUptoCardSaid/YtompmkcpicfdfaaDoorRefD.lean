/- missiveref01: Unlines, Decimal. -/
import Derived.Test.YtompmkcpicfdfaaDoorRefC
import Derived.Test.YtompmkcpicfdfaaDoorNumLaw
import Derived.Deep.RegionWith
namespace Go.Proofs.YtompmkcpicfdfaaDoor
open Go.RowKit
set_option linter.unusedVariables false
set_option maxRecDepth 100000 in
set_option maxHeartbeats 4000000 in
theorem RefUnlines_any (v : Value) (ts : List ByteArray) (w : World) (hv : Ss w v ts) (hlen : (unl (bysL ts)).length ≤ 140737488355328) :
    Calls Tryd.prog 74 #[v] w (SPost (unl (bysL ts)) w) := by
  obtain ⟨i0, hi, hz0, hz1, hz2⟩ := info_parts infoByte_
  obtain ⟨a1, c1, rfl, hc1, hd1⟩ := hv.val
  have hm : ts.length ≤ 9223372036854775807 := by unfold maxLen at hd1; omega
  go_enter Tryd.func74, Tryd.ntmps74
  go_wp2_with fail
  go_loopw [3, 4] (fun u ii wr => ∃ (i : Nat), ii = .int .i64 i ∧ i ≤ ts.length ∧ wr.ownsRow w.heap.size 5 1 u (unl (bysL (ts.take i))).length (Lib.byteCells (unl (bysL (ts.take i)))) ∧ Below w.heap.size w wr) (fun _ ii _ => ts.length - (intOf ii).toNat)
  case atStart => exact ⟨0, rfl, by omega, World.ownsRow_nil _ _ _ _, Below.refl _ _⟩
  case round =>
    obtain ⟨i, rfl, hi2, hr, hB⟩ := hrel
    have hzB := hB.size
    by_cases hlt : i < ts.length
    · have q1 : decide ((i : Int) < (ts.length : Int)) = true := decide_eq_true (by omega)
      have q2 : decide (i < ts.length) = true := decide_eq_true hlt
      obtain ⟨bb, oo, dd, hee, _, _, hbb, hcell⟩ := Ss.at hv (by omega)
      cases hee
      have x0 := hcell i _ (List.getElem?_eq_getElem hlt)
      have htk := bysL_take hlt
      have hle := unl_take_le ts (i + 1)
      obtain ⟨x, hx⟩ : ∃ x, ts[i] = x := ⟨_, rfl⟩
      rw [hx] at x0 htk
      rw [htk, unl_snoc] at hle
      simp only [List.length_append, List.length_cons, List.length_nil, str_size] at hle
      obtain ⟨acc, hacc⟩ : ∃ acc, unl (bysL (ts.take i)) = acc := ⟨_, rfl⟩
      rw [hacc] at hr hle
      have hfin : Hid (unl (bysL (ts.take (i + 1))) = acc ++ x.data.toList ++ [10]) := by show _ = _; rw [htk, unl_snoc, hacc, ← List.append_assoc]
      have x1 : wr.cell? ⟨bb, oo + i, none⟩ = some (.string x) := (hB.cell (p := ⟨bb, oo + i, none⟩) hbb).trans x0
      clear hcell hx hv htk hacc
      go_wp2_with (first
        | ((with_reducible show wpList _ _ _ (⟨some 16, _, _, _, _, _⟩ :: _) _ _); refine Lib.wpList_append_own_string (o := ⟨some 16, _, _, _, _, _⟩) _ rfl (.tmp 11) (.tmp 15) 24 9 rfl w.heap.size 5 i0 Tryd.underlying24 Tryd.underlying9 hi hz0 hz1 hz2 _ _ _ rfl hr x rfl (by unfold maxLen; omega) (by omega) (by omega) ?_; intro v1 w1 hown1 hgrow1 _; have hB1 : Below w.heap.size w w1 := hB.trans (below_grown hr (by omega) hgrow1); have hz1' := hB1.size; clear hr hgrow1 hB x1)
        | ((with_reducible show wpList _ _ _ (⟨some 18, _, _, _, _, _⟩ :: _) _ _); refine wpList_append_own (o := ⟨some 18, _, _, _, _, _⟩) _ rfl (.tmp 16) (.tmp 17) 24 rfl w.heap.size 5 i0 (.int .u8 0) 1 1 Tryd.underlying24 hi hz0 hz1 hz2 rfl (by decide) v1 _ _ rfl (hown1.alloc _) ⟨w1.heap.size, 0, none⟩ 1 1 [.int .u8 10] rfl rfl (cell_one_new _ _ _) (by simp [Value.oneCell']) (by unfold maxLen; omega) (by omega) (by simp; omega) ?_; intro v2 w2 hown2 hgrow2 _))
      have hB3 : Below w.heap.size w w2 := (hB1.alloc (by omega) _).trans (below_grown (hown1.alloc _) (by simp; omega) hgrow2)
      go_roundw
      case rel => exact ⟨i + 1, by go_num, by omega, by rw [hfin.out, List.length_append, List.length_append, str_size, bytes_app, bytes_app, ← strCells_bytes]; exact hown2, hB3⟩
      case measure => simp only [intOf]; go_num
    · obtain rfl : i = ts.length := by omega
      have q1 : decide ((ts.length : Int) < (ts.length : Int)) = false := by simp
      have q2 : decide (ts.length < ts.length) = false := by simp
      rw [List.take_length] at hr
      obtain ⟨ao, cap, rfl⟩ := slice_of_own hr
      have hS := Sl.of_own hr
      replace hr := Lib.hid hr
      go_wp2_with (refine wpList_string_of rfl 24 9 5 (.tmp 19) rfl _ _ cap _ rfl Tryd.underlying24 Tryd.underlying5 Tryd.underlying9 hS ?_; intro q hq)
      go_ret
      exact ⟨⟨q, rfl, hq⟩, hB⟩
set_option maxRecDepth 100000 in
set_option maxHeartbeats 4000000 in
theorem RefDec_nat : ∀ (n u : Nat), u < 10 ^ (n + 1) → u ≤ 999999999999999999 → ∀ w, Calls Tryd.prog 73 #[.int .i64 u] w (SPost (Lib.decDigits u) w) := by
  have small : ∀ u : Nat, u < 10 → ∀ w, Calls Tryd.prog 73 #[.int .i64 u] w (SPost (Lib.decDigits u) w) := by
    intro u hu w
    have k1 : ((u : Int) == -9223372036854775808) = false := by simp
    have k2 : decide ((u : Int) < 0) = false := decide_eq_false (by omega)
    have k3 : decide ((u : Int) < 10) = true := decide_eq_true (by omega)
    have k4 : decide (u < 10) = true := decide_eq_true hu
    have hD : Hid (Lib.decDigits u = [UInt8.ofNat (48 + u)]) := by show _ = _; rw [Lib.decDigits, dif_pos hu]
    obtain ⟨c, hc⟩ : ∃ c, UInt8.ofNat (48 + u) = c := ⟨_, rfl⟩
    have hcv := conv_one c ((48 : Int) + (u : Int)) (by rw [← hc]; exact digit_nat hu)
    rw [hc] at hD
    clear hc
    go_enter Tryd.func73, Tryd.ntmps73
    go_wp2_with fail
    go_ret
    exact ⟨⟨_, rfl, by rw [hD.out]⟩, by first | exact (Below.refl _ _).alloc (Nat.le_refl _) _ | exact ((Below.refl _ _).alloc (Nat.le_refl _) _).drew⟩
  intro n
  induction n with
  | zero => intro u h0 _ w; exact small u (by simpa using h0) w
  | succ n ih =>
    intro u h0 h1 w
    by_cases hu : u < 10
    · exact small u hu w
    · obtain ⟨U, hU⟩ : ∃ U, u / 10 = U := ⟨_, rfl⟩
      obtain ⟨D, hDd⟩ : ∃ D, u % 10 = D := ⟨_, rfl⟩
      have ihI : ∀ w, Calls Tryd.prog 73 #[.int .i64 (U : Nat)] w (SPost (Lib.decDigits U) w) := fun w => ih U (by rw [Nat.pow_succ] at h0; omega) (by omega) w
      have hdl := Lib.decDigits_length U
      have hnd : Lib.nDigits U ≤ 18 := nDigits_le 17 _ (by show _ < 1000000000000000000; omega)
      have k1 : ((u : Int) == -9223372036854775808) = false := by simp
      have k2 : decide ((u : Int) < 0) = false := decide_eq_false (by omega)
      have k3 : decide ((u : Int) < 10) = false := decide_eq_false (by omega)
      have k4 : decide (u < 10) = false := decide_eq_false hu
      have hD : Hid (Lib.decDigits u = Lib.decDigits U ++ [UInt8.ofNat (48 + D)]) := by show _ = _; rw [Lib.decDigits, dif_neg hu, hU, hDd]
      obtain ⟨c, hc⟩ : ∃ c, UInt8.ofNat (48 + D) = c := ⟨_, rfl⟩
      have hcd : (48 : Int) + (D : Int) = c.toNat := by rw [← hc]; exact digit_nat (d := D) (by omega)
      have hcv := conv_one c ((48 : Int) + (D : Int)) hcd
      have hcs : (ByteArray.mk #[c]).size = 1 := rfl
      replace hcd := Lib.hid hcd
      rw [hc] at hD
      clear hc
      have e1 : IntKind.i64.wrap ((u : Int) / 10) = (U : Int) := by rw [IntWalk.i64_in _ (by omega)]; omega
      have e2 : (u : Int).tmod 10 = (D : Int) := by rw [Int.tmod_eq_emod_of_nonneg (by omega)]; omega
      have e3 : IntKind.i64.wrap ((48 : Int) + (D : Int)) = (48 : Int) + (D : Int) := IntWalk.i64_in _ (by omega)
      have e4 : IntKind.u8.wrap ((48 : Int) + (D : Int)) = (48 : Int) + (D : Int) := by simp [IntKind.wrap, IntKind.bits, IntKind.signed]; omega
      replace hU := Lib.hid hU
      replace hDd := Lib.hid hDd
      replace ihI := Lib.hid ihI
      replace hdl := Lib.hid hdl
      go_enter Tryd.func73, Tryd.ntmps73
      go_wp2_with fail
      go_region_with ((go_at_call 73; refine (ihI.out _).mono ?_; rintro e w1 ⟨⟨q, rfl, hq⟩, bq⟩; have hqs : q.size ≤ 18 := (by rw [← str_size, hq, hdl.out]; exact hnd); replace hq := Lib.hid hq; (first | (have hc1 := bget bq (b := w.heap.size) (o := 0) (lt_alloc _ _) (cell_new1 rfl)) | (have hc1 := bget bq (b := w.heap.size) (o := 0) (lt_alloc _ _) (cell_drew1 (cell_new1 rfl))) | skip)))
      all_goals
        go_wp2_with fail
        go_ret
        refine ⟨⟨_, rfl, ?_⟩, ?_⟩
        · rw [hD.out, ← hq.out, app_list]
        · clear hcv ihI
          repeat (first | with_reducible exact Below.refl _ _ | with_reducible assumption | (with_reducible refine balloc ?_) | (with_reducible refine bdrew ?_) | (with_reducible refine bnext ?_ (by assumption)))
theorem RefDecimal_any (u : Nat) (h : u ≤ 999999999999999999) (w : World) : Calls Tryd.prog 73 #[.int .i64 u] w (SPost (Lib.itoa u) w) := by
  have e : Lib.itoa (u : Int) = Lib.decDigits u := by unfold Lib.itoa; rw [if_neg (by omega)]; simp
  rw [e]
  exact RefDec_nat 18 u (by show _ < 10000000000000000000; omega) h w
end Go.Proofs.YtompmkcpicfdfaaDoor
