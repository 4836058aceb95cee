/- package text: Unlines. -/
import Derived.Test.YtompmkcpicfdfaaDoorBuilder
import Derived.Test.YtompmkcpicfdfaaDoorLinesLaw
import Derived.Test.YtompmkcpicfdfaaDoorStrs
namespace Go.Proofs.YtompmkcpicfdfaaDoor
open Go.RowKit
set_option linter.unusedVariables false
def bysL (ts : List ByteArray) : List (List UInt8) := ts.map (·.data.toList)
theorem bysL_take {ts : List ByteArray} {i : Nat} (h : i < ts.length) : bysL (ts.take (i + 1)) = bysL (ts.take i) ++ [ts[i].data.toList] := by
  unfold bysL
  rw [List.take_succ_eq_append_getElem h, List.map_append]; rfl
theorem unl_take_le (ts : List ByteArray) (i : Nat) : (unl (bysL (ts.take i))).length ≤ (unl (bysL ts)).length := by
  conv => rhs; rw [← List.take_append_drop i ts]
  rw [show bysL (ts.take i ++ ts.drop i) = bysL (ts.take i) ++ bysL (ts.drop i) by simp [bysL]]
  rw [show unl (bysL (ts.take i) ++ bysL (ts.drop i)) = unl (bysL (ts.take i)) ++ unl (bysL (ts.drop i)) by simp [unl]]
  simp
set_option maxRecDepth 100000 in
set_option maxHeartbeats 4000000 in
theorem Unlines_any (v : Value) (ts : List ByteArray) (w : World) (hv : Ss w v ts) (hlen : (unl (bysL ts)).length ≤ 140737488355328) : Calls Tryd.prog 40 #[v] w (SPost (unl (bysL ts)) w) := by
  obtain ⟨a1, c1, rfl, hc1, hd1⟩ := hv.val
  have hm : ts.length ≤ 9223372036854775807 := by unfold maxLen at hd1; omega
  go_enter Tryd.func40, Tryd.ntmps40
  go_wp2_with fail
  obtain ⟨W1, hW1⟩ : ∃ W1, w.alloc (Obj.cells #[Value.pointer none, Value.slice none 0 0] 48) = W1 := ⟨_, rfl⟩
  have hb1 : Below w.heap.size w W1 := by rw [← hW1]; exact (Below.refl _ _).alloc (Nat.le_refl _) _
  have hs1 : W1.heap.size = w.heap.size + 1 := by rw [← hW1]; simp
  have hf1 : Bld (w.heap.size + 1) w.heap.size [] W1 := by rw [← hW1]; exact Bld.fresh (World.alloc_heap_new _ _)
  rw [hW1]
  clear hW1
  have hv1 := hv.below hb1
  go_loopw [8] (fun i wr => ∃ k : Nat, i = .int .i64 k ∧ k ≤ ts.length ∧ Bld (w.heap.size + 1) w.heap.size (unl (bysL (ts.take k))) wr ∧ Kp (w.heap.size + 1) w.heap.size W1 wr) (fun i _ => ts.length - (intOf i).toNat)
  case atStart => exact ⟨0, rfl, by omega, hf1, Kp.refl _ _ _⟩
  case round =>
    obtain ⟨k, rfl, hk, hB, hK⟩ := hrel
    have hzs := hK.size
    by_cases hlt : k < ts.length
    · have q1 : decide ((k : Int) < (ts.length : Int)) = true := by simp; omega
      have q2 : decide (k < ts.length) = true := by simp; omega
      have hle := unl_take_le ts (k + 1)
      have htk := bysL_take hlt
      obtain ⟨b1, o1, d1, he1, _, _, hbb1, hcell1⟩ := hv.at (by omega)
      cases he1
      have x0 := hcell1 k _ (List.getElem?_eq_getElem hlt)
      have x1 : wr.cell? ⟨b1, o1 + k, none⟩ = some (.string ts[k]) := ((hK.below (B' := w.heap.size) (by omega) (Nat.le_refl _)).cell (p := ⟨b1, o1 + k, none⟩) hbb1).trans (bget hb1 hbb1 x0)
      obtain ⟨x, hx⟩ : ∃ x, ts[k] = x := ⟨_, rfl⟩
      rw [hx] at x1 htk
      rw [htk, unl_snoc] at hle
      simp only [List.length_append, List.length_cons, List.length_nil, str_size] at hle
      clear hcell1 hv x0 hx
      go_wp2_with (go_at_call 56; refine (WriteString_any x hB (by omega) (by omega)).mono ?_; rintro e W2 ⟨rfl, hB2, k2⟩)
      have hzs2 := k2.size
      go_wp2_with (go_at_call 46; refine (WriteByte_any 10 10 rfl hB2 (by rw [List.length_append, str_size]; omega) (by omega)).mono ?_; rintro e W3 ⟨rfl, hB3, k3⟩)
      go_roundw
      case rel => exact ⟨k + 1, by go_num, hlt, by rw [htk, unl_snoc, ← List.append_assoc]; exact hB3, (hK.trans k2).trans k3⟩
      case measure => simp only [intOf]; go_num
    · obtain rfl : k = ts.length := by omega
      have q1 : decide ((ts.length : Int) < (ts.length : Int)) = false := by simp
      have q2 : decide (ts.length < ts.length) = false := by simp
      rw [List.take_length] at hB
      go_wp2_with (go_at_call 47; refine (String_any hB w.heap.size (by omega) (Nat.le_refl _)).mono ?_; rintro e W2 ⟨⟨t, rfl, ht⟩, b2⟩)
      go_ret
      exact ⟨⟨t, rfl, ht⟩, (hb1.trans (hK.below (by omega) (Nat.le_refl _))).trans b2⟩
end Go.Proofs.YtompmkcpicfdfaaDoor
