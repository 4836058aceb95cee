/- package codec: values. -/
import Derived.Test.YtompmkcpicfdfaaDoorB64B
import Derived.Maps.OwnOps
import Derived.Maps.OwnSet
namespace Go.Proofs.YtompmkcpicfdfaaDoor
open Go.RowKit Go.Maps
set_option linter.unusedVariables false
theorem lawU8 : Keyed Tryd.prog 5 := int_keyed Tryd.underlying5
theorem zeroInt (w : World) : (zeroValue 3).run Tryd.prog w = .ok (.int .i64 0) w := by kernel_rfl
/-- the map of the first k digits -/
def vd (k : Nat) : DataW Unit := (List.range k).foldl (fun m i => m.put (.int .u8 (D64 i).toNat) (.lit (.int .i64 i))) (.map [])
theorem vd_step (k : Nat) : vd (k + 1) = (vd k).put (.int .u8 (D64 k).toNat) (.lit (.int .i64 k)) := by
  unfold vd
  rw [List.range_succ, List.foldl_append]; rfl
def numOf : DataW Unit → Int
  | .lit (.int .i64 n) => n
  | _ => -1
theorem vd_at (c : UInt8) (h : isD c = true) : numOf ((vd 64).atKey (.int .u8 c.toNat) (.lit (.int .i64 0))) = v64 c := by
  have := u8_all (p := fun c => !isD c || numOf ((vd 64).atKey (.int .u8 c.toNat) (.lit (.int .i64 0))) == v64 c) (by decide +kernel) c
  rw [h] at this
  simpa using this
set_option maxRecDepth 100000 in
set_option maxHeartbeats 2000000 in
theorem values_any (w : World) : Calls Tryd.prog 50 #[] w fun e w' => e = .returned (.map (some w.heap.size)) ∧ w'.ownsMap Tryd.prog 5 (plainElem Tryd.prog 3) w.heap.size 64 (vd 64) ∧ Below w.heap.size w w' := by
  have hmm := @run_makeMap Tryd.prog
  go_enter Tryd.func50, Tryd.ntmps50
  go_wp2
  go_loopw [4] (fun i wr => ∃ k : Nat, k ≤ 64 ∧ i = .int .i64 k ∧ wr.ownsMap Tryd.prog 5 (plainElem Tryd.prog 3) w.heap.size k (vd k) ∧ Below w.heap.size w wr) (fun i _ => 64 - (intOf i).toNat)
  case atStart => exact ⟨0, by omega, rfl, World.ownsMap_made _ _ _ _, (Below.refl _ _).alloc (Nat.le_refl _) _⟩
  case round =>
    obtain ⟨k, hk, rfl, hown, hnx⟩ := hrel
    by_cases hk4 : k < 64
    · have hix : ∀ W, (Instr.index 9 (.string ⟨#[65, 66, 67, 68, 69, 70, 71, 72, 73, 74, 75, 76, 77, 78, 79, 80, 81, 82, 83, 84, 85, 86, 87, 88, 89, 90, 97, 98, 99, 100, 101, 102, 103, 104, 105, 106, 107, 108, 109, 110, 111, 112, 113, 114, 115, 116, 117, 118, 119, 120, 121, 122, 48, 49, 50, 51, 52, 53, 54, 55, 56, 57, 43, 47]⟩) (.int .i64 (k : Nat))).run Tryd.prog W = .ok (.int .u8 (D64 k).toNat) W := fun W => digS_at k hk4 _ rfl W
      have hkey : keyOf Tryd.prog 5 (.int .u8 (D64 k).toNat) = some (.int .u8 (D64 k).toNat) := keyOf_int_mk Tryd.underlying5 (WalkArith.wf_u8 (by have := u8lt (D64 k); omega))
      have hst := vd_step k
      obtain ⟨d, hd⟩ : ∃ d, D64 k = d := ⟨_, rfl⟩
      rw [hd] at hix hkey hst
      clear hd
      replace hst := Lib.hid hst
      go_wp2_with (at_mapUpdate; refine wpList_mapUpdate_own _ rfl _ _ _ 56 rfl 5 3 lawU8 Tryd.underlying56 _ w.heap.size k _ rfl hown (by unfold maxLen; omega) _ _ _ rfl rfl hkey _ [] (plainElem_int Tryd.underlying3 (WalkArith.wf_i64 (by omega))) ?_; intro w1 hown1 hgrow1)
      go_roundw
      case rel => exact ⟨k + 1, by omega, by go_num, by rw [hst.out]; exact hown1, hnx.grown hgrow1 hnx.size (fun j hj => by cases hj; exact Nat.le_refl _)⟩
      case measure => simp only [intOf]; go_num
    · obtain rfl : k = 64 := by omega
      go_wp2_with fail
      go_ret
      exact ⟨rfl, hown, hnx⟩
end Go.Proofs.YtompmkcpicfdfaaDoor
