/- package codec: Percent. -/
import Derived.Test.YtompmkcpicfdfaaDoorPercA
import Derived.Test.YtompmkcpicfdfaaDoorGlob
namespace Go.Proofs.YtompmkcpicfdfaaDoor
open Go.RowKit
set_option linter.unusedVariables false
theorem perc_take (s : ByteArray) (k : Nat) (h : k < s.size) : perc (s.data.toList.take (k + 1)) = perc (s.data.toList.take k) ++ pc s[k] := by
  rw [str_take s k h, perc_app]
  simp [perc]
set_option maxRecDepth 100000 in
set_option maxHeartbeats 4000000 in
theorem Percent_any (s : ByteArray) (w : World) (hs : 3 * s.size ≤ 140737488355328) : Calls Tryd.prog 23 #[.string s] w (SPost (perc s.data.toList) w) := by
  obtain ⟨l, hl⟩ : ∃ l, s.data.toList = l := ⟨_, rfl⟩
  have hn : l.length = s.size := by rw [← hl, str_size]
  rw [hl]
  replace hl := Lib.hid hl
  replace hn := Lib.hid hn
  go_enter Tryd.func23, Tryd.ntmps23
  go_wp2_with fail
  obtain ⟨W1, hW1⟩ : ∃ W1, w.alloc (Obj.cells #[Value.pointer none, Value.slice none 0 0] 48) = W1 := ⟨_, rfl⟩
  have hb1 : Below w.heap.size w W1 := by rw [← hW1]; exact (Below.refl _ _).alloc (Nat.le_refl _) _
  have hs1 : W1.heap.size = w.heap.size + 1 := by rw [← hW1]; simp
  have hf1 : Bld (w.heap.size + 1) w.heap.size [] W1 := by rw [← hW1]; exact Bld.fresh (World.alloc_heap_new _ _)
  rw [hW1]
  clear hW1
  go_loopw [8] (fun i wr => ∃ k : Nat, i = .int .i64 k ∧ k ≤ s.size ∧ Bld (w.heap.size + 1) w.heap.size (perc (l.take k)) wr ∧ Kp (w.heap.size + 1) w.heap.size W1 wr) (fun i _ => s.size - (intOf i).toNat)
  case atStart => exact ⟨0, rfl, by omega, hf1, Kp.refl _ _ _⟩
  case round =>
    obtain ⟨k, rfl, hk, hB, hK⟩ := hrel
    have hzs := hK.size
    by_cases hlt : k < s.size
    · have q1 : decide ((k : Int) < (s.size : Int)) = true := by simp; omega
      have q2 : decide (k < s.size) = true := by simp; omega
      have htk := perc_take s k hlt
      rw [hl.out] at htk
      have hpl := (perc_len (l.take k)).2
      rw [List.length_take] at hpl
      obtain ⟨c, hc⟩ : ∃ c, s[k] = c := ⟨_, rfl⟩
      have hxc := idx_at s k hlt c (by rw [str_getD s k hlt, hc])
      rw [hc] at htk
      have hway : (unres c = true ∧ pc c = [c]) ∨ (unres c = false ∧ ((c.toNat : Int) == 32) = true ∧ pc c = [43]) ∨ (unres c = false ∧ ((c.toNat : Int) == 32) = false ∧ pc c = qf 37 c) := by
        cases hu : unres c
        · right
          by_cases h32 : c = 32
          · left; subst h32; exact ⟨rfl, rfl, rfl⟩
          · right
            refine ⟨rfl, ?_, by unfold pc; rw [hu]; simp [h32]⟩
            simp only [beq_eq_false_iff_ne]
            exact fun h6 => h32 (UInt8.toNat_inj.1 (by have : (32 : UInt8).toNat = 32 := rfl; omega))
        · left; exact ⟨rfl, by unfold pc; rw [hu]; rfl⟩
      have hzw : w.heap.size + 1 ≤ wr.heap.size := by omega
      clear hc
      replace htk := Lib.hid htk
      rcases hway with ⟨hu, hp⟩ | ⟨hu, h32, hp⟩ | ⟨hu, h32, hp⟩
      · replace hp := Lib.hid hp
        go_wp2_with (first | (go_at_call 57; refine (unreserved_any _ _).mono ?_; rw [hu]; rintro e w' ⟨rfl, rfl⟩) | (go_at_call 46; refine (WriteByte_any c _ rfl hB (by omega) hzw).mono ?_; rintro e W3 ⟨rfl, hB3, k3⟩))
        go_roundw
        case rel => exact ⟨k + 1, by go_num, hlt, by rw [htk.out, hp.out]; exact hB3, hK.trans k3⟩
        case measure => simp only [intOf]; go_num
      · replace hp := Lib.hid hp
        go_wp2_with (first | (go_at_call 57; refine (unreserved_any _ _).mono ?_; rw [hu]; rintro e w' ⟨rfl, rfl⟩) | (go_at_call 46; refine (WriteByte_any 43 43 rfl hB (by omega) hzw).mono ?_; rintro e W3 ⟨rfl, hB3, k3⟩))
        go_roundw
        case rel => exact ⟨k + 1, by go_num, hlt, by rw [htk.out, hp.out]; exact hB3, hK.trans k3⟩
        case measure => simp only [intOf]; go_num
      · replace hp := Lib.hid hp
        go_wp2_with (first | (go_at_call 57; refine (unreserved_any _ _).mono ?_; rw [hu]; rintro e w' ⟨rfl, rfl⟩) | (go_at_call 55; refine (quoted_any 37 c _).mono ?_; rintro e W2 ⟨⟨t, rfl, ht⟩, b2⟩; have hB2 := hB.bel b2; have hz2 := b2.size; have hts : t.size = 3 := by rw [← str_size, ht]; rfl))
        go_wp2_with (go_at_call 56; refine (WriteString_any t hB2 (by omega) (by omega)).mono ?_; rintro e W3 ⟨rfl, hB3, k3⟩)
        go_roundw
        case rel => exact ⟨k + 1, by go_num, hlt, by rw [htk.out, hp.out, ← ht]; exact hB3, (hK.trans (Kp.of_below (b2.mono hzw))).trans k3⟩
        case measure => simp only [intOf]; go_num
    · obtain rfl : k = s.size := by omega
      have q1 : decide ((s.size : Int) < (s.size : Int)) = false := by simp
      have q2 : decide (s.size < s.size) = false := by simp
      rw [List.take_of_length_le (by rw [hn.out]; exact Nat.le_refl _)] at hB
      go_wp2_with (go_at_call 47; refine (String_any hB w.heap.size (by omega) (Nat.le_refl _)).mono ?_; rintro e W2 ⟨⟨t, rfl, ht⟩, b2⟩)
      go_ret
      exact ⟨⟨t, rfl, ht⟩, (hb1.trans (hK.below (by omega) (Nat.le_refl _))).trans b2⟩
end Go.Proofs.YtompmkcpicfdfaaDoor
