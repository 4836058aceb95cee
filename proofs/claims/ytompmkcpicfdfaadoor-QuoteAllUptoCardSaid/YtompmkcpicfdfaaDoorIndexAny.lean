/- strings.IndexAny(s, " \t\r\n") at every string. -/
import Derived.Test.YtompmkcpicfdfaaDoorIndexRune
import Derived.Lib.OthersKept
namespace Go.Proofs.YtompmkcpicfdfaaDoor
open Go.RowKit
set_option linter.unusedVariables false
theorem hasNoAny {s : ByteArray} {i : Nat} {x : UInt8} (h : Lib.NoAny s.data.toList whites i) (hi : i < s.size) (hx : s[i] = x) (hw : wh x = false) : Lib.NoAny s.data.toList whites (i + 1) :=
  h.succ (by rw [str_get s i hi, hx]) (by rw [whites_contains]; exact hw)
theorem indexByte_white (x : UInt8) (h : wh x = true) : 0 ≤ Lib.indexByte [32, 9, 13, 10] x := by
  rw [wh_eq] at h
  simp at h
  rcases h with h | h | h | h <;> (have hx := UInt8.toNat_inj.1 (show x.toNat = (UInt8.ofNat x.toNat).toNat by simp)) <;> rw [h] at hx <;> subst hx <;> decide
theorem indexByte_black (x : UInt8) (h : wh x = false) : Lib.indexByte [32, 9, 13, 10] x = -1 := by
  refine indexByte_no _ _ fun b hb e => ?_
  subst e
  rw [← whites_contains] at h
  have : whites.contains b = true := List.contains_iff_mem.2 hb
  rw [this] at h; cases h
set_option maxHeartbeats 2000000 in
theorem IndexAny_short (s : ByteArray) (w : World) (h8 : s.size ≤ 8) :
    Calls Tryd.prog 86 #[.string s, .string ⟨#[32, 9, 13, 10]⟩] w fun e w' => e = .returned (.int .i64 (Lib.indexAny s.data.toList whites)) ∧ Below w.heap.size w w' := by
  have h8z : decide ((8 : Int) < (s.size : Int)) = false := decide_eq_false (by omega)
  go_enter Tryd.func86, Tryd.ntmps86
  go_wp2_with (go_at_call 112; refine (Tryd.strings_shouldUseASCIISet _ _).mono ?_; rintro e w' ⟨rfl, hw⟩; rw [hw, h8z])
  go_loopg [9, 10] s.size (fun g _ _ wx => ∃ i : Nat, i + g = s.size ∧ wx.heap[w.heap.size]? = some (.stringIter s i) ∧ Below w.heap.size w wx ∧ Hid (Lib.NoAny s.data.toList whites i))
  case atStart => exact ⟨0, by omega, World.iter_heap w s 0, (Below.refl _ w).alloc (Nat.le_refl _) _, Lib.NoAny.zero _ _⟩
  case round =>
    obtain ⟨i, hig, hit, hbw, hno⟩ := hrel
    by_cases hi : i < s.size
    · obtain ⟨x, hx⟩ : ∃ x, s[i] = x := ⟨_, rfl⟩
      have hnx : ∀ ty, (Instr.next (.pointer (some ⟨w.heap.size, 0, none⟩)) true ty).run Tryd.prog wr = _ := fun ty => Lib.run_next_any_at wr w.heap.size s i ty hit hi
      by_cases hx128 : x.toNat < 128
      · rw [decode_ascii s i hi (by rw [hx]; exact hx128), hx] at hnx
        have hit2 := Lib.iterAt_heap wr w.heap.size s i (i + 1) hit
        have hbw2 := Lib.below_iterAt hbw (k := w.heap.size) (Nat.le_refl _) s (i + 1)
        dsimp only at hnx
        obtain ⟨W, hWd⟩ : ∃ W, wr.iterAt w.heap.size s (i + 1) = W := ⟨_, rfl⟩
        rw [hWd] at hnx hit2 hbw2
        clear hWd hit hbw
        have hcall : ∀ V, Calls Tryd.prog 111 #[.string ⟨#[32, 9, 13, 10]⟩, .int .i32 x.toNat] V fun e w' => e = .returned (.int .i64 (Lib.indexByte [32, 9, 13, 10] x)) ∧ w' = V := fun V => by
          have h1 := Tryd.strings_IndexRune_ascii ⟨#[32, 9, 13, 10]⟩ x.toNat V (by omega) (by omega)
          have h2 : ((x.toNat : Int)).toNat.toUInt8 = x := by simp
          rw [h2] at h1
          exact h1
        cases hq : wh x
        · have hno2 : Hid (Lib.NoAny s.data.toList whites (i + 1)) := hasNoAny hno.out hi hx hq
          rw [indexByte_black x hq] at hcall
          replace hx := Lib.hid hx
          replace hq := Lib.hid hq
          go_wp2_with (go_at_call 111; refine (hcall _).mono ?_; rintro e w' ⟨rfl, rfl⟩)
          go_roundg (gk - 1)
          case measure => omega
          case rel => exact ⟨i + 1, by omega, hit2, hbw2, hno2⟩
        · have hge := indexByte_white x hq
          have hret : Hid (Lib.indexAny s.data.toList whites = (i : Int)) := Lib.indexAny_hit hno.out (by rw [str_get s i hi, hx]) (by rw [whites_contains]; exact hq)
          obtain ⟨v, hv⟩ : ∃ v, Lib.indexByte [32, 9, 13, 10] x = v := ⟨_, rfl⟩
          rw [hv] at hcall hge
          clear hv
          replace hx := Lib.hid hx
          replace hq := Lib.hid hq
          go_wp2_with (go_at_call 111; refine (hcall _).mono ?_; rintro e w' ⟨rfl, rfl⟩)
          go_ret
          exact ⟨ret_int hret.out.symm, hbw2⟩
      · obtain ⟨hh, hl⟩ := decode_high s i hi (by rw [hx]; omega)
        have hle := decode_le s i
        have hfar := decode_cont s i hi (by rw [hx]; omega)
        obtain ⟨R, hR⟩ : ∃ R, (Utf8.decode s i).1 = R := ⟨_, rfl⟩
        obtain ⟨K, hK⟩ : ∃ K, (Utf8.decode s i).2 = K := ⟨_, rfl⟩
        rw [hR, hK] at hnx
        rw [hR] at hle hh
        rw [hK] at hl hfar
        have hin : i + K ≤ s.size := by
          obtain ⟨hj, _⟩ := hfar (i + K - 1) (by omega) (by omega)
          omega
        have hno2 : Hid (Lib.NoAny s.data.toList whites (i + K)) := noAny_far hno.out hfar
        have hit2 := Lib.iterAt_heap wr w.heap.size s i (i + K) hit
        have hbw2 := Lib.below_iterAt hbw (k := w.heap.size) (Nat.le_refl _) s (i + K)
        obtain ⟨W, hWd⟩ : ∃ W, wr.iterAt w.heap.size s (i + K) = W := ⟨_, rfl⟩
        rw [hWd] at hnx hit2 hbw2
        have hltW : w.heap.size < W.heap.size := (Array.getElem?_eq_some_iff.1 hit2).1
        clear hWd hit hbw hfar hno hR hK
        replace hx := Lib.hid hx
        go_wp2_with (go_at_call 111; refine (IndexRune_no R hh hle _).mono ?_; rintro e w' ⟨rfl, hbc⟩)
        go_roundg (gk - K)
        case measure => omega
        case rel => exact ⟨i + K, by omega, (hbc.block _ hltW).trans hit2, hbw2.trans (hbc.mono hbw2.size), hno2⟩
    · have hnx : ∀ ty, (Instr.next (.pointer (some ⟨w.heap.size, 0, none⟩)) true ty).run Tryd.prog wr = _ := fun ty => Lib.run_next_end_at wr w.heap.size s i ty hit hi
      obtain rfl : i = s.size := by omega
      have hret : Hid (Lib.indexAny s.data.toList whites = -1) := Lib.indexAny_none (by rw [str_size]; exact hno.out)
      go_wp2_with fail
      go_ret
      exact ⟨ret_int hret.out.symm, hbw⟩
theorem zero90 (w : World) : (zeroValue 90).run Tryd.prog w = .ok (.agg (Array.replicate 256 (.bool false))) w := by kernel_rfl
/-- strings.IndexAny(s, " \t\r\n") at every string. -/
theorem IndexAny_white (s : ByteArray) (w : World) (hs : s.size < 4294967281) :
    Calls Tryd.prog 86 #[.string s, .string ⟨#[32, 9, 13, 10]⟩] w fun e w' => e = .returned (.int .i64 (Lib.indexAny s.data.toList whites)) ∧ Below w.heap.size w w' := by
  by_cases h8 : s.size ≤ 8
  · exact IndexAny_short s w h8
  · refine (Tryd.strings_IndexAny_long zero90 s ⟨#[32, 9, 13, 10]⟩ w (by decide) (by omega) hs (by decide) ?_).mono fun e w' ⟨h1, h2⟩ => ⟨h1, ?_⟩
    · intro j b hb
      have hm : b ∈ whites := List.mem_of_getElem? hb
      simp [whites] at hm
      rcases hm with rfl | rfl | rfl | rfl <;> decide
    · rw [h2]
      exact ((Below.refl _ _).alloc (Nat.le_refl _) _).alloc (by simp) _
end Go.Proofs.YtompmkcpicfdfaaDoor
