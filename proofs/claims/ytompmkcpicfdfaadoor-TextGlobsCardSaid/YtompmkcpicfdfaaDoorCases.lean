/- missivelaw01.TextCases: the law and the walk. -/
import Derived.Test.YtompmkcpicfdfaaDoorSmall01
namespace Go.Proofs.YtompmkcpicfdfaaDoor
open Go.RowKit
set_option linter.unusedVariables false
theorem byte_all {p : UInt8 → Bool} (h : (List.range 256).all (fun n => p (UInt8.ofNat n)) = true) (c : UInt8) : p c = true := by
  have := List.all_eq_true.1 h c.toNat (List.mem_range.2 c.toNat_lt)
  simpa using this
theorem low_low (l : List UInt8) : low (low l) = low l := by
  unfold low; rw [List.map_map]; exact List.map_congr_left fun c _ => by simpa using byte_all (p := fun c => mv 65 90 32 (mv 65 90 32 c) == mv 65 90 32 c) (by kernel_rfl) c
theorem upp_upp (l : List UInt8) : upp (upp l) = upp l := by
  unfold upp; rw [List.map_map]; exact List.map_congr_left fun c _ => by simpa using byte_all (p := fun c => mv 97 122 (-32) (mv 97 122 (-32) c) == mv 97 122 (-32) c) (by kernel_rfl) c
theorem low_upp (l : List UInt8) : low (upp l) = low l := by
  unfold low upp; rw [List.map_map]; exact List.map_congr_left fun c _ => by simpa using byte_all (p := fun c => mv 65 90 32 (mv 97 122 (-32) c) == mv 65 90 32 c) (by kernel_rfl) c
theorem upp_low (l : List UInt8) : upp (low l) = upp l := by
  unfold low upp; rw [List.map_map]; exact List.map_congr_left fun c _ => by simpa using byte_all (p := fun c => mv 97 122 (-32) (mv 65 90 32 c) == mv 97 122 (-32) c) (by kernel_rfl) c
theorem same_upp (l r : List UInt8) : (low l = low r) = (upp l = upp r) := by
  refine propext ⟨fun h => ?_, fun h => ?_⟩
  · rw [← upp_low l, h, upp_low]
  · rw [← low_upp l, h, low_upp]
theorem low_byte (c : UInt8) : mv 65 90 32 c = c ∨ (97 ≤ (mv 65 90 32 c).toNat ∧ (mv 65 90 32 c).toNat ≤ 122 ∧ (mv 65 90 32 c).toNat = c.toNat + 32) := by
  have := byte_all (p := fun c => mv 65 90 32 c == c || (decide (97 ≤ (mv 65 90 32 c).toNat) && decide ((mv 65 90 32 c).toNat ≤ 122) && decide ((mv 65 90 32 c).toNat = c.toNat + 32))) (by kernel_rfl) c
  simp at this
  rcases this with h | h
  · exact .inl h
  · exact .inr ⟨h.1.1, h.1.2, h.2⟩
set_option maxHeartbeats 4000000 in
theorem cases_walk (a b : ByteArray) (w : World) (ha : a.size ≤ maxLen) (hb : b.size ≤ maxLen) :
    Calls Tryd.prog 11 #[.string a, .string b] w fun e w' => e = .returned (.bool true) ∧ Below w.heap.size w w' := by
  by_cases h1 : a.size ≤ 300 ∧ b.size ≤ 300
  · obtain ⟨ha3, hb3⟩ := h1
    have g1 : decide ((300 : Int) < (a.size : Int)) = false := by simp; omega
    have g2 : decide ((300 : Int) < (b.size : Int)) = false := by simp; omega
    replace ha3 := Lib.hid ha3
    replace hb3 := Lib.hid hb3
    go_enter Tryd.func11, Tryd.ntmps11
    go_wp2_with fail
    refine (small_any _).mono ?_
    rintro e W1 ⟨rfl, b1⟩
    go_wp2_with fail
    refine (Lower_any a _ ha).mono ?_
    rintro e W2 ⟨⟨A, rfl, hA⟩, b2⟩
    have hsA : A.size = a.size := by rw [← str_size A, hA, low_length, str_size]
    go_wp2_with fail
    refine (Upper_any a _ ha).mono ?_
    rintro e W3 ⟨⟨U, rfl, hU⟩, b3⟩
    have hsU : U.size = a.size := by rw [← str_size U, hU, upp_length, str_size]
    have hB3 := bnext (bnext b1 b2) b3
    clear b1 b2 b3
    have g3 : ((A.size : Int) != (a.size : Int)) = false := by rw [hsA]; simp
    have g4 : ((U.size : Int) != (a.size : Int)) = false := by rw [hsU]; simp
    replace hsA := Lib.hid hsA
    replace hsU := Lib.hid hsU
    go_wp2_with fail
    refine (Lower_any A _ (by rw [hsA.out]; exact ha)).mono ?_
    rintro e W4 ⟨⟨t, rfl, ht⟩, b4⟩
    obtain rfl : A = t := str_inj (by rw [ht, hA, low_low])
    go_wp2_with fail
    refine (Upper_any U _ (by rw [hsU.out]; exact ha)).mono ?_
    rintro e W5 ⟨⟨t2, rfl, ht2⟩, b5⟩
    obtain rfl : U = t2 := str_inj (by rw [ht2, hU, upp_upp])
    go_wp2_with fail
    refine (Lower_any U _ (by rw [hsU.out]; exact ha)).mono ?_
    rintro e W6 ⟨⟨t3, rfl, ht3⟩, b6⟩
    obtain rfl : A = t3 := str_inj (by rw [ht3, hA, hU, low_upp])
    go_wp2_with fail
    refine (Upper_any A _ (by rw [hsA.out]; exact ha)).mono ?_
    rintro e W7 ⟨⟨t4, rfl, ht4⟩, b7⟩
    obtain rfl : U = t4 := str_inj (by rw [ht4, hU, hA, upp_low])
    have hB7 := bnext (bnext (bnext (bnext hB3 b4) b5) b6) b7
    clear b4 b5 b6 b7 hB3 ht ht2 ht3 ht4
    go_wp2_with fail
    go_loopw [8] (fun i wr => Below w.heap.size w wr ∧ ∃ k : Nat, i = .int .i64 k ∧ k ≤ a.size) (fun i _ => a.size - (intOf i).toNat)
    case atStart => exact ⟨hB7, 0, rfl, by omega⟩
    case round =>
      obtain ⟨hBr, k, rfl, hk⟩ := hrel
      by_cases hlt : k < a.size
      · have q1 : decide ((k : Int) < (a.size : Int)) = true := by simp; omega
        have q2 : decide (k < a.size) = true := by simp; omega
        obtain ⟨c, hc⟩ : ∃ c, a.data.toList.getD k 0 = c := ⟨_, rfl⟩
        obtain ⟨d, hd⟩ : ∃ d, A.data.toList.getD k 0 = d := ⟨_, rfl⟩
        have hx := idx_at a k hlt c hc
        have hy := idx_at A k (by rw [hsA.out]; exact hlt) d hd
        have hdc : d = mv 65 90 32 c := by
          rw [← hd, ← hc, hA, low, List.getD_eq_getElem?_getD, List.getD_eq_getElem?_getD, List.getElem?_map, List.getElem?_eq_getElem (by rw [str_size]; exact hlt)]; rfl
        have hb2 := low_byte c
        rw [← hdc] at hb2
        have hk3 : k < 300 := by have := ha3.out; omega
        replace hlt := Lib.hid hlt
        clear hdc
        replace hc := Lib.hid hc
        replace hd := Lib.hid hd
        have hout : ((d.toNat : Int) != (c.toNat : Int)) = false ∨ (((d.toNat : Int) != (c.toNat : Int)) = true ∧ decide ((d.toNat : Int) < 97) = false ∧ decide ((122 : Int) < (d.toNat : Int)) = false ∧ ((d.toNat : Int) - (c.toNat : Int)) = 32) := by
          rcases hb2 with h | ⟨h1, h2, h3⟩
          · left; rw [h]; simp
          · right; refine ⟨by simp; omega, by simp; omega, by simp; omega, by omega⟩
        clear hb2
        rcases hout with o1 | ⟨o1, o2, o3, o4⟩
        · go_wp2_with fail
          go_quiet (fail)
          have hB2 := bdrewN (n := nq) hBr
          go_wp2_with fail
          go_roundw
          case rel => exact ⟨hB2, k + 1, by go_num, hlt.out⟩
          case measure => have := hlt.out; simp only [intOf]; go_num
        · go_wp2_with fail
          go_quiet (fail)
          have hB2 := bdrewN (n := nq) hBr
          go_wp2_with fail
          go_roundw
          case rel => exact ⟨hB2, k + 1, by go_num, hlt.out⟩
          case measure => have := hlt.out; simp only [intOf]; go_num
      · have q1 : decide ((k : Int) < (a.size : Int)) = false := by simp; omega
        have q2 : decide (k < a.size) = false := by simp; omega
        go_wp2_with fail
        refine (Same_any a b _ ha hb).mono ?_
        rintro e W8 ⟨rfl, b8⟩
        go_wp2_with fail
        refine (Upper_any a _ ha).mono ?_
        rintro e W9 ⟨⟨t5, rfl, ht5⟩, b9⟩
        go_wp2_with fail
        refine (Upper_any b _ hb).mono ?_
        rintro e W10 ⟨⟨t6, rfl, ht6⟩, b10⟩
        have hB10 := bnext (bnext (bnext hBr b8) b9) b10
        have e1 : (t5.toList == t6.toList) = decide (low a.data.toList = low b.data.toList) := by
          rw [Lib.toList_data, Lib.toList_data, ht5, ht6, Bool.eq_iff_iff]; simp [same_upp]
        have e2 : low a.data.toList = low U.data.toList := by rw [hU, low_upp]
        obtain ⟨E, hE⟩ : ∃ E : Bool, decide (low a.data.toList = low b.data.toList) = E := ⟨_, rfl⟩
        rw [hE] at e1 ⊢
        clear ht5 ht6
        replace hE := Lib.hid hE
        have e3 : ∀ E : Bool, (E == E) = true := by decide
        replace e3 := e3 E
        go_wp2_with fail
        refine (Same_any a U _ ha (by rw [hsU.out]; exact ha)).mono ?_
        rintro e W11 ⟨rfl, b11⟩
        rw [decide_eq_true e2]
        go_wp2_with fail
        go_ret
        exact ⟨rfl, bnext hB10 b11⟩
  · have hw : (decide ((300 : Int) < (a.size : Int)) = true) ∨ (decide ((300 : Int) < (a.size : Int)) = false ∧ decide ((300 : Int) < (b.size : Int)) = true) := by
      by_cases h : a.size ≤ 300
      · right; simp; omega
      · left; simp; omega
    clear h1
    rcases hw with g1 | ⟨g1, g2⟩
    · go_enter Tryd.func11, Tryd.ntmps11
      go_wp2_with fail
      refine (small_any _).mono ?_
      rintro e W1 ⟨rfl, b1⟩
      go_wp2_with fail
      go_ret
      exact ⟨rfl, b1⟩
    · go_enter Tryd.func11, Tryd.ntmps11
      go_wp2_with fail
      refine (small_any _).mono ?_
      rintro e W1 ⟨rfl, b1⟩
      go_wp2_with fail
      go_ret
      exact ⟨rfl, b1⟩
end Go.Proofs.YtompmkcpicfdfaaDoor
