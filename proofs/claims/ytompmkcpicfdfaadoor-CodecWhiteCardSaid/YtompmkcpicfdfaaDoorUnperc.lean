/- package codec: Unpercent. -/
import Derived.Test.YtompmkcpicfdfaaDoorPair
namespace Go.Proofs.YtompmkcpicfdfaaDoor
open Go.RowKit
set_option linter.unusedVariables false
theorem ext_drop (t : ByteArray) (k : Nat) : (t.extract k t.size).data.toList = t.data.toList.drop k := by
  rw [str_extract, List.take_of_length_le (by rw [str_size]; exact Nat.le_refl _)]
theorem ext_size (t : ByteArray) (k : Nat) : (t.extract k t.size).size = t.size - k := by rw [ByteArray.size_extract]; omega
theorem u8_beq {c d : UInt8} (n : Int) (hn : n = d.toNat) : ((c.toNat : Int) == n) = (c == d) := by
  subst hn
  rw [Bool.eq_iff_iff]; simp [u8_int, ← UInt8.toNat_inj]
/-- how the reading goes on at a byte -/
theorem unp_ways (c : UInt8) (r : List UInt8) : (c = 43 ∧ unp (c :: r) = (32 :: (unp r).1, (unp r).2)) ∨ (c ≠ 43 ∧ c = 37 ∧ ∃ x, hpair r = some x ∧ unp (c :: r) = (x :: (unp (r.drop 2)).1, (unp (r.drop 2)).2)) ∨
    (c ≠ 43 ∧ c = 37 ∧ hpair r = none ∧ unp (c :: r) = (c :: (unp r).1, false)) ∨ (c ≠ 43 ∧ c ≠ 37 ∧ unp (c :: r) = (c :: (unp r).1, (unp r).2)) := by
  by_cases h1 : c = 43
  · subst h1; exact .inl ⟨rfl, unp_plus r⟩
  · by_cases h2 : c = 37
    · subst h2
      cases hp : hpair r with
      | some x => exact .inr (.inl ⟨h1, rfl, x, rfl, unp_pair hp⟩)
      | none => exact .inr (.inr (.inl ⟨h1, rfl, rfl, unp_bad hp⟩))
    · exact .inr (.inr (.inr ⟨h1, h2, unp_byte r h1 h2⟩))
theorem hpair_len {r : List UInt8} {x : UInt8} (h : hpair r = some x) : 2 ≤ r.length := by
  match r, h with
  | _ :: _ :: _, _ => simp
/-- The relation of the loop: what is read, what is left. -/
def Reading (f : List UInt8 → List UInt8 × Bool) (all : List UInt8) (pre rest : List UInt8) (g : Bool) : Prop := (f all).1 = pre ++ (f rest).1 ∧ (f all).2 = (g && (f rest).2)
theorem Reading.step {f : List UInt8 → List UInt8 × Bool} {all pre rest rest' : List UInt8} {g g' : Bool} {x : UInt8} (h : Reading f all pre rest g) (e : f rest = (x :: (f rest').1, g' && (f rest').2)) : Reading f all (pre ++ [x]) rest' (g && g') := by
  obtain ⟨h1, h2⟩ := h
  refine ⟨?_, ?_⟩
  · rw [h1, e]; simp
  · rw [h2, e]; simp [Bool.and_assoc]
set_option maxRecDepth 100000 in
set_option maxHeartbeats 4000000 in
theorem Unpercent_any (s : ByteArray) (w : World) (hs : s.size ≤ 140737488355328) : Calls Tryd.prog 21 #[.string s] w (SBPost (unp s.data.toList).1 (unp s.data.toList).2 w) := by
  obtain ⟨i0, hi, hz0, hz1, hz2⟩ := info_parts infoByte_
  obtain ⟨l, hl⟩ : ∃ l, s.data.toList = l := ⟨_, rfl⟩
  rw [hl]
  replace hl := Lib.hid hl
  go_enter Tryd.func21, Tryd.ntmps21
  go_wp2_with fail
  go_loopw [0, 4, 5] (fun u v gv wr => ∃ (t : ByteArray) (pre : List UInt8) (g : Bool), u = .string t ∧ gv = .bool g ∧ wr.ownsRow w.heap.size 5 1 v pre.length (Lib.byteCells pre) ∧ pre.length + t.size ≤ s.size ∧ Reading unp l pre t.data.toList g ∧ Below w.heap.size w wr) (fun u _ _ _ => strLen u)
  case atStart => exact ⟨s, [], true, rfl, rfl, World.ownsRow_nil _ _ _ _, by simp, ⟨by rw [hl.out]; rfl, by rw [hl.out]; simp⟩, Below.refl _ _⟩
  case round =>
    obtain ⟨t, pre, g, rfl, rfl, hr, hsz, hE, hB⟩ := hrel
    by_cases h0 : t.size = 0
    · have hnil : t.data.toList = [] := List.eq_nil_of_length_eq_zero (by rw [str_size]; exact h0)
      have hEn := hE
      rw [hnil] at hEn
      obtain ⟨e1, e2⟩ := hEn
      rw [unp_nil, List.append_nil] at e1
      rw [unp_nil, Bool.and_true] at e2
      have hemp : t.toList.isEmpty = true := by rw [Lib.toList_data, hnil]; rfl
      obtain ⟨ao, cap, rfl⟩ := slice_of_own hr
      have hS := Sl.of_own hr
      replace hr := Lib.hid hr
      replace e1 := Lib.hid e1
      replace e2 := Lib.hid e2
      clear hE hnil h0
      go_wp2_with (refine wpList_string_of rfl 24 9 5 (.tmp 34) rfl _ _ cap _ rfl Tryd.underlying24 Tryd.underlying5 Tryd.underlying9 hS ?_; intro q hq)
      go_ret2
      exact ⟨⟨q, by rw [e2.out]; rfl, by rw [e1.out]; exact hq⟩, hB⟩
    · have hne := isEmpty_of h0
      have hdr := str_drop t 0 (by omega)
      rw [List.drop_zero] at hdr
      obtain ⟨c, hc⟩ : ∃ c, t[0] = c := ⟨_, rfl⟩
      have hxc := idx_k .i64 t 0 (by omega) c (by rw [str_getD t 0 (by omega), hc]) 0 rfl
      obtain ⟨t1, ht1⟩ : ∃ t1, t.extract 1 t.size = t1 := ⟨_, rfl⟩
      have hd1 : t1.data.toList = t.data.toList.drop 1 := by rw [← ht1, ext_drop]
      have hs1 : t1.size = t.size - 1 := by rw [← ht1, ext_size]
      rw [hc, ← hd1] at hdr
      have hszB := hB.size
      have i1 : (1 : Int) ≤ (t.size : Int) := by omega
      have hmx : t1.size ≤ maxLen := by unfold maxLen; omega
      have hway := unp_ways c t1.data.toList
      rw [← hdr] at hway
      clear hdr hc
      replace hd1 := Lib.hid hd1
      have tst : ∀ d : UInt8, ∀ n : Int, n = d.toNat → ((c.toNat : Int) == n) = (c == d) := fun d n hn => u8_beq n hn
      rcases hway with ⟨n1, hw⟩ | ⟨n1, n2, x, hx, hw⟩ | ⟨n1, n2, hx, hw⟩ | ⟨n1, n2, hw⟩
      · have k1 : ((c.toNat : Int) == 43) = true := by rw [tst 43 43 rfl, n1]; rfl
        have hE2 := hE.step (g' := true) (x := 32) (rest' := t1.data.toList) (by rw [hw]; rfl)
        rw [Bool.and_true] at hE2
        replace hE2 := Lib.hid hE2
        replace n1 := Lib.hid n1
        clear hE hw tst
        go_wp2_with (at_builtin; refine wpList_append_own _ rfl _ _ 24 rfl w.heap.size 5 i0 (.int .u8 0) 1 1 Tryd.underlying24 hi hz0 hz1 hz2 rfl (by decide) _ _ _ rfl ((hr).alloc _) ⟨(wr).heap.size, 0, none⟩ 1 1 [.int .u8 (32)] rfl rfl (cell_one_new _ _ _) (by simp [Value.oneCell']) (by unfold maxLen; omega) (by omega) (by simp; omega) ?_; intro v' w1 hown' hgrow _)
        have hB3 : Below w.heap.size w w1 := (hB.alloc (by omega) _).trans (below_grown (hr.alloc _) (by simp; omega) hgrow)
        go_roundw
        case rel => exact ⟨t1, pre ++ [32], g, rfl, rfl, by rw [byteCells_snoc, List.length_append]; exact hown', by rw [List.length_append]; simp only [List.length_cons, List.length_nil]; omega, hE2.out, hB3⟩
        case measure => show t1.size < t.size; omega
      · have k1 : ((c.toNat : Int) == 43) = false := by rw [tst 43 43 rfl]; simpa using n1
        have k2 : ((c.toNat : Int) == 37) = true := by rw [tst 37 37 rfl, n2]; rfl
        have hl2 := hpair_len hx
        rw [str_size] at hl2
        obtain ⟨t2, ht2⟩ : ∃ t2, t.extract 2 t.size = t2 := ⟨_, rfl⟩
        obtain ⟨t3, ht3⟩ : ∃ t3, t2.extract 1 t2.size = t3 := ⟨_, rfl⟩
        have hs2 : t2.size = t.size - 2 := by rw [← ht2, ext_size]
        have hs3 : t3.size = t.size - 3 := by rw [← ht3, ext_size]; omega
        have hd3 : t3.data.toList = t1.data.toList.drop 2 := by rw [← ht3, ext_drop, ← ht2, ext_drop, hd1.out, List.drop_drop, List.drop_drop]
        have i2 : (2 : Int) ≤ (t.size : Int) := by omega
        have i3 : (1 : Int) ≤ (t2.size : Int) := by omega
        have hE2 := hE.step (g' := true) (x := x) (rest' := t3.data.toList) (by rw [hw, hd3]; rfl)
        rw [Bool.and_true] at hE2
        replace hE2 := Lib.hid hE2
        replace n1 := Lib.hid n1
        replace n2 := Lib.hid n2
        replace hs2 := Lib.hid hs2
        replace hs3 := Lib.hid hs3
        clear hE hw tst hd3
        go_wp2_with fail
        refine (pair_any t1 _ hmx).mono ?_
        rw [hx]
        rintro e W2 ⟨⟨bv, rfl, hbv⟩, b2⟩
        obtain rfl := hbv x rfl
        have hr2 := own_bel hr b2
        have hB2 := hB.trans (b2.mono hszB)
        have hsz2 := b2.size
        clear hbv b2
        go_wp2_with fail
        go_quiet (fail)
        have hr3 : (W2.drewN nq).ownsRow w.heap.size 5 1 _ pre.length (Lib.byteCells pre) := hr2
        have hB3' := bdrewN (n := nq) hB2
        have hsz3 : w.heap.size ≤ (W2.drewN nq).heap.size := by show _ ≤ W2.heap.size; omega
        go_wp2_with (at_builtin; refine wpList_append_own _ rfl _ _ 24 rfl w.heap.size 5 i0 (.int .u8 0) 1 1 Tryd.underlying24 hi hz0 hz1 hz2 rfl (by decide) _ _ _ rfl ((hr3).alloc _) ⟨(W2.drewN nq).heap.size, 0, none⟩ 1 1 [.int .u8 (x.toNat)] rfl rfl (cell_one_new _ _ _) (by simp [Value.oneCell']) (by unfold maxLen; omega) (by omega) (by simp; omega) ?_; intro v' w1 hown' hgrow _)
        have hs3 := hs3.out
        have hB3 : Below w.heap.size w w1 := (hB3'.alloc (by omega) _).trans (below_grown (hr3.alloc _) (by simp; omega) hgrow)
        go_roundw
        case rel => exact ⟨t3, pre ++ [x], g, rfl, rfl, by rw [byteCells_snoc, List.length_append]; exact hown', by rw [List.length_append]; simp only [List.length_cons, List.length_nil]; omega, hE2.out, hB3⟩
        case measure => show t3.size < t.size; omega
      · have k1 : ((c.toNat : Int) == 43) = false := by rw [tst 43 43 rfl]; simpa using n1
        have k2 : ((c.toNat : Int) == 37) = true := by rw [tst 37 37 rfl, n2]; rfl
        have hE2 := hE.step (g' := false) (x := c) (rest' := t1.data.toList) (by rw [hw]; rfl)
        rw [Bool.and_false] at hE2
        replace hE2 := Lib.hid hE2
        replace n1 := Lib.hid n1
        replace n2 := Lib.hid n2
        clear hE hw tst
        go_wp2_with fail
        refine (pair_any t1 _ hmx).mono ?_
        rw [hx]
        rintro e W2 ⟨⟨bv, rfl, hbv⟩, b2⟩
        have hr2 := own_bel hr b2
        have hB2 := hB.trans (b2.mono hszB)
        have hsz2 := b2.size
        clear hbv b2
        go_wp2_with (at_builtin; refine wpList_append_own _ rfl _ _ 24 rfl w.heap.size 5 i0 (.int .u8 0) 1 1 Tryd.underlying24 hi hz0 hz1 hz2 rfl (by decide) _ _ _ rfl ((hr2).alloc _) ⟨(W2).heap.size, 0, none⟩ 1 1 [.int .u8 (c.toNat)] rfl rfl (cell_one_new _ _ _) (by simp [Value.oneCell']) (by unfold maxLen; omega) (by omega) (by simp; omega) ?_; intro v' w1 hown' hgrow _)
        have hB3 : Below w.heap.size w w1 := (hB2.alloc (by omega) _).trans (below_grown (hr2.alloc _) (by simp; omega) hgrow)
        go_roundw
        case rel => exact ⟨t1, pre ++ [c], false, rfl, rfl, by rw [byteCells_snoc, List.length_append]; exact hown', by rw [List.length_append]; simp only [List.length_cons, List.length_nil]; omega, hE2.out, hB3⟩
        case measure => show t1.size < t.size; omega
      · have k1 : ((c.toNat : Int) == 43) = false := by rw [tst 43 43 rfl]; simpa using n1
        have k2 : ((c.toNat : Int) == 37) = false := by rw [tst 37 37 rfl]; simpa using n2
        have hE2 := hE.step (g' := true) (x := c) (rest' := t1.data.toList) (by rw [hw]; rfl)
        rw [Bool.and_true] at hE2
        replace hE2 := Lib.hid hE2
        replace n1 := Lib.hid n1
        replace n2 := Lib.hid n2
        clear hE hw tst
        go_wp2_with (at_builtin; refine wpList_append_own _ rfl _ _ 24 rfl w.heap.size 5 i0 (.int .u8 0) 1 1 Tryd.underlying24 hi hz0 hz1 hz2 rfl (by decide) _ _ _ rfl ((hr).alloc _) ⟨(wr).heap.size, 0, none⟩ 1 1 [.int .u8 (c.toNat)] rfl rfl (cell_one_new _ _ _) (by simp [Value.oneCell']) (by unfold maxLen; omega) (by omega) (by simp; omega) ?_; intro v' w1 hown' hgrow _)
        have hB3 : Below w.heap.size w w1 := (hB.alloc (by omega) _).trans (below_grown (hr.alloc _) (by simp; omega) hgrow)
        go_roundw
        case rel => exact ⟨t1, pre ++ [c], g, rfl, rfl, by rw [byteCells_snoc, List.length_append]; exact hown', by rw [List.length_append]; simp only [List.length_cons, List.length_nil]; omega, hE2.out, hB3⟩
        case measure => show t1.size < t.size; omega
end Go.Proofs.YtompmkcpicfdfaaDoor
