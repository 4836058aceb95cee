/- missivelaw07.CodecWhite: the walk. -/
import Derived.Test.YtompmkcpicfdfaaDoorParts07
import Derived.Test.YtompmkcpicfdfaaDoorWhiteLaw
import Derived.Test.YtompmkcpicfdfaaDoorStepB
namespace Go.Proofs.YtompmkcpicfdfaaDoor
open Go.RowKit
set_option linter.unusedVariables false
theorem bcells_bytes (s : ByteArray) : Go.byteCells s = Lib.byteCells s.data.toList := rfl
theorem own_apart {w : World} {base : Nat} {e : TypeId} {s n : Nat} {v : Value} {xs : List Value} (h : w.ownsRow base e s v n xs) : v.ownBlock ≠ some w.heap.size := by
  intro hv; have := h.lt _ hv; omega
theorem apart_next {v u v' : Value} {B : Nat} (h : v.ownBlock = none ∨ v.ownBlock ≠ u.ownBlock) (hb : ∀ b, v.ownBlock = some b → b < B) (h' : u.ownBlock = v'.ownBlock ∨ ∃ b, v'.ownBlock = some b ∧ B ≤ b) : v.ownBlock = none ∨ v.ownBlock ≠ v'.ownBlock := by
  rcases h with h | h
  · exact .inl h
  · rcases h' with h' | ⟨b, h1, h2⟩
    · exact .inr (by rw [← h']; exact h)
    · right
      rw [h1]
      intro h3
      have := hb b h3
      omega
theorem keep_new {w w' : World} {row : Option Nat} (hg : w.grownBy w' row) (b : Nat) (u : Value) (hc : w.cell? ⟨b, 0, none⟩ = some u) (hne : some b ≠ row) : w'.cell? ⟨b, 0, none⟩ = some u :=
  (hg.cell_far ⟨b, 0, none⟩ (World.block_lt_of_cell? w _ hc) hne).trans hc
theorem own_lt' {w : World} {base : Nat} {e : TypeId} {s n : Nat} {v : Value} {xs : List Value} (h : w.ownsRow base e s v n xs) : ∀ b, v.ownBlock = some b → b < w.heap.size := fun b hb => (h.lt b hb).2
theorem apart_grow {w : World} {u v v' : Value} {base : Nat} {e : TypeId} {s n : Nat} {xs : List Value} (hu : w.ownsRow base e s u n xs) (h : u.ownBlock = none ∨ u.ownBlock ≠ v.ownBlock) (h' : v'.ownBlock = v.ownBlock ∨ v'.ownBlock = some w.heap.size) : u.ownBlock = none ∨ u.ownBlock ≠ v'.ownBlock :=
  apart_next h (own_lt' hu) (h'.elim (fun h => .inl h.symm) fun h => .inr ⟨_, h, Nat.le_refl _⟩)
theorem step_append_one2 {P : Program} {w : World} {ops : Array Oper} {o : Oper} {a : Act} {K : Act → World → Prop} {Q : Exit → Act → World → Prop} {E : Prop} (hgd : o.guard = none) (sv x : Operand) (t : TypeId)
    (ho : o.op = .call { callee := .builtin .append, args := #[sv, x], argTypes := #[t, t] })
    (base : Nat) (e : TypeId) (i : TypeInfo) (z : Value) (bytes : Nat) (ht : P.underlying t = some (.slice e)) (hi : P.info? e = some i) (hz : i.zero = some z)
    (hsize : i.size = 1) (hby : i.bytes = bytes) (hzs : z.cells.size = 1)
    (v : Value) (n : Nat) (xs : List Value) (hs : a.eval sv = v) (hown : w.ownsRow base e 1 v n xs) (b : Nat) (hxv : a.eval x = .slice (some ⟨b, 0, none⟩) 1 1) (u : Value) (hc : w.cell? ⟨b, 0, none⟩ = some u) (h1 : u.oneCell' = true)
    (h63 : n + 1 ≤ maxLen) (hbytes : (n + 1) * bytes ≤ 140737488355328) (hbase : base ≤ w.heap.size)
    (h : ∀ v' w', w'.ownsRow base e 1 v' (n + 1) (xs ++ [u]) → w.grownBy w' v.ownBlock → (v'.ownBlock = v.ownBlock ∨ v'.ownBlock = some w.heap.size) → K (a.put o.dst v') w') :
    if Region.wanted o (yielded ops a.tmps) = true then Oper.wp P o a w K Q else E :=
  step_append_src hgd sv x t t ho base e i z 1 bytes ht hi hz hsize hby hzs (by decide) v n xs hs hown _ hxv 1 [u]
    (Src.ofSlice _ ht ⟨b, 0, none⟩ 1 1 [u] rfl (fun j y hj => by
      match j, hj with
      | 0, hj => simp at hj; subst hj; simpa [Addr.add] using hc) (by simpa using h1)) h63 hbytes hbase (fun v' w' k1 k2 k3 _ => h v' w' k1 k2 k3)
theorem sl_new1 (w : World) (c : UInt8) (e : TypeId) : Sl (w.alloc (.cells #[.int .u8 c.toNat] e)) 1 (.slice (some ⟨w.heap.size, 0, none⟩) 1 1) 1 (Lib.byteCells [c]) := by
  refine ⟨by simp [Lib.byteCells], _, 1, rfl, Nat.le_refl _, by unfold maxLen; decide, fun hh => (by cases hh), .inr ⟨w.heap.size, 0, rfl, by simp, fun j u hu => ?_⟩⟩
  match j, hu with
  | 0, hu =>
    have : u = .int .u8 c.toNat := by simpa [Lib.byteCells] using hu.symm
    rw [this, Nat.zero_add]
    exact cell_new1 rfl
theorem own_sym {w : World} {u v : Value} {base : Nat} {e : TypeId} {s n : Nat} {xs : List Value} (hv : w.ownsRow base e s v n xs) (h : u.ownBlock = none ∨ u.ownBlock ≠ v.ownBlock) : v.ownBlock = none ∨ v.ownBlock ≠ u.ownBlock := by
  rcases h with h | h
  · cases hq : v.ownBlock with
    | none => exact .inl rfl
    | some b => right; rw [h]; simp
  · exact .inr h.symm
theorem apart_sym2 {w : World} {u v u' : Value} {base : Nat} {e : TypeId} {s n : Nat} {xs : List Value} (hv : w.ownsRow base e s v n xs) (h : v.ownBlock = none ∨ v.ownBlock ≠ u.ownBlock) (h' : u'.ownBlock = u.ownBlock ∨ u'.ownBlock = some w.heap.size) : u'.ownBlock = none ∨ u'.ownBlock ≠ v.ownBlock := by
  rcases apart_grow hv h h' with h5 | h5
  · cases hq : u'.ownBlock with
    | none => exact .inl rfl
    | some b => right; rw [h5]; simp
  · exact .inr h5.symm
set_option maxRecDepth 100000 in
set_option maxHeartbeats 8000000 in
theorem white07_walk (s white : ByteArray) (on : Int) (w : World) (hs : s.size ≤ maxLen) (hw : white.size ≤ maxLen) (ho : (Lit.int .u8 on).wf = true) :
    Calls Tryd.prog 3 #[.string s, .string white, .int .u8 on] w fun e w' => e = .returned (.bool true) ∧ Below w.heap.size w w' := by
  obtain ⟨i0, hi, hz0, hz1, hz2⟩ := info_parts infoByte_
  obtain ⟨oc, rfl⟩ : ∃ oc : UInt8, on = oc.toNat := by
    have : 0 ≤ on ∧ on ≤ 255 := by simpa [Lit.wf, IntKind.min, IntKind.max, IntKind.signed, IntKind.bits] using ho
    exact ⟨UInt8.ofNat on.toNat, by simp; omega⟩
  clear ho
  have hw9 : white.size ≤ 9223372036854775807 := by unfold maxLen at hw; omega
  by_cases h1 : s.size ≤ 500 ∧ white.size ≤ 10
  · obtain ⟨hs5, hw5⟩ := h1
    have g1 : decide ((500 : Int) < (s.size : Int)) = false := decide_eq_false (by omega)
    have g2 : decide ((10 : Int) < (white.size : Int)) = false := decide_eq_false (by omega)
    by_cases h2 : wtrim white.data.toList = []
    · have hwh := wtrim_nil_all h2
      have hl1 := enc64_len s.data.toList 0
      rw [str_size] at hl1
      replace hwh := Lib.hid hwh
      go_enter Tryd.func3, Tryd.ntmps3
      go_wp2_with fail
      refine (small07_any _).mono ?_
      rintro e W1 ⟨rfl, b1⟩
      go_wp2_with (go_at_call 16; refine (Trim_any white _ hw9).mono ?_; rw [h2]; rintro e w' ⟨⟨q, rfl, hq⟩, rfl⟩; have hqe : q.toList.isEmpty = true := emp_yes (by rw [← str_size, hq]; rfl); obtain rfl : q = ByteArray.empty := str_inj hq; clear hq)
      refine (Base64_any s _ (by omega)).mono ?_
      rintro e W2 ⟨⟨t, rfl, ht⟩, b2⟩
      have hts : t.size ≤ 1005 := by rw [← str_size, ht]; omega
      have hB := bnext b1 b2
      clear b1 b2 h2
      replace ht := Lib.hid ht
      go_wp2_with fail
      obtain ⟨W3, rfl⟩ : ∃ W3 : World, W3 = W2 := ⟨_, rfl⟩
      go_loopw [9, 10, 11] (fun v u ii wr => ∃ (i : Nat), ii = .int .i64 i ∧ i ≤ t.size ∧ wr.ownsRow W3.heap.size 5 1 v (wideL white.data.toList (t.data.toList.take i)).length (Lib.byteCells (wideL white.data.toList (t.data.toList.take i))) ∧ wr.ownsRow W3.heap.size 5 1 u ((t.data.toList.take i).filter n61).length (Lib.byteCells ((t.data.toList.take i).filter n61)) ∧ (u.ownBlock = none ∨ u.ownBlock ≠ v.ownBlock) ∧ Below W3.heap.size W3 wr) (fun _ _ ii _ => t.size - (intOf ii).toNat)
      case atStart => exact ⟨0, rfl, by omega, World.ownsRow_nil _ _ _ _, World.ownsRow_nil _ _ _ _, .inl rfl, Below.refl _ _⟩
      case round =>
        obtain ⟨i, rfl, hit, hv, hu, hap, hBr⟩ := hrel
        have hzB := hBr.size
        by_cases hlt : i < t.size
        · have q1 : decide ((i : Int) < (t.size : Int)) = true := decide_eq_true (by omega)
          have q2 : decide (i < t.size) = true := decide_eq_true hlt
          obtain ⟨c, hc⟩ : ∃ c, t[i] = c := ⟨_, rfl⟩
          have hxc := idx_at t i hlt c (by rw [str_getD t i hlt, hc])
          have htk := str_take t i hlt
          rw [hc] at htk
          obtain ⟨A, hA⟩ : ∃ A, wideL white.data.toList (t.data.toList.take i) = A := ⟨_, rfl⟩
          have hA2 : wideL white.data.toList (t.data.toList.take (i + 1)) = A ++ white.data.toList ++ [c] := by rw [htk, wideL_snoc, hA]
          have hAl : A.length ≤ 11055 := by
            rw [← hA, wideL_len, List.length_take, str_size, str_size]
            have : min i t.size ≤ 1005 := by omega
            exact Nat.le_trans (Nat.mul_le_mul this (show white.size + 1 ≤ 11 by omega)) (by decide)
          obtain ⟨D, hD⟩ : ∃ D, (t.data.toList.take i).filter n61 = D := ⟨_, rfl⟩
          have hDl : D.length ≤ 1005 := by rw [← hD]; exact Nat.le_trans (List.length_filter_le _ _) (by rw [List.length_take, str_size]; omega)
          have hD2 : (t.data.toList.take (i + 1)).filter n61 = D ++ (if n61 c then [c] else []) := by rw [htk, List.filter_append, hD]; congr 1; simp [List.filter_cons]
          rw [hA] at hv
          rw [hD] at hu
          replace hA2 := Lib.hid hA2
          replace hD2 := Lib.hid hD2
          clear htk hA hD
          replace hc := Lib.hid hc
          obtain ⟨ao, cap, rfl⟩ := slice_of_own hv
          obtain ⟨ao2, cap2, rfl⟩ := slice_of_own hu
          obtain ⟨W4, rfl⟩ : ∃ W4 : World, W4 = wr := ⟨_, rfl⟩
          go_wp2_with fail
          have hne0 : some W4.heap.size ≠ (Value.slice ao A.length cap).ownBlock := (own_apart hv).symm
          go_region_held3 (fun w' => True) (trivial) (first
            | (refine step_append_src (o := ⟨some 43, _, _, _, _, _⟩) rfl (.tmp 41) (.tmp 42) 24 9 ?_ W3.heap.size 5 i0 (.int .u8 0) 1 1 Tryd.underlying24 hi hz0 hz1 hz2 rfl (by decide) (.slice ao A.length cap) A.length (Lib.byteCells A) ?_ ?_ (.string white) ?_ white.size (Go.byteCells white) (Src.ofString _ Tryd.underlying9 white) (by unfold maxLen; omega) (by omega) ?_ ?_; rfl; rfl; (repeat (first | (with_reducible exact hv) | (with_reducible refine World.ownsRow.drew ?_) | (with_reducible refine World.ownsRow.alloc ?_ _))); rfl; (first | omega | (simp; try omega)); intro v1 w1 own1 grow1 hob1 _; (first | (have hc1 := keep_new grow1 W4.heap.size (.int .u8 c.toNat) (cell_new1 rfl) hne0) | (have hc1 := keep_new grow1 W4.heap.size (.int .u8 c.toNat) (cell_drew1 (cell_new1 rfl)) hne0) | skip); have hB1 : Below W3.heap.size W3 w1 := (by refine below_row ?_ (base := W3.heap.size) (e := 5) (s := 1) (n := A.length) (xs := Lib.byteCells A) ?_ (Nat.le_refl _) (by first | omega | (simp; try omega)) grow1; (repeat (first | (with_reducible exact hBr) | (with_reducible refine Below.alloc ?_ (by first | omega | (simp; omega)) _) | (with_reducible refine Below.drew ?_))); (repeat (first | (with_reducible exact hv) | (with_reducible refine World.ownsRow.drew ?_) | (with_reducible refine World.ownsRow.alloc ?_ _)))); have hu1 : w1.ownsRow W3.heap.size 5 1 (.slice ao2 D.length cap2) D.length (Lib.byteCells D) := (by refine own_other ?_ grow1 hap; (repeat (first | (with_reducible exact hu) | (with_reducible refine World.ownsRow.drew ?_) | (with_reducible refine World.ownsRow.alloc ?_ _)))); have hap1 : (Value.slice ao2 D.length cap2).ownBlock = none ∨ (Value.slice ao2 D.length cap2).ownBlock ≠ v1.ownBlock := (by refine apart_grow (e := 5) (base := W3.heap.size) (s := 1) (n := D.length) (xs := Lib.byteCells D) ?_ hap hob1; (repeat (first | (with_reducible exact hu) | (with_reducible refine World.ownsRow.drew ?_) | (with_reducible refine World.ownsRow.alloc ?_ _)))); have hz1' := hB1.size; clear grow1 hob1)
            | (refine step_append_one2 (o := ⟨some 48, _, _, _, _, _⟩) rfl (.tmp 43) (.tmp 47) 24 ?_ W3.heap.size 5 i0 (.int .u8 0) 1 Tryd.underlying24 hi hz0 hz1 hz2 rfl v1 (A.length + white.size) (Lib.byteCells A ++ Go.byteCells white) ?_ ?_ _ (by rfl) (.int .u8 c.toNat) ?_ rfl (by unfold maxLen; omega) (by omega) ?_ ?_; rfl; rfl; (repeat (first | (with_reducible exact own1) | (with_reducible refine World.ownsRow.drew ?_) | (with_reducible refine World.ownsRow.alloc ?_ _))); (repeat (first | (exact hc1) | (with_reducible exact cell_new1 (by simp)) | (with_reducible refine cell_drew1 ?_))); (first | omega | (simp; try omega)); intro v2 w2 own2 grow2 hob2; have hB2 : Below W3.heap.size W3 w2 := (by refine below_row ?_ (base := W3.heap.size) (e := 5) (s := 1) (n := A.length + white.size) (xs := Lib.byteCells A ++ Go.byteCells white) ?_ (Nat.le_refl _) (by first | omega | (simp; try omega)) grow2; (repeat (first | (with_reducible exact hB1) | (with_reducible refine Below.alloc ?_ (by first | omega | (simp; omega)) _) | (with_reducible refine Below.drew ?_))); (repeat (first | (with_reducible exact own1) | (with_reducible refine World.ownsRow.drew ?_) | (with_reducible refine World.ownsRow.alloc ?_ _)))); have hu2 : w2.ownsRow W3.heap.size 5 1 (.slice ao2 D.length cap2) D.length (Lib.byteCells D) := (by refine own_other ?_ grow2 hap1; (repeat (first | (with_reducible exact hu1) | (with_reducible refine World.ownsRow.drew ?_) | (with_reducible refine World.ownsRow.alloc ?_ _)))); have hap2 : (Value.slice ao2 D.length cap2).ownBlock = none ∨ (Value.slice ao2 D.length cap2).ownBlock ≠ v2.ownBlock := (by refine apart_grow (e := 5) (base := W3.heap.size) (s := 1) (n := D.length) (xs := Lib.byteCells D) ?_ hap1 hob2; (repeat (first | (with_reducible exact hu1) | (with_reducible refine World.ownsRow.drew ?_) | (with_reducible refine World.ownsRow.alloc ?_ _)))); clear grow2 hob2))
          all_goals
            have own2' : w2.ownsRow W3.heap.size 5 1 v2 (A ++ white.data.toList ++ [c]).length (Lib.byteCells (A ++ white.data.toList ++ [c])) := by
              rw [List.length_append, List.length_append, str_size, bytes_app, bytes_app]; exact own2
            replace own2' := Lib.hid own2'
            clear own1 own2 hB1 hap1 hu1 hz1' hxc
            have hz2' := hB2.size
            have hxc := idx_at t i hlt c (by rw [str_getD t i hlt]; exact hc.out)
            cases hn : n61 c
            · have k1 : ((c.toNat : Int) != 61) = false := by rw [bne, u8_beq 61 (d := 61) rfl]; exact hn
              have hD3 := hD2.out
              rw [hn] at hD3
              replace hD3 := Lib.hid hD3
              replace hn := Lib.hid hn
              clear hD2
              replace hu2 := Lib.hid hu2
              replace hap2 := Lib.hid hap2
              go_wp2_with fail
              go_roundw
              case rel => exact ⟨i + 1, by go_num, hlt, by rw [hA2.out]; exact own2'.out, by rw [hD3.out]; simpa using hu2.out, hap2.out, hB2⟩
              case measure => simp only [intOf]; go_num
            · have k1 : ((c.toNat : Int) != 61) = true := by rw [bne, u8_beq 61 (d := 61) rfl]; exact hn
              have hD3 := hD2.out
              rw [hn] at hD3
              replace hD3 := Lib.hid hD3
              replace hn := Lib.hid hn
              clear hD2
              go_wp2_with (at_builtin; refine wpList_append_own_at _ rfl _ _ 24 rfl W3.heap.size 5 i0 (.int .u8 0) 1 1 Tryd.underlying24 hi hz0 hz1 hz2 rfl (by decide) _ _ _ rfl (hu2.alloc _) ⟨w2.heap.size, 0, none⟩ 1 1 [.int .u8 c.toNat] rfl rfl (cell_one_new _ _ _) (by simp [Value.oneCell']) (by unfold maxLen; omega) (by omega) (by simp; omega) ?_; intro v3 w3 own3 grow3 _ hob3)
              have hB3 : Below W3.heap.size W3 w3 := (hB2.alloc (by omega) _).trans (below_grown (hu2.alloc _) (by simp; omega) grow3)
              have own4 := own_other (own2'.out.alloc _) grow3 (own_sym own2'.out hap2)
              have hap3 := apart_sym2 (own2'.out.alloc _) (own_sym own2'.out hap2) hob3
              go_roundw
              case rel => exact ⟨i + 1, by go_num, hlt, by rw [hA2.out]; exact own4, by rw [hD3.out, List.length_append, bytes_app]; exact own3, hap3, hB3⟩
              case measure => simp only [intOf]; go_num
        · obtain rfl : i = t.size := by omega
          have q1 : decide ((t.size : Int) < (t.size : Int)) = false := by simp
          have q2 : decide (t.size < t.size) = false := by simp
          have htt : t.data.toList.take t.size = t.data.toList := List.take_of_length_le (by rw [str_size]; exact Nat.le_refl _)
          rw [htt, ht.out] at hv hu
          obtain ⟨ao, cap, rfl⟩ := slice_of_own hv
          obtain ⟨ao2, cap2, rfl⟩ := slice_of_own hu
          have hSv := Sl.of_own hv
          have hSu := Sl.of_own hu
          clear hv hu hap htt
          have hwl : (wideL white.data.toList (enc64 0 s.data.toList)).length ≤ 11055 := by
            rw [wideL_len, str_size, ← ht.out, str_size]
            exact Nat.le_trans (Nat.mul_le_mul hts (show white.size + 1 ≤ 11 by omega)) (by decide)
          have hbl : ((enc64 0 s.data.toList).filter n61).length ≤ 1005 := by rw [← ht.out]; exact Nat.le_trans (List.length_filter_le _ _) (by rw [str_size]; exact hts)
          obtain ⟨X0, rfl⟩ : ∃ X0 : World, X0 = wr := ⟨_, rfl⟩
          have hBX := bnext hB hBr
          clear hBr hB
          go_wp2_with ((with_reducible show wpList _ _ _ (⟨some 61, _, _, _, _, _⟩ :: _) _ _); refine wpList_string_of (o := ⟨some 61, _, _, _, _, _⟩) rfl 24 9 5 (.tmp 60) rfl _ _ cap _ rfl Tryd.underlying24 Tryd.underlying5 Tryd.underlying9 hSv ?_; intro q hq; have hqs : q.size ≤ 11055 := (by rw [← str_size, hq]; exact hwl); replace hq := Lib.hid hq)
          refine (Unbase64_any (q ++ white) _ (by rw [ByteArray.size_append]; omega)).mono ?_
          rw [app_list, hq.out, unb_wide hwh.out]
          rintro e X1 ⟨⟨a, rfl, ha⟩, c1⟩
          obtain rfl : a = s := str_inj ha
          have hSu1 := hSu.below c1
          have hB1 := bnext hBX c1
          have hse := same_eq a
          have hmod : ((a.size : Int) % 3 == 0) = decide (a.size % 3 = 0) := by rw [Bool.eq_iff_iff]; simp; omega
          clear hBX c1 hq hSv hSu ha
          go_wp2_with ((with_reducible show wpList _ _ _ (⟨some 69, _, _, _, _, _⟩ :: _) _ _); refine wpList_string_of (o := ⟨some 69, _, _, _, _, _⟩) rfl 24 9 5 (.tmp 68) rfl _ _ cap2 _ rfl Tryd.underlying24 Tryd.underlying5 Tryd.underlying9 hSu1 ?_; intro r hr; have hrs : r.size ≤ 1005 := (by rw [← str_size, hr]; exact hbl); replace hr := Lib.hid hr)
          refine (Unbase64_any r _ (by omega)).mono ?_
          rw [hr.out, unb_bare, str_size]
          rintro e X2 ⟨⟨b, rfl, hb⟩, c2⟩
          obtain rfl : b = a := str_inj hb
          have hSu2 := hSu1.below c2
          have hB2 := bnext hB1 c2
          obtain ⟨md, hmd⟩ : ∃ md, decide (b.size % 3 = 0) = md := ⟨_, rfl⟩
          rw [hmd] at hmod ⊢
          have hmm : (md != md) = false := by cases md <;> rfl
          clear hB1 c2 hSu1 hb hmd hr
          have hu8 := oc.toNat_lt
          obtain ⟨X, rfl⟩ : ∃ X : World, X = X2 := ⟨_, rfl⟩
          have hzX := hB2.size
          cases hwo : wh oc
          · replace hwo := Lib.hid hwo
            go_wp2_with (first
              | (go_at_call 19; refine (White_any oc _).mono ?_; rw [hwo.out]; rintro e w' ⟨rfl, rfl⟩)
              | ((with_reducible show wpList _ _ _ (⟨some 138, _, _, _, _, _⟩ :: _) _ _); refine wpList_string_of (o := ⟨some 138, _, _, _, _, _⟩) rfl 24 9 5 (.tmp 137) rfl _ _ cap2 _ rfl Tryd.underlying24 Tryd.underlying5 Tryd.underlying9 hSu2 ?_; intro r hr; have hrs : r.size ≤ 1005 := (by rw [← str_size, hr]; exact hbl); replace hr := Lib.hid hr)
              | ((with_reducible show wpList _ _ _ (⟨some 141, _, _, _, _, _⟩ :: _) _ _); refine wpList_string_of (o := ⟨some 141, _, _, _, _, _⟩) rfl 24 9 5 (.tmp 140) rfl _ _ 1 [oc] rfl Tryd.underlying24 Tryd.underlying5 Tryd.underlying9 ?_ ?_; (repeat (first | (exact sl_new1 _ _ _) | (with_reducible refine Sl.drew ?_))); intro p hp; have hps : p.size = 1 := (by rw [← str_size, hp]; rfl); have hps2 : p.size ≤ 1 := (by omega); replace hps := Lib.hid hps; replace hp := Lib.hid hp))
            all_goals first
              | (go_ret; exact ⟨rfl, hB2⟩)
              | skip
            all_goals
              have hno := noD_of oc (by omega)
              refine (Unbase64_any _ _ (by rw [ByteArray.size_append, ByteArray.size_append]; omega)).mono ?_
              rw [app_list, app_list, hr.out, hp.out, ht.out, unb_other _ _ hno.1 hno.2.1 hwo.out]
              rintro e X3 ⟨⟨a, rfl, ha⟩, c3⟩
              obtain rfl : a = b := str_inj ha
              go_wp2_with fail
              go_ret
              exact ⟨rfl, by first | exact bnext (balloc hB2) c3 | exact bnext (bdrew (balloc hB2)) c3 | exact bnext (balloc (bdrew hB2)) c3⟩
          · replace hwo := Lib.hid hwo
            go_wp2_with (go_at_call 19; refine (White_any oc _).mono ?_; rw [hwo.out]; rintro e w' ⟨rfl, rfl⟩)
            all_goals first
              | (go_ret; exact ⟨rfl, hB2⟩)
              | (exfalso; have := (noD_of oc (by omega)).2.2 (by omega); rw [hwo.out] at this; cases this)
    · obtain ⟨tq, htq⟩ : ∃ tq : ByteArray, tq.data.toList = wtrim white.data.toList := ⟨⟨(wtrim white.data.toList).toArray⟩, by simp⟩
      have hqe : tq.toList.isEmpty = false := by
        rw [Lib.toList_data, htq]
        cases h : wtrim white.data.toList with
        | nil => exact absurd h h2
        | cons _ _ => rfl
      rw [← htq] at h2
      replace htq := Lib.hid htq
      replace h2 := Lib.hid h2
      go_enter Tryd.func3, Tryd.ntmps3
      go_wp2_with fail
      refine (small07_any _).mono ?_
      rintro e W1 ⟨rfl, b1⟩
      go_wp2_with (go_at_call 16; refine (Trim_any white _ hw9).mono ?_; rintro e w' ⟨⟨q, rfl, hq⟩, rfl⟩; obtain rfl : q = tq := str_inj (hq.trans htq.out.symm); clear hq)
      go_ret
      exact ⟨rfl, b1⟩
  · have hways : (decide ((500 : Int) < (s.size : Int)) = true) ∨ (decide ((500 : Int) < (s.size : Int)) = false ∧ decide ((10 : Int) < (white.size : Int)) = true) := by
      by_cases h : s.size ≤ 500
      · exact .inr ⟨decide_eq_false (by omega), decide_eq_true (by omega)⟩
      · exact .inl (decide_eq_true (by omega))
    clear h1
    rcases hways with g1 | ⟨g1, g2⟩
    all_goals
      go_enter Tryd.func3, Tryd.ntmps3
      go_wp2_with fail
      refine (small07_any _).mono ?_
      rintro e W1 ⟨rfl, b1⟩
      go_wp2_with fail
      go_ret
      exact ⟨rfl, b1⟩
end Go.Proofs.YtompmkcpicfdfaaDoor
