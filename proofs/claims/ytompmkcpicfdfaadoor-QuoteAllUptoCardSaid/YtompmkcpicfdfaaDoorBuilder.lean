/- strings.Builder's writers (their copyCheck is not the shelf's). -/
import Derived.Test.YtompmkcpicfdfaaDoorCom
import Derived.Test.YtompmkcpicfdfaaDoorShelf
import Derived.Shelf.Strings.Builder1
namespace Go.Proofs.YtompmkcpicfdfaaDoor
open Go.RowKit
set_option linter.unusedVariables false
theorem bsize_ : (Tryd.prog.info? 48).map (·.size) = some 2 := by kernel_rfl
theorem blies_ : liesAt Tryd.prog Tryd.prog.depth 48 (2 / Tryd.prog.cellsOf 48) 0 48 1 = true := by kernel_rfl
set_option maxRecDepth 100000 in
set_option maxHeartbeats 1000000 in
theorem copyCheck_used (b : Nat) (w : World) (h0 : w.cell? ⟨b, 0, none⟩ = some (.pointer (some ⟨b, 0, none⟩))) :
    Calls Tryd.prog 76 #[.pointer (some ⟨b, 0, none⟩)] w fun e w' => e = .returned (.tuple #[]) ∧ w' = w := by
  obtain ⟨j, hj, _⟩ := Option.map_eq_some_iff.1 bsize_
  go_enter Tryd.func76, Tryd.ntmps76
  go_wp2
  rw [Lib.run_neq_ptr_same w _ Tryd.underlying46 hj]
  go_wp2
  go_end0
  exact ⟨rfl, rfl⟩
set_option maxRecDepth 100000 in
set_option maxHeartbeats 1000000 in
theorem copyCheck_fresh (b : Nat) (w : World) (h0 : w.cell? ⟨b, 0, none⟩ = some (.pointer none)) (hsh : w.shape? b = some (48, 2)) (hfz : w.frozen? ⟨b, 0, none⟩ = false) :
    Calls Tryd.prog 76 #[.pointer (some ⟨b, 0, none⟩)] w fun e w' => e = .returned (.tuple #[]) ∧ w' = w.setCell ⟨b, 0, none⟩ (.pointer (some ⟨b, 0, none⟩)) := by
  obtain ⟨j, hj, hjs⟩ := Option.map_eq_some_iff.1 bsize_
  go_enter Tryd.func76, Tryd.ntmps76
  go_wp2
  rw [Lib.run_to_unsafe w ⟨b, 0, none⟩ Tryd.underlying46 Tryd.underlying101 hj (by rw [hjs]; decide) hsh (Nat.zero_lt_succ 1)]
  simp only [Result.andThen]
  rw [Oper.upon_value]
  go_wp2
  rw [run_callFunc_extern Tryd.func101 (by kernel_rfl) (by kernel_rfl) (by kernel_rfl) (e := Extern.AbiNoEscape.same) (by kernel_rfl)]
  rw [Lib.run_noEscape]
  simp only [Result.andThen]
  rw [Oper.upon_value]
  go_wp2
  rw [Lib.run_from_unsafe w ⟨b, 0, none⟩ Tryd.underlying101 Tryd.underlying46 hj hsh blies_]
  simp only [Result.andThen]
  rw [Oper.upon_value]
  go_wp2
  go_end0
  exact ⟨rfl, rfl⟩
/-- The blocks below B, but b, are as they were. -/
structure Kp (B b : Nat) (w w' : World) : Prop where
  os : w'.os = w.os
  tape : w'.tape = w.tape
  output : w'.output = w.output
  size : w.heap.size ≤ w'.heap.size
  block : ∀ k, k < B → k ≠ b → w'.heap[k]? = w.heap[k]?
theorem Kp.refl (B b : Nat) (w : World) : Kp B b w w := ⟨rfl, rfl, rfl, Nat.le_refl _, fun _ _ _ => rfl⟩
theorem Kp.trans {B b : Nat} {u v w : World} (h : Kp B b u v) (k : Kp B b v w) : Kp B b u w :=
  ⟨k.os.trans h.os, k.tape.trans h.tape, k.output.trans h.output, Nat.le_trans h.size k.size, fun i hi hb => (k.block i hi hb).trans (h.block i hi hb)⟩
theorem Kp.of_below {B b : Nat} {w w' : World} (h : Below B w w') : Kp B b w w' := ⟨h.os, h.tape, h.output, h.size, fun k hk _ => h.block k hk⟩
theorem Kp.below {B b B' : Nat} {w w' : World} (h : Kp B b w w') (h1 : B' ≤ B) (h2 : B' ≤ b) : Below B' w w' := ⟨h.os, h.tape, h.output, h.size, fun k hk => h.block k (by omega) (by omega)⟩
theorem Kp.setCell {B b : Nat} {u w : World} (h : Kp B b u w) {p : Addr} (hp : p.block = b) (v : Value) : Kp B b u (w.setCell p v) :=
  ⟨h.os, h.tape, h.output, by simpa using h.size, fun k hk hb => (Below.heap_setCell _ _ _ _ (fun e => hb (by rw [e, hp]))).trans (h.block k hk hb)⟩
theorem Kp.setHigh {B b : Nat} {u w : World} (h : Kp B b u w) {p : Addr} (hp : B ≤ p.block) (v : Value) : Kp B b u (w.setCell p v) :=
  ⟨h.os, h.tape, h.output, by simpa using h.size, fun k hk hb => (Below.heap_setCell _ _ _ _ (by omega)).trans (h.block k hk hb)⟩
theorem Kp.alloc {B b : Nat} {u w : World} (h : Kp B b u w) (hB : B ≤ w.heap.size) (o : Obj) : Kp B b u (w.alloc o) :=
  h.trans (Kp.of_below (((Below.refl B w)).alloc hB o))
theorem Kp.drew {B b : Nat} {u w : World} (h : Kp B b u w) : Kp B b u w.drew := ⟨h.os, h.tape, h.output, h.size, h.block⟩
theorem Kp.grown {B b : Nat} {u w w' : World} {base : Nat} {e s n : Nat} {v : Value} {xs : List Value} (h : Kp B b u w) (hB : B ≤ base) (hB2 : B ≤ w.heap.size) (ho : w.ownsRow base e s v n xs) (hg : w.grownBy w' v.ownBlock) : Kp B b u w' :=
  h.trans (Kp.of_below ((Below.refl B w).grown hg hB2 fun k hk => Nat.le_trans hB (ho.lt k hk).1))
/-- A builder in the block b, its bytes in a row from B on. -/
def Bld (B b : Nat) (l : List UInt8) (w : World) : Prop :=
  ∃ p v, (p = .pointer none ∨ p = .pointer (some ⟨b, 0, none⟩)) ∧ w.heap[b]? = some (.cells #[p, v] 48 (0, 0)) ∧ w.ownsRow B 5 1 v l.length (Lib.byteCells l)
theorem Bld.lt {B b : Nat} {l : List UInt8} {w : World} (h : Bld B b l w) : b < w.heap.size := by
  obtain ⟨p, v, _, hb, _⟩ := h
  exact (Array.getElem?_eq_some_iff.1 hb).1
theorem Bld.bel {B b : Nat} {l : List UInt8} {w w' : World} (h : Bld B b l w) (hb : Below w.heap.size w w') : Bld B b l w' := by
  have hlt := h.lt
  obtain ⟨p, v, hp, h1, h2⟩ := h
  exact ⟨p, v, hp, by rw [hb.block b hlt]; exact h1, own_bel h2 hb⟩
theorem Bld.mono {B B' b : Nat} {l : List UInt8} {w : World} (h : Bld B b l w) (hB : B' ≤ B) : Bld B' b l w := by
  obtain ⟨p, v, hp, h1, h2⟩ := h
  exact ⟨p, v, hp, h1, own_mono h2 hB⟩
theorem Bld.rebase {B B' b : Nat} {w : World} (h : Bld B b [] w) (h2 : w.heap[b]? = some (.cells #[.pointer none, .slice none 0 0] 48 (0, 0))) : Bld B' b [] w :=
  ⟨_, _, .inl rfl, h2, World.ownsRow_nil _ _ _ _⟩
theorem Bld.fresh {B b : Nat} {w : World} (h2 : w.heap[b]? = some (.cells #[.pointer none, .slice none 0 0] 48 (0, 0))) : Bld B b [] w :=
  ⟨_, _, .inl rfl, h2, World.ownsRow_nil _ _ _ _⟩
theorem Bld.setCell {B b : Nat} {l : List UInt8} {w : World} (h : Bld B b l w) {p : Addr} (u : Value) (hpb : p.block ≠ b) (hpB : p.block < B) : Bld B b l (w.setCell p u) := by
  obtain ⟨q, v, hq, h1, h2⟩ := h
  refine ⟨q, v, hq, ?_, own_set h2 u (own_ne h2 (.inl hpB))⟩
  rw [Below.heap_setCell _ _ _ _ (fun e => hpb e.symm)]; exact h1
set_option maxRecDepth 100000 in
theorem copyCheck_any {B b : Nat} {l : List UInt8} {w : World} (h : Bld B b l w) :
    Calls Tryd.prog 76 #[.pointer (some ⟨b, 0, none⟩)] w fun e w' => e = .returned (.tuple #[]) ∧ Bld B b l w' ∧ w'.cell? ⟨b, 0, none⟩ = some (.pointer (some ⟨b, 0, none⟩)) ∧ w'.heap.size = w.heap.size ∧ Kp B b w w' := by
  have hlt := h.lt
  obtain ⟨p, v, hp, h1, h2⟩ := h
  have hne : v.ownBlock ≠ some b := Lib.ownBlock_ne h2 h1 (by decide)
  rcases hp with rfl | rfl
  · refine (copyCheck_fresh b w (by rw [Lib.cell_of_heap h1]; rfl) (by simp [World.shape?, h1]) (Lib.frozen_of_heap h1 0)).mono ?_
    rintro e w' ⟨rfl, rfl⟩
    have hb2 : (w.setCell ⟨b, 0, none⟩ (.pointer (some ⟨b, 0, none⟩))).heap[b]? = some (.cells #[.pointer (some ⟨b, 0, none⟩), v] 48 (0, 0)) := by simp [World.setCell, Array.getElem?_modify, h1]
    exact ⟨rfl, ⟨_, v, .inr rfl, hb2, own_set h2 _ hne⟩, by rw [Lib.cell_of_heap hb2]; rfl, by simp, (Kp.refl B b w).setCell rfl _⟩
  · refine (copyCheck_used b w (by rw [Lib.cell_of_heap h1]; rfl)).mono ?_
    rintro e w' ⟨rfl, rfl⟩
    exact ⟨rfl, ⟨_, v, .inr rfl, h1, h2⟩, by rw [Lib.cell_of_heap h1]; rfl, rfl, Kp.refl B b _⟩
set_option maxHeartbeats 2000000 in
set_option maxRecDepth 100000 in
theorem WriteByte_any {B b : Nat} {l : List UInt8} {w : World} (c : UInt8) (n : Int) (hn : n = c.toNat) (h : Bld B b l w) (hlen : l.length + 1 ≤ 140737488355328) (hBw : B ≤ w.heap.size) :
    Calls Tryd.prog 46 #[.pointer (some ⟨b, 0, none⟩), .int .u8 n] w fun e w' => e = .returned .nilIface ∧ Bld B b (l ++ [c]) w' ∧ Kp B b w w' := by
  subst hn
  obtain ⟨i0, hi, hz0, hz1, hz2⟩ := info_parts infoByte_
  go_enter Tryd.func46, Tryd.ntmps46
  go_wp2_with (go_at_call 76; refine (copyCheck_any h).mono ?_)
  rintro e w1 ⟨rfl, hB1, c0, hs1, k1⟩
  obtain ⟨p, v, hp, hbk, hown⟩ := hB1
  have hBw1 : B ≤ w1.heap.size := by omega
  clear hs1
  obtain rfl : p = .pointer (some ⟨b, 0, none⟩) := by
    rw [Lib.cell_of_heap hbk] at c0; simpa using c0
  have hne : v.ownBlock ≠ some b := Lib.ownBlock_ne hown hbk (by decide)
  have c1 : w1.cell? ⟨b, 1, none⟩ = some v := by rw [Lib.cell_of_heap hbk]; rfl
  go_wp2_with (at_builtin; refine wpList_append_own _ rfl _ _ 24 rfl B 5 i0 (.int .u8 0) 1 1 Tryd.underlying24 hi hz0 hz1 hz2 rfl (by decide) _ _ _ rfl (hown.alloc _) ⟨w1.heap.size, 0, none⟩ 1 1 [.int .u8 c.toNat] rfl rfl ?c1 ?c2 ?c3 ?c4 ?c5 ?_)
  case c1 =>
    intro j u hj
    match j, hj with
    | 0, hj => simp at hj; subst hj; simp [Addr.add]
  case c2 => intro u hu; simp at hu; subst hu; rfl
  case c3 => unfold maxLen; omega
  case c4 => omega
  case c5 => simp; omega
  intro v' w2 hown' hgrow _
  have hlt : b < w1.heap.size := (Array.getElem?_eq_some_iff.1 hbk).1
  have hb2 : w2.heap[b]? = some (.cells #[.pointer (some ⟨b, 0, none⟩), v] 48 (0, 0)) := by
    rw [hgrow.block b (by simp; omega) (fun e => hne e.symm), Lib.alloc_old w1 _ b hlt]
    exact hbk
  have d0 : w2.cell? ⟨b, 0, none⟩ = some (.pointer (some ⟨b, 0, none⟩)) := by rw [Lib.cell_of_heap hb2]; rfl
  have d1 : w2.cell? ⟨b, 1, none⟩ = some v := by rw [Lib.cell_of_heap hb2]; rfl
  have f1 : w2.frozen? ⟨b, 1, none⟩ = false := Lib.frozen_of_heap hb2 1
  obtain ⟨g, cap, rfl⟩ : ∃ g cap, v' = .slice (some ⟨g, 0, none⟩) (l.length + 1) cap := by
    rcases hown'.2 with ⟨_, h0⟩ | ⟨g, cap, cur, hv, _⟩
    · omega
    · exact ⟨g, cap, hv⟩
  go_wp2
  go_ret
  have hne2 : Value.ownBlock (.slice (some ⟨g, 0, none⟩) (l.length + 1) cap) ≠ some b := Lib.ownBlock_ne hown' hb2 (by decide)
  refine ⟨rfl, ⟨.pointer (some ⟨b, 0, none⟩), .slice (some ⟨g, 0, none⟩) (l.length + 1) cap, .inr rfl, ?_, ?_⟩, ?_⟩
  · simp [World.setCell, Array.getElem?_modify, hb2]
  · rw [List.length_append, byteCells_snoc]; exact own_set hown' _ hne2
  · exact ((k1.alloc (by omega) _).grown (Nat.le_refl B) (by simp; omega) (hown.alloc _) hgrow).setCell rfl _
set_option maxHeartbeats 2000000 in
set_option maxRecDepth 100000 in
theorem WriteString_any {B b : Nat} {l : List UInt8} {w : World} (s : ByteArray) (h : Bld B b l w) (hlen : l.length + s.size ≤ 140737488355328) (hBw : B ≤ w.heap.size) :
    Calls Tryd.prog 56 #[.pointer (some ⟨b, 0, none⟩), .string s] w fun e w' => e = .returned (.tuple #[.int .i64 s.size, .nilIface]) ∧ Bld B b (l ++ s.data.toList) w' ∧ Kp B b w w' := by
  obtain ⟨i0, hi, hz0, hz1, hz2⟩ := info_parts infoByte_
  go_enter Tryd.func56, Tryd.ntmps56
  go_wp2_with (go_at_call 76; refine (copyCheck_any h).mono ?_)
  rintro e w1 ⟨rfl, hB1, c0, hs1, k1⟩
  obtain ⟨p, v, hp, hbk, hown⟩ := hB1
  have hBw1 : B ≤ w1.heap.size := by omega
  clear hs1
  obtain rfl : p = .pointer (some ⟨b, 0, none⟩) := by
    rw [Lib.cell_of_heap hbk] at c0; simpa using c0
  have hne : v.ownBlock ≠ some b := Lib.ownBlock_ne hown hbk (by decide)
  have c1 : w1.cell? ⟨b, 1, none⟩ = some v := by rw [Lib.cell_of_heap hbk]; rfl
  go_wp2_with (at_builtin; refine Lib.wpList_append_own_string _ rfl _ _ 24 9 rfl B 5 i0 Tryd.underlying24 Tryd.underlying9 hi hz0 hz1 hz2 _ _ _ rfl hown s rfl ?c3 ?c4 ?c5 ?_)
  case c3 => unfold maxLen; omega
  case c4 => omega
  case c5 => omega
  intro v' w2 hown' hgrow _
  have hlt : b < w1.heap.size := (Array.getElem?_eq_some_iff.1 hbk).1
  have hb2 : w2.heap[b]? = some (.cells #[.pointer (some ⟨b, 0, none⟩), v] 48 (0, 0)) := by
    rw [hgrow.block b hlt (fun e => hne e.symm)]
    exact hbk
  have d0 : w2.cell? ⟨b, 0, none⟩ = some (.pointer (some ⟨b, 0, none⟩)) := by rw [Lib.cell_of_heap hb2]; rfl
  have d1 : w2.cell? ⟨b, 1, none⟩ = some v := by rw [Lib.cell_of_heap hb2]; rfl
  have f1 : w2.frozen? ⟨b, 1, none⟩ = false := Lib.frozen_of_heap hb2 1
  obtain ⟨ao, cap, rfl⟩ := slice_of_own hown'
  go_wp2
  go_ret2
  have hne2 : Value.ownBlock (.slice ao (l.length + s.size) cap) ≠ some b := Lib.ownBlock_ne hown' hb2 (by decide)
  refine ⟨rfl, ⟨.pointer (some ⟨b, 0, none⟩), .slice ao (l.length + s.size) cap, .inr rfl, ?_, ?_⟩, ?_⟩
  · simp [World.setCell, Array.getElem?_modify, hb2]
  · have := own_set hown' (a := ⟨b, 1, none⟩) (.slice ao (l.length + s.size) cap) hne2
    rw [strCells_bytes] at this
    rw [List.length_append, str_size, show Lib.byteCells (l ++ s.data.toList) = Lib.byteCells l ++ Lib.byteCells s.data.toList by simp [Lib.byteCells]]
    exact this
  · exact (k1.grown (Nat.le_refl B) (by omega) hown hgrow).setCell rfl _
theorem String_any {B b : Nat} {l : List UInt8} {w : World} (h : Bld B b l w) (B0 : Nat) (hB0 : B0 ≤ B) (hb0 : B0 ≤ b) :
    Calls Tryd.prog 47 #[.pointer (some ⟨b, 0, none⟩)] w fun e w' => (∃ t : ByteArray, e = .returned (.string t) ∧ t.data.toList = l) ∧ Below B0 w w' := by
  have hlt := h.lt
  obtain ⟨p, v, hp, h1, h2⟩ := h
  have hI : Lib.IsBuilder 48 5 B0 b (Lib.byteCells l) w := by
    have hA : ∀ p, w.heap[b]? = some (.cells #[p, v] 48 (0, 0)) → Lib.BuilderAt 48 5 B0 b p (Lib.byteCells l) w := fun p hb => ⟨hb0, v, hb, by rw [Lib.byteCells_length]; exact own_mono h2 hB0, Lib.ownBlock_ne h2 hb (by decide)⟩
    rcases hp with rfl | rfl
    · exact .inl (hA _ h1)
    · exact .inr (hA _ h1)
  exact (Tryd.Builder_String_any B0 b l w hI (by omega)).mono fun e w' ⟨he, hb⟩ => ⟨⟨_, he, by simp⟩, hb⟩
end Go.Proofs.YtompmkcpicfdfaaDoor
