/- Small lemmas that many texts use. -/
import Derived.Test.YtompmkcpicfdfaaDoorBytes
import Derived.Test.YtompmkcpicfdfaaDoorRows
import Derived.Lib.Builder
import Derived.Lib.SlBuf
import Derived.Deep.AppendLies
import Derived.Deep.DrawnRows
namespace Go.Proofs.YtompmkcpicfdfaaDoor
open Go.RowKit
set_option linter.unusedVariables false
theorem u8_all {p : UInt8 → Bool} (h : (List.range 256).all (fun n => p (UInt8.ofNat n)) = true) (c : UInt8) : p c = true := by
  have := List.all_eq_true.1 h c.toNat (List.mem_range.2 c.toNat_lt)
  simpa using this
theorem idx_at (t : ByteArray) (k : Nat) (h : k < t.size) (c : UInt8) (hc : t.data.toList.getD k 0 = c) (W : World) : (Instr.index 9 (.string t) (.int .i64 k)).run Tryd.prog W = .ok (.int .u8 c.toNat) W := by
  rw [str_getD t k h] at hc
  subst hc
  simp [go_sem, Tryd.underlying9, h]
theorem u8_back (c : UInt8) : ((c.toNat : Int)).toNat.toUInt8 = c := by
  rw [Int.toNat_natCast]; exact UInt8.toNat_inj.1 (by simp)
/-- the byte at an index of whatever kind -/
theorem idx_k (k : IntKind) (t : ByteArray) (j : Nat) (h : j < t.size) (c : UInt8) (hc : t.data.toList.getD j 0 = c) (n : Int) (hn : n = j) (W : World) : (Instr.index 9 (.string t) (.int k n)).run Tryd.prog W = .ok (.int .u8 c.toNat) W := by
  rw [str_getD t j h] at hc
  subst hc hn
  simp [go_sem, Tryd.underlying9, h]
/-- 'string(b)' of a row that is known -/
theorem conv_row (src dst e : TypeId) (W : World) (b cap : Nat) (l : List UInt8) (hs : Tryd.prog.underlying src = some (.slice e)) (he : Tryd.prog.underlying e = some (.int .u8)) (hd : Tryd.prog.underlying dst = some .string)
    (hc : ∀ j, j < l.length → W.cell? ⟨b, j, none⟩ = some (.int .u8 (l.getD j 0).toNat)) : (convert src dst (.slice (some ⟨b, 0, none⟩) l.length cap)).run Tryd.prog W = .ok (.string ⟨l.toArray⟩) W :=
  run_convert_bytes_back W src dst e ⟨b, 0, none⟩ cap l hs he hd fun j hj => by
    rw [Addr.add_lit, Nat.zero_add, hc j hj]
    simp [List.getD_eq_getElem?_getD, hj]
theorem infoByte_ : (Tryd.prog.info? 5).map (fun i => (i.zero, i.size, i.bytes)) = some (some (.int .u8 0), 1, 1) := by kernel_rfl
theorem byteCells_snoc (l : List UInt8) (c : UInt8) : Lib.byteCells (l ++ [c]) = Lib.byteCells l ++ [.int .u8 c.toNat] := by simp [Lib.byteCells]
theorem strCells_bytes (s : ByteArray) : Lib.strCells s = Lib.byteCells s.data.toList := by simp [Lib.strCells, Lib.byteCells]
theorem slice_of_own {w : World} {B e n : Nat} {v : Value} {xs : List Value} (h : w.ownsRow B e 1 v n xs) : ∃ ao cap, v = .slice ao n cap := by
  rcases h.2 with ⟨hv, h0⟩ | ⟨g, cap, cur, hv, _⟩
  · exact ⟨none, 0, by rw [hv, h0]⟩
  · exact ⟨_, _, hv⟩
theorem ext_drop (t : ByteArray) (k : Nat) : (t.extract k t.size).data.toList = t.data.toList.drop k := by
  rw [str_extract, List.take_of_length_le (by rw [str_size]; exact Nat.le_refl _)]
theorem ext_size (t : ByteArray) (k : Nat) : (t.extract k t.size).size = t.size - k := by rw [ByteArray.size_extract]; omega
theorem u8_beq {c d : UInt8} (n : Int) (hn : n = d.toNat) : ((c.toNat : Int) == n) = (c == d) := by
  subst hn
  rw [Bool.eq_iff_iff]; simp [u8_int, ← UInt8.toNat_inj]
theorem emp_yes {t : ByteArray} (h : t.size = 0) : t.toList.isEmpty = true := by
  rw [Lib.toList_data, List.isEmpty_iff]; exact List.eq_nil_of_length_eq_zero (by rw [str_size]; exact h)
theorem same_eq (s : ByteArray) : (s.toList == s.toList) = true := by simp
theorem sb_of {t : ByteArray} {l : List UInt8} (h : t.data.toList = l) : t = ⟨⟨l⟩⟩ := str_inj h
theorem app_list (a b : ByteArray) : (a ++ b).data.toList = a.data.toList ++ b.data.toList := by rw [ByteArray.data_append, Array.toList_append]
theorem ss_get {ts : List ByteArray} {k : Nat} (h : k < ts.length) : (ts.map Value.string)[k]? = some (.string ts[k]) := by
  rw [List.getElem?_map, List.getElem?_eq_getElem h]; rfl
theorem bytes_app (a b : List UInt8) : Lib.byteCells (a ++ b) = Lib.byteCells a ++ Lib.byteCells b := by simp [Lib.byteCells]
theorem step_append_src {P : Program} {w : World} {ops : Array Oper} {o : Oper} {a : Act} {K : Act → World → Prop} {Q : Exit → Act → World → Prop} {E : Prop} (hgd : o.guard = none) (sv x : Operand) (t tx : TypeId)
    (ho : o.op = .call { callee := .builtin .append, args := #[sv, x], argTypes := #[t, tx] })
    (base : Nat) (e : TypeId) (i : TypeInfo) (z : Value) (size bytes : Nat) (ht : P.underlying t = some (.slice e)) (hi : P.info? e = some i) (hz : i.zero = some z)
    (hsize : i.size = size) (hby : i.bytes = bytes) (hzs : z.cells.size = size) (hsz : 0 < size)
    (v : Value) (n : Nat) (xs : List Value) (hs : a.eval sv = v) (hown : w.ownsRow base e size v n xs) (xv : Value) (hxv : a.eval x = xv) (m : Nat) (news : List Value) (hx : Src P size tx xv m news w)
    (h63 : n + m ≤ maxLen) (hbytes : (n + m) * bytes ≤ 140737488355328) (hbase : base ≤ w.heap.size)
    (h : ∀ v' w', w'.ownsRow base e size v' (n + m) (xs ++ news) → w.grownBy w' v.ownBlock → (v'.ownBlock = v.ownBlock ∨ v'.ownBlock = some w.heap.size) → (v' = .slice none 0 0 ↔ v = .slice none 0 0 ∧ m = 0) → K (a.put o.dst v') w') :
    if Region.wanted o (yielded ops a.tmps) = true then Oper.wp P o a w K Q else E := by
  have hw : Region.wanted o (yielded ops a.tmps) = true := by simp [Region.wanted, hgd]
  rw [if_pos hw]
  obtain ⟨v', w', hr, h1, h2, h3, h4⟩ := run_append_own_src (P := P) base t tx o.type e i z size bytes ht hi hz hsize hby hzs hsz v n xs hown xv m news hx h63 hbytes hbase
  unfold Oper.wp execOp
  simp only [ho, resolve, invoke, builtin, Sem.run_bind, Sem.run_pure, Result.andThen_ok, List.map_toArray, List.map_cons, List.map_nil, hs, hxv, hr]
  exact h v' w' h1 h2 h3 h4
theorem step_append_one {P : Program} {w : World} {ops : Array Oper} {o : Oper} {a : Act} {K : Act → World → Prop} {Q : Exit → Act → World → Prop} {E : Prop} (hgd : o.guard = none) (sv x : Operand) (t : TypeId)
    (ho : o.op = .call { callee := .builtin .append, args := #[sv, x], argTypes := #[t, t] })
    (base : Nat) (e : TypeId) (i : TypeInfo) (z : Value) (bytes : Nat) (ht : P.underlying t = some (.slice e)) (hi : P.info? e = some i) (hz : i.zero = some z)
    (hsize : i.size = 1) (hby : i.bytes = bytes) (hzs : z.cells.size = 1)
    (v : Value) (n : Nat) (xs : List Value) (hs : a.eval sv = v) (hown : w.ownsRow base e 1 v n xs) (b : Nat) (hxv : a.eval x = .slice (some ⟨b, 0, none⟩) 1 1) (u : Value) (hc : w.cell? ⟨b, 0, none⟩ = some u) (h1 : u.oneCell' = true)
    (h63 : n + 1 ≤ maxLen) (hbytes : (n + 1) * bytes ≤ 140737488355328) (hbase : base ≤ w.heap.size)
    (h : ∀ v' w', w'.ownsRow base e 1 v' (n + 1) (xs ++ [u]) → w.grownBy w' v.ownBlock → K (a.put o.dst v') w') :
    if Region.wanted o (yielded ops a.tmps) = true then Oper.wp P o a w K Q else E :=
  step_append_src hgd sv x t t ho base e i z 1 bytes ht hi hz hsize hby hzs (by decide) v n xs hs hown _ hxv 1 [u]
    (Src.ofSlice _ ht ⟨b, 0, none⟩ 1 1 [u] rfl (fun j y hj => by
      match j, hj with
      | 0, hj => simp at hj; subst hj; simpa [Addr.add] using hc) (by simpa using h1)) h63 hbytes hbase (fun v' w' k1 k2 _ _ => h v' w' k1 k2)
theorem cell_new1 {w : World} {b : Nat} {u : Value} {e : TypeId} (h : b = w.heap.size) : (w.alloc (.cells #[u] e)).cell? ⟨b, 0, none⟩ = some u := by
  subst h
  rw [Lib.cell_of_heap (heap_alloc_new w _)]; rfl
theorem cell_drew1 {w : World} {a : Addr} {v : Value} (h : w.cell? a = some v) : w.drew.cell? a = some v := h
theorem bcells_bytes (s : ByteArray) : Go.byteCells s = Lib.byteCells s.data.toList := rfl
theorem own_apart {w : World} {base : Nat} {e : TypeId} {s n : Nat} {v : Value} {xs : List Value} (h : w.ownsRow base e s v n xs) : v.ownBlock ≠ some w.heap.size := by
  intro hv; have := h.lt _ hv; omega
theorem apart_next {v u v' : Value} {B : Nat} (h : v.ownBlock = none ∨ v.ownBlock ≠ u.ownBlock) (hb : ∀ b, v.ownBlock = some b → b < B) (h' : u.ownBlock = v'.ownBlock ∨ ∃ b, v'.ownBlock = some b ∧ B ≤ b) : v.ownBlock = none ∨ v.ownBlock ≠ v'.ownBlock := by
  rcases h with h | h
  · exact .inl h
  · rcases h' with h' | ⟨b, h1, h2⟩
    · exact .inr (by rw [← h']; exact h)
    · right
      rw [h1]
      intro h3
      have := hb b h3
      omega
theorem keep_new {w w' : World} {row : Option Nat} (hg : w.grownBy w' row) (b : Nat) (u : Value) (hc : w.cell? ⟨b, 0, none⟩ = some u) (hne : some b ≠ row) : w'.cell? ⟨b, 0, none⟩ = some u :=
  (hg.cell_far ⟨b, 0, none⟩ (World.block_lt_of_cell? w _ hc) hne).trans hc
theorem own_lt' {w : World} {base : Nat} {e : TypeId} {s n : Nat} {v : Value} {xs : List Value} (h : w.ownsRow base e s v n xs) : ∀ b, v.ownBlock = some b → b < w.heap.size := fun b hb => (h.lt b hb).2
theorem apart_grow {w : World} {u v v' : Value} {base : Nat} {e : TypeId} {s n : Nat} {xs : List Value} (hu : w.ownsRow base e s u n xs) (h : u.ownBlock = none ∨ u.ownBlock ≠ v.ownBlock) (h' : v'.ownBlock = v.ownBlock ∨ v'.ownBlock = some w.heap.size) : u.ownBlock = none ∨ u.ownBlock ≠ v'.ownBlock :=
  apart_next h (own_lt' hu) (h'.elim (fun h => .inl h.symm) fun h => .inr ⟨_, h, Nat.le_refl _⟩)
theorem step_append_one2 {P : Program} {w : World} {ops : Array Oper} {o : Oper} {a : Act} {K : Act → World → Prop} {Q : Exit → Act → World → Prop} {E : Prop} (hgd : o.guard = none) (sv x : Operand) (t : TypeId)
    (ho : o.op = .call { callee := .builtin .append, args := #[sv, x], argTypes := #[t, t] })
    (base : Nat) (e : TypeId) (i : TypeInfo) (z : Value) (bytes : Nat) (ht : P.underlying t = some (.slice e)) (hi : P.info? e = some i) (hz : i.zero = some z)
    (hsize : i.size = 1) (hby : i.bytes = bytes) (hzs : z.cells.size = 1)
    (v : Value) (n : Nat) (xs : List Value) (hs : a.eval sv = v) (hown : w.ownsRow base e 1 v n xs) (b : Nat) (hxv : a.eval x = .slice (some ⟨b, 0, none⟩) 1 1) (u : Value) (hc : w.cell? ⟨b, 0, none⟩ = some u) (h1 : u.oneCell' = true)
    (h63 : n + 1 ≤ maxLen) (hbytes : (n + 1) * bytes ≤ 140737488355328) (hbase : base ≤ w.heap.size)
    (h : ∀ v' w', w'.ownsRow base e 1 v' (n + 1) (xs ++ [u]) → w.grownBy w' v.ownBlock → (v'.ownBlock = v.ownBlock ∨ v'.ownBlock = some w.heap.size) → K (a.put o.dst v') w') :
    if Region.wanted o (yielded ops a.tmps) = true then Oper.wp P o a w K Q else E :=
  step_append_src hgd sv x t t ho base e i z 1 bytes ht hi hz hsize hby hzs (by decide) v n xs hs hown _ hxv 1 [u]
    (Src.ofSlice _ ht ⟨b, 0, none⟩ 1 1 [u] rfl (fun j y hj => by
      match j, hj with
      | 0, hj => simp at hj; subst hj; simpa [Addr.add] using hc) (by simpa using h1)) h63 hbytes hbase (fun v' w' k1 k2 k3 _ => h v' w' k1 k2 k3)
theorem sl_new1 (w : World) (c : UInt8) (e : TypeId) : Sl (w.alloc (.cells #[.int .u8 c.toNat] e)) 1 (.slice (some ⟨w.heap.size, 0, none⟩) 1 1) 1 (Lib.byteCells [c]) := by
  refine ⟨by simp [Lib.byteCells], _, 1, rfl, Nat.le_refl _, by unfold maxLen; decide, fun hh => (by cases hh), .inr ⟨w.heap.size, 0, rfl, by simp, fun j u hu => ?_⟩⟩
  match j, hu with
  | 0, hu =>
    have : u = .int .u8 c.toNat := by simpa [Lib.byteCells] using hu.symm
    rw [this, Nat.zero_add]
    exact cell_new1 rfl
theorem own_sym {w : World} {u v : Value} {base : Nat} {e : TypeId} {s n : Nat} {xs : List Value} (hv : w.ownsRow base e s v n xs) (h : u.ownBlock = none ∨ u.ownBlock ≠ v.ownBlock) : v.ownBlock = none ∨ v.ownBlock ≠ u.ownBlock := by
  rcases h with h | h
  · cases hq : v.ownBlock with
    | none => exact .inl rfl
    | some b => right; rw [h]; simp
  · exact .inr h.symm
theorem apart_sym2 {w : World} {u v u' : Value} {base : Nat} {e : TypeId} {s n : Nat} {xs : List Value} (hv : w.ownsRow base e s v n xs) (h : v.ownBlock = none ∨ v.ownBlock ≠ u.ownBlock) (h' : u'.ownBlock = u.ownBlock ∨ u'.ownBlock = some w.heap.size) : u'.ownBlock = none ∨ u'.ownBlock ≠ v.ownBlock := by
  rcases apart_grow hv h h' with h5 | h5
  · cases hq : u'.ownBlock with
    | none => exact .inl rfl
    | some b => right; rw [h5]; simp
  · exact .inr h5.symm
theorem own_types {w : World} {base base' e e' s s' n n' : Nat} {v v' : Value} {xs xs' : List Value} (h : w.ownsRow base e s v n xs) (h' : w.ownsRow base' e' s' v' n' xs') (hne : e ≠ e') : v.ownBlock = none ∨ v.ownBlock ≠ v'.ownBlock := by
  rcases h.2 with ⟨rfl, _⟩ | ⟨g, cap, cur, rfl, _, hgb, _⟩
  · exact .inl rfl
  · rcases h'.2 with ⟨rfl, _⟩ | ⟨g', cap', cur', rfl, _, hgb', _⟩
    · exact .inr (by simp [Value.ownBlock])
    · refine .inr fun e1 => ?_
      obtain rfl : g = g' := by simpa [Value.ownBlock] using e1
      rw [hgb] at hgb'
      simp at hgb'
      exact hne hgb'.2
theorem one_own {w : World} {base : Nat} {e : TypeId} {s n : Nat} {v : Value} {xs : List Value} (h : w.ownsRow base e s v n xs) : ∀ u ∈ [v], u.oneCell' = true := by
  intro u hu
  rw [List.mem_singleton.1 hu]
  rcases own_cases h with ⟨rfl, _⟩ | ⟨g, cap, rfl, _⟩ <;> rfl
theorem lt_alloc (w : World) (o : Obj) : w.heap.size < (w.alloc o).heap.size := by simp
theorem conv_one (c : UInt8) (n : Int) (hn : n = c.toNat) (W : World) (b : Nat) (h : W.cell? ⟨b, 0, none⟩ = some (.int .u8 n)) : (convert 24 9 (.slice (some ⟨b, 0, none⟩) 1 1)).run Tryd.prog W = .ok (.string ⟨#[c]⟩) W := by
  subst hn
  exact conv_row _ _ 5 W b 1 [c] Tryd.underlying24 Tryd.underlying5 Tryd.underlying9 fun j hj => by
    match j, hj with
    | 0, _ => exact h
theorem digit_nat {d : Nat} (h : d < 10) : (48 : Int) + (d : Int) = ((UInt8.ofNat (48 + d)).toNat : Int) := by
  have : (UInt8.ofNat (48 + d)).toNat = 48 + d := by simp; omega
  omega
theorem ba_of (l : List UInt8) : ∃ d : ByteArray, d.data.toList = l := ⟨⟨l.toArray⟩, by simp⟩
end Go.Proofs.YtompmkcpicfdfaaDoor
