/- Slices told as lists of cells (no program in sight): reading, reslicing, and append from whatever source. -/
import Derived.Test.YtompmkcpicfdfaaDoorKit
import Derived.Deep.AppendSrc
import Derived.OwnWalk
namespace Go.Proofs.YtompmkcpicfdfaaDoor
open Go.RowKit
set_option linter.unusedVariables false
/-- The slice value v has n elements of s cells each, and xs are these cells. -/
def Sl (w : World) (s : Nat) (v : Value) (n : Nat) (xs : List Value) : Prop :=
  xs.length = n * s ∧ ∃ a cap, v = .slice a n cap ∧ n ≤ cap ∧ cap ≤ maxLen ∧ (a = none → cap = 0) ∧
    (n = 0 ∨ ∃ b off, a = some ⟨b, off, none⟩ ∧ b < w.heap.size ∧ ∀ j u, xs[j]? = some u → w.cell? ⟨b, off + j, none⟩ = some u)
section
variable {P : Program} {w w' : World} {s n : Nat} {v : Value} {xs : List Value}
theorem Sl.below (h : Sl w s v n xs) (hb : Below w.heap.size w w') : Sl w' s v n xs := by
  obtain ⟨h0, a, cap, h1, h2, h3, h4, h5⟩ := h
  refine ⟨h0, a, cap, h1, h2, h3, h4, ?_⟩
  rcases h5 with h5 | ⟨b, off, h5, h6, h7⟩
  · exact .inl h5
  · exact .inr ⟨b, off, h5, Nat.lt_of_lt_of_le h6 hb.size, fun j u hu => bget hb h6 (h7 j u hu)⟩
theorem Sl.alloc (h : Sl w s v n xs) (o : Obj) : Sl (w.alloc o) s v n xs := h.below ((Below.refl _ _).alloc (Nat.le_refl _) _)
theorem Sl.drew (h : Sl w s v n xs) : Sl w.drew s v n xs := h.below (Below.refl _ _).drew
theorem Sl.nil (w : World) (s : Nat) : Sl w s (.slice none 0 0) 0 [] := ⟨by simp, none, 0, rfl, Nat.le_refl _, Nat.zero_le _, fun _ => rfl, .inl rfl⟩
theorem Sl.length (h : Sl w s v n xs) : xs.length = n * s := h.1
theorem Sl.le_max (h : Sl w s v n xs) : n ≤ maxLen := by
  obtain ⟨h0, a, cap, h1, h2, h3, h4, h5⟩ := h
  omega
/-- The value written out. -/
theorem Sl.val (h : Sl w s v n xs) : ∃ a cap, v = .slice a n cap ∧ n ≤ cap ∧ cap ≤ maxLen := by
  obtain ⟨h0, a, cap, h1, h2, h3, h4, h5⟩ := h
  exact ⟨a, cap, h1, h2, h3⟩
/-- An element's cells, of a slice that has one. -/
theorem Sl.at (h : Sl w s v n xs) (hn : 0 < n) : ∃ b off cap, v = .slice (some ⟨b, off, none⟩) n cap ∧ n ≤ cap ∧ cap ≤ maxLen ∧ b < w.heap.size ∧ ∀ j u, xs[j]? = some u → w.cell? ⟨b, off + j, none⟩ = some u := by
  obtain ⟨h0, a, cap, h1, h2, h3, h4, h5⟩ := h
  rcases h5 with h5 | ⟨b, off, rfl, h6, h7⟩
  · omega
  · exact ⟨b, off, cap, h1, h2, h3, h6, h7⟩
theorem Sl.of_own {base : Nat} {e : TypeId} (h : w.ownsRow base e s v n xs) : Sl w s v n xs := by
  rcases h.2 with ⟨rfl, rfl⟩ | ⟨g, cap, cur, rfl, hb, hg, hn, hm, hs, ht⟩
  · exact ⟨h.1, none, 0, rfl, Nat.le_refl _, Nat.zero_le _, fun _ => rfl, .inl rfl⟩
  · refine ⟨h.1, _, cap, rfl, hn, hm, fun hh => (by cases hh), .inr ⟨g, 0, rfl, (Array.getElem?_eq_some_iff.1 hg).1, fun j u hu => ?_⟩⟩
    have := h.cells (g := g) rfl j u hu
    rw [Addr.add_lit] at this
    simpa using this
theorem Sl.frozen_own {base : Nat} {e : TypeId} {g o cap : Nat} (h : w.ownsRow base e s (.slice (some ⟨g, 0, none⟩) n cap) n xs) : w.frozen? ⟨g, o, none⟩ = false := by
  rcases h.2 with ⟨hh, _⟩ | ⟨g', cap', cur, hh, hb, hg, _⟩
  · cases hh
  · obtain ⟨hh1, _, _⟩ := Value.slice.inj hh
    have : g = g' := by injection hh1 with hh1; injection hh1
    subst this
    simp [World.frozen?, hg]
/-! ### reslicing -/
theorem mul_cap {a s m : Nat} (h : a ≤ m) : a * s ≤ m * s := Nat.mul_le_mul_right _ h
theorem Sl.cut (h : Sl w s v n xs) {l u : Nat} (hlu : l ≤ u) (hun : u ≤ n) :
    ∃ a cap, v = .slice a n cap ∧ n ≤ cap ∧ Sl w s (sliced a l u cap s) (u - l) ((xs.take (u * s)).drop (l * s)) := by
  obtain ⟨h0, a, cap, h1, h2, h3, h4, h5⟩ := h
  refine ⟨a, cap, h1, h2, ?_⟩
  have hus : u * s ≤ n * s := mul_cap hun
  have hls : l * s ≤ u * s := mul_cap hlu
  refine ⟨?_, (if cap = l then a else a.map (·.add (l * s))), cap - l, rfl, by omega, by omega, ?_, ?_⟩
  · rw [List.length_drop, List.length_take, Nat.min_eq_left (by rw [h0]; exact hus), Nat.sub_mul]
  · intro hh
    split at hh
    · omega
    · simp at hh; have := h4 hh; omega
  · by_cases hz : u - l = 0
    · exact .inl hz
    · right
      rcases h5 with h5 | ⟨b, off, rfl, h6, h7⟩
      · omega
      · refine ⟨b, off + l * s, ?_, h6, fun j x hx => ?_⟩
        · rw [if_neg (by omega)]; simp [Addr.add_lit]
        · rw [List.getElem?_drop, List.getElem?_take] at hx
          split at hx
          · have := h7 _ _ hx; rwa [← Nat.add_assoc] at this
          · cases hx
theorem elem_of {t e : TypeId} (ht : P.underlying t = some (.slice e)) : P.elem t = e := by simp [Program.elem, ht]
theorem run_sizeOf_e {e : TypeId} (hs : (P.info? e).map (·.size) = some s) : ((sizeOf e).run P w) = .ok s w := by
  cases hi : P.info? e with
  | none => rw [hi] at hs; cases hs
  | some i => rw [hi] at hs; simp at hs; subst hs; simp [sizeOf, typeInfo, hi]
section
variable {t e : TypeId} (ht : P.underlying t = some (.slice e)) (hs : (P.info? e).map (·.size) = some s)
include ht hs
theorem run_cut_l (h : Sl w s v n xs) {k : IntKind} {l : Nat} (hl : l ≤ n) :
    ∃ v', (Instr.sliceAt t v (some (.int k l)) none none).run P w = .ok v' w ∧ Sl w s v' (n - l) (xs.drop (l * s)) := by
  have h0 := h.1
  obtain ⟨a, cap, rfl, h2, h3⟩ := h.cut (l := l) (u := n) hl (Nat.le_refl _)
  have he := elem_of ht
  have ht' : P.underlying t = some (.slice (P.elem t)) := by rw [he]; exact ht
  refine ⟨sliced a l n cap s, ?_, ?_⟩
  · rw [run_sliceAt_slice _ _ _ _ _ _ ht', run_slice_l _ _ _ _ _ ht' k l (by omega) (by omega), he, run_sizeOf_e hs]
    rfl
  · rw [← h0, List.take_length] at h3
    simpa using h3
theorem run_cut_h (h : Sl w s v n xs) {k : IntKind} {u : Nat} (hu : u ≤ n) :
    ∃ v', (Instr.sliceAt t v none (some (.int k u)) none).run P w = .ok v' w ∧ Sl w s v' u (xs.take (u * s)) := by
  obtain ⟨a, cap, rfl, h2, h3⟩ := h.cut (l := 0) (u := u) (Nat.zero_le _) hu
  have he := elem_of ht
  have ht' : P.underlying t = some (.slice (P.elem t)) := by rw [he]; exact ht
  refine ⟨sliced a 0 u cap s, ?_, ?_⟩
  · rw [run_sliceAt_slice _ _ _ _ _ _ ht', run_slice_h _ _ _ _ _ ht' k u (by omega) (by omega), he, run_sizeOf_e hs]
    rfl
  · simpa using h3
theorem run_cut_lh (h : Sl w s v n xs) {k k' : IntKind} {l u : Nat} (hl : l ≤ u) (hu : u ≤ n) :
    ∃ v', (Instr.sliceAt t v (some (.int k l)) (some (.int k' u)) none).run P w = .ok v' w ∧ Sl w s v' (u - l) ((xs.take (u * s)).drop (l * s)) := by
  obtain ⟨a, cap, rfl, h2, h3⟩ := h.cut (l := l) (u := u) hl hu
  have he := elem_of ht
  have ht' : P.underlying t = some (.slice (P.elem t)) := by rw [he]; exact ht
  refine ⟨sliced a l u cap s, ?_, ?_⟩
  · rw [run_sliceAt_slice _ _ _ _ _ _ ht', run_slice_lh _ _ _ _ _ ht' k k' l u (by omega) (by omega) (by omega), he, run_sizeOf_e hs]
    rfl
  · simpa using h3
end
/-- At the operation 'v[l:]'. -/
theorem wpList_cut_l {ops : Array Oper} {rest : List Oper} {o : Oper} {a : Act} {Q : Exit → Act → World → Prop} (hgd : o.guard = none) (t : TypeId) (x lo : Operand)
    (ho : o.op = .slice t x (some lo) none none) {e : TypeId} (ht : P.underlying t = some (.slice e)) (hs : (P.info? e).map (·.size) = some s) (hx : a.eval x = v) (h : Sl w s v n xs)
    {k : IntKind} {l : Nat} (hlo : a.eval lo = .int k l) (hl : l ≤ n) (H : ∀ v', Sl w s v' (n - l) (xs.drop (l * s)) → wpList P ops Q rest (a.put o.dst v') w) : wpList P ops Q (o :: rest) a w := by
  refine wpList_plain hgd fun K hK => ?_
  obtain ⟨v', hr, h'⟩ := run_cut_l ht hs h (k := k) hl
  unfold Oper.wp
  simp [execOp, ho, hx, hlo, hr, Result.andThen]
  exact hK _ _ (H v' h')
theorem wpList_cut_h {ops : Array Oper} {rest : List Oper} {o : Oper} {a : Act} {Q : Exit → Act → World → Prop} (hgd : o.guard = none) (t : TypeId) (x hi : Operand)
    (ho : o.op = .slice t x none (some hi) none) {e : TypeId} (ht : P.underlying t = some (.slice e)) (hs : (P.info? e).map (·.size) = some s) (hx : a.eval x = v) (h : Sl w s v n xs)
    {k : IntKind} {u : Nat} (hhi : a.eval hi = .int k u) (hu : u ≤ n) (H : ∀ v', Sl w s v' u (xs.take (u * s)) → wpList P ops Q rest (a.put o.dst v') w) : wpList P ops Q (o :: rest) a w := by
  refine wpList_plain hgd fun K hK => ?_
  obtain ⟨v', hr, h'⟩ := run_cut_h ht hs h (k := k) hu
  unfold Oper.wp
  simp [execOp, ho, hx, hhi, hr, Result.andThen]
  exact hK _ _ (H v' h')
theorem wpList_cut_lh {ops : Array Oper} {rest : List Oper} {o : Oper} {a : Act} {Q : Exit → Act → World → Prop} (hgd : o.guard = none) (t : TypeId) (x lo hi : Operand)
    (ho : o.op = .slice t x (some lo) (some hi) none) {e : TypeId} (ht : P.underlying t = some (.slice e)) (hs : (P.info? e).map (·.size) = some s) (hx : a.eval x = v) (h : Sl w s v n xs)
    {k k' : IntKind} {l u : Nat} (hlo : a.eval lo = .int k l) (hhi : a.eval hi = .int k' u) (hl : l ≤ u) (hu : u ≤ n) (H : ∀ v', Sl w s v' (u - l) ((xs.take (u * s)).drop (l * s)) → wpList P ops Q rest (a.put o.dst v') w) : wpList P ops Q (o :: rest) a w := by
  refine wpList_plain hgd fun K hK => ?_
  obtain ⟨v', hr, h'⟩ := run_cut_lh ht hs h (k := k) (k' := k') hl hu
  unfold Oper.wp
  simp [execOp, ho, hx, hlo, hhi, hr, Result.andThen]
  exact hK _ _ (H v' h')
/-! ### append -/
theorem run_loadCells_zero (a : Addr) (w : World) : (loadCells a 0).run P w = .ok #[] w := by
  simp [loadCells, loadCellsFrom]
/-- What is appended, told by 'Sl'. -/
theorem Src.ofSl {e' tx : TypeId} (hk : P.underlying tx = some (.slice e')) (h : Sl w s v n xs) (h1 : ∀ u ∈ xs, u.oneCell' = true) : Src P s tx v n xs w := by
  obtain ⟨h0, a, cap, rfl, h2, h3, h4, h5⟩ := h
  rcases h5 with h5 | ⟨b, off, rfl, h6, h7⟩
  · subst h5
    have hx : xs = [] := List.eq_nil_of_length_eq_zero (by simpa using h0)
    subst hx
    refine ⟨.inl ⟨e', hk⟩, fun _ => rfl, ?_, ?_, by simp, h1⟩ <;> cases a <;> simp [Builtin.firstCells, run_loadCells_zero]
  · exact Src.ofSlice w hk ⟨b, off, none⟩ n cap xs h0 (fun j u hu => by rw [Addr.add_lit]; exact h7 j u hu) h1
/-- append onto a row of the call's own, from whatever source. -/
theorem run_append_own_src (base : Nat) (t tx ty e : TypeId) (i : TypeInfo) (z : Value) (size bytes : Nat) (ht : P.underlying t = some (.slice e)) (hi : P.info? e = some i) (hz : i.zero = some z)
    (hsize : i.size = size) (hby : i.bytes = bytes) (hzs : z.cells.size = size) (hsz : 0 < size)
    (v : Value) (n : Nat) (xs : List Value) (hown : w.ownsRow base e size v n xs) (x : Value) (m : Nat) (news : List Value) (hx : Src P size tx x m news w)
    (h63 : n + m ≤ maxLen) (hbytes : (n + m) * bytes ≤ 140737488355328) (hbase : base ≤ w.heap.size) :
    ∃ v' w', (Builtin.append_ #[t, tx] ty #[v, x]).run P w = .ok v' w' ∧ w'.ownsRow base e size v' (n + m) (xs ++ news) ∧ w.grownBy w' v.ownBlock ∧
      (v'.ownBlock = v.ownBlock ∨ v'.ownBlock = some w.heap.size) ∧ (v' = .slice none 0 0 ↔ v = .slice none 0 0 ∧ m = 0) := by
  subst hsize
  subst hby
  have hl := hx.newsLen
  have hsmall : n + m ≤ 9223372036854775807 := by simp only [maxLen] at h63; omega
  have hlen : (xs ++ news).length = (n + m) * i.size := by rw [List.length_append, hown.1, hl, Nat.add_mul]
  have grown : ∀ (old : Nat), old < n + m → ∀ (row : Option Nat),
      (w.drew.alloc (.cells ((xs ++ news).toArray ++ Builtin.zeroCells z.cells (grownCap w (n + m) old e - (n + m))) e)).ownsRow base e i.size
        (.slice (some ⟨w.heap.size, 0, none⟩) (n + m) (grownCap w (n + m) old e)) (n + m) (xs ++ news) ∧
      w.grownBy (w.drew.alloc (.cells ((xs ++ news).toArray ++ Builtin.zeroCells z.cells (grownCap w (n + m) old e - (n + m))) e)) row := by
    intro old ho row
    have hge := grownCap_ge w (n + m) old e
    have hcm : grownCap w (n + m) old e ≤ maxLen := grownCap_le_maxLen w (n + m) old e h63
    refine ⟨⟨hlen, .inr ⟨w.heap.size, _, _, rfl, hbase, heap_alloc_new w.drew _, hge, hcm, ?_, ?_⟩⟩, ⟨rfl, rfl, rfl, by simp, fun k hk _ => Below.heap_alloc w.drew _ k hk⟩⟩
    · rw [Array.size_append, List.size_toArray, size_zeroCells, hzs, hlen, ← Nat.add_mul]
      congr 1
      omega
    · simp only [Array.toList_append]
      rw [← hlen]
      exact List.take_left
  rcases hown.2 with ⟨rfl, rfl⟩ | ⟨g, cap, cur, rfl, hbg, hg, hnc, hcm, hcs, htake⟩
  · have hx0 : xs = [] := List.eq_nil_of_length_eq_zero (by simpa using hown.1)
    subst hx0
    by_cases hm : m = 0
    · subst hm
      have hn : news = [] := List.eq_nil_of_length_eq_zero (by simpa using hl)
      subst hn
      refine ⟨.slice none 0 0, w, ?_, World.ownsRow_nil w base e i.size, ⟨rfl, rfl, rfl, Nat.le_refl _, fun _ _ _ => rfl⟩, .inl rfl, by simp⟩
      have h1 := hx.len w
      have h2 := hx.cells
      rcases hx.kind with ⟨e', hk⟩ | hk <;> simp [Builtin.append_, run_underlying ht, run_underlying hk, sizeOf, typeInfo, hi, h1, h2, run_firstCells_none]
    · have hr := run_append_grow_src (P := P) w t tx ty e i z ht hi hz none 0 0 [] (run_firstCells_none w.drew i.size 0 0 0) x m news hx (by omega) (by omega) (growslice_fits (by omega) hbytes)
      have hgr := grown 0 (by omega) (Value.ownBlock (.slice none 0 0))
      exact ⟨_, _, hr, hgr.1, hgr.2, .inr rfl, by simp [hm]⟩
  · by_cases hroom : n + m ≤ cap
    · have hfit : n * i.size + news.length ≤ cur.size := by rw [hl, hcs, ← Nat.add_mul]; exact Nat.mul_le_mul_right _ hroom
      have hr : (Builtin.append_ #[t, tx] ty #[.slice (some ⟨g, 0, none⟩) n cap, x]).run P w = .ok (.slice (some ⟨g, 0, none⟩) (n + m) cap) (w.setRow g (cur.toList.take (n * i.size) ++ news ++ cur.toList.drop (n * i.size + news.length)).toArray) := by
        have hst := run_storeCells_at P g (n * i.size) e news 0 cur w hg (by simpa using hfit) hx.one
        simp only [Nat.add_zero] at hst
        have h1 := hx.len w
        have h2 := hx.cells
        rcases hx.kind with ⟨e', hk⟩ | hk <;> simp [Builtin.append_, run_underlying ht, run_underlying hk, sizeOf, typeInfo, hi, h1, hroom, h2, Addr.add_lit, hst]
      refine ⟨_, _, hr, ⟨hlen, .inr ⟨g, cap, _, rfl, hbg, setRow_heap w g cur _ e _ hg, hroom, hcm, ?_, ?_⟩⟩, ⟨rfl, rfl, rfl, by simp, fun k _ hk => setRow_other w g k _ (fun e => hk (by simp [Value.ownBlock, e]))⟩, .inl rfl, by simp⟩
      · simp only [List.size_toArray, List.length_append, List.length_take, List.length_drop, Array.length_toList]
        omega
      · rw [htake, ← hlen]
        exact List.take_left
    · have holds : (Builtin.firstCells i.size n (.slice (some ⟨g, 0, none⟩) n cap)).run P w.drew = .ok xs.toArray w.drew :=
        run_firstCells_some w.drew i.size n ⟨g, 0, none⟩ n cap xs hown.1 (by simpa using hown.cells (g := g) rfl)
      have hr := run_append_grow_src (P := P) w t tx ty e i z ht hi hz (some ⟨g, 0, none⟩) n cap xs holds x m news hx (by omega) (by omega) (growslice_fits (by omega) hbytes)
      have hgr := grown cap (by omega) (Value.ownBlock (.slice (some ⟨g, 0, none⟩) n cap))
      exact ⟨_, _, hr, hgr.1, hgr.2, .inr rfl, by simp⟩
/-- At the operation 'append(v, x...)'. -/
theorem wpList_append_src {ops : Array Oper} {rest : List Oper} {o : Oper} {a : Act} {Q : Exit → Act → World → Prop} (hgd : o.guard = none) (sv x : Operand) (t tx : TypeId)
    (ho : o.op = .call { callee := .builtin .append, args := #[sv, x], argTypes := #[t, tx] })
    (base : Nat) (e : TypeId) (i : TypeInfo) (z : Value) (size bytes : Nat) (ht : P.underlying t = some (.slice e)) (hi : P.info? e = some i) (hz : i.zero = some z)
    (hsize : i.size = size) (hby : i.bytes = bytes) (hzs : z.cells.size = size) (hsz : 0 < size)
    (v : Value) (n : Nat) (xs : List Value) (hs : a.eval sv = v) (hown : w.ownsRow base e size v n xs) (xv : Value) (hxv : a.eval x = xv) (m : Nat) (news : List Value) (hx : Src P size tx xv m news w)
    (h63 : n + m ≤ maxLen) (hbytes : (n + m) * bytes ≤ 140737488355328) (hbase : base ≤ w.heap.size)
    (h : ∀ v' w', w'.ownsRow base e size v' (n + m) (xs ++ news) → w.grownBy w' v.ownBlock → (v'.ownBlock = v.ownBlock ∨ v'.ownBlock = some w.heap.size) → (v' = .slice none 0 0 ↔ v = .slice none 0 0 ∧ m = 0) → wpList P ops Q rest (a.put o.dst v') w') : wpList P ops Q (o :: rest) a w := by
  refine wpList_plain hgd fun K hK => ?_
  obtain ⟨v', w', hr, h1, h2, h3, h4⟩ := run_append_own_src (P := P) base t tx o.type e i z size bytes ht hi hz hsize hby hzs hsz v n xs hown xv m news hx h63 hbytes hbase
  unfold Oper.wp execOp
  simp only [ho, resolve, invoke, builtin, Sem.run_bind, Sem.run_pure, Result.andThen_ok, List.map_toArray, List.map_cons, List.map_nil, hs, hxv, hr]
  exact hK _ _ (h v' w' h1 h2 h3 h4)
end
theorem own_mono {w : World} {base base' : Nat} {e : TypeId} {s n : Nat} {v : Value} {xs : List Value} (h : w.ownsRow base e s v n xs) (hb : base' ≤ base) : w.ownsRow base' e s v n xs := by
  refine ⟨h.1, ?_⟩
  rcases h.2 with hn | ⟨g, cap, cur, h1, h2, h3⟩
  · exact .inl hn
  · exact .inr ⟨g, cap, cur, h1, by omega, h3⟩
/-- A row of the call's own, written out: nil, or at the head of a block. -/
theorem own_cases {w : World} {base : Nat} {e : TypeId} {s n : Nat} {v : Value} {xs : List Value} (h : w.ownsRow base e s v n xs) : (v = .slice none 0 0 ∧ n = 0) ∨ ∃ g cap, v = .slice (some ⟨g, 0, none⟩) n cap ∧ n ≤ cap ∧ cap ≤ maxLen ∧ base ≤ g ∧ g < w.heap.size := by
  rcases h.2 with hn | ⟨g, cap, cur, h1, h2, h3, h4, h5, _⟩
  · exact .inl hn
  · exact .inr ⟨g, cap, h1, h4, h5, h2, (Array.getElem?_eq_some_iff.1 h3).1⟩
theorem own_bel {w w' : World} {base : Nat} {e : TypeId} {s n : Nat} {v : Value} {xs : List Value} (h : w.ownsRow base e s v n xs) (hb : Below w.heap.size w w') : w'.ownsRow base e s v n xs := by
  refine ⟨h.1, ?_⟩
  rcases h.2 with hn | ⟨g, cap, cur, h1, h2, h3, h4⟩
  · exact .inl hn
  · exact .inr ⟨g, cap, cur, h1, h2, by rw [hb.block g (Array.getElem?_eq_some_iff.1 h3).1]; exact h3, h4⟩
theorem own_set {w : World} {base : Nat} {e : TypeId} {s n : Nat} {v : Value} {xs : List Value} (h : w.ownsRow base e s v n xs) {a : Addr} (u : Value) (ha : v.ownBlock ≠ some a.block) : (w.setCell a u).ownsRow base e s v n xs := by
  refine ⟨h.1, ?_⟩
  rcases h.2 with hn | ⟨g, cap, cur, h1, h2, h3, h4⟩
  · exact .inl hn
  · refine .inr ⟨g, cap, cur, h1, h2, ?_, h4⟩
    rw [Below.heap_setCell _ _ _ _ (fun e => ha (by rw [h1]; simp [Value.ownBlock, e]))]
    exact h3
theorem own_ne {w : World} {base : Nat} {e : TypeId} {s n : Nat} {v : Value} {xs : List Value} (h : w.ownsRow base e s v n xs) {b : Nat} (hb : b < base ∨ w.heap.size ≤ b) : v.ownBlock ≠ some b := by
  intro hv; have := h.lt b hv; omega
/-- Behind append's law: another row of the call's own is as it was. -/
theorem own_other {w w' : World} {base : Nat} {e : TypeId} {s n : Nat} {v : Value} {xs : List Value} (h : w.ownsRow base e s v n xs) {v2 : Value} (hg : w.grownBy w' v2.ownBlock) (hne : v.ownBlock = none ∨ v.ownBlock ≠ v2.ownBlock) : w'.ownsRow base e s v n xs := h.kept hg hne
/-- Behind append's law: Below, of a base under the row. -/
theorem below_row {w0 w w' : World} {B base : Nat} {e : TypeId} {s n : Nat} {v : Value} {xs : List Value} (h0 : Below B w0 w) (h : w.ownsRow base e s v n xs) (hB : B ≤ base) (hB2 : B ≤ w.heap.size) (hg : w.grownBy w' v.ownBlock) : Below B w0 w' :=
  h0.grown hg hB2 fun k hk => Nat.le_trans hB (h.lt k hk).1
/-- Behind append's law: what lay below the row's base is as it was. -/
theorem below_grown {w w' : World} {base : Nat} {e : TypeId} {s n : Nat} {v : Value} {xs : List Value} (h : w.ownsRow base e s v n xs) (hb : base ≤ w.heap.size) (hg : w.grownBy w' v.ownBlock) : Below base w w' :=
  (Below.refl base w).grown hg hb fun k hk => (h.lt k hk).1
/-- A slice of integers that came in: nil; or a row of 'cap' cells that hold the numbers zs. -/
def IsRow (k : IntKind) (w : World) (a : Option Addr) (len cap : Nat) (zs : List Int) : Prop :=
  (a = none ∧ len = 0 ∧ cap = 0 ∧ zs = []) ∨
  ∃ x, a = some x ∧ len ≤ cap ∧ cap ≤ maxLen ∧ zs.length = cap ∧ (∀ i, i < zs.length → w.cell? (x.add i) = some (.int k (zs.getD i 0))) ∧ ∀ n ∈ zs, (Lit.int k n).wf = true
/-- numbers as cells -/
def cells64 (l : List Int) : List Value := l.map (.int .i64)
theorem cells64_length (l : List Int) : (cells64 l).length = l.length := by simp [cells64]
theorem cells64_get (l : List Int) (j : Nat) (h : j < l.length) : (cells64 l)[j]? = some (.int .i64 (l.getD j 0)) := by
  simp [cells64, List.getElem?_map, List.getElem?_eq_getElem h, List.getD_eq_getElem?_getD]
theorem cells64_one (l : List Int) : ∀ u ∈ cells64 l, u.oneCell' = true := by
  intro u hu; obtain ⟨x, _, rfl⟩ := List.mem_map.1 hu; rfl
theorem cells64_drop (l : List Int) (j : Nat) : (cells64 l).drop (j * 1) = cells64 (l.drop j) := by simp [cells64, List.map_drop]
theorem cells64_take (l : List Int) (j : Nat) : (cells64 l).take (j * 1) = cells64 (l.take j) := by simp [cells64, List.map_take]
theorem cells64_append (l r : List Int) : cells64 l ++ cells64 r = cells64 (l ++ r) := by simp [cells64]
theorem isRow_sl {w : World} {a : Option Addr} {len cap : Nat} {zs : List Int} (h : IsRow .i64 w a len cap zs) : Sl w 1 (.slice a len cap) len (cells64 (zs.take len)) := by
  rcases h with ⟨rfl, rfl, rfl, rfl⟩ | ⟨x, rfl, hl, hm, hz, hc, _⟩
  · exact Sl.nil w 1
  · refine ⟨by simp [cells64]; omega, some x, cap, rfl, hl, hm, fun hh => (by cases hh), ?_⟩
    by_cases h0 : len = 0
    · exact .inl h0
    · right
      have h1 := hc 0 (by omega)
      obtain ⟨b, off, spot⟩ := x
      have hspot : spot = none := by simpa [Addr.add] using World.cell?_spot h1
      subst hspot
      refine ⟨b, off, rfl, World.block_lt_of_cell? w _ h1, fun j u hu => ?_⟩
      have hj : j < len := by
        have := (List.getElem?_eq_some_iff.1 hu).1
        simp [cells64] at this; omega
      have h2 := hc j (by omega)
      rw [Addr.add_lit] at h2
      rw [h2]
      simp [cells64, List.getElem?_map, hj] at hu
      obtain ⟨q, hq, rfl⟩ := hu
      simp [List.getD_eq_getElem?_getD, hq]
end Go.Proofs.YtompmkcpicfdfaaDoor
