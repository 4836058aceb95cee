/- pack.Pack: what it returns. -/
import Derived.Test.YtnbfmmnbjjeecabClip
import Derived.RangeFuncBox
import Derived.Maps.AppendAt
import Derived.Laws.OwnMore
namespace Go.Proofs.Ytnbfmmnbjjeecab
open Go.RowKit Go.Shelf
attribute [local go_sem] Oper.semAt_some
set_option linter.unusedVariables false
theorem wpListIn_make_full {F : Fence} {n : Nat} {P : Program} (w : World) {ops : Array Oper} {rest : List Oper} {o : Oper} {a : Act} {Q : Exit → Act → World → Prop}
    (hg : o.guard = none) (l c : Operand) (t : TypeId) (hop : o.op = Op.makeSlice t l c)
    (base : Nat) (e : TypeId) (i : TypeInfo) (z : Value) (size : Nat) (h1 : P.underlying t = some (.slice e)) (h2 : P.info? e = some i) (h3 : i.zero = some z) (h4 : i.size = size)
    (kl kc : IntKind) (C D : Int) (m : Nat) (hl : a.eval l = .int kl C) (hc : a.eval c = .int kc D) (hC : C = (m : Int)) (hD : D = (m : Int)) (b2 : i.bytes * m ≤ 281474976710656) (b3 : m ≤ maxLen) (b4 : base ≤ w.heap.size)
    (hK : ∀ w', w'.ownsRow base e size (.slice (some ⟨w.heap.size, 0, none⟩) m m) m (madeCells z.cells (m * size)).toList → w.grownBy w' none → wpListIn F n P ops Q rest (a.put o.dst (.slice (some ⟨w.heap.size, 0, none⟩) m m)) w') :
    wpListIn F n P ops Q (o :: rest) a w := by
  refine wpListIn_plain hg fun K hK' => ?_
  obtain ⟨w', hrun, r1, r2⟩ := run_make_full (P := P) w base t e i z size h1 h2 h3 h4 kl kc m b2 b3 b4
  subst hC
  subst hD
  unfold Oper.wpIn
  refine ⟨?_, ?_⟩
  · simp [Oper.about, hop]
  · rw [Oper.semAt_plain F _ _ (by rw [hop]; intro c hc'; cases hc')]
    simp [execOp, hop, hl, hc, hrun, Result.andThen]
    exact hK' _ _ (hK w' r1 r2)
/-- The indices of a group. -/
def rng (x : Nat × Nat) : List Int := (List.range (x.2 - x.1)).map fun j => ((x.1 + j : Nat) : Int)
/-- What the groups so far hold. -/
def RowsAt (n₁ : Nat) (W : World) {L : Nat} (pre : List (Gr L)) (vs : List Value) : Prop := ∀ (i : Nat) (x : Gr L), pre[i]? = some x → ∃ u, vs[i]? = some u ∧ W.ownsRow n₁ 3 1 u (x.1.2 - x.1.1) (cells64 (rng x.1))
def PackI (n₁ Bo : Nat) {L : Nat} (pre : List (Gr L)) (W : World) : Prop := ∃ v vs, Boxed W Bo 25 v ∧ W.ownsRow n₁ 22 1 v pre.length vs ∧ RowsAt n₁ W pre vs
theorem own_types {w : World} {base base' e e' s s' n n' : Nat} {v v' : Value} {xs xs' : List Value} (h : w.ownsRow base e s v n xs) (h' : w.ownsRow base' e' s' v' n' xs') (hne : e ≠ e') : v.ownBlock = none ∨ v.ownBlock ≠ v'.ownBlock := by
  rcases h.2 with ⟨rfl, _⟩ | ⟨g, cap, cur, rfl, _, hgb, _⟩
  · exact .inl rfl
  · rcases h'.2 with ⟨rfl, _⟩ | ⟨g', cap', cur', rfl, _, hgb', _⟩
    · exact .inr (by simp [Value.ownBlock])
    · refine .inr fun e1 => ?_
      obtain rfl : g = g' := by simpa [Value.ownBlock] using e1
      rw [hgb] at hgb'
      simp at hgb'
      exact hne hgb'.2
theorem own_notcells {w : World} {base e s n : Nat} {v : Value} {xs : List Value} (h : w.ownsRow base e s v n xs) {row : Option Nat} (hr : ∀ r, row = some r → ∃ o : Obj, w.heap[r]? = some o ∧ o.isCells = false) : v.ownBlock = none ∨ v.ownBlock ≠ row := by
  rcases h.2 with ⟨rfl, _⟩ | ⟨g, cap, cur, rfl, _, hgb, _⟩
  · exact .inl rfl
  · refine .inr fun e1 => ?_
    obtain ⟨o, ho, hc⟩ := hr g (by simpa [Value.ownBlock] using e1.symm)
    rw [hgb] at ho; cases ho; cases hc
theorem packI_own (n₁ Bo : Nat) {L : Nat} : Own (PackI n₁ Bo (L := L)) := by
  rintro pre X Y row ⟨v, vs, hv, hr, hR⟩ hg hrow
  refine ⟨v, vs, hv.kept hg (fun e' => ?_), hr.kept hg (own_notcells hr hrow), fun i x hx => ?_⟩
  · obtain ⟨o, ho, hc⟩ := hrow Bo e'.symm
    rw [show X.heap[Bo]? = _ from hv] at ho; cases ho; cases hc
  · obtain ⟨u, h1, h2⟩ := hR i x hx
    exact ⟨u, h1, h2.kept hg (own_notcells h2 hrow)⟩
theorem Sl.clip {w : World} {s n cap : Nat} {a : Option Addr} {xs : List Value} (h : Sl w s (.slice a n cap) n xs) : Sl w s (.slice a n n) n xs := by
  obtain ⟨h1, a', cap', hv, h2, h3, h4, h5⟩ := h
  injection hv with e1 e2 e3
  subst e1 e3
  exact ⟨h1, a, n, rfl, Nat.le_refl _, Nat.le_trans h2 h3, fun e => by have := h4 e; omega, h5⟩
theorem rng_length (x : Nat × Nat) : (rng x).length = x.2 - x.1 := by simp [rng]
theorem packI_div {n₁ g cp k L : Nat} {W : World} {vs : List Value} {ys : List (Gr L)} (hk : ys.length ≤ k) (h : W.ownsRow n₁ 22 1 (.slice (some ⟨g, 0, none⟩) ys.length cp) ys.length vs) (hl : True) (hR : RowsAt n₁ W ys vs) : IsDiv W (.slice (some ⟨g, 0, none⟩) ys.length ys.length) ((ys.map (·.1)).map rng) := by
  have hlen : ((ys.map (·.1)).map rng).length = ys.length := by simp
  refine ⟨vs, ?_, fun i gr hg => ?_⟩
  · rw [hlen]; exact (Sl.of_own h).clip
  · rw [List.getElem?_map, List.getElem?_map] at hg
    cases hx : ys[i]? with
    | none => rw [hx] at hg; simp at hg
    | some x =>
      rw [hx] at hg
      simp at hg
      obtain ⟨u, h1, h2⟩ := hR i x hx
      refine ⟨u, h1, ?_⟩
      have h3 := Sl.of_own h2
      rw [← hg, rng_length]
      exact h3
theorem info3' : (Try.prog.info? 3).map (fun i => (i.zero, i.size, i.bytes)) = some (some (.int .i64 0), 1, 8) := by kernel_rfl
theorem info22' : (Try.prog.info? 22).map (fun i => (i.zero, i.size, i.bytes)) = some (some (.slice none 0 0), 1, 24) := by kernel_rfl
theorem Clip_nil_in (F : Fence) (n : Nat) (h6 : F.fn 16) (hro : F.round = none) (w : World) : CallsIn F n Try.prog 16 #[.slice none 0 0] w fun e w' => e = .returned (.slice none 0 0) ∧ w' = w := by
  refine callsIn_of_wp Try.func16 rfl h6 ?_ hro
  simp only [Try.ntmps16, List.size_toArray, List.length_cons, List.length_nil, Nat.reduceAdd, Nat.reduceSub, Array.replicate_succ, Array.replicate_zero, List.push_toArray, List.append_toArray, List.nil_append, List.cons_append]
  gi_wp2
  go_ret
  exact ⟨rfl, rfl⟩
theorem Clip_some_in (F : Fence) (m : Nat) (h6 : F.fn 16) (hro : F.round = none) (n cap b off : Nat) (hn : n ≤ cap) (hc : cap ≤ maxLen) (w : World) : CallsIn F m Try.prog 16 #[.slice (some ⟨b, off, none⟩) n cap] w fun e w' => e = .returned (.slice (some ⟨b, off, none⟩) n n) ∧ w' = w := by
  unfold maxLen at hc
  refine callsIn_of_wp Try.func16 rfl h6 ?_ hro
  simp only [Try.ntmps16, List.size_toArray, List.length_cons, List.length_nil, Nat.reduceAdd, Nat.reduceSub, Array.replicate_succ, Array.replicate_zero, List.push_toArray, List.append_toArray, List.nil_append, List.cons_append]
  gi_wp2
  go_ret
  exact ⟨rfl, rfl⟩
theorem Pack_in (F : Fence) (n : Nat) (h9 : F.fn 9) (h15 : F.fn 15) (h16 : F.fn 16) (h19 : F.fn 19) (hro : F.round = none) (hn : 5 ≤ n) (a : Option Addr) (len cap : Nat) (l : List Int) (b h : Int) (w : World) (hl : l.length = len) (hreach : len * 24 ≤ 140737488351232) (hS : Sl w 1 (.slice a len cap) len (cells64 l)) :
    CallsIn F n Try.prog 9 #[.slice a len cap, .int .i64 b, .int .i64 h] w fun e w' => (∃ v, e = .returned v ∧ IsDiv w' v ((fin l b (wrap64 (b - pos h))).map rng)) ∧ Below w.heap.size w w' := by
  have h1 : 1 ≤ n := by omega
  refine callsIn_of_wp_marks Try.func9 rfl h9 ?_ hro
  simp only [Try.ntmps9, List.size_toArray, List.length_cons, List.length_nil, Nat.reduceAdd, Nat.reduceSub, Array.replicate_succ, Array.replicate_zero, List.push_toArray, List.append_toArray, List.nil_append, List.cons_append]
  gi_wp2_with (gi_at_call 15; refine (groups_in F (n - 1) h15 hro _ _ _ _ _ _).mono ?_; rintro e w' ⟨rfl, rfl⟩)
  obtain ⟨wo, hwo⟩ : ∃ W, w.alloc (.cells #[.slice none 0 0] 25) = W := ⟨_, rfl⟩
  have bO : Boxed wo w.heap.size 25 (.slice none 0 0) := by rw [← hwo]; exact Boxed.new w 25 _
  have so : wo.heap.size = w.heap.size + 1 := by rw [← hwo]; simp
  have hBo : Below w.heap.size w wo := by rw [← hwo]; exact (Below.refl _ w).alloc (Nat.le_refl _) _
  rw [hwo]
  clear hwo
  obtain ⟨w2, hw2⟩ : ∃ W, ((wo.alloc (.cells #[.slice a len cap] 22)).alloc (.cells #[.int .i64 b] 3)).alloc (.cells #[.int .i64 h] 3) = W := ⟨_, rfl⟩
  have b0 : Boxed w2 wo.heap.size 22 (.slice a len cap) := by rw [← hw2]; exact ((Boxed.new wo 22 _).alloc _).alloc _
  have b1 : Boxed w2 (wo.heap.size + 1) 3 (.int .i64 b) := by rw [← hw2]; have := (Boxed.new (wo.alloc (.cells #[.slice a len cap] 22)) 3 (.int .i64 b)).alloc (.cells #[.int .i64 h] 3); rwa [World.size_alloc] at this
  have b2 : Boxed w2 (wo.heap.size + 2) 3 (.int .i64 h) := by rw [← hw2]; have := (Boxed.new ((wo.alloc (.cells #[.slice a len cap] 22)).alloc (.cells #[.int .i64 b] 3)) 3 (.int .i64 h)); simpa using this
  have bO2 : Boxed w2 w.heap.size 25 (.slice none 0 0) := by rw [← hw2]; exact ((bO.alloc _).alloc _).alloc _
  have s2 : w2.heap.size = w.heap.size + 4 := by rw [← hw2]; simp; omega
  have hB2 : Below w.heap.size w w2 := by rw [← hw2]; exact ((hBo.alloc (by omega) _).alloc (by simp; omega) _).alloc (by simp; omega) _
  rw [hw2]
  clear hw2
  rw [so] at b0 b1 b2
  refine wpIn_rangeFunc_ownG hro h1 (gf := 19) (lb := #[.pointer (some ⟨w.heap.size + 1, 0, none⟩), .pointer (some ⟨w.heap.size + 1 + 1, 0, none⟩), .pointer (some ⟨w.heap.size + 1 + 2, 0, none⟩)]) rfl h19 (enters_of Try.func19 (by kernel_rfl) rfl)
    (groups_stops F (n - 1) h19 hro (by omega) (w.heap.size + 1) (w.heap.size + 1 + 1) (w.heap.size + 1 + 2) w.heap.size len cap a l b h hl (by omega) w2 (by omega) (by omega) (by omega) b0.cell b1.cell b2.cell w rfl hB2 hS) Kq.trans ?hKb (Below.refl _ _) (fun _ => rfl)
    (fun pre W => PackI w2.heap.size w.heap.size pre W ∧ Below w.heap.size w W ∧ w2.heap.size ≤ W.heap.size)
    (fun _ _ _ => False)
    ?hI (fun _ _ _ _ _ hs _ _ => hs)
    ⟨⟨_, [], bO2, World.ownsRow_nil _ _ _ _, fun i x hx => by simp at hx⟩, hB2, Nat.le_refl _⟩
    (fun x => { tmps := #[.slice a len cap, .int .i64 b, .int .i64 h, undef, undef, undef, .slice none 0 0, .pointer (some ⟨w.heap.size, 0, none⟩), .int .i64 (x.1.1 : Int), .int .i64 (x.1.2 : Int), undef, undef, .slice a len cap, .int .i64 b, .int .i64 h, .func (.func 19) #[] #[.pointer (some ⟨w.heap.size + 1, 0, none⟩), .pointer (some ⟨w.heap.size + 1 + 1, 0, none⟩), .pointer (some ⟨w.heap.size + 1 + 2, 0, none⟩)], .int .i64 (x.1.1 : Int), .int .i64 (x.1.2 : Int), undef, undef, undef, undef, undef, undef, undef, undef, undef, undef, undef, undef, undef, undef, undef, undef, undef, undef, undef, undef, undef, undef], defers := [] }) ?assign ?body ?done ?stop
  case hKb =>
    intro W lp o o' hlp ho hc hwk
    refine ⟨belowK_b (w := w2) (by omega) W lp o o' hlp ho hc hwk, ?_, ?_, ?_⟩
    all_goals
      simp only [World.cell?]
      rw [World.putObj_heap_other (by first | omega | (intro e; dsimp only at e; omega))]
  case hI =>
    refine OwnFrom.and (Own.from (packI_own _ _) _) (OwnFrom.and (ownFrom_below (Nat.le_refl _) (by omega)) ?_)
    intro s X Y row hs hg hr
    exact Nat.le_trans hs hg.size
  case assign =>
    intro lp x W K hK
    simp only [enc2]
    gi_wp2
    exact hK
  case body =>
    rintro lp pre x W ⟨⟨v, vs, bv, rv, hR⟩, hB, hz⟩ hlt
    obtain ⟨i3, hi3, hz30, hz31, hz32⟩ := info_parts info3'
    obtain ⟨i22, hi22, hz220, hz221, hz222⟩ := info_parts info22'
    obtain ⟨m, hm⟩ : ∃ m, x.1.2 - x.1.1 = m := ⟨_, rfl⟩
    have hx1 := x.2.1
    have hx2 := x.2.2
    have hml : m ≤ l.length := by omega
    have hmi : (x.1.2 : Int) - (x.1.1 : Int) = (m : Int) := by omega
    have hvc := bv.cell
    have hvf := bv.frozen
    gi_wp2_with (gi_at_make; refine wpListIn_make_full _ rfl _ _ 22 rfl w2.heap.size 3 i3 (.int .i64 0) 1 Try.underlying22 hi3 hz30 hz31 .i64 .i64 _ _ m rfl rfl rfl rfl (by rw [hz32]; omega) (by unfold maxLen; omega) hz ?_; intro W1 ro1 hg1)
    have hBW1 : Below w2.heap.size W W1 := (Below.refl _ W).grown hg1 hz (fun k e => by cases e)
    gi_loopw [24] (fun i wr => ∃ (k : Nat) (zs : List Int), k ≤ m ∧ i = .int .i64 k ∧ zs.length = m ∧ Hid (∀ j, j < k → zs.getD j 0 = ((x.1.1 + j : Nat) : Int)) ∧ wr.ownsRow w2.heap.size 3 1 (.slice (some ⟨W.heap.size, 0, none⟩) m m) m (cells64 zs) ∧ W.heap.size < wr.heap.size ∧ Below W.heap.size W wr ∧ KeepsOthers W wr) (fun i _ => m - (intOf i).toNat)
    case atStart =>
      refine ⟨0, List.replicate m 0, Nat.zero_le _, rfl, by simp, fun j hj => by omega, ?_, ?_, (Below.refl _ W).grown hg1 (Nat.le_refl _) (fun k e => by cases e), KeepsOthers.of_grownBy hg1 (fun j o e => by cases e)⟩
      · have := ro1
        rw [Nat.mul_one, show (Value.int IntKind.i64 0).cells = #[Value.int .i64 0] from rfl, toList_madeCells_one] at this
        simpa [cells64] using this
      · exact (own_cases ro1).elim (fun h => by simp at h) (fun ⟨g, c, h1, _, _, _, h5⟩ => by injection h1 with h1; injection h1 with h1; injection h1 with h1; omega)
    case round =>
      obtain ⟨k, zs, hkm, rfl, hzs, hZ, ro, hsz, hBr, hKr⟩ := hrel
      by_cases hk : k < m
      · obtain ⟨b', o', hb', _, hck⟩ := (Sl.of_own ro).num (by omega)
        have hck2 := hck k hk
        injection hb' with hb'
        injection hb' with e1 e2
        subst e1 e2
        rw [Nat.zero_add] at hck2
        have hfk := Sl.frozen_own (o := k) ro
        gi_wp2
        go_roundw
        case rel =>
          have hst := World.ownsRow.stored ro k (.int .i64 ((x.1.1 : Int) + (k : Int)))
          refine ⟨k + 1, zs.set k ((x.1.1 : Int) + (k : Int)), by omega, by go_num, by simpa using hzs, fun j hj => ?_, by rw [show cells64 (zs.set k ((x.1.1 : Int) + (k : Int))) = (cells64 zs).set k (.int .i64 ((x.1.1 : Int) + (k : Int))) by simp [cells64, List.map_set]]; exact hst.1, by simpa using hsz, hBr.setCell (p := ⟨W.heap.size, k, none⟩) (Nat.le_refl _) _, hKr.trans (KeepsOthers.setCell _ _ _)⟩
          rcases Nat.lt_or_ge j k with h5 | h5
          · have := hZ.out j h5
            rw [← this]
            simp [List.getD_eq_getElem?_getD, show ¬ k = j by omega]
          · obtain rfl : j = k := by omega
            simp [List.getD_eq_getElem?_getD, show j < zs.length by omega]
        case measure => simp [intOf]; omega
      · obtain rfl : k = m := by omega
        have bv' : Boxed wr w.heap.size 25 v := (hBr.block w.heap.size bv.lt).trans bv
        have rv' := own_bel rv hBr
        have hvc' := bv'.cell
        have hvf' := bv'.frozen
        have hzw := hB2.size
        gi_wp2_with (gi_at_builtin; refine wpListIn_append_own _ rfl _ _ 25 rfl w2.heap.size 22 i22 (.slice none 0 0) 1 24 Try.underlying25 hi22 hz220 hz221 hz222 rfl (by decide) _ _ _ rfl (rv'.alloc _) ⟨wr.heap.size, 0, none⟩ 1 1 [.slice (some ⟨W.heap.size, 0, none⟩) k k] rfl rfl (cell_one_new _ _ _) (by simp [Value.oneCell']) (by unfold maxLen; omega) (by omega) (by simp; omega) ?_; intro v' w1 hown' hgrow _; obtain ⟨g', cap', rfl⟩ := ownsRow_succ hown'; obtain ⟨hv1, hv2, hr2, hk2, hb2⟩ := bv'.appended (n₀ := w.heap.size) (by decide) (own_mono rv' hzw) (by omega) (Nat.le_refl _) (own_mono hown' hzw) hgrow; have hc1 := hv1.cell; have hf1 := hv1.frozen)
        have hbw1 : Below w2.heap.size wr w1 := ((Below.refl _ wr).alloc (by omega) _).trans (below_grown (rv'.alloc _) (by simp; omega) hgrow)
        have hzr : zs = rng x.1 := by
          refine List.ext_getElem (by rw [rng_length]; omega) fun j h5 h6 => ?_
          have := hZ.out j (by omega)
          rw [List.getD_eq_getElem?_getD, List.getElem?_eq_getElem h5] at this
          simpa [rng] using this
        have hvl : vs.length = pre.length := by have := rv.1; omega
        refine ⟨(hKr.trans hk2).from _, ⟨(hBr.mono (by omega)).trans hb2, ?_, ?_, ?_⟩, ⟨_, vs ++ [.slice (some ⟨W.heap.size, 0, none⟩) k k], hv2, ?_, ?_⟩, hB.trans ((hBr.mono (by omega)).trans hb2), ?_⟩
        · simp only [World.cell?]; rw [Below.heap_setCell _ _ _ _ (by first | omega | (dsimp only; omega) | (simp; done) | (simp; omega)), hbw1.block _ (by omega), hBr.block _ (by omega)]
        · simp only [World.cell?]; rw [Below.heap_setCell _ _ _ _ (by first | omega | (dsimp only; omega) | (simp; done) | (simp; omega)), hbw1.block _ (by omega), hBr.block _ (by omega)]
        · simp only [World.cell?]; rw [Below.heap_setCell _ _ _ _ (by first | omega | (dsimp only; omega) | (simp; done) | (simp; omega)), hbw1.block _ (by omega), hBr.block _ (by omega)]
        · rw [show (pre ++ [x]).length = pre.length + 1 by simp]
          exact own_set hown' _ (own_ne hown' (.inl (by simp; omega)))
        · intro i y hy
          rcases Nat.lt_or_ge i pre.length with h5 | h5
          · rw [List.getElem?_append_left h5] at hy
            obtain ⟨u, h6, h7⟩ := hR i y hy
            refine ⟨u, by rw [List.getElem?_append_left (by omega)]; exact h6, ?_⟩
            have h8 := (own_bel h7 hBr).alloc (.cells #[.slice (some ⟨W.heap.size, 0, none⟩) k k] 22)
            have h9 := own_other h8 hgrow (own_types h8 (rv'.alloc _) (by decide))
            exact own_set h9 _ (own_ne h9 (.inl (by simp; omega)))
          · rw [List.getElem?_append_right h5] at hy
            have h6 : i - pre.length = 0 := by
              rcases Nat.lt_or_ge 0 (i - pre.length) with h | h
              · rw [List.getElem?_eq_none (by simp; omega)] at hy; simp at hy
              · omega
            rw [h6] at hy
            obtain rfl : x = y := by simpa using hy
            refine ⟨_, by rw [List.getElem?_append_right (by omega), show i - vs.length = 0 by omega]; rfl, ?_⟩
            rw [hm, ← hzr]
            have h8 := ro.alloc (.cells #[.slice (some ⟨W.heap.size, 0, none⟩) k k] 22)
            have h9 := own_other h8 hgrow (own_types h8 (rv'.alloc _) (by decide))
            exact own_set h9 _ (own_ne h9 (.inl (by simp; omega)))
        · have := hbw1.size
          simp; omega
  case done =>
    rintro D ys W hD hys ⟨⟨v, vs, bv, rv, hR⟩, hB, hz⟩ hK
    have hvc := bv.cell
    rcases own_cases rv with ⟨rfl, hy0⟩ | ⟨g, cp, rfl, hg1, hg2, hg3, hg4⟩
    · gi_wp2_with (gi_at_call 16; refine (Clip_nil_in F (n - 1) h16 hro _).mono ?_; rintro e W1 ⟨rfl, rfl⟩)
      refine ⟨by simp, .inl ⟨_, _, rfl, run_takeDeferred hK, ?_⟩⟩
      have hBe := hB.trans (belowK_b (w := w2) (n₀ := w.heap.size) (by omega) W1 D _ (.deferred none) hD hK rfl rfl)
      obtain rfl : ys = [] := List.eq_nil_of_length_eq_zero hy0
      rw [← hys]
      exact ⟨_, results_tmp rfl _ _ _, ⟨_, rfl, [], Sl.nil _ _, fun i g hg => by simp at hg⟩, hBe⟩
    · gi_wp2_with (gi_at_call 16; refine (Clip_some_in F (n - 1) h16 hro _ _ _ _ hg1 hg2 _).mono ?_; rintro e W1 ⟨rfl, rfl⟩)
      refine ⟨by simp, .inl ⟨_, _, rfl, run_takeDeferred hK, ?_⟩⟩
      have hBe := hB.trans (belowK_b (w := w2) (n₀ := w.heap.size) (by omega) W1 D _ (.deferred none) hD hK rfl rfl)
      refine ⟨_, results_tmp rfl _ _ _, ⟨_, rfl, ?_⟩, hBe⟩
      rw [← hys]
      refine packI_div (k := ys.length) (Nat.le_of_eq rfl) (ownsRow_putObj rv _ hK rfl) (by simp) fun i x hx => ?_
      obtain ⟨u, h3, h4⟩ := hR i x hx
      exact ⟨u, h3, ownsRow_putObj h4 _ hK rfl⟩
  case stop =>
    rintro D c pre W _ _ hh _
    exact hh.elim
end Go.Proofs.Ytnbfmmnbjjeecab
