/- package quote: index. -/
import Derived.Test.YtompmkcpicfdfaaDoorAMap
namespace Go.Proofs.YtompmkcpicfdfaaDoor
open Go.RowKit Go.Maps
set_option linter.unusedVariables false
/-- a slice of slices of strings -/
def Tx (w : World) (v : Value) (tss : List (List ByteArray)) : Prop := ∃ vs, Sl w 1 v tss.length vs ∧ ∀ i (h : i < tss.length), ∃ u, vs[i]? = some u ∧ Ss w u tss[i]
theorem Tx.below {w w' : World} {v : Value} {tss : List (List ByteArray)} (h : Tx w v tss) (hb : Below w.heap.size w w') : Tx w' v tss := by
  obtain ⟨vs, h1, h2⟩ := h
  refine ⟨vs, h1.below hb, fun i hi => ?_⟩
  obtain ⟨u, h3, h4⟩ := h2 i hi
  exact ⟨u, h3, Sl.below h4 hb⟩
theorem Tx.at {w : World} {v : Value} {tss : List (List ByteArray)} (h : Tx w v tss) (i : Nat) (hi : i < tss.length) : ∃ b off cap u, v = .slice (some ⟨b, off, none⟩) tss.length cap ∧ b < w.heap.size ∧ w.cell? ⟨b, off + i, none⟩ = some u ∧ Ss w u tss[i] := by
  obtain ⟨vs, h1, h2⟩ := h
  obtain ⟨b, off, cap, hv, _, _, hb, hc⟩ := h1.at (by omega)
  obtain ⟨u, h3, h4⟩ := h2 i hi
  exact ⟨b, off, cap, u, hv, hb, hc i u h3, h4⟩
theorem Tx.val {w : World} {v : Value} {tss : List (List ByteArray)} (h : Tx w v tss) : ∃ a cap, v = .slice a tss.length cap ∧ tss.length ≤ cap ∧ cap ≤ maxLen := by
  obtain ⟨vs, h1, _⟩ := h
  exact h1.val
def kvL (k : List UInt8 × List UInt8 × List UInt8) : Value := trip (⟨k.1.toArray⟩, ⟨k.2.1.toArray⟩, ⟨k.2.2.toArray⟩)
theorem kvL_inj : ∀ x y, kvL x = kvL y → x = y := by
  rintro ⟨a, b, c⟩ ⟨a', b', c'⟩ h
  have h1 := trip_inj _ _ h
  simp only [Prod.mk.injEq, ByteArray.mk.injEq] at h1
  have e1 := congrArg Array.toList h1.1
  have e2 := congrArg Array.toList h1.2.1
  have e3 := congrArg Array.toList h1.2.2
  simp at e1 e2 e3
  rw [e1, e2, e3]
theorem kvL_of (x y z : ByteArray) : Value.agg #[.string x, .string y, .string z] = kvL (x.data.toList, y.data.toList, z.data.toList) := rfl
theorem triL_length (t : Nat) : ∀ (l : List KK) (k : Nat), (triL t k l).length = l.length - 2
  | [], k => rfl
  | [x], k => rfl
  | [x, y], k => rfl
  | x :: y :: z :: r, k => by rw [triL, List.length_cons, triL_length t (y :: z :: r) (k + 1)]; simp
theorem triL_get (t : Nat) : ∀ (l : List KK) (k i : Nat) (a b c : KK), l[i]? = some a → l[i + 1]? = some b → l[i + 2]? = some c → (triL t k l)[i]? = some ((a, b, c), (t, k + i))
  | [], k, i, a, b, c, h, _, _ => by simp at h
  | [x], k, i, a, b, c, _, h, _ => by simp at h
  | [x, y], k, i, a, b, c, _, _, h => by simp at h
  | x :: y :: z :: r, k, 0, a, b, c, h1, h2, h3 => by
    simp at h1 h2 h3
    subst h1 h2 h3
    rw [triL]; rfl
  | x :: y :: z :: r, k, i + 1, a, b, c, h1, h2, h3 => by
    rw [triL]
    have := triL_get t (y :: z :: r) (k + 1) i a b c (by simpa using h1) (by simpa using h2) (by simpa using h3)
    rw [List.getElem?_cons_succ, this]
    congr 3; omega
theorem triAll_snoc (x : List KK) : ∀ (r : List (List KK)) (t : Nat), triAll t (r ++ [x]) = triAll t r ++ triL (t + r.length) 0 x
  | [], t => by simp [triAll]
  | y :: r, t => by
    rw [List.cons_append, triAll, triAll_snoc x r (t + 1), triAll, List.append_assoc, List.length_cons]
    congr 3; omega
theorem three_cells {w : World} {v' : Value} {ts : List ByteArray} {k : Nat} (hk : k + 3 ≤ ts.length) (h : Sl w 1 v' (k + 3 - k) (((ts.map Value.string).take ((k + 3) * 1)).drop (k * 1))) :
    ∃ b o c x y z, v' = .slice (some ⟨b, o, none⟩) 3 c ∧ 3 ≤ c ∧ c ≤ maxLen ∧ b < w.heap.size ∧ ts[k]? = some x ∧ ts[k + 1]? = some y ∧ ts[k + 2]? = some z ∧ w.cell? ⟨b, o, none⟩ = some (.string x) ∧ w.cell? ⟨b, o + 1, none⟩ = some (.string y) ∧ w.cell? ⟨b, o + 2, none⟩ = some (.string z) := by
  have e3 : k + 3 - k = 3 := by omega
  rw [e3] at h
  obtain ⟨b, o, c, hv, h1, h2, h3, h4⟩ := h.at (by decide)
  have hg : ∀ j, j < 3 → ∀ x, ts[k + j]? = some x → w.cell? ⟨b, o + j, none⟩ = some (.string x) := by
    intro j hj x hx
    refine h4 j _ ?_
    rw [List.getElem?_drop, List.getElem?_take_of_lt (by omega), Nat.mul_one, List.getElem?_map, hx]; rfl
  have g0 : ts[k]? = some ts[k] := List.getElem?_eq_getElem (by omega)
  have g1 : ts[k + 1]? = some ts[k + 1] := List.getElem?_eq_getElem (by omega)
  have g2 : ts[k + 2]? = some ts[k + 2] := List.getElem?_eq_getElem (by omega)
  exact ⟨b, o, c, _, _, _, hv, h1, h2, h3, g0, g1, g2, hg 0 (by decide) _ g0, hg 1 (by decide) _ g1, hg 2 (by decide) _ g2⟩
theorem AMap.dup {P : Program} {kt : TypeId} {κ β : Type} [BEq κ] [LawfulBEq κ] {kv : κ → Value} {bv : β → Value} {w : World} {b : Nat} {L : List (κ × β)} (h : AMap P kt kv bv w b L) {x : κ} {p q : β} (hx : L.lookup x = some p) : AMap P kt kv bv w b (L ++ [(x, q)]) := by
  obtain ⟨es, clock, h1, h2, h3⟩ := h.ex
  have e : ∀ y, (L ++ [(x, q)]).lookup y = L.lookup y := by
    intro y
    rw [lookup_append]
    cases hy : L.lookup y with
    | some _ => rfl
    | none =>
      simp only [Option.none_or, List.lookup_cons, List.lookup_nil]
      split
      · rename_i h5
        rw [eq_of_beq h5, hx] at hy; cases hy
      · rfl
  refine ⟨es, clock, h1, fun e' he => ?_, fun y p' hy => ?_⟩
  · obtain ⟨y, p', k1, k2, k3⟩ := h2 e' he
    exact ⟨y, p', k1, k2, by rw [e]; exact k3⟩
  · rw [e] at hy
    exact h3 y p' hy
abbrev QMap (w : World) (b : Nat) (L : List ((List UInt8 × List UInt8 × List UInt8) × (Nat × Nat))) : Prop := AMap Tryd.prog 82 kvL plc w b L
def byss (tss : List (List ByteArray)) : List (List (List UInt8)) := tss.map bysL
theorem zero_place (w : World) : (zeroValue 80).run Tryd.prog w = .ok (.agg #[.int .i64 0, .int .i64 0]) w := by kernel_rfl
theorem triL_mem {t : Nat} : ∀ {l : List KK} {k : Nat} {q : (KK × KK × KK) × (Nat × Nat)}, q ∈ triL t k l → q.1.1 ∈ l ∧ q.1.2.1 ∈ l ∧ q.1.2.2 ∈ l
  | [], k, q, h => by simp [triL] at h
  | [x], k, q, h => by simp [triL] at h
  | [x, y], k, q, h => by simp [triL] at h
  | x :: y :: z :: r, k, q, h => by
    rw [triL] at h
    rcases List.mem_cons.1 h with rfl | h
    · exact ⟨by simp, by simp, by simp⟩
    · have := triL_mem h
      exact ⟨.tail _ this.1, .tail _ this.2.1, .tail _ this.2.2⟩
theorem triAll_mem : ∀ {r : List (List KK)} {t : Nat} {q : (KK × KK × KK) × (Nat × Nat)}, q ∈ triAll t r → ∃ l ∈ r, q.1.1 ∈ l ∧ q.1.2.1 ∈ l ∧ q.1.2.2 ∈ l
  | [], t, q, h => by simp [triAll] at h
  | x :: r, t, q, h => by
    rw [triAll] at h
    rcases List.mem_append.1 h with h | h
    · exact ⟨x, by simp, triL_mem h⟩
    · obtain ⟨l, h1, h2⟩ := triAll_mem h
      exact ⟨l, .tail _ h1, h2⟩
theorem kvL_good {x y z : List UInt8} (hx : x.length ≤ maxLen) (hy : y.length ≤ maxLen) (hz : z.length ≤ maxLen) : ∃ l, keyOf Tryd.prog 82 (kvL (x, y, z)) = some l := trip_key _ hx hy hz
theorem tri_good {tss : List (List ByteArray)} {ts : List ByteArray} {t k : Nat} {h : t < tss.length} (hsz : Hid (∀ ts ∈ tss, ts.length ≤ 4294967281 ∧ ∀ x ∈ ts, x.size ≤ maxLen)) (hts : tss[t] = ts) (h2 : ∀ x ∈ ts, x.size ≤ maxLen) :
    ∀ q ∈ triAll 0 ((byss tss).take t) ++ (triL t 0 (bysL ts)).take k, ∃ l, keyOf Tryd.prog 82 (kvL q.1) = some l := by
  have hb : ∀ ts : List ByteArray, (∀ x ∈ ts, x.size ≤ maxLen) → ∀ y ∈ bysL ts, y.length ≤ maxLen := by
    intro ts h y hy
    obtain ⟨x, hx, rfl⟩ := List.mem_map.1 hy
    rw [str_size]; exact h x hx
  intro q hq
  rcases List.mem_append.1 hq with hq | hq
  · obtain ⟨l, h3, h4, h5, h6⟩ := triAll_mem hq
    obtain ⟨ts', h7, rfl⟩ := List.mem_map.1 (List.mem_of_mem_take h3)
    have := hb ts' (hsz.out ts' h7).2
    exact kvL_good (this _ h4) (this _ h5) (this _ h6)
  · have h4 := triL_mem (List.mem_of_mem_take hq)
    have := hb ts h2
    exact kvL_good (this _ h4.1) (this _ h4.2.1) (this _ h4.2.2)
theorem arrayAt3 (W : World) (b o c : Nat) : (Instr.arrayAt 82 (.slice (some ⟨b, o, none⟩) 3 c)).run Tryd.prog W = .ok (.pointer (some ⟨b, o, none⟩)) W := by
  simp [Instr.arrayAt, run_underlying Tryd.underlying82]
set_option maxRecDepth 100000 in
set_option maxHeartbeats 4000000 in
theorem index_any (v : Value) (tss : List (List ByteArray)) (w : World) (hv : Tx w v tss) (hn : tss.length ≤ 4294967281) (hsz : Hid (∀ ts ∈ tss, ts.length ≤ 4294967281 ∧ ∀ x ∈ ts, x.size ≤ maxLen)) :
    Calls Tryd.prog 67 #[v] w fun e w' => e = .returned (.map (some w.heap.size)) ∧ QMap w' w.heap.size (triAll 0 (byss tss)) ∧ Below w.heap.size w w' := by
  obtain ⟨a1, c1, rfl, hc1, hd1⟩ := hv.val
  have hmm := @run_makeMap Tryd.prog
  have harr := arrayAt3
  go_enter Tryd.func67, Tryd.ntmps67
  go_wp2_with fail
  go_loopw [13] (fun ii wr => ∃ (t : Nat), ii = .int .i64 t ∧ t ≤ tss.length ∧ QMap wr w.heap.size (triAll 0 ((byss tss).take t)) ∧ Below w.heap.size w wr) (fun ii _ => tss.length - (intOf ii).toNat)
  case atStart => exact ⟨0, rfl, by omega, AMap.made w, (Below.refl _ _).alloc (Nat.le_refl _) _⟩
  case round =>
    obtain ⟨t, rfl, ht, hM, hB⟩ := hrel
    have hzB := hB.size
    have hlt0 := hM.lt
    by_cases hlt : t < tss.length
    · have q1 : decide ((t : Int) < (tss.length : Int)) = true := decide_eq_true (by omega)
      have q2 : decide (t < tss.length) = true := decide_eq_true hlt
      obtain ⟨bb, oo, dd, u, hee, hbb, x0, hu⟩ := hv.at t hlt
      cases hee
      obtain ⟨ts, hts⟩ : ∃ ts, tss[t] = ts := ⟨_, rfl⟩
      have hsz1 := hsz.out ts (by rw [← hts]; exact List.getElem_mem hlt)
      obtain ⟨hln, hsz2⟩ := hsz1
      rw [hts] at hu
      have hu0 := hu
      have x1 : wr.cell? ⟨bb, oo + t, none⟩ = some u := (hB.cell (p := ⟨bb, oo + t, none⟩) hbb).trans x0
      obtain ⟨au, cu, rfl, hcu, hdu⟩ := hu.val
      obtain ⟨m, hm⟩ : ∃ m : Nat, max (0 : Int) ((ts.length : Int) - 3 + 1) = m := ⟨(max (0 : Int) ((ts.length : Int) - 3 + 1)).toNat, by omega⟩
      have hml : m = ts.length - 2 := by omega
      replace hsz2 := Lib.hid hsz2
      replace hts := Lib.hid hts
      replace hml := Lib.hid hml
      clear hv x0
      go_wp2_with fail
      obtain ⟨W1, rfl⟩ : ∃ W1 : World, W1 = wr := ⟨_, rfl⟩
      clear x1
      replace hm := Lib.hid hm
      go_loopw [23] (fun kk wr => ∃ (k : Nat), kk = .int .i64 k ∧ k ≤ m ∧ QMap wr w.heap.size (triAll 0 ((byss tss).take t) ++ (triL t 0 (bysL ts)).take k) ∧ Below w.heap.size w wr) (fun kk _ => m - (intOf kk).toNat)
      case atStart => exact ⟨0, rfl, by omega, by simpa using hM, hB⟩
      case round =>
        obtain ⟨k, rfl, hk, hM, hB⟩ := hrel
        have hu := Sl.below hu0 hB
        have hzB := hB.size
        have hlt0 := hM.lt
        by_cases hkm : k < m
        · have q3 : decide ((k : Int) < (m : Int)) = true := decide_eq_true (by omega)
          have q4 : decide (k < m) = true := decide_eq_true hkm
          have hk3 : k + 3 ≤ ts.length := by have := hml.out; omega
          have j1 : (0 : Int) ≤ (k : Int) := by omega
          have j2 : (k : Int) ≤ (k : Int) + 3 := by omega
          have j3 : (k : Int) + 3 ≤ (ts.length : Int) := by omega
          have gx : ts[k]? = some ts[k] := List.getElem?_eq_getElem (by omega)
          have gy : ts[k + 1]? = some ts[k + 1] := List.getElem?_eq_getElem (by omega)
          have gz : ts[k + 2]? = some ts[k + 2] := List.getElem?_eq_getElem (by omega)
          have sx := hsz2.out ts[k] (List.getElem_mem _)
          have sy := hsz2.out ts[k + 1] (List.getElem_mem _)
          have sz := hsz2.out ts[k + 2] (List.getElem_mem _)
          obtain ⟨x, ex⟩ : ∃ x, ts[k] = x := ⟨_, rfl⟩
          obtain ⟨y, ey⟩ : ∃ y, ts[k + 1] = y := ⟨_, rfl⟩
          obtain ⟨z, ez⟩ : ∃ z, ts[k + 2] = z := ⟨_, rfl⟩
          rw [ex] at gx sx
          rw [ey] at gy sy
          rw [ez] at gz sz
          clear ex ey ez
          have hget := triL_get t (bysL ts) 0 k x.data.toList y.data.toList z.data.toList (by simp [bysL, gx]) (by simp [bysL, gy]) (by simp [bysL, gz])
          rw [Nat.zero_add] at hget
          obtain ⟨L, hL⟩ : ∃ L, triAll 0 ((byss tss).take t) ++ (triL t 0 (bysL ts)).take k = L := ⟨_, rfl⟩
          have hL2 : triAll 0 ((byss tss).take t) ++ (triL t 0 (bysL ts)).take (k + 1) = L ++ [((x.data.toList, y.data.toList, z.data.toList), (t, k))] := by
            obtain ⟨hh, hg2⟩ := List.getElem?_eq_some_iff.1 hget
            rw [List.take_succ_eq_append_getElem hh, hg2, ← List.append_assoc, hL]
          have hgood : ∀ q ∈ L, ∃ l, keyOf Tryd.prog 82 (kvL q.1) = some l := fun q hq => by
            rw [← hL] at hq
            exact tri_good hsz hts.out hsz2.out q hq
          rw [hL] at hM
          have hkx := trip_key (x, y, z) sx sy sz
          have hlook := (hM.below ((Below.refl _ _).alloc (Nat.le_refl _) (.cells #[.string x, .string y, .string z] 82))).look law3 Tryd.underlying74 (zero_place _) kvL_inj hgood (x.data.toList, y.data.toList, z.data.toList) hkx
          rw [← kvL_of x y z] at hlook
          replace gx := Lib.hid gx
          replace gy := Lib.hid gy
          replace gz := Lib.hid gz
          replace hL := Lib.hid hL
          replace hL2 := Lib.hid hL2
          clear hget sx sy sz
          cases hl : L.lookup (x.data.toList, y.data.toList, z.data.toList) with
          | some p0 =>
            rw [hl] at hlook
            simp only [plc] at hlook
            have hM2 := hM.dup (q := (t, k)) hl
            rw [← hL2.out] at hM2
            replace hl := Lib.hid hl
            replace hgood := Lib.hid hgood
            replace hkx := Lib.hid hkx
            go_wp2_with ((with_reducible show wpList _ _ _ (⟨some 30, _, _, _, _, _⟩ :: _) _ _); refine wpList_cut_lh (o := ⟨some 30, _, _, _, _, _⟩) (s := 1) (n := ts.length) (xs := ts.map .string) rfl 32 (.tmp 26) (.tmp 27) (.tmp 29) rfl (e := 9) Tryd.underlying32 (by kernel_rfl) rfl hu (k := .i64) (k' := .i64) (l := k) (u := k + 3) rfl (by go_num) (by omega) (by omega) ?_; intro v' hS'; obtain ⟨b3, o3, c3, x', y', z', rfl, hc3, hm3, hb3, gx', gy', gz', cx, cy, cz⟩ := three_cells (by omega) hS'; obtain rfl := Option.some.inj (gx.out.symm.trans gx'); obtain rfl := Option.some.inj (gy.out.symm.trans gy'); obtain rfl := Option.some.inj (gz.out.symm.trans gz'); clear hS' gx' gy' gz')
            go_roundw
            case rel => exact ⟨k + 1, by go_num, hkm, (hM2.below ((Below.refl _ _).alloc (Nat.le_refl _) _)).below ((Below.refl _ _).alloc (Nat.le_refl _) _), balloc (balloc hB)⟩
            case measure => simp only [intOf]; go_num
          | none =>
            rw [hl] at hlook
            obtain ⟨W3, hput, hM3, hgr⟩ := ((hM.below ((Below.refl _ _).alloc (Nat.le_refl _) (.cells #[.string x, .string y, .string z] 82))).below ((Below.refl _ _).alloc (Nat.le_refl _) (.cells #[.int .i64 0, .int .i64 0] 80))).put law3 Tryd.underlying74 kvL_inj hgood (x.data.toList, y.data.toList, z.data.toList) (t, k) hkx hl
            rw [← hL2.out] at hM3
            rw [← kvL_of x y z] at hput
            simp only [plc] at hput
            have hB3 : Below w.heap.size w W3 := (balloc (balloc hB)).grown hgr (by simp; omega) (fun j hj => by cases hj; exact Nat.le_refl _)
            replace hgr := Lib.hid hgr
            replace hl := Lib.hid hl
            replace hgood := Lib.hid hgood
            replace hkx := Lib.hid hkx
            go_wp2_with ((with_reducible show wpList _ _ _ (⟨some 30, _, _, _, _, _⟩ :: _) _ _); refine wpList_cut_lh (o := ⟨some 30, _, _, _, _, _⟩) (s := 1) (n := ts.length) (xs := ts.map .string) rfl 32 (.tmp 26) (.tmp 27) (.tmp 29) rfl (e := 9) Tryd.underlying32 (by kernel_rfl) rfl hu (k := .i64) (k' := .i64) (l := k) (u := k + 3) rfl (by go_num) (by omega) (by omega) ?_; intro v' hS'; obtain ⟨b3, o3, c3, x', y', z', rfl, hc3, hm3, hb3, gx', gy', gz', cx, cy, cz⟩ := three_cells (by omega) hS'; obtain rfl := Option.some.inj (gx.out.symm.trans gx'); obtain rfl := Option.some.inj (gy.out.symm.trans gy'); obtain rfl := Option.some.inj (gz.out.symm.trans gz'); clear hS' gx' gy' gz')
            go_roundw
            case rel => exact ⟨k + 1, by go_num, hkm, hM3, hB3⟩
            case measure => simp only [intOf]; go_num
        · obtain rfl : k = m := by omega
          have q3 : decide ((k : Int) < (k : Int)) = false := by simp
          have q4 : decide (k < k) = false := by simp
          have hM2 : QMap wr w.heap.size (triAll 0 ((byss tss).take (t + 1))) := by
            have e1 : (triL t 0 (bysL ts)).take k = triL t 0 (bysL ts) := List.take_of_length_le (by rw [triL_length, bysL_len, hml.out]; exact Nat.le_refl _)
            have e2 : (byss tss).take (t + 1) = (byss tss).take t ++ [bysL ts] := by
              have h5 : t < (byss tss).length := by simpa [byss] using hlt
              rw [List.take_succ_eq_append_getElem h5]
              congr 2
              simp [byss, hts.out]
            have e3 : ((byss tss).take t).length = t := by rw [List.length_take]; simp [byss]; omega
            rw [e1] at hM
            rw [e2, triAll_snoc, e3, Nat.zero_add]
            exact hM
          clear hM hu
          go_wp2_with fail
          refine ⟨⟨t + 1, by go_num, hlt, hM2, hB⟩, ?_⟩
          simp only [intOf]; omega
    · obtain rfl : t = tss.length := by omega
      have q1 : decide ((tss.length : Int) < (tss.length : Int)) = false := by simp
      have q2 : decide (tss.length < tss.length) = false := by simp
      have hM2 : QMap wr w.heap.size (triAll 0 (byss tss)) := by
        have e : (byss tss).take tss.length = byss tss := List.take_of_length_le (by simp [byss])
        rw [e] at hM; exact hM
      clear hM
      go_wp2_with fail
      go_ret
      exact ⟨rfl, hM2, hB⟩
end Go.Proofs.YtompmkcpicfdfaaDoor
