/- package quote: Trim. -/
import Derived.Test.YtompmkcpicfdfaaDoorQuoteO
import Derived.Test.YtompmkcpicfdfaaDoorDec
namespace Go.Proofs.YtompmkcpicfdfaaDoor
open Go.RowKit Go.Maps
set_option linter.unusedVariables false
theorem runQ_cons (x : List UInt8) (r : List (List UInt8)) : runQ (x :: r) = if qtd x then runQ r + 1 else 0 := by
  unfold runQ
  rw [List.takeWhile_cons]
  split <;> rfl
theorem runQ_drop {l : List (List UInt8)} {i : Nat} (h : i < l.length) : runQ (l.drop i) = if qtd l[i] then runQ (l.drop (i + 1)) + 1 else 0 := by
  rw [List.drop_eq_getElem_cons h, runQ_cons]
theorem runQ_drop_le (l : List (List UInt8)) (i : Nat) (h : i ≤ l.length) : i + runQ (l.drop i) ≤ l.length := by
  have := runQ_le (l.drop i)
  rw [List.length_drop] at this; omega
/-- a row of numbers that may be written -/
def Nums (W : World) (b n : Nat) (f : Nat → Nat) : Prop := ∀ j, j < n → W.cell? ⟨b, j, none⟩ = some (.int .i64 (f j : Nat)) ∧ W.frozen? ⟨b, j, none⟩ = false
theorem Nums.of_own {W : World} {base n : Nat} {b : Nat} (h : W.ownsRow base 3 1 (.slice (some ⟨b, 0, none⟩) n n) n (madeCells (Value.int .i64 0).cells (n * 1)).toList) : Nums W b n (fun _ => 0) := by
  intro j hj
  refine ⟨?_, Sl.frozen_own h⟩
  obtain ⟨b', off, cap, hv, _, _, _, hc⟩ := (Sl.of_own h).at (by omega)
  simp only [Value.slice.injEq, Option.some.injEq, Addr.mk.injEq] at hv
  obtain ⟨⟨rfl, rfl, _⟩, _, rfl⟩ := hv
  have h2 := hc j (.int .i64 0) (by
    rw [show (Value.int IntKind.i64 0).cells = #[.int .i64 0] from rfl, toList_madeCells_one]
    rw [Nat.mul_one, List.getElem?_replicate, if_pos hj])
  simpa using h2
theorem Nums.set {W : World} {b n : Nat} {f : Nat → Nat} (h : Nums W b n f) (i : Nat) (hi : i < n) (x : Nat) : Nums (W.setCell ⟨b, i, none⟩ (.int .i64 (x : Nat))) b n (fun j => if j = i then x else f j) := by
  intro j hj
  obtain ⟨h1, h2⟩ := h j hj
  refine ⟨?_, by rw [World.frozen?_setCell]; exact h2⟩
  by_cases e : j = i
  · subst e
    simp only [if_true]
    exact World.cell?_setCell_same _ _ _ h1
  · simp only [if_neg e]
    rw [World.cell?_setCell_other _ _ _ _ (by intro h; injection h with _ h _; exact e h.symm)]
    exact h1
theorem Nums.bel {W W' : World} {b n : Nat} {f : Nat → Nat} (h : Nums W b n f) (hb : Below W.heap.size W W') : Nums W' b n f := by
  intro j hj
  obtain ⟨h1, h2⟩ := h j hj
  have hlt := World.block_lt_of_cell? W _ h1
  exact ⟨bget hb hlt h1, bfrz hb hlt h2⟩
theorem Nums.congr {W : World} {b n : Nat} {f g : Nat → Nat} (h : Nums W b n f) (e : ∀ j, j < n → f j = g j) : Nums W b n g := fun j hj => by rw [← e j hj]; exact h j hj
theorem markL_len {n : Nat} (h : n ≤ 999999999999999) : (markL n).length ≤ 31 := by
  unfold markL
  have h1 := itoa_length (n : Int)
  have h2 := (nDigits_15 n).2 h
  simp only [List.length_append, List.length_cons, List.length_nil, h1, Int.natAbs_natCast]
  split <;> omega
theorem unl_cons (x : List UInt8) (r : List (List UInt8)) : (unl (x :: r)).length = x.length + 1 + (unl r).length := by
  rw [show unl (x :: r) = (x ++ [10]) ++ unl r by simp [unl]]; simp; omega
theorem trimS_bound (texts : List (List (List UInt8))) : ∀ (l : List (List UInt8)) (k : Nat), l.length ≤ 999999999999999 → (unl (trimS texts k l)).length ≤ (unl l).length + l.length * 40
  | [], k, _ => by simp [trimS, unl]
  | x :: r, k + 1, h => by
    have := trimS_bound texts r k (by simp at h; omega)
    rw [trimS, unl_cons, List.length_cons]; omega
  | x :: r, 0, h => by
    rw [trimS, unl_cons, List.length_cons]
    simp only [List.length_cons] at h
    split
    · have := trimS_bound texts r 0 (by omega)
      rw [unl_cons]; omega
    · have h1 := trimS_bound texts r (quotN texts (x :: r) - 1) (by omega)
      have h2 := markL_len (n := quotN texts (x :: r)) (by have := quotN_le texts (x :: r); simp at this; omega)
      rw [unl_cons]; omega
theorem findIn_ge {q x : List KK} : ∀ {l : List KK}, findIn q l = some x → 3 ≤ agr q x
  | [], h => by cases h
  | y :: r, h => by
    rw [findIn] at h
    split at h
    · rename_i h3
      injection h with h
      subst h
      exact h3
    · exact findIn_ge h
theorem firstP_ge {q x : List KK} {texts : List (List KK)} (h : firstP q texts = some x) : 3 ≤ agr q x := by
  obtain ⟨l, _, hl⟩ := List.exists_of_findSome?_eq_some h
  exact findIn_ge hl
theorem quotN_cases (texts : List (List (List UInt8))) (l : List (List UInt8)) (a b c : List UInt8) (q : List (List UInt8)) (hk : l.map keyL = a :: b :: c :: q) (hr : 3 ≤ runQ l) :
    ((triAll 0 texts).lookup (a, b, c) = none ∧ quotN texts l = 0) ∨ ∃ p, (triAll 0 texts).lookup (a, b, c) = some p ∧ p.1 < texts.length ∧ p.2 + 3 ≤ (texts.getD p.1 []).length ∧ quotN texts l = agr ((l.map keyL).take (runQ l)) ((texts.getD p.1 []).drop p.2) ∧ 0 < quotN texts l := by
  obtain ⟨h1, h2⟩ := triAll_find a b c q texts [] 0 rfl texts rfl
  unfold quotN
  rw [if_neg (by omega), hk, h1]
  cases hl : (triAll 0 texts).lookup (a, b, c) with
  | none => exact .inl ⟨rfl, rfl⟩
  | some p =>
    right
    obtain ⟨h3, h4⟩ := h2 p hl
    refine ⟨p, rfl, h3, h4, ?_, ?_⟩
    · simp only [Option.map_some]
      rw [agr_take]
    · simp only [Option.map_some]
      have hf : 3 ≤ agr (a :: b :: c :: q) ((texts.getD p.1 []).drop p.2) := firstP_ge (by rw [h1, hl]; rfl)
      omega
def ends (L : List KK) (j : Nat) : Nat := if j < L.length then j + runQ (L.drop j) else 0
theorem ends_no {L : List KK} {k : Nat} (h : k < L.length) (hq : qtd L[k] = false) : ends L k = k := by
  unfold ends; rw [if_pos h, runQ_drop h, hq]; simp
theorem ends_yes {L : List KK} {k : Nat} (h : k < L.length) (hq : qtd L[k] = true) : ends L k = max (k + 1) (ends L (k + 1)) := by
  unfold ends
  rw [if_pos h, runQ_drop h, hq]
  simp only [if_true]
  split
  · omega
  · rw [List.drop_eq_nil_of_le (by omega)]
    simp [runQ]
theorem drop3 {A : Type} {l : List A} {i : Nat} (h : i + 3 ≤ l.length) : l.drop i = l[i] :: l[i + 1] :: l[i + 2] :: l.drop (i + 3) := by
  rw [List.drop_eq_getElem_cons (by omega), List.drop_eq_getElem_cons (by omega), List.drop_eq_getElem_cons (by omega)]
theorem ss_sub {w : World} {b o n c : Nat} {ts : List ByteArray} (h : Ss w (.slice (some ⟨b, o, none⟩) n c) ts) {l u : Nat} (hlu : l < u) (hu : u ≤ n) : Ss w (.slice (some ⟨b, o + l, none⟩) (u - l) (c - l)) ((ts.take u).drop l) := by
  obtain ⟨h0, a, cap, h1, h2, h3, h4, h5⟩ := h
  have hlen : ts.length = n := by
    have := h0; simp at this; 
    injection h1 with _ h1 _
    omega
  simp only [Value.slice.injEq] at h1
  obtain ⟨rfl, h1b, rfl⟩ := h1
  refine ⟨by simp, some ⟨b, o + l, none⟩, c - l, by congr 1; simp; omega, by simp; omega, by unfold maxLen at *; omega, fun hh => (by cases hh), .inr ?_⟩
  rcases h5 with h5 | ⟨b', off, he, h6, h7⟩
  · omega
  · simp only [Option.some.injEq, Addr.mk.injEq] at he
    obtain ⟨rfl, rfl, _⟩ := he
    refine ⟨b, o + l, rfl, h6, fun j x hx => ?_⟩
    rw [List.getElem?_map, List.getElem?_drop, List.getElem?_take] at hx
    split at hx
    · have := h7 (l + j) x (by rw [List.getElem?_map]; exact hx)
      rw [← Nat.add_assoc] at this
      exact this
    · cases hx
theorem key_sizes {ks ls : List ByteArray} {L : List KK} {n : Nat} (h : bysL ks = L.map keyL) (hL : bysL ls = L) (hz : ∀ x ∈ ls, x.size ≤ n) (hn : n ≤ maxLen := by unfold maxLen; omega) : ∀ x ∈ ks, x.size ≤ maxLen := by
  intro x hx
  have h1 : x.data.toList ∈ L.map keyL := by rw [← h]; exact List.mem_map_of_mem hx
  obtain ⟨y, hy, he⟩ := List.mem_map.1 h1
  rw [← hL] at hy
  obtain ⟨y', hy', rfl⟩ := List.mem_map.1 hy
  have h2 := keyL_le y'.data.toList
  rw [he, str_size, str_size] at h2
  have := hz y' hy'
  omega
theorem keys_bound {ts : List ByteArray} {t : ByteArray} (h : keysL t.data.toList = bysL ts) (hz : t.size ≤ 1000000) : ts.length ≤ 4294967281 ∧ ∀ x ∈ ts, x.size ≤ maxLen := by
  constructor
  · have h1 := wlines_count t.data.toList
    have h2 := congrArg List.length h
    rw [bysL_len] at h2
    unfold keysL at h2
    rw [List.length_map] at h2
    rw [str_size] at h1
    omega
  · intro x hx
    have h1 : x.data.toList ∈ keysL t.data.toList := by rw [h]; exact List.mem_map_of_mem hx
    obtain ⟨y, hy, he⟩ := List.mem_map.1 h1
    have h2 := keyL_le y
    have h3 := wlines_le _ y hy
    rw [he, str_size] at h2
    rw [str_size] at h3
    unfold maxLen; omega
theorem tx_good {tss : List (List ByteArray)} {TX : List (List KK)} (hTX : byss tss = TX) (hsz : Hid (∀ ts ∈ tss, ts.length ≤ 4294967281 ∧ ∀ x ∈ ts, x.size ≤ maxLen)) : ∀ q ∈ triAll 0 TX, ∃ l, keyOf Tryd.prog 82 (kvL q.1) = some l := by
  intro q hq
  rw [← hTX] at hq
  obtain ⟨l, h3, h4, h5, h6⟩ := triAll_mem hq
  obtain ⟨ts', h7, rfl⟩ := List.mem_map.1 h3
  have hb : ∀ y ∈ bysL ts', y.length ≤ maxLen := by
    intro y hy
    obtain ⟨x, hx, rfl⟩ := List.mem_map.1 hy
    rw [str_size]; exact (hsz.out ts' h7).2 x hx
  exact kvL_good (hb _ h4) (hb _ h5) (hb _ h6)
theorem lgo_size : ∀ (l cur : List UInt8), (unl (lgo cur l)).length ≤ cur.length + 2 * l.length + 1
  | [], cur => by
    rw [lgo]; split
    · simp [unl]
    · rw [unl_cons]; simp [unl]
  | d :: r, cur => by
    rw [lgo]
    simp only [List.length_cons]
    split
    · rw [unl_cons]
      have h1 := lgo_size r []
      have h2 := chomp_le cur
      simp at h1; omega
    · have h1 := lgo_size r (cur ++ [d])
      simp at h1; omega
theorem lines_size (s : ByteArray) : (unl (wlines s.data.toList)).length ≤ 2 * s.size + 1 := by
  have := lgo_size s.data.toList []
  rw [str_size] at this
  simpa [wlines] using this
set_option maxRecDepth 100000 in
set_option maxHeartbeats 16000000 in
theorem QTrim_any (s : ByteArray) (v : Value) (es : List ByteArray) (w : World) (hv : Ss w v es) (hs : s.size ≤ 1000000) (hn : es.length ≤ 1000000) (hsz : Hid (∀ x ∈ es, x.size ≤ 1000000)) (hP : Pow w) :
    Calls Tryd.prog 43 #[.string s, v] w (SPost (trimL s.data.toList (bysL es)) w) := by
  obtain ⟨i0, hif, hz0, hz1, hz2⟩ := info_parts infoStr
  obtain ⟨i1, hif1, hy0, hy1, hy2⟩ := info_parts infoRows
  obtain ⟨i2, hif2, hx0, hx1, hx2⟩ := info_parts infoInt
  obtain ⟨ae, ce, rfl, hce, hde⟩ := hv.val
  replace hP := Lib.hid hP
  go_enter Tryd.func43, Tryd.ntmps43
  go_wp2_with fail
  go_loopw [5, 22] (fun v ii wr => ∃ (k : Nat) (tss : List (List ByteArray)), ii = .int .i64 k ∧ k ≤ es.length ∧ OutTx w.heap.size wr v tss ∧ tss.length = k ∧ Hid (byss tss = ((bysL es).take k).map keysL) ∧ Below w.heap.size w wr) (fun _ ii _ => es.length - (intOf ii).toNat)
  case atStart => exact ⟨0, [], rfl, by omega, OutTx.nil _ _, rfl, rfl, Below.refl _ _⟩
  case round =>
    obtain ⟨k, tss, rfl, hk, hO, htl, hE, hB⟩ := hrel
    have hzB := hB.size
    by_cases hlt : k < es.length
    · have q1 : decide ((k : Int) < (es.length : Int)) = true := decide_eq_true (by omega)
      have q2 : decide (k < es.length) = true := decide_eq_true hlt
      obtain ⟨bb, oo, dd, hee, _, _, hbb, hcell⟩ := Ss.at hv (by omega)
      cases hee
      have x0 := hcell k _ (List.getElem?_eq_getElem hlt)
      have hx4 := hsz.out es[k] (List.getElem_mem hlt)
      have hbt := bysL_take hlt
      obtain ⟨x, hx⟩ : ∃ x, es[k] = x := ⟨_, rfl⟩
      rw [hx] at x0 hx4 hbt
      have xc : wr.cell? ⟨bb, oo + k, none⟩ = some (.string x) := (hB.cell (p := ⟨bb, oo + k, none⟩) hbb).trans x0
      replace hbt := Lib.hid hbt
      clear hcell hx hv
      go_wp2_with fail
      refine (keys_any x _ (by omega)).mono ?_
      rintro e W2 ⟨⟨u, ks, rfl, hu, hks⟩, b2⟩
      have hO2 := hO.bel b2
      have hB2 := hB.trans (b2.mono hzB)
      have hz2' := hB2.size
      obtain ⟨vs, ho1, ho2⟩ := hO2
      have hu2 := own_mono hu hzB
      obtain ⟨ua, uc, rfl⟩ := slice_of_own hu2
      have hE2 : Hid (byss (tss ++ [ks]) = ((bysL es).take (k + 1)).map keysL) := by
        show _ = _
        have h5 := hbt.out
        rw [show bysL (es.take (k + 1)) = (bysL es).take (k + 1) by simp [bysL, List.map_take], show bysL (es.take k) = (bysL es).take k by simp [bysL, List.map_take]] at h5
        rw [h5, List.map_append, ← hE.out, show byss (tss ++ [ks]) = byss tss ++ [bysL ks] by simp [byss], hks]; rfl
      clear hO hB b2 hE hu hks
      replace ho2 := Lib.hid ho2
      go_wp2_with (at_builtin; refine wpList_append_own _ rfl _ _ 73 rfl w.heap.size 32 i1 (.slice none 0 0) 1 24 Tryd.underlying73 hif1 hy0 hy1 hy2 rfl (by decide) _ _ _ rfl (ho1.alloc _) ⟨W2.heap.size, 0, none⟩ 1 1 [.slice ua ks.length uc] rfl rfl (cell_one_new _ _ _) (one_own hu2) (by unfold maxLen; omega) (by omega) (by simp; omega) ?_; intro v' w1 hown' hgrow _)
      have hB3 : Below w.heap.size w w1 := (hB2.alloc (by omega) _).trans (below_grown (ho1.alloc _) (by simp; omega) hgrow)
      have hO3 : OutTx w.heap.size w1 v' (tss ++ [ks]) := OutTx.snoc (ho1.alloc _) (fun i h => by obtain ⟨u, h1, h2⟩ := ho2.out i h; exact ⟨u, h1, h2.alloc _⟩) (hu2.alloc _) hown' hgrow
      go_roundw
      case rel => exact ⟨k + 1, tss ++ [ks], by go_num, hlt, hO3, by simp; omega, hE2, hB3⟩
      case measure => simp only [intOf]; go_num
    · obtain rfl : k = es.length := by omega
      have q1 : decide ((es.length : Int) < (es.length : Int)) = false := by simp
      have q2 : decide (es.length < es.length) = false := by simp
      obtain ⟨W1, rfl⟩ : ∃ W1 : World, W1 = wr := ⟨_, rfl⟩
      have htn : tss.length ≤ 1000000 := by omega
      replace htl := Lib.hid htl
      have hTx := hO.tx
      have htx1 : Hid (∀ ts ∈ tss, ts.length ≤ 4294967281 ∧ ∀ x ∈ ts, x.size ≤ maxLen) := by
        show ∀ ts ∈ tss, _
        intro ts hts
        have h1 : bysL ts ∈ ((bysL es).take es.length).map keysL := by rw [← hE.out]; exact List.mem_map_of_mem hts
        obtain ⟨t, ht, he⟩ := List.mem_map.1 h1
        obtain ⟨t', ht', rfl⟩ := List.mem_map.1 (List.mem_of_mem_take ht)
        have h2 := hsz.out t' ht'
        exact keys_bound he h2
      go_wp2_with fail
      refine (index_any _ tss _ hTx (by omega) htx1).mono ?_
      rintro e W2 ⟨rfl, hM, b2⟩
      have hO2 := hO.bel b2
      have hB2 := bnext hB b2
      clear hO hB b2 hTx
      go_wp2_with fail
      refine (Lines_any s _ (by omega)).mono ?_
      rintro e W3 ⟨⟨lv, ls, rfl, hlv, hls⟩, b3⟩
      replace hls : bysL ls = wlines s.data.toList := hls
      have hO3 := hO2.bel b3
      have hM3 := hM.below b3
      have hB3 := bnext hB2 b3
      clear hO2 hM b3 hB2
      go_wp2_with fail
      refine (keys_any s _ (by omega)).mono ?_
      rintro e W4 ⟨⟨kv, ks, rfl, hkv, hks⟩, b4⟩
      have hO4 := (hO3.bel b4).tx
      have hM4 := hM3.below b4
      have hB4 := bnext hB3 b4
      have hlv4 := Sl.below hlv b4
      have hkv4 := Sl.of_own hkv
      clear hO3 hM3 b4 hB3 hlv hkv
      obtain ⟨la, lc, rfl, hlc, hld⟩ := hlv4.val
      obtain ⟨ka, kc, rfl, hkc, hkd⟩ := hkv4.val
      obtain ⟨hln, hlz⟩ := lines_sizes hls
      have hzW4 := hB4.size
      have hlb := hM4.lt
      go_wp2_with (at_make; refine wpList_make_full _ rfl _ _ 76 rfl W4.heap.size 3 i2 (.int .i64 0) 1 Tryd.underlying76 hif2 hx0 hx1 .i64 .i64 _ _ (ls.length + 1) rfl rfl (by omega) (by omega) (by rw [hx2]; omega) (by unfold maxLen; omega) (Nat.le_refl _) ?_; intro W5 hown5 hgr5)
      have hN5 := Nums.of_own hown5
      have hz5 : W4.heap.size < W5.heap.size := (hown5.lt _ rfl).2
      have hb5 : Below W4.heap.size W4 W5 := (Below.refl _ _).grown hgr5 (Nat.le_refl _) (fun _ h => by cases h)
      clear hown5 hgr5
      obtain ⟨L, hL⟩ : ∃ L, bysL ls = L := ⟨_, rfl⟩
      have hLl : L.length = ls.length := by rw [← hL, bysL_len]
      replace hL := Lib.hid hL
      replace hLl := Lib.hid hLl
      replace hls := Lib.hid hls
      replace hks := Lib.hid hks
      replace hlz := Lib.hid hlz
      go_loopw [12] (fun ii wr => ∃ (k : Nat) (iv : Int), ii = .int .i64 iv ∧ iv = (k : Int) - 1 ∧ k ≤ ls.length ∧ Below W4.heap.size W4 wr ∧ W4.heap.size < wr.heap.size ∧ Nums wr W4.heap.size (ls.length + 1) (fun j => if k ≤ j then ends L j else 0)) (fun ii _ => (intOf ii + 1).toNat)
      case atStart => exact ⟨ls.length, _, rfl, rfl, Nat.le_refl _, hb5, hz5, hN5.congr fun j hj => by
        unfold ends
        rw [hLl.out]
        split
        · rw [if_neg (by omega)]
        · rfl⟩
      case round =>
        obtain ⟨k, iv, rfl, hiv, hk, hb, hzr, hN⟩ := hrel
        have hzb := hb.size
        cases k with
        | succ k =>
          obtain rfl : iv = (k : Int) := by omega
          clear hiv
          have hkl : k < L.length := by rw [hLl.out]; omega
          have q1 : decide ((0 : Int) ≤ (k : Int)) = true := decide_eq_true (by omega)
          obtain ⟨n1, n2⟩ := hN k (by omega)
          obtain ⟨m1, m2⟩ := hN (k + 1) (by omega)
          simp only [Nat.le_refl, if_true] at m1
          obtain ⟨bb, oo, dd, hee, _, _, hbb, hcell⟩ := Ss.at hlv4 (by omega)
          cases hee
          have x0 := hcell k _ (List.getElem?_eq_getElem (by omega))
          have hxs := hlz.out ls[k] (List.getElem_mem _)
          have hLk : L[k] = (ls[k]'(by omega)).data.toList := by simp [← hL.out, bysL]
          obtain ⟨x, hx⟩ : ∃ x, ls[k]'(by omega) = x := ⟨_, rfl⟩
          rw [hx] at x0 hxs hLk
          have xc : wr.cell? ⟨bb, oo + k, none⟩ = some (.string x) := (hb.cell (p := ⟨bb, oo + k, none⟩) hbb).trans x0
          have hne : bb ≠ W4.heap.size := by omega
          have hnl := lev_n_le x.data.toList
          rw [str_size] at hnl
          obtain ⟨n, hn'⟩ : ∃ n, (lev x.data.toList).1 = n := ⟨_, rfl⟩
          rw [hn'] at hnl
          have hq : qtd L[k] = decide (0 < n) := by rw [hLk]; unfold qtd; rw [hn']
          obtain ⟨E1, hE1⟩ : ∃ E1, ends L (k + 1) = E1 := ⟨_, rfl⟩
          have hE1b : E1 ≤ 1000000 := by
            rw [← hE1]; unfold ends; split
            · have := runQ_drop_le L (k + 1) (by omega); have := hLl.out; omega
            · omega
          rw [hE1] at m1
          have hN1 := hN.set k (by omega) k
          clear hcell hx x0
          replace hn' := Lib.hid hn'
          replace hLk := Lib.hid hLk
          by_cases h0 : 0 < n
          · have k1 : decide ((0 : Int) < (n : Int)) = true := decide_eq_true (by omega)
            have k2 : decide (0 < n) = true := decide_eq_true h0
            rw [k2] at hq
            have hEk := ends_yes hkl hq
            rw [hE1] at hEk
            replace hq := Lib.hid hq
            replace hE1 := Lib.hid hE1
            obtain ⟨M, hMn⟩ : ∃ M : Nat, max (k + 1) E1 = M := ⟨_, rfl⟩
            have hM' : max ((k : Int) + 1) (E1 : Int) = (M : Int) := by
              rcases Nat.le_total (k + 1) E1 with h | h
              · rw [Nat.max_eq_right h] at hMn; rw [← hMn, Int.max_eq_right (by omega)]
              · rw [Nat.max_eq_left h] at hMn; rw [← hMn, Int.max_eq_left (by omega)]; rfl
            have hEM : Hid (ends L k = M) := by show _ = _; rw [hEk, hMn]
            have hMb : M ≤ 2000000 := by omega
            replace hMn := Lib.hid hMn
            clear hEk
            have hN2 := hN1.set k (by omega) M
            replace hN1 := Lib.hid hN1
            replace hN := Lib.hid hN
            replace hN2 := Lib.hid hN2
            go_wp2_with (go_at_call 68; refine (Level_any x _ (by unfold maxLen; omega)).mono ?_; rintro e w' ⟨⟨t', he, ht'⟩, rfl⟩; rw [hn'.out] at he; subst he; clear ht')
            go_roundw
            case rel =>
              refine ⟨k, (k : Int) - 1, rfl, rfl, by omega, bset (bset hb (Nat.le_refl _)) (Nat.le_refl _), by simpa using hzr, ?_⟩
              refine Nums.congr (hN2.out) fun j hj => ?_
              by_cases e : j = k
              · subst e; simp [hEM.out]
              · by_cases e2 : k ≤ j
                · rw [if_neg e, if_neg e, if_pos (by omega), if_pos e2]
                · rw [if_neg e, if_neg e, if_neg (by omega), if_neg e2]
            case measure => simp only [intOf]; omega
          · have k1 : decide ((0 : Int) < (n : Int)) = false := decide_eq_false (by omega)
            have k2 : decide (0 < n) = false := decide_eq_false h0
            rw [k2] at hq
            have hEk := ends_no hkl hq
            replace hq := Lib.hid hq
            replace hE1 := Lib.hid hE1
            replace hEk := Lib.hid hEk
            replace hN1 := Lib.hid hN1
            replace hN := Lib.hid hN
            go_wp2_with (go_at_call 68; refine (Level_any x _ (by unfold maxLen; omega)).mono ?_; rintro e w' ⟨⟨t', he, ht'⟩, rfl⟩; rw [hn'.out] at he; subst he; clear ht')
            go_roundw
            case rel =>
              refine ⟨k, (k : Int) - 1, rfl, rfl, by omega, bset hb (Nat.le_refl _), by simpa using hzr, ?_⟩
              refine Nums.congr (hN1.out) fun j hj => ?_
              by_cases e : j = k
              · subst e; simp [hEk.out]
              · by_cases e2 : k ≤ j
                · rw [if_neg e, if_pos (by omega), if_pos e2]
                · rw [if_neg e, if_neg (by omega), if_neg e2]
            case measure => simp only [intOf]; omega
        | zero =>
          obtain rfl : iv = -1 := by omega
          clear hiv
          obtain ⟨W6, rfl⟩ : ∃ W6 : World, W6 = wr := ⟨_, rfl⟩
          have hN6 : Nums W6 W4.heap.size (ls.length + 1) (ends L) := hN.congr fun j hj => by rw [if_pos (Nat.zero_le _)]
          have hKs : Hid (bysL ks = L.map keyL) := by show _ = _; rw [hks.out, ← hL.out, hls.out]; rfl
          obtain ⟨TX, hTX⟩ : ∃ TX, byss tss = TX := ⟨_, rfl⟩
          have hTXe : Hid (trimL s.data.toList (bysL es) = unl (trimS TX 0 L)) := by
            show _ = _
            have h5 := hE.out
            rw [List.take_of_length_le (by rw [bysL_len]; exact Nat.le_refl _)] at h5
            unfold trimL
            rw [← hls.out, hL.out, ← h5, hTX]
          rw [hTX] at hM4
          replace hTX := Lib.hid hTX
          clear hN hE hks
          go_wp2_with fail
          go_loopw [15, 16] (fun v ii wr => ∃ (i : Nat) (outs : List ByteArray), ii = .int .i64 i ∧ i ≤ ls.length ∧ wr.ownsRow W6.heap.size 9 1 v outs.length (outs.map .string) ∧ outs.length ≤ i ∧ Hid (trimS TX 0 L = bysL outs ++ trimS TX 0 (L.drop i)) ∧ Below W6.heap.size W6 wr) (fun _ ii _ => ls.length - (intOf ii).toNat)
          case atStart => exact ⟨0, [], rfl, by omega, World.ownsRow_nil _ _ _ _, by simp, rfl, Below.refl _ _⟩
          case round =>
            obtain ⟨i, outs, rfl, hi, hr, hol, hT, hBr⟩ := hrel
            have hzB := hBr.size
            have hbr : Below W4.heap.size W4 wr := hb.trans (hBr.mono hzb)
            by_cases hlt : i < ls.length
            · have q1 : decide ((i : Int) < (ls.length : Int)) = true := decide_eq_true (by omega)
              have q2 : decide (i < ls.length) = true := decide_eq_true hlt
              obtain ⟨W7, rfl⟩ : ∃ W7 : World, W7 = wr := ⟨_, rfl⟩
              have hN7 := hN6.bel hBr
              obtain ⟨n1, n2⟩ := hN7 i (by omega)
              obtain ⟨E, hEe⟩ : ∃ E, ends L i = E := ⟨_, rfl⟩
              rw [hEe] at n1
              obtain ⟨Q, hQ⟩ : ∃ Q, quotN TX (L.drop i) = Q := ⟨_, rfl⟩
              replace hr := Lib.hid hr
              replace hT := Lib.hid hT
              have hER : E = i + runQ (L.drop i) := by rw [← hEe]; unfold ends; rw [if_pos (by rw [hLl.out]; exact hlt)]
              have hEb := runQ_drop_le L i (by rw [hLl.out]; omega)
              rw [← hER, hLl.out] at hEb
              have hiE : i ≤ E := by omega
              replace hER := Lib.hid hER
              replace hEe := Lib.hid hEe
              replace hQ := Lib.hid hQ
              go_upto_if 84 with fail
              go_cut [17] (fun nn wx => nn = .int .i64 (Q : Nat) ∧ Below W7.heap.size W7 wx)
              case first =>
                by_cases hr3 : 3 ≤ runQ (L.drop i)
                · have hER2 := hER.out
                  have k1 : (3 : Int) ≤ (E : Int) - (i : Int) := by omega
                  have hE3 : i + 3 ≤ E := by omega
                  have hkl : ks.length = ls.length := by
                    have h5 := congrArg List.length hKs.out
                    rw [bysL_len, List.length_map, hLl.out] at h5
                    exact h5
                  have hi3 : i + 3 ≤ ks.length := by omega
                  have hEk : E ≤ ks.length := by omega
                  have gx : ks[i]? = some ks[i] := List.getElem?_eq_getElem (by omega)
                  have gy : ks[i + 1]? = some ks[i + 1] := List.getElem?_eq_getElem (by omega)
                  have gz : ks[i + 2]? = some ks[i + 2] := List.getElem?_eq_getElem (by omega)
                  have hd3 := drop3 hi3
                  have hksz := key_sizes hKs.out hL.out hlz.out
                  have sx := hksz ks[i] (List.getElem_mem _)
                  have sy := hksz ks[i + 1] (List.getElem_mem _)
                  have sz := hksz ks[i + 2] (List.getElem_mem _)
                  obtain ⟨x, ex⟩ : ∃ x, ks[i] = x := ⟨_, rfl⟩
                  obtain ⟨y, ey⟩ : ∃ y, ks[i + 1] = y := ⟨_, rfl⟩
                  obtain ⟨z, ez⟩ : ∃ z, ks[i + 2] = z := ⟨_, rfl⟩
                  rw [ex] at gx sx hd3
                  rw [ey] at gy sy hd3
                  rw [ez] at gz sz hd3
                  clear ex ey ez hksz
                  have hdk : (L.drop i).map keyL = x.data.toList :: y.data.toList :: z.data.toList :: bysL (ks.drop (i + 3)) := by
                    rw [List.map_drop, ← hKs.out, show (bysL ks).drop i = bysL (ks.drop i) by simp [bysL, List.map_drop], hd3]; rfl
                  have hcs := quotN_cases TX (L.drop i) _ _ _ _ hdk hr3
                  rw [hQ.out] at hcs
                  have hM7 := hM4.below hbr
                  have hk7 : Ss W7 (.slice ka ks.length kc) ks := Sl.below hkv4 hbr
                  have hlook := hM7.look law3 Tryd.underlying74 (zero_place _) kvL_inj (tx_good hTX.out htx1) (x.data.toList, y.data.toList, z.data.toList) (trip_key (x, y, z) sx sy sz)
                  rw [← kvL_of x y z] at hlook
                  replace gx := Lib.hid gx
                  replace gy := Lib.hid gy
                  replace gz := Lib.hid gz
                  have harr := arrayAt3
                  clear hER2 hd3 sx sy sz
                  replace hdk := Lib.hid hdk
                  replace hkl := Lib.hid hkl
                  rcases hcs with ⟨hl, hQ0⟩ | ⟨p, hl, hp1, hp2, hQp, hQ1⟩
                  · rw [hl] at hlook
                    replace hl := Lib.hid hl
                    replace hQ0 := Lib.hid hQ0
                    go_wp2_with ((with_reducible show wpList _ _ _ (⟨some 91, _, _, _, _, _⟩ :: _) _ _); refine wpList_cut_lh (o := ⟨some 91, _, _, _, _, _⟩) (s := 1) (n := ks.length) (xs := ks.map .string) rfl 32 (.tmp 87) (.tmp 88) (.tmp 90) rfl (e := 9) Tryd.underlying32 (by kernel_rfl) rfl hk7 (k := .i64) (k' := .i64) (l := i) (u := i + 3) rfl (by go_num) (by omega) (by omega) ?_; intro v' hS'; obtain ⟨b3, o3, c3, x', y', z', rfl, hc3, hm3, hb3, gx', gy', gz', cx, cy, cz⟩ := three_cells (by omega) hS'; obtain rfl := Option.some.inj (gx.out.symm.trans gx'); obtain rfl := Option.some.inj (gy.out.symm.trans gy'); obtain rfl := Option.some.inj (gz.out.symm.trans gz'); clear hS' gx' gy' gz')
                    go_meet
                    case rel => exact ⟨by rw [hQ0.out]; rfl, balloc (Below.refl _ _)⟩
                  · rw [hl] at hlook
                    simp only [plc] at hlook
                    replace hl := Lib.hid hl
                    replace hQp := Lib.hid hQp
                    replace hQ1 := Lib.hid hQ1
                    go_wp2_with ((with_reducible show wpList _ _ _ (⟨some 91, _, _, _, _, _⟩ :: _) _ _); refine wpList_cut_lh (o := ⟨some 91, _, _, _, _, _⟩) (s := 1) (n := ks.length) (xs := ks.map .string) rfl 32 (.tmp 87) (.tmp 88) (.tmp 90) rfl (e := 9) Tryd.underlying32 (by kernel_rfl) rfl hk7 (k := .i64) (k' := .i64) (l := i) (u := i + 3) rfl (by go_num) (by omega) (by omega) ?_; intro v' hS'; obtain ⟨b3, o3, c3, x', y', z', rfl, hc3, hm3, hb3, gx', gy', gz', cx, cy, cz⟩ := three_cells (by omega) hS'; obtain rfl := Option.some.inj (gx.out.symm.trans gx'); obtain rfl := Option.some.inj (gy.out.symm.trans gy'); obtain rfl := Option.some.inj (gz.out.symm.trans gz'); clear hS' gx' gy' gz')
                    refine wp_named fun W8 hW8 => ?_
                    have hB8 : Below W7.heap.size W7 W8 := by rw [← hW8]; exact (Below.refl _ _).alloc (Nat.le_refl _) _
                    have hh8 : W8.heap[W7.heap.size]? = some (.cells #[.int .i64 p.1, .int .i64 p.2] 80) := by rw [← hW8]; exact World.alloc_heap_new _ _
                    have pc0 : W8.cell? ⟨W7.heap.size, 0, none⟩ = some (.int .i64 p.1) := by rw [Lib.cell_of_heap hh8]; rfl
                    have pc1 : W8.cell? ⟨W7.heap.size, 1, none⟩ = some (.int .i64 p.2) := by rw [Lib.cell_of_heap hh8]; rfl
                    have z8 : W7.heap.size < W8.heap.size := (Array.getElem?_eq_some_iff.1 hh8).1
                    have n8 := bget hB8 (World.block_lt_of_cell? _ _ n1) n1
                    have hbr8 : Below W4.heap.size W4 W8 := hbr.trans (hB8.mono hbr.size)
                    have hTx8 := hO4.below hbr8
                    have hk8 := Sl.below hk7 hB8
                    have hTl : TX.length = tss.length := by rw [← hTX.out]; simp [byss]
                    have hp1' : p.1 < tss.length := by omega
                    obtain ⟨bt, ot, ct, u, hee, hbt, tc, hu⟩ := hTx8.at p.1 hp1'
                    obtain ⟨ts, hts⟩ : ∃ ts, tss[p.1] = ts := ⟨_, rfl⟩
                    have htz := (htx1.out ts (by rw [← hts]; exact List.getElem_mem _)).1
                    rw [hts] at hu
                    have hgd : TX.getD p.1 [] = bysL ts := by
                      rw [← hTX.out, List.getD_eq_getElem?_getD, show (byss tss)[p.1]? = some (bysL ts) by simp [byss, ← hts, hp1']]; rfl
                    rw [hgd, bysL_len] at hp2
                    have hQp2 := hQp.out
                    rw [hgd] at hQp2
                    obtain ⟨bu, ou, cu, hue, hcu1, hcu2, hbu, _⟩ := Sl.at hu (by omega)
                    obtain ⟨bk, ok, ck, hke, hck1, hck2, hbk, _⟩ := Sl.at hk8 (by omega)
                    subst hue
                    injection hke with hke1 hke2 hke3
                    subst hke1 hke3
                    have hAs := ss_sub hk8 (l := i) (u := E) (by omega) hEk
                    have hBs := ss_sub hu (l := p.2) (u := ts.length) (by omega) (Nat.le_refl _)
                    rw [List.take_length] at hBs
                    have hres : Hid (agr (bysL ((ks.take E).drop i)) (bysL (ts.drop p.2)) = Q) := by
                      show _ = _
                      rw [hQp2, List.map_drop, ← hKs.out, List.drop_take]
                      have e1 : E - i = runQ (L.drop i) := by have := hER.out; omega
                      rw [e1]
                      simp [bysL, List.map_drop, List.map_take]
                    have C : ∀ s : BelOf W8, Calls Tryd.prog 69 #[.slice (some ⟨bk, ok + i, none⟩) (E - i) (kc - i), .slice (some ⟨bu, ou + p.2, none⟩) (ts.length - p.2) (cu - p.2)] s.1 fun e w' => e = .returned (.int .i64 (Q : Nat)) ∧ Below s.1.heap.size s.1 w' := fun s =>
                      (agree_any _ _ _ _ s.1 (Sl.below hAs s.2) (Sl.below hBs s.2) (by simp; omega) (by simp; omega)).mono fun e w' h => ⟨by rw [h.1, hres.out], h.2⟩
                    have s1 := sget z8 pc0
                    have s2 := sget z8 pc1
                    have s3 := sget (World.block_lt_of_cell? _ _ n8) n8
                    have s4 := sget hbt tc
                    have j1 : (0 : Int) ≤ (i : Int) := by omega
                    have j2 : (i : Int) ≤ (E : Int) := by omega
                    have j3 : (E : Int) ≤ (ks.length : Int) := by omega
                    have j4 : (0 : Int) ≤ (p.1 : Int) := by omega
                    have j5 : (p.1 : Int) < (tss.length : Int) := by omega
                    have j6 : (0 : Int) ≤ (p.2 : Int) := by omega
                    have j7 : (p.2 : Int) ≤ (ts.length : Int) := by omega
                    have j8 : ¬ kc = i := by omega
                    have j9 : ¬ cu = p.2 := by omega
                    have j10 : p.2 ≤ ts.length := by omega
                    subst hee
                    replace hQp2 := Lib.hid hQp2
                    replace hgd := Lib.hid hgd
                    replace hts := Lib.hid hts
                    replace hh8 := Lib.hid hh8
                    replace hTl := Lib.hid hTl
                    replace C := Lib.hid C
                    clear hW8 hAs hBs pc0 pc1 n8 tc hlook
                    refine wp_region_bel (by kernel_rfl) (by kernel_rfl) ?_
                    repeat (go_big_quiet_step (first | (go_at_call 69; exact Calls.bel_of (C.out _))))
                    refine wpQuiet_nil ?_
                    rintro _ ⟨s', rfl⟩
                    go_wp2_with fail
                    go_meet
                    case rel => exact ⟨rfl, hB8.trans (s'.2.mono hB8.size)⟩
                · have k1 : (E : Int) - (i : Int) < 3 := by have := hER.out; omega
                  have k2 : ¬ ((3 : Int) ≤ (E : Int) - (i : Int)) := by omega
                  have hQ0 : Hid (Q = 0) := by show _ = _; rw [← hQ.out]; unfold quotN; rw [if_pos (by omega)]
                  go_wp2_with fail
                  go_meet
                  case rel => exact ⟨by rw [hQ0.out]; rfl, Below.refl _ _⟩
              case rest =>
                obtain ⟨rfl, hbc⟩ := hcut
                obtain ⟨W9, rfl⟩ : ∃ W9 : World, W9 = wc := ⟨_, rfl⟩
                have hr9 := own_bel hr.out hbc
                have hB9 : Below W6.heap.size W6 W9 := hBr.trans (hbc.mono hzB)
                have hbr9 : Below W4.heap.size W4 W9 := hbr.trans (hbc.mono hbr.size)
                have hz9 := hB9.size
                have hlv9 := Sl.below hlv4 hbr9
                have hLne : L.drop i ≠ [] := by
                  intro h
                  have := congrArg List.length h
                  rw [List.length_drop, hLl.out] at this
                  simp at this; omega
                have hQle := quotN_le TX (L.drop i)
                rw [hQ.out, List.length_drop, hLl.out] at hQle
                have hstep := trimS_step TX (L.drop i) hLne
                rw [hQ.out] at hstep
                clear hr hBr hbr n1 n2 hN7 hLne
                rcases hstep with ⟨hq0, xx, rr, hxr, hst⟩ | ⟨hq0, hst⟩
                · subst hq0
                  obtain ⟨bb, oo, dd, hee, _, _, hbb, hcell⟩ := Ss.at hlv9 (by omega)
                  injection hee with hee1 hee2 hee3
                  subst hee1 hee3
                  have x0 := hcell i _ (List.getElem?_eq_getElem hlt)
                  obtain ⟨x, hx⟩ : ∃ x, ls[i] = x := ⟨_, rfl⟩
                  rw [hx] at x0
                  have hT2 : Hid (trimS TX 0 L = bysL (outs ++ [x]) ++ trimS TX 0 (L.drop (i + 1))) := by
                    show _ = _
                    have hLi : i < L.length := by rw [hLl.out]; exact hlt
                    rw [List.drop_eq_getElem_cons hLi] at hxr
                    injection hxr with e1 e2
                    rw [hT.out.out, hst, bysL_snoc, ← e1, ← e2, show L[i] = x.data.toList by simp [← hL.out, bysL, hx]]
                    simp
                  clear hst hxr hcell hx hQ hT
                  go_wp2_with (at_builtin; refine wpList_append_own _ rfl _ _ 32 rfl W6.heap.size 9 i0 (.string ByteArray.empty) 1 16 Tryd.underlying32 hif hz0 hz1 hz2 rfl (by decide) _ _ _ rfl (hr9.alloc _) ⟨W9.heap.size, 0, none⟩ 1 1 [.string x] rfl rfl (cell_one_new _ _ _) (by simp [Value.oneCell']) (by unfold maxLen; omega) (by omega) (by simp; omega) ?_; intro v' w1 hown' hgrow _)
                  have hB3 : Below W6.heap.size W6 w1 := (hB9.alloc (by omega) _).trans (below_grown (hr9.alloc _) (by simp; omega) hgrow)
                  go_roundw
                  case rel => exact ⟨i + 1, outs ++ [x], by go_num, by omega, by simpa using hown', by rw [List.length_append]; simp only [List.length_cons, List.length_nil]; omega, hT2, hB3⟩
                  case measure => simp only [intOf]; go_num
                · have k1 : ((Q : Int) == 0) = false := by simp; omega
                  have k2 : ¬ (Q : Int) = 0 := by omega
                  have hP9 := hP.out.below (bnext hB4 hbr9)
                  have hdl := markL_len (n := Q) (by omega)
                  unfold markL at hdl
                  simp only [List.length_append, List.length_cons, List.length_nil] at hdl
                  have hT2 : ∀ q : ByteArray, q.data.toList = markL Q → Hid (trimS TX 0 L = bysL (outs ++ [q]) ++ trimS TX 0 (L.drop (i + Q))) := by
                    intro q hq
                    show _ = _
                    rw [hT.out.out, hst, bysL_snoc, hq, List.drop_drop]
                    simp
                  replace hT2 := Lib.hid hT2
                  clear hst hQ hT
                  go_wp2_with (first
                    | (go_at_call 33; refine (Decimal_any (Q : Int) _ (by omega) (by omega) hP9).mono ?_; rintro e W10 ⟨⟨d, rfl, hd⟩, b10⟩; have hds : d.size ≤ 20 := (by rw [← str_size, hd]; omega); have hr10 := own_bel hr9 b10; have hB10 : Below W6.heap.size W6 W10 := hB9.trans (b10.mono hz9); have hz10 := hB10.size; clear b10 hB9; replace hd := Lib.hid hd)
                    | (at_builtin; refine wpList_append_own _ rfl _ _ 32 rfl W6.heap.size 9 i0 (.string ByteArray.empty) 1 16 Tryd.underlying32 hif hz0 hz1 hz2 rfl (by decide) _ _ _ rfl (hr10.alloc _) ⟨W10.heap.size, 0, none⟩ 1 1 [.string ((⟨#[91]⟩ : ByteArray) ++ d ++ (⟨#[32, 113, 117, 111, 116, 101, 100, 32, 108, 105, 110, 101, 115, 93]⟩ : ByteArray))] rfl rfl (cell_one_new _ _ _) (by simp [Value.oneCell']) (by unfold maxLen; omega) (by omega) (by simp; omega) ?_; intro v' w1 hown' hgrow _))
                  have hB3 : Below W6.heap.size W6 w1 := (hB10.alloc (by omega) _).trans (below_grown (hr10.alloc _) (by simp; omega) hgrow)
                  go_roundw
                  case rel => exact ⟨i + Q, outs ++ [_], by go_num, by omega, by simpa using hown', by rw [List.length_append]; simp only [List.length_cons, List.length_nil]; omega, hT2.out _ (by rw [app_list, app_list, hd.out]; rfl), hB3⟩
                  case measure => simp only [intOf]; omega
            · obtain rfl : i = ls.length := by omega
              have q1 : decide ((ls.length : Int) < (ls.length : Int)) = false := by simp
              have q2 : decide (ls.length < ls.length) = false := by simp
              have hT2 : Hid (trimS TX 0 L = bysL outs) := by
                show _ = _
                rw [hT.out, List.drop_eq_nil_of_le (by rw [hLl.out]; exact Nat.le_refl _), trimS]; simp
              have hS := Sl.of_own hr
              have hlen : (unl (bysL outs)).length ≤ 140737488355328 := by
                have h1 := trimS_bound TX L 0 (by rw [hLl.out]; omega)
                have h2 := lines_size s
                rw [← hls.out, hL.out] at h2
                rw [← hT2.out]
                rw [hLl.out] at h1
                omega
              replace hr := Lib.hid hr
              replace hlen := Lib.hid hlen
              clear hT
              go_wp2_with fail
              refine (Clip_any _ outs _ hS).mono ?_
              rintro e w' ⟨⟨cv, rfl, hcv⟩, rfl⟩
              go_wp2_with fail
              refine (Unlines_any cv outs _ hcv hlen.out).mono ?_
              rintro e W11 ⟨⟨q, rfl, hq⟩, b11⟩
              go_wp2_with fail
              go_ret
              exact ⟨⟨q, rfl, by rw [hq, hTXe.out, hT2.out]⟩, bnext (bnext hB4 (hb.trans (hBr.mono hzb))) b11⟩
end Go.Proofs.YtompmkcpicfdfaaDoor
