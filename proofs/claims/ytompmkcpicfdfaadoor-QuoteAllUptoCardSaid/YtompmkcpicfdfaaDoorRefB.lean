/- missiveref01: Lines, Join. -/
import Derived.Test.YtompmkcpicfdfaaDoorLinesLaw
import Derived.Test.YtompmkcpicfdfaaDoorUnlines
namespace Go.Proofs.YtompmkcpicfdfaaDoor
open Go.RowKit
set_option linter.unusedVariables false
/-- the bytes between two places -/
def cut (l : List UInt8) (a b : Nat) : List UInt8 := (l.take b).drop a
theorem cut_succ {s : ByteArray} {a i : Nat} (h : a ≤ i) (hi : i < s.size) : cut s.data.toList a (i + 1) = cut s.data.toList a i ++ [s[i]] := by
  unfold cut
  rw [str_take s i hi, List.drop_append_of_le_length (by rw [List.length_take, str_size]; omega)]
theorem cut_nil (l : List UInt8) (i : Nat) : cut l i i = [] := by
  unfold cut; exact List.drop_eq_nil_of_le (by rw [List.length_take]; omega)
theorem chomp_cr {s : ByteArray} {a i : Nat} (h : a ≤ i) (hi : i < s.size) (h13 : s[i] = 13) : chomp (cut s.data.toList a (i + 1)) = cut s.data.toList a i := by
  rw [cut_succ h hi, h13, chomp_snoc]
theorem chomp_no {s : ByteArray} {a i : Nat} (h : a ≤ i) (hi : i < s.size) (h13 : s[i] ≠ 13) : chomp (cut s.data.toList a (i + 1)) = cut s.data.toList a (i + 1) := by
  rw [cut_succ h hi]
  exact chomp_same (by simpa using h13)
theorem lgo_lf (cur r : List UInt8) : lgo cur (10 :: r) = chomp cur :: lgo [] r := by rw [lgo]; rfl
theorem lgo_byte {c : UInt8} (h : c ≠ 10) (cur r : List UInt8) : lgo cur (c :: r) = lgo (cur ++ [c]) r := by
  rw [lgo, if_neg (by simpa using h)]
set_option maxRecDepth 100000 in
set_option maxHeartbeats 4000000 in
theorem RefLines_any (s : ByteArray) (w : World) (hs : s.size < 4294967281) : Calls Tryd.prog 26 #[.string s] w (LPost (wlines s.data.toList) w) := by
  obtain ⟨i0, hif, hz0, hz1, hz2⟩ := info_parts infoStr
  obtain ⟨L, hL⟩ : ∃ L, wlines s.data.toList = L := ⟨_, rfl⟩
  rw [hL]
  replace hL := Lib.hid hL
  go_enter Tryd.func26, Tryd.ntmps26
  go_wp2_with fail
  go_loopw [3, 4, 5] (fun v ff ii wr => ∃ (f i : Nat) (pre : List ByteArray), ff = .int .i64 f ∧ ii = .int .i64 i ∧ f ≤ i ∧ i ≤ s.size ∧ wr.ownsRow w.heap.size 9 1 v pre.length (pre.map .string) ∧ pre.length ≤ i ∧ Hid (L = pre.map (·.data.toList) ++ lgo (cut s.data.toList f i) (s.data.toList.drop i)) ∧ Below w.heap.size w wr) (fun _ _ ii _ => s.size - (intOf ii).toNat)
  case atStart => exact ⟨0, 0, [], rfl, rfl, by omega, by omega, World.ownsRow_nil _ _ _ _, by simp, by show _ = _; rw [← hL.out]; rfl, Below.refl _ _⟩
  case round =>
    obtain ⟨f, i, pre, rfl, rfl, hfi, hi, hr, hpl, hE, hB⟩ := hrel
    have hzB := hB.size
    by_cases hlt : i < s.size
    · have q1 : decide ((i : Int) < (s.size : Int)) = true := decide_eq_true (by omega)
      have q2 : decide (i < s.size) = true := decide_eq_true hlt
      obtain ⟨c, hc⟩ : ∃ c, s[i] = c := ⟨_, rfl⟩
      have hxc := idx_at s i hlt c (by rw [str_getD s i hlt, hc])
      have hdr := str_drop s i hlt
      rw [hc] at hdr
      have hE2 := hE.out
      rw [hdr] at hE2
      by_cases h10 : c = 10
      · have k1 : ((c.toNat : Int) != 10) = false := by rw [bne, u8_beq 10 (d := 10) rfl, h10]; rfl
        rw [h10, lgo_lf] at hE2
        obtain ⟨u, hu, hway⟩ : ∃ u : Nat, chomp (cut s.data.toList f i) = cut s.data.toList f u ∧ ((f < i ∧ u + 1 = i ∧ f ≤ u ∧ ∀ W, (Instr.index 9 (.string s) (.int .i64 ((i : Int) - 1))).run Tryd.prog W = .ok (.int .u8 13) W) ∨ (u = i ∧ f < i ∧ ∃ d : UInt8, ((d.toNat : Int) == 13) = false ∧ ∀ W, (Instr.index 9 (.string s) (.int .i64 ((i : Int) - 1))).run Tryd.prog W = .ok (.int .u8 d.toNat) W) ∨ (u = i ∧ f = i)) := by
          by_cases hf : f = i
          · subst hf
            exact ⟨f, by rw [cut_nil]; rfl, .inr (.inr ⟨rfl, rfl⟩)⟩
          · obtain ⟨j, rfl⟩ : ∃ j, i = j + 1 := ⟨i - 1, by omega⟩
            have hj : j < s.size := by omega
            by_cases h13 : s[j] = 13
            · exact ⟨j, chomp_cr (by omega) hj h13, .inl ⟨by omega, rfl, by omega, fun W => idx_k .i64 s j hj 13 (by rw [str_getD s j hj, h13]) _ (by omega) W⟩⟩
            · exact ⟨j + 1, chomp_no (by omega) hj h13, .inr (.inl ⟨rfl, by omega, s[j], by rw [u8_beq 13 (d := 13) rfl]; simpa using h13, fun W => idx_k .i64 s j hj s[j] (str_getD s j hj) _ (by omega) W⟩)⟩
        have hui : u ≤ i := by rcases hway with h | h | h <;> omega
        have hfu : f ≤ u := by rcases hway with h | h | h <;> omega
        rw [hu] at hE2
        obtain ⟨x, hx⟩ : ∃ x, s.extract f u = x := ⟨_, rfl⟩
        have hxd : x.data.toList = cut s.data.toList f u := by rw [← hx, str_extract]; rfl
        have hE3 : Hid (L = (pre ++ [x]).map (·.data.toList) ++ lgo (cut s.data.toList (i + 1) (i + 1)) (s.data.toList.drop (i + 1))) := by
          show _ = _
          rw [hE2, cut_nil, List.map_append, List.append_assoc, ← hxd]; rfl
        have j1 : (0 : Int) ≤ (f : Int) := by omega
        have j2 : (f : Int) ≤ (u : Int) := by omega
        have j3 : (u : Int) ≤ (s.size : Int) := by omega
        clear hc hdr hE2 hE hu h10 hxd
        replace hx := Lib.hid hx
        have hx2 : s.extract f u = x := hx.out
        rcases hway with ⟨w1, w2, w3, w4⟩ | ⟨rfl, w1, d, w2, w3⟩ | ⟨rfl, rfl⟩
        · have k2 : decide ((f : Int) < (i : Int)) = true := decide_eq_true (by omega)
          have k3 : decide (f < i) = true := decide_eq_true w1
          have k4 : (i : Int) - 1 = (u : Int) := by omega
          simp only [k4] at w4
          go_wp2_with (at_builtin; refine wpList_append_own _ rfl _ _ 32 rfl w.heap.size 9 i0 (.string ByteArray.empty) 1 16 Tryd.underlying32 hif hz0 hz1 hz2 rfl (by decide) _ _ _ rfl (hr.alloc _) ⟨wr.heap.size, 0, none⟩ 1 1 [.string x] rfl rfl (cell_one_new _ _ _) (by simp [Value.oneCell']) (by unfold maxLen; omega) (by omega) (by simp; omega) ?_; intro v' w1 hown' hgrow _)
          have hB3 : Below w.heap.size w w1 := (hB.alloc (by omega) _).trans (below_grown (hr.alloc _) (by simp; omega) hgrow)
          go_roundw
          case rel => exact ⟨i + 1, i + 1, pre ++ [x], by go_num, by go_num, by omega, hlt, by simpa using hown', by rw [List.length_append]; simp only [List.length_cons, List.length_nil]; omega, hE3, hB3⟩
          case measure => simp only [intOf]; go_num
        · have k2 : decide ((f : Int) < (u : Int)) = true := decide_eq_true (by omega)
          have k3 : decide (f < u) = true := decide_eq_true w1
          go_wp2_with (at_builtin; refine wpList_append_own _ rfl _ _ 32 rfl w.heap.size 9 i0 (.string ByteArray.empty) 1 16 Tryd.underlying32 hif hz0 hz1 hz2 rfl (by decide) _ _ _ rfl (hr.alloc _) ⟨wr.heap.size, 0, none⟩ 1 1 [.string x] rfl rfl (cell_one_new _ _ _) (by simp [Value.oneCell']) (by unfold maxLen; omega) (by omega) (by simp; omega) ?_; intro v' w1 hown' hgrow _)
          have hB3 : Below w.heap.size w w1 := (hB.alloc (by omega) _).trans (below_grown (hr.alloc _) (by simp; omega) hgrow)
          go_roundw
          case rel => exact ⟨u + 1, u + 1, pre ++ [x], by go_num, by go_num, by omega, hlt, by simpa using hown', by rw [List.length_append]; simp only [List.length_cons, List.length_nil]; omega, hE3, hB3⟩
          case measure => simp only [intOf]; go_num
        · have k2 : decide ((f : Int) < (f : Int)) = false := by simp
          have k3 : decide (f < f) = false := by simp
          obtain rfl : x = ByteArray.empty := by rw [← hx2]; exact str_inj (by rw [str_extract]; show cut _ f f = _; rw [cut_nil]; rfl)
          go_wp2_with (at_builtin; refine wpList_append_own _ rfl _ _ 32 rfl w.heap.size 9 i0 (.string ByteArray.empty) 1 16 Tryd.underlying32 hif hz0 hz1 hz2 rfl (by decide) _ _ _ rfl (hr.alloc _) ⟨wr.heap.size, 0, none⟩ 1 1 [.string ByteArray.empty] rfl rfl (cell_one_new _ _ _) (by simp [Value.oneCell']) (by unfold maxLen; omega) (by omega) (by simp; omega) ?_; intro v' w1 hown' hgrow _)
          have hB3 : Below w.heap.size w w1 := (hB.alloc (by omega) _).trans (below_grown (hr.alloc _) (by simp; omega) hgrow)
          go_roundw
          case rel => exact ⟨f + 1, f + 1, pre ++ [ByteArray.empty], by go_num, by go_num, by omega, hlt, by simpa using hown', by rw [List.length_append]; simp only [List.length_cons, List.length_nil]; omega, hE3, hB3⟩
          case measure => simp only [intOf]; go_num
      · have k1 : ((c.toNat : Int) != 10) = true := by rw [bne, u8_beq 10 (d := 10) rfl]; simpa using h10
        rw [lgo_byte h10, ← hc, ← cut_succ hfi hlt] at hE2
        replace hE2 := Lib.hid hE2
        replace h10 := Lib.hid h10
        clear hc hdr hE
        go_wp2_with fail
        go_roundw
        case rel => exact ⟨f, i + 1, pre, rfl, by go_num, by omega, hlt, hr, by omega, hE2, hB⟩
        case measure => simp only [intOf]; go_num
    · obtain rfl : i = s.size := by omega
      have q1 : decide ((s.size : Int) < (s.size : Int)) = false := by simp
      have q2 : decide (s.size < s.size) = false := by simp
      have hE2 := hE.out
      rw [List.drop_eq_nil_of_le (by rw [str_size]; exact Nat.le_refl _)] at hE2
      by_cases hf : f < s.size
      · have k2 : decide ((f : Int) < (s.size : Int)) = true := decide_eq_true (by omega)
        have k3 : decide (f < s.size) = true := decide_eq_true hf
        obtain ⟨x, hx⟩ : ∃ x, s.extract f s.size = x := ⟨_, rfl⟩
        have hxd : x.data.toList = cut s.data.toList f s.size := by rw [← hx, str_extract]; rfl
        have hE3 : Hid ((pre ++ [x]).map (·.data.toList) = L) := by
          show _ = _
          have h0 : (cut s.data.toList f s.size).isEmpty = false := by
            cases h : cut s.data.toList f s.size with
            | nil =>
              have h5 := congrArg List.length h
              unfold cut at h5
              rw [List.length_drop, List.length_take, str_size] at h5
              simp at h5; omega
            | cons _ _ => rfl
          rw [hE2, lgo, h0, List.map_append, ← hxd]; rfl
        have j1 : (0 : Int) ≤ (f : Int) := by omega
        have j2 : (f : Int) ≤ (s.size : Int) := by omega
        clear hE2 hE hxd
        go_wp2_with (at_builtin; refine wpList_append_own _ rfl _ _ 32 rfl w.heap.size 9 i0 (.string ByteArray.empty) 1 16 Tryd.underlying32 hif hz0 hz1 hz2 rfl (by decide) _ _ _ rfl (hr.alloc _) ⟨wr.heap.size, 0, none⟩ 1 1 [.string x] rfl rfl (cell_one_new _ _ _) (by simp [Value.oneCell']) (by unfold maxLen; omega) (by omega) (by simp; omega) ?_; intro v' w1 hown' hgrow _)
        have hB3 : Below w.heap.size w w1 := (hB.alloc (by omega) _).trans (below_grown (hr.alloc _) (by simp; omega) hgrow)
        go_ret
        exact ⟨⟨_, pre ++ [x], rfl, Sl.of_own (by simpa using hown'), hE3.out⟩, hB3⟩
      · obtain rfl : f = s.size := by omega
        have k2 : decide ((s.size : Int) < (s.size : Int)) = false := by simp
        have hE3 : Hid (pre.map (·.data.toList) = L) := by
          show _ = _
          rw [hE2, cut_nil, lgo]; simp
        replace hr := Lib.hid hr
        clear hE2 hE
        go_wp2_with fail
        go_ret
        exact ⟨⟨_, pre, rfl, Sl.of_own (by simpa using hr.out), hE3.out⟩, hB⟩
/-! ### Join -/
def jtail (sep : List UInt8) (ls : List (List UInt8)) : List UInt8 := ls.flatMap fun x => sep ++ x
theorem join_head (sep x : List UInt8) (r : List (List UInt8)) : Lib.join (x :: r) sep = x ++ jtail sep r := by
  induction r generalizing x with
  | nil => rw [join_one]; simp [jtail]
  | cons y r ih => rw [join_cons, ih]; simp [jtail]
def jrem (sep : List UInt8) (ls : List (List UInt8)) (i : Nat) : List UInt8 := if i = 0 then Lib.join ls sep else jtail sep (ls.drop i)
theorem jrem_first (sep : List UInt8) (ls : List (List UInt8)) (h : 0 < ls.length) : jrem sep ls 0 = ls[0] ++ jtail sep (ls.drop 1) := by
  cases ls with
  | nil => simp at h
  | cons x r => unfold jrem; rw [if_pos rfl, join_head]; rfl
theorem jrem_next (sep : List UInt8) (ls : List (List UInt8)) (i : Nat) (h : i < ls.length) (h0 : i ≠ 0) : jrem sep ls i = sep ++ (ls[i] ++ jtail sep (ls.drop (i + 1))) := by
  unfold jrem jtail
  rw [if_neg h0, List.drop_eq_getElem_cons h, List.flatMap_cons, List.append_assoc]
theorem jrem_succ (sep : List UInt8) (ls : List (List UInt8)) (i : Nat) : jrem sep ls (i + 1) = jtail sep (ls.drop (i + 1)) := by unfold jrem; rw [if_neg (by omega)]
theorem jrem_end (sep : List UInt8) (ls : List (List UInt8)) : jrem sep ls ls.length = [] := by
  unfold jrem
  split
  · rename_i h
    rw [List.eq_nil_of_length_eq_zero h]; simp [Lib.join, List.intercalate]
  · rw [List.drop_length]; rfl
set_option maxRecDepth 100000 in
set_option maxHeartbeats 4000000 in
theorem RefJoin_any (v : Value) (ts : List ByteArray) (sep : ByteArray) (w : World) (hv : Ss w v ts) (hlen : (Lib.join (bysL ts) sep.data.toList).length ≤ 140737488355328) :
    Calls Tryd.prog 25 #[v, .string sep] w (SPost (Lib.join (bysL ts) sep.data.toList) w) := by
  obtain ⟨i0, hi, hz0, hz1, hz2⟩ := info_parts infoByte_
  obtain ⟨F, hF⟩ : ∃ F, Lib.join (bysL ts) sep.data.toList = F := ⟨_, rfl⟩
  rw [hF] at hlen ⊢
  obtain ⟨a1, c1, rfl, hc1, hd1⟩ := hv.val
  have hm : ts.length ≤ 9223372036854775807 := by unfold maxLen at hd1; omega
  have hbl : (bysL ts).length = ts.length := by simp [bysL]
  replace hbl := Lib.hid hbl
  go_enter Tryd.func25, Tryd.ntmps25
  go_wp2_with fail
  go_loopw [5, 6] (fun u ii wr => ∃ (acc : List UInt8) (i : Nat), ii = .int .i64 i ∧ i ≤ ts.length ∧ wr.ownsRow w.heap.size 5 1 u acc.length (Lib.byteCells acc) ∧ Hid (acc ++ jrem sep.data.toList (bysL ts) i = F) ∧ Below w.heap.size w wr) (fun _ ii _ => ts.length - (intOf ii).toNat)
  case atStart => exact ⟨[], 0, rfl, by omega, World.ownsRow_nil _ _ _ _, by show _ = _; rw [← hF]; rfl, Below.refl _ _⟩
  case round =>
    obtain ⟨acc, i, rfl, hi2, hr, hE, hB⟩ := hrel
    have hzB := hB.size
    by_cases hlt : i < ts.length
    · have q1 : decide ((i : Int) < (ts.length : Int)) = true := decide_eq_true (by omega)
      have q2 : decide (i < ts.length) = true := decide_eq_true hlt
      obtain ⟨bb, oo, dd, hee, _, _, hbb, hcell⟩ := Ss.at hv (by omega)
      cases hee
      have x0 := hcell i _ (List.getElem?_eq_getElem hlt)
      have hbi : (bysL ts)[i]'(by rw [hbl.out]; exact hlt) = ts[i].data.toList := by simp [bysL]
      obtain ⟨x, hx⟩ : ∃ x, ts[i] = x := ⟨_, rfl⟩
      rw [hx] at x0 hbi
      have x1 : wr.cell? ⟨bb, oo + i, none⟩ = some (.string x) := (hB.cell (p := ⟨bb, oo + i, none⟩) hbb).trans x0
      have hEi := hE.out
      clear hcell hx hE hv
      by_cases h0 : i = 0
      · have k1 : decide ((0 : Int) < (i : Int)) = false := decide_eq_false (by omega)
        have k2 : decide (0 < i) = false := decide_eq_false (by omega)
        have hE0 : acc ++ jrem sep.data.toList (bysL ts) 0 = F := by rw [← hEi, h0]
        have hb0 : (bysL ts)[0]'(by rw [hbl.out]; omega) = x.data.toList := by rw [← hbi]; congr 1; exact h0.symm
        have x1b : wr.cell? ⟨bb, oo, none⟩ = some (.string x) := by have h5 := x1; rw [h0] at h5; exact h5
        replace hEi := hE0
        clear hE0 hbi
        have hbi := hb0
        clear hb0
        replace h0 := Lib.hid h0
        rw [jrem_first _ _ (by rw [hbl.out]; omega), hbi, ← jrem_succ] at hEi
        have hel : acc.length + x.size ≤ F.length := by have := congrArg List.length hEi; simp at this; omega
        have hE2 : Hid ((acc ++ x.data.toList) ++ jrem sep.data.toList (bysL ts) (i + 1) = F) := by show _ = _; rw [h0.out, List.append_assoc]; exact hEi
        clear hEi hbi
        go_wp2_with (at_builtin; refine Lib.wpList_append_own_string _ rfl _ _ 24 9 rfl w.heap.size 5 i0 Tryd.underlying24 Tryd.underlying9 hi hz0 hz1 hz2 _ _ _ rfl hr x rfl (by unfold maxLen; omega) (by omega) (by omega) ?_; intro v' w1 hown' hgrow _)
        have hB3 : Below w.heap.size w w1 := hB.trans (below_grown hr (by omega) hgrow)
        go_roundw
        case rel => exact ⟨acc ++ x.data.toList, i + 1, by go_num, by omega, by rw [List.length_append, str_size, bytes_app, ← strCells_bytes]; exact hown', hE2, hB3⟩
        case measure => simp only [intOf]; go_num
      · have k1 : decide ((0 : Int) < (i : Int)) = true := decide_eq_true (by omega)
        have k2 : decide (0 < i) = true := decide_eq_true (by omega)
        rw [jrem_next _ _ i (by rw [hbl.out]; exact hlt) h0, hbi, ← jrem_succ] at hEi
        have hel : acc.length + sep.size + x.size ≤ F.length := by have := congrArg List.length hEi; simp at this; omega
        have hE2 : Hid ((acc ++ sep.data.toList ++ x.data.toList) ++ jrem sep.data.toList (bysL ts) (i + 1) = F) := by show _ = _; rw [← hEi]; simp
        clear hEi hbi
        go_wp2_with (first | ((with_reducible show wpList _ _ _ (⟨some 17, _, _, _, _, _⟩ :: _) _ _); refine Lib.wpList_append_own_string (o := ⟨some 17, _, _, _, _, _⟩) _ rfl (.tmp 15) (.tmp 16) 24 9 rfl w.heap.size 5 i0 Tryd.underlying24 Tryd.underlying9 hi hz0 hz1 hz2 _ _ _ rfl hr sep rfl (by unfold maxLen; omega) (by omega) (by omega) ?_; intro v1 w1 hown1 hgrow1 _; have hB1 : Below w.heap.size w w1 := hB.trans (below_grown hr (by omega) hgrow1); have hz1' := hB1.size; have x1' : w1.cell? ⟨bb, oo + i, none⟩ = some (.string x) := (hB1.cell (p := ⟨bb, oo + i, none⟩) hbb).trans x0; clear hr hgrow1 hB x1) | ((with_reducible show wpList _ _ _ (⟨some 23, _, _, _, _, _⟩ :: _) _ _); refine Lib.wpList_append_own_string (o := ⟨some 23, _, _, _, _, _⟩) _ rfl (.tmp 18) (.tmp 22) 24 9 rfl w.heap.size 5 i0 Tryd.underlying24 Tryd.underlying9 hi hz0 hz1 hz2 _ _ _ rfl hown1 x rfl (by unfold maxLen; omega) (by omega) (by omega) ?_; intro v2 w2 hown2 hgrow2 _))
        have hB3 : Below w.heap.size w w2 := hB1.trans (below_grown hown1 (by omega) hgrow2)
        go_roundw
        case rel => exact ⟨acc ++ sep.data.toList ++ x.data.toList, i + 1, by go_num, by omega, by rw [List.length_append, List.length_append, str_size, str_size, bytes_app, bytes_app, ← strCells_bytes, ← strCells_bytes]; exact hown2, hE2, hB3⟩
        case measure => simp only [intOf]; go_num
    · obtain rfl : i = ts.length := by omega
      have q1 : decide ((ts.length : Int) < (ts.length : Int)) = false := by simp
      have q2 : decide (ts.length < ts.length) = false := by simp
      have hE2 := hE.out
      rw [show ts.length = (bysL ts).length from hbl.out.symm, jrem_end, List.append_nil] at hE2
      obtain ⟨ao, cap, rfl⟩ := slice_of_own hr
      have hS := Sl.of_own hr
      replace hr := Lib.hid hr
      replace hE2 := Lib.hid hE2
      clear hE
      go_wp2_with (refine wpList_string_of rfl 24 9 5 (.tmp 24) rfl _ _ cap _ rfl Tryd.underlying24 Tryd.underlying5 Tryd.underlying9 hS ?_; intro q hq)
      go_ret
      exact ⟨⟨q, rfl, by rw [hq]; exact hE2.out⟩, hB⟩
end Go.Proofs.YtompmkcpicfdfaaDoor
