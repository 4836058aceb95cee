/- package quote: keys, agree. -/
import Derived.Test.YtompmkcpicfdfaaDoorLev
namespace Go.Proofs.YtompmkcpicfdfaaDoor
open Go.RowKit
set_option linter.unusedVariables false
theorem lgo_count : ∀ (l cur : List UInt8), (lgo cur l).length ≤ l.length + (if cur.isEmpty then 0 else 1)
  | [], cur => by rw [lgo]; split <;> simp
  | d :: r, cur => by
    rw [lgo, List.length_cons]
    split
    · rw [List.length_cons]
      have := lgo_count r []
      simp at this; omega
    · have h1 := lgo_count r (cur ++ [d])
      have h2 : (cur ++ [d]).isEmpty = false := by cases cur <;> rfl
      rw [h2] at h1
      simp at h1; omega
theorem wlines_count (l : List UInt8) : (wlines l).length ≤ l.length := by
  have := lgo_count l []
  simpa [wlines] using this
theorem lines_sizes {s : ByteArray} {ts : List ByteArray} (h : bysL ts = wlines s.data.toList) : ts.length ≤ s.size ∧ ∀ x ∈ ts, x.size ≤ s.size := by
  constructor
  · have h1 := wlines_count s.data.toList
    rw [← h, str_size] at h1
    simpa [bysL] using h1
  · intro x hx
    have h2 := wlines_le s.data.toList x.data.toList (by rw [← h]; exact List.mem_map_of_mem hx)
    rw [str_size, str_size] at h2
    exact h2
theorem keyL_le (l : List UInt8) : (keyL l).length ≤ l.length := Nat.le_trans (wfields_len _) (lev_le l)
theorem bysL_snoc (pre : List ByteArray) (q : ByteArray) : bysL (pre ++ [q]) = bysL pre ++ [q.data.toList] := by simp [bysL]
theorem bysL_len (ts : List ByteArray) : (bysL ts).length = ts.length := by simp [bysL]
/-- The call returns a row of strings of its own. -/
def OPost (ls : List (List UInt8)) (w : World) (e : Ending) (w' : World) : Prop := (∃ v ts, e = .returned v ∧ w'.ownsRow w.heap.size 9 1 v ts.length (ts.map .string) ∧ bysL ts = ls) ∧ Below w.heap.size w w'
theorem OPost.lpost {ls : List (List UInt8)} {w w' : World} {e : Ending} (h : OPost ls w e w') : LPost ls w e w' := by
  obtain ⟨⟨v, ts, h1, h2, h3⟩, h4⟩ := h
  exact ⟨⟨v, ts, h1, Sl.of_own h2, h3⟩, h4⟩
set_option maxHeartbeats 2000000 in
theorem keys_any (s : ByteArray) (w : World) (hs : s.size < 4294967281) : Calls Tryd.prog 66 #[.string s] w (OPost (keysL s.data.toList) w) := by
  obtain ⟨i0, hif, hz0, hz1, hz2⟩ := info_parts infoStr
  go_enter Tryd.func66, Tryd.ntmps66
  go_wp2_with fail
  refine (Lines_any s _ hs).mono ?_
  rintro e W1 ⟨⟨v, ts, rfl, hv, hts⟩, b1⟩
  obtain ⟨hln, hsz⟩ := lines_sizes hts
  have hE : Hid (keysL s.data.toList = (bysL ts).map keyL) := by show _ = _; rw [show bysL ts = wlines s.data.toList from hts]; rfl
  obtain ⟨a1, c1, rfl, hc1, hd1⟩ := hv.val
  replace hsz := Lib.hid hsz
  clear hts
  go_wp2_with fail
  go_loopw [3, 9] (fun v ii wr => ∃ (k : Nat) (pre : List ByteArray), ii = .int .i64 k ∧ k ≤ ts.length ∧ wr.ownsRow W1.heap.size 9 1 v pre.length (pre.map .string) ∧ Hid (bysL pre = ((bysL ts).take k).map keyL) ∧ pre.length ≤ k ∧ Below W1.heap.size W1 wr) (fun _ ii _ => ts.length - (intOf ii).toNat)
  case atStart => exact ⟨0, [], rfl, by omega, World.ownsRow_nil _ _ _ _, rfl, by simp, Below.refl _ _⟩
  case round =>
    obtain ⟨k, pre, rfl, hk, hr, hP, hpl, hB⟩ := hrel
    have hzB := hB.size
    by_cases hlt : k < ts.length
    · have q1 : decide ((k : Int) < (ts.length : Int)) = true := decide_eq_true (by omega)
      have q2 : decide (k < ts.length) = true := decide_eq_true hlt
      obtain ⟨bb, oo, dd, hee, _, _, hbb, hcell⟩ := Ss.at hv (by omega)
      cases hee
      have x0 := hcell k _ (List.getElem?_eq_getElem hlt)
      have hx4 := hsz.out ts[k] (List.getElem_mem hlt)
      have hbt := bysL_take hlt
      obtain ⟨x, hx⟩ : ∃ x, ts[k] = x := ⟨_, rfl⟩
      rw [hx] at x0 hx4 hbt
      have x1 : wr.cell? ⟨bb, oo + k, none⟩ = some (.string x) := (hB.cell (p := ⟨bb, oo + k, none⟩) hbb).trans x0
      have hkl := keyL_le x.data.toList
      rw [str_size] at hkl
      replace hbt := Lib.hid hbt
      clear hcell hx hv
      go_wp2_with fail
      refine (key_any x _ (by omega)).mono ?_
      rintro e W2 ⟨⟨q, rfl, hq⟩, b2⟩
      have hr2 := own_bel hr b2
      have hB2 := hB.trans (b2.mono hzB)
      have hz2' := hB2.size
      have hP2 : Hid (bysL (pre ++ [q]) = ((bysL ts).take (k + 1)).map keyL) := by
        show _ = _
        have h5 := hbt.out
        rw [bysL_snoc, hP.out, hq]
        rw [show bysL (ts.take (k + 1)) = (bysL ts).take (k + 1) by simp [bysL, List.map_take], show bysL (ts.take k) = (bysL ts).take k by simp [bysL, List.map_take]] at h5
        rw [h5, List.map_append]; rfl
      clear hr hB b2 hP hq
      go_wp2_with (at_builtin; refine wpList_append_own _ rfl _ _ 32 rfl W1.heap.size 9 i0 (.string ByteArray.empty) 1 16 Tryd.underlying32 hif hz0 hz1 hz2 rfl (by decide) _ _ _ rfl (hr2.alloc _) ⟨W2.heap.size, 0, none⟩ 1 1 [.string q] rfl rfl (cell_one_new _ _ _) (by simp [Value.oneCell']) (by unfold maxLen; omega) (by omega) (by simp; omega) ?_; intro v' w1 hown' hgrow _)
      have hB3 : Below W1.heap.size W1 w1 := (hB2.alloc (by omega) _).trans (below_grown (hr2.alloc _) (by simp; omega) hgrow)
      go_roundw
      case rel => exact ⟨k + 1, pre ++ [q], by go_num, hlt, by simpa using hown', hP2, by rw [List.length_append]; simp only [List.length_cons, List.length_nil]; omega, hB3⟩
      case measure => simp only [intOf]; go_num
    · obtain rfl : k = ts.length := by omega
      have q1 : decide ((ts.length : Int) < (ts.length : Int)) = false := by simp
      have q2 : decide (ts.length < ts.length) = false := by simp
      have hE2 : Hid (bysL pre = keysL s.data.toList) := by
        show _ = _
        rw [hP.out, hE.out, List.take_of_length_le (by rw [bysL_len]; exact Nat.le_refl _)]
      replace hr := Lib.hid hr
      clear hP hE
      go_wp2_with fail
      go_ret
      exact ⟨⟨_, pre, rfl, own_mono (by simpa using hr.out) b1.size, hE2.out⟩, bnext b1 hB⟩
theorem agr_drop {A B : List KK} {n : Nat} (h1 : n < A.length) (h2 : n < B.length) : agr (A.drop n) (B.drop n) = if A[n] = B[n] then agr (A.drop (n + 1)) (B.drop (n + 1)) + 1 else 0 := by
  rw [List.drop_eq_getElem_cons h1, List.drop_eq_getElem_cons h2, agr]
theorem agr_drop2 {A B : List KK} {n m : Nat} (h1 : n < A.length) (h2 : m < B.length) : agr (A.drop n) (B.drop m) = if A[n] = B[m] then agr (A.drop (n + 1)) (B.drop (m + 1)) + 1 else 0 := by
  rw [List.drop_eq_getElem_cons h1, List.drop_eq_getElem_cons h2, agr]
theorem agr_end2 {A B : List KK} {n m : Nat} (h : A.length ≤ n ∨ B.length ≤ m) : agr (A.drop n) (B.drop m) = 0 := by
  rcases h with h | h
  · rw [List.drop_eq_nil_of_le h]; simp [agr]
  · rw [List.drop_eq_nil_of_le h]
    cases A.drop n <;> simp [agr]
theorem agr_end {A B : List KK} {n : Nat} (h : A.length ≤ n ∨ B.length ≤ n) : agr (A.drop n) (B.drop n) = 0 := by
  rcases h with h | h
  · rw [List.drop_eq_nil_of_le h]; simp [agr]
  · rw [List.drop_eq_nil_of_le h]
    cases A.drop n <;> simp [agr]
set_option maxHeartbeats 2000000 in
theorem agree_any (v u : Value) (ts us : List ByteArray) (w : World) (hv : Ss w v ts) (hu : Ss w u us) (hm : ts.length ≤ 140737488355328) (hm2 : us.length ≤ 140737488355328) :
    Calls Tryd.prog 69 #[v, u] w fun e w' => e = .returned (.int .i64 (agr (bysL ts) (bysL us) : Nat)) ∧ Below w.heap.size w w' := by
  obtain ⟨a1, c1, rfl, hc1, hd1⟩ := hv.val
  obtain ⟨a2, c2, rfl, hc2, hd2⟩ := hu.val
  obtain ⟨A, hA⟩ : ∃ A, bysL ts = A := ⟨_, rfl⟩
  obtain ⟨B, hBB⟩ : ∃ B, bysL us = B := ⟨_, rfl⟩
  have hAl : A.length = ts.length := by rw [← hA, bysL_len]
  have hBl : B.length = us.length := by rw [← hBB, bysL_len]
  obtain ⟨R, hR⟩ : ∃ R, agr A B = R := ⟨_, rfl⟩
  rw [hA, hBB, hR]
  replace hA := Lib.hid hA
  replace hBB := Lib.hid hBB
  replace hAl := Lib.hid hAl
  replace hBl := Lib.hid hBl
  replace hR := Lib.hid hR
  go_enter Tryd.func69, Tryd.ntmps69
  go_wp2_with fail
  go_loopw [5] (fun i wr => Below w.heap.size w wr ∧ ∃ k : Nat, i = .int .i64 k ∧ k ≤ ts.length ∧ k ≤ us.length ∧ Hid (R = k + agr (A.drop k) (B.drop k))) (fun i _ => ts.length - (intOf i).toNat)
  case atStart => exact ⟨Below.refl _ _, 0, rfl, by omega, by omega, by show _ = _; rw [← hR.out]; simp⟩
  case round =>
    obtain ⟨hBr, k, rfl, hk, hk2, hI⟩ := hrel
    by_cases hlt : k < ts.length ∧ k < us.length
    · obtain ⟨hlt, hlt2⟩ := hlt
      have q1 : decide ((k : Int) < min (ts.length : Int) (us.length : Int)) = true := decide_eq_true (by omega)
      obtain ⟨b1, o1, d1, he1, _, _, hb1, hcell1⟩ := (hv.below hBr).at (by omega)
      obtain ⟨b2, o2, d2, he2, _, _, hb2, hcell2⟩ := (hu.below hBr).at (by omega)
      cases he1
      cases he2
      have x1 := hcell1 k _ (ss_get hlt)
      have x2 := hcell2 k _ (ss_get hlt2)
      have hst := agr_drop (A := A) (B := B) (n := k) (by rw [hAl.out]; exact hlt) (by rw [hBl.out]; exact hlt2)
      have hAk : A[k]'(by rw [hAl.out]; exact hlt) = ts[k].data.toList := by simp [← hA.out, bysL]
      have hBk : B[k]'(by rw [hBl.out]; exact hlt2) = us[k].data.toList := by simp [← hBB.out, bysL]
      rw [hAk, hBk] at hst
      clear hcell1 hcell2 hv hu hAk hBk
      obtain ⟨x, hx⟩ : ∃ x, ts[k] = x := ⟨_, rfl⟩
      obtain ⟨y, hy⟩ : ∃ y, us[k] = y := ⟨_, rfl⟩
      rw [hx] at x1 hst
      rw [hy] at x2 hst
      clear hx hy
      by_cases hxy : x = y
      · have r1 : (x.toList == y.toList) = true := by rw [hxy]; simp
        have hI2 : Hid (R = (k + 1) + agr (A.drop (k + 1)) (B.drop (k + 1))) := by
          show _ = _
          rw [hI.out, hst, if_pos (by rw [hxy])]; omega
        clear hst hI
        replace hxy := Lib.hid hxy
        go_wp2_with fail
        go_quiet (fail)
        have hB2 := bdrewN (n := nq) hBr
        go_wp2_with fail
        go_roundw
        case rel => exact ⟨hB2, k + 1, by go_num, hlt, hlt2, hI2⟩
        case measure => simp only [intOf]; go_num
      · have r1 : (x.toList == y.toList) = false := by
          rw [Lib.toList_data, Lib.toList_data]
          simp only [beq_eq_false_iff_ne]
          exact fun h => hxy (str_inj h)
        have hres : Hid (R = k) := by
          show _ = _
          rw [hI.out, hst, if_neg (fun h => hxy (str_inj h))]; rfl
        clear hst hI
        replace hxy := Lib.hid hxy
        go_wp2_with fail
        go_quiet (fail)
        have hB2 := bdrewN (n := nq) hBr
        go_wp2_with fail
        go_ret
        exact ⟨by rw [hres.out]; rfl, hB2⟩
    · have q1 : decide ((k : Int) < min (ts.length : Int) (us.length : Int)) = false := decide_eq_false (by omega)
      have hres : Hid (R = k) := by
        show _ = _
        rw [hI.out, agr_end (by rw [hAl.out, hBl.out]; omega)]; rfl
      clear hI hlt
      go_wp2_with fail
      go_quiet (fail)
      have hB2 := bdrewN (n := nq) hBr
      go_wp2_with fail
      go_ret
      exact ⟨by rw [hres.out]; rfl, hB2⟩
end Go.Proofs.YtompmkcpicfdfaaDoor
