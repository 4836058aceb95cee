/- pack.groups: what its iterator hands out. -/
import Derived.RangeFuncNested
import Derived.RangeFuncBound
import Derived.RangeFuncCalls
import Derived.RangeFuncLeaves
import Derived.Shelf.Abstract
import Derived.Shelf.RegionOpen
import Derived.WalkKit
import Derived.OwnWalkIn
import Derived.TacticsInMore
import Derived.LoopNIn
import Derived.LoopIn
import Derived.Test.YtnbfmmnbjjeecabDiv
namespace Go.Proofs.Ytnbfmmnbjjeecab
open Go.RowKit Go.Shelf
attribute [local go_sem] Oper.semAt_some
set_option linter.unusedVariables false
/-- The first index of the group under way, what is left, and the groups that are closed, when i sizes are over. -/
def st (l : List Int) (b R : Int) : Nat → Nat × Int × List (Nat × Nat)
  | 0 => (0, 0, [])
  | i + 1 =>
    if i = 0 then (0, if R < pos (l.getD i 0) then -1 else R - pos (l.getD i 0), [])
    else if 0 < b ∧ (st l b R i).2.1 < pos (l.getD i 0) then (i, if R < pos (l.getD i 0) then -1 else R - pos (l.getD i 0), (st l b R i).2.2 ++ [((st l b R i).1, i)])
    else ((st l b R i).1, if (st l b R i).2.1 < pos (l.getD i 0) then -1 else (st l b R i).2.1 - pos (l.getD i 0), (st l b R i).2.2)
/-- All groups. -/
def fin (l : List Int) (b R : Int) : List (Nat × Nat) := if l.length = 0 then [] else (st l b R l.length).2.2 ++ [((st l b R l.length).1, l.length)]
/-- A group as the iterator hands it out. -/
abbrev Gr (L : Nat) := { x : Nat × Nat // x.1 ≤ x.2 ∧ x.2 ≤ L }
theorem groups_in (F : Fence) (n : Nat) (h6 : F.fn 15) (hro : F.round = none) (a : Option Addr) (len cap : Nat) (b h : Int) (w : World) :
    CallsIn F n Try.prog 15 #[.slice a len cap, .int .i64 b, .int .i64 h] w fun e w' => e = .returned (.func (.func 19) #[] #[.pointer (some ⟨w.heap.size, 0, none⟩), .pointer (some ⟨w.heap.size + 1, 0, none⟩), .pointer (some ⟨w.heap.size + 2, 0, none⟩)]) ∧ w' = ((w.alloc (.cells #[.slice a len cap] 22)).alloc (.cells #[.int .i64 b] 3)).alloc (.cells #[.int .i64 h] 3) := by
  refine callsIn_of_wp Try.func15 rfl h6 ?_ hro
  simp only [Try.ntmps15, List.size_toArray, List.length_cons, List.length_nil, Nat.reduceAdd, Nat.reduceSub, Array.replicate_succ, Array.replicate_zero, List.push_toArray, List.append_toArray, List.nil_append, List.cons_append]
  gi_wp2
  go_ret
  exact ⟨rfl, rfl⟩
/-- What a round keeps: what lay below n₀, and the three boxes. -/
def Kq (n₀ Bs Bb Bh : Nat) (A B : World) : Prop := Below n₀ A B ∧ B.cell? ⟨Bs, 0, none⟩ = A.cell? ⟨Bs, 0, none⟩ ∧ B.cell? ⟨Bb, 0, none⟩ = A.cell? ⟨Bb, 0, none⟩ ∧ B.cell? ⟨Bh, 0, none⟩ = A.cell? ⟨Bh, 0, none⟩
theorem Kq.refl (n₀ Bs Bb Bh : Nat) (A : World) : Kq n₀ Bs Bb Bh A A := ⟨Below.refl _ _, rfl, rfl, rfl⟩
theorem Kq.trans {n₀ Bs Bb Bh : Nat} {A B C : World} (h : Kq n₀ Bs Bb Bh A B) (k : Kq n₀ Bs Bb Bh B C) : Kq n₀ Bs Bb Bh A C := ⟨h.1.trans k.1, k.2.1.trans h.2.1, k.2.2.1.trans h.2.2.1, k.2.2.2.trans h.2.2.2⟩
def enc2 {L : Nat} (x : Gr L) : Array Value := #[Value.int .i64 (x.1.1 : Int), Value.int .i64 (x.1.2 : Int)]
/-- What the loop of the iterator keeps. -/
def StAt (l : List Int) (b R : Int) (k f : Nat) (lf : Int) (xs : List (Gr l.length)) : Prop := (st l b R k).1 = f ∧ (st l b R k).2.1 = lf ∧ (st l b R k).2.2 = xs.map (·.1) ∧ xs.length ≤ k
theorem stAt_first {l : List Int} {b R : Int} {k f : Nat} {lf : Int} {xs : List (Gr l.length)} (h : StAt l b R k f lf xs) (hk : k = 0) (x lf' : Int) (hx : pos (l.getD k 0) = x) (h2 : (if R < x then -1 else R - x) = lf') : StAt l b R (k + 1) 0 lf' [] ∧ xs = [] := by
  subst hk
  obtain ⟨h1, h3, h4, h5⟩ := h
  refine ⟨⟨by simp [st], ?_, by simp [st], Nat.zero_le _⟩, List.eq_nil_of_length_eq_zero (by omega)⟩
  simp only [st, if_pos]
  rw [hx]; exact h2
theorem stAt_cut {l : List Int} {b R : Int} {k f : Nat} {lf : Int} {xs : List (Gr l.length)} (h : StAt l b R k f lf xs) (hk : 0 < k) (hb : 0 < b) (x lf' : Int) (hx : pos (l.getD k 0) = x) (hlf : lf < x) (h2 : (if R < x then -1 else R - x) = lf') (hfk : f ≤ k ∧ k ≤ l.length) : StAt l b R (k + 1) k lf' (xs ++ [⟨(f, k), hfk⟩]) := by
  obtain ⟨h1, h3, h4, h5⟩ := h
  have hc : 0 < b ∧ (st l b R k).2.1 < pos (l.getD k 0) := ⟨hb, by rw [h3, hx]; exact hlf⟩
  refine ⟨?_, ?_, ?_, by simp; omega⟩
  · rw [st, if_neg (by omega), if_pos hc]
  · rw [st, if_neg (by omega), if_pos hc]; show (if _ then _ else _) = _; rw [hx]; exact h2
  · rw [st, if_neg (by omega), if_pos hc]; show _ ++ _ = _; rw [h4, h1]; simp
theorem stAt_on {l : List Int} {b R : Int} {k f : Nat} {lf : Int} {xs : List (Gr l.length)} (h : StAt l b R k f lf xs) (hk : 0 < k) (x lf' : Int) (hx : pos (l.getD k 0) = x) (hno : ¬ (0 < b ∧ lf < x)) (h2 : (if lf < x then -1 else lf - x) = lf') : StAt l b R (k + 1) f lf' xs := by
  obtain ⟨h1, h3, h4, h5⟩ := h
  have hc : ¬ (0 < b ∧ (st l b R k).2.1 < pos (l.getD k 0)) := by rw [h3, hx]; exact hno
  refine ⟨?_, ?_, ?_, by omega⟩
  · rw [st, if_neg (by omega), if_neg hc]; exact h1
  · rw [st, if_neg (by omega), if_neg hc]; show (if _ then _ else _) = _; rw [hx, h3]; exact h2
  · rw [st, if_neg (by omega), if_neg hc]; exact h4
set_option maxHeartbeats 4000000 in
theorem all1_in (F : Fence) (n : Nat) (h8 : F.fn 19) (hro : F.round = none) (hn : 1 ≤ n) (lp Bs Bb Bh n₀ bl off cap : Nat) (l : List Int) (b h R : Int) (hR : wrap64 (b - pos h) = R) (hl0 : 0 < l.length) (hreach : l.length * 8 ≤ 140737488351232) (hbl : bl < n₀) (J Jx : List (Gr l.length) → World → Prop)
    (hY : ∀ pre x W, J pre W → pre.length < l.length + 1 → YieldAt F (n - 1) Try.prog lp (enc2 x) W fun e W' =>
      (e = .returned (.bool true) ∧ J (pre ++ [x]) W' ∧ Kq n₀ Bs Bb Bh W W') ∨ (e = .returned (.bool false) ∧ Jx (pre ++ [x]) W'))
    (W : World) (hcs : W.cell? ⟨Bs, 0, none⟩ = some (.slice (some ⟨bl, off, none⟩) l.length cap)) (hcb : W.cell? ⟨Bb, 0, none⟩ = some (.int .i64 b)) (hch : W.cell? ⟨Bh, 0, none⟩ = some (.int .i64 h))
    (hc : ∀ j, j < l.length → W.cell? ⟨bl, off + j, none⟩ = some (.int .i64 (l.getD j 0))) (h0 : J [] W) :
    CallsIn F n Try.prog 19 #[.func (.yield lp) #[] #[], .pointer (some ⟨Bs, 0, none⟩), .pointer (some ⟨Bb, 0, none⟩), .pointer (some ⟨Bh, 0, none⟩)] W fun e W' => (∃ v, e = .returned v) ∧
      ((∃ ys, ys.map (·.1) = fin l b R ∧ J ys W') ∨ (∃ pre, True ∧ Jx pre W')) := by
  have hRb := wrap64_bd (b - pos h)
  rw [hR] at hRb
  replace hc := Lib.hid hc
  refine callsIn_of_wp Try.func19 rfl h8 ?_ hro
  simp only [Try.ntmps19, List.size_toArray, List.length_cons, List.length_nil, Nat.reduceAdd, Nat.reduceSub, Array.replicate_succ, Array.replicate_zero, List.push_toArray, List.append_toArray, List.nil_append, List.cons_append]
  gi_wp2
  gi_loopw [5, 6, 11] (fun f lf i wr => ∃ (k f' : Nat) (lf' : Int) (xs : List (Gr l.length)), k ≤ l.length ∧ f' ≤ k ∧ (0 < k → f' < k) ∧ (k = 0 → f' = 0) ∧ -1 ≤ lf' ∧ lf' ≤ 9223372036854775807 ∧ f = .int .i64 f' ∧ lf = .int .i64 lf' ∧ i = .int .i64 k ∧ Hid (StAt l b R k f' lf' xs) ∧ J xs wr ∧ Kq n₀ Bs Bb Bh W wr)
    (fun _ _ i _ => l.length - (intOf i).toNat)
  case atStart => exact ⟨0, 0, 0, [], Nat.zero_le _, Nat.le_refl _, fun h => by omega, fun _ => rfl, by omega, by omega, rfl, rfl, rfl, ⟨rfl, rfl, rfl, Nat.le_refl _⟩, h0, Kq.refl _ _ _ _ _⟩
  case round =>
    obtain ⟨k, f', lf', xs, hk, hf1, hf2, hf3, hl1, hl2, rfl, rfl, rfl, hI, hJ, hB⟩ := hrel
    have hcs2 := hB.2.1.trans hcs
    have hcb2 := hB.2.2.1.trans hcb
    have hch2 := hB.2.2.2.trans hch
    by_cases hkl : k < l.length
    · have hcx := (hB.1.cell (p := ⟨bl, off + k, none⟩) hbl).trans (hc.out k hkl)
      obtain ⟨x, hx⟩ : ∃ x, l.getD k 0 = x := ⟨_, rfl⟩
      rw [hx] at hcx
      obtain ⟨p, hp⟩ : ∃ p, pos x = p := ⟨_, rfl⟩
      have hp0 : 0 ≤ p := by rw [← hp]; exact (pos_bd x).1
      have hm : (if x < 0 then 0 else x) = p := by rw [← hp]; unfold pos; split <;> omega
      have hpx : Hid (pos (l.getD k 0) = p) := by rw [hx]; exact hp
      obtain ⟨ph, hph⟩ : ∃ p, pos h = p := ⟨_, rfl⟩
      have hmh : (if h < 0 then 0 else h) = ph := by rw [← hph]; unfold pos; split <;> omega
      have hR2 : wrap64 (b - ph) = R := by rw [← hph]; exact hR
      clear hp hph hx
      by_cases hk0 : k = 0
      · have hf0 := hf3 hk0
        subst hf0
        obtain ⟨hI1, rfl⟩ := stAt_first hI.out hk0 p _ hpx.out rfl
        subst hk0
        rw [Nat.add_zero] at hcx
        by_cases c : R < p
        · rw [if_pos c] at hI1
          replace hI1 := Lib.hid hI1
          gi_wp2
          go_roundw
          case rel => exact ⟨0 + 1, 0, -1, [], by omega, by omega, fun _ => by omega, fun h => by omega, by omega, by omega, by first | rfl | go_num, by first | rfl | go_num, by go_num, hI1, hJ, hB⟩
          case measure => simp [intOf]; omega
        · rw [if_neg c] at hI1
          replace hI1 := Lib.hid hI1
          gi_wp2
          go_roundw
          case rel => exact ⟨0 + 1, 0, (R - p), [], by omega, by omega, fun _ => by omega, fun h => by omega, by omega, by omega, by first | rfl | go_num, by first | rfl | go_num, by go_num, hI1, hJ, hB⟩
          case measure => simp [intOf]; omega
      · have hkp : 0 < k := by omega
        have hfk := hf2 hkp
        by_cases c1 : 0 < b
        · by_cases c2 : lf' < p
          · have hfk2 : f' ≤ k ∧ k ≤ l.length := ⟨hf1, hk⟩
            have hI1 := stAt_cut hI.out hkp c1 p _ hpx.out c2 rfl hfk2
            obtain ⟨fn, tmps, assign, body, hy, hRd⟩ := hY xs ⟨(f', k), hfk2⟩ wr hJ (by have := hI.out.2.2.2; omega)
            have hkk : ((k : Int) == (k : Int)) = true := by simp
            simp only [enc2] at hy
            by_cases c : R < p
            · rw [if_pos c] at hI1
              replace hI1 := Lib.hid hI1
              gi_wp2
              refine hRd.mono ?_
              rintro e W3 (⟨rfl, hJ3, hk3⟩ | ⟨rfl, hJx3⟩)
              · have hcs3 := hk3.2.1.trans hcs2
                have hcb3 := hk3.2.2.1.trans hcb2
                have hch3 := hk3.2.2.2.trans hch2
                gi_wp2
                go_roundw
                case rel => exact ⟨k + 1, k, -1, _, by omega, by omega, fun _ => by omega, fun h => by omega, by omega, by omega, by first | rfl | go_num, by first | rfl | go_num, by go_num, hI1, hJ3, hB.trans hk3⟩
                case measure => simp [intOf]; omega
              · gi_wp2
                refine bodyPost_ret (results_none rfl _ _ _) rfl ?_
                exact ⟨⟨_, rfl⟩, .inr ⟨_, trivial, hJx3⟩⟩
            · rw [if_neg c] at hI1
              replace hI1 := Lib.hid hI1
              gi_wp2
              refine hRd.mono ?_
              rintro e W3 (⟨rfl, hJ3, hk3⟩ | ⟨rfl, hJx3⟩)
              · have hcs3 := hk3.2.1.trans hcs2
                have hcb3 := hk3.2.2.1.trans hcb2
                have hch3 := hk3.2.2.2.trans hch2
                gi_wp2
                go_roundw
                case rel => exact ⟨k + 1, k, (R - p), _, by omega, by omega, fun _ => by omega, fun h => by omega, by omega, by omega, by first | rfl | go_num, by first | rfl | go_num, by go_num, hI1, hJ3, hB.trans hk3⟩
                case measure => simp [intOf]; omega
              · gi_wp2
                refine bodyPost_ret (results_none rfl _ _ _) rfl ?_
                exact ⟨⟨_, rfl⟩, .inr ⟨_, trivial, hJx3⟩⟩
          · have hI1 := stAt_on hI.out hkp p _ hpx.out (fun h => c2 h.2) rfl
            rw [if_neg c2] at hI1
            replace hI1 := Lib.hid hI1
            have hne : ((k : Int) == (f' : Int)) = false := by simp; omega
            gi_wp2
            go_roundw
            case rel => exact ⟨k + 1, f', (lf' - p), xs, by omega, by omega, fun _ => by omega, fun h => by omega, by omega, by omega, by first | rfl | go_num, by first | rfl | go_num, by go_num, hI1, hJ, hB⟩
            case measure => simp [intOf]; omega
        · have hne : ((k : Int) == (f' : Int)) = false := by simp; omega
          by_cases c2 : lf' < p
          · have hI1 := stAt_on hI.out hkp p _ hpx.out (fun h => c1 h.1) rfl
            rw [if_pos c2] at hI1
            replace hI1 := Lib.hid hI1
            gi_wp2
            go_roundw
            case rel => exact ⟨k + 1, f', -1, xs, by omega, by omega, fun _ => by omega, fun h => by omega, by omega, by omega, by first | rfl | go_num, by first | rfl | go_num, by go_num, hI1, hJ, hB⟩
            case measure => simp [intOf]; omega
          · have hI1 := stAt_on hI.out hkp p _ hpx.out (fun h => c1 h.1) rfl
            rw [if_neg c2] at hI1
            replace hI1 := Lib.hid hI1
            gi_wp2
            go_roundw
            case rel => exact ⟨k + 1, f', (lf' - p), xs, by omega, by omega, fun _ => by omega, fun h => by omega, by omega, by omega, by first | rfl | go_num, by first | rfl | go_num, by go_num, hI1, hJ, hB⟩
            case measure => simp [intOf]; omega
    · obtain rfl : k = l.length := by omega
      have hlast : f' ≤ l.length ∧ l.length ≤ l.length := ⟨hf1, Nat.le_refl _⟩
      obtain ⟨fn, tmps, assign, body, hy, hRd⟩ := hY xs ⟨(f', l.length), hlast⟩ wr hJ (by have := hI.out.2.2.2; omega)
      have hfin : List.map (fun x : Gr l.length => x.1) (xs ++ [(⟨(f', l.length), hlast⟩ : Gr l.length)]) = fin l b R := by
        obtain ⟨h1, h2, h3, h4⟩ := hI.out
        rw [fin, if_neg (by omega), h3, h1]; simp
      simp only [enc2] at hy
      gi_wp2
      refine hRd.mono ?_
      rintro e W3 (⟨rfl, hJ3, hk3⟩ | ⟨rfl, hJx3⟩)
      · gi_wp2
        go_end0
        exact ⟨⟨_, rfl⟩, .inl ⟨_, hfin, hJ3⟩⟩
      · gi_wp2
        go_end0
        exact ⟨⟨_, rfl⟩, .inr ⟨_, trivial, hJx3⟩⟩
theorem all1_nil_in (F : Fence) (n : Nat) (h8 : F.fn 19) (hro : F.round = none) (hn : 1 ≤ n) (lp Bs Bb Bh cap : Nat) (a : Option Addr) (J : List (Gr 0) → World → Prop)
    (W : World) (hcs : W.cell? ⟨Bs, 0, none⟩ = some (.slice a (0 : Nat) cap)) (h0 : J [] W) :
    CallsIn F n Try.prog 19 #[.func (.yield lp) #[] #[], .pointer (some ⟨Bs, 0, none⟩), .pointer (some ⟨Bb, 0, none⟩), .pointer (some ⟨Bh, 0, none⟩)] W fun e W' => (∃ v, e = .returned v) ∧ J [] W' := by
  refine callsIn_of_wp Try.func19 rfl h8 ?_ hro
  simp only [Try.ntmps19, List.size_toArray, List.length_cons, List.length_nil, Nat.reduceAdd, Nat.reduceSub, Array.replicate_succ, Array.replicate_zero, List.push_toArray, List.append_toArray, List.nil_append, List.cons_append]
  gi_wp2
  gi_loopw [5, 6, 11] (fun f lf i wr => f = .int .i64 0 ∧ lf = .int .i64 0 ∧ i = .int .i64 0 ∧ J [] wr ∧ wr = W) (fun _ _ _ _ => 0)
  case atStart => exact ⟨rfl, rfl, rfl, h0, rfl⟩
  case round =>
    obtain ⟨rfl, rfl, rfl, hJs, rfl⟩ := hrel
    gi_wp2
    go_end0
    exact ⟨⟨_, rfl⟩, hJs⟩
/-- **groups hands back a value that hands out the groups.** -/
theorem groups_stops (F : Fence) (n : Nat) (h8 : F.fn 19) (hro : F.round = none) (hn : 1 ≤ n) (Bs Bb Bh n₀ len cap : Nat) (a : Option Addr) (l : List Int) (b h : Int) (hl : l.length = len) (hreach : len * 8 ≤ 140737488351232) (w : World)
    (hBs : Bs < w.heap.size) (hBb : Bb < w.heap.size) (hBh : Bh < w.heap.size) (hcs : w.cell? ⟨Bs, 0, none⟩ = some (.slice a len cap)) (hcb : w.cell? ⟨Bb, 0, none⟩ = some (.int .i64 b)) (hch : w.cell? ⟨Bh, 0, none⟩ = some (.int .i64 h))
    (w0 : World) (hn₀ : w0.heap.size = n₀) (hw0 : Below n₀ w0 w) (hS : Sl w0 1 (.slice a len cap) len (cells64 l)) :
    SeqStopsK F n Try.prog 19 #[.pointer (some ⟨Bs, 0, none⟩), .pointer (some ⟨Bb, 0, none⟩), .pointer (some ⟨Bh, 0, none⟩)] (enc2 (L := l.length)) (Kq n₀ Bs Bb Bh) (fun ys => ys.map (·.1) = fin l b (wrap64 (b - pos h))) (fun _ => True) (l.length + 1) w := fun lp J Jx W hW _ _ hY h0 => by
  have hn1 : n₀ ≤ w.heap.size := by have := hw0.size; omega
  have hcs' := (hW.cell (p := ⟨Bs, 0, none⟩) hBs).trans hcs
  have hcb' := (hW.cell (p := ⟨Bb, 0, none⟩) hBb).trans hcb
  have hch' := (hW.cell (p := ⟨Bh, 0, none⟩) hBh).trans hch
  subst hl
  by_cases h1 : l.length = 0
  · obtain rfl : l = [] := List.eq_nil_of_length_eq_zero h1
    exact (all1_nil_in F n h8 hro hn lp Bs Bb Bh cap a J W hcs' h0).mono fun e W' ⟨he, hj⟩ => ⟨he, .inl ⟨[], by simp [fin], hj⟩⟩
  · obtain ⟨bl, off, cap', hv, _, _, hbl, hc⟩ := hS.at (by omega)
    injection hv with hv1 hv2 hv3
    subst hv1 hv3
    refine all1_in F n h8 hro hn lp Bs Bb Bh n₀ bl off cap l b h _ rfl (by omega) hreach (by omega) J Jx hY W hcs' hcb' hch' (fun j hj => ?_) h0
    have := hc j _ (cells64_get l j hj)
    exact ((hw0.trans (hW.mono hn1)).cell (p := ⟨bl, off + j, none⟩) (by show bl < n₀; omega)).trans this
end Go.Proofs.Ytnbfmmnbjjeecab
