/- missiveref35.Pack: the walk. -/
import Derived.Test.YtnbfmmnbjjeecabRefRows
import Derived.Maps.AppendAt
namespace Go.Proofs.Ytnbfmmnbjjeecab
open Go.RowKit Go.Shelf
set_option linter.unusedVariables false
/-- The inner loop's state, at whatever budget. -/
def InB (l : List Int) (b R : Int) (f u : Nat) (lf : Int) (ys : List (Nat × Nat)) : Prop :=
  (0 < b ∧ InAt l b R f u lf ys) ∨ (¬ 0 < b ∧ f = 0 ∧ ys = [])
def CutB (l : List Int) (b R : Int) (k : Nat) (ys : List (Nat × Nat)) : Prop := if k = l.length then ys = fin l b R else (0 < b ∧ CutAt l b R k ys) ∨ (¬ 0 < b ∧ k = 0 ∧ ys = [])
theorem cutB_start {l : List Int} {b R : Int} : CutB l b R 0 [] := by
  unfold CutB
  by_cases h0 : 0 = l.length
  · rw [if_pos h0]; simp [fin, ← h0]
  · rw [if_neg h0]
    by_cases hb : 0 < b
    · exact .inl ⟨hb, .inl ⟨rfl, rfl⟩⟩
    · exact .inr ⟨hb, rfl, rfl⟩
theorem inB_start {l : List Int} {b R : Int} {k : Nat} {ys : List (Nat × Nat)} (h : CutB l b R k ys) (hk : k < l.length) : InB l b R k k R ys := by
  unfold CutB at h
  rw [if_neg (by omega)] at h
  rcases h with ⟨hb, h⟩ | ⟨hb, rfl, rfl⟩
  · exact .inl ⟨hb, .inl ⟨rfl, rfl, h⟩⟩
  · exact .inr ⟨hb, rfl, rfl⟩
theorem inB_step {l : List Int} {b R lf lf' p : Int} {f u : Nat} {ys : List (Nat × Nat)} (h : InB l b R f u lf ys) (hp : pos (l.getD u 0) = p) (hc : b ≤ 0 ∨ u = f ∨ (0 ≤ lf ∧ p ≤ lf)) (hlf : 0 < b → lf' = if lf < p then -1 else lf - p) : InB l b R f (u + 1) lf' ys := by
  rcases h with ⟨hb, h⟩ | ⟨hb, h1, h2⟩
  · refine .inl ⟨hb, ?_⟩
    rw [hlf hb, ← hp]
    exact inAt_step h hb (by rw [hp]; omega)
  · exact .inr ⟨hb, h1, h2⟩
theorem inB_out {l : List Int} {b R lf p : Int} {f u : Nat} {ys : List (Nat × Nat)} (h : InB l b R f u lf ys) (hp : pos (l.getD u 0) = p) (hfu : f ≤ u) (hul : u ≤ l.length) (hfl : f < l.length) (hc : u = l.length ∨ (u < l.length ∧ 0 < b ∧ u ≠ f ∧ (lf < 0 ∨ (0 ≤ lf ∧ lf < p)))) : CutB l b R u (ys ++ [(f, u)]) := by
  have hp0 := (pos_bd (l.getD u 0)).1
  unfold CutB
  by_cases hu : u = l.length
  · rw [if_pos hu]
    subst hu
    rcases h with ⟨hb, h⟩ | ⟨hb, rfl, rfl⟩
    · exact (inAt_end h hfl).symm
    · rw [fin_wide hb (by omega)]; rfl
  · rw [if_neg hu]
    rcases h with ⟨hb, h⟩ | ⟨hb, _, _⟩
    · exact .inl ⟨hb, inAt_exit h hb (by omega) (by rw [hp]; omega)⟩
    · omega
theorem rng_take_snoc (f u q : Nat) (h : f + q < u) : (rng (f, u)).take (q + 1) = (rng (f, u)).take q ++ [((f + q : Nat) : Int)] := by
  simp [rng, ← List.map_take, List.take_range, Nat.min_eq_left (show q + 1 ≤ u - f by omega), Nat.min_eq_left (show q ≤ u - f by omega), List.range_succ]
theorem RowsOf.bel {n₁ : Nat} {W W' : World} {ys : List (Nat × Nat)} {vs : List Value} (h : RowsOf n₁ W ys vs) (hb : Below W.heap.size W W') : RowsOf n₁ W' ys vs := fun i x hx => by
  obtain ⟨u, h3, h4⟩ := h i x hx
  exact ⟨u, h3, own_bel h4 hb⟩
set_option maxRecDepth 100000 in
set_option maxHeartbeats 2000000 in
theorem RefPack_in (a : Option Addr) (len cap : Nat) (l : List Int) (b h R : Int) (w : World) (hl : l.length = len) (h300 : len ≤ 300) (hb1 : -9223372036854775808 ≤ b) (hb2 : b ≤ 9223372036854775807) (hh : h ≤ 9223372036854775807) (hR1 : -9223372036854775808 ≤ R) (hR2 : R ≤ 9223372036854775807)
    (hrest : ∀ W, Calls Try.prog 17 #[.int .i64 b, .int .i64 h] W fun e w' => e = .returned (.int .i64 R) ∧ W = w') (hpos : 0 < b → -9223372036854775807 ≤ R)
    (hS : Sl w 1 (.slice a len cap) len (cells64 l)) :
    Calls Try.prog 10 #[.slice a len cap, .int .i64 b, .int .i64 h] w (DivPost ((fin l b R).map rng) w) := by
  obtain ⟨i3, hi3, hz30, hz31, hz32⟩ := info_parts info3'
  obtain ⟨i22, hi22, hz220, hz221, hz222⟩ := info_parts info22'
  replace hl := Lib.hid hl
  replace hpos := Lib.hid hpos
  replace hS := Lib.hid hS
  go_enter Try.func10, Try.ntmps10
  go_wp2_with fail
  go_loopw [7, 8] (fun v f wr => ∃ (k : Nat) (ys : List (Nat × Nat)), k ≤ len ∧ f = .int .i64 k ∧ ys.length ≤ k ∧ OutAt w.heap.size wr v ys ∧ Hid (CutB l b R k ys) ∧ Below w.heap.size w wr) (fun _ f _ => len - (intOf f).toNat)
  case atStart =>
    exact ⟨0, [], Nat.zero_le _, rfl, Nat.le_refl _, OutAt.nil _ _, cutB_start, Below.refl _ _⟩
  case round =>
    obtain ⟨k, ys, hk, rfl, hyk, hO, hI, hB⟩ := hrel
    by_cases hkl : k < len
    · obtain ⟨bs, os, hax, hbs, hcs⟩ := hS.out.num (by omega)
      subst hax
      have hcs2 : ∀ j, j < len → wr.cell? ⟨bs, os + j, none⟩ = some (.int .i64 (l.getD j 0)) := fun j hj => (hB.cell (p := ⟨bs, os + j, none⟩) hbs).trans (hcs j hj)
      clear hcs
      replace hcs2 := Lib.hid hcs2
      go_wp2_with (go_at_call 17; refine (hrest _).mono ?_; rintro e w1 ⟨rfl, rfl⟩)
      go_loopw [9, 10] (fun lf u wq => ∃ (j : Nat) (L : Int), k ≤ j ∧ j ≤ len ∧ lf = .int .i64 L ∧ u = .int .i64 j ∧ (-9223372036854775808 ≤ L ∧ L ≤ 9223372036854775807) ∧ (0 < b → -9223372036854775807 ≤ L) ∧ Hid (InB l b R k j L ys) ∧ wr = wq) (fun _ u _ => len - (intOf u).toNat)
      case atStart => exact ⟨k, R, Nat.le_refl _, hk, rfl, rfl, ⟨hR1, hR2⟩, hpos.out, inB_start hI.out (by rw [hl.out]; exact hkl), rfl⟩
      case round =>
        obtain ⟨j, L, hkj, hj, rfl, rfl, ⟨hL1, hL2⟩, hL3, hIn, rfl⟩ := hrel
        obtain ⟨y, hy⟩ : ∃ y, l.getD j 0 = y := ⟨_, rfl⟩
        obtain ⟨p, hp⟩ : ∃ p, pos y = p := ⟨_, rfl⟩
        have hp0 : 0 ≤ p := by rw [← hp]; exact (pos_bd y).1
        have hcell : j < len → wr.cell? ⟨bs, os + j, none⟩ = some (.int .i64 y) := fun hj => by rw [← hy]; exact hcs2.out j hj
        replace hp := Lib.hid hp
        replace hy := Lib.hid hy
        by_cases hstep : j < len ∧ (b ≤ 0 ∨ j = k ∨ (0 ≤ L ∧ p ≤ L))
        · obtain ⟨hjl, hst⟩ := hstep
          have hcell2 := hcell hjl
          clear hcell
          have hways : (b ≤ 0 ∧ j = k) ∨ (b ≤ 0 ∧ j ≠ k) ∨ (0 < b ∧ j = k ∧ p ≤ L) ∨ (0 < b ∧ j = k ∧ L < p) ∨ (0 < b ∧ j ≠ k ∧ 0 ≤ L ∧ p ≤ L) := by omega
          have hIn2 : Hid (∀ L', (0 < b → L' = if L < p then -1 else L - p) → InB l b R k (j + 1) L' ys) := fun L' h => inB_step hIn.out (by rw [hy.out]; exact hp.out) hst h
          clear hst hIn
          rcases hways with ⟨c1, rfl⟩ | ⟨c1, c2⟩ | ⟨c1, rfl, c3⟩ | ⟨c1, rfl, c3⟩ | ⟨c1, c2, c3, c4⟩
          all_goals
            first
            | (have d1 : decide (0 < b) = false := by simp; omega
               have d2 : decide (b ≤ 0) = true := by simp; omega)
            | (have d1 : decide (0 < b) = true := by simp; omega
               have d2 : decide (b ≤ 0) = false := by simp; omega)
            go_wp2_with (go_at_call 18; refine (size_any _ _).mono ?_; rw [hp.out]; rintro e w1 ⟨rfl, rfl⟩)
            go_roundw
            case rel =>
              first
              | exact ⟨j + 1, _, by omega, by omega, rfl, by go_num, by first | exact wrap64_bd _ | omega, by omega, hIn2.out _ (by intro h0; split <;> omega), trivial⟩
              | exact ⟨j + 1, _, by omega, by omega, rfl, by go_num, by first | exact wrap64_bd _ | omega, by omega, hIn2.out _ (by omega), trivial⟩
            case measure => simp [intOf]; omega
        · have hout : j = len ∨ (j < len ∧ 0 < b ∧ j ≠ k ∧ (L < 0 ∨ (0 ≤ L ∧ L < p))) := by omega
          have hC : Hid (CutB l b R j (ys ++ [(k, j)])) := inB_out (p := p) hIn.out (by rw [hy.out]; exact hp.out) hkj (by rw [hl.out]; exact hj) (by rw [hl.out]; exact hkl) (by rw [hl.out]; exact hout)
          clear hstep hIn
          have hkj2 : k < j := by omega
          have hways : (j = len) ∨ (j < len ∧ 0 < b ∧ j ≠ k ∧ L < 0) ∨ (j < len ∧ 0 < b ∧ j ≠ k ∧ 0 ≤ L ∧ L < p) := by omega
          clear hout
          replace hO := Lib.hid hO
          rcases hways with rfl | ⟨c1, c2, c3, c4⟩ | ⟨c1, c2, c3, c4, c5⟩
          all_goals
            try (have e1 : ((j : Int) == (k : Int)) = false := by simp; omega)
            try (have e2 : decide (0 ≤ L) = false := by simp; omega)
            try (have e3 : decide (0 ≤ L) = true := by simp; omega)
            try (have e4 : decide (p ≤ L) = false := by simp; omega)
            try (have e5 : decide (b ≤ 0) = false := by simp; omega)
            first
            | (have hcell2 := hcell (by assumption); clear hcell)
            | clear hcell
            go_wp2_with (go_at_call 18; refine (size_any _ _).mono ?_; rw [hp.out]; rintro e w1 ⟨rfl, rfl⟩)
            obtain ⟨W0, rfl⟩ : ∃ W0 : World, W0 = wr := ⟨_, rfl⟩
            go_loopw [11, 12] (fun g i wq => ∃ q : Nat, k + q ≤ j ∧ i = .int .i64 ((k : Int) + (q : Int)) ∧ wq.ownsRow W0.heap.size 3 1 g q (cells64 ((rng (k, j)).take q)) ∧ Below W0.heap.size W0 wq) (fun _ i _ => j - (intOf i).toNat)
            case atStart => exact ⟨0, by omega, by go_num, World.ownsRow_nil _ _ _ _, Below.refl _ _⟩
            case round =>
              obtain ⟨q, hq, rfl, hown, hBq⟩ := hrel
              by_cases hqj : k + q < j
              · have hsz := hBq.size
                replace hBq := Lib.hid hBq
                go_wp2_with (at_builtin; refine wpList_append_own _ rfl _ _ 22 rfl W0.heap.size 3 i3 (.int .i64 0) 1 8 Try.underlying22 hi3 hz30 hz31 hz32 rfl (by decide) _ _ _ rfl (hown.alloc _) ⟨wr.heap.size, 0, none⟩ 1 1 [.int .i64 ((k : Int) + (q : Int))] rfl rfl (cell_one_new _ _ _) (by simp [Value.oneCell']) (by unfold maxLen; omega) (by omega) (by simp; omega) ?_; intro v' w1 hown' hgrow _)
                have hb1 : Below W0.heap.size W0 w1 := (hBq.out.alloc hsz _).trans (below_grown (hown.alloc _) (by simp; omega) hgrow)
                go_roundw
                case rel => exact ⟨q + 1, by omega, by go_num, by rw [rng_take_snoc k j q (by omega), ← cells64_append]; simpa [cells64] using hown', hb1⟩
                case measure => simp [intOf]; omega
              · obtain ⟨vs, ho1, ho2⟩ := hO.out.bel hBq
                have hsz := hBq.size
                have hszB := hB.size
                have hBw : Below w.heap.size w wr := hB.trans (hBq.mono hszB)
                have hqe : q = j - k := by omega
                rw [List.take_of_length_le (by rw [rng_length]; omega)] at hown
                rcases own_cases hown with ⟨_, h0⟩ | ⟨gg, gc, rfl, hg1, hg2, hg3, hg4⟩
                · omega
                · clear hBq
                  replace hqe := Lib.hid hqe
                  replace ho2 := Lib.hid ho2
                  replace hown := Lib.hid hown
                  go_wp2_with (at_builtin; refine wpList_append_own _ rfl _ _ 25 rfl w.heap.size 22 i22 (.slice none 0 0) 1 24 Try.underlying25 hi22 hz220 hz221 hz222 rfl (by decide) _ _ _ rfl (ho1.alloc _) ⟨wr.heap.size, 0, none⟩ 1 1 [.slice (some ⟨gg, 0, none⟩) q gc] rfl rfl (cell_one_new _ _ _) (by simp [Value.oneCell']) (by unfold maxLen; omega) (by omega) (by simp; omega) ?_; intro v' w1 hown' hgrow _)
                  have hb1 : Below w.heap.size w w1 := (hBw.alloc (by omega) _).trans (below_grown (ho1.alloc _) (by simp; omega) hgrow)
                  have hO2 : OutAt w.heap.size w1 v' (ys ++ [(k, j)]) := OutAt.snoc (ho1.alloc _) (ho2.out.bel ((Below.refl _ _).alloc (Nat.le_refl _) _)) (own_mono (by rw [← hqe.out]; exact hown.out.alloc _) (by omega)) hown' hgrow
                  go_roundw
                  case rel => exact ⟨j, _, by omega, by go_num, by simp; omega, hO2, hC, hb1⟩
                  case measure => simp [intOf]; omega
    · obtain rfl : k = len := by omega
      have hI2 := hI.out
      unfold CutB at hI2
      rw [if_pos hl.out.symm] at hI2
      subst hI2
      go_wp2_with fail
      refine bodyPost_ret (by simp [results, Try.results10, go_sem]; try rfl) rfl ?_
      exact ⟨⟨_, rfl, hO.div⟩, hB⟩
end Go.Proofs.Ytnbfmmnbjjeecab
