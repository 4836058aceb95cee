/- missivelaw35.PackFits: the walk. -/
import Derived.Test.YtnbfmmnbjjeecabTells
import Derived.Test.YtnbfmmnbjjeecabFinLaw
namespace Go.Proofs.Ytnbfmmnbjjeecab
open Go.RowKit Go.Shelf
set_option linter.unusedVariables false
theorem rng_pair (x : Nat × Nat) (k : Nat) (hk : k < x.2 - x.1) : (rng x).getD k 0 = (x.1 : Int) + k := by
  obtain ⟨f, u⟩ := x; rw [rng_getD f u k hk]; push_cast; rfl
set_option maxRecDepth 100000 in
set_option maxHeartbeats 4000000 in
theorem PackFits_in (a : Option Addr) (len cap : Nat) (l : List Int) (b h : Int) (w : World) (hl : l.length = len) (wb : -9223372036854775808 ≤ b ∧ b ≤ 9223372036854775807) (wh : -9223372036854775808 ≤ h ∧ h ≤ 9223372036854775807) (hm : len ≤ 2 ^ 63 - 1) (hS : Sl w 1 (.slice a len cap) len (cells64 l)) :
    Calls Try.prog 4 #[.slice a len cap, .int .i64 b, .int .i64 h] w fun e w' => e = .returned (.bool true) ∧ Bel w w' := by
  replace hl := Lib.hid hl
  go_enter Try.func4, Try.ntmps4
  go_wp2_with fail
  refine (small_any _).mono ?_
  rintro e W1 ⟨rfl, b1⟩
  have S1 := hS.below b1
  go_wp2_with fail
  refine (tame_any _ len l b h _ hl.out S1).mono ?_
  rintro e w' ⟨q, rfl, hq, rfl⟩
  cases q
  · go_wp2_with fail
    go_ret
    exact ⟨rfl, b1⟩
  · obtain ⟨t1, t2, t3, t4⟩ := hq rfl
    clear hq
    have hl2 := hl.out
    have h300 : len ≤ 300 := by omega
    clear hl2 t1
    replace t2 := Lib.hid t2
    go_wp2_with fail
    refine (Pack_any a len cap l b h _ hl.out h300 S1).mono ?_
    obtain ⟨c, hc1, hc2⟩ := fin_law l b (wrap64 (b - pos h))
    obtain ⟨R, hR⟩ : ∃ R, wrap64 (b - pos h) = R := ⟨_, rfl⟩
    have hRb : 0 < b → R = b - pos h := fun h0 => by
      have h1 := pos_bd h; have h2 : pos h ≤ 9223372036854775807 := by unfold pos; omega
      rw [← hR, IntWalk.wrap64_in _ ⟨by omega, by omega⟩]
    rw [hR] at hc1 hc2 ⊢
    clear hR
    obtain ⟨gs, hgs⟩ : ∃ gs, fin l b R = gs := ⟨_, rfl⟩
    rw [hgs] at hc1 hc2 ⊢
    clear hgs
    rintro e W2 ⟨⟨v2, rfl, d2⟩, b2⟩
    have S2 := S1.below b2
    have B2 : Below w.heap.size w W2 := b1.trans (b2.mono b1.size)
    clear b1 b2 S1 hS
    obtain ⟨G, hG⟩ : ∃ G, gs.length = G := ⟨_, rfl⟩
    have hle : ∀ i, i ≤ G → c i ≤ len := fun i hi => by rw [← hl.out]; exact hc1.le (by omega)
    have hcG : c G = len := by rw [← hl.out, ← hG]; exact hc1.2.1
    have hc0 := hc1.1
    have hGl : G ≤ len := by
      have : ∀ i, i ≤ G → i ≤ c i := fun i => by
        induction i with
        | zero => omega
        | succ i ih => intro hi; have := (hc1.2.2 i (by omega)).2; have := ih (by omega); omega
      have := this G (Nat.le_refl _); omega
    obtain ⟨a2, cp2, rfl, hv1, hv2⟩ := d2.val
    replace hle := Lib.hid hle
    replace hcG := Lib.hid hcG
    replace hc0 := Lib.hid hc0
    replace hc1 := Lib.hid hc1
    replace hc2 := Lib.hid hc2
    replace hRb := Lib.hid hRb
    rw [List.length_map, hG] at hv1 ⊢
    go_wp2_with fail
    go_loop [9, 10] (fun x i => ∃ k : Nat, k ≤ G ∧ i = .int .i64 k ∧ x = .int .i64 (c k : Nat)) (fun _ i => G - (intOf i).toNat)
    case atStart => exact ⟨0, Nat.zero_le _, rfl, by rw [hc0.out]; rfl⟩
    case round =>
      obtain ⟨k, hk, rfl, rfl⟩ := hrel
      by_cases hkG : k < G
      · obtain ⟨f, hf⟩ : ∃ f, c k = f := ⟨_, rfl⟩
        obtain ⟨u, hu⟩ : ∃ u, c (k + 1) = u := ⟨_, rfl⟩
        have hg := hc1.out.2.2 k (by omega)
        have hul := hle.out (k + 1) (by omega)
        have hFF := hc2.out k (by omega)
        rw [hf, hu] at hg hFF
        rw [hu] at hul
        obtain ⟨hg1, hfu⟩ := hg
        obtain ⟨hFit, hFull⟩ := hFF
        obtain ⟨bv, ov, cv, hv, hbv, hgv⟩ := d2.at (by simp; omega)
        rw [List.length_map, hG] at hv
        injection hv with hv _ hv'
        subst hv hv'
        obtain ⟨ag, cg, hcell, hm1, hm2, hSg⟩ := hgv k (by simp; omega)
        have hgd : ((gs.map rng).getD k []) = rng (f, u) := by
          rw [List.getD_eq_getElem?_getD, List.getElem?_map, hg1]; rfl
        rw [hgd, rng_length] at hcell hm1 hSg
        dsimp only at hcell hm1 hSg
        obtain ⟨m, hmm⟩ : ∃ m, u - f = m := ⟨_, rfl⟩
        rw [hmm] at hcell hm1 hSg
        obtain ⟨bg, og, rfl, hbg, hcg⟩ := hSg.num (by omega)
        have hcg2 : ∀ j, j < m → W2.cell? ⟨bg, og + j, none⟩ = some (.int .i64 ((f : Int) + (j : Int))) := fun j hj => by
          rw [hcg j hj, rng_pair (f, u) j (by dsimp only; omega)]
        rw [hf]
        replace hcg2 := Lib.hid hcg2
        replace hFit := Lib.hid hFit
        replace hFull := Lib.hid hFull
        replace hf := Lib.hid hf
        replace hu := Lib.hid hu
        clear hcg hgv hgd hg1
        go_wp2_with fail
        go_loop [9, 11] (fun x i => ∃ j : Nat, j ≤ m ∧ i = .int .i64 j ∧ x = .int .i64 ((f : Int) + (j : Int))) (fun _ i => m - (intOf i).toNat)
        case atStart => exact ⟨0, Nat.zero_le _, rfl, by simp⟩
        case round =>
          obtain ⟨j, hj, rfl, rfl⟩ := hrel
          by_cases hjm : j < m
          · have hcj := hcg2.out j hjm
            go_wp2_with fail
            go_round
            case rel => exact ⟨j + 1, by omega, by go_num, by go_num⟩
            case measure => simp [intOf]; omega
          · obtain rfl : j = m := by omega
            obtain rfl : u = f + j := by omega
            obtain ⟨x, hx⟩ : ∃ x, pos h + wsum l f j = x := ⟨_, rfl⟩
            have hlo := hl.out
            have hwb := wsum_bd l f t2.out j (by omega)
            have hpb := pos_bd h
            have hpb2 : pos h ≤ 1099511627776 := by unfold pos; omega
            have hxb : 0 ≤ x ∧ x ≤ 1099511627776 * 301 := by
              have : (j : Int) ≤ 300 := by omega
              omega
            obtain ⟨bs, os, hax, hbs, hcs⟩ := S2.num (by omega)
            subst hax
            obtain ⟨y, hy⟩ : ∃ y, l.getD f 0 = y := ⟨_, rfl⟩
            have hcy := hcs f (by omega)
            rw [hy] at hcy
            obtain ⟨z, hz⟩ : ∃ z, l.getD (f + j) 0 = z := ⟨_, rfl⟩
            have hcz : f + j < len → W2.cell? ⟨bs, os + (f + j), none⟩ = some (.int .i64 z) := fun h1 => by rw [← hz]; exact hcs (f + j) h1
            have hzT : f + j < len → z ≤ 1099511627776 := fun h1 => by rw [← hz]; exact t2.out (f + j) (by omega)
            obtain ⟨p, hp⟩ : ∃ p, pos z = p := ⟨_, rfl⟩
            have hp0 : 0 ≤ p := by rw [← hp]; exact (pos_bd z).1
            have hpT : f + j < len → p ≤ 1099511627776 := fun h1 => by have := hzT h1; rw [← hp]; unfold pos; omega
            have hmz : (if z < 0 then 0 else z) = p := by rw [← hp]; unfold pos; split <;> omega
            have hg0 := hcg2.out 0 (by omega)
            simp only [Int.add_zero, Nat.add_zero, Int.ofNat_zero] at hg0
            obtain ⟨q, hq⟩ : ∃ q, alone y b h = q := ⟨_, rfl⟩
            have hways : (b ≤ 0 ∧ f + j = len) ∨ ((0 < b ∧ ((j = 1 ∧ b < x ∧ q = true) ∨ (j = 1 ∧ x ≤ b ∧ q = false) ∨ (j ≠ 1 ∧ x ≤ b))) ∧ ((f + j = len) ∨ (f + j < len ∧ b < x + p))) := by
              rcases Int.lt_or_le 0 b with h0 | h0
              · right
                have hR0 := hRb.out h0
                have hFi := hFit.out h0
                dsimp only at hFi
                rw [show f + j - f = j by omega] at hFi
                refine ⟨⟨h0, ?_⟩, ?_⟩
                · by_cases hj1 : j = 1
                  · subst hj1
                    have hw1 : wsum l f 1 = pos y := by rw [← hy]; simp [wsum]
                    rw [← hq]
                    rcases Int.lt_or_le b x with h2 | h2
                    · exact .inl ⟨rfl, h2, by simp [alone]; omega⟩
                    · exact .inr (.inl ⟨rfl, h2, by simp [alone]; omega⟩)
                  · exact .inr (.inr ⟨hj1, by omega⟩)
                · rcases Nat.lt_or_ge (f + j) len with h2 | h2
                  · have hFu := (hFull.out (by omega)).2
                    dsimp only at hFu
                    rw [show f + j - f = j by omega, hz, hp] at hFu
                    exact .inr ⟨h2, by omega⟩
                  · exact .inl (by omega)
              · left
                refine ⟨h0, ?_⟩
                rcases Nat.lt_or_ge (f + j) len with h2 | h2
                · have hFu := (hFull.out (by omega)).1; omega
                · omega
            clear hwb hpb hpb2 hzT
            replace hx := Lib.hid hx
            replace hq := Lib.hid hq
            replace hy := Lib.hid hy
            replace hz := Lib.hid hz
            replace hp := Lib.hid hp
            replace hmm := Lib.hid hmm
            replace hcs := Lib.hid hcs
            clear hlo
            go_wp2_with fail
            refine (weight_any _ len cap l _ j cg f (f + j) h _ hl.out S2 hSg hmm.out hul (by omega) h300 t3 t2.out x hx.out).mono ?_
            rintro e w' ⟨rfl, rfl⟩
            rcases hways with ⟨c1, c2⟩ | ⟨⟨c1, ⟨rfl, c3, rfl⟩ | ⟨rfl, c3, rfl⟩ | ⟨c3, c4⟩⟩, c5 | ⟨c5, c6⟩⟩
            all_goals
              try (have hcz2 := hcz (by assumption))
              try (have hpT2 := hpT (by assumption))
              clear hcz hpT
              try (have c2' := Lib.hid c2; have c2'' : f + j ≥ len := (by omega); clear c2)
              try (have c5' := Lib.hid c5; have c5'' : f + j ≥ len := (by omega); clear c5)
              go_wp2_with (go_at_call 11; refine (Alone_any y b h _ wb.2 wh.2).mono ?_; rw [hq.out]; rintro e w' ⟨rfl, rfl⟩)
              go_round
              case rel => exact ⟨k + 1, by omega, by go_num, by rw [hu.out]; go_num⟩
              case measure => simp [intOf]; omega
      · obtain rfl : k = G := by omega
        rw [hcG.out]
        go_wp2_with fail
        go_ret
        exact ⟨rfl, B2⟩
theorem PackFits_walk (a : Option Addr) (len cap : Nat) (zs : List Int) (b h : Int) (w : World) (hr : IsRow .i64 w a len cap zs) (wb : (Lit.int .i64 b).wf = true) (wh : (Lit.int .i64 h).wf = true) :
    Calls Try.prog 4 #[.slice a len cap, .int .i64 b, .int .i64 h] w fun e w' => e = .returned (.bool true) ∧ Bel w w' := by
  obtain ⟨hl, hm⟩ := row_len hr
  unfold maxLen at hm
  exact PackFits_in a len cap _ b h w hl (bd_of_wf wb) (bd_of_wf wh) hm (isRow_sl hr)
end Go.Proofs.Ytnbfmmnbjjeecab
