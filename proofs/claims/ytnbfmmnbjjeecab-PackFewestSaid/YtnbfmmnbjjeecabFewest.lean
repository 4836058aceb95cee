/- missivelaw35.PackFewest: the walk. -/
import Derived.Test.YtnbfmmnbjjeecabTells
import Derived.Test.YtnbfmmnbjjeecabAhead
import Derived.Test.YtnbfmmnbjjeecabRefPack
namespace Go.Proofs.Ytnbfmmnbjjeecab
open Go.RowKit Go.Shelf
set_option linter.unusedVariables false
set_option maxRecDepth 100000 in
set_option maxHeartbeats 4000000 in
theorem PackFewest_in (a a2 : Option Addr) (len cap L cap2 : Nat) (l ns : List Int) (b h : Int) (w : World) (hl : l.length = len) (hns : ns.length = L) (wb : -9223372036854775808 ≤ b ∧ b ≤ 9223372036854775807) (wh : -9223372036854775808 ≤ h ∧ h ≤ 9223372036854775807) (hm : len ≤ 2 ^ 63 - 1) (hm2 : L ≤ 2 ^ 63 - 1) (hS : Sl w 1 (.slice a len cap) len (cells64 l)) (hN : Sl w 1 (.slice a2 L cap2) L (cells64 ns)) :
    Calls Try.prog 5 #[.slice a len cap, .int .i64 b, .int .i64 h, .slice a2 L cap2] w fun e w' => e = .returned (.bool true) ∧ Bel w w' := by
  obtain ⟨i3, hi3, hz30, hz31, hz32⟩ := info_parts info3'
  replace hl := Lib.hid hl
  replace hns := Lib.hid hns
  go_enter Try.func5, Try.ntmps5
  go_wp2_with fail
  refine (small_any _).mono ?_
  rintro e W1 ⟨rfl, b1⟩
  have S1 := hS.below b1
  have N1 := hN.below b1
  go_wp2_with fail
  refine (tame_any _ len l b h _ hl.out S1).mono ?_
  rintro e w' ⟨q, rfl, hq, rfl⟩
  cases q
  · go_wp2_with fail
    go_ret
    exact ⟨rfl, b1⟩
  · by_cases hL3 : 300 < L
    · go_wp2_with fail
      go_ret
      exact ⟨rfl, b1⟩
    · obtain ⟨t1, t2, t3, t4⟩ := hq rfl
      clear hq
      have hl2 := hl.out
      have h300 : len ≤ 300 := by omega
      clear hl2 t1
      replace t2 := Lib.hid t2
      obtain ⟨R, hR⟩ : ∃ R, wrap64 (b - pos h) = R := ⟨_, rfl⟩
      have hRb : 0 < b → R = b - pos h := fun h0 => by
        have h1 := pos_bd h; have h2 : pos h ≤ 9223372036854775807 := by unfold pos; omega
        rw [← hR, IntWalk.wrap64_in _ ⟨by omega, by omega⟩]
      obtain ⟨c, hc⟩ : ∃ c, FinCuts l b R c := fin_law l b R
      replace hR := Lib.hid hR
      replace hc := Lib.hid hc
      replace hRb := Lib.hid hRb
      clear hS hN
      go_wp2_with fail
      go_loopw [10, 11] (fun x i wr => ∃ k f : Nat, k ≤ L ∧ f ≤ len ∧ i = .int .i64 k ∧ x = .int .i64 f ∧ Hid (Ahead l b R c k f) ∧ Below w.heap.size w wr ∧ Below W1.heap.size W1 wr) (fun _ i _ => L - (intOf i).toNat)
      case atStart => exact ⟨0, 0, Nat.zero_le _, Nat.zero_le _, rfl, rfl, ahead_zero, b1, Below.refl _ _⟩
      case round =>
        obtain ⟨k, f, hk, hf, rfl, rfl, hA, hB, hB1⟩ := hrel
        by_cases hkL : k < L
        · obtain ⟨bn, on, han, hbn, hcn⟩ := N1.num (by omega)
          subst han
          obtain ⟨y, hy⟩ : ∃ y, ns.getD k 0 = y := ⟨_, rfl⟩
          have hcy : wr.cell? ⟨bn, on + k, none⟩ = some (.int .i64 y) := by rw [← hy, ← hcn k hkL]; exact hB1.cell (p := ⟨bn, on + k, none⟩) hbn
          clear hcn hy
          by_cases hy1 : y < 1
          · go_wp2_with fail
            go_ret
            exact ⟨rfl, hB⟩
          · by_cases hy2 : (len : Int) - f < y
            · go_wp2_with fail
              go_ret
              exact ⟨rfl, hB⟩
            · obtain ⟨n, rfl⟩ : ∃ n : Nat, y = n := ⟨y.toNat, by omega⟩
              have hn1 : 1 ≤ n := by omega
              have hfn : f + n ≤ len := by omega
              clear hy1
              have hy2' : decide ((len : Int) - f < n) = false := by simp; omega
              clear hy2
              obtain ⟨W0, rfl⟩ : ∃ W0 : World, W0 = wr := ⟨_, rfl⟩
              have S0 := S1.below hB1
              go_wp2_with fail
              go_loopw [13, 14] (fun g i wq => ∃ q : Nat, q ≤ n ∧ i = .int .i64 ((f : Int) + (q : Int)) ∧ wq.ownsRow W0.heap.size 3 1 g q (cells64 ((rng (f, f + n)).take q)) ∧ Below W0.heap.size W0 wq) (fun _ i _ => f + n - (intOf i).toNat)
              case atStart => exact ⟨0, Nat.zero_le _, by go_num, World.ownsRow_nil _ _ _ _, Below.refl _ _⟩
              case round =>
                obtain ⟨q, hq, rfl, hown, hBq⟩ := hrel
                by_cases hqn : q < n
                · have hsz := hBq.size
                  replace hBq := Lib.hid hBq
                  go_wp2_with (at_builtin; refine wpList_append_own _ rfl _ _ 22 rfl W0.heap.size 3 i3 (.int .i64 0) 1 8 Try.underlying22 hi3 hz30 hz31 hz32 rfl (by decide) _ _ _ rfl (hown.alloc _) ⟨wr.heap.size, 0, none⟩ 1 1 [.int .i64 ((f : Int) + (q : Int))] rfl rfl (cell_one_new _ _ _) (by simp [Value.oneCell']) (by unfold maxLen; omega) (by omega) (by simp; omega) ?_; intro v' w1 hown' hgrow _)
                  have hb1 : Below W0.heap.size W0 w1 := (hBq.out.alloc hsz _).trans (below_grown (hown.alloc _) (by simp; omega) hgrow)
                  go_roundw
                  case rel => exact ⟨q + 1, by omega, by go_num, by rw [rng_take_snoc f (f + n) q (by omega), ← cells64_append]; simpa [cells64] using hown', hb1⟩
                  case measure => simp [intOf]; omega
                · have hqe : q = n := by omega
                  subst hqe
                  have hszB := hB.size
                  have hBw : Below w.heap.size w wr := hB.trans (hBq.mono hszB)
                  have hBw1 : Below W1.heap.size W1 wr := hB1.trans (hBq.mono hB1.size)
                  rw [List.take_of_length_le (by rw [rng_length]; dsimp only; omega)] at hown
                  rcases own_cases hown with ⟨_, h0⟩ | ⟨gg, gc, rfl, hg1, hg2, hg3, hg4⟩
                  · omega
                  · have hG := Sl.of_own hown
                    have Sr := S0.below hBq
                    clear hBq
                    obtain ⟨x, hx⟩ : ∃ x, pos h + wsum l f q = x := ⟨_, rfl⟩
                    have hlo := hl.out
                    have hwb := wsum_bd l f t2.out q (by omega)
                    have hpb := pos_bd h
                    have hpb2 : pos h ≤ 1099511627776 := by unfold pos; omega
                    have hxb : 0 ≤ x ∧ x ≤ 1099511627776 * 301 := by
                      have : (q : Int) ≤ 300 := by omega
                      omega
                    have hways : (b ≤ 0) ∨ (0 < b ∧ q = 1) ∨ (0 < b ∧ 1 < q ∧ b < x) ∨ (0 < b ∧ 1 < q ∧ x ≤ b) := by omega
                    have hnext : ¬ (0 < b ∧ 1 < q ∧ b < x) → Ahead l b R c (k + 1) (f + q) := fun hno =>
                      ahead_next hc.out hA.out (by omega) (fun h0 h1 => by have := hRb.out h0; omega)
                    replace hnext := Lib.hid hnext
                    clear hwb hpb hpb2 hlo
                    replace hx := Lib.hid hx
                    replace hown := Lib.hid hown
                    rcases hways with c1 | ⟨c1, rfl⟩ | ⟨c1, c2, c3⟩ | ⟨c1, c2, c3⟩
                    all_goals
                      go_wp2_with (go_at_call 14; refine (weight_any _ len cap l _ _ gc f (f + _) h _ hl.out Sr hG (by omega) (by omega) (by omega) h300 t3 t2.out x hx.out).mono ?_; rintro e w' ⟨rfl, rfl⟩)
                      first
                      | (go_roundw
                         case rel => exact ⟨k + 1, _, by omega, by omega, by go_num, by go_num, hnext.out (by omega), hBw, hBw1⟩
                         case measure => simp [intOf]; omega)
                      | (go_ret
                         exact ⟨rfl, hBw⟩)
        · obtain rfl : k = L := by omega
          by_cases hfl : f = len
          · subst hfl
            have hend : (fin l b R).length ≤ k := ahead_end hc.out (by rw [hl.out]; exact hA.out)
            have S0 := S1.below hB1
            obtain ⟨G, hG⟩ : ∃ G, (fin l b R).length = G := ⟨_, rfl⟩
            rw [hG] at hend
            replace hG := Lib.hid hG
            go_wp2_with fail
            refine (Pack_any a f cap l b h _ hl.out h300 S0).mono ?_
            rw [hR.out]
            rintro e W2 ⟨⟨v2, rfl, d2⟩, b2⟩
            have B2 : Below w.heap.size w W2 := hB.trans (b2.mono hB.size)
            obtain ⟨a2, cp2, rfl, hv1, hv2⟩ := d2.val
            rw [List.length_map, hG.out] at hv1 ⊢
            clear b2 d2
            unfold maxLen at hv2
            go_wp2_with fail
            go_ret
            exact ⟨rfl, B2⟩
          · have hne : ((f : Int) == (len : Int)) = false := by simp; omega
            go_wp2_with fail
            go_ret
            exact ⟨rfl, hB⟩
theorem PackFewest_walk (a : Option Addr) (len cap : Nat) (zs : List Int) (b h : Int) (a2 : Option Addr) (L cap2 : Nat) (ns : List Int) (w : World) (hr : IsRow .i64 w a len cap zs) (wb : (Lit.int .i64 b).wf = true) (wh : (Lit.int .i64 h).wf = true) (hr2 : IsRow .i64 w a2 L cap2 ns) :
    Calls Try.prog 5 #[.slice a len cap, .int .i64 b, .int .i64 h, .slice a2 L cap2] w fun e w' => e = .returned (.bool true) ∧ Bel w w' := by
  obtain ⟨hl, hm⟩ := row_len hr
  obtain ⟨hl2, hm2⟩ := row_len hr2
  unfold maxLen at hm hm2
  exact PackFewest_in a a2 len cap L cap2 _ _ b h w hl hl2 (bd_of_wf wb) (bd_of_wf wh) hm hm2 (isRow_sl hr) (isRow_sl hr2)
end Go.Proofs.Ytnbfmmnbjjeecab
