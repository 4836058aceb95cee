/- missivelaw35.weight at a group of adjacent indices. -/
import Derived.Test.YtnbfmmnbjjeecabPackAny
namespace Go.Proofs.Ytnbfmmnbjjeecab
open Go.RowKit Go.Shelf
set_option linter.unusedVariables false
theorem rng_getD (f u k : Nat) (hk : k < u - f) : (rng (f, u)).getD k 0 = ((f + k : Nat) : Int) := by
  simp [rng, List.getD_eq_getElem?_getD, hk]
set_option maxHeartbeats 1000000 in
theorem weight_any (a : Option Addr) (len cap : Nat) (l : List Int) (ga : Option Addr) (m gcap f u : Nat) (h : Int) (w : World) (hl : l.length = len) (hS : Sl w 1 (.slice a len cap) len (cells64 l)) (hG : Sl w 1 (.slice ga m gcap) m (cells64 (rng (f, u)))) (hm : u - f = m) (hu : u ≤ len) (hfu : f ≤ u) (h300 : len ≤ 300) (hh : h ≤ 1099511627776) (hT : ∀ j, j < l.length → l.getD j 0 ≤ 1099511627776) (x : Int) (hx : pos h + wsum l f m = x) :
    Calls Try.prog 14 #[.slice a len cap, .slice ga m gcap, .int .i64 h, .int .i64 1125899906842624] w fun e w' => e = .returned (.int .i64 x) ∧ w = w' := by
  obtain ⟨ph, hph⟩ : ∃ p, pos h = p := ⟨_, rfl⟩
  have hp0 := (pos_bd h).1
  have hp1 : pos h ≤ 1099511627776 := by unfold pos; omega
  have hmh : (if h < 0 then 0 else h) = ph := by rw [← hph]; unfold pos; split <;> omega
  rw [hph] at hx hp0 hp1
  replace hph := Lib.hid hph
  by_cases h0 : m = 0
  · subst h0
    have hx2 : ph = x := by rw [← hx]; simp [wsum]
    subst hx2
    go_enter Try.func14, Try.ntmps14
    go_wp2_with fail
    all_goals
      go_loop [9, 10] (fun n i => n = .int .i64 ph ∧ i = .int .i64 (0 : Nat)) (fun _ _ => 0)
      case atStart => first | exact ⟨rfl, rfl⟩ | exact ⟨by go_num, rfl⟩
      case round =>
        obtain ⟨rfl, rfl⟩ := hrel
        go_wp2_with fail
        all_goals
          go_ret
          exact ⟨rfl, rfl⟩
  · obtain ⟨bg, og, rfl, hbg, hcg⟩ := hG.num (by omega)
    obtain ⟨bs, os, cs, hvs, _, _, hbs, hcs⟩ := hS.at (by omega)
    injection hvs with hvs _ _
    subst hvs
    replace hcg := Lib.hid hcg
    replace hcs := Lib.hid hcs
    go_enter Try.func14, Try.ntmps14
    go_wp2_with fail
    all_goals
      go_loop [9, 10] (fun n i => ∃ k : Nat, k ≤ m ∧ n = .int .i64 (ph + wsum l f k) ∧ i = .int .i64 k) (fun _ i => m - (intOf i).toNat)
      case atStart => first | exact ⟨0, Nat.zero_le _, by simp [wsum], rfl⟩ | exact ⟨0, Nat.zero_le _, by simp [wsum]; omega, rfl⟩
      case round =>
        obtain ⟨k, hk, rfl, rfl⟩ := hrel
        have hb := wsum_bd l f hT k (by omega)
        obtain ⟨s, hs⟩ : ∃ s, wsum l f k = s := ⟨_, rfl⟩
        rw [hs] at hb
        by_cases hkm : k < m
        · have h1 := hcg.out k hkm
          rw [rng_getD f u k (by omega)] at h1
          have h2 := hcs.out (f + k) _ (cells64_get l (f + k) (by omega))
          have hn := wsum_bd l f hT (k + 1) (by omega)
          have hT2 := hT (f + k) (by omega)
          obtain ⟨y, hy⟩ : ∃ y, l.getD (f + k) 0 = y := ⟨_, rfl⟩
          rw [hy] at h2 hT2
          obtain ⟨p, hp⟩ : ∃ p, pos y = p := ⟨_, rfl⟩
          have hm2 : (if y < 0 then 0 else y) = p := by rw [← hp]; unfold pos; split <;> omega
          have hp0 : 0 ≤ p ∧ p ≤ 1099511627776 := by rw [← hp]; unfold pos; omega
          have hsum : Hid (wsum l f (k + 1) = s + p) := by show _ = _; rw [wsum, hs, hy, hp]
          rw [hs]
          replace hs := Lib.hid hs
          replace hy := Lib.hid hy
          replace hp := Lib.hid hp
          clear hn
          go_wp2_with fail
          all_goals
            go_round
            case rel => exact ⟨k + 1, by omega, by rw [hsum.out, ← Int.add_assoc], by go_num⟩
            case measure => simp [intOf]; omega
        · obtain rfl : k = m := by omega
          rw [hs]
          rw [hs] at hx
          clear hs
          subst hx
          go_wp2_with fail
          all_goals
            go_ret
            exact ⟨rfl, rfl⟩
end Go.Proofs.Ytnbfmmnbjjeecab
