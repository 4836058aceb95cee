/- missivelaw35.tame: what its yes says. -/
import Derived.Test.YtnbfmmnbjjeecabSl
import Derived.Test.YtnbfmmnbjjeecabSmall
namespace Go.Proofs.Ytnbfmmnbjjeecab
open Go.RowKit
set_option linter.unusedVariables false
/-- at most 300 sizes up to 2^40, a head up to 2^40, a budget up to 2^50 -/
def Tame (l : List Int) (b h : Int) : Prop := l.length ≤ 300 ∧ (∀ j, j < l.length → l.getD j 0 ≤ 1099511627776) ∧ h ≤ 1099511627776 ∧ b ≤ 1125899906842624
def TamePost (l : List Int) (b h : Int) (w : World) (e : Ending) (w' : World) : Prop := ∃ q : Bool, e = .returned (.bool q) ∧ (q = true → Tame l b h) ∧ w = w'
theorem tame_any (v : Value) (n : Nat) (l : List Int) (b h : Int) (w : World) (hl : l.length = n) (hS : Sl w 1 v n (cells64 l)) :
    Calls Try.prog 13 #[v, .int .i64 b, .int .i64 h] w (TamePost l b h w) := by
  have hm := hS.le_max
  unfold maxLen at hm
  by_cases h0 : n = 0
  · subst h0
    obtain rfl : l = [] := List.eq_nil_of_length_eq_zero hl
    obtain ⟨a, cap, rfl, _, _⟩ := hS.val
    go_enter Try.func13, Try.ntmps13
    go_wp2_with fail
    go_loop [7] (fun i => i = .int .i64 (0 : Nat)) (fun _ => 0)
    case atStart => rfl
    case round =>
      subst hrel
      by_cases c1 : h ≤ 1099511627776
      all_goals by_cases c2 : b ≤ 1125899906842624
      all_goals
        go_wp2_with fail
        go_ret
        first
        | exact ⟨true, rfl, fun _ => ⟨by simp, fun j hj => by simp at hj, c1, c2⟩, rfl⟩
        | exact ⟨false, rfl, fun hq => (by cases hq), rfl⟩
  · obtain ⟨bl, off, cap, rfl, _, _, hb, hc⟩ := hS.at (by omega)
    replace hc := Lib.hid hc
    go_enter Try.func13, Try.ntmps13
    go_wp2_with fail
    go_loop [7] (fun i => ∃ k : Nat, k ≤ n ∧ i = .int .i64 k ∧ Hid (∀ j, j < k → l.getD j 0 ≤ 1099511627776)) (fun i => n - (intOf i).toNat)
    case atStart => exact ⟨0, Nat.zero_le _, rfl, fun j hj => by omega⟩
    case round =>
      obtain ⟨k, hk, rfl, hno⟩ := hrel
      by_cases hkn : k < n
      · have hck := hc.out k _ (cells64_get l k (by omega))
        obtain ⟨y, hy⟩ : ∃ y, l.getD k 0 = y := ⟨_, rfl⟩
        rw [hy] at hck
        replace hy := Lib.hid hy
        by_cases c : 1099511627776 < y
        · go_wp2_with fail
          go_ret
          exact ⟨false, rfl, fun hq => (by cases hq), rfl⟩
        · have hno2 : Hid (∀ j, j < k + 1 → l.getD j 0 ≤ 1099511627776) := by
            intro j hj
            rcases Nat.lt_or_ge j k with h5 | h5
            · exact hno.out j h5
            · obtain rfl : j = k := by omega
              rw [hy.out]; omega
          go_wp2_with fail
          go_round
          case rel => exact ⟨k + 1, by omega, by go_num, hno2⟩
          case measure => simp [intOf]; omega
      · by_cases c0 : n ≤ 300
        all_goals by_cases c1 : h ≤ 1099511627776
        all_goals by_cases c2 : b ≤ 1125899906842624
        all_goals
          go_wp2_with fail
          go_ret
          first
          | exact ⟨true, rfl, fun _ => ⟨by omega, fun j hj => hno.out j (by omega), c1, c2⟩, rfl⟩
          | exact ⟨false, rfl, fun hq => (by cases hq), rfl⟩
end Go.Proofs.Ytnbfmmnbjjeecab
