/- missivelaw40.right: what its yes says. -/
import Derived.Test.YtnbfmmnbjjeecacSmall
import Derived.Test.YtnbfmmnbjjeecacOpen
namespace Go.Proofs.Ytnbfmmnbjjeecac
open Go.RowKit
set_option linter.unusedVariables false
/-- The time of event i. -/
def tm (l : List (Int × Int)) (i : Nat) : Int := (l.getD i (0, 0)).2
/-- The kind of event i. -/
def kd (l : List (Int × Int)) (i : Nat) : Int := (l.getD i (0, 0)).1
/-- At most 100 events with ascending times. -/
def Right (l : List (Int × Int)) : Prop := l.length ≤ 100 ∧ (∀ i, i < l.length → 0 ≤ tm l i ∧ tm l i ≤ 70368744177664) ∧ ∀ i j, i ≤ j → j < l.length → tm l i ≤ tm l j
def RightPost (l : List (Int × Int)) (w : World) (e : Ending) (w' : World) : Prop := ∃ q : Bool, e = .returned (.bool q) ∧ (q = true → Right l) ∧ w = w'
theorem right_any (a : Option Addr) (len cap : Nat) (l : List (Int × Int)) (w : World) (h : IsPairs w a len cap l) :
    Calls Try.prog 9 #[.slice a len cap] w (RightPost l w) := by
  obtain ⟨hl, hm, hc⟩ := h
  unfold maxLen at hm
  rcases hc with rfl | ⟨b, off, rfl, hlt, hc⟩
  · go_enter Try.func9, Try.ntmps9
    go_wp2_with fail
    go_loop [3, 4] (fun u i => u = .int .i64 0 ∧ i = .int .i64 (0 : Nat)) (fun _ _ => 0)
    case atStart => exact ⟨rfl, rfl⟩
    case round =>
      obtain ⟨rfl, rfl⟩ := hrel
      go_wp2_with fail
      go_ret
      exact ⟨true, rfl, fun _ => ⟨by omega, fun i hi => by omega, fun i j _ hj => by omega⟩, rfl⟩
  · replace hc := Lib.hid hc
    go_enter Try.func9, Try.ntmps9
    go_wp2_with fail
    go_loop [3, 4] (fun u i => ∃ (k : Nat) (x : Int), k ≤ len ∧ u = .int .i64 x ∧ i = .int .i64 k ∧ Hid (0 ≤ x ∧ (∀ i, i < k → 0 ≤ tm l i ∧ tm l i ≤ 70368744177664 ∧ tm l i ≤ x) ∧ ∀ i j, i ≤ j → j < k → tm l i ≤ tm l j)) (fun _ i => len - (intOf i).toNat)
    case atStart => exact ⟨0, 0, Nat.zero_le _, rfl, rfl, by omega, fun i hi => by omega, fun i j _ hj => by omega⟩
    case round =>
      obtain ⟨k, x, hk, rfl, rfl, hI⟩ := hrel
      by_cases hkl : k < len
      · have hck := (hc.out k hkl).2.1
        have ht : (l.getD k (0, 0)).2 = tm l k := rfl
        rw [ht] at hck
        obtain ⟨y, hy⟩ : ∃ y, tm l k = y := ⟨_, rfl⟩
        rw [hy] at hck
        rw [← Nat.add_assoc] at hck
        have hi2 := hI.out
        replace hy := Lib.hid hy
        clear ht
        by_cases c1 : y < x
        · clear hi2
          go_wp2_with fail
          go_ret
          exact ⟨false, rfl, fun h => (by cases h), rfl⟩
        · by_cases c2 : 70368744177664 < y
          · clear hi2
            go_wp2_with fail
            go_ret
            exact ⟨false, rfl, fun h => (by cases h), rfl⟩
          · obtain ⟨x0, hb, hp⟩ := hi2
            have hb' : Hid (0 ≤ y ∧ (∀ i, i < k + 1 → 0 ≤ tm l i ∧ tm l i ≤ 70368744177664 ∧ tm l i ≤ y) ∧ ∀ i j, i ≤ j → j < k + 1 → tm l i ≤ tm l j) := by
              refine ⟨by omega, fun i hi => ?_, fun i j h5 h6 => ?_⟩
              · rcases Nat.lt_or_ge i k with h | h
                · have := hb i h; omega
                · obtain rfl : i = k := by omega
                  have := hy.out; omega
              · rcases Nat.lt_or_ge j k with h | h
                · exact hp i j h5 h
                · obtain rfl : j = k := by omega
                  have := hy.out
                  rcases Nat.lt_or_ge i j with h' | h'
                  · have := hb i h'; omega
                  · obtain rfl : i = j := by omega
                    omega
            clear hb hp
            go_wp2_with fail
            go_round
            case rel => exact ⟨k + 1, y, by omega, rfl, by go_num, hb'⟩
            case measure => simp [intOf]; omega
      · have hkn : k = len := by omega
        have hi2 := hI.out
        clear hc hI
        by_cases c1 : (len : Int) ≤ 100
        · have c1' : len ≤ 100 := by omega
          replace hi2 := Lib.hid hi2
          go_wp2_with fail
          go_ret
          exact ⟨true, rfl, fun _ => ⟨by omega, fun i hi => (by have := hi2.out.2.1 i (by omega); omega), fun i j h5 h6 => hi2.out.2.2 i j h5 (by omega)⟩, rfl⟩
        · clear hi2
          go_wp2_with fail
          go_ret
          exact ⟨false, rfl, fun h => (by cases h), rfl⟩
end Go.Proofs.Ytnbfmmnbjjeecac
