/- What holds of a health behind some events. -/
import Derived.Test.YtnbfmmnbjjeecacRight
import Derived.Test.YtnbfmmnbjjeecacTail
namespace Go.Proofs.Ytnbfmmnbjjeecac
open Go.RowKit
set_option linter.unusedVariables false
/-- What holds of a health behind n events. -/
def HInv (h : H) (n : Nat) : Prop := h.a = { data := #[97, 64, 120] } ∧ 0 ≤ h.sc ∧ h.sc ≤ 1000 * (n : Int) ∧ -1 ≤ h.dy ∧ h.dy ≤ 814453 ∧ 0 ≤ h.td ∧ h.td ≤ 1000 ∧ 0 ≤ h.pr ∧ h.pr ≤ (n : Int)
theorem hinv_ok {h : H} {n : Nat} {t : Int} (hi : HInv h n) (hn : n ≤ 100) (h0 : 0 ≤ t) (h1 : t ≤ 70368744177664) : HOk h t := by
  obtain ⟨_, a, b, c, d, e, f, _, _⟩ := hi
  exact ⟨h0, by omega, a, by omega, c, by omega, fun _ => ⟨e, by omega⟩⟩
theorem hinv_bounce {h : H} {n : Nat} {t : Int} (hard : Bool) (hi : HInv h n) (h0 : 0 ≤ t) (h1 : t ≤ 70368744177664) : HInv (bounceH h t hard) (n + 1) := by
  obtain ⟨ha, a, b, c, d, e, f, g, i⟩ := hi
  unfold bounceH
  split
  · exact ⟨ha, a, by omega, c, d, e, f, g, by omega⟩
  · have hp : (if hard = true then (1000 : Int) else 250) = 1000 ∨ (if hard = true then (1000 : Int) else 250) = 250 := by cases hard <;> simp
    generalize (if hard = true then (1000 : Int) else 250) = pt at *
    refine ⟨ha, ?_, ?_, ?_, ?_, ?_, ?_, ?_, ?_⟩ <;> dsimp only <;> (try unfold sc1) <;> (try unfold td1) <;> (repeat' split) <;> omega
theorem hinv_down {h : H} {n : Nat} {t : Int} (k : Bool) (hi : HInv h n) (h0 : 0 ≤ t) (h1 : t ≤ 70368744177664) : HInv (downH h t k) (n + 1) := by
  have hb := hinv_bounce true hi h0 h1
  obtain ⟨ha, a, b, c, d, e, f, g, i⟩ := hi
  unfold downH
  repeat' split
  · exact ⟨ha, a, by omega, c, d, e, f, g, by omega⟩
  · exact hb
  all_goals exact ⟨ha, by dsimp only; omega, by dsimp only; omega, c, d, e, f, by dsimp only; omega, by dsimp only; omega⟩
theorem hinv_do {h : H} {n : Nat} {k t : Int} (hi : HInv h n) (h0 : 0 ≤ t) (h1 : t ≤ 70368744177664) : HInv (doH h k t) (n + 1) := by
  have b1 := hinv_bounce true hi h0 h1
  have b2 := hinv_bounce false hi h0 h1
  have d1 := hinv_down true hi h0 h1
  have d2 := hinv_down false hi h0 h1
  have hs : HInv h (n + 1) := by
    obtain ⟨ha, a, b, c, d, e, f, g, i⟩ := hi
    exact ⟨ha, a, by omega, c, d, e, f, g, by omega⟩
  unfold doH
  split
  · exact b2
  split
  · exact b1
  split
  · unfold successH
    split
    · obtain ⟨ha, a, b, c, d, e, f, g, i⟩ := hs
      exact ⟨ha, by dsimp only; omega, by dsimp only; omega, c, d, e, f, g, i⟩
    · exact hs
  split
  · unfold tickH
    repeat' split
    · obtain ⟨ha, a, b, c, d, e, f, g, i⟩ := hs
      exact ⟨ha, a, b, c, d, e, f, g, i⟩
    · exact d2
    · exact hs
    · exact hs
  split
  · exact d2
  split
  · exact d1
  split
  · obtain ⟨ha, a, b, c, d, e, f, g, i⟩ := hs
    exact ⟨ha, by show (0 : Int) ≤ 0; omega, by show (0 : Int) ≤ _; omega, by show (-1 : Int) ≤ -1; omega, by show (-1 : Int) ≤ _; omega, by show (0 : Int) ≤ 0; omega, by show (0 : Int) ≤ _; omega, by show (0 : Int) ≤ 0; omega, by show (0 : Int) ≤ _; omega⟩
  · exact hs
theorem hinv_new : HInv ⟨{ data := #[97, 64, 120] }, 0, -1, 0, 0, 0, 0⟩ 0 := ⟨rfl, by show (0 : Int) ≤ 0; omega, by show (0 : Int) ≤ _; omega, by show (-1 : Int) ≤ -1; omega, by show (-1 : Int) ≤ _; omega, by show (0 : Int) ≤ 0; omega, by show (0 : Int) ≤ _; omega, by show (0 : Int) ≤ 0; omega, by show (0 : Int) ≤ _; omega⟩
end Go.Proofs.Ytnbfmmnbjjeecac
