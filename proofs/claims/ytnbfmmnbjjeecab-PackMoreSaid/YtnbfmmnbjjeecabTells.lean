/- missivelaw35.PackTells: the walk. -/
import Derived.Test.YtnbfmmnbjjeecabExamples
namespace Go.Proofs.Ytnbfmmnbjjeecab
open Go.RowKit Go.Shelf
set_option linter.unusedVariables false
theorem bd_of_wf {n : Int} (h : (Lit.int .i64 n).wf = true) : -9223372036854775808 ≤ n ∧ n ≤ 9223372036854775807 := by
  simpa [Lit.wf, IntKind.min, IntKind.max, IntKind.signed, IntKind.bits] using h
theorem row_len {w : World} {a : Option Addr} {len cap : Nat} {zs : List Int} (h : IsRow .i64 w a len cap zs) : (zs.take len).length = len ∧ len ≤ maxLen := by
  rcases h with ⟨rfl, rfl, rfl, rfl⟩ | ⟨x, rfl, hl, hm, hz, hc, _⟩
  · simp
  · simp; omega
theorem PackTells_walk (a : Option Addr) (len cap : Nat) (zs : List Int) (b h one : Int) (w : World) (hr : IsRow .i64 w a len cap zs) (wb : (Lit.int .i64 b).wf = true) (wh : (Lit.int .i64 h).wf = true) :
    Calls Try.prog 3 #[.slice a len cap, .int .i64 b, .int .i64 h, .int .i64 one] w fun e w' => e = .returned (.bool true) ∧ Bel w w' := by
  have hS := isRow_sl hr
  obtain ⟨hl, hm⟩ := row_len hr
  clear hr
  unfold maxLen at hm
  replace wb := bd_of_wf wb
  replace wh := bd_of_wf wh
  obtain ⟨l, hl0⟩ : ∃ l, zs.take len = l := ⟨_, rfl⟩
  rw [hl0] at hl hS
  clear hl0
  replace hl := Lib.hid hl
  by_cases h300 : len ≤ 300
  · go_enter Try.func3, Try.ntmps3
    go_wp2_with fail
    refine (small_any _).mono ?_
    rintro e W1 ⟨rfl, b1⟩
    have S1 := hS.below b1
    go_wp2_with fail
    refine (Pack_any a len cap l b h _ hl.out h300 S1).mono ?_
    rintro e W2 ⟨⟨v2, rfl, d2⟩, b2⟩
    have S2 := S1.below b2
    have B2 : Below w.heap.size w W2 := by repeat (first | with_reducible exact Below.refl _ _ | with_reducible assumption | (with_reducible refine balloc ?_) | (with_reducible refine bdrew ?_) | (with_reducible refine bdrewN ?_) | (with_reducible refine bset ?_ (by first | omega | (simp; done) | (simp; omega))) | (with_reducible refine bnext ?_ (by assumption)))
    clear b1 b2
    go_wp2_with fail
    refine (RefPack_any a len cap l b h _ hl.out h300 wb.1 wb.2 wh.2 S2).mono ?_
    rintro e W3 ⟨⟨v3, rfl, d3⟩, b3⟩
    have B3 : Below w.heap.size w W3 := by repeat (first | with_reducible exact Below.refl _ _ | with_reducible assumption | (with_reducible refine balloc ?_) | (with_reducible refine bdrew ?_) | (with_reducible refine bdrewN ?_) | (with_reducible refine bset ?_ (by first | omega | (simp; done) | (simp; omega))) | (with_reducible refine bnext ?_ (by assumption)))
    have d2' := d2.below b3
    clear b3 d2
    go_wp2_with fail
    refine (Same_any _ _ _ _ _ d2' d3).mono ?_
    rw [decide_eq_true rfl]
    rintro e W4 ⟨rfl, b4⟩
    have B4 : Below w.heap.size w W4 := by repeat (first | with_reducible exact Below.refl _ _ | with_reducible assumption | (with_reducible refine balloc ?_) | (with_reducible refine bdrew ?_) | (with_reducible refine bdrewN ?_) | (with_reducible refine bset ?_ (by first | omega | (simp; done) | (simp; omega))) | (with_reducible refine bnext ?_ (by assumption)))
    clear b4 d2' d3
    go_wp2_with fail
    refine (Alone_any one b h _ wb.2 wh.2).mono ?_
    obtain ⟨q, hq⟩ : ∃ q, alone one b h = q := ⟨_, rfl⟩
    rw [hq]
    rintro e w' ⟨rfl, rfl⟩
    replace hq := Lib.hid hq
    go_wp2_with fail
    refine (RefAlone_any one b h _ wb.2 wh.2).mono ?_
    rw [hq.out]
    rintro e w' ⟨rfl, rfl⟩
    cases q
    all_goals
      go_wp2_with fail
      go_ret
      exact ⟨rfl, B4⟩
  · go_enter Try.func3, Try.ntmps3
    go_wp2_with fail
    refine (small_any _).mono ?_
    rintro e W1 ⟨rfl, b1⟩
    go_wp2_with fail
    go_ret
    exact ⟨rfl, b1⟩
end Go.Proofs.Ytnbfmmnbjjeecab
