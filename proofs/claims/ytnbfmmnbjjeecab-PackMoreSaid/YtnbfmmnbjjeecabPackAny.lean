/- pack.Pack as a plain contract; missivelaw35.weight. -/
import Derived.Test.YtnbfmmnbjjeecabPack
namespace Go.Proofs.Ytnbfmmnbjjeecab
open Go.RowKit Go.Shelf
set_option linter.unusedVariables false
def DivPost (gs : List (List Int)) (w : World) (e : Ending) (w' : World) : Prop := (∃ v, e = .returned v ∧ IsDiv w' v gs) ∧ Bel w w'
theorem Pack_any (a : Option Addr) (len cap : Nat) (l : List Int) (b h : Int) (w : World) (hl : l.length = len) (hreach : len ≤ 300) (hS : Sl w 1 (.slice a len cap) len (cells64 l)) :
    Calls Try.prog 9 #[.slice a len cap, .int .i64 b, .int .i64 h] w (DivPost ((fin l b (wrap64 (b - pos h))).map rng) w) :=
  callsIn_wide.1 (Pack_in Fence.wide 5 trivial trivial trivial trivial rfl (Nat.le_refl _) a len cap l b h w hl (by omega) hS)
/-- The weight of k sizes from f on. -/
def wsum (l : List Int) (f : Nat) : Nat → Int
  | 0 => 0
  | k + 1 => wsum l f k + pos (l.getD (f + k) 0)
theorem wsum_bd (l : List Int) (f : Nat) (hl : ∀ j, j < l.length → l.getD j 0 ≤ 1099511627776) (k : Nat) (hk : f + k ≤ l.length) : 0 ≤ wsum l f k ∧ wsum l f k ≤ 1099511627776 * k := by
  induction k with
  | zero => simp [wsum]
  | succ k ih =>
    have h1 := ih (by omega)
    have h2 := hl (f + k) (by omega)
    have h3 := pos_bd (l.getD (f + k) 0)
    have h4 : pos (l.getD (f + k) 0) ≤ 1099511627776 := by unfold pos; omega
    simp only [wsum]
    omega
end Go.Proofs.Ytnbfmmnbjjeecab
