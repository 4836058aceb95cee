/- missiveref35.Pack as a plain contract. -/
import Derived.Test.YtnbfmmnbjjeecabRefPack
namespace Go.Proofs.Ytnbfmmnbjjeecab
open Go.RowKit Go.Shelf
set_option linter.unusedVariables false
theorem rest_wrap (b h : Int) (w : World) : Calls Try.prog 17 #[.int .i64 b, .int .i64 h] w fun e w' => e = .returned (.int .i64 (wrap64 (b - pos h))) ∧ w = w' := by
  go_enter Try.func17, Try.ntmps17
  go_wp2_with (go_at_call 18; refine (size_any _ _).mono ?_; rintro e w' ⟨rfl, rfl⟩)
  go_ret
  exact ⟨rfl, rfl⟩
theorem RefPack_any (a : Option Addr) (len cap : Nat) (l : List Int) (b h : Int) (w : World) (hl : l.length = len) (h300 : len ≤ 300) (hb1 : -9223372036854775808 ≤ b) (hb2 : b ≤ 9223372036854775807) (hh : h ≤ 9223372036854775807) (hS : Sl w 1 (.slice a len cap) len (cells64 l)) :
    Calls Try.prog 10 #[.slice a len cap, .int .i64 b, .int .i64 h] w (DivPost ((fin l b (wrap64 (b - pos h))).map rng) w) :=
  RefPack_in a len cap l b h _ w hl h300 hb1 hb2 hh (wrap64_bd _).1 (wrap64_bd _).2 (fun W => rest_wrap b h W)
    (fun h0 => by have h1 := pos_bd h; have h2 : pos h ≤ 9223372036854775807 := by unfold pos; omega
                  rw [IntWalk.wrap64_in _ ⟨by omega, by omega⟩]; omega) hS
end Go.Proofs.Ytnbfmmnbjjeecab
