/- missivelaw01.small: the examples. -/
import Derived.Test.YtompmkcpicfdfaaDoorTextD
import Derived.Test.YtompmkcpicfdfaaDoorGlob
namespace Go.Proofs.YtompmkcpicfdfaaDoor
open Go.RowKit
set_option linter.unusedVariables false
/-- strings told by their bytes -/
theorem ts_of : ∀ {ts : List ByteArray} {ls : List (List UInt8)}, ts.map (·.data.toList) = ls → ts = ls.map fun l => ⟨⟨l⟩⟩
  | [], [], _ => rfl
  | t :: ts, l :: ls, h => by
    simp only [List.map_cons, List.cons.injEq] at h
    rw [List.map_cons, ts_of h.2]
    congr 1
    exact str_inj (by rw [h.1])
theorem small_lines : wlines [97, 13, 10, 10, 98] = [[97], [], [98]] := by kernel_rfl
theorem small_words : Lib.join (wfields [32, 97, 32, 9, 32, 98, 13, 10]) [32] = [97, 32, 98] := by kernel_rfl
theorem small_yes : wnum [48, 48, 55] = some 7 := by kernel_rfl
theorem small_no : wnum [45, 49] = none := by kernel_rfl
theorem small_glob1 : gm (low (ByteArray.mk #[42, 64, 42, 46, 69, 120, 97, 109, 112, 108, 101]).data.toList) (low (ByteArray.mk #[120, 64, 108, 105, 115, 116, 115, 46, 101, 120, 97, 109, 112, 108, 101]).data.toList) = true := by kernel_rfl
theorem small_glob2 : gm (low (ByteArray.mk #[97, 63]).data.toList) (low (ByteArray.mk #[97]).data.toList) = false := by kernel_rfl
set_option maxHeartbeats 4000000 in
theorem small_any (w : World) : Calls Tryd.prog 27 #[] w fun e w' => e = .returned (.bool true) ∧ Below w.heap.size w w' := by
  go_enter Tryd.func27, Tryd.ntmps27
  go_wp2_with fail
  refine (Lines_any _ _ (by decide)).mono ?_
  rintro e W1 ⟨⟨v, ts, rfl, hv, ht⟩, b1⟩
  obtain rfl := ts_of (ht.trans small_lines)
  obtain ⟨b, off, cap, rfl, hc1, hc2, hb, hcell⟩ := hv.at (by decide)
  have c0 := hcell 0 _ rfl
  have c1 := hcell 1 _ rfl
  have c2 := hcell 2 _ rfl
  simp only [Nat.add_zero] at c0
  clear hcell ht hv
  go_wp2_with fail
  refine (Number_yes _ _ 7 small_yes).mono ?_
  rintro e W2 ⟨rfl, b2⟩
  go_wp2_with fail
  refine (Number_no _ _ (by decide) small_no (fun h => absurd h (by decide))).mono ?_
  rintro e W3 ⟨rfl, b3⟩
  have hB3 := bnext (bnext b1 b2) b3
  have hb3 := bsize b3 (bsize b2 hb)
  replace c0 := bget b3 (bsize b2 hb) (bget b2 hb c0)
  replace c1 := bget b3 (bsize b2 hb) (bget b2 hb c1)
  replace c2 := bget b3 (bsize b2 hb) (bget b2 hb c2)
  clear b1 b2 b3
  go_wp2_with fail
  refine (Lines_any _ _ (by decide)).mono ?_
  rintro e W4 ⟨⟨v2, ts2, rfl, hv2, ht2⟩, b4⟩
  obtain rfl := ts_of (ht2.trans (show _ = [] by kernel_rfl))
  obtain ⟨a2, cap2, rfl, _, _⟩ := hv2.val
  clear ht2 hv2
  go_wp2_with fail
  refine (Lines_any _ _ (by decide)).mono ?_
  rintro e W5 ⟨⟨v3, ts3, rfl, hv3, ht3⟩, b5⟩
  obtain rfl := ts_of (ht3.trans (show _ = [[]] by kernel_rfl))
  obtain ⟨a3, cap3, rfl, _, _⟩ := hv3.val
  have hB5 := bnext (bnext hB3 b4) b5
  clear ht3 hv3 b4 b5 hB3
  go_wp2_with fail
  refine (Squeeze_any _ _ (by decide)).mono ?_
  rintro e W6 ⟨⟨t6, rfl, ht6⟩, b6⟩
  obtain rfl : t6 = ⟨#[97, 32, 98]⟩ := str_inj (by rw [ht6]; exact small_words)
  go_wp2_with fail
  refine (Glob_any _ _ _ (by decide) (by decide)).mono ?_
  rintro e W7 ⟨rfl, b7⟩
  rw [small_glob1]
  go_wp2_with fail
  refine (Glob_any _ _ _ (by decide) (by decide)).mono ?_
  rintro e W8 ⟨rfl, b8⟩
  rw [small_glob2]
  go_wp2_with fail
  go_ret
  exact ⟨rfl, bnext (bnext (bnext hB5 b6) b7) b8⟩
end Go.Proofs.YtompmkcpicfdfaaDoor
