/- package codec: unreserved, quoted, Percent. -/
import Derived.Test.YtompmkcpicfdfaaDoorBuilder
import Derived.Test.YtompmkcpicfdfaaDoorPercLaw
import Derived.Test.YtompmkcpicfdfaaDoorTextC
import Derived.Deep.RegionWith
namespace Go.Proofs.YtompmkcpicfdfaaDoor
open Go.RowKit
set_option linter.unusedVariables false
theorem u8_back (c : UInt8) : ((c.toNat : Int)).toNat.toUInt8 = c := by
  rw [Int.toNat_natCast]; exact UInt8.toNat_inj.1 (by simp)
theorem indexByte_has (c : UInt8) : ∀ l : List UInt8, decide (0 ≤ Lib.indexByte l c) = l.contains c := by
  intro l
  rcases indexByte_cut c l with ⟨h1, h2⟩ | ⟨k, h1, h2, h3, h4⟩
  · rw [h1]
    have : l.contains c = false := by simpa using fun h => h2 c h rfl
    rw [this]; rfl
  · rw [h1]
    have : c ∈ l := List.mem_of_mem_drop (i := k) (by rw [h4]; simp)
    simp [this]
theorem safe_any (c : UInt8) (w : World) : ∃ v : Int, decide (0 ≤ v) = [45, 46, 95, 126].contains c ∧ Calls Tryd.prog 82 #[.string ⟨#[45, 46, 95, 126]⟩, .int .u8 c.toNat] w fun e w' => e = .returned (.int .i64 v) ∧ w = w' :=
  ⟨_, indexByte_has c _, (Tryd.strings_IndexByte ⟨#[45, 46, 95, 126]⟩ c.toNat w).mono fun e w' ⟨h1, h2⟩ => ⟨by rw [h1, u8_back], h2.symm⟩⟩
theorem unres_or (c : UInt8) : unres c = ((decide (97 ≤ (c.toNat : Int)) && decide ((c.toNat : Int) ≤ 122)) || (decide (65 ≤ (c.toNat : Int)) && decide ((c.toNat : Int) ≤ 90)) || (decide (48 ≤ (c.toNat : Int)) && decide ((c.toNat : Int) ≤ 57)) || [45, 46, 95, 126].contains c) := by
  unfold unres; congr 1; congr 1
  · congr 1 <;> (rw [Bool.eq_iff_iff]; simp; omega)
  · rw [Bool.eq_iff_iff]; simp; omega
theorem unreserved_any (c : UInt8) (w : World) : Calls Tryd.prog 57 #[.int .u8 c.toNat] w fun e w' => e = .returned (.bool (unres c)) ∧ w = w' := by
  obtain ⟨v, hv, hc⟩ := safe_any c w
  rw [unres_or c, ← hv]
  have hvb : (0 ≤ v) ∨ v < 0 := by omega
  clear hv
  rcases hvb with hvb | hvb
  · go_enter Tryd.func57, Tryd.ntmps57
    go_wp2_with (go_at_call 82; refine hc.mono ?_; rintro e w' ⟨rfl, rfl⟩)
    all_goals
      go_ret
      exact ⟨ret_bool (by rw [Bool.eq_iff_iff] <;> simp <;> omega), rfl⟩
  · go_enter Tryd.func57, Tryd.ntmps57
    go_wp2_with (go_at_call 82; refine hc.mono ?_; rintro e w' ⟨rfl, rfl⟩)
    all_goals
      go_ret
      exact ⟨ret_bool (by rw [Bool.eq_iff_iff] <;> simp <;> omega), rfl⟩
theorem and15 (c : UInt8) : bits BinOp.and IntKind.u8 (c.toNat : Int) 15 = ((c.toNat % 16 : Nat) : Int) := by
  have := u8_all (p := fun c => bits BinOp.and IntKind.u8 (c.toNat : Int) 15 == ((c.toNat % 16 : Nat) : Int)) (by decide +kernel) c
  simpa using this
/-- the byte at an index of whatever kind -/
theorem idx_k (k : IntKind) (t : ByteArray) (j : Nat) (h : j < t.size) (c : UInt8) (hc : t.data.toList.getD j 0 = c) (n : Int) (hn : n = j) (W : World) : (Instr.index 9 (.string t) (.int k n)).run Tryd.prog W = .ok (.int .u8 c.toNat) W := by
  rw [str_getD t j h] at hc
  subst hc hn
  simp [go_sem, Tryd.underlying9, h]
def hexS : ByteArray := ⟨#[48, 49, 50, 51, 52, 53, 54, 55, 56, 57, 65, 66, 67, 68, 69, 70]⟩
/-- 'string(b)' of a row that is known -/
theorem conv_row (src dst e : TypeId) (W : World) (b cap : Nat) (l : List UInt8) (hs : Tryd.prog.underlying src = some (.slice e)) (he : Tryd.prog.underlying e = some (.int .u8)) (hd : Tryd.prog.underlying dst = some .string)
    (hc : ∀ j, j < l.length → W.cell? ⟨b, j, none⟩ = some (.int .u8 (l.getD j 0).toNat)) : (convert src dst (.slice (some ⟨b, 0, none⟩) l.length cap)).run Tryd.prog W = .ok (.string ⟨l.toArray⟩) W :=
  run_convert_bytes_back W src dst e ⟨b, 0, none⟩ cap l hs he hd fun j hj => by
    rw [Addr.add_lit, Nat.zero_add, hc j hj]
    simp [List.getD_eq_getElem?_getD, hj]
set_option maxRecDepth 100000 in
theorem quoted_any (m c : UInt8) (w : World) : Calls Tryd.prog 55 #[.int .u8 m.toNat, .int .u8 c.toNat] w (SPost (qf m c) w) := by
  obtain ⟨d1, e1⟩ : ∃ d1, hexD (c.toNat / 16) = d1 := ⟨_, rfl⟩
  obtain ⟨d2, e2⟩ : ∃ d2, hexD (c.toNat % 16) = d2 := ⟨_, rfl⟩
  have hi1 : ∀ W, (Instr.index 9 (.string ⟨#[48, 49, 50, 51, 52, 53, 54, 55, 56, 57, 65, 66, 67, 68, 69, 70]⟩) (.int .u8 ((c.toNat : Int) / 16))).run Tryd.prog W = .ok (.int .u8 d1.toNat) W := fun W =>
    idx_k .u8 hexS (c.toNat / 16) (by have := c.toNat_lt; show _ < 16; omega) _ e1 _ (by omega) W
  have hi2 : ∀ W, (Instr.index 9 (.string ⟨#[48, 49, 50, 51, 52, 53, 54, 55, 56, 57, 65, 66, 67, 68, 69, 70]⟩) (.int .u8 (bits BinOp.and IntKind.u8 (c.toNat : Int) 15))).run Tryd.prog W = .ok (.int .u8 d2.toNat) W := fun W =>
    idx_k .u8 hexS (c.toNat % 16) (by show _ < 16; omega) _ e2 _ (and15 c) W
  have hcv : (convert 24 9 (.slice (some ⟨w.heap.size, 0, none⟩) 3 3)).run Tryd.prog (w.alloc (.cells #[.int .u8 m.toNat, .int .u8 d1.toNat, .int .u8 d2.toNat] 5)).drew = .ok (.string ⟨#[m, d1, d2]⟩) (w.alloc (.cells #[.int .u8 m.toNat, .int .u8 d1.toNat, .int .u8 d2.toNat] 5)).drew := by
    have hh : (w.alloc (.cells #[.int .u8 m.toNat, .int .u8 d1.toNat, .int .u8 d2.toNat] 5)).drew.heap[w.heap.size]? = some (.cells #[.int .u8 m.toNat, .int .u8 d1.toNat, .int .u8 d2.toNat] 5) := World.alloc_heap_new _ _
    refine conv_row _ _ 5 _ _ 3 [m, d1, d2] Tryd.underlying24 Tryd.underlying5 Tryd.underlying9 fun j hj => ?_
    rw [Lib.cell_of_heap hh]
    match j, hj with
    | 0, _ => rfl
    | 1, _ => rfl
    | 2, _ => rfl
  have hq : qf m c = [m, d1, d2] := by rw [← e1, ← e2]; rfl
  replace hq := Lib.hid hq
  clear e1 e2
  go_enter Tryd.func55, Tryd.ntmps55
  go_wp2_with fail
  go_region_with (fail)
  all_goals
    go_wp2_with fail
    go_ret
    exact ⟨⟨_, rfl, by rw [hq.out]⟩, ((Below.refl _ _).alloc (Nat.le_refl _) _).drew⟩
end Go.Proofs.YtompmkcpicfdfaaDoor
