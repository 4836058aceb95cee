/- missiveref01: White, Trim. -/
import Derived.Test.YtompmkcpicfdfaaDoorCom
import Derived.Test.YtompmkcpicfdfaaDoorRows
namespace Go.Proofs.YtompmkcpicfdfaaDoor
open Go.RowKit
set_option linter.unusedVariables false
/-- a white byte -/
def wh (c : UInt8) : Bool := c == 9 || c == 10 || c == 13 || c == 32
theorem beq_nat (c d : UInt8) : (c == d) = decide (c.toNat = d.toNat) := by
  rw [Bool.eq_iff_iff]; simp [← UInt8.toNat_inj]
theorem wh_eq (c : UInt8) : wh c = decide (c.toNat = 9 ∨ c.toNat = 10 ∨ c.toNat = 13 ∨ c.toNat = 32) := by
  unfold wh; rw [beq_nat, beq_nat, beq_nat, beq_nat, Bool.eq_iff_iff]; simp [or_assoc]
theorem White_any (c : UInt8) (w : World) : Calls Tryd.prog 19 #[.int .u8 c.toNat] w fun e w' => e = .returned (.bool (wh c)) ∧ w = w' := by
  go_enter Tryd.func19, Tryd.ntmps19
  go_wp2
  all_goals
    go_ret
    exact ⟨ret_bool (by rw [wh_eq, Bool.eq_iff_iff]; simp; omega), rfl⟩
/-- white bytes at the end taken away -/
def rdrop (l : List UInt8) : List UInt8 := (l.reverse.dropWhile wh).reverse
/-- white bytes at both ends taken away -/
def wtrim (l : List UInt8) : List UInt8 := rdrop (l.dropWhile wh)
theorem rdrop_snoc (l : List UInt8) (c : UInt8) : rdrop (l ++ [c]) = if wh c then rdrop l else l ++ [c] := by
  unfold rdrop
  rw [List.reverse_append, List.reverse_singleton, List.singleton_append, List.dropWhile_cons]
  split <;> simp
theorem rdrop_nil : rdrop [] = [] := rfl
theorem drop_take_succ (s : ByteArray) (k u : Nat) (hk : k ≤ u) (hu : u < s.size) : (s.data.toList.take (u + 1)).drop k = (s.data.toList.take u).drop k ++ [s[u]] := by
  rw [str_take s u hu, List.drop_append_of_le_length (by rw [List.length_take, str_size]; omega)]
theorem Trim_any (s : ByteArray) (w : World) (hs : s.size ≤ 9223372036854775807) : Calls Tryd.prog 16 #[.string s] w (SPostQ (wtrim s.data.toList) w) := by
  obtain ⟨l, hl⟩ : ∃ l, s.data.toList = l := ⟨_, rfl⟩
  rw [hl]
  replace hl := Lib.hid hl
  go_enter Tryd.func16, Tryd.ntmps16
  go_wp2_with fail
  go_loop [3] (fun i => ∃ k : Nat, k ≤ s.size ∧ i = .int .i64 k ∧ Hid (l.dropWhile wh = (l.drop k).dropWhile wh)) (fun i => s.size - (intOf i).toNat)
  case atStart => exact ⟨0, Nat.zero_le _, rfl, rfl⟩
  case round =>
    obtain ⟨k, hk, rfl, hI⟩ := hrel
    have hex : (k < s.size ∧ ∃ h : k < s.size, wh s[k] = true) ∨ (Hid (l.dropWhile wh = l.drop k) ∧ (k = s.size ∨ (k < s.size ∧ ∃ h : k < s.size, wh s[k] = false))) := by
      by_cases h : k < s.size
      · cases hq : wh s[k]
        · right
          refine ⟨?_, .inr ⟨h, h, hq⟩⟩
          show _ = _
          rw [hI.out, ← hl.out, str_drop s k h, List.dropWhile_cons, hq]; rfl
        · exact .inl ⟨h, h, hq⟩
      · right
        refine ⟨?_, .inl (by omega)⟩
        show _ = _
        rw [hI.out, ← hl.out, List.drop_of_length_le (by rw [str_size]; omega)]; rfl
    rcases hex with ⟨hk2, _, hq⟩ | ⟨hD, hex⟩
    · have hI2 : Hid (l.dropWhile wh = (l.drop (k + 1)).dropWhile wh) := by
        show _ = _
        rw [hI.out, ← hl.out, str_drop s k hk2, List.dropWhile_cons, hq]; rfl
      replace hq := Lib.hid hq
      go_wp2_with (go_at_call 19; refine (White_any _ _).mono ?_; rw [hq.out]; rintro e w' ⟨rfl, rfl⟩)
      go_round
      case rel => exact ⟨k + 1, by omega, by go_num, hI2⟩
      case measure => simp [intOf]; omega
    · have hgo : (k = s.size) ∨ (k < s.size) := by omega
      have hq : ∀ h : k < s.size, wh s[k] = false := fun h => by
        rcases hex with h1 | ⟨_, _, h2⟩
        · omega
        · exact h2
      clear hex hI
      rcases hgo with hgo | hgo
      · have hgo' := hgo
        have hE : Hid (wtrim l = []) := by
          show _ = _
          rw [wtrim, hD.out, ← hl.out, List.drop_of_length_le (by rw [str_size]; omega)]; rfl
        replace hgo := Lib.hid hgo
        have h1 : ¬ k < s.size := by omega
        go_wp2_with fail
        go_loop [4] (fun i => i = .int .i64 (s.size : Nat)) (fun i => 0)
        case atStart => rfl
        case round =>
          subst hrel
          have h2 : s.size ≤ k := by omega
          go_wp2_with fail
          go_ret
          refine ⟨⟨_, rfl, ?_⟩, rfl⟩
          rw [hE.out]; rfl
      · have hq := Lib.hid (hq hgo)
        go_wp2_with (go_at_call 19; refine (White_any _ _).mono ?_; rw [hq.out]; rintro e w' ⟨rfl, rfl⟩)
        go_loop [4] (fun i => ∃ u : Nat, k < u ∧ u ≤ s.size ∧ i = .int .i64 u ∧ Hid (rdrop (l.drop k) = rdrop ((l.take u).drop k))) (fun i => (intOf i).toNat)
        case atStart => exact ⟨s.size, hgo, Nat.le_refl _, rfl, by show _ = _; rw [← hl.out, List.take_of_length_le (by rw [str_size]; omega)]⟩
        case round =>
          obtain ⟨u, hu1, hu2, rfl, hI⟩ := hrel
          obtain ⟨v, rfl⟩ : ∃ v, u = v + 1 := ⟨u - 1, by omega⟩
          have hv : v < s.size := by omega
          have hst := drop_take_succ s k v (by omega) hv
          rw [hl.out] at hst
          replace hst := Lib.hid hst
          cases hqv : wh s[v]
          · have hE : Hid (wtrim l = (l.take (v + 1)).drop k) := by
              show _ = _
              rw [wtrim, hD.out, hI.out, hst.out, rdrop_snoc, hqv]; rfl
            replace hqv := Lib.hid hqv
            go_wp2_with (go_at_call 19; refine (White_any _ _).mono ?_; rw [hqv.out]; rintro e w' ⟨rfl, rfl⟩)
            go_ret
            refine ⟨⟨_, rfl, ?_⟩, rfl⟩
            rw [hE.out, str_extract, hl.out]
          · have hkv : k ≠ v := by
              rintro rfl
              have := hq.out
              rw [this] at hqv; cases hqv
            have hI2 : Hid (rdrop (l.drop k) = rdrop ((l.take v).drop k)) := by
              show _ = _
              rw [hI.out, hst.out, rdrop_snoc, hqv]; rfl
            replace hqv := Lib.hid hqv
            go_wp2_with (go_at_call 19; refine (White_any _ _).mono ?_; rw [hqv.out]; rintro e w' ⟨rfl, rfl⟩)
            go_round
            case rel => exact ⟨v, by omega, by omega, by go_num, hI2⟩
            case measure => simp [intOf]
end Go.Proofs.YtompmkcpicfdfaaDoor
