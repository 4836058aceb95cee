/- missiveref14: Level; missiveref34: Key, Quoted, keys, same. -/
import Derived.Test.YtompmkcpicfdfaaDoorQuoteA
namespace Go.Proofs.YtompmkcpicfdfaaDoor
open Go.RowKit
set_option linter.unusedVariables false
theorem levG_sp {n : Nat} {rest l : List UInt8} {c : UInt8} (h : c = 32) : levG n rest (c :: l) = levG n rest l := by rw [levG, if_pos h]
theorem levG_gt {n : Nat} {rest l : List UInt8} {c : UInt8} (h : c = 62) : levG n rest (c :: l) = levG (n + 1) l l := by subst h; rw [levG, if_neg (by decide), if_pos rfl]
theorem levG_no {n : Nat} {rest l : List UInt8} {c : UInt8} (h : c ≠ 32) (h2 : c ≠ 62) : levG n rest (c :: l) = (n, rest) := by rw [levG, if_neg h, if_neg h2]
set_option maxHeartbeats 4000000 in
theorem RefLevel_any (s : ByteArray) (w : World) (hs : s.size ≤ maxLen) : Calls Tryd.prog 75 #[.string s] w (LevPost (lev s.data.toList) w) := by
  unfold maxLen at hs
  go_enter Tryd.func75, Tryd.ntmps75
  go_wp2_with fail
  go_loop [4, 5] (fun nn rr => ∃ (n : Nat) (r : ByteArray), nn = .int .i64 n ∧ rr = .string r ∧ n + r.size ≤ s.size ∧ Hid (levG 0 s.data.toList s.data.toList = levG n r.data.toList r.data.toList)) (fun _ rr => strLen rr)
  case atStart => exact ⟨0, s, rfl, rfl, by omega, rfl⟩
  case round =>
    obtain ⟨n, r, rfl, rfl, hsz, hI⟩ := hrel
    go_wp2_with fail
    go_loop [6] (fun ii => ∃ i : Nat, ii = .int .i64 i ∧ i ≤ r.size ∧ Hid (levG 0 s.data.toList s.data.toList = levG n r.data.toList (r.data.toList.drop i))) (fun ii => r.size - (intOf ii).toNat)
    case atStart => exact ⟨0, rfl, by omega, hI⟩
    case round =>
      obtain ⟨i, rfl, hi, hJ⟩ := hrel
      clear hI
      have hex : (i < r.size ∧ ∃ h : i < r.size, r[i] = 32) ∨ (i < r.size ∧ ∃ h : i < r.size, r[i] = 62) ∨ (i < r.size ∧ ∃ h : i < r.size, r[i] ≠ 32 ∧ r[i] ≠ 62) ∨ i = r.size := by
        by_cases h : i < r.size
        · by_cases h1 : r[i] = 32
          · exact .inl ⟨h, h, h1⟩
          · by_cases h2 : r[i] = 62
            · exact .inr (.inl ⟨h, h, h2⟩)
            · exact .inr (.inr (.inl ⟨h, h, h1, h2⟩))
        · exact .inr (.inr (.inr (by omega)))
      rcases hex with ⟨hlt, _, h32⟩ | ⟨hlt, _, h62⟩ | hend
      · have q1 : decide ((i : Int) < (r.size : Int)) = true := decide_eq_true (by omega)
        have q2 : decide (i < r.size) = true := decide_eq_true hlt
        have hxc := idx_at r i hlt 32 (by rw [str_getD r i hlt, h32])
        have hJ2 : Hid (levG 0 s.data.toList s.data.toList = levG n r.data.toList (r.data.toList.drop (i + 1))) := by
          show _ = _
          rw [hJ.out, str_drop r i hlt, levG_sp h32]
        replace h32 := Lib.hid h32
        clear hJ
        go_wp2_with fail
        go_round
        case rel => exact ⟨i + 1, by go_num, hlt, hJ2⟩
        case measure => simp [intOf]; omega
      · have q1 : decide ((i : Int) < (r.size : Int)) = true := decide_eq_true (by omega)
        have q2 : decide (i < r.size) = true := decide_eq_true hlt
        have q3 : decide ((r.size : Int) ≤ (i : Int)) = false := decide_eq_false (by omega)
        have q4 : decide (r.size ≤ i) = false := decide_eq_false (by omega)
        have hxc := idx_at r i hlt 62 (by rw [str_getD r i hlt, h62])
        obtain ⟨t, ht⟩ : ∃ t, r.extract (i + 1) r.size = t := ⟨_, rfl⟩
        have htd : t.data.toList = r.data.toList.drop (i + 1) := by rw [← ht, ext_drop]
        have hts : t.size = r.size - (i + 1) := by rw [← ht, ext_size]
        have hJ2 : Hid (levG 0 s.data.toList s.data.toList = levG (n + 1) t.data.toList t.data.toList) := by
          show _ = _
          rw [hJ.out, str_drop r i hlt, levG_gt h62, htd]
        have j1 : (0 : Int) ≤ (i : Int) + 1 := by omega
        have j2 : (i : Int) + 1 ≤ (r.size : Int) := by omega
        replace h62 := Lib.hid h62
        replace htd := Lib.hid htd
        replace hts := Lib.hid hts
        clear hJ
        go_wp2_with fail
        refine ⟨⟨n + 1, t, by go_num, rfl, by have := hts.out; omega, hJ2⟩, ?_⟩
        show t.size < r.size
        have := hts.out; omega
      · have hres : levG 0 s.data.toList s.data.toList = (n, r.data.toList) := by
          rw [hJ.out]
          rcases hend with ⟨hlt, _, h1, h2⟩ | h
          · rw [str_drop r i hlt, levG_no h1 h2]
          · rw [h, List.drop_eq_nil_of_le (by rw [str_size]; exact Nat.le_refl _), levG]
        obtain ⟨u, hu⟩ := ba_of (dropSp r.data.toList)
        have hfin : (Hid (lev s.data.toList = (n, r.data.toList)) ∧ n = 0) ∨ (0 < n ∧ r.size = 0 ∧ Hid (lev s.data.toList = (n, r.data.toList))) ∨ (0 < n ∧ 0 < r.size ∧ (∀ W, (Instr.index 9 (.string r) (.int .i64 0)).run Tryd.prog W = .ok (.int .u8 32) W) ∧ Hid (lev s.data.toList = (n, u.data.toList)) ∧ r.extract 1 r.size = u) ∨ (0 < n ∧ 0 < r.size ∧ (∃ d : UInt8, ((d.toNat : Int) == 32) = false ∧ ∀ W, (Instr.index 9 (.string r) (.int .i64 0)).run Tryd.prog W = .ok (.int .u8 d.toNat) W) ∧ Hid (lev s.data.toList = (n, r.data.toList))) := by
          by_cases h0 : n = 0
          · exact .inl ⟨by show _ = _; unfold lev; rw [hres]; simp [h0], h0⟩
          · have hl : lev s.data.toList = (n, dropSp r.data.toList) := by unfold lev; rw [hres]; simp [h0]
            by_cases hr0 : r.size = 0
            · refine .inr (.inl ⟨by omega, hr0, ?_⟩)
              show _ = _
              rw [hl, show r.data.toList = [] from List.eq_nil_of_length_eq_zero (by rw [str_size]; exact hr0)]; rfl
            · have h1 : 0 < r.size := by omega
              have hdr := str_drop r 0 h1
              rw [List.drop_zero] at hdr
              by_cases h32 : r[0] = 32
              · refine .inr (.inr (.inl ⟨by omega, h1, fun W => idx_k .i64 r 0 h1 32 (by rw [str_getD r 0 h1, h32]) 0 rfl W, ?_, ?_⟩))
                · show _ = _
                  rw [hl, hu]
                · refine str_inj ?_
                  rw [ext_drop, hu, hdr, dropSp, if_pos h32]; rfl
              · refine .inr (.inr (.inr ⟨by omega, h1, ⟨r[0], by rw [u8_beq 32 (d := 32) rfl]; simpa using h32, fun W => idx_k .i64 r 0 h1 r[0] (str_getD r 0 h1) 0 rfl W⟩, ?_⟩))
                show _ = _
                rw [hl, hdr, dropSp, if_neg h32]
        have hway : (i < r.size ∧ decide ((i : Int) < (r.size : Int)) = true ∧ decide (i < r.size) = true ∧ decide ((r.size : Int) ≤ (i : Int)) = false ∧ decide (r.size ≤ i) = false ∧ ∃ d : UInt8, ((d.toNat : Int) == 32) = false ∧ ((d.toNat : Int) != 62) = true ∧ ∀ W, (Instr.index 9 (.string r) (.int .i64 i)).run Tryd.prog W = .ok (.int .u8 d.toNat) W) ∨ (i = r.size) := by
          rcases hend with ⟨hlt, _, h1, h2⟩ | h
          · exact .inl ⟨hlt, decide_eq_true (by omega), decide_eq_true hlt, decide_eq_false (by omega), decide_eq_false (by omega), r[i], by rw [u8_beq 32 (d := 32) rfl]; simpa using h1, by rw [bne, u8_beq 62 (d := 62) rfl]; simpa using h2, idx_at r i hlt r[i] (str_getD r i hlt)⟩
          · exact .inr h
        clear hJ hend hres
        replace hu := Lib.hid hu
        have KT : ∀ (w' : World) (X : List UInt8) (t : ByteArray), Hid (lev s.data.toList = (n, X)) → t.data.toList = X → LevPost (lev s.data.toList) w' (.returned (.tuple #[.int .i64 (n : Nat), .string t])) w' := by
          intro w' X t h1 h2
          refine ⟨⟨t, by rw [h1.out], by rw [h1.out]; exact h2⟩, rfl⟩
        replace KT := Lib.hid KT
        rcases hway with ⟨hlt, q1, q2, q3, q4, d, k1, k2, hxd⟩ | hie
        · rcases hfin with ⟨hf, rfl⟩ | ⟨hn, hr0, hf⟩ | ⟨hn, hr0, hx0, hf, hext⟩ | ⟨hn, hr0, ⟨d2, k4, hx0⟩, hf⟩
          · have n1 : decide ((0 : Int) < (0 : Int)) = false := rfl
            go_wp2_with fail
            go_ret2
            exact KT.out _ _ _ hf rfl
          · exfalso; omega
          · have n1 : decide ((0 : Int) < (n : Int)) = true := decide_eq_true (by omega)
            have n2 : decide (0 < n) = true := decide_eq_true hn
            have n3 : decide ((0 : Int) < (r.size : Int)) = true := decide_eq_true (by omega)
            have n4 : decide (0 < r.size) = true := decide_eq_true hr0
            have i1 : (1 : Int) ≤ (r.size : Int) := by omega
            replace hext := Lib.hid hext
            have hext2 : r.extract 1 r.size = u := hext.out
            go_wp2_with fail
            go_ret2
            exact KT.out _ _ _ hf rfl
          · have n1 : decide ((0 : Int) < (n : Int)) = true := decide_eq_true (by omega)
            have n2 : decide (0 < n) = true := decide_eq_true hn
            have n3 : decide ((0 : Int) < (r.size : Int)) = true := decide_eq_true (by omega)
            have n4 : decide (0 < r.size) = true := decide_eq_true hr0
            go_wp2_with fail
            go_ret2
            exact KT.out _ _ _ hf rfl
        · subst hie
          have q1 : decide ((r.size : Int) < (r.size : Int)) = false := by simp
          have q2 : decide (r.size < r.size) = false := by simp
          have q3 : decide ((r.size : Int) ≤ (r.size : Int)) = true := by simp
          have q4 : decide (r.size ≤ r.size) = true := by simp
          rcases hfin with ⟨hf, rfl⟩ | ⟨hn, hr0, hf⟩ | ⟨hn, hr0, hx0, hf, hext⟩ | ⟨hn, hr0, ⟨d2, k4, hx0⟩, hf⟩
          · have n1 : decide ((0 : Int) < (0 : Int)) = false := rfl
            go_wp2_with fail
            go_ret2
            exact KT.out _ _ _ hf rfl
          · have n1 : decide ((0 : Int) < (n : Int)) = true := decide_eq_true (by omega)
            have n2 : decide (0 < n) = true := decide_eq_true hn
            have n3 : decide ((0 : Int) < (r.size : Int)) = false := decide_eq_false (by omega)
            have n4 : decide (0 < r.size) = false := decide_eq_false (by omega)
            replace hr0 := Lib.hid hr0
            go_wp2_with fail
            go_ret2
            exact KT.out _ _ _ hf rfl
          · have n1 : decide ((0 : Int) < (n : Int)) = true := decide_eq_true (by omega)
            have n2 : decide (0 < n) = true := decide_eq_true hn
            have n3 : decide ((0 : Int) < (r.size : Int)) = true := decide_eq_true (by omega)
            have n4 : decide (0 < r.size) = true := decide_eq_true hr0
            have i1 : (1 : Int) ≤ (r.size : Int) := by omega
            replace hext := Lib.hid hext
            have hext2 : r.extract 1 r.size = u := hext.out
            go_wp2_with fail
            go_ret2
            exact KT.out _ _ _ hf rfl
          · have n1 : decide ((0 : Int) < (n : Int)) = true := decide_eq_true (by omega)
            have n2 : decide (0 < n) = true := decide_eq_true hn
            have n3 : decide ((0 : Int) < (r.size : Int)) = true := decide_eq_true (by omega)
            have n4 : decide (0 < r.size) = true := decide_eq_true hr0
            go_wp2_with fail
            go_ret2
            exact KT.out _ _ _ hf rfl
end Go.Proofs.YtompmkcpicfdfaaDoor
