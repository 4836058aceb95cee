/- missivelaw01.TextGlobs: the walk. -/
import Derived.Test.YtompmkcpicfdfaaDoorGlobs2
namespace Go.Proofs.YtompmkcpicfdfaaDoor
open Go.RowKit
set_option linter.unusedVariables false
theorem drop1 (s : ByteArray) : (s.extract 1 s.size).data.toList = s.data.toList.drop 1 := by
  rw [str_extract, List.take_of_length_le (by rw [str_size]; exact Nat.le_refl _)]
theorem take1 (s : ByteArray) : (s.extract 0 1).data.toList = s.data.toList.take 1 := by
  rw [str_extract]; simp
theorem isEmpty_no {t : ByteArray} (h : 0 < t.size) : t.toList.isEmpty = false := isEmpty_of (by omega)
theorem isEmpty_yes {t : ByteArray} (h : t.size = 0) : t.toList.isEmpty = true := by
  rw [Lib.toList_data, List.isEmpty_iff]; exact List.eq_nil_of_length_eq_zero (by rw [str_size]; exact h)
theorem gm_all_low (S : List UInt8) : gm (low (ByteArray.mk #[42]).data.toList) (low S) = true := gm_all _
theorem app_list (a b : ByteArray) : (a ++ b).data.toList = a.data.toList ++ b.data.toList := by rw [ByteArray.data_append, Array.toList_append]
theorem wrap_low {a b : ByteArray} (h : gm (low a.data.toList) (low b.data.toList) = true) : gm (low ((⟨#[42]⟩ : ByteArray) ++ a ++ (⟨#[42]⟩ : ByteArray)).data.toList) (low ((⟨#[120]⟩ : ByteArray) ++ b ++ (⟨#[121]⟩ : ByteArray)).data.toList) = true := by
  rw [app_list, app_list, app_list, app_list, low_append, low_append, low_append, low_append]
  exact gm_wrap h
theorem hsz2 (x y : UInt8) (a : ByteArray) (h : a.size ≤ 60) : ((⟨#[x]⟩ : ByteArray) ++ a ++ (⟨#[y]⟩ : ByteArray)).size ≤ 140737488355328 := by
  rw [ByteArray.size_append, ByteArray.size_append]
  show 1 + a.size + 1 ≤ _
  omega
set_option maxHeartbeats 16000000 in
theorem globs_walk (a b : ByteArray) (w : World) (ha : a.size ≤ maxLen) (hb : b.size ≤ maxLen) :
    Calls Tryd.prog 10 #[.string a, .string b] w fun e w' => e = .returned (.bool true) ∧ Below w.heap.size w w' := by
  by_cases h1 : a.size ≤ 60 ∧ b.size ≤ 60
  · obtain ⟨ha3, hb3⟩ := h1
    have g1 : decide ((60 : Int) < (a.size : Int)) = false := by simp; omega
    have g2 : decide ((60 : Int) < (b.size : Int)) = false := by simp; omega
    have ga60 := ha3
    have gb60 := hb3
    have ga : a.size ≤ 140737488355328 := by omega
    have gb : b.size ≤ 140737488355328 := by omega
    obtain ⟨G, hG⟩ : ∃ G, gm (low a.data.toList) (low b.data.toList) = G := ⟨_, rfl⟩
    have e3 : (G == G) = true := by cases G <;> rfl
    by_cases h0 : a.size = 0
    · have e0 := isEmpty_yes h0
      have e1 : b.toList.isEmpty = G := by
        rw [← hG, List.eq_nil_of_length_eq_zero (l := a.data.toList) (by rw [str_size]; exact h0), Lib.toList_data]
        cases b.data.toList <;> rfl
      replace hG := Lib.hid hG
      clear h0 ha3 hb3
      go_enter Tryd.func10, Tryd.ntmps10
      go_wp2_with fail
      refine (small_any _).mono ?_
      rintro e W1 ⟨rfl, b1⟩
      go_wp2_with fail
      refine (Glob_any a b _ ga gb).mono ?_
      rintro e W2 ⟨rfl, b2⟩
      rw [hG.out]
      go_wp2_with fail
      go_ret
      exact ⟨rfl, bnext b1 b2⟩
    · have e0 := isEmpty_no (t := a) (by omega)
      obtain ⟨c, hc⟩ : ∃ c, a.data.toList.getD 0 0 = c := ⟨_, rfl⟩
      have hx : ∀ W, (Instr.index 9 (.string a) (.int .i64 0)).run Tryd.prog W = .ok (.int .u8 c.toNat) W := fun W => idx_at a 0 (by omega) c hc W
      have q1 : decide (1 ≤ a.size) = true := by simp; omega
      have hP : a.data.toList = c :: (a.extract 1 a.size).data.toList := by
        rw [drop1, ← hc, ← getD_drop (p := 0) (by rw [str_size]; omega)]; rfl
      obtain ⟨x, hxr⟩ : ∃ x, a.extract 1 a.size = x := ⟨_, rfl⟩
      rw [hxr] at hP
      have hxs : x.size ≤ 140737488355328 := by rw [← hxr, ByteArray.size_extract]; omega
      obtain ⟨y, hyr⟩ : ∃ y, b.extract 1 b.size = y := ⟨_, rfl⟩
      have hys : y.size ≤ 140737488355328 := by rw [← hyr, ByteArray.size_extract]; omega
      have hyd : y.data.toList = b.data.toList.drop 1 := by rw [← hyr, drop1]
      have hbe : b.data.toList.isEmpty = decide (b.size = 0) := by
        rw [← str_size]; cases b.data.toList <;> simp
      replace hxr := Lib.hid hxr
      replace hyr := Lib.hid hyr
      have hways : (c = 42 ∧ ((gm (low x.data.toList) (low b.data.toList) = true ∧ G = true) ∨ (gm (low x.data.toList) (low b.data.toList) = false ∧ ((b.size = 0 ∧ G = false) ∨ (0 < b.size ∧ gm (low a.data.toList) (low y.data.toList) = G))))) ∨
          (c ≠ 42 ∧ ((b.size = 0 ∧ G = false) ∨ (0 < b.size ∧ ((c = 63 ∧ gm (low x.data.toList) (low y.data.toList) = G) ∨ (c ≠ 63 ∧ ((low (a.extract 0 1).data.toList = low (b.extract 0 1).data.toList ∧ gm (low x.data.toList) (low y.data.toList) = G) ∨ (low (a.extract 0 1).data.toList ≠ low (b.extract 0 1).data.toList ∧ G = false))))))) := by
        rw [take1, take1, hyd]
        have ht : a.data.toList.take 1 = [c] := by rw [hP]; rfl
        rw [ht]
        by_cases h2 : c = 42
        · left
          refine ⟨h2, ?_⟩
          have hw := want_star x.data.toList b.data.toList
          rw [← h2, ← hP, hG, hbe] at hw
          cases hg : gm (low x.data.toList) (low b.data.toList)
          · right
            rw [hg] at hw
            by_cases h3 : b.size = 0
            · simp [h3] at hw; exact ⟨rfl, .inl ⟨h3, hw⟩⟩
            · simp [h3] at hw; exact ⟨rfl, .inr ⟨by omega, by rw [List.drop_one]; exact hw.symm⟩⟩
          · rw [hg] at hw; simp at hw; exact .inl ⟨rfl, hw⟩
        · right
          refine ⟨h2, ?_⟩
          have hw := want_byte h2 x.data.toList b.data.toList
          rw [← hP, hG, hbe] at hw
          by_cases h3 : b.size = 0
          · simp [h3] at hw; exact .inl ⟨h3, hw⟩
          · right
            refine ⟨by omega, ?_⟩
            by_cases h4 : c = 63
            · simp [h3, h4] at hw; exact .inl ⟨h4, by rw [List.drop_one]; exact hw.symm⟩
            · by_cases h5 : low [c] = low (b.data.toList.take 1)
              · simp [h3, h5] at hw; exact .inr ⟨h4, .inl ⟨h5, by rw [List.drop_one]; exact hw.symm⟩⟩
              · have h63 : (c == 63) = false := by simpa using h4
                simp [h3, h5, h63] at hw; exact .inr ⟨h4, .inr ⟨h5, hw⟩⟩
      have k42 : c ≠ 42 → ((c.toNat : Int) == 42) = false := fun h => u8_ne h
      have k63 : c ≠ 63 → ((c.toNat : Int) == 63) = false := fun h => u8_ne h
      have kb1 : 0 < b.size → b.toList.isEmpty = false := isEmpty_no
      have kb0 : b.size = 0 → b.toList.isEmpty = true := isEmpty_yes
      have kb2 : 0 < b.size → decide (1 ≤ b.size) = true := fun h => by simp; omega
      clear hyd hbe
      replace hxs := Lib.hid hxs
      replace hys := Lib.hid hys
      replace hP := Lib.hid hP
      replace hc := Lib.hid hc
      rcases hways with ⟨h2, ⟨m1, m2⟩ | ⟨m1, ⟨m2, m3⟩ | ⟨m2, m3⟩⟩⟩ | ⟨h2, ⟨m1, m2⟩ | ⟨m1, ⟨m2, m3⟩ | ⟨m2, ⟨m3, m4⟩ | ⟨m3, m4⟩⟩⟩⟩
      · subst h2
        subst m2
        replace hG := Lib.hid hG
        replace m1 := Lib.hid m1
        clear k42 k63 kb1 kb0 kb2
        go_enter Tryd.func10, Tryd.ntmps10
        go_wp2_with fail
        refine (small_any _).mono ?_
        rintro e W1 ⟨rfl, b1⟩
        go_wp2_with fail
        refine (Glob_any a b _ ga gb).mono ?_
        rintro e W2 ⟨rfl, b2⟩
        rw [hG.out]
        have hB := bnext b1 b2
        clear b1 b2
        go_wp2_with fail
        rw [show a.extract 1 a.size = x from hxr.out]
        refine (Glob_any x b _ hxs.out gb).mono ?_
        rintro e W3 ⟨rfl, b3⟩
        rw [m1.out]
        replace hB := bnext hB b3
        clear b3
        go_wp2_with fail
        go_loopw [9, 10] (fun q i wr => Below w.heap.size w wr ∧ ∃ k : Nat, i = .int .i64 k ∧ k ≤ a.size ∧ q = .bool (plainTo a.data.toList k)) (fun _ i _ => a.size - (intOf i).toNat)
        case atStart => exact ⟨hB, 0, rfl, by omega, rfl⟩
        case round =>
          clear hx hB
          obtain ⟨hBr, k, rfl, hk, rfl⟩ := hrel
          by_cases hlt : k < a.size
          · have q1 : decide ((k : Int) < (a.size : Int)) = true := by simp; omega
            have q2 : decide (k < a.size) = true := by simp; omega
            obtain ⟨d, hd⟩ : ∃ d, a.data.toList.getD k 0 = d := ⟨_, rfl⟩
            have hx := idx_at a k hlt d hd
            have hsu := plainTo_succ (l := a.data.toList) (k := k) (by rw [str_size]; exact hlt)
            rw [hd] at hsu
            obtain ⟨pl, hpl⟩ : ∃ pl, plainTo a.data.toList k = pl := ⟨_, rfl⟩
            rw [hpl] at hsu ⊢
            have hk3 : k < 60 := by omega
            replace hpl := Lib.hid hpl
            replace hd := Lib.hid hd
            replace hlt := Lib.hid hlt
            have hcase : (pl = false ∧ plainTo a.data.toList (k + 1) = false) ∨ (pl = true ∧ ((d = 42 ∧ plainTo a.data.toList (k + 1) = false) ∨ (d ≠ 42 ∧ ((d = 63 ∧ plainTo a.data.toList (k + 1) = false) ∨ (d ≠ 63 ∧ plainTo a.data.toList (k + 1) = true))))) := by
              rw [hsu]
              cases pl
              · exact .inl ⟨rfl, rfl⟩
              · right
                refine ⟨rfl, ?_⟩
                by_cases h1 : d = 42
                · left; subst h1; exact ⟨rfl, rfl⟩
                · right
                  refine ⟨h1, ?_⟩
                  by_cases h2 : d = 63
                  · left; subst h2; exact ⟨rfl, rfl⟩
                  · right; exact ⟨h2, by simp [h1, h2]⟩
            clear hsu
            rcases hcase with ⟨rfl, hn⟩ | ⟨rfl, ⟨rfl, hn⟩ | ⟨n1, ⟨rfl, hn⟩ | ⟨n2, hn⟩⟩⟩
            · replace hn := Lib.hid hn
              go_wp2_with fail
              go_roundw
              case rel => exact ⟨hBr, k + 1, by go_num, hlt.out, by rw [hn.out]⟩
              case measure => have := hlt.out; simp only [intOf]; go_num
            · replace hn := Lib.hid hn
              go_wp2_with fail
              go_roundw
              case rel => exact ⟨hBr, k + 1, by go_num, hlt.out, by rw [hn.out]⟩
              case measure => have := hlt.out; simp only [intOf]; go_num
            · replace hn := Lib.hid hn
              replace n1 := Lib.hid n1
              go_wp2_with fail
              go_roundw
              case rel => exact ⟨hBr, k + 1, by go_num, hlt.out, by rw [hn.out]⟩
              case measure => have := hlt.out; simp only [intOf]; go_num
            · have r1 : ((d.toNat : Int) != 42) = true := by have := u8_ne n1; simpa using this
              have r2 : ((d.toNat : Int) != 63) = true := by have := u8_ne n2; simpa using this
              replace hn := Lib.hid hn
              replace n1 := Lib.hid n1
              replace n2 := Lib.hid n2
              go_wp2_with fail
              go_roundw
              case rel => exact ⟨hBr, k + 1, by go_num, hlt.out, by rw [hn.out]⟩
              case measure => have := hlt.out; simp only [intOf]; go_num
          · obtain rfl : k = a.size := by omega
            have q1 : decide ((a.size : Int) < (a.size : Int)) = false := by simp
            have q2 : decide (a.size < a.size) = false := by simp
            have hpl := plain_same (l := a.data.toList)
            rw [str_size] at hpl
            cases hq : plainTo a.data.toList a.size
            · clear hpl
              replace hq := Lib.hid hq
              go_wp2_with fail
              refine (Glob_any _ b _ (by decide) gb).mono ?_
              rintro e X2 ⟨rfl, x2⟩
              rw [gm_all_low]
              replace hBr := bnext hBr x2
              clear x2
              go_wp2_with fail
              refine (Glob_any a b _ ga gb).mono ?_
              rintro e X3 ⟨rfl, x3⟩
              rw [hG.out]
              replace hBr := bnext hBr x3
              clear x3
              go_wp2_with fail
              refine (Glob_any _ _ _ (hsz2 _ _ a ga60) (hsz2 _ _ b gb60)).mono ?_
              rintro e X4 ⟨rfl, x4⟩
              rw [wrap_low hG.out]
              go_wp2_with fail
              go_ret
              exact ⟨rfl, bnext hBr x4⟩
            · have hsame := (hpl hq b.data.toList).symm.trans hG.out
              clear hpl
              replace hq := Lib.hid hq
              replace hsame := Lib.hid hsame
              go_wp2_with fail
              refine (Same_any a b _ ha hb).mono ?_
              rintro e X1 ⟨rfl, x1⟩
              rw [hsame.out]
              replace hBr := bnext hBr x1
              clear x1
              go_wp2_with fail
              refine (Glob_any _ b _ (by decide) gb).mono ?_
              rintro e X2 ⟨rfl, x2⟩
              rw [gm_all_low]
              replace hBr := bnext hBr x2
              clear x2
              go_wp2_with fail
              refine (Glob_any a b _ ga gb).mono ?_
              rintro e X3 ⟨rfl, x3⟩
              rw [hG.out]
              replace hBr := bnext hBr x3
              clear x3
              go_wp2_with fail
              refine (Glob_any _ _ _ (hsz2 _ _ a ga60) (hsz2 _ _ b gb60)).mono ?_
              rintro e X4 ⟨rfl, x4⟩
              rw [wrap_low hG.out]
              go_wp2_with fail
              go_ret
              exact ⟨rfl, bnext hBr x4⟩
      · subst h2
        have kb := kb0 m2
        subst m3
        replace hG := Lib.hid hG
        replace m1 := Lib.hid m1
        replace m2 := Lib.hid m2
        clear k42 k63 kb1 kb0 kb2
        go_enter Tryd.func10, Tryd.ntmps10
        go_wp2_with fail
        refine (small_any _).mono ?_
        rintro e W1 ⟨rfl, b1⟩
        go_wp2_with fail
        refine (Glob_any a b _ ga gb).mono ?_
        rintro e W2 ⟨rfl, b2⟩
        rw [hG.out]
        have hB := bnext b1 b2
        clear b1 b2
        go_wp2_with fail
        rw [show a.extract 1 a.size = x from hxr.out]
        refine (Glob_any x b _ hxs.out gb).mono ?_
        rintro e W3 ⟨rfl, b3⟩
        rw [m1.out]
        replace hB := bnext hB b3
        clear b3
        go_wp2_with fail
        go_loopw [9, 10] (fun q i wr => Below w.heap.size w wr ∧ ∃ k : Nat, i = .int .i64 k ∧ k ≤ a.size ∧ q = .bool (plainTo a.data.toList k)) (fun _ i _ => a.size - (intOf i).toNat)
        case atStart => exact ⟨hB, 0, rfl, by omega, rfl⟩
        case round =>
          clear hx hB
          obtain ⟨hBr, k, rfl, hk, rfl⟩ := hrel
          by_cases hlt : k < a.size
          · have q1 : decide ((k : Int) < (a.size : Int)) = true := by simp; omega
            have q2 : decide (k < a.size) = true := by simp; omega
            obtain ⟨d, hd⟩ : ∃ d, a.data.toList.getD k 0 = d := ⟨_, rfl⟩
            have hx := idx_at a k hlt d hd
            have hsu := plainTo_succ (l := a.data.toList) (k := k) (by rw [str_size]; exact hlt)
            rw [hd] at hsu
            obtain ⟨pl, hpl⟩ : ∃ pl, plainTo a.data.toList k = pl := ⟨_, rfl⟩
            rw [hpl] at hsu ⊢
            have hk3 : k < 60 := by omega
            replace hpl := Lib.hid hpl
            replace hd := Lib.hid hd
            replace hlt := Lib.hid hlt
            have hcase : (pl = false ∧ plainTo a.data.toList (k + 1) = false) ∨ (pl = true ∧ ((d = 42 ∧ plainTo a.data.toList (k + 1) = false) ∨ (d ≠ 42 ∧ ((d = 63 ∧ plainTo a.data.toList (k + 1) = false) ∨ (d ≠ 63 ∧ plainTo a.data.toList (k + 1) = true))))) := by
              rw [hsu]
              cases pl
              · exact .inl ⟨rfl, rfl⟩
              · right
                refine ⟨rfl, ?_⟩
                by_cases h1 : d = 42
                · left; subst h1; exact ⟨rfl, rfl⟩
                · right
                  refine ⟨h1, ?_⟩
                  by_cases h2 : d = 63
                  · left; subst h2; exact ⟨rfl, rfl⟩
                  · right; exact ⟨h2, by simp [h1, h2]⟩
            clear hsu
            rcases hcase with ⟨rfl, hn⟩ | ⟨rfl, ⟨rfl, hn⟩ | ⟨n1, ⟨rfl, hn⟩ | ⟨n2, hn⟩⟩⟩
            · replace hn := Lib.hid hn
              go_wp2_with fail
              go_roundw
              case rel => exact ⟨hBr, k + 1, by go_num, hlt.out, by rw [hn.out]⟩
              case measure => have := hlt.out; simp only [intOf]; go_num
            · replace hn := Lib.hid hn
              go_wp2_with fail
              go_roundw
              case rel => exact ⟨hBr, k + 1, by go_num, hlt.out, by rw [hn.out]⟩
              case measure => have := hlt.out; simp only [intOf]; go_num
            · replace hn := Lib.hid hn
              replace n1 := Lib.hid n1
              go_wp2_with fail
              go_roundw
              case rel => exact ⟨hBr, k + 1, by go_num, hlt.out, by rw [hn.out]⟩
              case measure => have := hlt.out; simp only [intOf]; go_num
            · have r1 : ((d.toNat : Int) != 42) = true := by have := u8_ne n1; simpa using this
              have r2 : ((d.toNat : Int) != 63) = true := by have := u8_ne n2; simpa using this
              replace hn := Lib.hid hn
              replace n1 := Lib.hid n1
              replace n2 := Lib.hid n2
              go_wp2_with fail
              go_roundw
              case rel => exact ⟨hBr, k + 1, by go_num, hlt.out, by rw [hn.out]⟩
              case measure => have := hlt.out; simp only [intOf]; go_num
          · obtain rfl : k = a.size := by omega
            have q1 : decide ((a.size : Int) < (a.size : Int)) = false := by simp
            have q2 : decide (a.size < a.size) = false := by simp
            have hpl := plain_same (l := a.data.toList)
            rw [str_size] at hpl
            cases hq : plainTo a.data.toList a.size
            · clear hpl
              replace hq := Lib.hid hq
              go_wp2_with fail
              refine (Glob_any _ b _ (by decide) gb).mono ?_
              rintro e X2 ⟨rfl, x2⟩
              rw [gm_all_low]
              replace hBr := bnext hBr x2
              clear x2
              go_wp2_with fail
              refine (Glob_any a b _ ga gb).mono ?_
              rintro e X3 ⟨rfl, x3⟩
              rw [hG.out]
              replace hBr := bnext hBr x3
              clear x3
              go_wp2_with fail
              go_ret
              exact ⟨rfl, hBr⟩
            · have hsame := (hpl hq b.data.toList).symm.trans hG.out
              clear hpl
              replace hq := Lib.hid hq
              replace hsame := Lib.hid hsame
              go_wp2_with fail
              refine (Same_any a b _ ha hb).mono ?_
              rintro e X1 ⟨rfl, x1⟩
              rw [hsame.out]
              replace hBr := bnext hBr x1
              clear x1
              go_wp2_with fail
              refine (Glob_any _ b _ (by decide) gb).mono ?_
              rintro e X2 ⟨rfl, x2⟩
              rw [gm_all_low]
              replace hBr := bnext hBr x2
              clear x2
              go_wp2_with fail
              refine (Glob_any a b _ ga gb).mono ?_
              rintro e X3 ⟨rfl, x3⟩
              rw [hG.out]
              replace hBr := bnext hBr x3
              clear x3
              go_wp2_with fail
              go_ret
              exact ⟨rfl, hBr⟩
      · subst h2
        have kb := kb1 m2
        have kc := kb2 m2
        have kc2 : 1 ≤ b.size := m2
        replace hG := Lib.hid hG
        replace m1 := Lib.hid m1
        replace m2 := Lib.hid m2
        replace m3 := Lib.hid m3
        clear k42 k63 kb1 kb0 kb2
        go_enter Tryd.func10, Tryd.ntmps10
        go_wp2_with fail
        refine (small_any _).mono ?_
        rintro e W1 ⟨rfl, b1⟩
        go_wp2_with fail
        refine (Glob_any a b _ ga gb).mono ?_
        rintro e W2 ⟨rfl, b2⟩
        rw [hG.out]
        have hB := bnext b1 b2
        clear b1 b2
        go_wp2_with fail
        rw [show a.extract 1 a.size = x from hxr.out]
        refine (Glob_any x b _ hxs.out gb).mono ?_
        rintro e W3 ⟨rfl, b3⟩
        rw [m1.out]
        replace hB := bnext hB b3
        clear b3
        go_wp2_with fail
        rw [show b.extract 1 b.size = y from hyr.out]
        refine (Glob_any a y _ ga hys.out).mono ?_
        rintro e W3 ⟨rfl, b3⟩
        rw [m3.out]
        replace hB := bnext hB b3
        clear b3
        go_wp2_with fail
        clear e3
        cases G
        · go_loopw [9, 10] (fun q i wr => Below w.heap.size w wr ∧ ∃ k : Nat, i = .int .i64 k ∧ k ≤ a.size ∧ q = .bool (plainTo a.data.toList k)) (fun _ i _ => a.size - (intOf i).toNat)
          case atStart => exact ⟨hB, 0, rfl, by omega, rfl⟩
          case round =>
            clear hx hB
            obtain ⟨hBr, k, rfl, hk, rfl⟩ := hrel
            by_cases hlt : k < a.size
            · have q1 : decide ((k : Int) < (a.size : Int)) = true := by simp; omega
              have q2 : decide (k < a.size) = true := by simp; omega
              obtain ⟨d, hd⟩ : ∃ d, a.data.toList.getD k 0 = d := ⟨_, rfl⟩
              have hx := idx_at a k hlt d hd
              have hsu := plainTo_succ (l := a.data.toList) (k := k) (by rw [str_size]; exact hlt)
              rw [hd] at hsu
              obtain ⟨pl, hpl⟩ : ∃ pl, plainTo a.data.toList k = pl := ⟨_, rfl⟩
              rw [hpl] at hsu ⊢
              have hk3 : k < 60 := by omega
              replace hpl := Lib.hid hpl
              replace hd := Lib.hid hd
              replace hlt := Lib.hid hlt
              have hcase : (pl = false ∧ plainTo a.data.toList (k + 1) = false) ∨ (pl = true ∧ ((d = 42 ∧ plainTo a.data.toList (k + 1) = false) ∨ (d ≠ 42 ∧ ((d = 63 ∧ plainTo a.data.toList (k + 1) = false) ∨ (d ≠ 63 ∧ plainTo a.data.toList (k + 1) = true))))) := by
                rw [hsu]
                cases pl
                · exact .inl ⟨rfl, rfl⟩
                · right
                  refine ⟨rfl, ?_⟩
                  by_cases h1 : d = 42
                  · left; subst h1; exact ⟨rfl, rfl⟩
                  · right
                    refine ⟨h1, ?_⟩
                    by_cases h2 : d = 63
                    · left; subst h2; exact ⟨rfl, rfl⟩
                    · right; exact ⟨h2, by simp [h1, h2]⟩
              clear hsu
              rcases hcase with ⟨rfl, hn⟩ | ⟨rfl, ⟨rfl, hn⟩ | ⟨n1, ⟨rfl, hn⟩ | ⟨n2, hn⟩⟩⟩
              · replace hn := Lib.hid hn
                go_wp2_with fail
                go_roundw
                case rel => exact ⟨hBr, k + 1, by go_num, hlt.out, by rw [hn.out]⟩
                case measure => have := hlt.out; simp only [intOf]; go_num
              · replace hn := Lib.hid hn
                go_wp2_with fail
                go_roundw
                case rel => exact ⟨hBr, k + 1, by go_num, hlt.out, by rw [hn.out]⟩
                case measure => have := hlt.out; simp only [intOf]; go_num
              · replace hn := Lib.hid hn
                replace n1 := Lib.hid n1
                go_wp2_with fail
                go_roundw
                case rel => exact ⟨hBr, k + 1, by go_num, hlt.out, by rw [hn.out]⟩
                case measure => have := hlt.out; simp only [intOf]; go_num
              · have r1 : ((d.toNat : Int) != 42) = true := by have := u8_ne n1; simpa using this
                have r2 : ((d.toNat : Int) != 63) = true := by have := u8_ne n2; simpa using this
                replace hn := Lib.hid hn
                replace n1 := Lib.hid n1
                replace n2 := Lib.hid n2
                go_wp2_with fail
                go_roundw
                case rel => exact ⟨hBr, k + 1, by go_num, hlt.out, by rw [hn.out]⟩
                case measure => have := hlt.out; simp only [intOf]; go_num
            · obtain rfl : k = a.size := by omega
              have q1 : decide ((a.size : Int) < (a.size : Int)) = false := by simp
              have q2 : decide (a.size < a.size) = false := by simp
              have hpl := plain_same (l := a.data.toList)
              rw [str_size] at hpl
              cases hq : plainTo a.data.toList a.size
              · clear hpl
                replace hq := Lib.hid hq
                go_wp2_with fail
                refine (Glob_any _ b _ (by decide) gb).mono ?_
                rintro e X2 ⟨rfl, x2⟩
                rw [gm_all_low]
                replace hBr := bnext hBr x2
                clear x2
                go_wp2_with fail
                refine (Glob_any a b _ ga gb).mono ?_
                rintro e X3 ⟨rfl, x3⟩
                rw [hG.out]
                replace hBr := bnext hBr x3
                clear x3
                go_wp2_with fail
                go_ret
                exact ⟨rfl, hBr⟩
              · have hsame := (hpl hq b.data.toList).symm.trans hG.out
                clear hpl
                replace hq := Lib.hid hq
                replace hsame := Lib.hid hsame
                go_wp2_with fail
                refine (Same_any a b _ ha hb).mono ?_
                rintro e X1 ⟨rfl, x1⟩
                rw [hsame.out]
                replace hBr := bnext hBr x1
                clear x1
                go_wp2_with fail
                refine (Glob_any _ b _ (by decide) gb).mono ?_
                rintro e X2 ⟨rfl, x2⟩
                rw [gm_all_low]
                replace hBr := bnext hBr x2
                clear x2
                go_wp2_with fail
                refine (Glob_any a b _ ga gb).mono ?_
                rintro e X3 ⟨rfl, x3⟩
                rw [hG.out]
                replace hBr := bnext hBr x3
                clear x3
                go_wp2_with fail
                go_ret
                exact ⟨rfl, hBr⟩
        · go_loopw [9, 10] (fun q i wr => Below w.heap.size w wr ∧ ∃ k : Nat, i = .int .i64 k ∧ k ≤ a.size ∧ q = .bool (plainTo a.data.toList k)) (fun _ i _ => a.size - (intOf i).toNat)
          case atStart => exact ⟨hB, 0, rfl, by omega, rfl⟩
          case round =>
            clear hx hB
            obtain ⟨hBr, k, rfl, hk, rfl⟩ := hrel
            by_cases hlt : k < a.size
            · have q1 : decide ((k : Int) < (a.size : Int)) = true := by simp; omega
              have q2 : decide (k < a.size) = true := by simp; omega
              obtain ⟨d, hd⟩ : ∃ d, a.data.toList.getD k 0 = d := ⟨_, rfl⟩
              have hx := idx_at a k hlt d hd
              have hsu := plainTo_succ (l := a.data.toList) (k := k) (by rw [str_size]; exact hlt)
              rw [hd] at hsu
              obtain ⟨pl, hpl⟩ : ∃ pl, plainTo a.data.toList k = pl := ⟨_, rfl⟩
              rw [hpl] at hsu ⊢
              have hk3 : k < 60 := by omega
              replace hpl := Lib.hid hpl
              replace hd := Lib.hid hd
              replace hlt := Lib.hid hlt
              have hcase : (pl = false ∧ plainTo a.data.toList (k + 1) = false) ∨ (pl = true ∧ ((d = 42 ∧ plainTo a.data.toList (k + 1) = false) ∨ (d ≠ 42 ∧ ((d = 63 ∧ plainTo a.data.toList (k + 1) = false) ∨ (d ≠ 63 ∧ plainTo a.data.toList (k + 1) = true))))) := by
                rw [hsu]
                cases pl
                · exact .inl ⟨rfl, rfl⟩
                · right
                  refine ⟨rfl, ?_⟩
                  by_cases h1 : d = 42
                  · left; subst h1; exact ⟨rfl, rfl⟩
                  · right
                    refine ⟨h1, ?_⟩
                    by_cases h2 : d = 63
                    · left; subst h2; exact ⟨rfl, rfl⟩
                    · right; exact ⟨h2, by simp [h1, h2]⟩
              clear hsu
              rcases hcase with ⟨rfl, hn⟩ | ⟨rfl, ⟨rfl, hn⟩ | ⟨n1, ⟨rfl, hn⟩ | ⟨n2, hn⟩⟩⟩
              · replace hn := Lib.hid hn
                go_wp2_with fail
                go_roundw
                case rel => exact ⟨hBr, k + 1, by go_num, hlt.out, by rw [hn.out]⟩
                case measure => have := hlt.out; simp only [intOf]; go_num
              · replace hn := Lib.hid hn
                go_wp2_with fail
                go_roundw
                case rel => exact ⟨hBr, k + 1, by go_num, hlt.out, by rw [hn.out]⟩
                case measure => have := hlt.out; simp only [intOf]; go_num
              · replace hn := Lib.hid hn
                replace n1 := Lib.hid n1
                go_wp2_with fail
                go_roundw
                case rel => exact ⟨hBr, k + 1, by go_num, hlt.out, by rw [hn.out]⟩
                case measure => have := hlt.out; simp only [intOf]; go_num
              · have r1 : ((d.toNat : Int) != 42) = true := by have := u8_ne n1; simpa using this
                have r2 : ((d.toNat : Int) != 63) = true := by have := u8_ne n2; simpa using this
                replace hn := Lib.hid hn
                replace n1 := Lib.hid n1
                replace n2 := Lib.hid n2
                go_wp2_with fail
                go_roundw
                case rel => exact ⟨hBr, k + 1, by go_num, hlt.out, by rw [hn.out]⟩
                case measure => have := hlt.out; simp only [intOf]; go_num
            · obtain rfl : k = a.size := by omega
              have q1 : decide ((a.size : Int) < (a.size : Int)) = false := by simp
              have q2 : decide (a.size < a.size) = false := by simp
              have hpl := plain_same (l := a.data.toList)
              rw [str_size] at hpl
              cases hq : plainTo a.data.toList a.size
              · clear hpl
                replace hq := Lib.hid hq
                go_wp2_with fail
                refine (Glob_any _ b _ (by decide) gb).mono ?_
                rintro e X2 ⟨rfl, x2⟩
                rw [gm_all_low]
                replace hBr := bnext hBr x2
                clear x2
                go_wp2_with fail
                refine (Glob_any a b _ ga gb).mono ?_
                rintro e X3 ⟨rfl, x3⟩
                rw [hG.out]
                replace hBr := bnext hBr x3
                clear x3
                go_wp2_with fail
                refine (Glob_any _ _ _ (hsz2 _ _ a ga60) (hsz2 _ _ b gb60)).mono ?_
                rintro e X4 ⟨rfl, x4⟩
                rw [wrap_low hG.out]
                go_wp2_with fail
                go_ret
                exact ⟨rfl, bnext hBr x4⟩
              · have hsame := (hpl hq b.data.toList).symm.trans hG.out
                clear hpl
                replace hq := Lib.hid hq
                replace hsame := Lib.hid hsame
                go_wp2_with fail
                refine (Same_any a b _ ha hb).mono ?_
                rintro e X1 ⟨rfl, x1⟩
                rw [hsame.out]
                replace hBr := bnext hBr x1
                clear x1
                go_wp2_with fail
                refine (Glob_any _ b _ (by decide) gb).mono ?_
                rintro e X2 ⟨rfl, x2⟩
                rw [gm_all_low]
                replace hBr := bnext hBr x2
                clear x2
                go_wp2_with fail
                refine (Glob_any a b _ ga gb).mono ?_
                rintro e X3 ⟨rfl, x3⟩
                rw [hG.out]
                replace hBr := bnext hBr x3
                clear x3
                go_wp2_with fail
                refine (Glob_any _ _ _ (hsz2 _ _ a ga60) (hsz2 _ _ b gb60)).mono ?_
                rintro e X4 ⟨rfl, x4⟩
                rw [wrap_low hG.out]
                go_wp2_with fail
                go_ret
                exact ⟨rfl, bnext hBr x4⟩
      · have kb := kb0 m1
        have kc := k42 h2
        subst m2
        replace hG := Lib.hid hG
        replace h2 := Lib.hid h2
        replace m1 := Lib.hid m1
        clear k42 k63 kb1 kb0 kb2
        go_enter Tryd.func10, Tryd.ntmps10
        go_wp2_with fail
        refine (small_any _).mono ?_
        rintro e W1 ⟨rfl, b1⟩
        go_wp2_with fail
        refine (Glob_any a b _ ga gb).mono ?_
        rintro e W2 ⟨rfl, b2⟩
        rw [hG.out]
        have hB := bnext b1 b2
        clear b1 b2
        go_wp2_with fail
        go_quiet (fail)
        replace hB := bdrewN (n := nq) hB
        go_wp2_with fail
        go_loopw [9, 10] (fun q i wr => Below w.heap.size w wr ∧ ∃ k : Nat, i = .int .i64 k ∧ k ≤ a.size ∧ q = .bool (plainTo a.data.toList k)) (fun _ i _ => a.size - (intOf i).toNat)
        case atStart => exact ⟨hB, 0, rfl, by omega, rfl⟩
        case round =>
          clear hx hB
          obtain ⟨hBr, k, rfl, hk, rfl⟩ := hrel
          by_cases hlt : k < a.size
          · have q1 : decide ((k : Int) < (a.size : Int)) = true := by simp; omega
            have q2 : decide (k < a.size) = true := by simp; omega
            obtain ⟨d, hd⟩ : ∃ d, a.data.toList.getD k 0 = d := ⟨_, rfl⟩
            have hx := idx_at a k hlt d hd
            have hsu := plainTo_succ (l := a.data.toList) (k := k) (by rw [str_size]; exact hlt)
            rw [hd] at hsu
            obtain ⟨pl, hpl⟩ : ∃ pl, plainTo a.data.toList k = pl := ⟨_, rfl⟩
            rw [hpl] at hsu ⊢
            have hk3 : k < 60 := by omega
            replace hpl := Lib.hid hpl
            replace hd := Lib.hid hd
            replace hlt := Lib.hid hlt
            have hcase : (pl = false ∧ plainTo a.data.toList (k + 1) = false) ∨ (pl = true ∧ ((d = 42 ∧ plainTo a.data.toList (k + 1) = false) ∨ (d ≠ 42 ∧ ((d = 63 ∧ plainTo a.data.toList (k + 1) = false) ∨ (d ≠ 63 ∧ plainTo a.data.toList (k + 1) = true))))) := by
              rw [hsu]
              cases pl
              · exact .inl ⟨rfl, rfl⟩
              · right
                refine ⟨rfl, ?_⟩
                by_cases h1 : d = 42
                · left; subst h1; exact ⟨rfl, rfl⟩
                · right
                  refine ⟨h1, ?_⟩
                  by_cases h2 : d = 63
                  · left; subst h2; exact ⟨rfl, rfl⟩
                  · right; exact ⟨h2, by simp [h1, h2]⟩
            clear hsu
            rcases hcase with ⟨rfl, hn⟩ | ⟨rfl, ⟨rfl, hn⟩ | ⟨n1, ⟨rfl, hn⟩ | ⟨n2, hn⟩⟩⟩
            · replace hn := Lib.hid hn
              go_wp2_with fail
              go_roundw
              case rel => exact ⟨hBr, k + 1, by go_num, hlt.out, by rw [hn.out]⟩
              case measure => have := hlt.out; simp only [intOf]; go_num
            · replace hn := Lib.hid hn
              go_wp2_with fail
              go_roundw
              case rel => exact ⟨hBr, k + 1, by go_num, hlt.out, by rw [hn.out]⟩
              case measure => have := hlt.out; simp only [intOf]; go_num
            · replace hn := Lib.hid hn
              replace n1 := Lib.hid n1
              go_wp2_with fail
              go_roundw
              case rel => exact ⟨hBr, k + 1, by go_num, hlt.out, by rw [hn.out]⟩
              case measure => have := hlt.out; simp only [intOf]; go_num
            · have r1 : ((d.toNat : Int) != 42) = true := by have := u8_ne n1; simpa using this
              have r2 : ((d.toNat : Int) != 63) = true := by have := u8_ne n2; simpa using this
              replace hn := Lib.hid hn
              replace n1 := Lib.hid n1
              replace n2 := Lib.hid n2
              go_wp2_with fail
              go_roundw
              case rel => exact ⟨hBr, k + 1, by go_num, hlt.out, by rw [hn.out]⟩
              case measure => have := hlt.out; simp only [intOf]; go_num
          · obtain rfl : k = a.size := by omega
            have q1 : decide ((a.size : Int) < (a.size : Int)) = false := by simp
            have q2 : decide (a.size < a.size) = false := by simp
            have hpl := plain_same (l := a.data.toList)
            rw [str_size] at hpl
            cases hq : plainTo a.data.toList a.size
            · clear hpl
              replace hq := Lib.hid hq
              go_wp2_with fail
              refine (Glob_any _ b _ (by decide) gb).mono ?_
              rintro e X2 ⟨rfl, x2⟩
              rw [gm_all_low]
              replace hBr := bnext hBr x2
              clear x2
              go_wp2_with fail
              refine (Glob_any a b _ ga gb).mono ?_
              rintro e X3 ⟨rfl, x3⟩
              rw [hG.out]
              replace hBr := bnext hBr x3
              clear x3
              go_wp2_with fail
              go_ret
              exact ⟨rfl, hBr⟩
            · have hsame := (hpl hq b.data.toList).symm.trans hG.out
              clear hpl
              replace hq := Lib.hid hq
              replace hsame := Lib.hid hsame
              go_wp2_with fail
              refine (Same_any a b _ ha hb).mono ?_
              rintro e X1 ⟨rfl, x1⟩
              rw [hsame.out]
              replace hBr := bnext hBr x1
              clear x1
              go_wp2_with fail
              refine (Glob_any _ b _ (by decide) gb).mono ?_
              rintro e X2 ⟨rfl, x2⟩
              rw [gm_all_low]
              replace hBr := bnext hBr x2
              clear x2
              go_wp2_with fail
              refine (Glob_any a b _ ga gb).mono ?_
              rintro e X3 ⟨rfl, x3⟩
              rw [hG.out]
              replace hBr := bnext hBr x3
              clear x3
              go_wp2_with fail
              go_ret
              exact ⟨rfl, hBr⟩
      · have kb := kb1 m1
        have kc := k42 h2
        have kd := kb2 m1
        have kd2 : 1 ≤ b.size := m1
        subst m2
        replace hG := Lib.hid hG
        replace h2 := Lib.hid h2
        replace m1 := Lib.hid m1
        replace m3 := Lib.hid m3
        clear k42 k63 kb1 kb0 kb2
        go_enter Tryd.func10, Tryd.ntmps10
        go_wp2_with fail
        refine (small_any _).mono ?_
        rintro e W1 ⟨rfl, b1⟩
        go_wp2_with fail
        refine (Glob_any a b _ ga gb).mono ?_
        rintro e W2 ⟨rfl, b2⟩
        rw [hG.out]
        have hB := bnext b1 b2
        clear b1 b2
        go_wp2_with fail
        go_quiet (fail)
        replace hB := bdrewN (n := nq) hB
        go_wp2_with fail
        rw [show a.extract 1 a.size = x from hxr.out, show b.extract 1 b.size = y from hyr.out]
        refine (Glob_any x y _ hxs.out hys.out).mono ?_
        rintro e W3 ⟨rfl, b3⟩
        rw [m3.out]
        replace hB := bnext hB b3
        clear b3
        go_wp2_with fail
        clear e3
        cases G
        · go_loopw [9, 10] (fun q i wr => Below w.heap.size w wr ∧ ∃ k : Nat, i = .int .i64 k ∧ k ≤ a.size ∧ q = .bool (plainTo a.data.toList k)) (fun _ i _ => a.size - (intOf i).toNat)
          case atStart => exact ⟨hB, 0, rfl, by omega, rfl⟩
          case round =>
            clear hx hB
            obtain ⟨hBr, k, rfl, hk, rfl⟩ := hrel
            by_cases hlt : k < a.size
            · have q1 : decide ((k : Int) < (a.size : Int)) = true := by simp; omega
              have q2 : decide (k < a.size) = true := by simp; omega
              obtain ⟨d, hd⟩ : ∃ d, a.data.toList.getD k 0 = d := ⟨_, rfl⟩
              have hx := idx_at a k hlt d hd
              have hsu := plainTo_succ (l := a.data.toList) (k := k) (by rw [str_size]; exact hlt)
              rw [hd] at hsu
              obtain ⟨pl, hpl⟩ : ∃ pl, plainTo a.data.toList k = pl := ⟨_, rfl⟩
              rw [hpl] at hsu ⊢
              have hk3 : k < 60 := by omega
              replace hpl := Lib.hid hpl
              replace hd := Lib.hid hd
              replace hlt := Lib.hid hlt
              have hcase : (pl = false ∧ plainTo a.data.toList (k + 1) = false) ∨ (pl = true ∧ ((d = 42 ∧ plainTo a.data.toList (k + 1) = false) ∨ (d ≠ 42 ∧ ((d = 63 ∧ plainTo a.data.toList (k + 1) = false) ∨ (d ≠ 63 ∧ plainTo a.data.toList (k + 1) = true))))) := by
                rw [hsu]
                cases pl
                · exact .inl ⟨rfl, rfl⟩
                · right
                  refine ⟨rfl, ?_⟩
                  by_cases h1 : d = 42
                  · left; subst h1; exact ⟨rfl, rfl⟩
                  · right
                    refine ⟨h1, ?_⟩
                    by_cases h2 : d = 63
                    · left; subst h2; exact ⟨rfl, rfl⟩
                    · right; exact ⟨h2, by simp [h1, h2]⟩
              clear hsu
              rcases hcase with ⟨rfl, hn⟩ | ⟨rfl, ⟨rfl, hn⟩ | ⟨n1, ⟨rfl, hn⟩ | ⟨n2, hn⟩⟩⟩
              · replace hn := Lib.hid hn
                go_wp2_with fail
                go_roundw
                case rel => exact ⟨hBr, k + 1, by go_num, hlt.out, by rw [hn.out]⟩
                case measure => have := hlt.out; simp only [intOf]; go_num
              · replace hn := Lib.hid hn
                go_wp2_with fail
                go_roundw
                case rel => exact ⟨hBr, k + 1, by go_num, hlt.out, by rw [hn.out]⟩
                case measure => have := hlt.out; simp only [intOf]; go_num
              · replace hn := Lib.hid hn
                replace n1 := Lib.hid n1
                go_wp2_with fail
                go_roundw
                case rel => exact ⟨hBr, k + 1, by go_num, hlt.out, by rw [hn.out]⟩
                case measure => have := hlt.out; simp only [intOf]; go_num
              · have r1 : ((d.toNat : Int) != 42) = true := by have := u8_ne n1; simpa using this
                have r2 : ((d.toNat : Int) != 63) = true := by have := u8_ne n2; simpa using this
                replace hn := Lib.hid hn
                replace n1 := Lib.hid n1
                replace n2 := Lib.hid n2
                go_wp2_with fail
                go_roundw
                case rel => exact ⟨hBr, k + 1, by go_num, hlt.out, by rw [hn.out]⟩
                case measure => have := hlt.out; simp only [intOf]; go_num
            · obtain rfl : k = a.size := by omega
              have q1 : decide ((a.size : Int) < (a.size : Int)) = false := by simp
              have q2 : decide (a.size < a.size) = false := by simp
              have hpl := plain_same (l := a.data.toList)
              rw [str_size] at hpl
              cases hq : plainTo a.data.toList a.size
              · clear hpl
                replace hq := Lib.hid hq
                go_wp2_with fail
                refine (Glob_any _ b _ (by decide) gb).mono ?_
                rintro e X2 ⟨rfl, x2⟩
                rw [gm_all_low]
                replace hBr := bnext hBr x2
                clear x2
                go_wp2_with fail
                refine (Glob_any a b _ ga gb).mono ?_
                rintro e X3 ⟨rfl, x3⟩
                rw [hG.out]
                replace hBr := bnext hBr x3
                clear x3
                go_wp2_with fail
                go_ret
                exact ⟨rfl, hBr⟩
              · have hsame := (hpl hq b.data.toList).symm.trans hG.out
                clear hpl
                replace hq := Lib.hid hq
                replace hsame := Lib.hid hsame
                go_wp2_with fail
                refine (Same_any a b _ ha hb).mono ?_
                rintro e X1 ⟨rfl, x1⟩
                rw [hsame.out]
                replace hBr := bnext hBr x1
                clear x1
                go_wp2_with fail
                refine (Glob_any _ b _ (by decide) gb).mono ?_
                rintro e X2 ⟨rfl, x2⟩
                rw [gm_all_low]
                replace hBr := bnext hBr x2
                clear x2
                go_wp2_with fail
                refine (Glob_any a b _ ga gb).mono ?_
                rintro e X3 ⟨rfl, x3⟩
                rw [hG.out]
                replace hBr := bnext hBr x3
                clear x3
                go_wp2_with fail
                go_ret
                exact ⟨rfl, hBr⟩
        · go_loopw [9, 10] (fun q i wr => Below w.heap.size w wr ∧ ∃ k : Nat, i = .int .i64 k ∧ k ≤ a.size ∧ q = .bool (plainTo a.data.toList k)) (fun _ i _ => a.size - (intOf i).toNat)
          case atStart => exact ⟨hB, 0, rfl, by omega, rfl⟩
          case round =>
            clear hx hB
            obtain ⟨hBr, k, rfl, hk, rfl⟩ := hrel
            by_cases hlt : k < a.size
            · have q1 : decide ((k : Int) < (a.size : Int)) = true := by simp; omega
              have q2 : decide (k < a.size) = true := by simp; omega
              obtain ⟨d, hd⟩ : ∃ d, a.data.toList.getD k 0 = d := ⟨_, rfl⟩
              have hx := idx_at a k hlt d hd
              have hsu := plainTo_succ (l := a.data.toList) (k := k) (by rw [str_size]; exact hlt)
              rw [hd] at hsu
              obtain ⟨pl, hpl⟩ : ∃ pl, plainTo a.data.toList k = pl := ⟨_, rfl⟩
              rw [hpl] at hsu ⊢
              have hk3 : k < 60 := by omega
              replace hpl := Lib.hid hpl
              replace hd := Lib.hid hd
              replace hlt := Lib.hid hlt
              have hcase : (pl = false ∧ plainTo a.data.toList (k + 1) = false) ∨ (pl = true ∧ ((d = 42 ∧ plainTo a.data.toList (k + 1) = false) ∨ (d ≠ 42 ∧ ((d = 63 ∧ plainTo a.data.toList (k + 1) = false) ∨ (d ≠ 63 ∧ plainTo a.data.toList (k + 1) = true))))) := by
                rw [hsu]
                cases pl
                · exact .inl ⟨rfl, rfl⟩
                · right
                  refine ⟨rfl, ?_⟩
                  by_cases h1 : d = 42
                  · left; subst h1; exact ⟨rfl, rfl⟩
                  · right
                    refine ⟨h1, ?_⟩
                    by_cases h2 : d = 63
                    · left; subst h2; exact ⟨rfl, rfl⟩
                    · right; exact ⟨h2, by simp [h1, h2]⟩
              clear hsu
              rcases hcase with ⟨rfl, hn⟩ | ⟨rfl, ⟨rfl, hn⟩ | ⟨n1, ⟨rfl, hn⟩ | ⟨n2, hn⟩⟩⟩
              · replace hn := Lib.hid hn
                go_wp2_with fail
                go_roundw
                case rel => exact ⟨hBr, k + 1, by go_num, hlt.out, by rw [hn.out]⟩
                case measure => have := hlt.out; simp only [intOf]; go_num
              · replace hn := Lib.hid hn
                go_wp2_with fail
                go_roundw
                case rel => exact ⟨hBr, k + 1, by go_num, hlt.out, by rw [hn.out]⟩
                case measure => have := hlt.out; simp only [intOf]; go_num
              · replace hn := Lib.hid hn
                replace n1 := Lib.hid n1
                go_wp2_with fail
                go_roundw
                case rel => exact ⟨hBr, k + 1, by go_num, hlt.out, by rw [hn.out]⟩
                case measure => have := hlt.out; simp only [intOf]; go_num
              · have r1 : ((d.toNat : Int) != 42) = true := by have := u8_ne n1; simpa using this
                have r2 : ((d.toNat : Int) != 63) = true := by have := u8_ne n2; simpa using this
                replace hn := Lib.hid hn
                replace n1 := Lib.hid n1
                replace n2 := Lib.hid n2
                go_wp2_with fail
                go_roundw
                case rel => exact ⟨hBr, k + 1, by go_num, hlt.out, by rw [hn.out]⟩
                case measure => have := hlt.out; simp only [intOf]; go_num
            · obtain rfl : k = a.size := by omega
              have q1 : decide ((a.size : Int) < (a.size : Int)) = false := by simp
              have q2 : decide (a.size < a.size) = false := by simp
              have hpl := plain_same (l := a.data.toList)
              rw [str_size] at hpl
              cases hq : plainTo a.data.toList a.size
              · clear hpl
                replace hq := Lib.hid hq
                go_wp2_with fail
                refine (Glob_any _ b _ (by decide) gb).mono ?_
                rintro e X2 ⟨rfl, x2⟩
                rw [gm_all_low]
                replace hBr := bnext hBr x2
                clear x2
                go_wp2_with fail
                refine (Glob_any a b _ ga gb).mono ?_
                rintro e X3 ⟨rfl, x3⟩
                rw [hG.out]
                replace hBr := bnext hBr x3
                clear x3
                go_wp2_with fail
                refine (Glob_any _ _ _ (hsz2 _ _ a ga60) (hsz2 _ _ b gb60)).mono ?_
                rintro e X4 ⟨rfl, x4⟩
                rw [wrap_low hG.out]
                go_wp2_with fail
                go_ret
                exact ⟨rfl, bnext hBr x4⟩
              · have hsame := (hpl hq b.data.toList).symm.trans hG.out
                clear hpl
                replace hq := Lib.hid hq
                replace hsame := Lib.hid hsame
                go_wp2_with fail
                refine (Same_any a b _ ha hb).mono ?_
                rintro e X1 ⟨rfl, x1⟩
                rw [hsame.out]
                replace hBr := bnext hBr x1
                clear x1
                go_wp2_with fail
                refine (Glob_any _ b _ (by decide) gb).mono ?_
                rintro e X2 ⟨rfl, x2⟩
                rw [gm_all_low]
                replace hBr := bnext hBr x2
                clear x2
                go_wp2_with fail
                refine (Glob_any a b _ ga gb).mono ?_
                rintro e X3 ⟨rfl, x3⟩
                rw [hG.out]
                replace hBr := bnext hBr x3
                clear x3
                go_wp2_with fail
                refine (Glob_any _ _ _ (hsz2 _ _ a ga60) (hsz2 _ _ b gb60)).mono ?_
                rintro e X4 ⟨rfl, x4⟩
                rw [wrap_low hG.out]
                go_wp2_with fail
                go_ret
                exact ⟨rfl, bnext hBr x4⟩
      · have kb := kb1 m1
        have kc := k42 h2
        have kd := kb2 m1
        have kd2 : 1 ≤ b.size := m1
        have ke := k63 m2
        have kf := decide_eq_true m3
        have hza : (a.extract 0 1).size ≤ maxLen := by rw [ByteArray.size_extract]; unfold maxLen; omega
        have hzb : (b.extract 0 1).size ≤ maxLen := by rw [ByteArray.size_extract]; unfold maxLen; omega
        have hsm : ∀ W, Calls Tryd.prog 36 #[.string (a.extract 0 1), .string (b.extract 0 1)] W fun e w' => e = .returned (.bool true) ∧ Below W.heap.size W w' := fun W => by rw [← kf]; exact Same_any _ _ _ hza hzb
        clear kf hza hzb
        replace hG := Lib.hid hG
        replace h2 := Lib.hid h2
        replace m1 := Lib.hid m1
        replace m2 := Lib.hid m2
        replace m3 := Lib.hid m3
        replace m4 := Lib.hid m4
        clear k42 k63 kb1 kb0 kb2
        go_enter Tryd.func10, Tryd.ntmps10
        go_wp2_with fail
        refine (small_any _).mono ?_
        rintro e W1 ⟨rfl, b1⟩
        go_wp2_with fail
        refine (Glob_any a b _ ga gb).mono ?_
        rintro e W2 ⟨rfl, b2⟩
        rw [hG.out]
        have hB := bnext b1 b2
        clear b1 b2
        go_wp2_with fail
        refine wp_region_bel (by kernel_rfl) (by kernel_rfl) ?_
        repeat (go_big_quiet_step (first | (go_at_call 36; exact Calls.bel_of (hsm _))))
        refine wpQuiet_nil ?_
        rintro _ ⟨⟨W4, b4⟩, rfl⟩
        replace hB := bnext hB b4
        clear b4
        go_wp2_with fail
        rw [show a.extract 1 a.size = x from hxr.out, show b.extract 1 b.size = y from hyr.out]
        refine (Glob_any x y _ hxs.out hys.out).mono ?_
        rintro e W3 ⟨rfl, b3⟩
        rw [m4.out]
        replace hB := bnext hB b3
        clear b3
        go_wp2_with fail
        clear e3
        cases G
        · go_loopw [9, 10] (fun q i wr => Below w.heap.size w wr ∧ ∃ k : Nat, i = .int .i64 k ∧ k ≤ a.size ∧ q = .bool (plainTo a.data.toList k)) (fun _ i _ => a.size - (intOf i).toNat)
          case atStart => exact ⟨hB, 0, rfl, by omega, rfl⟩
          case round =>
            clear hx hB
            obtain ⟨hBr, k, rfl, hk, rfl⟩ := hrel
            by_cases hlt : k < a.size
            · have q1 : decide ((k : Int) < (a.size : Int)) = true := by simp; omega
              have q2 : decide (k < a.size) = true := by simp; omega
              obtain ⟨d, hd⟩ : ∃ d, a.data.toList.getD k 0 = d := ⟨_, rfl⟩
              have hx := idx_at a k hlt d hd
              have hsu := plainTo_succ (l := a.data.toList) (k := k) (by rw [str_size]; exact hlt)
              rw [hd] at hsu
              obtain ⟨pl, hpl⟩ : ∃ pl, plainTo a.data.toList k = pl := ⟨_, rfl⟩
              rw [hpl] at hsu ⊢
              have hk3 : k < 60 := by omega
              replace hpl := Lib.hid hpl
              replace hd := Lib.hid hd
              replace hlt := Lib.hid hlt
              have hcase : (pl = false ∧ plainTo a.data.toList (k + 1) = false) ∨ (pl = true ∧ ((d = 42 ∧ plainTo a.data.toList (k + 1) = false) ∨ (d ≠ 42 ∧ ((d = 63 ∧ plainTo a.data.toList (k + 1) = false) ∨ (d ≠ 63 ∧ plainTo a.data.toList (k + 1) = true))))) := by
                rw [hsu]
                cases pl
                · exact .inl ⟨rfl, rfl⟩
                · right
                  refine ⟨rfl, ?_⟩
                  by_cases h1 : d = 42
                  · left; subst h1; exact ⟨rfl, rfl⟩
                  · right
                    refine ⟨h1, ?_⟩
                    by_cases h2 : d = 63
                    · left; subst h2; exact ⟨rfl, rfl⟩
                    · right; exact ⟨h2, by simp [h1, h2]⟩
              clear hsu
              rcases hcase with ⟨rfl, hn⟩ | ⟨rfl, ⟨rfl, hn⟩ | ⟨n1, ⟨rfl, hn⟩ | ⟨n2, hn⟩⟩⟩
              · replace hn := Lib.hid hn
                go_wp2_with fail
                go_roundw
                case rel => exact ⟨hBr, k + 1, by go_num, hlt.out, by rw [hn.out]⟩
                case measure => have := hlt.out; simp only [intOf]; go_num
              · replace hn := Lib.hid hn
                go_wp2_with fail
                go_roundw
                case rel => exact ⟨hBr, k + 1, by go_num, hlt.out, by rw [hn.out]⟩
                case measure => have := hlt.out; simp only [intOf]; go_num
              · replace hn := Lib.hid hn
                replace n1 := Lib.hid n1
                go_wp2_with fail
                go_roundw
                case rel => exact ⟨hBr, k + 1, by go_num, hlt.out, by rw [hn.out]⟩
                case measure => have := hlt.out; simp only [intOf]; go_num
              · have r1 : ((d.toNat : Int) != 42) = true := by have := u8_ne n1; simpa using this
                have r2 : ((d.toNat : Int) != 63) = true := by have := u8_ne n2; simpa using this
                replace hn := Lib.hid hn
                replace n1 := Lib.hid n1
                replace n2 := Lib.hid n2
                go_wp2_with fail
                go_roundw
                case rel => exact ⟨hBr, k + 1, by go_num, hlt.out, by rw [hn.out]⟩
                case measure => have := hlt.out; simp only [intOf]; go_num
            · obtain rfl : k = a.size := by omega
              have q1 : decide ((a.size : Int) < (a.size : Int)) = false := by simp
              have q2 : decide (a.size < a.size) = false := by simp
              have hpl := plain_same (l := a.data.toList)
              rw [str_size] at hpl
              cases hq : plainTo a.data.toList a.size
              · clear hpl
                replace hq := Lib.hid hq
                go_wp2_with fail
                refine (Glob_any _ b _ (by decide) gb).mono ?_
                rintro e X2 ⟨rfl, x2⟩
                rw [gm_all_low]
                replace hBr := bnext hBr x2
                clear x2
                go_wp2_with fail
                refine (Glob_any a b _ ga gb).mono ?_
                rintro e X3 ⟨rfl, x3⟩
                rw [hG.out]
                replace hBr := bnext hBr x3
                clear x3
                go_wp2_with fail
                go_ret
                exact ⟨rfl, hBr⟩
              · have hsame := (hpl hq b.data.toList).symm.trans hG.out
                clear hpl
                replace hq := Lib.hid hq
                replace hsame := Lib.hid hsame
                go_wp2_with fail
                refine (Same_any a b _ ha hb).mono ?_
                rintro e X1 ⟨rfl, x1⟩
                rw [hsame.out]
                replace hBr := bnext hBr x1
                clear x1
                go_wp2_with fail
                refine (Glob_any _ b _ (by decide) gb).mono ?_
                rintro e X2 ⟨rfl, x2⟩
                rw [gm_all_low]
                replace hBr := bnext hBr x2
                clear x2
                go_wp2_with fail
                refine (Glob_any a b _ ga gb).mono ?_
                rintro e X3 ⟨rfl, x3⟩
                rw [hG.out]
                replace hBr := bnext hBr x3
                clear x3
                go_wp2_with fail
                go_ret
                exact ⟨rfl, hBr⟩
        · go_loopw [9, 10] (fun q i wr => Below w.heap.size w wr ∧ ∃ k : Nat, i = .int .i64 k ∧ k ≤ a.size ∧ q = .bool (plainTo a.data.toList k)) (fun _ i _ => a.size - (intOf i).toNat)
          case atStart => exact ⟨hB, 0, rfl, by omega, rfl⟩
          case round =>
            clear hx hB
            obtain ⟨hBr, k, rfl, hk, rfl⟩ := hrel
            by_cases hlt : k < a.size
            · have q1 : decide ((k : Int) < (a.size : Int)) = true := by simp; omega
              have q2 : decide (k < a.size) = true := by simp; omega
              obtain ⟨d, hd⟩ : ∃ d, a.data.toList.getD k 0 = d := ⟨_, rfl⟩
              have hx := idx_at a k hlt d hd
              have hsu := plainTo_succ (l := a.data.toList) (k := k) (by rw [str_size]; exact hlt)
              rw [hd] at hsu
              obtain ⟨pl, hpl⟩ : ∃ pl, plainTo a.data.toList k = pl := ⟨_, rfl⟩
              rw [hpl] at hsu ⊢
              have hk3 : k < 60 := by omega
              replace hpl := Lib.hid hpl
              replace hd := Lib.hid hd
              replace hlt := Lib.hid hlt
              have hcase : (pl = false ∧ plainTo a.data.toList (k + 1) = false) ∨ (pl = true ∧ ((d = 42 ∧ plainTo a.data.toList (k + 1) = false) ∨ (d ≠ 42 ∧ ((d = 63 ∧ plainTo a.data.toList (k + 1) = false) ∨ (d ≠ 63 ∧ plainTo a.data.toList (k + 1) = true))))) := by
                rw [hsu]
                cases pl
                · exact .inl ⟨rfl, rfl⟩
                · right
                  refine ⟨rfl, ?_⟩
                  by_cases h1 : d = 42
                  · left; subst h1; exact ⟨rfl, rfl⟩
                  · right
                    refine ⟨h1, ?_⟩
                    by_cases h2 : d = 63
                    · left; subst h2; exact ⟨rfl, rfl⟩
                    · right; exact ⟨h2, by simp [h1, h2]⟩
              clear hsu
              rcases hcase with ⟨rfl, hn⟩ | ⟨rfl, ⟨rfl, hn⟩ | ⟨n1, ⟨rfl, hn⟩ | ⟨n2, hn⟩⟩⟩
              · replace hn := Lib.hid hn
                go_wp2_with fail
                go_roundw
                case rel => exact ⟨hBr, k + 1, by go_num, hlt.out, by rw [hn.out]⟩
                case measure => have := hlt.out; simp only [intOf]; go_num
              · replace hn := Lib.hid hn
                go_wp2_with fail
                go_roundw
                case rel => exact ⟨hBr, k + 1, by go_num, hlt.out, by rw [hn.out]⟩
                case measure => have := hlt.out; simp only [intOf]; go_num
              · replace hn := Lib.hid hn
                replace n1 := Lib.hid n1
                go_wp2_with fail
                go_roundw
                case rel => exact ⟨hBr, k + 1, by go_num, hlt.out, by rw [hn.out]⟩
                case measure => have := hlt.out; simp only [intOf]; go_num
              · have r1 : ((d.toNat : Int) != 42) = true := by have := u8_ne n1; simpa using this
                have r2 : ((d.toNat : Int) != 63) = true := by have := u8_ne n2; simpa using this
                replace hn := Lib.hid hn
                replace n1 := Lib.hid n1
                replace n2 := Lib.hid n2
                go_wp2_with fail
                go_roundw
                case rel => exact ⟨hBr, k + 1, by go_num, hlt.out, by rw [hn.out]⟩
                case measure => have := hlt.out; simp only [intOf]; go_num
            · obtain rfl : k = a.size := by omega
              have q1 : decide ((a.size : Int) < (a.size : Int)) = false := by simp
              have q2 : decide (a.size < a.size) = false := by simp
              have hpl := plain_same (l := a.data.toList)
              rw [str_size] at hpl
              cases hq : plainTo a.data.toList a.size
              · clear hpl
                replace hq := Lib.hid hq
                go_wp2_with fail
                refine (Glob_any _ b _ (by decide) gb).mono ?_
                rintro e X2 ⟨rfl, x2⟩
                rw [gm_all_low]
                replace hBr := bnext hBr x2
                clear x2
                go_wp2_with fail
                refine (Glob_any a b _ ga gb).mono ?_
                rintro e X3 ⟨rfl, x3⟩
                rw [hG.out]
                replace hBr := bnext hBr x3
                clear x3
                go_wp2_with fail
                refine (Glob_any _ _ _ (hsz2 _ _ a ga60) (hsz2 _ _ b gb60)).mono ?_
                rintro e X4 ⟨rfl, x4⟩
                rw [wrap_low hG.out]
                go_wp2_with fail
                go_ret
                exact ⟨rfl, bnext hBr x4⟩
              · have hsame := (hpl hq b.data.toList).symm.trans hG.out
                clear hpl
                replace hq := Lib.hid hq
                replace hsame := Lib.hid hsame
                go_wp2_with fail
                refine (Same_any a b _ ha hb).mono ?_
                rintro e X1 ⟨rfl, x1⟩
                rw [hsame.out]
                replace hBr := bnext hBr x1
                clear x1
                go_wp2_with fail
                refine (Glob_any _ b _ (by decide) gb).mono ?_
                rintro e X2 ⟨rfl, x2⟩
                rw [gm_all_low]
                replace hBr := bnext hBr x2
                clear x2
                go_wp2_with fail
                refine (Glob_any a b _ ga gb).mono ?_
                rintro e X3 ⟨rfl, x3⟩
                rw [hG.out]
                replace hBr := bnext hBr x3
                clear x3
                go_wp2_with fail
                refine (Glob_any _ _ _ (hsz2 _ _ a ga60) (hsz2 _ _ b gb60)).mono ?_
                rintro e X4 ⟨rfl, x4⟩
                rw [wrap_low hG.out]
                go_wp2_with fail
                go_ret
                exact ⟨rfl, bnext hBr x4⟩
      · have kb := kb1 m1
        have kc := k42 h2
        have kd := kb2 m1
        have kd2 : 1 ≤ b.size := m1
        have ke := k63 m2
        have kf := decide_eq_false m3
        subst m4
        have hza : (a.extract 0 1).size ≤ maxLen := by rw [ByteArray.size_extract]; unfold maxLen; omega
        have hzb : (b.extract 0 1).size ≤ maxLen := by rw [ByteArray.size_extract]; unfold maxLen; omega
        have hsm : ∀ W, Calls Tryd.prog 36 #[.string (a.extract 0 1), .string (b.extract 0 1)] W fun e w' => e = .returned (.bool false) ∧ Below W.heap.size W w' := fun W => by rw [← kf]; exact Same_any _ _ _ hza hzb
        clear kf hza hzb
        replace hG := Lib.hid hG
        replace h2 := Lib.hid h2
        replace m1 := Lib.hid m1
        replace m2 := Lib.hid m2
        replace m3 := Lib.hid m3
        clear k42 k63 kb1 kb0 kb2
        go_enter Tryd.func10, Tryd.ntmps10
        go_wp2_with fail
        refine (small_any _).mono ?_
        rintro e W1 ⟨rfl, b1⟩
        go_wp2_with fail
        refine (Glob_any a b _ ga gb).mono ?_
        rintro e W2 ⟨rfl, b2⟩
        rw [hG.out]
        have hB := bnext b1 b2
        clear b1 b2
        go_wp2_with fail
        refine wp_region_bel (by kernel_rfl) (by kernel_rfl) ?_
        repeat (go_big_quiet_step (first | (go_at_call 36; exact Calls.bel_of (hsm _))))
        refine wpQuiet_nil ?_
        rintro _ ⟨⟨W4, b4⟩, rfl⟩
        replace hB := bnext hB b4
        clear b4
        go_wp2_with fail
        go_loopw [9, 10] (fun q i wr => Below w.heap.size w wr ∧ ∃ k : Nat, i = .int .i64 k ∧ k ≤ a.size ∧ q = .bool (plainTo a.data.toList k)) (fun _ i _ => a.size - (intOf i).toNat)
        case atStart => exact ⟨hB, 0, rfl, by omega, rfl⟩
        case round =>
          clear hx hB
          obtain ⟨hBr, k, rfl, hk, rfl⟩ := hrel
          by_cases hlt : k < a.size
          · have q1 : decide ((k : Int) < (a.size : Int)) = true := by simp; omega
            have q2 : decide (k < a.size) = true := by simp; omega
            obtain ⟨d, hd⟩ : ∃ d, a.data.toList.getD k 0 = d := ⟨_, rfl⟩
            have hx := idx_at a k hlt d hd
            have hsu := plainTo_succ (l := a.data.toList) (k := k) (by rw [str_size]; exact hlt)
            rw [hd] at hsu
            obtain ⟨pl, hpl⟩ : ∃ pl, plainTo a.data.toList k = pl := ⟨_, rfl⟩
            rw [hpl] at hsu ⊢
            have hk3 : k < 60 := by omega
            replace hpl := Lib.hid hpl
            replace hd := Lib.hid hd
            replace hlt := Lib.hid hlt
            have hcase : (pl = false ∧ plainTo a.data.toList (k + 1) = false) ∨ (pl = true ∧ ((d = 42 ∧ plainTo a.data.toList (k + 1) = false) ∨ (d ≠ 42 ∧ ((d = 63 ∧ plainTo a.data.toList (k + 1) = false) ∨ (d ≠ 63 ∧ plainTo a.data.toList (k + 1) = true))))) := by
              rw [hsu]
              cases pl
              · exact .inl ⟨rfl, rfl⟩
              · right
                refine ⟨rfl, ?_⟩
                by_cases h1 : d = 42
                · left; subst h1; exact ⟨rfl, rfl⟩
                · right
                  refine ⟨h1, ?_⟩
                  by_cases h2 : d = 63
                  · left; subst h2; exact ⟨rfl, rfl⟩
                  · right; exact ⟨h2, by simp [h1, h2]⟩
            clear hsu
            rcases hcase with ⟨rfl, hn⟩ | ⟨rfl, ⟨rfl, hn⟩ | ⟨n1, ⟨rfl, hn⟩ | ⟨n2, hn⟩⟩⟩
            · replace hn := Lib.hid hn
              go_wp2_with fail
              go_roundw
              case rel => exact ⟨hBr, k + 1, by go_num, hlt.out, by rw [hn.out]⟩
              case measure => have := hlt.out; simp only [intOf]; go_num
            · replace hn := Lib.hid hn
              go_wp2_with fail
              go_roundw
              case rel => exact ⟨hBr, k + 1, by go_num, hlt.out, by rw [hn.out]⟩
              case measure => have := hlt.out; simp only [intOf]; go_num
            · replace hn := Lib.hid hn
              replace n1 := Lib.hid n1
              go_wp2_with fail
              go_roundw
              case rel => exact ⟨hBr, k + 1, by go_num, hlt.out, by rw [hn.out]⟩
              case measure => have := hlt.out; simp only [intOf]; go_num
            · have r1 : ((d.toNat : Int) != 42) = true := by have := u8_ne n1; simpa using this
              have r2 : ((d.toNat : Int) != 63) = true := by have := u8_ne n2; simpa using this
              replace hn := Lib.hid hn
              replace n1 := Lib.hid n1
              replace n2 := Lib.hid n2
              go_wp2_with fail
              go_roundw
              case rel => exact ⟨hBr, k + 1, by go_num, hlt.out, by rw [hn.out]⟩
              case measure => have := hlt.out; simp only [intOf]; go_num
          · obtain rfl : k = a.size := by omega
            have q1 : decide ((a.size : Int) < (a.size : Int)) = false := by simp
            have q2 : decide (a.size < a.size) = false := by simp
            have hpl := plain_same (l := a.data.toList)
            rw [str_size] at hpl
            cases hq : plainTo a.data.toList a.size
            · clear hpl
              replace hq := Lib.hid hq
              go_wp2_with fail
              refine (Glob_any _ b _ (by decide) gb).mono ?_
              rintro e X2 ⟨rfl, x2⟩
              rw [gm_all_low]
              replace hBr := bnext hBr x2
              clear x2
              go_wp2_with fail
              refine (Glob_any a b _ ga gb).mono ?_
              rintro e X3 ⟨rfl, x3⟩
              rw [hG.out]
              replace hBr := bnext hBr x3
              clear x3
              go_wp2_with fail
              go_ret
              exact ⟨rfl, hBr⟩
            · have hsame := (hpl hq b.data.toList).symm.trans hG.out
              clear hpl
              replace hq := Lib.hid hq
              replace hsame := Lib.hid hsame
              go_wp2_with fail
              refine (Same_any a b _ ha hb).mono ?_
              rintro e X1 ⟨rfl, x1⟩
              rw [hsame.out]
              replace hBr := bnext hBr x1
              clear x1
              go_wp2_with fail
              refine (Glob_any _ b _ (by decide) gb).mono ?_
              rintro e X2 ⟨rfl, x2⟩
              rw [gm_all_low]
              replace hBr := bnext hBr x2
              clear x2
              go_wp2_with fail
              refine (Glob_any a b _ ga gb).mono ?_
              rintro e X3 ⟨rfl, x3⟩
              rw [hG.out]
              replace hBr := bnext hBr x3
              clear x3
              go_wp2_with fail
              go_ret
              exact ⟨rfl, hBr⟩
  · have hw : (decide ((60 : Int) < (a.size : Int)) = true) ∨ (decide ((60 : Int) < (a.size : Int)) = false ∧ decide ((60 : Int) < (b.size : Int)) = true) := by
      by_cases h : a.size ≤ 60
      · right; simp; omega
      · left; simp; omega
    clear h1
    rcases hw with g1 | ⟨g1, g2⟩
    · go_enter Tryd.func10, Tryd.ntmps10
      go_wp2_with fail
      refine (small_any _).mono ?_
      rintro e W1 ⟨rfl, b1⟩
      go_wp2_with fail
      go_ret
      exact ⟨rfl, b1⟩
    · go_enter Tryd.func10, Tryd.ntmps10
      go_wp2_with fail
      refine (small_any _).mono ?_
      rintro e W1 ⟨rfl, b1⟩
      go_wp2_with fail
      go_ret
      exact ⟨rfl, b1⟩
end Go.Proofs.YtompmkcpicfdfaaDoor
