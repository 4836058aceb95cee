/- Divisions ([][]int) in memory; missiveref35.Same. -/
import Derived.Test.YtnbfmmnbjjeecabTame
namespace Go.Proofs.Ytnbfmmnbjjeecab
open Go.RowKit
set_option linter.unusedVariables false
/-- A slice of slices of ints. -/
def IsDiv (w : World) (v : Value) (gs : List (List Int)) : Prop :=
  ∃ vs : List Value, Sl w 1 v gs.length vs ∧ ∀ (i : Nat) (g : List Int), gs[i]? = some g → ∃ u, vs[i]? = some u ∧ Sl w 1 u g.length (cells64 g)
theorem IsDiv.below {w w' : World} {v : Value} {gs : List (List Int)} (h : IsDiv w v gs) (hb : Below w.heap.size w w') : IsDiv w' v gs := by
  obtain ⟨vs, h1, h2⟩ := h
  refine ⟨vs, h1.below hb, fun i g hg => ?_⟩
  obtain ⟨u, h3, h4⟩ := h2 i g hg
  exact ⟨u, h3, h4.below hb⟩
theorem IsDiv.length_le {w : World} {v : Value} {gs : List (List Int)} (h : IsDiv w v gs) : gs.length ≤ maxLen := by
  obtain ⟨vs, h1, h2⟩ := h; exact h1.le_max
theorem IsDiv.val {w : World} {v : Value} {gs : List (List Int)} (h : IsDiv w v gs) : ∃ a cap, v = .slice a gs.length cap ∧ gs.length ≤ cap ∧ cap ≤ maxLen := by
  obtain ⟨vs, h1, h2⟩ := h; exact h1.val
/-- The group i. -/
theorem IsDiv.at {w : World} {v : Value} {gs : List (List Int)} (h : IsDiv w v gs) (hn : 0 < gs.length) :
    ∃ b off cap, v = .slice (some ⟨b, off, none⟩) gs.length cap ∧ b < w.heap.size ∧ ∀ i, i < gs.length → ∃ a c, w.cell? ⟨b, off + i, none⟩ = some (.slice a (gs.getD i []).length c) ∧ (gs.getD i []).length ≤ c ∧ c ≤ maxLen ∧ Sl w 1 (.slice a (gs.getD i []).length c) (gs.getD i []).length (cells64 (gs.getD i [])) := by
  obtain ⟨vs, h1, h2⟩ := h
  obtain ⟨b, off, cap, rfl, hc1, hc2, hb, hc⟩ := h1.at hn
  refine ⟨b, off, cap, rfl, hb, fun i hi => ?_⟩
  have hg : gs[i]? = some (gs.getD i []) := by rw [List.getD_eq_getElem?_getD, List.getElem?_eq_getElem hi]; rfl
  obtain ⟨u, h3, h4⟩ := h2 i _ hg
  obtain ⟨a, c, rfl, h5, h6⟩ := h4.val
  exact ⟨a, c, hc i _ h3, h5, h6, h4⟩
/-- The number k of a group. -/
theorem Sl.num {w : World} {a : Option Addr} {n c : Nat} {g : List Int} (h : Sl w 1 (.slice a n c) n (cells64 g)) (hn : 0 < n) : ∃ b off, a = some ⟨b, off, none⟩ ∧ b < w.heap.size ∧ ∀ k, k < n → w.cell? ⟨b, off + k, none⟩ = some (.int .i64 (g.getD k 0)) := by
  obtain ⟨b, off, cap, hv, _, _, hb, hc⟩ := h.at hn
  have hl : g.length = n := by have := h.length; rw [cells64_length] at this; omega
  injection hv with hv _ _
  exact ⟨b, off, hv, hb, fun k hk => hc k _ (cells64_get g k (by omega))⟩
theorem same_iff {A B : List (List Int)} (h : A.length = B.length) (h2 : ∀ i, i < A.length → (A.getD i []).length = (B.getD i []).length ∧ ∀ k, k < (A.getD i []).length → (A.getD i []).getD k 0 = (B.getD i []).getD k 0) : A = B := by
  refine List.ext_getElem h fun i h3 h4 => ?_
  have h5 := h2 i h3
  rw [List.getD_eq_getElem?_getD, List.getElem?_eq_getElem h3, List.getD_eq_getElem?_getD, List.getElem?_eq_getElem h4] at h5
  refine List.ext_getElem h5.1 fun k h6 h7 => ?_
  have h8 := h5.2 k h6
  simpa [h6, h7] using h8
theorem Same_any (va vb : Value) (A B : List (List Int)) (w : World) (hA : IsDiv w va A) (hB : IsDiv w vb B) :
    Calls Try.prog 8 #[va, vb] w fun e w' => e = .returned (.bool (decide (A = B))) ∧ Bel w w' := by
  have hmA := hA.length_le
  have hmB := hB.length_le
  unfold maxLen at hmA hmB
  obtain ⟨q, hq⟩ : ∃ q, decide (A = B) = q := ⟨_, rfl⟩
  rw [hq]
  by_cases hn : A.length = B.length
  · by_cases h0 : A.length = 0
    · obtain ⟨aa, ca, rfl, _, _⟩ := hA.val
      obtain ⟨ab, cb, rfl, _, _⟩ := hB.val
      obtain rfl : A = [] := List.eq_nil_of_length_eq_zero h0
      obtain rfl : B = [] := List.eq_nil_of_length_eq_zero hn.symm
      obtain rfl : q = true := by rw [← hq]; rfl
      go_enter Try.func8, Try.ntmps8
      go_wp2_with fail
      go_loop [5] (fun i => i = .int .i64 (0 : Nat)) (fun _ => 0)
      case atStart => rfl
      case round =>
        subst hrel
        go_wp2_with fail
        go_ret
        exact ⟨rfl, Below.refl _ _⟩
    · obtain ⟨ba, oa, ca, rfl, hba, hca⟩ := hA.at (by omega)
      obtain ⟨bb, ob, cb, rfl, hbb, hcb⟩ := hB.at (by omega)
      replace hca := Lib.hid hca
      replace hcb := Lib.hid hcb
      replace hq := Lib.hid hq
      replace hA := Lib.hid hA
      replace hB := Lib.hid hB
      go_enter Try.func8, Try.ntmps8
      go_wp2_with fail
      go_loopw [5] (fun i wr => ∃ k : Nat, k ≤ A.length ∧ i = .int .i64 k ∧ Hid (∀ i, i < k → (A.getD i []).length = (B.getD i []).length ∧ ∀ k, k < (A.getD i []).length → (A.getD i []).getD k 0 = (B.getD i []).getD k 0) ∧ Below w.heap.size w wr) (fun i _ => A.length - (intOf i).toNat)
      case atStart => exact ⟨0, Nat.zero_le _, rfl, fun i hi => by omega, Below.refl _ _⟩
      case round =>
        obtain ⟨k, hk, rfl, hI, rB⟩ := hrel
        by_cases hkn : k < A.length
        · obtain ⟨xa, xc, ha1, ha2, ha3, ha4⟩ := hca.out k hkn
          obtain ⟨ya, yc, hb1, hb2, hb3, hb4⟩ := hcb.out k (by omega)
          have ha5 := (rB.cell (p := ⟨ba, oa + k, none⟩) hba).trans ha1
          have hb5 := (rB.cell (p := ⟨bb, ob + k, none⟩) hbb).trans hb1
          unfold maxLen at ha3 hb3
          obtain ⟨g, hg⟩ : ∃ g, A.getD k [] = g := ⟨_, rfl⟩
          obtain ⟨g', hg'⟩ : ∃ g, B.getD k [] = g := ⟨_, rfl⟩
          rw [hg] at ha1 ha2 ha4 ha5
          rw [hg'] at hb1 hb2 hb4 hb5
          replace hg := Lib.hid hg
          replace hg' := Lib.hid hg'
          by_cases hgl : g.length = g'.length
          · by_cases hg0 : g.length = 0
            · have hI2 : Hid (∀ i, i < k + 1 → (A.getD i []).length = (B.getD i []).length ∧ ∀ k, k < (A.getD i []).length → (A.getD i []).getD k 0 = (B.getD i []).getD k 0) := by
                intro i hi
                rcases Nat.lt_or_ge i k with h5 | h5
                · exact hI.out i h5
                · obtain rfl : i = k := by omega
                  rw [hg.out, hg'.out]
                  exact ⟨hgl, fun k hk => by omega⟩
              clear ha4 hb4
              go_wp2_with fail
              go_quiet (fail)
              go_wp2_with fail
              go_loopw [6] (fun j wq => j = .int .i64 (0 : Nat) ∧ Below w.heap.size w wq) (fun _ _ => 0)
              case atStart =>
                refine ⟨rfl, ?_⟩
                repeat (first | with_reducible exact Below.refl _ _ | with_reducible assumption | (with_reducible refine balloc ?_) | (with_reducible refine bdrew ?_) | (with_reducible refine bdrewN ?_) | (with_reducible refine bset ?_ (by first | omega | (simp; done) | (simp; omega))) | (with_reducible refine bnext ?_ (by assumption)))
              case round =>
                obtain ⟨rfl, qB⟩ := hrel
                have ha6 := (qB.cell (p := ⟨ba, oa + k, none⟩) hba).trans ha1
                go_wp2_with fail
                go_roundw
                case rel => exact ⟨k + 1, by omega, by go_num, hI2, qB⟩
                case measure => simp [intOf]; omega
            · obtain ⟨bx, ox, rfl, hbx, hcx⟩ := ha4.num (by omega)
              obtain ⟨by_, oy, rfl, hby, hcy⟩ := hb4.num (by omega)
              replace hcx := Lib.hid hcx
              replace hcy := Lib.hid hcy
              clear ha4 hb4
              go_wp2_with fail
              go_quiet (fail)
              go_wp2_with fail
              go_loopw [6] (fun j wq => ∃ i : Nat, i ≤ g.length ∧ j = .int .i64 i ∧ Hid (∀ k, k < i → g.getD k 0 = g'.getD k 0) ∧ Below w.heap.size w wq) (fun j _ => g.length - (intOf j).toNat)
              case atStart =>
                refine ⟨0, Nat.zero_le _, rfl, fun k hk => by omega, ?_⟩
                repeat (first | with_reducible exact Below.refl _ _ | with_reducible assumption | (with_reducible refine balloc ?_) | (with_reducible refine bdrew ?_) | (with_reducible refine bdrewN ?_) | (with_reducible refine bset ?_ (by first | omega | (simp; done) | (simp; omega))) | (with_reducible refine bnext ?_ (by assumption)))
              case round =>
                obtain ⟨i, hil, rfl, hJ, qB⟩ := hrel
                have ha6 := (qB.cell (p := ⟨ba, oa + k, none⟩) hba).trans ha1
                have hb6 := (qB.cell (p := ⟨bb, ob + k, none⟩) hbb).trans hb1
                by_cases hig : i < g.length
                · have hx := (qB.cell (p := ⟨bx, ox + i, none⟩) hbx).trans (hcx.out i hig)
                  have hy := (qB.cell (p := ⟨by_, oy + i, none⟩) hby).trans (hcy.out i (by omega))
                  obtain ⟨x, ex⟩ : ∃ x, g.getD i 0 = x := ⟨_, rfl⟩
                  obtain ⟨y, ey⟩ : ∃ y, g'.getD i 0 = y := ⟨_, rfl⟩
                  rw [ex] at hx
                  rw [ey] at hy
                  replace ex := Lib.hid ex
                  replace ey := Lib.hid ey
                  by_cases hxy : x = y
                  · have hxy' : (x != y) = false := by simp [hxy]
                    have hJ2 : Hid (∀ k, k < i + 1 → g.getD k 0 = g'.getD k 0) := by
                      intro k hk
                      rcases Nat.lt_or_ge k i with h5 | h5
                      · exact hJ.out k h5
                      · obtain rfl : k = i := by omega
                        rw [ex.out, ey.out]; exact hxy
                    clear hxy
                    go_wp2_with fail
                    go_quiet (fail)
                    go_wp2_with fail
                    go_roundw
                    case rel =>
                      refine ⟨i + 1, by omega, by go_num, hJ2, ?_⟩
                      repeat (first | with_reducible exact Below.refl _ _ | with_reducible assumption | (with_reducible refine balloc ?_) | (with_reducible refine bdrew ?_) | (with_reducible refine bdrewN ?_) | (with_reducible refine bset ?_ (by first | omega | (simp; done) | (simp; omega))) | (with_reducible refine bnext ?_ (by assumption)))
                    case measure => simp [intOf]; omega
                  · have hxy' : (x != y) = true := by simp [hxy]
                    obtain rfl : q = false := by
                      rw [← hq.out, decide_eq_false_iff_not]
                      intro he
                      apply hxy
                      rw [← ex.out, ← ey.out, ← hg.out, ← hg'.out, he]
                    clear hxy
                    go_wp2_with fail
                    go_quiet (fail)
                    go_wp2_with fail
                    go_ret
                    refine ⟨rfl, ?_⟩
                    repeat (first | with_reducible exact Below.refl _ _ | with_reducible assumption | (with_reducible refine balloc ?_) | (with_reducible refine bdrew ?_) | (with_reducible refine bdrewN ?_) | (with_reducible refine bset ?_ (by first | omega | (simp; done) | (simp; omega))) | (with_reducible refine bnext ?_ (by assumption)))
                · have hI2 : Hid (∀ i, i < k + 1 → (A.getD i []).length = (B.getD i []).length ∧ ∀ k, k < (A.getD i []).length → (A.getD i []).getD k 0 = (B.getD i []).getD k 0) := by
                    intro j hj
                    rcases Nat.lt_or_ge j k with h5 | h5
                    · exact hI.out j h5
                    · obtain rfl : j = k := by omega
                      rw [hg.out, hg'.out]
                      exact ⟨hgl, fun k hk => hJ.out k (by omega)⟩
                  go_wp2_with fail
                  go_roundw
                  case rel => exact ⟨k + 1, by omega, by go_num, hI2, qB⟩
                  case measure => simp [intOf]; omega
          · obtain rfl : q = false := by
              rw [← hq.out, decide_eq_false_iff_not]
              intro he
              rw [← hg.out, ← hg'.out, he] at hgl
              exact hgl rfl
            clear ha1 hb1
            go_wp2_with fail
            go_quiet (fail)
            go_wp2_with fail
            go_ret
            refine ⟨rfl, ?_⟩
            repeat (first | with_reducible exact Below.refl _ _ | with_reducible assumption | (with_reducible refine balloc ?_) | (with_reducible refine bdrew ?_) | (with_reducible refine bdrewN ?_) | (with_reducible refine bset ?_ (by first | omega | (simp; done) | (simp; omega))) | (with_reducible refine bnext ?_ (by assumption)))
        · obtain rfl : q = true := by
            rw [← hq.out, decide_eq_true_eq]
            exact same_iff hn fun i hi => hI.out i (by omega)
          go_wp2_with fail
          go_ret
          exact ⟨rfl, rB⟩
  · obtain ⟨aa, ca, rfl, _, _⟩ := hA.val
    obtain ⟨ab, cb, rfl, _, _⟩ := hB.val
    obtain rfl : q = false := by
      rw [← hq, decide_eq_false_iff_not]
      intro he; subst he; exact hn rfl
    go_enter Try.func8, Try.ntmps8
    go_wp2_with fail
    go_ret
    exact ⟨rfl, Below.refl _ _⟩
end Go.Proofs.Ytnbfmmnbjjeecab
