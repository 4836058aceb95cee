/- missivelaw27.sorted: a slice of at most 40 times in ascending order. -/
import Derived.Test.YtnbfmmnbjjeecaaSmall
import Derived.Test.YtnbfmmnbjjeecaaSl
namespace Go.Proofs.Ytnbfmmnbjjeecaa
open Go.RowKit
set_option linter.unusedVariables false
theorem info3 : (Try.prog.info? 3).map (fun i => (i.zero, i.size, i.bytes)) = some (some (.int .i64 0), 1, 8) := by kernel_rfl
theorem size3 : (Try.prog.info? 3).map (·.size) = some 1 := by kernel_rfl
/-- Times in ascending order, from 0 to MaxTime. -/
def Times (l : List Int) : Prop := l.Pairwise (· ≤ ·) ∧ ∀ x ∈ l, 0 ≤ x ∧ x ≤ 70368744177664
theorem insert_times (l : List Int) (j : Nat) (t : Int) (h : Times l) (h0 : 0 ≤ t) (h1 : t ≤ 70368744177664) (hj : j ≤ l.length) (hlo : 0 < j → l.getD (j - 1) 0 ≤ t) (hhi : ∀ i, j ≤ i → i < l.length → t < l.getD i 0) :
    Times (l.take j ++ [t] ++ l.drop j) := by
  obtain ⟨hp, hb⟩ := h
  refine ⟨?_, ?_⟩
  · rw [List.append_assoc, List.pairwise_append]
    refine ⟨hp.sublist (List.take_sublist _ _), ?_, ?_⟩
    · rw [List.singleton_append, List.pairwise_cons]
      refine ⟨?_, hp.sublist (List.drop_sublist _ _)⟩
      intro x hx
      obtain ⟨i, hi, rfl⟩ := List.mem_iff_getElem.1 hx
      rw [List.length_drop] at hi
      have := hhi (j + i) (by omega) (by omega)
      rw [List.getElem_drop]
      rw [List.getD_eq_getElem?_getD, List.getElem?_eq_getElem (by omega), Option.getD_some] at this
      omega
    · intro x hx y hy
      obtain ⟨i, hi, rfl⟩ := List.mem_iff_getElem.1 hx
      rw [List.length_take] at hi
      rw [List.getElem_take]
      have hlt : l[i]'(by omega) ≤ l[j - 1]'(by omega) := by
        rcases Nat.lt_or_ge i (j - 1) with h | h
        · exact List.pairwise_iff_getElem.1 hp i (j - 1) (by omega) (by omega) h
        · have : i = j - 1 := by omega
          subst this; exact Int.le_refl _
      have hlo' := hlo (by omega)
      rw [List.getD_eq_getElem?_getD, List.getElem?_eq_getElem (by omega), Option.getD_some] at hlo'
      rcases List.mem_append.1 hy with hy | hy
      · simp at hy; omega
      · obtain ⟨m, hm, rfl⟩ := List.mem_iff_getElem.1 hy
        rw [List.length_drop] at hm
        have := hhi (j + m) (by omega) (by omega)
        rw [List.getElem_drop]
        rw [List.getD_eq_getElem?_getD, List.getElem?_eq_getElem (by omega), Option.getD_some] at this
        omega
  · intro x hx
    rcases List.mem_append.1 hx with hx | hx
    · rcases List.mem_append.1 hx with hx | hx
      · exact hb x (List.mem_of_mem_take hx)
      · simp at hx; omega
    · exact hb x (List.mem_of_mem_drop hx)
theorem insert_length (l : List Int) (j : Nat) (t : Int) (hj : j ≤ l.length) : (l.take j ++ [t] ++ l.drop j).length = l.length + 1 := by
  simp; omega
theorem bd_of_wf {n : Int} (h : (Lit.int .i64 n).wf = true) : -9223372036854775808 ≤ n ∧ n ≤ 9223372036854775807 := by
  simpa [Lit.wf, IntKind.min, IntKind.max, IntKind.signed, IntKind.bits] using h
set_option maxHeartbeats 1000000 in
theorem sorted_any (tv : Value) (len : Nat) (zs : List Int) (w : World) (hz : zs.length = len) (hS : Sl w 1 tv len (cells64 zs)) (hlen : len ≤ 9223372036854775807) :
    Calls Try.prog 8 #[tv] w fun e w' => ∃ v l, e = .returned v ∧ Times l ∧ l.length ≤ 40 ∧ w'.ownsRow w.heap.size 3 1 v l.length (cells64 l) ∧ Bel w w' := by
  obtain ⟨i0, hi, hz0, hz1, hz2⟩ := info_parts info3
  obtain ⟨ta, tc, rfl, htc, htm⟩ := hS.val
  go_enter Try.func8, Try.ntmps8
  go_wp2_with fail
  go_loopw [3, 4] (fun v i wr => ∃ (k : Nat) (l : List Int), k ≤ len ∧ k ≤ 40 ∧ i = .int .i64 k ∧ l.length = k ∧ Times l ∧ wr.ownsRow w.heap.size 3 1 v k (cells64 l) ∧ Below w.heap.size w wr) (fun _ i _ => 40 - (intOf i).toNat)
  case atStart => exact ⟨0, [], Nat.zero_le _, Nat.zero_le _, rfl, rfl, ⟨List.Pairwise.nil, fun x hx => by cases hx⟩, World.ownsRow_nil _ _ _ _, Below.refl _ _⟩
  case round =>
    obtain ⟨k, l, hk, hk40, rfl, hl, hT, hown, hB⟩ := hrel
    by_cases hlt : k < len
    · by_cases h40 : k < 40
      · have hSr := hS.below hB
        obtain ⟨b, off, cap, hv, _, _, hbs, hc⟩ := hSr.at (by omega)
        obtain ⟨rfl, _, rfl⟩ := Value.slice.inj hv
        have hck := hc k _ (cells64_get zs k (by omega))
        rw [List.getD_eq_getElem?_getD] at hck
        generalize zs[k]?.getD 0 = z at hck
        obtain ⟨t0, ht0, hb0⟩ : ∃ t0, (if z < 0 then 0 else z) = t0 ∧ 0 ≤ t0 := ⟨_, rfl, by split <;> omega⟩
        obtain ⟨x, hx, hx0, hx1⟩ : ∃ x, (if 70368744177664 < t0 then 70368744177664 else t0) = x ∧ 0 ≤ x ∧ x ≤ 70368744177664 := ⟨_, rfl, by split <;> omega, by split <;> omega⟩
        rcases own_cases hown with ⟨rfl, hk0⟩ | ⟨g, gc, rfl, hkc, hcm, hg1, hg2⟩
        · subst hk0
          obtain rfl : l = [] := List.eq_nil_of_length_eq_zero hl
          simp only [Nat.add_zero] at hck
          go_wp2_with fail
          go_loop [6] (fun a => a = .int .i64 (0 : Nat)) (fun a => 0)
          case atStart => rfl
          case round =>
            subst hrel
            have hgt : Hid (∀ i, 0 ≤ i → i < 0 → x < ([] : List Int).getD i 0) := fun i h1 h2 => by omega
            have hlo : 0 < 0 → ([] : List Int).getD (0 - 1) 0 ≤ x := fun h => by omega
            have hS0 := Sl.of_own hown
            go_wp2_with (first
              | ((with_reducible show wpList _ _ _ (⟨some 42, _, _, _, _, _⟩ :: _) _ _); refine wpList_cut_l (o := ⟨some 42, _, _, _, _, _⟩) rfl 24 (.tmp 40) (.tmp 41) rfl Try.underlying24 size3 rfl (hS0.alloc _) (k := .i64) (l := 0) rfl (by omega) ?_; intro vr hvr)
              | ((with_reducible show wpList _ _ _ (⟨some 43, _, _, _, _, _⟩ :: _) _ _); refine wpList_append_src (o := ⟨some 43, _, _, _, _, _⟩) rfl (.tmp 39) (.tmp 42) 24 24 rfl wr.heap.size 3 i0 (.int .i64 0) 1 8 Try.underlying24 hi hz0 hz1 hz2 rfl (by decide) (.slice (some ⟨wr.heap.size, 0, none⟩) 0 0) (0) ([]) rfl (World.ownsRow_made wr #[] 0 (Nat.le_refl _) (Nat.zero_le _) rfl) (vr) rfl (0 - 0) ((cells64 ([] : List Int)).drop (0 * 1)) (Src.ofSl Try.underlying24 hvr (by rw [cells64_drop]; exact cells64_one _)) (by unfold maxLen; omega) (by omega) (by simp) ?_; intro v1 w1 own1 gr1 _ _; simp only [Nat.zero_add, List.nil_append] at own1; have b1 : Below wr.heap.size wr w1 := ((Below.refl _ _).alloc (Nat.le_refl _) _).trans (below_grown (World.ownsRow_made wr #[] 0 (base := wr.heap.size) (e := 3) (size := 1) (Nat.le_refl _) (Nat.zero_le _) rfl) (by simp) gr1); clear gr1 hvr)
              | ((with_reducible show wpList _ _ _ (⟨some 47, _, _, _, _, _⟩ :: _) _ _); refine wpList_cut_h (o := ⟨some 47, _, _, _, _, _⟩) rfl 24 (.tmp 45) (.tmp 46) rfl Try.underlying24 size3 rfl ((hS0.below b1).alloc _) (k := .i64) (u := 0) rfl (by omega) ?_; intro vt hvt)
              | ((with_reducible show wpList _ _ _ (⟨some 48, _, _, _, _, _⟩ :: _) _ _); refine wpList_append_src (o := ⟨some 48, _, _, _, _, _⟩) rfl (.tmp 44) (.tmp 47) 24 24 rfl w1.heap.size 3 i0 (.int .i64 0) 1 8 Try.underlying24 hi hz0 hz1 hz2 rfl (by decide) (.slice (some ⟨w1.heap.size, 0, none⟩) 0 0) (0) ([]) rfl (World.ownsRow_made w1 #[] 0 (Nat.le_refl _) (Nat.zero_le _) rfl) (vt) rfl (0) ((cells64 ([] : List Int)).take (0 * 1)) (Src.ofSl Try.underlying24 hvt (by rw [cells64_take]; exact cells64_one _)) (by unfold maxLen; omega) (by omega) (by simp) ?_; intro v2 w2 own2 gr2 _ _; simp only [Nat.zero_add, List.nil_append] at own2; have b2 : Below w1.heap.size w1 w2 := ((Below.refl _ _).alloc (Nat.le_refl _) _).trans (below_grown (World.ownsRow_made w1 #[] 0 (base := w1.heap.size) (e := 3) (size := 1) (Nat.le_refl _) (Nat.zero_le _) rfl) (by simp) gr2); clear gr2 hvt)
              | ((with_reducible show wpList _ _ _ (⟨some 51, _, _, _, _, _⟩ :: _) _ _); refine wpList_append_src (o := ⟨some 51, _, _, _, _, _⟩) rfl (.tmp 48) (.tmp 50) 24 24 rfl w1.heap.size 3 i0 (.int .i64 0) 1 8 Try.underlying24 hi hz0 hz1 hz2 rfl (by decide) (v2) (0) ((cells64 ([] : List Int)).take (0 * 1)) rfl (own2.alloc _) (.slice (some ⟨w2.heap.size, 0, none⟩) 1 1) rfl (1) ([.int .i64 x]) (Src.ofSlice _ Try.underlying24 ⟨w2.heap.size, 0, none⟩ 1 1 [.int .i64 x] rfl (cell_one_new _ _ _) (by simp [Value.oneCell'])) (by unfold maxLen; omega) (by omega) (by have := b2.size; simp; omega) ?_; intro v3 w3 own3 gr3 _ _; have b3 : Below w1.heap.size w1 w3 := (b2.alloc b2.size _).trans (below_grown (own2.alloc _) (by have := b2.size; simp; omega) gr3); clear gr3)
              | ((with_reducible show wpList _ _ _ (⟨some 53, _, _, _, _, _⟩ :: _) _ _); refine wpList_append_src (o := ⟨some 53, _, _, _, _, _⟩) rfl (.tmp 51) (.tmp 52) 24 24 rfl w1.heap.size 3 i0 (.int .i64 0) 1 8 Try.underlying24 hi hz0 hz1 hz2 rfl (by decide) (v3) (0 + 1) ((cells64 ([] : List Int)).take (0 * 1) ++ [.int .i64 x]) rfl (own3) (v1) rfl (0 - 0) ((cells64 ([] : List Int)).drop (0 * 1)) (Src.ofSl Try.underlying24 ((Sl.of_own own1).below b3) (by rw [cells64_drop]; exact cells64_one _)) (by unfold maxLen; omega) (by omega) (by have := b3.size; omega) ?_; intro v4 w4 own4 gr4 _ _; have b4 : Below w1.heap.size w1 w4 := b3.trans (below_grown own3 b3.size gr4); clear gr4))
            have hB4 : Below w.heap.size w w4 := (hB.trans (b1.mono hB.size)).trans (b4.mono (Nat.le_trans hB.size b1.size))
            have hlen4 := insert_length [] 0 x (by omega)
            have hT4 := insert_times [] 0 x hT hx0 hx1 (by omega) hlo fun i h1 h2 => hgt.out i h1 (by omega)
            have own5 : w4.ownsRow w.heap.size 3 1 v4 (0 + 1) (cells64 (([] : List Int).take 0 ++ [x] ++ ([] : List Int).drop 0)) := by
              have hnum : 0 + 1 + (0 - 0) = 0 + 1 := by omega
              rw [hnum] at own4
              refine own_mono ?_ (Nat.le_trans hB.size b1.size)
              rw [cells64_drop, cells64_take] at own4
              rw [← cells64_append, ← cells64_append]
              exact own4
            go_roundw
            case rel => exact ⟨0 + 1, _, by omega, by omega, by go_num, (by first | (rw [hlen4]; done) | rw [hlen4, hl]), hT4, own5, hB4⟩
            case measure => simp [intOf] <;> omega
        · have hcell : ∀ j, j < k → wr.cell? ⟨g, j, none⟩ = some (.int .i64 (l[j]?.getD 0)) := fun j hj => by
            obtain ⟨b', o', c', hv', _, _, _, hc'⟩ := (Sl.of_own hown).at (by omega)
            obtain ⟨hv1, _, _⟩ := Value.slice.inj hv'
            injection hv1 with hv1; injection hv1 with e1 e2; subst e1 e2
            have := hc' j _ (cells64_get l j (by omega))
            rw [List.getD_eq_getElem?_getD] at this
            simpa using this
          replace hcell := Lib.hid hcell
          go_wp2_with fail
          go_loop [6] (fun a => ∃ j : Nat, j ≤ k ∧ a = .int .i64 j ∧ Hid (∀ i, j ≤ i → i < k → x < l.getD i 0)) (fun a => (intOf a).toNat)
          case atStart => exact ⟨k, Nat.le_refl _, rfl, fun i h1 h2 => by omega⟩
          case round =>
            obtain ⟨j, hj, rfl, hgt⟩ := hrel
            by_cases hj0 : 0 < j
            · have hcj := hcell.out (j - 1) (by omega)
              by_cases hx2 : x < l[j - 1]?.getD 0
              · go_wp2_with fail
                go_round
                case rel => 
                  refine ⟨j - 1, by omega, by go_num, fun i h1 h2 => ?_⟩
                  rcases Nat.lt_or_ge i j with h | h
                  · have : i = j - 1 := by omega
                    subst this; rw [List.getD_eq_getElem?_getD]; exact hx2
                  · exact hgt.out i h h2
                case measure => simp [intOf] <;> omega
              · have hlo : 0 < j → l.getD (j - 1) 0 ≤ x := fun _ => by rw [List.getD_eq_getElem?_getD]; omega
                have hS0 := Sl.of_own hown
                go_wp2_with (first
                  | ((with_reducible show wpList _ _ _ (⟨some 42, _, _, _, _, _⟩ :: _) _ _); refine wpList_cut_l (o := ⟨some 42, _, _, _, _, _⟩) rfl 24 (.tmp 40) (.tmp 41) rfl Try.underlying24 size3 rfl (hS0.alloc _) (k := .i64) (l := j) rfl (by omega) ?_; intro vr hvr)
                  | ((with_reducible show wpList _ _ _ (⟨some 43, _, _, _, _, _⟩ :: _) _ _); refine wpList_append_src (o := ⟨some 43, _, _, _, _, _⟩) rfl (.tmp 39) (.tmp 42) 24 24 rfl wr.heap.size 3 i0 (.int .i64 0) 1 8 Try.underlying24 hi hz0 hz1 hz2 rfl (by decide) (.slice (some ⟨wr.heap.size, 0, none⟩) 0 0) (0) ([]) rfl (World.ownsRow_made wr #[] 0 (Nat.le_refl _) (Nat.zero_le _) rfl) (vr) rfl (k - j) ((cells64 l).drop (j * 1)) (Src.ofSl Try.underlying24 hvr (by rw [cells64_drop]; exact cells64_one _)) (by unfold maxLen; omega) (by omega) (by simp) ?_; intro v1 w1 own1 gr1 _ _; simp only [Nat.zero_add, List.nil_append] at own1; have b1 : Below wr.heap.size wr w1 := ((Below.refl _ _).alloc (Nat.le_refl _) _).trans (below_grown (World.ownsRow_made wr #[] 0 (base := wr.heap.size) (e := 3) (size := 1) (Nat.le_refl _) (Nat.zero_le _) rfl) (by simp) gr1); clear gr1 hvr)
                  | ((with_reducible show wpList _ _ _ (⟨some 47, _, _, _, _, _⟩ :: _) _ _); refine wpList_cut_h (o := ⟨some 47, _, _, _, _, _⟩) rfl 24 (.tmp 45) (.tmp 46) rfl Try.underlying24 size3 rfl ((hS0.below b1).alloc _) (k := .i64) (u := j) rfl (by omega) ?_; intro vt hvt)
                  | ((with_reducible show wpList _ _ _ (⟨some 48, _, _, _, _, _⟩ :: _) _ _); refine wpList_append_src (o := ⟨some 48, _, _, _, _, _⟩) rfl (.tmp 44) (.tmp 47) 24 24 rfl w1.heap.size 3 i0 (.int .i64 0) 1 8 Try.underlying24 hi hz0 hz1 hz2 rfl (by decide) (.slice (some ⟨w1.heap.size, 0, none⟩) 0 0) (0) ([]) rfl (World.ownsRow_made w1 #[] 0 (Nat.le_refl _) (Nat.zero_le _) rfl) (vt) rfl (j) ((cells64 l).take (j * 1)) (Src.ofSl Try.underlying24 hvt (by rw [cells64_take]; exact cells64_one _)) (by unfold maxLen; omega) (by omega) (by simp) ?_; intro v2 w2 own2 gr2 _ _; simp only [Nat.zero_add, List.nil_append] at own2; have b2 : Below w1.heap.size w1 w2 := ((Below.refl _ _).alloc (Nat.le_refl _) _).trans (below_grown (World.ownsRow_made w1 #[] 0 (base := w1.heap.size) (e := 3) (size := 1) (Nat.le_refl _) (Nat.zero_le _) rfl) (by simp) gr2); clear gr2 hvt)
                  | ((with_reducible show wpList _ _ _ (⟨some 51, _, _, _, _, _⟩ :: _) _ _); refine wpList_append_src (o := ⟨some 51, _, _, _, _, _⟩) rfl (.tmp 48) (.tmp 50) 24 24 rfl w1.heap.size 3 i0 (.int .i64 0) 1 8 Try.underlying24 hi hz0 hz1 hz2 rfl (by decide) (v2) (j) ((cells64 l).take (j * 1)) rfl (own2.alloc _) (.slice (some ⟨w2.heap.size, 0, none⟩) 1 1) rfl (1) ([.int .i64 x]) (Src.ofSlice _ Try.underlying24 ⟨w2.heap.size, 0, none⟩ 1 1 [.int .i64 x] rfl (cell_one_new _ _ _) (by simp [Value.oneCell'])) (by unfold maxLen; omega) (by omega) (by have := b2.size; simp; omega) ?_; intro v3 w3 own3 gr3 _ _; have b3 : Below w1.heap.size w1 w3 := (b2.alloc b2.size _).trans (below_grown (own2.alloc _) (by have := b2.size; simp; omega) gr3); clear gr3)
                  | ((with_reducible show wpList _ _ _ (⟨some 53, _, _, _, _, _⟩ :: _) _ _); refine wpList_append_src (o := ⟨some 53, _, _, _, _, _⟩) rfl (.tmp 51) (.tmp 52) 24 24 rfl w1.heap.size 3 i0 (.int .i64 0) 1 8 Try.underlying24 hi hz0 hz1 hz2 rfl (by decide) (v3) (j + 1) ((cells64 l).take (j * 1) ++ [.int .i64 x]) rfl (own3) (v1) rfl (k - j) ((cells64 l).drop (j * 1)) (Src.ofSl Try.underlying24 ((Sl.of_own own1).below b3) (by rw [cells64_drop]; exact cells64_one _)) (by unfold maxLen; omega) (by omega) (by have := b3.size; omega) ?_; intro v4 w4 own4 gr4 _ _; have b4 : Below w1.heap.size w1 w4 := b3.trans (below_grown own3 b3.size gr4); clear gr4))
                have hB4 : Below w.heap.size w w4 := (hB.trans (b1.mono hB.size)).trans (b4.mono (Nat.le_trans hB.size b1.size))
                have hlen4 := insert_length l j x (by omega)
                have hT4 := insert_times l j x hT hx0 hx1 (by omega) hlo fun i h1 h2 => hgt.out i h1 (by omega)
                have own5 : w4.ownsRow w.heap.size 3 1 v4 (k + 1) (cells64 (l.take j ++ [x] ++ l.drop j)) := by
                  have hnum : j + 1 + (k - j) = k + 1 := by omega
                  rw [hnum] at own4
                  refine own_mono ?_ (Nat.le_trans hB.size b1.size)
                  rw [cells64_drop, cells64_take] at own4
                  rw [← cells64_append, ← cells64_append]
                  exact own4
                go_roundw
                case rel => exact ⟨k + 1, _, by omega, by omega, by go_num, (by first | (rw [hlen4]; done) | rw [hlen4, hl]), hT4, own5, hB4⟩
                case measure => simp [intOf] <;> omega
            · obtain rfl : j = 0 := by omega
              have hlo : 0 < 0 → l.getD (0 - 1) 0 ≤ x := fun h => by omega
              have hS0 := Sl.of_own hown
              go_wp2_with (first
                | ((with_reducible show wpList _ _ _ (⟨some 42, _, _, _, _, _⟩ :: _) _ _); refine wpList_cut_l (o := ⟨some 42, _, _, _, _, _⟩) rfl 24 (.tmp 40) (.tmp 41) rfl Try.underlying24 size3 rfl (hS0.alloc _) (k := .i64) (l := 0) rfl (by omega) ?_; intro vr hvr)
                | ((with_reducible show wpList _ _ _ (⟨some 43, _, _, _, _, _⟩ :: _) _ _); refine wpList_append_src (o := ⟨some 43, _, _, _, _, _⟩) rfl (.tmp 39) (.tmp 42) 24 24 rfl wr.heap.size 3 i0 (.int .i64 0) 1 8 Try.underlying24 hi hz0 hz1 hz2 rfl (by decide) (.slice (some ⟨wr.heap.size, 0, none⟩) 0 0) (0) ([]) rfl (World.ownsRow_made wr #[] 0 (Nat.le_refl _) (Nat.zero_le _) rfl) (vr) rfl (k - 0) ((cells64 l).drop (0 * 1)) (Src.ofSl Try.underlying24 hvr (by rw [cells64_drop]; exact cells64_one _)) (by unfold maxLen; omega) (by omega) (by simp) ?_; intro v1 w1 own1 gr1 _ _; simp only [Nat.zero_add, List.nil_append] at own1; have b1 : Below wr.heap.size wr w1 := ((Below.refl _ _).alloc (Nat.le_refl _) _).trans (below_grown (World.ownsRow_made wr #[] 0 (base := wr.heap.size) (e := 3) (size := 1) (Nat.le_refl _) (Nat.zero_le _) rfl) (by simp) gr1); clear gr1 hvr)
                | ((with_reducible show wpList _ _ _ (⟨some 47, _, _, _, _, _⟩ :: _) _ _); refine wpList_cut_h (o := ⟨some 47, _, _, _, _, _⟩) rfl 24 (.tmp 45) (.tmp 46) rfl Try.underlying24 size3 rfl ((hS0.below b1).alloc _) (k := .i64) (u := 0) rfl (by omega) ?_; intro vt hvt)
                | ((with_reducible show wpList _ _ _ (⟨some 48, _, _, _, _, _⟩ :: _) _ _); refine wpList_append_src (o := ⟨some 48, _, _, _, _, _⟩) rfl (.tmp 44) (.tmp 47) 24 24 rfl w1.heap.size 3 i0 (.int .i64 0) 1 8 Try.underlying24 hi hz0 hz1 hz2 rfl (by decide) (.slice (some ⟨w1.heap.size, 0, none⟩) 0 0) (0) ([]) rfl (World.ownsRow_made w1 #[] 0 (Nat.le_refl _) (Nat.zero_le _) rfl) (vt) rfl (0) ((cells64 l).take (0 * 1)) (Src.ofSl Try.underlying24 hvt (by rw [cells64_take]; exact cells64_one _)) (by unfold maxLen; omega) (by omega) (by simp) ?_; intro v2 w2 own2 gr2 _ _; simp only [Nat.zero_add, List.nil_append] at own2; have b2 : Below w1.heap.size w1 w2 := ((Below.refl _ _).alloc (Nat.le_refl _) _).trans (below_grown (World.ownsRow_made w1 #[] 0 (base := w1.heap.size) (e := 3) (size := 1) (Nat.le_refl _) (Nat.zero_le _) rfl) (by simp) gr2); clear gr2 hvt)
                | ((with_reducible show wpList _ _ _ (⟨some 51, _, _, _, _, _⟩ :: _) _ _); refine wpList_append_src (o := ⟨some 51, _, _, _, _, _⟩) rfl (.tmp 48) (.tmp 50) 24 24 rfl w1.heap.size 3 i0 (.int .i64 0) 1 8 Try.underlying24 hi hz0 hz1 hz2 rfl (by decide) (v2) (0) ((cells64 l).take (0 * 1)) rfl (own2.alloc _) (.slice (some ⟨w2.heap.size, 0, none⟩) 1 1) rfl (1) ([.int .i64 x]) (Src.ofSlice _ Try.underlying24 ⟨w2.heap.size, 0, none⟩ 1 1 [.int .i64 x] rfl (cell_one_new _ _ _) (by simp [Value.oneCell'])) (by unfold maxLen; omega) (by omega) (by have := b2.size; simp; omega) ?_; intro v3 w3 own3 gr3 _ _; have b3 : Below w1.heap.size w1 w3 := (b2.alloc b2.size _).trans (below_grown (own2.alloc _) (by have := b2.size; simp; omega) gr3); clear gr3)
                | ((with_reducible show wpList _ _ _ (⟨some 53, _, _, _, _, _⟩ :: _) _ _); refine wpList_append_src (o := ⟨some 53, _, _, _, _, _⟩) rfl (.tmp 51) (.tmp 52) 24 24 rfl w1.heap.size 3 i0 (.int .i64 0) 1 8 Try.underlying24 hi hz0 hz1 hz2 rfl (by decide) (v3) (0 + 1) ((cells64 l).take (0 * 1) ++ [.int .i64 x]) rfl (own3) (v1) rfl (k - 0) ((cells64 l).drop (0 * 1)) (Src.ofSl Try.underlying24 ((Sl.of_own own1).below b3) (by rw [cells64_drop]; exact cells64_one _)) (by unfold maxLen; omega) (by omega) (by have := b3.size; omega) ?_; intro v4 w4 own4 gr4 _ _; have b4 : Below w1.heap.size w1 w4 := b3.trans (below_grown own3 b3.size gr4); clear gr4))
              have hB4 : Below w.heap.size w w4 := (hB.trans (b1.mono hB.size)).trans (b4.mono (Nat.le_trans hB.size b1.size))
              have hlen4 := insert_length l 0 x (by omega)
              have hT4 := insert_times l 0 x hT hx0 hx1 (by omega) hlo fun i h1 h2 => hgt.out i h1 (by omega)
              have own5 : w4.ownsRow w.heap.size 3 1 v4 (k + 1) (cells64 (l.take 0 ++ [x] ++ l.drop 0)) := by
                have hnum : 0 + 1 + (k - 0) = k + 1 := by omega
                rw [hnum] at own4
                refine own_mono ?_ (Nat.le_trans hB.size b1.size)
                rw [cells64_drop, cells64_take] at own4
                rw [← cells64_append, ← cells64_append]
                exact own4
              go_roundw
              case rel => exact ⟨k + 1, _, by omega, by omega, by go_num, (by first | (rw [hlen4]; done) | rw [hlen4, hl]), hT4, own5, hB4⟩
              case measure => simp [intOf] <;> omega
      · go_wp2_with fail
        go_ret
        exact ⟨_, l, rfl, hT, by omega, by rw [hl]; exact hown, hB⟩
    · go_wp2_with fail
      go_ret
      exact ⟨_, l, rfl, hT, by omega, by rw [hl]; exact hown, hB⟩
end Go.Proofs.Ytnbfmmnbjjeecaa
