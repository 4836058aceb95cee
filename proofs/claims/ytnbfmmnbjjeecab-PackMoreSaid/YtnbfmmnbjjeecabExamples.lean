/- missivelaw35.small: the examples of the documentation. -/
import Derived.Test.YtnbfmmnbjjeecabRefAny
namespace Go.Proofs.Ytnbfmmnbjjeecab
open Go.RowKit Go.Shelf
set_option linter.unusedVariables false
/-- A slice that the call has just built. -/
theorem Sl.new (w : World) (C : Array Value) (T : TypeId) (b n : Nat) (hb : w.heap.size = b) (hn : C.size = n) (hm : n ≤ maxLen) : Sl (w.alloc (.cells C T)) 1 (.slice (some ⟨b, 0, none⟩) n n) n C.toList := by
  subst hb hn
  refine ⟨by simp, _, _, rfl, Nat.le_refl _, hm, fun h => (by cases h), ?_⟩
  by_cases h0 : C.size = 0
  · exact .inl h0
  · refine .inr ⟨_, _, rfl, by simp, fun j u hu => ?_⟩
    have h1 := heap_alloc_new w (.cells C T)
    simp only [World.cell?, Nat.zero_add]
    rw [h1]
    simpa using hu
theorem isDiv_of {w : World} {v : Value} {gs : List (List Int)} (vs : List Value) (h : Sl w 1 v gs.length vs) (h2 : ∀ (i : Nat) (g : List Int), gs[i]? = some g → ∃ u, vs[i]? = some u ∧ Sl w 1 u g.length (cells64 g)) : IsDiv w v gs := ⟨vs, h, h2⟩
theorem isDiv_lit1 {w : World} (C0 : List Int) (n0 : Nat) (h0 : C0.length = n0) (hm : n0 ≤ maxLen) :
    IsDiv ((w.alloc (.cells (C0.map (.int .i64)).toArray 3)).alloc (.cells #[.slice (some ⟨w.heap.size, 0, none⟩) n0 n0] 22)) (.slice (some ⟨w.heap.size + 1, 0, none⟩) 1 1) [C0] := by
  subst h0
  have s0 := Sl.new w (C0.map (.int .i64)).toArray 3 w.heap.size C0.length rfl (by simp) hm
  refine isDiv_of _ (Sl.new _ #[.slice (some ⟨w.heap.size, 0, none⟩) C0.length C0.length] _ _ _ (by simp) rfl (by decide)) fun i g hg => ?_
  rcases i with _ | i
  · simp at hg; subst hg; exact ⟨_, rfl, by simpa [cells64] using s0.alloc _⟩
  · simp at hg
theorem isDiv_lit2 {w : World} (C0 C1 : List Int) (n0 n1 : Nat) (h0 : C0.length = n0) (h1 : C1.length = n1) (hm : n0 ≤ maxLen) (hm1 : n1 ≤ maxLen) :
    IsDiv (((w.alloc (.cells (C0.map (.int .i64)).toArray 3)).alloc (.cells (C1.map (.int .i64)).toArray 3)).alloc (.cells #[.slice (some ⟨w.heap.size, 0, none⟩) n0 n0, .slice (some ⟨w.heap.size + 1, 0, none⟩) n1 n1] 22)) (.slice (some ⟨w.heap.size + 1 + 1, 0, none⟩) 2 2) [C0, C1] := by
  subst h0 h1
  have s0 := Sl.new w (C0.map (.int .i64)).toArray 3 w.heap.size C0.length rfl (by simp) hm
  have s1 := Sl.new (w.alloc (.cells (C0.map (.int .i64)).toArray 3)) (C1.map (.int .i64)).toArray 3 (w.heap.size + 1) C1.length (by simp) (by simp) hm1
  refine isDiv_of _ (Sl.new _ #[.slice (some ⟨w.heap.size, 0, none⟩) C0.length C0.length, .slice (some ⟨w.heap.size + 1, 0, none⟩) C1.length C1.length] _ _ _ (by simp) rfl (by decide)) fun i g hg => ?_
  rcases i with _ | _ | i
  · simp at hg; subst hg; exact ⟨_, rfl, by simpa [cells64] using (s0.alloc _).alloc _⟩
  · simp at hg; subst hg; exact ⟨_, rfl, by simpa [cells64] using s1.alloc _⟩
  · simp at hg
theorem isDiv_lit3 {w : World} (C0 C1 C2 : List Int) (n0 n1 n2 : Nat) (h0 : C0.length = n0) (h1 : C1.length = n1) (h2 : C2.length = n2) (hm : n0 ≤ maxLen) (hm1 : n1 ≤ maxLen) (hm2 : n2 ≤ maxLen) :
    IsDiv ((((w.alloc (.cells (C0.map (.int .i64)).toArray 3)).alloc (.cells (C1.map (.int .i64)).toArray 3)).alloc (.cells (C2.map (.int .i64)).toArray 3)).alloc (.cells #[.slice (some ⟨w.heap.size, 0, none⟩) n0 n0, .slice (some ⟨w.heap.size + 1, 0, none⟩) n1 n1, .slice (some ⟨w.heap.size + 1 + 1, 0, none⟩) n2 n2] 22)) (.slice (some ⟨w.heap.size + 1 + 1 + 1, 0, none⟩) 3 3) [C0, C1, C2] := by
  subst h0 h1 h2
  have s0 := Sl.new w (C0.map (.int .i64)).toArray 3 w.heap.size C0.length rfl (by simp) hm
  have s1 := Sl.new (w.alloc (.cells (C0.map (.int .i64)).toArray 3)) (C1.map (.int .i64)).toArray 3 (w.heap.size + 1) C1.length (by simp) (by simp) hm1
  have s2 := Sl.new ((w.alloc (.cells (C0.map (.int .i64)).toArray 3)).alloc (.cells (C1.map (.int .i64)).toArray 3)) (C2.map (.int .i64)).toArray 3 (w.heap.size + 1 + 1) C2.length (by simp) (by simp) hm2
  refine isDiv_of _ (Sl.new _ #[.slice (some ⟨w.heap.size, 0, none⟩) C0.length C0.length, .slice (some ⟨w.heap.size + 1, 0, none⟩) C1.length C1.length, .slice (some ⟨w.heap.size + 1 + 1, 0, none⟩) C2.length C2.length] _ _ _ (by simp) rfl (by decide)) fun i g hg => ?_
  rcases i with _ | _ | _ | i
  · simp at hg; subst hg; exact ⟨_, rfl, by simpa [cells64] using ((s0.alloc _).alloc _).alloc _⟩
  · simp at hg; subst hg; exact ⟨_, rfl, by simpa [cells64] using (s1.alloc _).alloc _⟩
  · simp at hg; subst hg; exact ⟨_, rfl, by simpa [cells64] using s2.alloc _⟩
  · simp at hg
theorem small_any (w : World) : Calls Try.prog 7 #[] w fun e w' => e = .returned (.bool true) ∧ Bel w w' := by
  have f1 : (fin [30, 30, 50, 10] 100 (wrap64 (100 - pos 20))).map rng = [[0, 1], [2, 3]] := by kernel_rfl
  have f2 : (fin [30, 200, 30] 100 (wrap64 (100 - pos 20))).map rng = [[0], [1], [2]] := by kernel_rfl
  have f3 : (fin [30, 200, 30] 0 (wrap64 (0 - pos 20))).map rng = [[0, 1, 2]] := by kernel_rfl
  have f4 : (fin [] 100 (wrap64 (100 - pos 20))).map rng = [] := by kernel_rfl
  replace f1 := Lib.hid f1
  replace f2 := Lib.hid f2
  replace f3 := Lib.hid f3
  replace f4 := Lib.hid f4
  go_enter Try.func7, Try.ntmps7
  go_wp2_with fail
  refine (Pack_any _ 4 4 [30, 30, 50, 10] 100 20 _ rfl (by decide) (Sl.new _ #[.int .i64 30, .int .i64 30, .int .i64 50, .int .i64 10] _ _ _ rfl rfl (by decide))).mono ?_
  rw [f1.out]
  rintro e W1 ⟨⟨v1, rfl, d1⟩, b1⟩
  go_wp2_with fail
  refine (Same_any v1 _ [[0, 1], [2, 3]] [[0, 1], [2, 3]] _ (d1.below ((((Below.refl _ _).alloc (by simp) _).alloc (by simp) _).alloc (by simp; omega) _)) (isDiv_lit2 [0, 1] [2, 3] 2 2 rfl rfl (by decide) (by decide))).mono ?_
  rintro e W2 ⟨rfl, b2⟩
  have B2 : Below w.heap.size w W2 := by repeat (first | with_reducible exact Below.refl _ _ | with_reducible assumption | (with_reducible refine balloc ?_) | (with_reducible refine bdrew ?_) | (with_reducible refine bdrewN ?_) | (with_reducible refine bset ?_ (by first | omega | (simp; done) | (simp; omega))) | (with_reducible refine bnext ?_ (by assumption)))
  clear b1 b2 d1
  go_wp2_with fail
  refine (Pack_any _ 3 3 [30, 200, 30] 100 20 _ rfl (by decide) (Sl.new _ #[.int .i64 30, .int .i64 200, .int .i64 30] _ _ _ rfl rfl (by decide))).mono ?_
  rw [f2.out]
  rintro e W3 ⟨⟨v3, rfl, d3⟩, b3⟩
  go_wp2_with fail
  refine (Same_any v3 _ [[0], [1], [2]] [[0], [1], [2]] _ (d3.below (((((Below.refl _ _).alloc (by simp) _).alloc (by simp) _).alloc (by simp; omega) _).alloc (by simp; omega) _)) (isDiv_lit3 [0] [1] [2] 1 1 1 rfl rfl rfl (by decide) (by decide) (by decide))).mono ?_
  rintro e W4 ⟨rfl, b4⟩
  have B4 : Below w.heap.size w W4 := by repeat (first | with_reducible exact Below.refl _ _ | with_reducible assumption | (with_reducible refine balloc ?_) | (with_reducible refine bdrew ?_) | (with_reducible refine bdrewN ?_) | (with_reducible refine bset ?_ (by first | omega | (simp; done) | (simp; omega))) | (with_reducible refine bnext ?_ (by assumption)))
  clear b3 b4 d3
  have a1 : alone 200 100 20 = true := by kernel_rfl
  have a2 : alone 80 100 20 = false := by kernel_rfl
  replace a1 := Lib.hid a1
  replace a2 := Lib.hid a2
  go_wp2_with fail
  refine (Alone_any 200 100 20 _ (by decide) (by decide)).mono ?_
  rw [a1.out]
  rintro e w' ⟨rfl, rfl⟩
  go_wp2_with fail
  refine (Alone_any 80 100 20 _ (by decide) (by decide)).mono ?_
  rw [a2.out]
  rintro e w' ⟨rfl, rfl⟩
  go_wp2_with fail
  refine (Pack_any _ 3 3 [30, 200, 30] 0 20 _ rfl (by decide) (Sl.new _ #[.int .i64 30, .int .i64 200, .int .i64 30] _ _ _ rfl rfl (by decide))).mono ?_
  rw [f3.out]
  rintro e W5 ⟨⟨v5, rfl, d5⟩, b5⟩
  go_wp2_with fail
  refine (Same_any v5 _ [[0, 1, 2]] [[0, 1, 2]] _ (d5.below (((Below.refl _ _).alloc (by simp) _).alloc (by simp) _)) (isDiv_lit1 [0, 1, 2] 3 rfl (by decide))).mono ?_
  rintro e W6 ⟨rfl, b6⟩
  have B6 : Below w.heap.size w W6 := by repeat (first | with_reducible exact Below.refl _ _ | with_reducible assumption | (with_reducible refine balloc ?_) | (with_reducible refine bdrew ?_) | (with_reducible refine bdrewN ?_) | (with_reducible refine bset ?_ (by first | omega | (simp; done) | (simp; omega))) | (with_reducible refine bnext ?_ (by assumption)))
  clear b5 b6 d5
  go_wp2_with fail
  refine (Pack_any none 0 0 [] 100 20 _ rfl (by decide) (Sl.nil _ _)).mono ?_
  rw [f4.out]
  rintro e W7 ⟨⟨v7, rfl, d7⟩, b7⟩
  obtain ⟨a7, c7, rfl, _, _⟩ := d7.val
  have B7 : Below w.heap.size w W7 := by repeat (first | with_reducible exact Below.refl _ _ | with_reducible assumption | (with_reducible refine balloc ?_) | (with_reducible refine bdrew ?_) | (with_reducible refine bdrewN ?_) | (with_reducible refine bset ?_ (by first | omega | (simp; done) | (simp; omega))) | (with_reducible refine bnext ?_ (by assumption)))
  clear b7 d7
  go_wp2_with fail
  go_ret
  exact ⟨rfl, B7⟩
end Go.Proofs.Ytnbfmmnbjjeecab
