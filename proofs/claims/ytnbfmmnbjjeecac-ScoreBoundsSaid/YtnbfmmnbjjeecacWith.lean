/- missivelaw40.has and missivelaw40.with: a set as a slice. -/
import Derived.Test.YtnbfmmnbjjeecacSmall
import Derived.Test.YtnbfmmnbjjeecacSl
namespace Go.Proofs.Ytnbfmmnbjjeecac
open Go.RowKit
set_option linter.unusedVariables false
theorem info3 : (Try.prog.info? 3).map (fun i => (i.zero, i.size, i.bytes)) = some (some (.int .i64 0), 1, 8) := by kernel_rfl
theorem has_any (v : Value) (n : Nat) (l : List Int) (x : Int) (w : World) (hl : l.length = n) (hS : Sl w 1 v n (cells64 l)) :
    Calls Try.prog 13 #[v, .int .i64 x] w fun e w' => e = .returned (.bool (decide (x ∈ l))) ∧ w = w' := by
  have hm := hS.le_max
  unfold maxLen at hm
  by_cases h0 : n = 0
  · subst h0
    obtain rfl : l = [] := List.eq_nil_of_length_eq_zero hl
    obtain ⟨a, cap, rfl, _, _⟩ := hS.val
    have hd : decide (x ∈ ([] : List Int)) = false := by simp
    rw [hd]
    go_enter Try.func13, Try.ntmps13
    go_wp2_with fail
    go_loop [5] (fun i => i = .int .i64 (0 : Nat)) (fun _ => 0)
    case atStart => rfl
    case round =>
      subst hrel
      go_wp2_with fail
      go_ret
      exact ⟨rfl, rfl⟩
  · obtain ⟨b, off, cap, rfl, _, _, hb, hc⟩ := hS.at (by omega)
    replace hc := Lib.hid hc
    obtain ⟨q, hq⟩ : ∃ q, decide (x ∈ l) = q := ⟨_, rfl⟩
    rw [hq]
    replace hq := Lib.hid hq
    go_enter Try.func13, Try.ntmps13
    go_wp2_with fail
    go_loop [5] (fun i => ∃ k : Nat, k ≤ n ∧ i = .int .i64 k ∧ Hid (∀ j, j < k → l.getD j 0 ≠ x)) (fun i => n - (intOf i).toNat)
    case atStart => exact ⟨0, Nat.zero_le _, rfl, fun j hj => by omega⟩
    case round =>
      obtain ⟨k, hk, rfl, hno⟩ := hrel
      by_cases hkn : k < n
      · have hck := hc.out k _ (cells64_get l k (by omega))
        obtain ⟨y, hy⟩ : ∃ y, l.getD k 0 = y := ⟨_, rfl⟩
        rw [hy] at hck
        have hy2 : Hid (l.getD k 0 = y) := hy
        have hmem : y ∈ l := by
          rw [← hy, List.getD_eq_getElem?_getD, List.getElem?_eq_getElem (by omega)]; simp
        replace hmem := Lib.hid hmem
        clear hy
        by_cases hxy : y = x
        · have hxy' : (y == x) = true := by simp [hxy]
          have hqt : q = true := by rw [← hq.out, ← hxy]; simpa using hmem.out
          subst hqt
          clear hxy
          go_wp2_with fail
          go_ret
          exact ⟨rfl, rfl⟩
        · have hxy' : (y == x) = false := by simp [hxy]
          have hno2 : Hid (∀ j, j < k + 1 → l.getD j 0 ≠ x) := by
            intro j hj
            rcases Nat.lt_or_ge j k with h | h
            · exact hno.out j h
            · obtain rfl : j = k := by omega
              rw [hy2.out]; exact hxy
          clear hxy
          go_wp2_with fail
          go_round
          case rel => exact ⟨k + 1, by omega, by go_num, hno2⟩
          case measure => simp [intOf]; omega
      · have hqf : q = false := by
          rw [← hq.out]
          simp only [decide_eq_false_iff_not]
          intro hx
          obtain ⟨j, hj, rfl⟩ := List.mem_iff_getElem.1 hx
          have := hno.out j (by omega)
          rw [List.getD_eq_getElem?_getD, List.getElem?_eq_getElem hj] at this
          exact this rfl
        subst hqf
        go_wp2_with fail
        go_ret
        exact ⟨rfl, rfl⟩
/-- A number added to a set. -/
def addL (l : List Int) (x : Int) : List Int := if x ∈ l then l else l ++ [x]
def WithPost (base : Nat) (l : List Int) (x : Int) (v : Value) (w : World) (e : Ending) (w' : World) : Prop :=
  ∃ v', e = .returned v' ∧ w'.ownsRow base 3 1 v' (addL l x).length (cells64 (addL l x)) ∧ w.grownBy w' v.ownBlock ∧ (v'.ownBlock = v.ownBlock ∨ ∃ g, v'.ownBlock = some g ∧ w.heap.size ≤ g)
theorem with_any (base : Nat) (v : Value) (l : List Int) (x : Int) (w : World) (h : w.ownsRow base 3 1 v l.length (cells64 l)) (hb : base ≤ w.heap.size) (hl : l.length ≤ 1000) :
    Calls Try.prog 12 #[v, .int .i64 x] w (WithPost base l x v w) := by
  obtain ⟨i0, hi, hz0, hz1, hz2⟩ := info_parts info3
  have hS := Sl.of_own h
  by_cases hx : x ∈ l
  · have hd : decide (x ∈ l) = true := by simp [hx]
    have ha : addL l x = l := by rw [addL, if_pos hx]
    replace ha := Lib.hid ha
    clear hx
    go_enter Try.func12, Try.ntmps12
    go_wp2_with (go_at_call 13; refine (has_any _ _ l x _ rfl hS).mono ?_; rw [hd]; rintro e w1 ⟨rfl, rfl⟩)
    go_ret
    refine ⟨v, rfl, ?_, ⟨rfl, rfl, rfl, Nat.le_refl _, fun _ _ _ => rfl⟩, .inl rfl⟩
    rw [ha.out]; exact h
  · have hd : decide (x ∈ l) = false := by simp [hx]
    have ha : addL l x = l ++ [x] := by rw [addL, if_neg hx]
    replace ha := Lib.hid ha
    clear hx
    go_enter Try.func12, Try.ntmps12
    go_wp2_with (first
      | (go_at_call 13; refine (has_any _ _ l x _ rfl hS).mono ?_; rw [hd]; rintro e w1 ⟨rfl, rfl⟩)
      | ((with_reducible show wpList _ _ _ (⟨some 12, _, _, _, _, _⟩ :: _) _ _); refine wpList_append_src (o := ⟨some 12, _, _, _, _, _⟩) rfl (.tmp 9) (.tmp 11) 30 30 rfl base 3 i0 (.int .i64 0) 1 8 Try.underlying30 hi hz0 hz1 hz2 rfl (by decide) v l.length (cells64 l) rfl (h.alloc _) (.slice (some ⟨w.heap.size, 0, none⟩) 1 1) rfl 1 [.int .i64 x] (Src.ofSlice _ Try.underlying30 ⟨w.heap.size, 0, none⟩ 1 1 [.int .i64 x] rfl (cell_one_new _ _ _) (by simp [Value.oneCell'])) (by unfold maxLen; omega) (by omega) (by go_size) ?_; intro v' w' own' gr' hob _))
    go_ret
    refine ⟨v', rfl, ?_, ?_, ?_⟩
    · rw [ha.out, List.length_append, List.length_singleton, ← cells64_append]; exact own'
    · have g0 := World.grownBy_alloc w (Obj.cells #[Value.int .i64 x] 3) v.ownBlock
      exact ⟨gr'.os.trans g0.os, gr'.tape.trans g0.tape, gr'.output.trans g0.output, Nat.le_trans g0.size gr'.size, fun j hj hn => (gr'.block j (by simp; omega) hn).trans (g0.block j hj hn)⟩
    · rcases hob with hob | hob
      · exact .inl hob
      · exact .inr ⟨_, hob, by simp⟩
end Go.Proofs.Ytnbfmmnbjjeecac
