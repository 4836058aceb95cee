/- strings.Split at one byte. -/
import Derived.Test.YtompmkcpicfdfaaDoorTextC
import Derived.Test.YtompmkcpicfdfaaDoorShelf
import Derived.Shelf.Strings.Split
namespace Go.Proofs.YtompmkcpicfdfaaDoor
open Go.RowKit
set_option linter.unusedVariables false
/-- the pieces between the bytes c -/
def wsplit (c : UInt8) : List UInt8 → List (List UInt8)
  | [] => [[]]
  | d :: r => if d = c then [] :: wsplit c r else match wsplit c r with
    | [] => [[d]]
    | x :: xs => (d :: x) :: xs
theorem wsplit_word {c : UInt8} : ∀ {x : List UInt8}, (∀ d ∈ x, d ≠ c) → wsplit c x = [x]
  | [], _ => rfl
  | d :: x, h => by rw [wsplit, if_neg (h d (by simp)), wsplit_word fun e he => h e (by simp [he])]
theorem wsplit_first {c : UInt8} : ∀ {x : List UInt8} (r : List UInt8), (∀ d ∈ x, d ≠ c) → wsplit c (x ++ c :: r) = x :: wsplit c r
  | [], r, _ => by rw [List.nil_append, wsplit, if_pos rfl]
  | d :: x, r, h => by rw [List.cons_append, wsplit, if_neg (h d (by simp)), wsplit_first r fun e he => h e (by simp [he])]
theorem splitB_one (c : UInt8) : ∀ (k : Nat) (s : ByteArray), Lib.countB s ⟨#[c]⟩ = k → (Lib.splitB ⟨#[c]⟩ 0 k s).map (·.data.toList) = wsplit c s.data.toList := by
  intro k
  induction k with
  | zero =>
    intro s h
    have h0 : s.data.toList.count c = 0 := by rw [← Lib.count_one]; exact h
    rw [Lib.splitB_zero, wsplit_word]
    · rfl
    · intro d hd e
      subst e
      exact absurd (List.count_pos_iff.2 hd) (by omega)
  | succ k ih =>
    intro s h
    have h0 : s.data.toList.count c = k + 1 := by rw [← Lib.count_one]; exact h
    have hi : Lib.indexB s ⟨#[c]⟩ = Lib.indexByte s.data.toList c := Lib.index_one _ _
    rcases indexByte_cut c s.data.toList with ⟨h1, h2⟩ | ⟨i, h1, h2, h3, h4⟩
    · exfalso
      have : s.data.toList.count c = 0 := List.count_eq_zero.2 fun hm => h2 c hm rfl
      omega
    · rw [str_size] at h2
      have hh := Lib.splitB_hit ⟨#[c]⟩ 0 k s i (hi.trans h1)
      have hct := Lib.countB_hit s ⟨#[c]⟩ i (Nat.le_refl 1) (hi.trans h1)
      have e1 : (ByteArray.mk #[c]).size = 1 := rfl
      rw [e1] at hh hct
      rw [hh, List.map_cons, ih _ (by omega)]
      have e2 : s.data.toList = s.data.toList.take i ++ c :: s.data.toList.drop (i + 1) := by rw [← h4, List.take_append_drop]
      have e3 : (s.extract (i + 1) s.size).data.toList = s.data.toList.drop (i + 1) := by
        rw [str_extract, List.take_of_length_le (by rw [str_size]; exact Nat.le_refl _)]
      have e4 : (s.extract 0 (i + 0)).data.toList = s.data.toList.take i := by rw [str_extract]; simp
      rw [e3, e4]
      conv => rhs; rw [e2]
      rw [wsplit_first _ h3]
theorem genSplit_one (s : ByteArray) (c : UInt8) (w : World) (hs : s.size < 4294967281) :
    Calls Tryd.prog 84 #[.string s, .string ⟨#[c]⟩, .int .i64 0, .int .i64 (-1)] w fun e w' =>
      e = .returned (.slice (some ⟨w.heap.size, 0, none⟩) (Lib.splitB ⟨#[c]⟩ 0 (Lib.countB s ⟨#[c]⟩) s).length (Lib.countB s ⟨#[c]⟩ + 1)) ∧ w' = w.alloc (.cells (Lib.cellsOf (Lib.splitB ⟨#[c]⟩ 0 (Lib.countB s ⟨#[c]⟩) s) (Lib.countB s ⟨#[c]⟩ + 1)) 9) := by
  have hle := Lib.countB_le ⟨#[c]⟩ (Nat.le_refl 1) s.size s (Nat.le_refl _)
  have hI : ∀ (x : ByteArray) (w : World), Calls Tryd.prog 110 #[.string x, .string ⟨#[c]⟩] w fun e w' => e = .returned (.int .i64 (Lib.indexB x ⟨#[c]⟩)) ∧ w' = w := fun x w =>
    (Tryd.strings_Index_one x c w).mono fun e w' ⟨h1, h2⟩ => ⟨by rw [h1]; show _ = Ending.returned (Value.int .i64 (Lib.index x.data.toList [c])); rw [Lib.index_one], h2⟩
  have hC : Calls Tryd.prog 109 #[.string s, .string ⟨#[c]⟩] w fun e w' => e = .returned (.int .i64 (Lib.countB s ⟨#[c]⟩)) ∧ w' = w :=
    (Tryd.strings_Count_one s c w).mono fun e w' ⟨h1, h2⟩ => ⟨by rw [h1]; show _ = Ending.returned (Value.int .i64 ((Lib.count s.data.toList [c] : Nat) : Int)); rw [Lib.count_one]; rfl, h2⟩
  exact Any.strings_genSplit_core Tryd.lays221 (by kernel_rfl) s ⟨#[c]⟩ 0 (-1) (Lib.countB s ⟨#[c]⟩ + 1) w hs (Nat.le_refl 1) (Nat.zero_le _) (fun x d _ => hI x _) hC (by decide) (by decide) (by rw [if_pos (by decide)]; omega)
theorem Split_one (s : ByteArray) (c : UInt8) (w : World) (hs : s.size < 4294967281) : Calls Tryd.prog 53 #[.string s, .string ⟨#[c]⟩] w (LPost (wsplit c s.data.toList) w) := by
  have hg := genSplit_one s c w hs
  have hlen := Lib.splitB_all ⟨#[c]⟩ (Nat.le_refl 1) 0 _ s rfl
  have hle := Lib.countB_le ⟨#[c]⟩ (Nat.le_refl 1) s.size s (Nat.le_refl _)
  have hb := splitB_one c _ s rfl
  obtain ⟨ts, hts⟩ : ∃ ts, Lib.splitB ⟨#[c]⟩ 0 (Lib.countB s ⟨#[c]⟩) s = ts := ⟨_, rfl⟩
  rw [hts] at hg hlen hb
  obtain ⟨n, hn⟩ : ∃ n, Lib.countB s ⟨#[c]⟩ = n := ⟨_, rfl⟩
  rw [hn] at hg hlen hle
  clear hts hn
  go_enter Tryd.func53, Tryd.ntmps53
  go_wp2_with (go_at_call 84; refine hg.mono ?_; rintro e w1 ⟨rfl, hw⟩)
  go_ret
  subst hw
  have hh := World.alloc_heap_new w (.cells (Lib.cellsOf ts (n + 1)) 9)
  refine ⟨⟨_, ts, rfl, ?_, hb⟩, (Below.refl _ _).alloc (Nat.le_refl _) _⟩
  refine ⟨by simp, some ⟨w.heap.size, 0, none⟩, n + 1, by rw [hlen]; rfl, by omega, by unfold maxLen; omega, fun hh => (by cases hh), .inr ⟨w.heap.size, 0, rfl, by simp, fun j u hu => ?_⟩⟩
  rw [Nat.zero_add, Lib.cell_of_heap hh]
  unfold Lib.cellsOf
  rw [List.getElem?_toArray, List.getElem?_append_left (by have := (List.getElem?_eq_some_iff.1 hu).1; exact this)]
  exact hu
end Go.Proofs.YtompmkcpicfdfaaDoor
