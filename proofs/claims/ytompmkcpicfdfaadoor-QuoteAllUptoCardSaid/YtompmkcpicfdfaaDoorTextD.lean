/- package text: Number. -/
import Derived.Test.YtompmkcpicfdfaaDoorTextC
import Derived.Lib.Atoi
import Derived.Lib.ConvBytes
namespace Go.Proofs.YtompmkcpicfdfaaDoor
open Go.RowKit
set_option linter.unusedVariables false
def digitsL : List UInt8 := [48, 49, 50, 51, 52, 53, 54, 55, 56, 57]
def dg (c : UInt8) : Bool := 48 ≤ c.toNat && c.toNat ≤ 57
theorem digits_contains (c : UInt8) : digitsL.contains c = dg c := by
  unfold dg
  rw [Bool.eq_iff_iff]
  simp [digitsL, ← UInt8.toNat_inj]
  omega
/-- the number that a string denotes -/
def wnum (l : List UInt8) : Option Nat := if l.length ≤ 15 then Lib.decNat l else none
theorem decFrom_dig : ∀ (l : List UInt8) (a : Nat), (∀ c ∈ l, dg c = true) → ∃ m, Lib.decFrom a l = some m
  | [], a, _ => ⟨a, rfl⟩
  | c :: l, a, h => by
    have hc := h c (by simp)
    obtain ⟨m, hm⟩ := decFrom_dig l (a * 10 + (c.toNat - 48)) (fun d hd => h d (by simp [hd]))
    refine ⟨m, ?_⟩
    have hv : Lib.digitVal c = some (c.toNat - 48) := by
      unfold dg at hc; simp at hc; rw [Lib.digitVal, if_pos hc]
    rw [Lib.decFrom, hv]
    exact hm
theorem decFrom_all : ∀ (l : List UInt8) (a m : Nat), Lib.decFrom a l = some m → ∀ c ∈ l, dg c = true
  | [], a, m, _ => by simp
  | c :: l, a, m, h => by
    rw [Lib.decFrom] at h
    unfold Lib.digitVal at h
    by_cases hc : 48 ≤ c.toNat ∧ c.toNat ≤ 57
    · rw [if_pos hc] at h
      intro d hd
      rcases List.mem_cons.1 hd with rfl | hd
      · unfold dg; simpa using hc
      · exact decFrom_all l _ m h d hd
    · rw [if_neg hc] at h; cases h
theorem atoi_dig {l : List UInt8} {m : Nat} (h : Lib.decNat l = some m) : Lib.atoi l = some (m : Int) := by
  cases l with
  | nil => cases h
  | cons c r =>
    have hd : dg c = true := by
      rw [Lib.decNat] at h
      exact decFrom_all (c :: r) 0 m (by simpa using h) c (by simp)
    unfold dg at hd
    simp at hd
    have h1 : (c == 45) = false := by rw [beq_nat]; simp; omega
    have h2 : (c == 43) = false := by rw [beq_nat]; simp; omega
    rw [Lib.atoi, h1, h2, h]; rfl
theorem trimS_nil {l cs : List UInt8} : Lib.trimS l cs = [] ↔ ∀ c ∈ l, cs.contains c = true := by
  unfold Lib.trimS Lib.trimLeftS Lib.trimRightS
  constructor
  · intro h c hc
    cases e : l.reverse.dropWhile (cs.contains ·) with
    | nil =>
      have h1 := List.takeWhile_append_dropWhile (p := (cs.contains ·)) (l := l.reverse)
      rw [e, List.append_nil] at h1
      exact mem_tw (by rw [h1]; simpa using hc)
    | cons a q =>
      exfalso
      have h2 := dw_head e
      rw [e] at h
      have h3 := List.takeWhile_append_dropWhile (p := (cs.contains ·)) (l := (a :: q).reverse)
      rw [h, List.append_nil] at h3
      have h4 : a ∈ (a :: q).reverse.takeWhile (cs.contains ·) := by rw [h3]; simp
      have := mem_tw h4
      rw [h2] at this; cases this
  · intro h
    have e : l.reverse.dropWhile (cs.contains ·) = [] := by
      cases e : l.reverse.dropWhile (cs.contains ·) with
      | nil => rfl
      | cons a q =>
        have h2 := dw_head e
        have h3 := List.takeWhile_append_dropWhile (p := (cs.contains ·)) (l := l.reverse)
        rw [e] at h3
        have h4 : a ∈ l.reverse := by rw [← h3]; simp
        have h5 : cs.contains a = true := h a (by simpa using h4)
        rw [h5] at h2; cases h2
    rw [e]; rfl
theorem Trim_digits (s : ByteArray) (w : World) (hs : s.size ≤ 9223372036854775807) : Calls Tryd.prog 59 #[.string s, .string ⟨#[48, 49, 50, 51, 52, 53, 54, 55, 56, 57]⟩] w (SPost (Lib.trimS s.data.toList digitsL) w) := by
  refine (Any.strings_Trim_laid Tryd.lays160 (by kernel_rfl) s ⟨#[48, 49, 50, 51, 52, 53, 54, 55, 56, 57]⟩ w hs (by decide) ?_).mono fun e w' ⟨h1, h2⟩ => ⟨⟨_, h1, ?_⟩, h2⟩
  · intro j b hb
    have hm : b ∈ digitsL := List.mem_of_getElem? hb
    have := List.contains_iff_mem.2 hm
    rw [digits_contains] at this
    unfold dg at this
    simp at this; omega
  · simp [digitsL]
theorem isEmpty_iff {t : ByteArray} : t.toList.isEmpty = t.data.toList.isEmpty := by rw [Lib.toList_data]
theorem bytesWorld_below (w : World) (e : TypeId) (s : ByteArray) : Below w.heap.size w (Lib.bytesWorld w e s) := by
  refine ⟨?_, ?_, ?_, ?_, fun k hk => Lib.bytesWorld_at_old w e s k hk⟩
  · unfold Lib.bytesWorld World.freeze; split <;> rfl
  · unfold Lib.bytesWorld World.freeze; split <;> rfl
  · unfold Lib.bytesWorld World.freeze; split <;> rfl
  · rw [Lib.bytesWorld_size]; omega
theorem Number_yes (s : ByteArray) (w : World) (m : Nat) (h : wnum s.data.toList = some m) : Calls Tryd.prog 34 #[.string s] w fun e w' => e = .returned (.tuple #[.int .i64 m, .bool true]) ∧ Below w.heap.size w w' := by
  unfold wnum at h
  rw [str_size] at h
  by_cases h15 : s.size ≤ 15
  · rw [if_pos h15] at h
    have hat := atoi_dig h
    have htr : Lib.trimS s.data.toList digitsL = [] := by
      refine trimS_nil.2 fun c hc => ?_
      rw [digits_contains]
      unfold Lib.decNat at h
      split at h
      · cases h
      · exact decFrom_all _ _ _ h c hc
    replace h := Lib.hid h
    replace hat := Lib.hid hat
    replace htr := Lib.hid htr
    go_enter Tryd.func34, Tryd.ntmps34
    go_wp2_with fail
    refine (Trim_digits s _ (by omega)).mono ?_
    rw [htr.out]
    rintro e W1 ⟨⟨t, rfl, ht⟩, b1⟩
    obtain rfl : t = ByteArray.empty := str_inj (by rw [ht]; rfl)
    clear ht
    go_wp2_with fail
    refine (Tryd.strconv_Atoi s m (by omega) hat.out _).mono ?_
    rintro e W2 ⟨rfl, u, hu⟩
    have b2 : Below W1.heap.size W1 W2 := by rw [hu]; exact bytesWorld_below _ _ _
    clear hu
    go_wp2_with fail
    refine wp_named fun W3 hW3 => ?_
    go_quiet (fail)
    go_wp2_with fail
    go_ret2
    refine ⟨rfl, bdrewN ?_⟩
    rw [← hW3]
    exact b1.trans (b2.mono b1.size)
  · rw [if_neg h15] at h; cases h
theorem decNat_none {l : List UInt8} (h : Lib.decNat l = none) (h0 : l ≠ []) : Lib.trimS l digitsL ≠ [] := by
  intro e
  have h1 := trimS_nil.1 e
  obtain ⟨m, hm⟩ := decFrom_dig l 0 (fun c hc => by rw [← digits_contains]; exact h1 c hc)
  have he : l.isEmpty = false := by cases l with
    | nil => exact absurd rfl h0
    | cons _ _ => rfl
  rw [Lib.decNat, he, hm] at h
  cases h
theorem Number_no (s : ByteArray) (w : World) (hs : s.size ≤ 9223372036854775807) (h : wnum s.data.toList = none) (hES : s.size = 0 → ∃ te pe, w.cell? ⟨0, 0, none⟩ = some (.iface te pe)) : Calls Tryd.prog 34 #[.string s] w fun e w' => e = .returned (.tuple #[.int .i64 0, .bool false]) ∧ Below w.heap.size w w' := by
  by_cases h15 : s.size ≤ 15
  · unfold wnum at h
    rw [str_size, if_pos h15] at h
    by_cases h0 : s.size = 0
    · obtain ⟨te, pe, hc⟩ := hES h0
      have hnil : s.data.toList = [] := List.eq_nil_of_length_eq_zero (by rw [str_size]; exact h0)
      obtain rfl : s = ByteArray.empty := str_inj (by rw [hnil]; rfl)
      clear hnil
      have hlt := World.block_lt_of_cell? w _ hc
      clear hES h
      go_enter Tryd.func34, Tryd.ntmps34
      go_wp2_with fail
      refine (Trim_digits _ _ (by decide)).mono ?_
      rintro e W1 ⟨⟨t, rfl, ht⟩, b1⟩
      obtain rfl : t = ByteArray.empty := str_inj (by rw [ht]; rfl)
      clear ht
      have hc1 := bget b1 hlt hc
      go_wp2_with fail
      refine (Tryd.strconv_Atoi_err ByteArray.empty (by decide) rfl _ _ hc1 (.inr ⟨_, _, rfl⟩)).mono ?_
      rintro e W2 ⟨N, rfl, _, _, b2⟩
      go_wp2_with fail
      refine wp_named fun W3 hW3 => ?_
      go_quiet (fail)
      go_wp2_with fail
      go_ret2
      refine ⟨rfl, bdrewN ?_⟩
      rw [← hW3]
      exact b1.trans (b2.mono b1.size)
    · have hne := decNat_none h (by intro e; have := str_size s; rw [e] at this; simp at this; omega)
      replace hne := Lib.hid hne
      clear hES h
      go_enter Tryd.func34, Tryd.ntmps34
      go_wp2_with fail
      refine (Trim_digits s _ hs).mono ?_
      rintro e W1 ⟨⟨t, rfl, ht⟩, b1⟩
      have hte : t.toList.isEmpty = false := by
        rw [Lib.toList_data, ht]
        cases e : Lib.trimS s.data.toList digitsL with
        | nil => exact absurd e hne.out
        | cons _ _ => rfl
      replace ht := Lib.hid ht
      go_wp2_with fail
      go_ret2
      exact ⟨rfl, b1⟩
  · clear hES h
    go_enter Tryd.func34, Tryd.ntmps34
    go_wp2_with fail
    go_ret2
    exact ⟨rfl, Below.refl _ _⟩
end Go.Proofs.YtompmkcpicfdfaaDoor
