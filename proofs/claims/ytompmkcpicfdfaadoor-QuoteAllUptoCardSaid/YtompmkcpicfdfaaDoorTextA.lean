/- package text: mapped, Lower, Upper, Same. -/
import Derived.Test.YtompmkcpicfdfaaDoorCom
import Derived.Test.YtompmkcpicfdfaaDoorRefA
namespace Go.Proofs.YtompmkcpicfdfaaDoor
open Go.RowKit
set_option linter.unusedVariables false
/-- a byte between f and t, moved -/
def mv (f t : UInt8) (by_ : Int) (c : UInt8) : UInt8 := if f ≤ c ∧ c ≤ t then UInt8.ofNat ((c.toNat + by_) % 256).toNat else c
theorem mv_yes {f t : UInt8} {by_ : Int} {c : UInt8} (h1 : (f.toNat : Int) ≤ c.toNat) (h2 : (c.toNat : Int) ≤ t.toNat) : ((mv f t by_ c).toNat : Int) = (c.toNat + by_) % 256 := by
  unfold mv
  rw [if_pos ⟨UInt8.le_iff_toNat_le.2 (by omega), UInt8.le_iff_toNat_le.2 (by omega)⟩]
  simp
  omega
theorem mv_no {f t : UInt8} {by_ : Int} {c : UInt8} (h : ¬ ((f.toNat : Int) ≤ c.toNat ∧ (c.toNat : Int) ≤ t.toNat)) : mv f t by_ c = c := by
  unfold mv
  rw [if_neg (fun h2 => h ⟨by have := UInt8.le_iff_toNat_le.1 h2.1; omega, by have := UInt8.le_iff_toNat_le.1 h2.2; omega⟩)]
/-- the first k bytes moved -/
def mvTo (f t : UInt8) (by_ : Int) (l : List UInt8) (k : Nat) : List UInt8 := (l.take k).map (mv f t by_) ++ l.drop k
theorem mvTo_length (f t : UInt8) (by_ : Int) (l : List UInt8) (k : Nat) : (mvTo f t by_ l k).length = l.length := by simp [mvTo]; omega
theorem mvTo_at {f t : UInt8} {by_ : Int} {l : List UInt8} {k : Nat} (hk : k < l.length) : (mvTo f t by_ l k).getD k 0 = l.getD k 0 := by
  rw [mvTo, List.getD_eq_getElem?_getD, List.getElem?_append_right (by simp; omega), List.getD_eq_getElem?_getD, List.getElem?_drop]
  simp [Nat.min_eq_left (Nat.le_of_lt hk)]
theorem mvTo_set {f t : UInt8} {by_ : Int} {l : List UInt8} {k : Nat} (hk : k < l.length) : (mvTo f t by_ l k).set k (mv f t by_ (l.getD k 0)) = mvTo f t by_ l (k + 1) := by
  have h1 : (List.map (mv f t by_) (l.take k)).length = k := by simp; omega
  rw [mvTo, List.set_append_right _ _ (by omega), h1, Nat.sub_self, List.drop_eq_getElem_cons hk, List.set_cons_zero, mvTo, List.take_succ_eq_append_getElem hk, List.map_append, List.append_assoc]
  simp [List.getD_eq_getElem?_getD, hk]
theorem mvTo_stay {f t : UInt8} {by_ : Int} {l : List UInt8} {k : Nat} (hk : k < l.length) (h : mv f t by_ (l.getD k 0) = l.getD k 0) : mvTo f t by_ l (k + 1) = mvTo f t by_ l k := by
  rw [← mvTo_set hk, h, ← mvTo_at (f := f) (t := t) (by_ := by_) hk]
  apply List.ext_getElem?
  intro i
  rw [List.getElem?_set]
  split
  · rename_i e
    subst e
    simp [mvTo_length, hk, List.getD_eq_getElem?_getD]
  · rfl
theorem mapped_any (s : ByteArray) (f t : UInt8) (by_ : Int) (w : World) (hs : s.size ≤ maxLen) (hb1 : -255 ≤ by_) (hb2 : by_ ≤ 255) :
    Calls Tryd.prog 62 #[.string s, .int .u8 f.toNat, .int .u8 t.toNat, .int .i64 by_] w (SPost (s.data.toList.map (mv f t by_)) w) := by
  obtain ⟨l, hl⟩ : ∃ l, s.data.toList = l := ⟨_, rfl⟩
  have hn : l.length = s.size := by rw [← hl, str_size]
  have hs' := hs
  unfold maxLen at hs'
  rw [hl]
  replace hl := Lib.hid hl
  replace hn := Lib.hid hn
  go_enter Tryd.func62, Tryd.ntmps62
  go_wp2_with (refine wpList_bytes_of rfl 9 24 5 (.tmp 12) rfl s rfl Tryd.underlying9 Tryd.underlying24 Tryd.underlying5 hs ?_; intro cap w1 hc1 hc2 hR hB)
  rw [hl.out] at hR
  go_loopw [16] (fun i wr => ∃ k : Nat, k ≤ s.size ∧ i = .int .i64 k ∧ Row8 wr w.heap.size (mvTo f t by_ l k) ∧ Below w.heap.size w wr) (fun i _ => s.size - (intOf i).toNat)
  case atStart => exact ⟨0, Nat.zero_le _, rfl, by simpa [mvTo] using hR, hB⟩
  case round =>
    obtain ⟨k, hk, rfl, hRk, hBk⟩ := hrel
    by_cases hks : k < s.size
    · have hkl : k < l.length := by rw [hn.out]; exact hks
      have hc := hRk.cell (k := k) (by rw [mvTo_length]; exact hkl)
      have hf := hRk.frozen (k := k) (by rw [mvTo_length]; exact hkl)
      rw [mvTo_at hkl] at hc
      obtain ⟨c, hcd⟩ : ∃ c, l.getD k 0 = c := ⟨_, rfl⟩
      rw [hcd] at hc
      have hcb : c.toNat < 256 := c.toNat_lt
      have hways : ((c.toNat : Int) < f.toNat) ∨ ((f.toNat : Int) ≤ c.toNat ∧ (t.toNat : Int) < c.toNat) ∨ ((f.toNat : Int) ≤ c.toNat ∧ (c.toNat : Int) ≤ t.toNat) := by omega
      replace hcd := Lib.hid hcd
      replace hRk := Lib.hid hRk
      replace hBk := Lib.hid hBk
      rcases hways with h1 | ⟨h1, h2⟩ | ⟨h1, h2⟩
      · go_wp2_with fail
        go_roundw
        case rel => exact ⟨k + 1, by omega, by go_num, by rw [mvTo_stay hkl (by rw [hcd.out]; exact mv_no (by omega))]; exact hRk.out, hBk.out⟩
        case measure => simp [intOf]; omega
      · go_wp2_with fail
        go_roundw
        case rel => exact ⟨k + 1, by omega, by go_num, by rw [mvTo_stay hkl (by rw [hcd.out]; exact mv_no (by omega))]; exact hRk.out, hBk.out⟩
        case measure => simp [intOf]; omega
      · go_wp2_with fail
        go_roundw
        case rel =>
          refine ⟨k + 1, by omega, by go_num, ?_, hBk.out.setCell (p := ⟨w.heap.size, k, none⟩) (Nat.le_refl _) _⟩
          rw [← mvTo_set hkl, hcd.out]
          exact hRk.out.set (by rw [mvTo_length]; exact hkl) _ _ (by rw [mv_yes h1 h2])
        case measure => simp [intOf]; omega
    · obtain rfl : k = s.size := by omega
      have hE : Hid (mvTo f t by_ l s.size = l.map (mv f t by_)) := by
        show _ = _
        rw [mvTo, ← hn.out, List.take_length, List.drop_length, List.append_nil]
      rw [hE.out] at hRk
      have hS := hRk.sl (n := s.size) (cap := cap) (by simp [hn.out]) hc1 hc2
      replace hRk := Lib.hid hRk
      go_wp2_with (refine wpList_string_of rfl 24 9 5 (.tmp 38) rfl _ _ cap _ rfl Tryd.underlying24 Tryd.underlying5 Tryd.underlying9 hS ?_; intro q hq)
      go_ret
      exact ⟨⟨_, rfl, hq⟩, hBk⟩
end Go.Proofs.YtompmkcpicfdfaaDoor
