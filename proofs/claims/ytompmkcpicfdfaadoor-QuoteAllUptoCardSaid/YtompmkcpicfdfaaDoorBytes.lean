/- Rows of bytes that '[]byte(s)' makes, and 'string(b)' (no program in sight). -/
import Derived.Test.YtompmkcpicfdfaaDoorStr
import Derived.Lib.UnsafeStr
namespace Go.Proofs.YtompmkcpicfdfaaDoor
open Go.RowKit
set_option linter.unusedVariables false
/-- Block b holds the bytes l ahead of all else, and these may be written. -/
def Row8 (w : World) (b : Nat) (l : List UInt8) : Prop :=
  ∃ (C : Array Value) (t : TypeId) (lo hi : Nat), w.heap[b]? = some (.cells C t (lo, hi)) ∧ l.length ≤ lo ∧ C.toList.take l.length = Lib.byteCells l
theorem Row8.cell {w : World} {b : Nat} {l : List UInt8} (h : Row8 w b l) {k : Nat} (hk : k < l.length) : w.cell? ⟨b, k, none⟩ = some (.int .u8 (l.getD k 0).toNat) := by
  obtain ⟨C, t, lo, hi, h1, h2, h3⟩ := h
  have h4 : C.toList[k]? = some (.int .u8 (l.getD k 0).toNat) := by
    rw [← List.getElem?_take_of_lt hk, h3]
    simp [Lib.byteCells, List.getElem?_map, List.getElem?_eq_getElem hk, List.getD_eq_getElem?_getD]
  simp only [World.cell?, h1]
  simpa using h4
theorem Row8.frozen {w : World} {b : Nat} {l : List UInt8} (h : Row8 w b l) {k : Nat} (hk : k < l.length) : w.frozen? ⟨b, k, none⟩ = false := by
  obtain ⟨C, t, lo, hi, h1, h2, h3⟩ := h
  simp only [World.frozen?, h1]
  simp; omega
theorem Row8.lt {w : World} {b : Nat} {l : List UInt8} (h : Row8 w b l) : b < w.heap.size := by
  obtain ⟨C, t, lo, hi, h1, _⟩ := h
  exact (Array.getElem?_eq_some_iff.1 h1).1
theorem Row8.below {w w' : World} {b : Nat} {l : List UInt8} (h : Row8 w b l) (hb : Below w.heap.size w w') : Row8 w' b l := by
  obtain ⟨C, t, lo, hi, h1, h2⟩ := h
  exact ⟨C, t, lo, hi, by rw [hb.block b (Array.getElem?_eq_some_iff.1 h1).1]; exact h1, h2⟩
theorem Row8.set {w : World} {b : Nat} {l : List UInt8} (h : Row8 w b l) {k : Nat} (hk : k < l.length) (c : UInt8) (n : Int) (hn : n = c.toNat) : Row8 (w.setCell ⟨b, k, none⟩ (.int .u8 n)) b (l.set k c) := by
  obtain ⟨C, t, lo, hi, h1, h2, h3⟩ := h
  subst hn
  refine ⟨C.setIfInBounds k (.int .u8 c.toNat), t, lo, hi, ?_, by simpa using h2, ?_⟩
  · have hlt := (Array.getElem?_eq_some_iff.1 h1).1
    have hv := (Array.getElem?_eq_some_iff.1 h1).2
    unfold World.setCell
    rw [Array.getElem?_eq_getElem (by simpa using hlt), Array.getElem_modify]
    simp [hv]
  · rw [Array.toList_setIfInBounds, List.length_set, List.take_set, h3]
    simp [Lib.byteCells, List.map_set]
section
variable {P : Program} {w : World}
theorem run_bytes_row (src dst e : TypeId) (s : ByteArray) (hs : P.underlying src = some .string) (hd : P.underlying dst = some (.slice e)) (he : P.underlying e = some (.int .u8)) (hm : s.size ≤ maxLen) :
    ∃ cap w', (convert src dst (.string s)).run P w = .ok (.slice (some ⟨w.heap.size, 0, none⟩) s.size cap) w' ∧ (s.size ≤ cap ∧ cap ≤ maxLen) ∧ Row8 w' w.heap.size s.data.toList ∧ Below w.heap.size w w' := by
  refine ⟨_, _, run_bytes_of_string (P := P) w src dst e s hs hd he, ?_, ?_, ?_⟩
  · exact ⟨grownCap_ge _ _ _ _, grownCap_le_maxLen _ _ _ _ hm⟩
  · refine ⟨_, _, _, _, heap_alloc_new _ _, ?_, ?_⟩
    · have h : (bytesRow s (grownCap w s.size 0 e)).size = s.data.size + (grownCap w s.size 0 e - s.size) := by simp [bytesRow]
      have h2 : s.data.toList.length = s.data.size := Array.length_toList
      omega
    · rw [bytesRow, Array.toList_append, List.take_append_of_le_length (by simp), List.take_of_length_le (by simp)]
      simp [Lib.byteCells]
  · exact ((Below.refl _ _).drew).alloc (Nat.le_refl _) _
theorem wpList_bytes_of {ops : Array Oper} {rest : List Oper} {o : Oper} {a : Act} {Q : Exit → Act → World → Prop} (hgd : o.guard = none) (src dst e : TypeId) (x : Operand) (ho : o.op = .convert src dst x) (s : ByteArray) (hx : a.eval x = .string s)
    (hs : P.underlying src = some .string) (hd : P.underlying dst = some (.slice e)) (he : P.underlying e = some (.int .u8)) (hm : s.size ≤ maxLen)
    (H : ∀ cap w', s.size ≤ cap → cap ≤ maxLen → Row8 w' w.heap.size s.data.toList → Below w.heap.size w w' → wpList P ops Q rest (a.put o.dst (.slice (some ⟨w.heap.size, 0, none⟩) s.size cap)) w') : wpList P ops Q (o :: rest) a w := by
  refine wpList_plain hgd fun K hK => ?_
  obtain ⟨cap, w', hr, h1, h2, h3⟩ := run_bytes_row (P := P) (w := w) src dst e s hs hd he hm
  unfold Oper.wp
  simp [execOp, ho, hx, hr, Result.andThen]
  exact hK _ _ (H cap w' h1.1 h1.2 h2 h3)
theorem wpList_string_of {ops : Array Oper} {rest : List Oper} {o : Oper} {a : Act} {Q : Exit → Act → World → Prop} (hgd : o.guard = none) (src dst e : TypeId) (x : Operand) (ho : o.op = .convert src dst x) (ad : Option Addr) (n cap : Nat) (l : List UInt8) (hx : a.eval x = .slice ad n cap)
    (hs : P.underlying src = some (.slice e)) (he : P.underlying e = some (.int .u8)) (hd : P.underlying dst = some .string) (hS : Sl w 1 (.slice ad n cap) n (Lib.byteCells l))
    (H : ∀ t : ByteArray, t.data.toList = l → wpList P ops Q rest (a.put o.dst (.string t)) w) : wpList P ops Q (o :: rest) a w := by
  refine wpList_plain hgd fun K hK => ?_
  have hl : l.length = n := by have := hS.length; rw [Lib.byteCells_length] at this; omega
  have hr : ∃ t : ByteArray, (convert src dst (.slice ad n cap)).run P w = .ok (.string t) w ∧ t.data.toList = l := by
    by_cases h0 : n = 0
    · subst h0
      obtain rfl : l = [] := List.eq_nil_of_length_eq_zero hl
      refine ⟨ByteArray.empty, ?_, rfl⟩
      rw [run_convert_bytes_string w src dst e _ 0 cap hs he hd]
      cases ad with
      | none => simp [Conv.bytesToString]
      | some x => exact run_bytesToString w x 0 cap [] (by simp [loadCells, loadCellsFrom])
    · obtain ⟨b, off, cap', hv, _, _, _, hc⟩ := hS.at (by omega)
      injection hv with hv _ _
      subst hv hl
      refine ⟨⟨l.toArray⟩, run_convert_bytes_back w src dst e ⟨b, off, none⟩ cap l hs he hd fun j hj => ?_, by simp⟩
      rw [Addr.add_lit]
      exact hc j _ (by simp [Lib.byteCells, List.getElem?_map, List.getElem?_eq_getElem hj])
  obtain ⟨t, hr, ht⟩ := hr
  unfold Oper.wp
  simp [execOp, ho, hx, hr, Result.andThen]
  exact hK _ _ (H t ht)
end
theorem Row8.sl {w : World} {b n cap : Nat} {l : List UInt8} (h : Row8 w b l) (hn : l.length = n) (hc : n ≤ cap) (hm : cap ≤ maxLen) : Sl w 1 (.slice (some ⟨b, 0, none⟩) n cap) n (Lib.byteCells l) := by
  subst hn
  refine ⟨by simp [Lib.byteCells], _, cap, rfl, hc, hm, fun hh => (by cases hh), ?_⟩
  by_cases h0 : l.length = 0
  · exact .inl h0
  · refine .inr ⟨b, 0, rfl, h.lt, fun j u hu => ?_⟩
    have hj : j < l.length := by
      have := (List.getElem?_eq_some_iff.1 hu).1
      simpa [Lib.byteCells] using this
    rw [Nat.zero_add, h.cell hj]
    simp [Lib.byteCells, List.getElem?_map, List.getElem?_eq_getElem hj] at hu
    rw [← hu]; simp [List.getD_eq_getElem?_getD, hj]
end Go.Proofs.YtompmkcpicfdfaaDoor
