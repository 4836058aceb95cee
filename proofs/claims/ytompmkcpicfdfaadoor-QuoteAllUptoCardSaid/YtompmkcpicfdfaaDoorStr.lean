/- Strings of bytes: what a call returns, reading and cutting (no program in sight). -/
import Derived.Test.YtompmkcpicfdfaaDoorSl
import Derived.Lib.Builder
import Derived.Laws.IdiomStrings
import Derived.Laws.BytesArg
import Derived.Maps.AppendAt
import Derived.Deep.DeepCutAuto
namespace Go.Proofs.YtompmkcpicfdfaaDoor
open Go.RowKit
set_option linter.unusedVariables false
/-- The call returns the string of the bytes l; it has laid new blocks, at most. -/
def SPost (l : List UInt8) (w : World) (e : Ending) (w' : World) : Prop := (∃ t : ByteArray, e = .returned (.string t) ∧ t.data.toList = l) ∧ Below w.heap.size w w'
/-- The like, and the world is as it was. -/
def SPostQ (l : List UInt8) (w : World) (e : Ending) (w' : World) : Prop := (∃ t : ByteArray, e = .returned (.string t) ∧ t.data.toList = l) ∧ w = w'
/-- a string and a bool -/
def SBPost (l : List UInt8) (b : Bool) (w : World) (e : Ending) (w' : World) : Prop := (∃ t : ByteArray, e = .returned (.tuple #[.string t, .bool b]) ∧ t.data.toList = l) ∧ Below w.heap.size w w'
theorem str_size (s : ByteArray) : s.data.toList.length = s.size := Array.length_toList
theorem str_at (s : ByteArray) (k : Nat) (h : k < s.size) (h' : k < s.data.toList.length) : s.data.toList[k] = s[k] := Array.getElem_toList h
theorem str_get (s : ByteArray) (k : Nat) (h : k < s.size) : s.data.toList[k]? = some s[k] := by
  have h' : k < s.data.toList.length := by rw [str_size]; exact h
  rw [List.getElem?_eq_getElem h', str_at s k h]
theorem str_getD (s : ByteArray) (k : Nat) (h : k < s.size) : s.data.toList.getD k 0 = s[k] := by
  rw [List.getD_eq_getElem?_getD, str_get s k h]; rfl
theorem str_drop (s : ByteArray) (k : Nat) (h : k < s.size) : s.data.toList.drop k = s[k] :: s.data.toList.drop (k + 1) := by
  have h' : k < s.data.toList.length := by rw [str_size]; exact h
  rw [List.drop_eq_getElem_cons h', str_at s k h]
theorem str_take (s : ByteArray) (k : Nat) (h : k < s.size) : s.data.toList.take (k + 1) = s.data.toList.take k ++ [s[k]] := by
  have h' : k < s.data.toList.length := by rw [str_size]; exact h
  rw [List.take_succ_eq_append_getElem h', str_at s k h]
theorem str_extract (s : ByteArray) (a b : Nat) : (s.extract a b).data.toList = (s.data.toList.take b).drop a := by
  rw [ByteArray.data_extract, Array.toList_extract, List.extract_eq_take_drop, List.drop_take]
theorem str_inj {s t : ByteArray} (h : s.data.toList = t.data.toList) : s = t := by
  cases s; cases t; simp at h; simp [h]
theorem u8_int {a b : UInt8} : ((a.toNat : Int) = (b.toNat : Int)) ↔ a = b := by
  constructor
  · intro h; exact UInt8.toNat_inj.1 (by omega)
  · rintro rfl; rfl
end Go.Proofs.YtompmkcpicfdfaaDoor
