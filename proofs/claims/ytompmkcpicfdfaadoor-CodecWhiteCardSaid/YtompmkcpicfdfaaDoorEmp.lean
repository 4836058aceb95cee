/- Empty strings. -/
import Derived.Test.YtompmkcpicfdfaaDoorTextC
namespace Go.Proofs.YtompmkcpicfdfaaDoor
theorem emp_yes {t : ByteArray} (h : t.size = 0) : t.toList.isEmpty = true := by
  rw [Lib.toList_data, List.isEmpty_iff]; exact List.eq_nil_of_length_eq_zero (by rw [str_size]; exact h)
end Go.Proofs.YtompmkcpicfdfaaDoor
