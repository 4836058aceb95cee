/- A slice of strings that came in, opened. -/
import Derived.Test.YtompmkcpicfdfaaDoorFields
import Derived.Deep.Strs
namespace Go.Proofs.YtompmkcpicfdfaaDoor
open Go.RowKit Go.ChangeShapes Go.WideShapes
set_option linter.unusedVariables false
theorem open_strs_ss {H : Type} {enc : TypeId × Value → H} {P : Program} {w : World} {t e : TypeId} {fuel : Nat} {a : Option Addr} {len cap : Nat} {x : DataW H × List MemPlace} (ht : P.underlying t = some (.slice e)) (he : P.underlying e = some .string) (hc : P.cellsOf e = 1)
    (h : DataW.trod enc P w 0 (fun _ => true) true fuel t [.slice a len cap] = some x) : ∃ ts : List ByteArray, Ss w (.slice a len cap) ts ∧ ∀ t ∈ ts, t.size ≤ maxLen := by
  rcases Deep.open_strs ht he hc h with ⟨hcs, _⟩ | ⟨x, l, c, m, Sx, hcs, _, hl, hm, hmm, _, hcell⟩
  · simp at hcs
    obtain ⟨rfl, rfl, rfl⟩ := hcs
    exact ⟨[], Sl.nil w 1, by simp⟩
  · simp at hcs
    obtain ⟨rfl, rfl, rfl⟩ := hcs
    simp at hmm
    subst hmm
    refine ⟨(List.range len).map Sx, ?_, ?_⟩
    · refine ⟨by simp, some x, _, by simp, by simpa using hl, hm, fun hh => (by cases hh), ?_⟩
      by_cases h0 : len = 0
      · left; simpa using h0
      · right
        have h1 := (hcell 0 (by omega)).1
        obtain ⟨b, off, spot⟩ := x
        have hspot : spot = none := by simpa [Addr.add] using World.cell?_spot h1
        subst hspot
        refine ⟨b, off, rfl, World.block_lt_of_cell? w _ h1, fun j u hu => ?_⟩
        have hj : j < len := by
          have := (List.getElem?_eq_some_iff.1 hu).1
          simpa using this
        have h2 := (hcell j (by omega)).1
        rw [Addr.add_lit] at h2
        rw [h2]
        simpa [List.getElem?_map, hj] using hu
    · intro t ht
      obtain ⟨i, hi, rfl⟩ := List.mem_map.1 ht
      exact (hcell i (by have := List.mem_range.1 hi; omega)).2
end Go.Proofs.YtompmkcpicfdfaaDoor
