/- A map that the call has made, told as a list of entries (no program in sight but for the keys' law). -/
import Derived.Test.YtompmkcpicfdfaaDoorQuoteA
import Derived.WideKeyArr
import Derived.Maps.OwnSet
import Derived.Maps.OwnOps
namespace Go.Proofs.YtompmkcpicfdfaaDoor
open Go.RowKit Go.Maps
set_option linter.unusedVariables false
set_option linter.unusedSectionVars false
structure AMap (P : Program) (kt : TypeId) {κ β : Type} [BEq κ] (kv : κ → Value) (bv : β → Value) (w : World) (b : Nat) (L : List (κ × β)) : Prop where
  ex : ∃ es clock, w.heap[b]? = some (.map es clock) ∧ (∀ e ∈ es.toList, ∃ x p, e.key = kv x ∧ e.val = bv p ∧ L.lookup x = some p) ∧ (∀ x p, L.lookup x = some p → ∃ e ∈ es.toList, e.key = kv x)
section
variable {P : Program} {kt : TypeId} {κ β : Type} [BEq κ] [LawfulBEq κ] {kv : κ → Value} {bv : β → Value} {w w' : World} {b : Nat} {L : List (κ × β)}
theorem AMap.lt (h : AMap P kt kv bv w b L) : b < w.heap.size := by
  obtain ⟨es, clock, h1, _⟩ := h.ex
  exact (Array.getElem?_eq_some_iff.1 h1).1
theorem AMap.keep (h : AMap P kt kv bv w b L) (he : w'.heap[b]? = w.heap[b]?) : AMap P kt kv bv w' b L := by
  obtain ⟨es, clock, h1, h2⟩ := h.ex
  exact ⟨es, clock, by rw [he]; exact h1, h2⟩
theorem AMap.below (h : AMap P kt kv bv w b L) (hb : Below w.heap.size w w') : AMap P kt kv bv w' b L := h.keep (hb.block b h.lt)
theorem AMap.made (w : World) : AMap P kt kv bv (w.alloc (.map #[] 0)) w.heap.size ([] : List (κ × β)) := ⟨#[], 0, World.alloc_heap_new _ _, by simp, by simp⟩
theorem lookup_mem {x : κ} {p : β} : ∀ {L : List (κ × β)}, L.lookup x = some p → (x, p) ∈ L
  | [], h => by simp at h
  | (y, q) :: L, h => by
    rw [List.lookup_cons] at h
    split at h
    · rename_i hxy
      have := eq_of_beq hxy
      subst this
      injection h with h
      subst h
      exact .head _
    · exact .tail _ (lookup_mem h)
theorem AMap.look (h : AMap P kt kv bv w b L) (K : Keyed P kt) {t e : TypeId} (ht : P.underlying t = some (.map kt e)) {z : Value} (hz : (zeroValue e).run P w = .ok z w)
    (hinj : ∀ x y, kv x = kv y → x = y) (hgood : ∀ q ∈ L, ∃ l, keyOf P kt (kv q.1) = some l) (x : κ) (hx : ∃ l, keyOf P kt (kv x) = some l) :
    (Instr.lookup t (.map (some b)) (kv x) true).run P w = .ok (match L.lookup x with | some p => .tuple #[bv p, .bool true] | none => .tuple #[z, .bool false]) w := by
  obtain ⟨es, clock, hb, h1, h2⟩ := h.ex
  obtain ⟨l, hkey⟩ := hx
  have hes : ∀ e ∈ es.toList, ∃ l, keyOf P kt e.key = some l := fun e he => by
    obtain ⟨y, p, hk, _, hl⟩ := h1 e he
    rw [hk]; exact hgood _ (lookup_mem hl)
  rcases K.find w hkey es.toList hes with ⟨f1, f2⟩ | ⟨j, e0, f1, f2, f3⟩
  · have hn : L.lookup x = none := by
      cases hl : L.lookup x with
      | none => rfl
      | some p =>
        obtain ⟨e, he, hk⟩ := h2 x p hl
        exact absurd hk (f2 e he)
    rw [hn]
    simp [Instr.lookup, run_underlying ht, MapKept.run_getObj_map hb, K.check w _ hkey, f1, hz, Result.andThen]
  · obtain ⟨y, p, hk, hv, hl⟩ := h1 e0 (List.mem_of_getElem? f2)
    obtain rfl : y = x := hinj _ _ (by rw [← hk, f3])
    rw [hl]
    simp [Instr.lookup, run_underlying ht, MapKept.run_getObj_map hb, K.check w _ hkey, f1, Result.andThen, hv]
theorem AMap.put (h : AMap P kt kv bv w b L) (K : Keyed P kt) {t e : TypeId} (ht : P.underlying t = some (.map kt e))
    (hinj : ∀ x y, kv x = kv y → x = y) (hgood : ∀ q ∈ L, ∃ l, keyOf P kt (kv q.1) = some l) (x : κ) (p : β) (hx : ∃ l, keyOf P kt (kv x) = some l) (hn : L.lookup x = none) :
    ∃ w', (Instr.mapUpdate t (.map (some b)) (kv x) (bv p)).run P w = .ok () w' ∧ AMap P kt kv bv w' b (L ++ [(x, p)]) ∧ w.grownBy w' (some b) := by
  obtain ⟨es, clock, hb, h1, h2⟩ := h.ex
  obtain ⟨l, hkey⟩ := hx
  have hes : ∀ e ∈ es.toList, ∃ l, keyOf P kt e.key = some l := fun e he => by
    obtain ⟨y, p, hk, _, hl⟩ := h1 e he
    rw [hk]; exact hgood _ (lookup_mem hl)
  have f1 : (Instr.findKey kt (kv x) es.toList).run P w = .ok none w := by
    rcases K.find w hkey es.toList hes with ⟨f1, _⟩ | ⟨j, e0, f1, f2, f3⟩
    · exact f1
    · exfalso
      obtain ⟨y, p, hk, hv, hl⟩ := h1 e0 (List.mem_of_getElem? f2)
      obtain rfl : y = x := hinj _ _ (by rw [← hk, f3])
      rw [hn] at hl; cases hl
  refine ⟨ChangeMaps.setBlock w b (.map (es.push ⟨kv x, bv p, clock⟩) (clock + 1)), ?_, ⟨_, _, ChangeMaps.heap_setBlock_same hb _, ?_, ?_⟩, ⟨rfl, rfl, rfl, by simp [ChangeMaps.setBlock], fun i _ hi => ChangeMaps.heap_setBlock_other hb _ (fun e => hi (by rw [e]))⟩⟩
  · simp [Instr.mapUpdate, run_underlying ht, MapKept.run_getObj_map hb, K.check w false hkey, f1, MapKept.run_setObj_map _ hb, Result.andThen, ChangeMaps.setBlock]
  · intro e he
    simp only [Array.toList_push, List.mem_append, List.mem_singleton] at he
    rcases he with he | rfl
    · obtain ⟨y, q, hk, hv, hl⟩ := h1 e he
      exact ⟨y, q, hk, hv, by rw [lookup_append, hl]; rfl⟩
    · exact ⟨x, p, rfl, rfl, by rw [lookup_append, hn]; simp⟩
  · intro y q hl
    rw [lookup_append] at hl
    cases hy : L.lookup y with
    | some q' =>
      obtain ⟨e, he, hk⟩ := h2 y q' hy
      exact ⟨e, by simp [he], hk⟩
    | none =>
      rw [hy] at hl
      simp only [Option.none_or, List.lookup_cons, List.lookup_nil] at hl
      split at hl
      · rename_i hyx
        have := eq_of_beq hyx
        subst this
        exact ⟨⟨kv y, bv p, clock⟩, by simp, rfl⟩
      · cases hl
end
/-- a key of three strings, and a place -/
def trip (k : ByteArray × ByteArray × ByteArray) : Value := .agg #[.string k.1, .string k.2.1, .string k.2.2]
def plc (p : Nat × Nat) : Value := .agg #[.int .i64 p.1, .int .i64 p.2]
theorem arr3 : WideMaps.ArrKey Tryd.prog 82 9 3 := ⟨Tryd.underlying82, by kernel_rfl, by kernel_rfl, by kernel_rfl⟩
theorem law3 : Keyed Tryd.prog 82 := Keyed.of_law arr3.law
theorem trip_inj : ∀ x y, trip x = trip y → x = y := by
  rintro ⟨a, b, c⟩ ⟨a', b', c'⟩ h
  simp only [trip, Value.agg.injEq] at h
  have h1 := congrArg (fun z : Array Value => z.toList) h
  simp at h1
  rw [h1.1, h1.2.1, h1.2.2]
theorem trip_key (k : ByteArray × ByteArray × ByteArray) (h1 : k.1.size ≤ maxLen) (h2 : k.2.1.size ≤ maxLen) (h3 : k.2.2.size ≤ maxLen) : ∃ l, keyOf Tryd.prog 82 (trip k) = some l := by
  have hk : Tryd.prog.keyType 82 = true := by kernel_rfl
  have hf : (trip k).formed Tryd.prog 82 = true := by
    have hc : Tryd.prog.cellsOf 82 = 3 := by kernel_rfl
    simp [trip, Value.formed, Tryd.underlying82, hc]
  have h5 : 0 < Tryd.prog.types.size := of_decide_eq_true (by kernel_rfl)
  obtain ⟨m, hm⟩ : ∃ m, Tryd.prog.types.size = m + 1 := ⟨Tryd.prog.types.size - 1, by omega⟩
  have hc1 : Tryd.prog.cellsOf 9 = 1 := by kernel_rfl
  have hc3 : Tryd.prog.cellsOf 82 = 3 := by kernel_rfl
  refine ⟨.string (keyBytes [Lit.string k.fst.data.toList, Lit.string k.snd.fst.data.toList, Lit.string k.snd.snd.data.toList]), ?_⟩
  unfold keyOf
  rw [Tryd.underlying82]
  simp only [hk, hf, hm]
  simp [Program.keyLits, Tryd.underlying82, Tryd.underlying9, hc1, hc3, trip, Value.cells, List.range, List.range.loop, h1, h2, h3]
end Go.Proofs.YtompmkcpicfdfaaDoor
