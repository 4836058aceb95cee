/- Arguments opened: a struct of seven one-cell fields by value; a slice of structs of two numbers. (The guide's page on structs, its shape for seven fields; no program in sight.) -/
import Derived.Test.YtnbfmmnbjjeecacSl
import Derived.Lib.SmallJoins
import Derived.Deep.Slices
import Derived.Deep.Fields
import Derived.ChangeSame
namespace Go.Proofs.Ytnbfmmnbjjeecac
open Go.Joins Go.ChangeShapes Go.WideShapes Go.RowKit Go.Deep
set_option linter.unusedVariables false
section
variable {H : Type} {enc : TypeId × Value → H} {P : Program} {w : World} {base : Nat} {spare : Nat → Bool} {held : Bool}
theorem open_agg7 {r : Reach} {b0 : Nat} {t : TypeId} {f0 f1 f2 f3 f4 f5 f6 : Field} {v : Value} {d : DataW H} {p : List MemPlace} (hs : P.underlying t = some (.struct #[f0, f1, f2, f3, f4, f5, f6])) (hone : oneCellFields P #[f0, f1, f2, f3, f4, f5, f6] = true) (hC : P.cellsOf t = 7)
    (hv : Value.okWide P w r b0 t v) (h : DataW.Trod enc P w base spare held t v d p) :
    ∃ (v0 v1 v2 v3 v4 v5 v6 : Value) (y0 y1 y2 y3 y4 y5 y6 : DataW H × List MemPlace) (n : Nat), v = .agg #[v0, v1, v2, v3, v4, v5, v6] ∧ d = .agg [y0.1, y1.1, y2.1, y3.1, y4.1, y5.1, y6.1] ∧ p = y0.2 ++ (y1.2 ++ (y2.2 ++ (y3.2 ++ (y4.2 ++ (y5.2 ++ y6.2))))) ∧
      DataW.trod enc P w base spare held n f0.type [v0] = some y0 ∧ DataW.trod enc P w base spare held n f1.type [v1] = some y1 ∧ DataW.trod enc P w base spare held n f2.type [v2] = some y2 ∧ DataW.trod enc P w base spare held n f3.type [v3] = some y3 ∧ DataW.trod enc P w base spare held n f4.type [v4] = some y4 ∧ DataW.trod enc P w base spare held n f5.type [v5] = some y5 ∧ DataW.trod enc P w base spare held n f6.type [v6] = some y6 := by
  obtain ⟨cs, rfl, hsz⟩ := okWide_struct hs hv
  obtain ⟨l⟩ := cs
  match l, hsz.trans hC with
  | [c0, c1, c2, c3, c4, c5, c6], _ =>
    obtain ⟨fuel, hf⟩ := h
    obtain ⟨xs, n, _, hx, _, hlen, hg⟩ := DataW.trod_struct hs hf
    obtain ⟨o0, k0⟩ := hone_of hone 0 f0 rfl
    obtain ⟨o1, k1⟩ := hone_of hone 1 f1 rfl
    obtain ⟨o2, k2⟩ := hone_of hone 2 f2 rfl
    obtain ⟨o3, k3⟩ := hone_of hone 3 f3 rfl
    obtain ⟨o4, k4⟩ := hone_of hone 4 f4 rfl
    obtain ⟨o5, k5⟩ := hone_of hone 5 f5 rfl
    obtain ⟨o6, k6⟩ := hone_of hone 6 f6 rfl
    match xs, hlen with
    | [y0, y1, y2, y3, y4, y5, y6], _ =>
      simp only [Prod.mk.injEq] at hx
      exact ⟨c0, c1, c2, c3, c4, c5, c6, y0, y1, y2, y3, y4, y5, y6, n, rfl, by simpa using hx.1, by simpa using hx.2, by simpa [Value.cells, o0, k0] using hg 0 f0 rfl, by simpa [Value.cells, o1, k1] using hg 1 f1 rfl, by simpa [Value.cells, o2, k2] using hg 2 f2 rfl, by simpa [Value.cells, o3, k3] using hg 3 f3 rfl, by simpa [Value.cells, o4, k4] using hg 4 f4 rfl, by simpa [Value.cells, o5, k5] using hg 5 f5 rfl, by simpa [Value.cells, o6, k6] using hg 6 f6 rfl⟩
theorem open_slice_fields {t e : TypeId} {fs : Array Field} {fuel : Nat} {cs : List Value} {x : DataW H × List MemPlace} (ht : P.underlying t = some (.slice e)) (he : P.underlying e = some (.struct fs))
    (hone : oneCellFields P fs = true) (hC : P.cellsOf e = fs.size) (h : DataW.trod enc P w base spare held fuel t cs = some x) :
    (cs = [.slice none 0 0] ∧ x = (.nil, [])) ∨
    ∃ (a : Addr) (len cap m : Nat), cs = [.slice (some a) len cap] ∧ len ≤ cap ∧ cap ≤ maxLen ∧ len ≤ m ∧
      ∀ i, i < m → ∃ (ys : List (DataW H × List MemPlace)) (n : Nat), ys.length = fs.size ∧
        ∀ (j : Nat) (f : Field), fs[j]? = some f → ∃ (v : Value) (y : DataW H × List MemPlace), w.cell? (a.add (i * fs.size + j)) = some v ∧ ys[j]? = some y ∧ DataW.trod enc P w base spare held n f.type [v] = some y := by
  rcases open_slice ht h with h0 | ⟨a, len, cap, m, n, D, Pl, hcs, hb, hl, hm, hmm, hx, hi⟩
  · exact .inl h0
  · refine .inr ⟨a, len, cap, m, hcs, hl, hm, by rw [hmm]; split <;> omega, fun i him => ?_⟩
    obtain ⟨cs', hc, ht'⟩ := hi i him
    rw [hC] at hc
    obtain ⟨ys, n', hn', hy, hlen, hyl, hf⟩ := DataW.trod_struct he ht'
    obtain ⟨_, hcl, hat⟩ := World.cells?_some hc
    refine ⟨ys, n', hyl, fun j f hj => ?_⟩
    obtain ⟨ho, hk⟩ := hone_of hone j f hj
    have hjl : j < fs.size := (Array.getElem?_eq_some_iff.1 hj).1
    have hcell := hat j hjl
    have hv : cs'[j]? = some (cs'[j]'(by omega)) := List.getElem?_eq_getElem (by omega)
    have h1 := hf j f hj
    rw [ho, hk] at h1
    have hone' : (cs'.drop j).take 1 = [cs'[j]'(by omega)] := by
      rw [List.drop_eq_getElem_cons (by omega)]
      rfl
    rw [hone'] at h1
    have hys : ys[j]? = some (ys[j]'(by omega)) := List.getElem?_eq_getElem (by omega)
    refine ⟨_, _, ?_, hys, h1.trans hys⟩
    rw [← Go.Deep.add_add, hcell, hv]
end
/-- A slice of structs of two numbers: nil; or an address behind which each element's two cells lie. -/
def IsPairs (w : World) (a : Option Addr) (len cap : Nat) (l : List (Int × Int)) : Prop :=
  l.length = len ∧ len ≤ maxLen ∧ (len = 0 ∨ ∃ b off, a = some ⟨b, off, none⟩ ∧ b < w.heap.size ∧ ∀ i, i < len → w.cell? ⟨b, off + i * 2, none⟩ = some (.int .i64 (l.getD i (0, 0)).1) ∧ w.cell? ⟨b, off + (i * 2 + 1), none⟩ = some (.int .i64 (l.getD i (0, 0)).2) ∧
    (Lit.int .i64 (l.getD i (0, 0)).1).wf = true ∧ (Lit.int .i64 (l.getD i (0, 0)).2).wf = true)
theorem open_pairs {H : Type} {enc : TypeId × Value → H} {P : Program} {w : World} {spare : Nat → Bool} {held : Bool} {t e i : TypeId} {f0 f1 : Field} {fuel : Nat} {a : Option Addr} {len cap : Nat} {x : DataW H × List MemPlace} (ht : P.underlying t = some (.slice e)) (he : P.underlying e = some (.struct #[f0, f1]))
    (hone : oneCellFields P #[f0, f1] = true) (hC : P.cellsOf e = 2) (h0 : f0.type = i) (h1 : f1.type = i) (hi : P.underlying i = some (.int .i64)) (h : DataW.trod enc P w 0 spare held fuel t [.slice a len cap] = some x) :
    ∃ l, IsPairs w a len cap l := by
  rcases open_slice_fields ht he hone hC h with ⟨hcs, _⟩ | ⟨a', len', cap', m, hcs, hl, hm, hlm, hf⟩
  · simp at hcs
    obtain ⟨rfl, rfl, rfl⟩ := hcs
    exact ⟨[], rfl, Nat.zero_le _, .inl rfl⟩
  · simp at hcs
    obtain ⟨rfl, rfl, rfl⟩ := hcs
    by_cases hz : len = 0
    · subst hz
      exact ⟨[], rfl, Nat.zero_le _, .inl rfl⟩
    have get : ∀ i, i < len → ∃ p : Int × Int, w.cell? (a'.add (i * 2)) = some (.int .i64 p.1) ∧ w.cell? (a'.add (i * 2 + 1)) = some (.int .i64 p.2) ∧ (Lit.int .i64 p.1).wf = true ∧ (Lit.int .i64 p.2).wf = true := by
      intro i hlt
      obtain ⟨ys, n, hys, hj⟩ := hf i (by omega)
      obtain ⟨v0, y0, c0, _, t0⟩ := hj 0 f0 rfl
      obtain ⟨v1, y1, c1, _, t1⟩ := hj 1 f1 rfl
      rw [h0] at t0
      rw [h1] at t1
      obtain ⟨z0, e0, _, w0⟩ := DataW.trod_int hi t0
      obtain ⟨z1, e1, _, w1⟩ := DataW.trod_int hi t1
      simp at e0 e1
      subst e0 e1
      exact ⟨(z0, z1), c0, c1, w0, w1⟩
    obtain ⟨b, off, spot⟩ := a'
    have hspot : spot = none := by
      obtain ⟨p, c, _⟩ := get 0 (by omega)
      simpa [Addr.add] using World.cell?_spot c
    subst hspot
    have get2 : ∃ l : List (Int × Int), l.length = len ∧ ∀ i, i < len → w.cell? ⟨b, off + i * 2, none⟩ = some (.int .i64 (l.getD i (0, 0)).1) ∧ w.cell? ⟨b, off + (i * 2 + 1), none⟩ = some (.int .i64 (l.getD i (0, 0)).2) ∧
        (Lit.int .i64 (l.getD i (0, 0)).1).wf = true ∧ (Lit.int .i64 (l.getD i (0, 0)).2).wf = true := by
      have : ∀ n, n ≤ len → ∃ l : List (Int × Int), l.length = n ∧ ∀ i, i < n → w.cell? ⟨b, off + i * 2, none⟩ = some (.int .i64 (l.getD i (0, 0)).1) ∧ w.cell? ⟨b, off + (i * 2 + 1), none⟩ = some (.int .i64 (l.getD i (0, 0)).2) ∧
          (Lit.int .i64 (l.getD i (0, 0)).1).wf = true ∧ (Lit.int .i64 (l.getD i (0, 0)).2).wf = true := by
        intro n
        induction n with
        | zero => intro _; exact ⟨[], rfl, fun i hi => by omega⟩
        | succ n ih =>
          intro hn
          obtain ⟨l, hl, hc⟩ := ih (by omega)
          obtain ⟨p, g0, g1, g2, g3⟩ := get n (by omega)
          rw [Addr.add_lit] at g0 g1
          refine ⟨l ++ [p], by simp [hl], fun i hi => ?_⟩
          rcases Nat.lt_or_ge i n with h | h
          · have e : (l ++ [p]).getD i (0, 0) = l.getD i (0, 0) := by simp [List.getD_eq_getElem?_getD, List.getElem?_append_left (hl ▸ h)]
            rw [e]; exact hc i h
          · obtain rfl : i = n := by omega
            have e : (l ++ [p]).getD i (0, 0) = p := by rw [← hl]; simp [List.getD_eq_getElem?_getD]
            rw [e]; exact ⟨g0, g1, g2, g3⟩
      exact this len (Nat.le_refl _)
    obtain ⟨l, hl', hc⟩ := get2
    obtain ⟨p, c, _⟩ := get 0 (by omega)
    exact ⟨l, hl', by omega, .inr ⟨b, off, rfl, World.block_lt_of_cell? w _ c, hc⟩⟩
theorem IsPairs.below {w w' : World} {a : Option Addr} {len cap : Nat} {l : List (Int × Int)} (h : IsPairs w a len cap l) (hb : Below w.heap.size w w') : IsPairs w' a len cap l := by
  obtain ⟨h0, h1, h2⟩ := h
  refine ⟨h0, h1, ?_⟩
  rcases h2 with h2 | ⟨b, off, ha, hlt, hc⟩
  · exact .inl h2
  · exact .inr ⟨b, off, ha, Nat.lt_of_lt_of_le hlt hb.size, fun i hi => ⟨bget hb hlt (hc i hi).1, bget hb hlt (hc i hi).2.1, (hc i hi).2.2⟩⟩
end Go.Proofs.Ytnbfmmnbjjeecac
