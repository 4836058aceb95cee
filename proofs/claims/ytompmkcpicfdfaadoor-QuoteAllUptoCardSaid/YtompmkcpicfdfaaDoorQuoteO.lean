/- rows of rows of strings that the call makes. -/
import Derived.Test.YtompmkcpicfdfaaDoorQuoteI
namespace Go.Proofs.YtompmkcpicfdfaaDoor
open Go.RowKit
set_option linter.unusedVariables false
/-- What is collected so far: a row of rows. -/
def OutTx (n₁ : Nat) (W : World) (v : Value) (tss : List (List ByteArray)) : Prop := ∃ vs, W.ownsRow n₁ 32 1 v tss.length vs ∧ ∀ i (h : i < tss.length), ∃ u, vs[i]? = some u ∧ W.ownsRow n₁ 9 1 u tss[i].length (tss[i].map .string)
theorem OutTx.nil (n₁ : Nat) (W : World) : OutTx n₁ W (.slice none 0 0) [] := ⟨[], World.ownsRow_nil _ _ _ _, fun i h => by simp at h⟩
theorem OutTx.bel {n₁ : Nat} {W W' : World} {v : Value} {tss : List (List ByteArray)} (h : OutTx n₁ W v tss) (hb : Below W.heap.size W W') : OutTx n₁ W' v tss := by
  obtain ⟨vs, h1, h2⟩ := h
  refine ⟨vs, own_bel h1 hb, fun i hi => ?_⟩
  obtain ⟨u, h3, h4⟩ := h2 i hi
  exact ⟨u, h3, own_bel h4 hb⟩
theorem OutTx.tx {n₁ : Nat} {W : World} {v : Value} {tss : List (List ByteArray)} (h : OutTx n₁ W v tss) : Tx W v tss := by
  obtain ⟨vs, h1, h2⟩ := h
  refine ⟨vs, Sl.of_own h1, fun i hi => ?_⟩
  obtain ⟨u, h3, h4⟩ := h2 i hi
  exact ⟨u, h3, Sl.of_own h4⟩
theorem OutTx.own {n₁ : Nat} {W : World} {v : Value} {tss : List (List ByteArray)} (h : OutTx n₁ W v tss) : ∃ vs, W.ownsRow n₁ 32 1 v tss.length vs := by
  obtain ⟨vs, h1, _⟩ := h
  exact ⟨vs, h1⟩
/-- A row more. -/
theorem OutTx.snoc {n₁ : Nat} {W W1 : World} {v v' u : Value} {tss : List (List ByteArray)} {vs : List Value} {ts : List ByteArray} (h1 : W.ownsRow n₁ 32 1 v tss.length vs)
    (h2 : ∀ i (h : i < tss.length), ∃ u, vs[i]? = some u ∧ W.ownsRow n₁ 9 1 u tss[i].length (tss[i].map .string)) (hu : W.ownsRow n₁ 9 1 u ts.length (ts.map .string))
    (hown : W1.ownsRow n₁ 32 1 v' (tss.length + 1) (vs ++ [u])) (hg : W.grownBy W1 v.ownBlock) : OutTx n₁ W1 v' (tss ++ [ts]) := by
  have hvl : vs.length = tss.length := by have := h1.1; omega
  refine ⟨vs ++ [u], by rw [show (tss ++ [ts]).length = tss.length + 1 by simp]; exact hown, fun i hi => ?_⟩
  rcases Nat.lt_or_ge i tss.length with h5 | h5
  · obtain ⟨u', h6, h7⟩ := h2 i h5
    rw [List.getElem_append_left h5]
    exact ⟨u', by rw [List.getElem?_append_left (by omega)]; exact h6, own_other h7 hg (own_types h7 h1 (by decide))⟩
  · have h6 : i = tss.length := by simp at hi; omega
    subst h6
    rw [List.getElem_append_right (Nat.le_refl _)]
    refine ⟨u, by rw [List.getElem?_append_right (by omega), hvl, Nat.sub_self]; rfl, ?_⟩
    simpa using own_other hu hg (own_types hu h1 (by decide))
theorem infoRows : (Tryd.prog.info? 32).map (fun i => (i.zero, i.size, i.bytes)) = some (some (.slice none 0 0), 1, 24) := by kernel_rfl
theorem infoInt : (Tryd.prog.info? 3).map (fun i => (i.zero, i.size, i.bytes)) = some (some (.int .i64 0), 1, 8) := by kernel_rfl
def SPostV (ts : List ByteArray) (w : World) (e : Ending) (w' : World) : Prop := (∃ v, e = .returned v ∧ Ss w v ts) ∧ w = w'
theorem Clip_any (v : Value) (ts : List ByteArray) (w : World) (hv : Ss w v ts) : Calls Tryd.prog 70 #[v] w (SPostV ts w) := by
  obtain ⟨a, c, rfl, hc, hm⟩ := hv.val
  unfold maxLen at hm
  have j1 : (0 : Int) ≤ (ts.length : Int) := by omega
  have j2 : (ts.length : Int) ≤ (c : Int) := by omega
  have H : ∀ a', (a' = a ∨ a' = a.map (·.add (0 * 1)) ∨ a' = a.map (·.add 0)) → Ss w (.slice a' ts.length ts.length) ts := by
    intro a' ha'
    obtain ⟨h0, a2, cap, h1, h2, h3, h4, h5⟩ := hv
    injection h1 with h1 _ h1c
    subst h1 h1c
    have ha2 : a' = a := by
      rcases ha' with h | h | h
      · exact h
      · rw [h]; cases a <;> simp [Addr.add]
      · rw [h]; cases a <;> simp [Addr.add]
    subst ha2
    refine ⟨h0, a', ts.length, rfl, Nat.le_refl _, by unfold maxLen; omega, fun h => ?_, h5⟩
    have := h4 h; omega
  replace H := Lib.hid H
  go_enter Tryd.func70, Tryd.ntmps70
  go_wp2_with fail
  go_ret
  refine ⟨⟨_, rfl, H.out _ ?_⟩, rfl⟩
  first
    | exact .inl rfl
    | exact .inr (.inl rfl)
    | exact .inr (.inr rfl)
    | (split <;> first | exact .inl rfl | exact .inr (.inl rfl) | exact .inr (.inr rfl))
end Go.Proofs.YtompmkcpicfdfaaDoor
