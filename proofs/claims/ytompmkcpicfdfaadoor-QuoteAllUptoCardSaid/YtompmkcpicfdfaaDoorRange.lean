/- A range over an iterator that keeps its state in a box of its own (no program in sight). -/
import Derived.RangeFuncNested
import Derived.RangeFuncBound
import Derived.RangeFuncCalls
import Derived.RangeFuncLeaves
import Derived.RangeFuncBox
import Derived.Shelf.Abstract
import Derived.Shelf.RegionOpen
import Derived.WalkKit
import Derived.OwnWalkIn
import Derived.TacticsInMore
import Derived.LoopNIn
import Derived.LoopIn
import Derived.Test.YtompmkcpicfdfaaDoorStr
namespace Go.Proofs.YtompmkcpicfdfaaDoor
open Go.RowKit Go.Shelf
set_option linter.unusedVariables false
variable {F : Fence} {n : Nat} {P : Program} {α : Type}
/-- What holds of a world holds behind whatever lays new blocks and turns the block b alone. -/
def StaysBox (b : Nat) (J : List α → World → Prop) : Prop := ∀ s A B, J s A → A.grownBy B (some b) → J s B
/-- One round, as the iterator meets it: it goes on, and leaves the box alone. -/
def RoundGoes (F : Fence) (m : Nat) (P : Program) (l b N : Nat) (encs : α → Array Value) (J : List α → World → Prop) : Prop :=
  ∀ pre x A, J pre A → pre.length < N → YieldAt F m P l (encs x) A fun e B => e = .returned (.bool true) ∧ J (pre ++ [x]) B ∧ B.heap[b]? = A.heap[b]? ∧ A.heap.size ≤ B.heap.size
/-- How a round's body is left: always at its end. -/
def bodyEnds (b₀ b : Nat) (I : List α → World → Prop) (xs : List α) (W : World) : Exit → Act → World → Prop
  | .normal, _, W' => KeepsFrom b₀ W W' ∧ W'.heap[b]? = W.heap[b]? ∧ I xs W'
  | _, _, _ => False
theorem own_notcells {w : World} {base e s n : Nat} {v : Value} {xs : List Value} (h : w.ownsRow base e s v n xs) {row : Option Nat} (hr : ∀ r, row = some r → ∃ o : Obj, w.heap[r]? = some o ∧ o.isCells = false) : v.ownBlock = none ∨ v.ownBlock ≠ row := by
  rcases h.2 with ⟨rfl, _⟩ | ⟨g, cap, cur, rfl, _, hgb, _⟩
  · exact .inl rfl
  · refine .inr fun e1 => ?_
    obtain ⟨o, ho, hc⟩ := hr g (by simpa [Value.ownBlock] using e1.symm)
    rw [hgb] at ho; cases ho; cases hc
theorem other_block {W W' : World} {b k : Nat} {o : Obj} (h : W.grownBy W' (some b)) (hk : W.heap[k]? = some o) (hne : k ≠ b) : W'.heap[k]? = some o :=
  (h.block k (Array.getElem?_eq_some_iff.1 hk).1 (fun e => hne (by injection e))).trans hk
theorem wpIn_rangeFunc_box {g : Operand} {ps : Array Tmp} {assign body : Code} {Q : Exit → Act → World → Prop} {a : Act} {w : World}
    (hro : F.round = none) (h1 : 1 ≤ n) {gf : Nat} {lb : Array Value} (hg : a.eval g = .func (.func gf) #[] lb) (hF : F.fn gf) (eg : ∀ args w, (callFunc gf args).run P w = .ok (.enter gf args) w)
    {encs : α → Array Value} {b N : Nat} (hb : b < w.heap.size) {S : List α → Prop}
    (hseq : ∀ (l : Nat) (J : List α → World → Prop) (W : World), Below w.heap.size w W → StaysBox b J → RoundGoes F (n - 1 - 1) P l b N encs J → J [] W →
      CallsIn F (n - 1) P gf (#[.func (.yield l) #[] #[]] ++ lb) W fun e W' => (∃ v, e = .returned v) ∧ ∃ xs, S xs ∧ J xs W')
    (hps : ∀ x, (encs x).size = ps.size) (I : List α → World → Prop) (hI : OwnFrom w.heap.size I) (hIb : StaysBox b I) (h0 : I [] w) (a₁ : α → Act)
    (hassign : ∀ (l : Nat) (x : α) (W : World) (K : Act → World → Prop), K (a₁ x) W →
      assign.wpIn (F.inRound l) (n - 1 - 1) P (Exit.then K (fun _ _ _ => False)) { tmps := (ps.zip (encs x)).foldl (fun t (p, v) => t.setIfInBounds p v) a.tmps, defers := [] } W)
    (hbody : ∀ (l : Nat) (pre : List α) (x : α) (W : World), I pre W → pre.length < N → body.wpIn (F.inRound l) (n - 1 - 1) P (bodyEnds w.heap.size b I (pre ++ [x]) W) (a₁ x) W)
    (hdone : ∀ (D : Nat) (xs : List α) (W : World), w.heap.size ≤ D → S xs → I xs W → W.heap[D]? = some (.deferred (some [])) → Q .normal { a with defers := { target := .collected D, args := #[] } :: a.defers } W) :
    (Code.rangeFunc g ps assign body).wpIn F n P Q a w := by
  refine wpIn_rangeFunc fun fn hfn => ?_
  rw [hro]
  obtain ⟨D, hD⟩ : ∃ D, w.heap.size = D := ⟨_, rfl⟩
  let rec0 : LoopState → Loop := fun st => { state := st, pending := none, fn, tmps := a.tmps, params := ps, assign, body, defers := D }
  obtain ⟨W1, hW1⟩ : ∃ W1, (w.alloc (.deferred (some []))).alloc (.loop (rec0 .ready)) = W1 := ⟨_, rfl⟩
  have hsz : (w.alloc (.deferred (some []))).heap.size = D + 1 := by rw [World.size_alloc, hD]
  have rL : W1.heap[D + 1]? = some (.loop (rec0 .ready)) := by
    have := World.alloc_heap_new (w.alloc (.deferred (some []))) (.loop (rec0 .ready))
    rw [hW1, hsz] at this; exact this
  have rD : W1.heap[D]? = some (.deferred (some [])) := by
    have h2 := World.alloc_heap_new w (.deferred (some []))
    rw [hD] at h2
    rw [← hW1, Below.heap_alloc _ _ _ (by rw [hsz]; omega)]; exact h2
  have hB1 : Below w.heap.size w W1 := by rw [← hW1]; exact ((Below.refl _ w).alloc (Nat.le_refl _) _).alloc (by simp) _
  have hI1 : I [] W1 := by rw [← hW1]; exact hI.alloc _ (hI.alloc _ h0)
  let J : List α → World → Prop := fun pre W => I pre W ∧ W.heap[D + 1]? = some (.loop (rec0 .ready)) ∧ W.heap[D]? = some (.deferred (some []))
  have hrun := run_enterLoop_outer (P := P) (w := w) fn a.tmps ps assign body
  rw [hD] at hrun
  refine ⟨D + 1, [{ target := .collected D, args := #[] }], W1, { target := .fn (.func gf) lb, args := #[.func (.yield (D + 1)) #[] #[]] }, W1, gf, #[.func (.yield (D + 1)) #[] #[]] ++ lb, W1, ?_, ?_, ?_, ?_, fun _ => h1, ?_⟩
  · rw [← hW1]; exact hrun
  · simp only [resolve, hg]
    simp [go_sem]
  · intro f' hf'; simp [Target.leads] at hf'; subst hf'; exact hF
  · simp [invoke, go_sem, eg]
  · refine (hseq (D + 1) J W1 hB1 ?_ ?_ ⟨hI1, rL, rD⟩).mono ?_
    · rintro s A B ⟨k1, k2, k3⟩ hgr
      exact ⟨hIb s A B k1 hgr, other_block hgr k2 (by omega), other_block hgr k3 (by omega)⟩
    · rintro pre x W ⟨k1, k2, k3⟩ hN
      have hlt := (Array.getElem?_eq_some_iff.1 k2).1
      have hy := run_yield (P := P) (args := encs x) k2 (hps x)
      refine ⟨fn, _, assign, body, hy, roundIn_of_wpIn hfn (hassign _ x W _ ⟨_, run_beginRound k2 rfl, ?_⟩)⟩
      obtain ⟨W2, hW2⟩ : ∃ W2, W.putObj (D + 1) (.loop (rec0 .busy)) = W2 := ⟨_, rfl⟩
      have p2 : W2.heap[D + 1]? = some (.loop (rec0 .busy)) := by rw [← hW2]; exact World.putObj_heap_same hlt
      have p3 : W2.heap[D]? = some (.deferred (some [])) := by rw [← hW2]; exact (World.putObj_heap_other (by omega)).trans k3
      have p1 : I pre W2 := by rw [← hW2]; exact hI.putObj _ k1 (by omega) k2 rfl
      have p4 : W2.heap[b]? = W.heap[b]? := by rw [← hW2]; exact World.putObj_heap_other (by omega)
      have p5 : W2.heap.size = W.heap.size := by rw [← hW2]; simp
      show body.wpIn _ _ _ _ _ (W.putObj (D + 1) (.loop (rec0 .busy)))
      rw [hW2]
      refine wpIn_mono (hbody _ pre x W2 p1 hN) ?_
      intro e a3 W3 hp
      cases e with
      | normal =>
        obtain ⟨q1, q2, q3⟩ := hp
        have q4 := q1.same _ _ (by omega) p2 rfl
        have q5 := q1.same _ _ (by omega) p3 rfl
        have hlt3 := (Array.getElem?_eq_some_iff.1 q4).1
        refine ⟨_, _, run_endRound (P := P) none q4, rfl, ⟨hI.putObj _ q3 (by omega) q4 rfl, World.putObj_heap_same hlt3, (World.putObj_heap_other (by omega)).trans q5⟩, (World.putObj_heap_other (by omega)).trans (q2.trans p4), ?_⟩
        have := q1.size
        simp; omega
      | _ => exact (hp : False).elim
    · rintro e W2 ⟨⟨v, rfl⟩, xs, hS, k1, k2, k3⟩
      exact ⟨none, _, run_endLoop (P := P) k2 (by simp [rec0]), hdone D xs _ (by omega) hS (hI.putObj _ k1 (by omega) k2 rfl) ((World.putObj_heap_other (by omega)).trans k3)⟩
end Go.Proofs.YtompmkcpicfdfaaDoor
