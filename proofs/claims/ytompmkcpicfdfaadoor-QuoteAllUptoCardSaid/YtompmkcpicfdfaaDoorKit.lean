/- Small lemmas on worlds (no program in sight): a call that lays only new blocks; a region that draws its order and whose calls lay only new blocks. -/
import Derived.WalkKit
import Derived.ProofKit
import Derived.OpenShut
import Derived.Outline
import Derived.Handy
import Derived.Deep.RegionWith
import Derived.Deep.QuietTactic
import Derived.BigQuiet
import Derived.StillTailTactics
import Derived.Deep.RegionHeld3
import Derived.WalkSpells
import Derived.WalkLawsBesides
import Derived.Lib.Hide
namespace Go.Proofs.YtompmkcpicfdfaaDoor
open Go.RowKit
set_option linter.unusedVariables false
theorem ret_int {k : IntKind} {a b : Int} (h : a = b) : Ending.returned (.int k a) = .returned (.int k b) := by rw [h]
theorem ret_bool {a b : Bool} (h : a = b) : Ending.returned (.bool a) = .returned (.bool b) := by rw [h]
theorem ret_str {a b : ByteArray} (h : a = b) : Ending.returned (.string a) = .returned (.string b) := by rw [h]
/-- The call has laid new blocks, at most. -/
abbrev Bel (w w' : World) : Prop := Below w.heap.size w w'
theorem bget {W w1 : World} (hb : Below W.heap.size W w1) {b o : Nat} {v : Value} (h : b < W.heap.size) (hv : W.cell? ⟨b, o, none⟩ = some v) : w1.cell? ⟨b, o, none⟩ = some v := (hb.cell (p := ⟨b, o, none⟩) h).trans hv
theorem bfrz {W w1 : World} (hb : Below W.heap.size W w1) {b o : Nat} (h : b < W.heap.size) (hv : W.frozen? ⟨b, o, none⟩ = false) : w1.frozen? ⟨b, o, none⟩ = false := (hb.frozen (p := ⟨b, o, none⟩) h).trans hv
theorem bsize {W w1 : World} (hb : Below W.heap.size W w1) {b : Nat} (h : b < W.heap.size) : b < w1.heap.size := Nat.lt_of_lt_of_le h hb.size
theorem bnext {w W w1 : World} (h : Below w.heap.size w W) (hb : Below W.heap.size W w1) : Below w.heap.size w w1 := h.trans (hb.mono h.size)
theorem balloc {w W : World} {o : Obj} (h : Below w.heap.size w W) : Below w.heap.size w (W.alloc o) := h.alloc h.size _
theorem bset {w W : World} {p : Addr} {u : Value} (h : Below w.heap.size w W) (hp : w.heap.size ≤ p.block) : Below w.heap.size w (W.setCell p u) := h.setCell hp _
theorem bdrew {w W : World} (h : Below w.heap.size w W) : Below w.heap.size w W.drew := h.drew
theorem bdrewN {w W : World} {n : Nat} (h : Below w.heap.size w W) : Below w.heap.size w (W.drewN n) := ⟨h.os, h.tape, h.output, h.size, h.block⟩
/-- The world at hand under a name of its own. -/
theorem wp_named {P : Program} {c : Code} {Q : Exit → Act → World → Prop} {a : Act} {w : World} (h : ∀ W, w = W → Code.wp P c Q a W) : Code.wp P c Q a w := h w rfl
theorem calls_named {P : Program} {f : FuncId} {args : Array Value} {Q : Ending → World → Prop} {w : World} (h : ∀ W, w = W → Calls P f args W Q) : Calls P f args w Q := h w rfl
/-! ### A region that draws its order, whose operations only read and whose calls only lay new blocks: one walk in the order of the text. -/
def BelOf (W : World) : Type := { w' : World // Below W.heap.size W w' }
instance (W : World) : Nonempty (BelOf W) := ⟨⟨W, Below.refl _ _⟩⟩
theorem wp_region_bel {P : Program} {id : Nat} {Q : Exit → Act → World → Prop} {a : Act} {w : World} {l : List Oper} (hm : P.follows .mixedOrders = true) (hB : Region.lexB .any l.toArray = true)
    (h : wpQuiet P l.toArray (fun w' => ∃ s : BelOf w, w' = s.1) (fun a' => ∀ w', (∃ s : BelOf w, w' = s.1) → Q .normal a' w') l a) : (Code.region id l.toArray true).wp P Q a w :=
  wp_region_quiet (C := fun w' => ∃ s : BelOf w, w' = s.1) hm hB ⟨⟨w.drew, (Below.refl _ _).drew⟩, rfl⟩ (by simpa using h)
theorem Calls.bel_of {P : Program} {f : FuncId} {args : Array Value} {W : World} {s : BelOf W} {v : Value}
    (h : Calls P f args s.1 fun e w' => e = .returned v ∧ Below s.1.heap.size s.1 w') : Calls P f args s.1 fun e w'' => e = .returned v ∧ ∃ s' : BelOf W, w'' = s'.1 :=
  h.mono fun _ w' ⟨he, hb⟩ => ⟨he, ⟨w', s.2.trans (hb.mono s.2.size)⟩, rfl⟩
theorem Calls.bel_same {P : Program} {f : FuncId} {args : Array Value} {W : World} {s : BelOf W} {v : Value}
    (h : Calls P f args s.1 fun e w' => e = .returned v ∧ s.1 = w') : Calls P f args s.1 fun e w'' => e = .returned v ∧ ∃ s' : BelOf W, w'' = s'.1 :=
  h.mono fun _ w' ⟨he, hb⟩ => ⟨he, s, hb.symm⟩
theorem sget {W : World} {b o : Nat} {v : Value} (h : b < W.heap.size) (hv : W.cell? ⟨b, o, none⟩ = some v) : ∀ s : BelOf W, s.1.cell? ⟨b, o, none⟩ = some v := fun s => bget s.2 h hv
theorem sfrz {W : World} {b o : Nat} (h : b < W.heap.size) (hv : W.frozen? ⟨b, o, none⟩ = false) : ∀ s : BelOf W, s.1.frozen? ⟨b, o, none⟩ = false := fun s => bfrz s.2 h hv
end Go.Proofs.YtompmkcpicfdfaaDoor
