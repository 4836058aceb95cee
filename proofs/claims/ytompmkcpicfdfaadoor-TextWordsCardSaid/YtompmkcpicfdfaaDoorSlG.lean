/- append under a guard (no program in sight). -/
import Derived.Test.YtompmkcpicfdfaaDoorSl
import Derived.BigFrame
namespace Go.Proofs.YtompmkcpicfdfaaDoor
open Go.RowKit
section
variable {P : Program} {w w' : World} {s n : Nat} {v : Value} {xs : List Value}
/-- At the operation 'append(v, x...)' whose guard says yes. -/
theorem wpList_append_srcG {ops : Array Oper} {rest : List Oper} {o : Oper} {a : Act} {Q : Exit → Act → World → Prop} (hw : Region.wanted o (yielded ops a.tmps) = true) (sv x : Operand) (t tx : TypeId)
    (ho : o.op = .call { callee := .builtin .append, args := #[sv, x], argTypes := #[t, tx] })
    (base : Nat) (e : TypeId) (i : TypeInfo) (z : Value) (size bytes : Nat) (ht : P.underlying t = some (.slice e)) (hi : P.info? e = some i) (hz : i.zero = some z)
    (hsize : i.size = size) (hby : i.bytes = bytes) (hzs : z.cells.size = size) (hsz : 0 < size)
    (v : Value) (n : Nat) (xs : List Value) (hs : a.eval sv = v) (hown : w.ownsRow base e size v n xs) (xv : Value) (hxv : a.eval x = xv) (m : Nat) (news : List Value) (hx : Src P size tx xv m news w)
    (h63 : n + m ≤ maxLen) (hbytes : (n + m) * bytes ≤ 140737488355328) (hbase : base ≤ w.heap.size)
    (h : ∀ v' w', w'.ownsRow base e size v' (n + m) (xs ++ news) → w.grownBy w' v.ownBlock → (v'.ownBlock = v.ownBlock ∨ v'.ownBlock = some w.heap.size) → (v' = .slice none 0 0 ↔ v = .slice none 0 0 ∧ m = 0) → wpList P ops Q rest (a.put o.dst v') w') : wpList P ops Q (o :: rest) a w := by
  refine BigFrame.wpList_want hw fun K hK => ?_
  obtain ⟨v', w', hr, h1, h2, h3, h4⟩ := run_append_own_src (P := P) base t tx o.type e i z size bytes ht hi hz hsize hby hzs hsz v n xs hown xv m news hx h63 hbytes hbase
  unfold Oper.wp execOp
  simp only [ho, resolve, invoke, builtin, Sem.run_bind, Sem.run_pure, Result.andThen_ok, List.map_toArray, List.map_cons, List.map_nil, hs, hxv, hr]
  exact hK _ _ (h v' w' h1 h2 h3 h4)
end
end Go.Proofs.YtompmkcpicfdfaaDoor
