/-
  No cell of these rows narrows 'for every input' (looked for: loops, veiled, ifaces, maps, wideKeys, modest, calm, conditions, laid).
  DERIVED. THE GIVEN ROWS OF THIS SEAT. 4 by the template 'for every input the law returns true; each argument reads behind the call as it read before'; 0 by the template 'total and deterministic' (their statements: YtnbfmmnbjjeecacTotals.lean).
  GIVEN WITH THE SEED: the statements are not yours to turn. If you find one false, say at which input.
  Laid BY PROGRAM, IN A SANDBOX (cutbox-rows.mjs): the forced cells as the released guide's own fill.sh prints them over the translation c2c14a8550434778… (all of the seat's roots in one cut). By AI agents, Wed Nov 11 2026. No macro, syntax, notation, axiom, sorry.
-/
import Derived.Test.YtnbfmmnbjjeecacChecked
import GoSem.Claim
import GoSem.ClaimJoined
import GoSem.ClaimMapViews
import Derived.JoinedTies
import Derived.KernelRfl
namespace Go.Proofs.Ytnbfmmnbjjeecac
/- THE CELL 'sum', in the pinned program and in every row, IS THE sha256 OF THE DUMP (.gsa) THAT YtnbfmmnbjjeecacProg.lean LOADS. Nothing in Lean hashes anything: it is a label: what it is worth is what the hold of that sum in a sandbox is worth. -/
noncomputable def Try.pinned : Pinned := { name := "ytnbfmmnbjjeecac", sum := "c2c14a8550434778c95035dbc368b6190132089168087f901ad46972b8d55f10", checked := Try.checked }
namespace Rows
def none {H : Type} : Left H := { results := [], args := [] }

/-- 'missivelaw40.ScoreDays': WHATEVER THE INPUT: true; the input reads as it did. -/
def scoreDaysSpec : ChangeSpec := { name := "scoreDays", fn := fun _ => fun
  | [d1, d2, d3] => { results := [.lit (.bool true)], args := [d1, d2, d3] }
  | _ => none }
def scoreDaysRow : OpenClaim := { program := "ytnbfmmnbjjeecac", sum := "c2c14a8550434778c95035dbc368b6190132089168087f901ad46972b8d55f10", func := "missive/missivelaw40.ScoreDays", spec := "scoreDays", apart := false }
def ScoreDaysSaid : Prop := scoreDaysRow.holds Try.pinned (OpenSpec.ofChange scoreDaysSpec)

/-- ITS FALSE NEIGHBOUR: 'it returns false'. Refute it at one input. -/
def scoreDaysWrong : ChangeSpec := { name := "scoreDays", fn := fun _ => fun
  | [d1, d2, d3] => { results := [.lit (.bool false)], args := [d1, d2, d3] }
  | _ => none }
def ScoreDaysWrongFalsely : Prop := scoreDaysRow.holds Try.pinned (OpenSpec.ofChange scoreDaysWrong)

/-- 'missivelaw40.ScoreBounds': WHATEVER THE INPUT: true; the input reads as it did. -/
def scoreBoundsSpec : ChangeSpec := { name := "scoreBounds", fn := fun _ => fun
  | [d] => { results := [.lit (.bool true)], args := [d] }
  | _ => none }
def scoreBoundsRow : OpenClaim := { program := "ytnbfmmnbjjeecac", sum := "c2c14a8550434778c95035dbc368b6190132089168087f901ad46972b8d55f10", func := "missive/missivelaw40.ScoreBounds", spec := "scoreBounds", apart := false }
def ScoreBoundsSaid : Prop := scoreBoundsRow.holds Try.pinned (OpenSpec.ofChange scoreBoundsSpec)

/-- ITS FALSE NEIGHBOUR: 'it returns false'. Refute it at one input. -/
def scoreBoundsWrong : ChangeSpec := { name := "scoreBounds", fn := fun _ => fun
  | [d] => { results := [.lit (.bool false)], args := [d] }
  | _ => none }
def ScoreBoundsWrongFalsely : Prop := scoreBoundsRow.holds Try.pinned (OpenSpec.ofChange scoreBoundsWrong)

/-- 'missivelaw40.ScoreStates': WHATEVER THE INPUT: true; the input reads as it did. -/
def scoreStatesSpec : ChangeSpec := { name := "scoreStates", fn := fun _ => fun
  | [d] => { results := [.lit (.bool true)], args := [d] }
  | _ => none }
def scoreStatesRow : OpenClaim := { program := "ytnbfmmnbjjeecac", sum := "c2c14a8550434778c95035dbc368b6190132089168087f901ad46972b8d55f10", func := "missive/missivelaw40.ScoreStates", spec := "scoreStates", apart := false }
def ScoreStatesSaid : Prop := scoreStatesRow.holds Try.pinned (OpenSpec.ofChange scoreStatesSpec)

/-- ITS FALSE NEIGHBOUR: 'it returns false'. Refute it at one input. -/
def scoreStatesWrong : ChangeSpec := { name := "scoreStates", fn := fun _ => fun
  | [d] => { results := [.lit (.bool false)], args := [d] }
  | _ => none }
def ScoreStatesWrongFalsely : Prop := scoreStatesRow.holds Try.pinned (OpenSpec.ofChange scoreStatesWrong)

/-- 'missivelaw40.ScoreHeals': WHATEVER THE INPUT: true; the input reads as it did. -/
def scoreHealsSpec : ChangeSpec := { name := "scoreHeals", fn := fun _ => fun
  | [d1, d2] => { results := [.lit (.bool true)], args := [d1, d2] }
  | _ => none }
def scoreHealsRow : OpenClaim := { program := "ytnbfmmnbjjeecac", sum := "c2c14a8550434778c95035dbc368b6190132089168087f901ad46972b8d55f10", func := "missive/missivelaw40.ScoreHeals", spec := "scoreHeals", apart := false }
def ScoreHealsSaid : Prop := scoreHealsRow.holds Try.pinned (OpenSpec.ofChange scoreHealsSpec)

/-- ITS FALSE NEIGHBOUR: 'it returns false'. Refute it at one input. -/
def scoreHealsWrong : ChangeSpec := { name := "scoreHeals", fn := fun _ => fun
  | [d1, d2] => { results := [.lit (.bool false)], args := [d1, d2] }
  | _ => none }
def ScoreHealsWrongFalsely : Prop := scoreHealsRow.holds Try.pinned (OpenSpec.ofChange scoreHealsWrong)

/- THE SECOND FORM. 'bulk': how many values and letters a reading holds, each counted each time it is reached (what is shared counts as often as it is met; a slice's spare places count too). A statement '..UptoSaid' is the law's where the arguments, and the package variables that the reading takes, are together of bulk at most 1048576: NARROWER than '..Said'. Prove '..Said' where nothing that the law and all that it calls make is longer than what came in: it says more and counts as full. Else prove '..UptoSaid'. A law counts once. -/
mutual
def uptoBulk {H : Type} : DataW H → Nat
  | .lit (.string bytes) => bytes.length + 1
  | .lit _ => 1
  | .nil => 1
  | .ptr d => uptoBulk d + 1
  | .slice elems spare => uptoBulkAll elems + uptoBulkAll spare + 1
  | .agg parts => uptoBulkAll parts + 1
  | .iface _ d => uptoBulk d + 1
  | .map entries => uptoBulkEntries entries + 1
  | .held _ => 1
def uptoBulkAll {H : Type} : List (DataW H) → Nat
  | [] => 0
  | d :: r => uptoBulk d + uptoBulkAll r
def uptoBulkEntries {H : Type} : List (Lit × DataW H) → Nat
  | [] => 0
  | x :: r => uptoBulkEntry x + uptoBulkEntries r
def uptoBulkEntry {H : Type} : Lit × DataW H → Nat
  | (.string bytes, d) => bytes.length + uptoBulk d + 1
  | (_, d) => uptoBulk d + 1
 end
def uptoSmall : (H : Type) → List (DataW H) → Bool := fun _ ds => decide (uptoBulkAll ds ≤ 1048576)
def OpenSpec.upto (s : _root_.Go.ChangeSpec) : _root_.Go.OpenSpec := { _root_.Go.OpenSpec.ofChange s with cond := some uptoSmall }

/-- 'missivelaw40.ScoreDays', WHERE WHAT IT READS IS OF BULK AT MOST 1048576: true; the input reads as it did. -/
def scoreDaysUptoRow : OpenClaim := { program := "ytnbfmmnbjjeecac", sum := "c2c14a8550434778c95035dbc368b6190132089168087f901ad46972b8d55f10", func := "missive/missivelaw40.ScoreDays", spec := "scoreDays", apart := false, narrowed := true }
def ScoreDaysUptoSaid : Prop := scoreDaysUptoRow.holds Try.pinned (OpenSpec.upto scoreDaysSpec)

/-- 'missivelaw40.ScoreBounds', WHERE WHAT IT READS IS OF BULK AT MOST 1048576: true; the input reads as it did. -/
def scoreBoundsUptoRow : OpenClaim := { program := "ytnbfmmnbjjeecac", sum := "c2c14a8550434778c95035dbc368b6190132089168087f901ad46972b8d55f10", func := "missive/missivelaw40.ScoreBounds", spec := "scoreBounds", apart := false, narrowed := true }
def ScoreBoundsUptoSaid : Prop := scoreBoundsUptoRow.holds Try.pinned (OpenSpec.upto scoreBoundsSpec)

/-- 'missivelaw40.ScoreStates', WHERE WHAT IT READS IS OF BULK AT MOST 1048576: true; the input reads as it did. -/
def scoreStatesUptoRow : OpenClaim := { program := "ytnbfmmnbjjeecac", sum := "c2c14a8550434778c95035dbc368b6190132089168087f901ad46972b8d55f10", func := "missive/missivelaw40.ScoreStates", spec := "scoreStates", apart := false, narrowed := true }
def ScoreStatesUptoSaid : Prop := scoreStatesUptoRow.holds Try.pinned (OpenSpec.upto scoreStatesSpec)

/-- 'missivelaw40.ScoreHeals', WHERE WHAT IT READS IS OF BULK AT MOST 1048576: true; the input reads as it did. -/
def scoreHealsUptoRow : OpenClaim := { program := "ytnbfmmnbjjeecac", sum := "c2c14a8550434778c95035dbc368b6190132089168087f901ad46972b8d55f10", func := "missive/missivelaw40.ScoreHeals", spec := "scoreHeals", apart := false, narrowed := true }
def ScoreHealsUptoSaid : Prop := scoreHealsUptoRow.holds Try.pinned (OpenSpec.upto scoreHealsSpec)

end Rows
end Go.Proofs.Ytnbfmmnbjjeecac
