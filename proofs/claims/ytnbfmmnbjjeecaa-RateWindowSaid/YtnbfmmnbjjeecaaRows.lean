/-
  No cell of these rows narrows 'for every input' (looked for: loops, veiled, ifaces, maps, wideKeys, modest, calm, conditions, laid).
  DERIVED. THE GIVEN ROWS OF THIS SEAT. 4 by the template 'for every input the law returns true; each argument reads behind the call as it read before'; 0 by the template 'total and deterministic' (their statements: YtnbfmmnbjjeecaaTotals.lean).
  GIVEN WITH THE SEED: the statements are not yours to turn. If you find one false, say at which input.
  Laid BY PROGRAM, IN A SANDBOX (cutbox-rows.mjs): the forced cells as the released guide's own fill.sh prints them over the translation df82152574dbf7f4… (all of the seat's roots in one cut). By AI agents, Wed Nov 11 2026. No macro, syntax, notation, axiom, sorry.
-/
import Derived.Test.YtnbfmmnbjjeecaaChecked
import GoSem.Claim
import GoSem.ClaimJoined
import GoSem.ClaimMapViews
import Derived.JoinedTies
import Derived.KernelRfl
namespace Go.Proofs.Ytnbfmmnbjjeecaa
/- THE CELL 'sum', in the pinned program and in every row, IS THE sha256 OF THE DUMP (.gsa) THAT YtnbfmmnbjjeecaaProg.lean LOADS. Nothing in Lean hashes anything: it is a label: what it is worth is what the hold of that sum in a sandbox is worth. -/
noncomputable def Try.pinned : Pinned := { name := "ytnbfmmnbjjeecaa", sum := "df82152574dbf7f4524473aac1a991a9a136a521f5ec933a686f7506efa0f60a", checked := Try.checked }
namespace Rows
def none {H : Type} : Left H := { results := [], args := [] }

/-- 'missivelaw27.RateWindow': WHATEVER THE INPUT: true; the input reads as it did. -/
def rateWindowSpec : ChangeSpec := { name := "rateWindow", fn := fun _ => fun
  | [d1, d2, d3, d4] => { results := [.lit (.bool true)], args := [d1, d2, d3, d4] }
  | _ => none }
def rateWindowRow : OpenClaim := { program := "ytnbfmmnbjjeecaa", sum := "df82152574dbf7f4524473aac1a991a9a136a521f5ec933a686f7506efa0f60a", func := "missive/missivelaw27.RateWindow", spec := "rateWindow", apart := false }
def RateWindowSaid : Prop := rateWindowRow.holds Try.pinned (OpenSpec.ofChange rateWindowSpec)

/-- ITS FALSE NEIGHBOUR: 'it returns false'. Refute it at one input. -/
def rateWindowWrong : ChangeSpec := { name := "rateWindow", fn := fun _ => fun
  | [d1, d2, d3, d4] => { results := [.lit (.bool false)], args := [d1, d2, d3, d4] }
  | _ => none }
def RateWindowWrongFalsely : Prop := rateWindowRow.holds Try.pinned (OpenSpec.ofChange rateWindowWrong)

/-- 'missivelaw27.RateWaits': WHATEVER THE INPUT: true; the input reads as it did. -/
def rateWaitsSpec : ChangeSpec := { name := "rateWaits", fn := fun _ => fun
  | [d1, d2, d3, d4] => { results := [.lit (.bool true)], args := [d1, d2, d3, d4] }
  | _ => none }
def rateWaitsRow : OpenClaim := { program := "ytnbfmmnbjjeecaa", sum := "df82152574dbf7f4524473aac1a991a9a136a521f5ec933a686f7506efa0f60a", func := "missive/missivelaw27.RateWaits", spec := "rateWaits", apart := false }
def RateWaitsSaid : Prop := rateWaitsRow.holds Try.pinned (OpenSpec.ofChange rateWaitsSpec)

/-- ITS FALSE NEIGHBOUR: 'it returns false'. Refute it at one input. -/
def rateWaitsWrong : ChangeSpec := { name := "rateWaits", fn := fun _ => fun
  | [d1, d2, d3, d4] => { results := [.lit (.bool false)], args := [d1, d2, d3, d4] }
  | _ => none }
def RateWaitsWrongFalsely : Prop := rateWaitsRow.holds Try.pinned (OpenSpec.ofChange rateWaitsWrong)

/-- 'missivelaw27.RateLeft': WHATEVER THE INPUT: true; the input reads as it did. -/
def rateLeftSpec : ChangeSpec := { name := "rateLeft", fn := fun _ => fun
  | [d1, d2, d3, d4, d5] => { results := [.lit (.bool true)], args := [d1, d2, d3, d4, d5] }
  | _ => none }
def rateLeftRow : OpenClaim := { program := "ytnbfmmnbjjeecaa", sum := "df82152574dbf7f4524473aac1a991a9a136a521f5ec933a686f7506efa0f60a", func := "missive/missivelaw27.RateLeft", spec := "rateLeft", apart := false }
def RateLeftSaid : Prop := rateLeftRow.holds Try.pinned (OpenSpec.ofChange rateLeftSpec)

/-- ITS FALSE NEIGHBOUR: 'it returns false'. Refute it at one input. -/
def rateLeftWrong : ChangeSpec := { name := "rateLeft", fn := fun _ => fun
  | [d1, d2, d3, d4, d5] => { results := [.lit (.bool false)], args := [d1, d2, d3, d4, d5] }
  | _ => none }
def RateLeftWrongFalsely : Prop := rateLeftRow.holds Try.pinned (OpenSpec.ofChange rateLeftWrong)

/-- 'missivelaw27.RateMore': WHATEVER THE INPUT: true; the input reads as it did. -/
def rateMoreSpec : ChangeSpec := { name := "rateMore", fn := fun _ => fun
  | [d1, d2, d3, d4, d5, d6, d7] => { results := [.lit (.bool true)], args := [d1, d2, d3, d4, d5, d6, d7] }
  | _ => none }
def rateMoreRow : OpenClaim := { program := "ytnbfmmnbjjeecaa", sum := "df82152574dbf7f4524473aac1a991a9a136a521f5ec933a686f7506efa0f60a", func := "missive/missivelaw27.RateMore", spec := "rateMore", apart := false }
def RateMoreSaid : Prop := rateMoreRow.holds Try.pinned (OpenSpec.ofChange rateMoreSpec)

/-- ITS FALSE NEIGHBOUR: 'it returns false'. Refute it at one input. -/
def rateMoreWrong : ChangeSpec := { name := "rateMore", fn := fun _ => fun
  | [d1, d2, d3, d4, d5, d6, d7] => { results := [.lit (.bool false)], args := [d1, d2, d3, d4, d5, d6, d7] }
  | _ => none }
def RateMoreWrongFalsely : Prop := rateMoreRow.holds Try.pinned (OpenSpec.ofChange rateMoreWrong)

/- THE SECOND FORM. 'bulk': how many values and letters a reading holds, each counted each time it is reached (what is shared counts as often as it is met; a slice's spare places count too). A statement '..UptoSaid' is the law's where the arguments, and the package variables that the reading takes, are together of bulk at most 1048576: NARROWER than '..Said'. Prove '..Said' where nothing that the law and all that it calls make is longer than what came in: it says more and counts as full. Else prove '..UptoSaid'. A law counts once. -/
mutual
def uptoBulk {H : Type} : DataW H → Nat
  | .lit (.string bytes) => bytes.length + 1
  | .lit _ => 1
  | .nil => 1
  | .ptr d => uptoBulk d + 1
  | .slice elems spare => uptoBulkAll elems + uptoBulkAll spare + 1
  | .agg parts => uptoBulkAll parts + 1
  | .iface _ d => uptoBulk d + 1
  | .map entries => uptoBulkEntries entries + 1
  | .held _ => 1
def uptoBulkAll {H : Type} : List (DataW H) → Nat
  | [] => 0
  | d :: r => uptoBulk d + uptoBulkAll r
def uptoBulkEntries {H : Type} : List (Lit × DataW H) → Nat
  | [] => 0
  | x :: r => uptoBulkEntry x + uptoBulkEntries r
def uptoBulkEntry {H : Type} : Lit × DataW H → Nat
  | (.string bytes, d) => bytes.length + uptoBulk d + 1
  | (_, d) => uptoBulk d + 1
 end
def uptoSmall : (H : Type) → List (DataW H) → Bool := fun _ ds => decide (uptoBulkAll ds ≤ 1048576)
def OpenSpec.upto (s : _root_.Go.ChangeSpec) : _root_.Go.OpenSpec := { _root_.Go.OpenSpec.ofChange s with cond := some uptoSmall }

/-- 'missivelaw27.RateWindow', WHERE WHAT IT READS IS OF BULK AT MOST 1048576: true; the input reads as it did. -/
def rateWindowUptoRow : OpenClaim := { program := "ytnbfmmnbjjeecaa", sum := "df82152574dbf7f4524473aac1a991a9a136a521f5ec933a686f7506efa0f60a", func := "missive/missivelaw27.RateWindow", spec := "rateWindow", apart := false, narrowed := true }
def RateWindowUptoSaid : Prop := rateWindowUptoRow.holds Try.pinned (OpenSpec.upto rateWindowSpec)

/-- 'missivelaw27.RateWaits', WHERE WHAT IT READS IS OF BULK AT MOST 1048576: true; the input reads as it did. -/
def rateWaitsUptoRow : OpenClaim := { program := "ytnbfmmnbjjeecaa", sum := "df82152574dbf7f4524473aac1a991a9a136a521f5ec933a686f7506efa0f60a", func := "missive/missivelaw27.RateWaits", spec := "rateWaits", apart := false, narrowed := true }
def RateWaitsUptoSaid : Prop := rateWaitsUptoRow.holds Try.pinned (OpenSpec.upto rateWaitsSpec)

/-- 'missivelaw27.RateLeft', WHERE WHAT IT READS IS OF BULK AT MOST 1048576: true; the input reads as it did. -/
def rateLeftUptoRow : OpenClaim := { program := "ytnbfmmnbjjeecaa", sum := "df82152574dbf7f4524473aac1a991a9a136a521f5ec933a686f7506efa0f60a", func := "missive/missivelaw27.RateLeft", spec := "rateLeft", apart := false, narrowed := true }
def RateLeftUptoSaid : Prop := rateLeftUptoRow.holds Try.pinned (OpenSpec.upto rateLeftSpec)

/-- 'missivelaw27.RateMore', WHERE WHAT IT READS IS OF BULK AT MOST 1048576: true; the input reads as it did. -/
def rateMoreUptoRow : OpenClaim := { program := "ytnbfmmnbjjeecaa", sum := "df82152574dbf7f4524473aac1a991a9a136a521f5ec933a686f7506efa0f60a", func := "missive/missivelaw27.RateMore", spec := "rateMore", apart := false, narrowed := true }
def RateMoreUptoSaid : Prop := rateMoreUptoRow.holds Try.pinned (OpenSpec.upto rateMoreSpec)

end Rows
end Go.Proofs.Ytnbfmmnbjjeecaa
