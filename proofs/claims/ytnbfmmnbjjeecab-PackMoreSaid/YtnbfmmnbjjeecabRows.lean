/-
  No cell of these rows narrows 'for every input' (looked for: loops, veiled, ifaces, maps, wideKeys, modest, calm, conditions, laid).
  DERIVED. THE GIVEN ROWS OF THIS SEAT. 4 by the template 'for every input the law returns true; each argument reads behind the call as it read before'; 0 by the template 'total and deterministic' (their statements: YtnbfmmnbjjeecabTotals.lean).
  GIVEN WITH THE SEED: the statements are not yours to turn. If you find one false, say at which input.
  Laid BY PROGRAM, IN A SANDBOX (cutbox-rows.mjs): the forced cells as the released guide's own fill.sh prints them over the translation 3164b07c0e5f816c… (all of the seat's roots in one cut). By AI agents, Wed Nov 11 2026. No macro, syntax, notation, axiom, sorry.
-/
import Derived.Test.YtnbfmmnbjjeecabChecked
import GoSem.Claim
import GoSem.ClaimJoined
import GoSem.ClaimMapViews
import Derived.JoinedTies
import Derived.KernelRfl
namespace Go.Proofs.Ytnbfmmnbjjeecab
/- THE CELL 'sum', in the pinned program and in every row, IS THE sha256 OF THE DUMP (.gsa) THAT YtnbfmmnbjjeecabProg.lean LOADS. Nothing in Lean hashes anything: it is a label: what it is worth is what the hold of that sum in a sandbox is worth. -/
noncomputable def Try.pinned : Pinned := { name := "ytnbfmmnbjjeecab", sum := "3164b07c0e5f816c87ed0a56d4f9b5adee6f79a9ab394b523ce1c3eed0321f85", checked := Try.checked }
namespace Rows
def none {H : Type} : Left H := { results := [], args := [] }

/-- 'missivelaw35.PackTells': WHATEVER THE INPUT: true; the input reads as it did. -/
def packTellsSpec : ChangeSpec := { name := "packTells", fn := fun _ => fun
  | [d1, d2, d3, d4] => { results := [.lit (.bool true)], args := [d1, d2, d3, d4] }
  | _ => none }
def packTellsRow : OpenClaim := { program := "ytnbfmmnbjjeecab", sum := "3164b07c0e5f816c87ed0a56d4f9b5adee6f79a9ab394b523ce1c3eed0321f85", func := "missive/missivelaw35.PackTells", spec := "packTells", unfollowed := true, recurses := true, apart := false }
def PackTellsSaid : Prop := packTellsRow.holds Try.pinned (OpenSpec.ofChange packTellsSpec)

/-- ITS FALSE NEIGHBOUR: 'it returns false'. Refute it at one input. -/
def packTellsWrong : ChangeSpec := { name := "packTells", fn := fun _ => fun
  | [d1, d2, d3, d4] => { results := [.lit (.bool false)], args := [d1, d2, d3, d4] }
  | _ => none }
def PackTellsWrongFalsely : Prop := packTellsRow.holds Try.pinned (OpenSpec.ofChange packTellsWrong)

/-- 'missivelaw35.PackFits': WHATEVER THE INPUT: true; the input reads as it did. -/
def packFitsSpec : ChangeSpec := { name := "packFits", fn := fun _ => fun
  | [d1, d2, d3] => { results := [.lit (.bool true)], args := [d1, d2, d3] }
  | _ => none }
def packFitsRow : OpenClaim := { program := "ytnbfmmnbjjeecab", sum := "3164b07c0e5f816c87ed0a56d4f9b5adee6f79a9ab394b523ce1c3eed0321f85", func := "missive/missivelaw35.PackFits", spec := "packFits", unfollowed := true, recurses := true, apart := false }
def PackFitsSaid : Prop := packFitsRow.holds Try.pinned (OpenSpec.ofChange packFitsSpec)

/-- ITS FALSE NEIGHBOUR: 'it returns false'. Refute it at one input. -/
def packFitsWrong : ChangeSpec := { name := "packFits", fn := fun _ => fun
  | [d1, d2, d3] => { results := [.lit (.bool false)], args := [d1, d2, d3] }
  | _ => none }
def PackFitsWrongFalsely : Prop := packFitsRow.holds Try.pinned (OpenSpec.ofChange packFitsWrong)

/-- 'missivelaw35.PackFewest': WHATEVER THE INPUT: true; the input reads as it did. -/
def packFewestSpec : ChangeSpec := { name := "packFewest", fn := fun _ => fun
  | [d1, d2, d3, d4] => { results := [.lit (.bool true)], args := [d1, d2, d3, d4] }
  | _ => none }
def packFewestRow : OpenClaim := { program := "ytnbfmmnbjjeecab", sum := "3164b07c0e5f816c87ed0a56d4f9b5adee6f79a9ab394b523ce1c3eed0321f85", func := "missive/missivelaw35.PackFewest", spec := "packFewest", unfollowed := true, recurses := true, apart := false }
def PackFewestSaid : Prop := packFewestRow.holds Try.pinned (OpenSpec.ofChange packFewestSpec)

/-- ITS FALSE NEIGHBOUR: 'it returns false'. Refute it at one input. -/
def packFewestWrong : ChangeSpec := { name := "packFewest", fn := fun _ => fun
  | [d1, d2, d3, d4] => { results := [.lit (.bool false)], args := [d1, d2, d3, d4] }
  | _ => none }
def PackFewestWrongFalsely : Prop := packFewestRow.holds Try.pinned (OpenSpec.ofChange packFewestWrong)

/-- 'missivelaw35.PackMore': WHATEVER THE INPUT: true; the input reads as it did. -/
def packMoreSpec : ChangeSpec := { name := "packMore", fn := fun _ => fun
  | [d1, d2, d3, d4, d5, d6, d7] => { results := [.lit (.bool true)], args := [d1, d2, d3, d4, d5, d6, d7] }
  | _ => none }
def packMoreRow : OpenClaim := { program := "ytnbfmmnbjjeecab", sum := "3164b07c0e5f816c87ed0a56d4f9b5adee6f79a9ab394b523ce1c3eed0321f85", func := "missive/missivelaw35.PackMore", spec := "packMore", unfollowed := true, recurses := true, apart := false }
def PackMoreSaid : Prop := packMoreRow.holds Try.pinned (OpenSpec.ofChange packMoreSpec)

/-- ITS FALSE NEIGHBOUR: 'it returns false'. Refute it at one input. -/
def packMoreWrong : ChangeSpec := { name := "packMore", fn := fun _ => fun
  | [d1, d2, d3, d4, d5, d6, d7] => { results := [.lit (.bool false)], args := [d1, d2, d3, d4, d5, d6, d7] }
  | _ => none }
def PackMoreWrongFalsely : Prop := packMoreRow.holds Try.pinned (OpenSpec.ofChange packMoreWrong)

/- THE SECOND FORM. 'bulk': how many values and letters a reading holds, each counted each time it is reached (what is shared counts as often as it is met; a slice's spare places count too). A statement '..UptoSaid' is the law's where the arguments, and the package variables that the reading takes, are together of bulk at most 1048576: NARROWER than '..Said'. Prove '..Said' where nothing that the law and all that it calls make is longer than what came in: it says more and counts as full. Else prove '..UptoSaid'. A law counts once. -/
mutual
def uptoBulk {H : Type} : DataW H → Nat
  | .lit (.string bytes) => bytes.length + 1
  | .lit _ => 1
  | .nil => 1
  | .ptr d => uptoBulk d + 1
  | .slice elems spare => uptoBulkAll elems + uptoBulkAll spare + 1
  | .agg parts => uptoBulkAll parts + 1
  | .iface _ d => uptoBulk d + 1
  | .map entries => uptoBulkEntries entries + 1
  | .held _ => 1
def uptoBulkAll {H : Type} : List (DataW H) → Nat
  | [] => 0
  | d :: r => uptoBulk d + uptoBulkAll r
def uptoBulkEntries {H : Type} : List (Lit × DataW H) → Nat
  | [] => 0
  | x :: r => uptoBulkEntry x + uptoBulkEntries r
def uptoBulkEntry {H : Type} : Lit × DataW H → Nat
  | (.string bytes, d) => bytes.length + uptoBulk d + 1
  | (_, d) => uptoBulk d + 1
 end
def uptoSmall : (H : Type) → List (DataW H) → Bool := fun _ ds => decide (uptoBulkAll ds ≤ 1048576)
def OpenSpec.upto (s : _root_.Go.ChangeSpec) : _root_.Go.OpenSpec := { _root_.Go.OpenSpec.ofChange s with cond := some uptoSmall }

/-- 'missivelaw35.PackTells', WHERE WHAT IT READS IS OF BULK AT MOST 1048576: true; the input reads as it did. -/
def packTellsUptoRow : OpenClaim := { program := "ytnbfmmnbjjeecab", sum := "3164b07c0e5f816c87ed0a56d4f9b5adee6f79a9ab394b523ce1c3eed0321f85", func := "missive/missivelaw35.PackTells", spec := "packTells", unfollowed := true, recurses := true, apart := false, narrowed := true }
def PackTellsUptoSaid : Prop := packTellsUptoRow.holds Try.pinned (OpenSpec.upto packTellsSpec)

/-- 'missivelaw35.PackFits', WHERE WHAT IT READS IS OF BULK AT MOST 1048576: true; the input reads as it did. -/
def packFitsUptoRow : OpenClaim := { program := "ytnbfmmnbjjeecab", sum := "3164b07c0e5f816c87ed0a56d4f9b5adee6f79a9ab394b523ce1c3eed0321f85", func := "missive/missivelaw35.PackFits", spec := "packFits", unfollowed := true, recurses := true, apart := false, narrowed := true }
def PackFitsUptoSaid : Prop := packFitsUptoRow.holds Try.pinned (OpenSpec.upto packFitsSpec)

/-- 'missivelaw35.PackFewest', WHERE WHAT IT READS IS OF BULK AT MOST 1048576: true; the input reads as it did. -/
def packFewestUptoRow : OpenClaim := { program := "ytnbfmmnbjjeecab", sum := "3164b07c0e5f816c87ed0a56d4f9b5adee6f79a9ab394b523ce1c3eed0321f85", func := "missive/missivelaw35.PackFewest", spec := "packFewest", unfollowed := true, recurses := true, apart := false, narrowed := true }
def PackFewestUptoSaid : Prop := packFewestUptoRow.holds Try.pinned (OpenSpec.upto packFewestSpec)

/-- 'missivelaw35.PackMore', WHERE WHAT IT READS IS OF BULK AT MOST 1048576: true; the input reads as it did. -/
def packMoreUptoRow : OpenClaim := { program := "ytnbfmmnbjjeecab", sum := "3164b07c0e5f816c87ed0a56d4f9b5adee6f79a9ab394b523ce1c3eed0321f85", func := "missive/missivelaw35.PackMore", spec := "packMore", unfollowed := true, recurses := true, apart := false, narrowed := true }
def PackMoreUptoSaid : Prop := packMoreUptoRow.holds Try.pinned (OpenSpec.upto packMoreSpec)

end Rows
end Go.Proofs.Ytnbfmmnbjjeecab
