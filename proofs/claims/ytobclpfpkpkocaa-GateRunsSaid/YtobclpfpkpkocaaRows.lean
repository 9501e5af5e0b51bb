/-
  No cell of these rows narrows 'for every input' (looked for: loops, veiled, ifaces, maps, wideKeys, modest, calm, conditions, laid).
  DERIVED. THE GIVEN ROWS OF THIS SEAT. 5 by the template 'for every input the law returns true; each argument reads behind the call as it read before'; 0 by the template 'total and deterministic' (their statements: YtobclpfpkpkocaaTotals.lean).
  GIVEN WITH THE SEED: the statements are not yours to turn. If you find one false, say at which input.
  Laid BY PROGRAM, IN A SANDBOX (cutbox-rows.mjs): the forced cells as the released guide's own fill.sh prints them over the translation 88d5871a23eca1c9… (all of the seat's roots in one cut). By AI agents, Wed Nov 11 2026. No macro, syntax, notation, axiom, sorry.
-/
import Derived.Test.YtobclpfpkpkocaaChecked
import GoSem.Claim
import GoSem.ClaimJoined
import GoSem.ClaimMapViews
import Derived.JoinedTies
import Derived.KernelRfl
namespace Go.Proofs.Ytobclpfpkpkocaa
/- THE CELL 'sum', in the pinned program and in every row, IS THE sha256 OF THE DUMP (.gsa) THAT YtobclpfpkpkocaaProg.lean LOADS. Nothing in Lean hashes anything: it is a label: what it is worth is what the hold of that sum in a sandbox is worth. -/
noncomputable def Try.pinned : Pinned := { name := "ytobclpfpkpkocaa", sum := "88d5871a23eca1c987cc92e873841aafaec13e475e49755c888168a5887f76f8", checked := Try.checked }
namespace Rows
def none {H : Type} : Left H := { results := [], args := [] }

/-- 'enthymemelaw15.GateClauses': WHATEVER THE INPUT: true; the input reads as it did. -/
def gateClausesSpec : ChangeSpec := { name := "gateClauses", fn := fun _ => fun
  | [d1, d2, d3, d4] => { results := [.lit (.bool true)], args := [d1, d2, d3, d4] }
  | _ => none }
def gateClausesRow : OpenClaim := { program := "ytobclpfpkpkocaa", sum := "88d5871a23eca1c987cc92e873841aafaec13e475e49755c888168a5887f76f8", func := "enthymeme/enthymemelaw15.GateClauses", spec := "gateClauses", unfollowed := true, recurses := true, apart := false }
def GateClausesSaid : Prop := gateClausesRow.holds Try.pinned (OpenSpec.ofChange gateClausesSpec)

/-- ITS FALSE NEIGHBOUR: 'it returns false'. Refute it at one input. -/
def gateClausesWrong : ChangeSpec := { name := "gateClauses", fn := fun _ => fun
  | [d1, d2, d3, d4] => { results := [.lit (.bool false)], args := [d1, d2, d3, d4] }
  | _ => none }
def GateClausesWrongFalsely : Prop := gateClausesRow.holds Try.pinned (OpenSpec.ofChange gateClausesWrong)

/-- 'enthymemelaw15.GateValues': WHATEVER THE INPUT: true; the input reads as it did. -/
def gateValuesSpec : ChangeSpec := { name := "gateValues", fn := fun _ => fun
  | [d1, d2] => { results := [.lit (.bool true)], args := [d1, d2] }
  | _ => none }
def gateValuesRow : OpenClaim := { program := "ytobclpfpkpkocaa", sum := "88d5871a23eca1c987cc92e873841aafaec13e475e49755c888168a5887f76f8", func := "enthymeme/enthymemelaw15.GateValues", spec := "gateValues", unfollowed := true, recurses := true, apart := false }
def GateValuesSaid : Prop := gateValuesRow.holds Try.pinned (OpenSpec.ofChange gateValuesSpec)

/-- ITS FALSE NEIGHBOUR: 'it returns false'. Refute it at one input. -/
def gateValuesWrong : ChangeSpec := { name := "gateValues", fn := fun _ => fun
  | [d1, d2] => { results := [.lit (.bool false)], args := [d1, d2] }
  | _ => none }
def GateValuesWrongFalsely : Prop := gateValuesRow.holds Try.pinned (OpenSpec.ofChange gateValuesWrong)

/-- 'enthymemelaw15.GateDefines': WHATEVER THE INPUT: true; the input reads as it did. -/
def gateDefinesSpec : ChangeSpec := { name := "gateDefines", fn := fun _ => fun
  | [d] => { results := [.lit (.bool true)], args := [d] }
  | _ => none }
def gateDefinesRow : OpenClaim := { program := "ytobclpfpkpkocaa", sum := "88d5871a23eca1c987cc92e873841aafaec13e475e49755c888168a5887f76f8", func := "enthymeme/enthymemelaw15.GateDefines", spec := "gateDefines", unfollowed := true, recurses := true, apart := false }
def GateDefinesSaid : Prop := gateDefinesRow.holds Try.pinned (OpenSpec.ofChange gateDefinesSpec)

/-- ITS FALSE NEIGHBOUR: 'it returns false'. Refute it at one input. -/
def gateDefinesWrong : ChangeSpec := { name := "gateDefines", fn := fun _ => fun
  | [d] => { results := [.lit (.bool false)], args := [d] }
  | _ => none }
def GateDefinesWrongFalsely : Prop := gateDefinesRow.holds Try.pinned (OpenSpec.ofChange gateDefinesWrong)

/-- 'enthymemelaw15.GateRuns': WHATEVER THE INPUT: true; the input reads as it did. -/
def gateRunsSpec : ChangeSpec := { name := "gateRuns", fn := fun _ => fun
  | [d1, d2, d3, d4, d5] => { results := [.lit (.bool true)], args := [d1, d2, d3, d4, d5] }
  | _ => none }
def gateRunsRow : OpenClaim := { program := "ytobclpfpkpkocaa", sum := "88d5871a23eca1c987cc92e873841aafaec13e475e49755c888168a5887f76f8", func := "enthymeme/enthymemelaw15.GateRuns", spec := "gateRuns", unfollowed := true, recurses := true, apart := false }
def GateRunsSaid : Prop := gateRunsRow.holds Try.pinned (OpenSpec.ofChange gateRunsSpec)

/-- ITS FALSE NEIGHBOUR: 'it returns false'. Refute it at one input. -/
def gateRunsWrong : ChangeSpec := { name := "gateRuns", fn := fun _ => fun
  | [d1, d2, d3, d4, d5] => { results := [.lit (.bool false)], args := [d1, d2, d3, d4, d5] }
  | _ => none }
def GateRunsWrongFalsely : Prop := gateRunsRow.holds Try.pinned (OpenSpec.ofChange gateRunsWrong)

/-- 'enthymemelaw15.GateForces': WHATEVER THE INPUT: true; the input reads as it did. -/
def gateForcesSpec : ChangeSpec := { name := "gateForces", fn := fun _ => fun
  | [d] => { results := [.lit (.bool true)], args := [d] }
  | _ => none }
def gateForcesRow : OpenClaim := { program := "ytobclpfpkpkocaa", sum := "88d5871a23eca1c987cc92e873841aafaec13e475e49755c888168a5887f76f8", func := "enthymeme/enthymemelaw15.GateForces", spec := "gateForces", unfollowed := true, recurses := true, apart := false }
def GateForcesSaid : Prop := gateForcesRow.holds Try.pinned (OpenSpec.ofChange gateForcesSpec)

/-- ITS FALSE NEIGHBOUR: 'it returns false'. Refute it at one input. -/
def gateForcesWrong : ChangeSpec := { name := "gateForces", fn := fun _ => fun
  | [d] => { results := [.lit (.bool false)], args := [d] }
  | _ => none }
def GateForcesWrongFalsely : Prop := gateForcesRow.holds Try.pinned (OpenSpec.ofChange gateForcesWrong)

/- THE SECOND FORM. 'bulk': how many values and letters a reading holds, each counted each time it is reached (what is shared counts as often as it is met; a slice's spare places count too). A statement '..UptoSaid' is the law's where the arguments, and the package variables that the reading takes, are together of bulk at most 1048576: NARROWER than '..Said'. Prove '..Said' where nothing that the law and all that it calls make is longer than what came in: it says more and counts as full. Else prove '..UptoSaid'. A law counts once. -/
mutual
def uptoBulk {H : Type} : DataW H → Nat
  | .lit (.string bytes) => bytes.length + 1
  | .lit _ => 1
  | .nil => 1
  | .ptr d => uptoBulk d + 1
  | .slice elems spare => uptoBulkAll elems + uptoBulkAll spare + 1
  | .agg parts => uptoBulkAll parts + 1
  | .iface _ d => uptoBulk d + 1
  | .map entries => uptoBulkEntries entries + 1
  | .held _ => 1
def uptoBulkAll {H : Type} : List (DataW H) → Nat
  | [] => 0
  | d :: r => uptoBulk d + uptoBulkAll r
def uptoBulkEntries {H : Type} : List (Lit × DataW H) → Nat
  | [] => 0
  | x :: r => uptoBulkEntry x + uptoBulkEntries r
def uptoBulkEntry {H : Type} : Lit × DataW H → Nat
  | (.string bytes, d) => bytes.length + uptoBulk d + 1
  | (_, d) => uptoBulk d + 1
 end
def uptoSmall : (H : Type) → List (DataW H) → Bool := fun _ ds => decide (uptoBulkAll ds ≤ 1048576)
def OpenSpec.upto (s : _root_.Go.ChangeSpec) : _root_.Go.OpenSpec := { _root_.Go.OpenSpec.ofChange s with cond := some uptoSmall }

/-- 'enthymemelaw15.GateClauses', WHERE WHAT IT READS IS OF BULK AT MOST 1048576: true; the input reads as it did. -/
def gateClausesUptoRow : OpenClaim := { program := "ytobclpfpkpkocaa", sum := "88d5871a23eca1c987cc92e873841aafaec13e475e49755c888168a5887f76f8", func := "enthymeme/enthymemelaw15.GateClauses", spec := "gateClauses", unfollowed := true, recurses := true, apart := false, narrowed := true }
def GateClausesUptoSaid : Prop := gateClausesUptoRow.holds Try.pinned (OpenSpec.upto gateClausesSpec)

/-- 'enthymemelaw15.GateValues', WHERE WHAT IT READS IS OF BULK AT MOST 1048576: true; the input reads as it did. -/
def gateValuesUptoRow : OpenClaim := { program := "ytobclpfpkpkocaa", sum := "88d5871a23eca1c987cc92e873841aafaec13e475e49755c888168a5887f76f8", func := "enthymeme/enthymemelaw15.GateValues", spec := "gateValues", unfollowed := true, recurses := true, apart := false, narrowed := true }
def GateValuesUptoSaid : Prop := gateValuesUptoRow.holds Try.pinned (OpenSpec.upto gateValuesSpec)

/-- 'enthymemelaw15.GateDefines', WHERE WHAT IT READS IS OF BULK AT MOST 1048576: true; the input reads as it did. -/
def gateDefinesUptoRow : OpenClaim := { program := "ytobclpfpkpkocaa", sum := "88d5871a23eca1c987cc92e873841aafaec13e475e49755c888168a5887f76f8", func := "enthymeme/enthymemelaw15.GateDefines", spec := "gateDefines", unfollowed := true, recurses := true, apart := false, narrowed := true }
def GateDefinesUptoSaid : Prop := gateDefinesUptoRow.holds Try.pinned (OpenSpec.upto gateDefinesSpec)

/-- 'enthymemelaw15.GateRuns', WHERE WHAT IT READS IS OF BULK AT MOST 1048576: true; the input reads as it did. -/
def gateRunsUptoRow : OpenClaim := { program := "ytobclpfpkpkocaa", sum := "88d5871a23eca1c987cc92e873841aafaec13e475e49755c888168a5887f76f8", func := "enthymeme/enthymemelaw15.GateRuns", spec := "gateRuns", unfollowed := true, recurses := true, apart := false, narrowed := true }
def GateRunsUptoSaid : Prop := gateRunsUptoRow.holds Try.pinned (OpenSpec.upto gateRunsSpec)

/-- 'enthymemelaw15.GateForces', WHERE WHAT IT READS IS OF BULK AT MOST 1048576: true; the input reads as it did. -/
def gateForcesUptoRow : OpenClaim := { program := "ytobclpfpkpkocaa", sum := "88d5871a23eca1c987cc92e873841aafaec13e475e49755c888168a5887f76f8", func := "enthymeme/enthymemelaw15.GateForces", spec := "gateForces", unfollowed := true, recurses := true, apart := false, narrowed := true }
def GateForcesUptoSaid : Prop := gateForcesUptoRow.holds Try.pinned (OpenSpec.upto gateForcesSpec)

end Rows
end Go.Proofs.Ytobclpfpkpkocaa
