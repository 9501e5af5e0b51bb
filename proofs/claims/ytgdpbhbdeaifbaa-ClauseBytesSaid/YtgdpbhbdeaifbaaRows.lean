/-
  No cell of these rows narrows 'for every input' (looked for: loops, veiled, ifaces, maps, wideKeys, modest, calm, conditions, laid).
  DERIVED. THE GIVEN ROWS OF THIS SEAT. 8 by the template 'for every input the law returns true; each argument reads behind the call as it read before'; 0 by the template 'total and deterministic' (their statements: YtgdpbhbdeaifbaaTotals.lean).
  GIVEN WITH THE SEED: the statements are not yours to turn. If you find one false, say at which input.
  Laid BY PROGRAM, IN A SANDBOX (cutbox-rows.mjs): the forced cells as the released guide's own fill.sh prints them over the translation 103805fa6c5d0762… (all of the seat's roots in one cut). By AI agents, Wed Nov 11 2026. No macro, syntax, notation, axiom, sorry.
-/
import Derived.Test.YtgdpbhbdeaifbaaChecked
import GoSem.Claim
import GoSem.ClaimJoined
import GoSem.ClaimMapViews
import Derived.JoinedTies
import Derived.KernelRfl
namespace Go.Proofs.Ytgdpbhbdeaifbaa
/- THE CELL 'sum', in the pinned program and in every row, IS THE sha256 OF THE DUMP (.gsa) THAT YtgdpbhbdeaifbaaProg.lean LOADS. Nothing in Lean hashes anything: it is a label: what it is worth is what the hold of that sum in a sandbox is worth. -/
noncomputable def Try.pinned : Pinned := { name := "ytgdpbhbdeaifbaa", sum := "103805fa6c5d0762e700fc8de2043994cdd7e719386ff2eb764562e62046a8bd", checked := Try.checked }
namespace Rows
def none {H : Type} : Left H := { results := [], args := [] }

/-- 'enthymemelaw14.ClauseChains': WHATEVER THE INPUT: true; the input reads as it did. -/
def clauseChainsSpec : ChangeSpec := { name := "clauseChains", fn := fun _ => fun
  | [d1, d2, d3, d4] => { results := [.lit (.bool true)], args := [d1, d2, d3, d4] }
  | _ => none }
def clauseChainsRow : OpenClaim := { program := "ytgdpbhbdeaifbaa", sum := "103805fa6c5d0762e700fc8de2043994cdd7e719386ff2eb764562e62046a8bd", func := "enthymeme/enthymemelaw14.ClauseChains", spec := "clauseChains", unfollowed := true, recurses := true, apart := false }
def ClauseChainsSaid : Prop := clauseChainsRow.holds Try.pinned (OpenSpec.ofChange clauseChainsSpec)

/-- ITS FALSE NEIGHBOUR: 'it returns false'. Refute it at one input. -/
def clauseChainsWrong : ChangeSpec := { name := "clauseChains", fn := fun _ => fun
  | [d1, d2, d3, d4] => { results := [.lit (.bool false)], args := [d1, d2, d3, d4] }
  | _ => none }
def ClauseChainsWrongFalsely : Prop := clauseChainsRow.holds Try.pinned (OpenSpec.ofChange clauseChainsWrong)

/-- 'enthymemelaw14.ClauseForms': WHATEVER THE INPUT: true; the input reads as it did. -/
def clauseFormsSpec : ChangeSpec := { name := "clauseForms", fn := fun _ => fun
  | [d1, d2] => { results := [.lit (.bool true)], args := [d1, d2] }
  | _ => none }
def clauseFormsRow : OpenClaim := { program := "ytgdpbhbdeaifbaa", sum := "103805fa6c5d0762e700fc8de2043994cdd7e719386ff2eb764562e62046a8bd", func := "enthymeme/enthymemelaw14.ClauseForms", spec := "clauseForms", unfollowed := true, recurses := true, apart := false }
def ClauseFormsSaid : Prop := clauseFormsRow.holds Try.pinned (OpenSpec.ofChange clauseFormsSpec)

/-- ITS FALSE NEIGHBOUR: 'it returns false'. Refute it at one input. -/
def clauseFormsWrong : ChangeSpec := { name := "clauseForms", fn := fun _ => fun
  | [d1, d2] => { results := [.lit (.bool false)], args := [d1, d2] }
  | _ => none }
def ClauseFormsWrongFalsely : Prop := clauseFormsRow.holds Try.pinned (OpenSpec.ofChange clauseFormsWrong)

/-- 'enthymemelaw14.ClauseResolves': WHATEVER THE INPUT: true; the input reads as it did. -/
def clauseResolvesSpec : ChangeSpec := { name := "clauseResolves", fn := fun _ => fun
  | [d1, d2, d3] => { results := [.lit (.bool true)], args := [d1, d2, d3] }
  | _ => none }
def clauseResolvesRow : OpenClaim := { program := "ytgdpbhbdeaifbaa", sum := "103805fa6c5d0762e700fc8de2043994cdd7e719386ff2eb764562e62046a8bd", func := "enthymeme/enthymemelaw14.ClauseResolves", spec := "clauseResolves", unfollowed := true, recurses := true, apart := false }
def ClauseResolvesSaid : Prop := clauseResolvesRow.holds Try.pinned (OpenSpec.ofChange clauseResolvesSpec)

/-- ITS FALSE NEIGHBOUR: 'it returns false'. Refute it at one input. -/
def clauseResolvesWrong : ChangeSpec := { name := "clauseResolves", fn := fun _ => fun
  | [d1, d2, d3] => { results := [.lit (.bool false)], args := [d1, d2, d3] }
  | _ => none }
def ClauseResolvesWrongFalsely : Prop := clauseResolvesRow.holds Try.pinned (OpenSpec.ofChange clauseResolvesWrong)

/-- 'enthymemelaw14.ClauseSteps': WHATEVER THE INPUT: true; the input reads as it did. -/
def clauseStepsSpec : ChangeSpec := { name := "clauseSteps", fn := fun _ => fun
  | [d] => { results := [.lit (.bool true)], args := [d] }
  | _ => none }
def clauseStepsRow : OpenClaim := { program := "ytgdpbhbdeaifbaa", sum := "103805fa6c5d0762e700fc8de2043994cdd7e719386ff2eb764562e62046a8bd", func := "enthymeme/enthymemelaw14.ClauseSteps", spec := "clauseSteps", unfollowed := true, recurses := true, apart := false }
def ClauseStepsSaid : Prop := clauseStepsRow.holds Try.pinned (OpenSpec.ofChange clauseStepsSpec)

/-- ITS FALSE NEIGHBOUR: 'it returns false'. Refute it at one input. -/
def clauseStepsWrong : ChangeSpec := { name := "clauseSteps", fn := fun _ => fun
  | [d] => { results := [.lit (.bool false)], args := [d] }
  | _ => none }
def ClauseStepsWrongFalsely : Prop := clauseStepsRow.holds Try.pinned (OpenSpec.ofChange clauseStepsWrong)

/-- 'enthymemelaw14.ClauseState': WHATEVER THE INPUT: true; the input reads as it did. -/
def clauseStateSpec : ChangeSpec := { name := "clauseState", fn := fun _ => fun
  | [d1, d2, d3, d4] => { results := [.lit (.bool true)], args := [d1, d2, d3, d4] }
  | _ => none }
def clauseStateRow : OpenClaim := { program := "ytgdpbhbdeaifbaa", sum := "103805fa6c5d0762e700fc8de2043994cdd7e719386ff2eb764562e62046a8bd", func := "enthymeme/enthymemelaw14.ClauseState", spec := "clauseState", unfollowed := true, recurses := true, apart := false }
def ClauseStateSaid : Prop := clauseStateRow.holds Try.pinned (OpenSpec.ofChange clauseStateSpec)

/-- ITS FALSE NEIGHBOUR: 'it returns false'. Refute it at one input. -/
def clauseStateWrong : ChangeSpec := { name := "clauseState", fn := fun _ => fun
  | [d1, d2, d3, d4] => { results := [.lit (.bool false)], args := [d1, d2, d3, d4] }
  | _ => none }
def ClauseStateWrongFalsely : Prop := clauseStateRow.holds Try.pinned (OpenSpec.ofChange clauseStateWrong)

/-- 'enthymemelaw14.ClauseSound': WHATEVER THE INPUT: true; the input reads as it did. -/
def clauseSoundSpec : ChangeSpec := { name := "clauseSound", fn := fun _ => fun
  | [d1, d2] => { results := [.lit (.bool true)], args := [d1, d2] }
  | _ => none }
def clauseSoundRow : OpenClaim := { program := "ytgdpbhbdeaifbaa", sum := "103805fa6c5d0762e700fc8de2043994cdd7e719386ff2eb764562e62046a8bd", func := "enthymeme/enthymemelaw14.ClauseSound", spec := "clauseSound", unfollowed := true, recurses := true, apart := false }
def ClauseSoundSaid : Prop := clauseSoundRow.holds Try.pinned (OpenSpec.ofChange clauseSoundSpec)

/-- ITS FALSE NEIGHBOUR: 'it returns false'. Refute it at one input. -/
def clauseSoundWrong : ChangeSpec := { name := "clauseSound", fn := fun _ => fun
  | [d1, d2] => { results := [.lit (.bool false)], args := [d1, d2] }
  | _ => none }
def ClauseSoundWrongFalsely : Prop := clauseSoundRow.holds Try.pinned (OpenSpec.ofChange clauseSoundWrong)

/-- 'enthymemelaw14.ClauseSame': WHATEVER THE INPUT: true; the input reads as it did. -/
def clauseSameSpec : ChangeSpec := { name := "clauseSame", fn := fun _ => fun
  | [d] => { results := [.lit (.bool true)], args := [d] }
  | _ => none }
def clauseSameRow : OpenClaim := { program := "ytgdpbhbdeaifbaa", sum := "103805fa6c5d0762e700fc8de2043994cdd7e719386ff2eb764562e62046a8bd", func := "enthymeme/enthymemelaw14.ClauseSame", spec := "clauseSame", unfollowed := true, recurses := true, apart := false }
def ClauseSameSaid : Prop := clauseSameRow.holds Try.pinned (OpenSpec.ofChange clauseSameSpec)

/-- ITS FALSE NEIGHBOUR: 'it returns false'. Refute it at one input. -/
def clauseSameWrong : ChangeSpec := { name := "clauseSame", fn := fun _ => fun
  | [d] => { results := [.lit (.bool false)], args := [d] }
  | _ => none }
def ClauseSameWrongFalsely : Prop := clauseSameRow.holds Try.pinned (OpenSpec.ofChange clauseSameWrong)

/-- 'enthymemelaw14.ClauseBytes': WHATEVER THE INPUT: true; the input reads as it did. -/
def clauseBytesSpec : ChangeSpec := { name := "clauseBytes", fn := fun _ => fun
  | [d1, d2, d3, d4, d5] => { results := [.lit (.bool true)], args := [d1, d2, d3, d4, d5] }
  | _ => none }
def clauseBytesRow : OpenClaim := { program := "ytgdpbhbdeaifbaa", sum := "103805fa6c5d0762e700fc8de2043994cdd7e719386ff2eb764562e62046a8bd", func := "enthymeme/enthymemelaw14.ClauseBytes", spec := "clauseBytes", unfollowed := true, recurses := true, apart := false }
def ClauseBytesSaid : Prop := clauseBytesRow.holds Try.pinned (OpenSpec.ofChange clauseBytesSpec)

/-- ITS FALSE NEIGHBOUR: 'it returns false'. Refute it at one input. -/
def clauseBytesWrong : ChangeSpec := { name := "clauseBytes", fn := fun _ => fun
  | [d1, d2, d3, d4, d5] => { results := [.lit (.bool false)], args := [d1, d2, d3, d4, d5] }
  | _ => none }
def ClauseBytesWrongFalsely : Prop := clauseBytesRow.holds Try.pinned (OpenSpec.ofChange clauseBytesWrong)

/- THE SECOND FORM. 'bulk': how many values and letters a reading holds, each counted each time it is reached (what is shared counts as often as it is met; a slice's spare places count too). A statement '..UptoSaid' is the law's where the arguments, and the package variables that the reading takes, are together of bulk at most 1048576: NARROWER than '..Said'. Prove '..Said' where nothing that the law and all that it calls make is longer than what came in: it says more and counts as full. Else prove '..UptoSaid'. A law counts once. -/
mutual
def uptoBulk {H : Type} : DataW H → Nat
  | .lit (.string bytes) => bytes.length + 1
  | .lit _ => 1
  | .nil => 1
  | .ptr d => uptoBulk d + 1
  | .slice elems spare => uptoBulkAll elems + uptoBulkAll spare + 1
  | .agg parts => uptoBulkAll parts + 1
  | .iface _ d => uptoBulk d + 1
  | .map entries => uptoBulkEntries entries + 1
  | .held _ => 1
def uptoBulkAll {H : Type} : List (DataW H) → Nat
  | [] => 0
  | d :: r => uptoBulk d + uptoBulkAll r
def uptoBulkEntries {H : Type} : List (Lit × DataW H) → Nat
  | [] => 0
  | x :: r => uptoBulkEntry x + uptoBulkEntries r
def uptoBulkEntry {H : Type} : Lit × DataW H → Nat
  | (.string bytes, d) => bytes.length + uptoBulk d + 1
  | (_, d) => uptoBulk d + 1
 end
def uptoSmall : (H : Type) → List (DataW H) → Bool := fun _ ds => decide (uptoBulkAll ds ≤ 1048576)
def OpenSpec.upto (s : _root_.Go.ChangeSpec) : _root_.Go.OpenSpec := { _root_.Go.OpenSpec.ofChange s with cond := some uptoSmall }

/-- 'enthymemelaw14.ClauseChains', WHERE WHAT IT READS IS OF BULK AT MOST 1048576: true; the input reads as it did. -/
def clauseChainsUptoRow : OpenClaim := { program := "ytgdpbhbdeaifbaa", sum := "103805fa6c5d0762e700fc8de2043994cdd7e719386ff2eb764562e62046a8bd", func := "enthymeme/enthymemelaw14.ClauseChains", spec := "clauseChains", unfollowed := true, recurses := true, apart := false, narrowed := true }
def ClauseChainsUptoSaid : Prop := clauseChainsUptoRow.holds Try.pinned (OpenSpec.upto clauseChainsSpec)

/-- 'enthymemelaw14.ClauseForms', WHERE WHAT IT READS IS OF BULK AT MOST 1048576: true; the input reads as it did. -/
def clauseFormsUptoRow : OpenClaim := { program := "ytgdpbhbdeaifbaa", sum := "103805fa6c5d0762e700fc8de2043994cdd7e719386ff2eb764562e62046a8bd", func := "enthymeme/enthymemelaw14.ClauseForms", spec := "clauseForms", unfollowed := true, recurses := true, apart := false, narrowed := true }
def ClauseFormsUptoSaid : Prop := clauseFormsUptoRow.holds Try.pinned (OpenSpec.upto clauseFormsSpec)

/-- 'enthymemelaw14.ClauseResolves', WHERE WHAT IT READS IS OF BULK AT MOST 1048576: true; the input reads as it did. -/
def clauseResolvesUptoRow : OpenClaim := { program := "ytgdpbhbdeaifbaa", sum := "103805fa6c5d0762e700fc8de2043994cdd7e719386ff2eb764562e62046a8bd", func := "enthymeme/enthymemelaw14.ClauseResolves", spec := "clauseResolves", unfollowed := true, recurses := true, apart := false, narrowed := true }
def ClauseResolvesUptoSaid : Prop := clauseResolvesUptoRow.holds Try.pinned (OpenSpec.upto clauseResolvesSpec)

/-- 'enthymemelaw14.ClauseSteps', WHERE WHAT IT READS IS OF BULK AT MOST 1048576: true; the input reads as it did. -/
def clauseStepsUptoRow : OpenClaim := { program := "ytgdpbhbdeaifbaa", sum := "103805fa6c5d0762e700fc8de2043994cdd7e719386ff2eb764562e62046a8bd", func := "enthymeme/enthymemelaw14.ClauseSteps", spec := "clauseSteps", unfollowed := true, recurses := true, apart := false, narrowed := true }
def ClauseStepsUptoSaid : Prop := clauseStepsUptoRow.holds Try.pinned (OpenSpec.upto clauseStepsSpec)

/-- 'enthymemelaw14.ClauseState', WHERE WHAT IT READS IS OF BULK AT MOST 1048576: true; the input reads as it did. -/
def clauseStateUptoRow : OpenClaim := { program := "ytgdpbhbdeaifbaa", sum := "103805fa6c5d0762e700fc8de2043994cdd7e719386ff2eb764562e62046a8bd", func := "enthymeme/enthymemelaw14.ClauseState", spec := "clauseState", unfollowed := true, recurses := true, apart := false, narrowed := true }
def ClauseStateUptoSaid : Prop := clauseStateUptoRow.holds Try.pinned (OpenSpec.upto clauseStateSpec)

/-- 'enthymemelaw14.ClauseSound', WHERE WHAT IT READS IS OF BULK AT MOST 1048576: true; the input reads as it did. -/
def clauseSoundUptoRow : OpenClaim := { program := "ytgdpbhbdeaifbaa", sum := "103805fa6c5d0762e700fc8de2043994cdd7e719386ff2eb764562e62046a8bd", func := "enthymeme/enthymemelaw14.ClauseSound", spec := "clauseSound", unfollowed := true, recurses := true, apart := false, narrowed := true }
def ClauseSoundUptoSaid : Prop := clauseSoundUptoRow.holds Try.pinned (OpenSpec.upto clauseSoundSpec)

/-- 'enthymemelaw14.ClauseSame', WHERE WHAT IT READS IS OF BULK AT MOST 1048576: true; the input reads as it did. -/
def clauseSameUptoRow : OpenClaim := { program := "ytgdpbhbdeaifbaa", sum := "103805fa6c5d0762e700fc8de2043994cdd7e719386ff2eb764562e62046a8bd", func := "enthymeme/enthymemelaw14.ClauseSame", spec := "clauseSame", unfollowed := true, recurses := true, apart := false, narrowed := true }
def ClauseSameUptoSaid : Prop := clauseSameUptoRow.holds Try.pinned (OpenSpec.upto clauseSameSpec)

/-- 'enthymemelaw14.ClauseBytes', WHERE WHAT IT READS IS OF BULK AT MOST 1048576: true; the input reads as it did. -/
def clauseBytesUptoRow : OpenClaim := { program := "ytgdpbhbdeaifbaa", sum := "103805fa6c5d0762e700fc8de2043994cdd7e719386ff2eb764562e62046a8bd", func := "enthymeme/enthymemelaw14.ClauseBytes", spec := "clauseBytes", unfollowed := true, recurses := true, apart := false, narrowed := true }
def ClauseBytesUptoSaid : Prop := clauseBytesUptoRow.holds Try.pinned (OpenSpec.upto clauseBytesSpec)

end Rows
end Go.Proofs.Ytgdpbhbdeaifbaa
