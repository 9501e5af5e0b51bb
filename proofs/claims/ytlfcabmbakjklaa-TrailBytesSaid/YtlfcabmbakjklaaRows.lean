/-
  No cell of these rows narrows 'for every input' (looked for: loops, veiled, ifaces, maps, wideKeys, modest, calm, conditions, laid).
  DERIVED. THE GIVEN ROWS OF THIS SEAT. 6 by the template 'for every input the law returns true; each argument reads behind the call as it read before'; 0 by the template 'total and deterministic' (their statements: YtlfcabmbakjklaaTotals.lean).
  GIVEN WITH THE SEED: the statements are not yours to turn. If you find one false, say at which input.
  Laid BY PROGRAM, IN A SANDBOX (cutbox-rows.mjs): the forced cells as the released guide's own fill.sh prints them over the translation 8fee2ae66504891a… (all of the seat's roots in one cut). By AI agents, Wed Nov 11 2026. No macro, syntax, notation, axiom, sorry.
-/
import Derived.Test.YtlfcabmbakjklaaChecked
import GoSem.Claim
import GoSem.ClaimJoined
import GoSem.ClaimMapViews
import Derived.JoinedTies
import Derived.KernelRfl
namespace Go.Proofs.Ytlfcabmbakjklaa
/- THE CELL 'sum', in the pinned program and in every row, IS THE sha256 OF THE DUMP (.gsa) THAT YtlfcabmbakjklaaProg.lean LOADS. Nothing in Lean hashes anything: it is a label: what it is worth is what the hold of that sum in a sandbox is worth. -/
noncomputable def Try.pinned : Pinned := { name := "ytlfcabmbakjklaa", sum := "8fee2ae66504891afabb4480b6c52a34a098165e76d6057521c65144fbccfba3", checked := Try.checked }
namespace Rows
def none {H : Type} : Left H := { results := [], args := [] }

/-- 'enthymemelaw17.TrailRuns': WHATEVER THE INPUT: true; the input reads as it did. -/
def trailRunsSpec : ChangeSpec := { name := "trailRuns", fn := fun _ => fun
  | [d1, d2, d3] => { results := [.lit (.bool true)], args := [d1, d2, d3] }
  | _ => none }
def trailRunsRow : OpenClaim := { program := "ytlfcabmbakjklaa", sum := "8fee2ae66504891afabb4480b6c52a34a098165e76d6057521c65144fbccfba3", func := "enthymeme/enthymemelaw17.TrailRuns", spec := "trailRuns", unfollowed := true, recurses := true, apart := false }
def TrailRunsSaid : Prop := trailRunsRow.holds Try.pinned (OpenSpec.ofChange trailRunsSpec)

/-- ITS FALSE NEIGHBOUR: 'it returns false'. Refute it at one input. -/
def trailRunsWrong : ChangeSpec := { name := "trailRuns", fn := fun _ => fun
  | [d1, d2, d3] => { results := [.lit (.bool false)], args := [d1, d2, d3] }
  | _ => none }
def TrailRunsWrongFalsely : Prop := trailRunsRow.holds Try.pinned (OpenSpec.ofChange trailRunsWrong)

/-- 'enthymemelaw17.TrailNext': WHATEVER THE INPUT: true; the input reads as it did. -/
def trailNextSpec : ChangeSpec := { name := "trailNext", fn := fun _ => fun
  | [d1, d2, d3, d4] => { results := [.lit (.bool true)], args := [d1, d2, d3, d4] }
  | _ => none }
def trailNextRow : OpenClaim := { program := "ytlfcabmbakjklaa", sum := "8fee2ae66504891afabb4480b6c52a34a098165e76d6057521c65144fbccfba3", func := "enthymeme/enthymemelaw17.TrailNext", spec := "trailNext", unfollowed := true, recurses := true, apart := false }
def TrailNextSaid : Prop := trailNextRow.holds Try.pinned (OpenSpec.ofChange trailNextSpec)

/-- ITS FALSE NEIGHBOUR: 'it returns false'. Refute it at one input. -/
def trailNextWrong : ChangeSpec := { name := "trailNext", fn := fun _ => fun
  | [d1, d2, d3, d4] => { results := [.lit (.bool false)], args := [d1, d2, d3, d4] }
  | _ => none }
def TrailNextWrongFalsely : Prop := trailNextRow.holds Try.pinned (OpenSpec.ofChange trailNextWrong)

/-- 'enthymemelaw17.TrailLevels': WHATEVER THE INPUT: true; the input reads as it did. -/
def trailLevelsSpec : ChangeSpec := { name := "trailLevels", fn := fun _ => fun
  | [d1, d2] => { results := [.lit (.bool true)], args := [d1, d2] }
  | _ => none }
def trailLevelsRow : OpenClaim := { program := "ytlfcabmbakjklaa", sum := "8fee2ae66504891afabb4480b6c52a34a098165e76d6057521c65144fbccfba3", func := "enthymeme/enthymemelaw17.TrailLevels", spec := "trailLevels", unfollowed := true, recurses := true, apart := false }
def TrailLevelsSaid : Prop := trailLevelsRow.holds Try.pinned (OpenSpec.ofChange trailLevelsSpec)

/-- ITS FALSE NEIGHBOUR: 'it returns false'. Refute it at one input. -/
def trailLevelsWrong : ChangeSpec := { name := "trailLevels", fn := fun _ => fun
  | [d1, d2] => { results := [.lit (.bool false)], args := [d1, d2] }
  | _ => none }
def TrailLevelsWrongFalsely : Prop := trailLevelsRow.holds Try.pinned (OpenSpec.ofChange trailLevelsWrong)

/-- 'enthymemelaw17.TrailCloses': WHATEVER THE INPUT: true; the input reads as it did. -/
def trailClosesSpec : ChangeSpec := { name := "trailCloses", fn := fun _ => fun
  | [d1, d2, d3] => { results := [.lit (.bool true)], args := [d1, d2, d3] }
  | _ => none }
def trailClosesRow : OpenClaim := { program := "ytlfcabmbakjklaa", sum := "8fee2ae66504891afabb4480b6c52a34a098165e76d6057521c65144fbccfba3", func := "enthymeme/enthymemelaw17.TrailCloses", spec := "trailCloses", unfollowed := true, recurses := true, apart := false }
def TrailClosesSaid : Prop := trailClosesRow.holds Try.pinned (OpenSpec.ofChange trailClosesSpec)

/-- ITS FALSE NEIGHBOUR: 'it returns false'. Refute it at one input. -/
def trailClosesWrong : ChangeSpec := { name := "trailCloses", fn := fun _ => fun
  | [d1, d2, d3] => { results := [.lit (.bool false)], args := [d1, d2, d3] }
  | _ => none }
def TrailClosesWrongFalsely : Prop := trailClosesRow.holds Try.pinned (OpenSpec.ofChange trailClosesWrong)

/-- 'enthymemelaw17.TrailBack': WHATEVER THE INPUT: true; the input reads as it did. -/
def trailBackSpec : ChangeSpec := { name := "trailBack", fn := fun _ => fun
  | [d1, d2, d3] => { results := [.lit (.bool true)], args := [d1, d2, d3] }
  | _ => none }
def trailBackRow : OpenClaim := { program := "ytlfcabmbakjklaa", sum := "8fee2ae66504891afabb4480b6c52a34a098165e76d6057521c65144fbccfba3", func := "enthymeme/enthymemelaw17.TrailBack", spec := "trailBack", unfollowed := true, recurses := true, apart := false }
def TrailBackSaid : Prop := trailBackRow.holds Try.pinned (OpenSpec.ofChange trailBackSpec)

/-- ITS FALSE NEIGHBOUR: 'it returns false'. Refute it at one input. -/
def trailBackWrong : ChangeSpec := { name := "trailBack", fn := fun _ => fun
  | [d1, d2, d3] => { results := [.lit (.bool false)], args := [d1, d2, d3] }
  | _ => none }
def TrailBackWrongFalsely : Prop := trailBackRow.holds Try.pinned (OpenSpec.ofChange trailBackWrong)

/-- 'enthymemelaw17.TrailBytes': WHATEVER THE INPUT: true; the input reads as it did. -/
def trailBytesSpec : ChangeSpec := { name := "trailBytes", fn := fun _ => fun
  | [d1, d2, d3, d4, d5, d6] => { results := [.lit (.bool true)], args := [d1, d2, d3, d4, d5, d6] }
  | _ => none }
def trailBytesRow : OpenClaim := { program := "ytlfcabmbakjklaa", sum := "8fee2ae66504891afabb4480b6c52a34a098165e76d6057521c65144fbccfba3", func := "enthymeme/enthymemelaw17.TrailBytes", spec := "trailBytes", unfollowed := true, recurses := true, apart := false }
def TrailBytesSaid : Prop := trailBytesRow.holds Try.pinned (OpenSpec.ofChange trailBytesSpec)

/-- ITS FALSE NEIGHBOUR: 'it returns false'. Refute it at one input. -/
def trailBytesWrong : ChangeSpec := { name := "trailBytes", fn := fun _ => fun
  | [d1, d2, d3, d4, d5, d6] => { results := [.lit (.bool false)], args := [d1, d2, d3, d4, d5, d6] }
  | _ => none }
def TrailBytesWrongFalsely : Prop := trailBytesRow.holds Try.pinned (OpenSpec.ofChange trailBytesWrong)

/- THE SECOND FORM. 'bulk': how many values and letters a reading holds, each counted each time it is reached (what is shared counts as often as it is met; a slice's spare places count too). A statement '..UptoSaid' is the law's where the arguments, and the package variables that the reading takes, are together of bulk at most 1048576: NARROWER than '..Said'. Prove '..Said' where nothing that the law and all that it calls make is longer than what came in: it says more and counts as full. Else prove '..UptoSaid'. A law counts once. -/
mutual
def uptoBulk {H : Type} : DataW H → Nat
  | .lit (.string bytes) => bytes.length + 1
  | .lit _ => 1
  | .nil => 1
  | .ptr d => uptoBulk d + 1
  | .slice elems spare => uptoBulkAll elems + uptoBulkAll spare + 1
  | .agg parts => uptoBulkAll parts + 1
  | .iface _ d => uptoBulk d + 1
  | .map entries => uptoBulkEntries entries + 1
  | .held _ => 1
def uptoBulkAll {H : Type} : List (DataW H) → Nat
  | [] => 0
  | d :: r => uptoBulk d + uptoBulkAll r
def uptoBulkEntries {H : Type} : List (Lit × DataW H) → Nat
  | [] => 0
  | x :: r => uptoBulkEntry x + uptoBulkEntries r
def uptoBulkEntry {H : Type} : Lit × DataW H → Nat
  | (.string bytes, d) => bytes.length + uptoBulk d + 1
  | (_, d) => uptoBulk d + 1
 end
def uptoSmall : (H : Type) → List (DataW H) → Bool := fun _ ds => decide (uptoBulkAll ds ≤ 1048576)
def OpenSpec.upto (s : _root_.Go.ChangeSpec) : _root_.Go.OpenSpec := { _root_.Go.OpenSpec.ofChange s with cond := some uptoSmall }

/-- 'enthymemelaw17.TrailRuns', WHERE WHAT IT READS IS OF BULK AT MOST 1048576: true; the input reads as it did. -/
def trailRunsUptoRow : OpenClaim := { program := "ytlfcabmbakjklaa", sum := "8fee2ae66504891afabb4480b6c52a34a098165e76d6057521c65144fbccfba3", func := "enthymeme/enthymemelaw17.TrailRuns", spec := "trailRuns", unfollowed := true, recurses := true, apart := false, narrowed := true }
def TrailRunsUptoSaid : Prop := trailRunsUptoRow.holds Try.pinned (OpenSpec.upto trailRunsSpec)

/-- 'enthymemelaw17.TrailNext', WHERE WHAT IT READS IS OF BULK AT MOST 1048576: true; the input reads as it did. -/
def trailNextUptoRow : OpenClaim := { program := "ytlfcabmbakjklaa", sum := "8fee2ae66504891afabb4480b6c52a34a098165e76d6057521c65144fbccfba3", func := "enthymeme/enthymemelaw17.TrailNext", spec := "trailNext", unfollowed := true, recurses := true, apart := false, narrowed := true }
def TrailNextUptoSaid : Prop := trailNextUptoRow.holds Try.pinned (OpenSpec.upto trailNextSpec)

/-- 'enthymemelaw17.TrailLevels', WHERE WHAT IT READS IS OF BULK AT MOST 1048576: true; the input reads as it did. -/
def trailLevelsUptoRow : OpenClaim := { program := "ytlfcabmbakjklaa", sum := "8fee2ae66504891afabb4480b6c52a34a098165e76d6057521c65144fbccfba3", func := "enthymeme/enthymemelaw17.TrailLevels", spec := "trailLevels", unfollowed := true, recurses := true, apart := false, narrowed := true }
def TrailLevelsUptoSaid : Prop := trailLevelsUptoRow.holds Try.pinned (OpenSpec.upto trailLevelsSpec)

/-- 'enthymemelaw17.TrailCloses', WHERE WHAT IT READS IS OF BULK AT MOST 1048576: true; the input reads as it did. -/
def trailClosesUptoRow : OpenClaim := { program := "ytlfcabmbakjklaa", sum := "8fee2ae66504891afabb4480b6c52a34a098165e76d6057521c65144fbccfba3", func := "enthymeme/enthymemelaw17.TrailCloses", spec := "trailCloses", unfollowed := true, recurses := true, apart := false, narrowed := true }
def TrailClosesUptoSaid : Prop := trailClosesUptoRow.holds Try.pinned (OpenSpec.upto trailClosesSpec)

/-- 'enthymemelaw17.TrailBack', WHERE WHAT IT READS IS OF BULK AT MOST 1048576: true; the input reads as it did. -/
def trailBackUptoRow : OpenClaim := { program := "ytlfcabmbakjklaa", sum := "8fee2ae66504891afabb4480b6c52a34a098165e76d6057521c65144fbccfba3", func := "enthymeme/enthymemelaw17.TrailBack", spec := "trailBack", unfollowed := true, recurses := true, apart := false, narrowed := true }
def TrailBackUptoSaid : Prop := trailBackUptoRow.holds Try.pinned (OpenSpec.upto trailBackSpec)

/-- 'enthymemelaw17.TrailBytes', WHERE WHAT IT READS IS OF BULK AT MOST 1048576: true; the input reads as it did. -/
def trailBytesUptoRow : OpenClaim := { program := "ytlfcabmbakjklaa", sum := "8fee2ae66504891afabb4480b6c52a34a098165e76d6057521c65144fbccfba3", func := "enthymeme/enthymemelaw17.TrailBytes", spec := "trailBytes", unfollowed := true, recurses := true, apart := false, narrowed := true }
def TrailBytesUptoSaid : Prop := trailBytesUptoRow.holds Try.pinned (OpenSpec.upto trailBytesSpec)

end Rows
end Go.Proofs.Ytlfcabmbakjklaa
