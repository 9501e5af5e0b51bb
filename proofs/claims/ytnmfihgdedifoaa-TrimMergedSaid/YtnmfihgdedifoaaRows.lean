/-
  No cell of these rows narrows 'for every input' (looked for: loops, veiled, ifaces, maps, wideKeys, modest, calm, conditions, laid).
  DERIVED. THE GIVEN ROWS OF THIS SEAT. 6 by the template 'for every input the law returns true; each argument reads behind the call as it read before'; 0 by the template 'total and deterministic' (their statements: YtnmfihgdedifoaaTotals.lean).
  GIVEN WITH THE SEED: the statements are not yours to turn. If you find one false, say at which input.
  Laid BY PROGRAM, IN A SANDBOX (cutbox-rows.mjs): the forced cells as the released guide's own fill.sh prints them over the translation a09d4b0b026067ec… (all of the seat's roots in one cut). By AI agents, Wed Nov 11 2026. No macro, syntax, notation, axiom, sorry.
-/
import Derived.Test.YtnmfihgdedifoaaChecked
import GoSem.Claim
import GoSem.ClaimJoined
import GoSem.ClaimMapViews
import Derived.JoinedTies
import Derived.KernelRfl
namespace Go.Proofs.Ytnmfihgdedifoaa
/- THE CELL 'sum', in the pinned program and in every row, IS THE sha256 OF THE DUMP (.gsa) THAT YtnmfihgdedifoaaProg.lean LOADS. Nothing in Lean hashes anything: it is a label: what it is worth is what the hold of that sum in a sandbox is worth. -/
noncomputable def Try.pinned : Pinned := { name := "ytnmfihgdedifoaa", sum := "a09d4b0b026067ec08a3d64cc80e803c3662d702da8cef516ca7f836a468f849", checked := Try.checked }
namespace Rows
def none {H : Type} : Left H := { results := [], args := [] }

/-- 'enthymemelaw27.TrimUses': WHATEVER THE INPUT: true; the input reads as it did. -/
def trimUsesSpec : ChangeSpec := { name := "trimUses", fn := fun _ => fun
  | [d1, d2, d3, d4, d5] => { results := [.lit (.bool true)], args := [d1, d2, d3, d4, d5] }
  | _ => none }
def trimUsesRow : OpenClaim := { program := "ytnmfihgdedifoaa", sum := "a09d4b0b026067ec08a3d64cc80e803c3662d702da8cef516ca7f836a468f849", func := "enthymeme/enthymemelaw27.TrimUses", spec := "trimUses", unfollowed := true, recurses := true, apart := false }
def TrimUsesSaid : Prop := trimUsesRow.holds Try.pinned (OpenSpec.ofChange trimUsesSpec)

/-- ITS FALSE NEIGHBOUR: 'it returns false'. Refute it at one input. -/
def trimUsesWrong : ChangeSpec := { name := "trimUses", fn := fun _ => fun
  | [d1, d2, d3, d4, d5] => { results := [.lit (.bool false)], args := [d1, d2, d3, d4, d5] }
  | _ => none }
def TrimUsesWrongFalsely : Prop := trimUsesRow.holds Try.pinned (OpenSpec.ofChange trimUsesWrong)

/-- 'enthymemelaw27.TrimTrims': WHATEVER THE INPUT: true; the input reads as it did. -/
def trimTrimsSpec : ChangeSpec := { name := "trimTrims", fn := fun _ => fun
  | [d1, d2, d3, d4, d5] => { results := [.lit (.bool true)], args := [d1, d2, d3, d4, d5] }
  | _ => none }
def trimTrimsRow : OpenClaim := { program := "ytnmfihgdedifoaa", sum := "a09d4b0b026067ec08a3d64cc80e803c3662d702da8cef516ca7f836a468f849", func := "enthymeme/enthymemelaw27.TrimTrims", spec := "trimTrims", unfollowed := true, recurses := true, apart := false }
def TrimTrimsSaid : Prop := trimTrimsRow.holds Try.pinned (OpenSpec.ofChange trimTrimsSpec)

/-- ITS FALSE NEIGHBOUR: 'it returns false'. Refute it at one input. -/
def trimTrimsWrong : ChangeSpec := { name := "trimTrims", fn := fun _ => fun
  | [d1, d2, d3, d4, d5] => { results := [.lit (.bool false)], args := [d1, d2, d3, d4, d5] }
  | _ => none }
def TrimTrimsWrongFalsely : Prop := trimTrimsRow.holds Try.pinned (OpenSpec.ofChange trimTrimsWrong)

/-- 'enthymemelaw27.TrimAgain': WHATEVER THE INPUT: true; the input reads as it did. -/
def trimAgainSpec : ChangeSpec := { name := "trimAgain", fn := fun _ => fun
  | [d] => { results := [.lit (.bool true)], args := [d] }
  | _ => none }
def trimAgainRow : OpenClaim := { program := "ytnmfihgdedifoaa", sum := "a09d4b0b026067ec08a3d64cc80e803c3662d702da8cef516ca7f836a468f849", func := "enthymeme/enthymemelaw27.TrimAgain", spec := "trimAgain", unfollowed := true, recurses := true, apart := false }
def TrimAgainSaid : Prop := trimAgainRow.holds Try.pinned (OpenSpec.ofChange trimAgainSpec)

/-- ITS FALSE NEIGHBOUR: 'it returns false'. Refute it at one input. -/
def trimAgainWrong : ChangeSpec := { name := "trimAgain", fn := fun _ => fun
  | [d] => { results := [.lit (.bool false)], args := [d] }
  | _ => none }
def TrimAgainWrongFalsely : Prop := trimAgainRow.holds Try.pinned (OpenSpec.ofChange trimAgainWrong)

/-- 'enthymemelaw27.TrimKeeps': WHATEVER THE INPUT: true; the input reads as it did. -/
def trimKeepsSpec : ChangeSpec := { name := "trimKeeps", fn := fun _ => fun
  | [d1, d2, d3] => { results := [.lit (.bool true)], args := [d1, d2, d3] }
  | _ => none }
def trimKeepsRow : OpenClaim := { program := "ytnmfihgdedifoaa", sum := "a09d4b0b026067ec08a3d64cc80e803c3662d702da8cef516ca7f836a468f849", func := "enthymeme/enthymemelaw27.TrimKeeps", spec := "trimKeeps", unfollowed := true, recurses := true, apart := false }
def TrimKeepsSaid : Prop := trimKeepsRow.holds Try.pinned (OpenSpec.ofChange trimKeepsSpec)

/-- ITS FALSE NEIGHBOUR: 'it returns false'. Refute it at one input. -/
def trimKeepsWrong : ChangeSpec := { name := "trimKeeps", fn := fun _ => fun
  | [d1, d2, d3] => { results := [.lit (.bool false)], args := [d1, d2, d3] }
  | _ => none }
def TrimKeepsWrongFalsely : Prop := trimKeepsRow.holds Try.pinned (OpenSpec.ofChange trimKeepsWrong)

/-- 'enthymemelaw27.TrimMerges': WHATEVER THE INPUT: true; the input reads as it did. -/
def trimMergesSpec : ChangeSpec := { name := "trimMerges", fn := fun _ => fun
  | [d1, d2, d3, d4, d5] => { results := [.lit (.bool true)], args := [d1, d2, d3, d4, d5] }
  | _ => none }
def trimMergesRow : OpenClaim := { program := "ytnmfihgdedifoaa", sum := "a09d4b0b026067ec08a3d64cc80e803c3662d702da8cef516ca7f836a468f849", func := "enthymeme/enthymemelaw27.TrimMerges", spec := "trimMerges", unfollowed := true, recurses := true, apart := false }
def TrimMergesSaid : Prop := trimMergesRow.holds Try.pinned (OpenSpec.ofChange trimMergesSpec)

/-- ITS FALSE NEIGHBOUR: 'it returns false'. Refute it at one input. -/
def trimMergesWrong : ChangeSpec := { name := "trimMerges", fn := fun _ => fun
  | [d1, d2, d3, d4, d5] => { results := [.lit (.bool false)], args := [d1, d2, d3, d4, d5] }
  | _ => none }
def TrimMergesWrongFalsely : Prop := trimMergesRow.holds Try.pinned (OpenSpec.ofChange trimMergesWrong)

/-- 'enthymemelaw27.TrimMerged': WHATEVER THE INPUT: true; the input reads as it did. -/
def trimMergedSpec : ChangeSpec := { name := "trimMerged", fn := fun _ => fun
  | [d1, d2] => { results := [.lit (.bool true)], args := [d1, d2] }
  | _ => none }
def trimMergedRow : OpenClaim := { program := "ytnmfihgdedifoaa", sum := "a09d4b0b026067ec08a3d64cc80e803c3662d702da8cef516ca7f836a468f849", func := "enthymeme/enthymemelaw27.TrimMerged", spec := "trimMerged", unfollowed := true, recurses := true, apart := false }
def TrimMergedSaid : Prop := trimMergedRow.holds Try.pinned (OpenSpec.ofChange trimMergedSpec)

/-- ITS FALSE NEIGHBOUR: 'it returns false'. Refute it at one input. -/
def trimMergedWrong : ChangeSpec := { name := "trimMerged", fn := fun _ => fun
  | [d1, d2] => { results := [.lit (.bool false)], args := [d1, d2] }
  | _ => none }
def TrimMergedWrongFalsely : Prop := trimMergedRow.holds Try.pinned (OpenSpec.ofChange trimMergedWrong)

/- THE SECOND FORM. 'bulk': how many values and letters a reading holds, each counted each time it is reached (what is shared counts as often as it is met; a slice's spare places count too). A statement '..UptoSaid' is the law's where the arguments, and the package variables that the reading takes, are together of bulk at most 1048576: NARROWER than '..Said'. Prove '..Said' where nothing that the law and all that it calls make is longer than what came in: it says more and counts as full. Else prove '..UptoSaid'. A law counts once. -/
mutual
def uptoBulk {H : Type} : DataW H → Nat
  | .lit (.string bytes) => bytes.length + 1
  | .lit _ => 1
  | .nil => 1
  | .ptr d => uptoBulk d + 1
  | .slice elems spare => uptoBulkAll elems + uptoBulkAll spare + 1
  | .agg parts => uptoBulkAll parts + 1
  | .iface _ d => uptoBulk d + 1
  | .map entries => uptoBulkEntries entries + 1
  | .held _ => 1
def uptoBulkAll {H : Type} : List (DataW H) → Nat
  | [] => 0
  | d :: r => uptoBulk d + uptoBulkAll r
def uptoBulkEntries {H : Type} : List (Lit × DataW H) → Nat
  | [] => 0
  | x :: r => uptoBulkEntry x + uptoBulkEntries r
def uptoBulkEntry {H : Type} : Lit × DataW H → Nat
  | (.string bytes, d) => bytes.length + uptoBulk d + 1
  | (_, d) => uptoBulk d + 1
 end
def uptoSmall : (H : Type) → List (DataW H) → Bool := fun _ ds => decide (uptoBulkAll ds ≤ 1048576)
def OpenSpec.upto (s : _root_.Go.ChangeSpec) : _root_.Go.OpenSpec := { _root_.Go.OpenSpec.ofChange s with cond := some uptoSmall }

/-- 'enthymemelaw27.TrimUses', WHERE WHAT IT READS IS OF BULK AT MOST 1048576: true; the input reads as it did. -/
def trimUsesUptoRow : OpenClaim := { program := "ytnmfihgdedifoaa", sum := "a09d4b0b026067ec08a3d64cc80e803c3662d702da8cef516ca7f836a468f849", func := "enthymeme/enthymemelaw27.TrimUses", spec := "trimUses", unfollowed := true, recurses := true, apart := false, narrowed := true }
def TrimUsesUptoSaid : Prop := trimUsesUptoRow.holds Try.pinned (OpenSpec.upto trimUsesSpec)

/-- 'enthymemelaw27.TrimTrims', WHERE WHAT IT READS IS OF BULK AT MOST 1048576: true; the input reads as it did. -/
def trimTrimsUptoRow : OpenClaim := { program := "ytnmfihgdedifoaa", sum := "a09d4b0b026067ec08a3d64cc80e803c3662d702da8cef516ca7f836a468f849", func := "enthymeme/enthymemelaw27.TrimTrims", spec := "trimTrims", unfollowed := true, recurses := true, apart := false, narrowed := true }
def TrimTrimsUptoSaid : Prop := trimTrimsUptoRow.holds Try.pinned (OpenSpec.upto trimTrimsSpec)

/-- 'enthymemelaw27.TrimAgain', WHERE WHAT IT READS IS OF BULK AT MOST 1048576: true; the input reads as it did. -/
def trimAgainUptoRow : OpenClaim := { program := "ytnmfihgdedifoaa", sum := "a09d4b0b026067ec08a3d64cc80e803c3662d702da8cef516ca7f836a468f849", func := "enthymeme/enthymemelaw27.TrimAgain", spec := "trimAgain", unfollowed := true, recurses := true, apart := false, narrowed := true }
def TrimAgainUptoSaid : Prop := trimAgainUptoRow.holds Try.pinned (OpenSpec.upto trimAgainSpec)

/-- 'enthymemelaw27.TrimKeeps', WHERE WHAT IT READS IS OF BULK AT MOST 1048576: true; the input reads as it did. -/
def trimKeepsUptoRow : OpenClaim := { program := "ytnmfihgdedifoaa", sum := "a09d4b0b026067ec08a3d64cc80e803c3662d702da8cef516ca7f836a468f849", func := "enthymeme/enthymemelaw27.TrimKeeps", spec := "trimKeeps", unfollowed := true, recurses := true, apart := false, narrowed := true }
def TrimKeepsUptoSaid : Prop := trimKeepsUptoRow.holds Try.pinned (OpenSpec.upto trimKeepsSpec)

/-- 'enthymemelaw27.TrimMerges', WHERE WHAT IT READS IS OF BULK AT MOST 1048576: true; the input reads as it did. -/
def trimMergesUptoRow : OpenClaim := { program := "ytnmfihgdedifoaa", sum := "a09d4b0b026067ec08a3d64cc80e803c3662d702da8cef516ca7f836a468f849", func := "enthymeme/enthymemelaw27.TrimMerges", spec := "trimMerges", unfollowed := true, recurses := true, apart := false, narrowed := true }
def TrimMergesUptoSaid : Prop := trimMergesUptoRow.holds Try.pinned (OpenSpec.upto trimMergesSpec)

/-- 'enthymemelaw27.TrimMerged', WHERE WHAT IT READS IS OF BULK AT MOST 1048576: true; the input reads as it did. -/
def trimMergedUptoRow : OpenClaim := { program := "ytnmfihgdedifoaa", sum := "a09d4b0b026067ec08a3d64cc80e803c3662d702da8cef516ca7f836a468f849", func := "enthymeme/enthymemelaw27.TrimMerged", spec := "trimMerged", unfollowed := true, recurses := true, apart := false, narrowed := true }
def TrimMergedUptoSaid : Prop := trimMergedUptoRow.holds Try.pinned (OpenSpec.upto trimMergedSpec)

end Rows
end Go.Proofs.Ytnmfihgdedifoaa
