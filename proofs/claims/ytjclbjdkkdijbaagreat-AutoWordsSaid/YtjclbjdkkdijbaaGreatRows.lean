/-
  No cell of these rows narrows 'for every input' (looked for: loops, veiled, ifaces, maps, wideKeys, modest, calm, conditions, laid).
  DERIVED. THE GIVEN ROWS OF THIS SEAT. 8 by the template 'for every input the law returns true; each argument reads behind the call as it read before'; 0 by the template 'total and deterministic' (their statements: YtjclbjdkkdijbaaGreatTotals.lean).
  GIVEN WITH THE SEED: the statements are not yours to turn. If you find one false, say at which input.
  Laid BY PROGRAM, IN A SANDBOX (cutbox-rows.mjs): the forced cells as the released guide's own fill.sh prints them over the translation 2644ebec0c9ac2bd… (all of the seat's roots in one cut). By AI agents, Wed Nov 11 2026. No macro, syntax, notation, axiom, sorry.
-/
import Derived.Test.YtjclbjdkkdijbaaGreatChecked
import GoSem.Claim
import GoSem.ClaimJoined
import GoSem.ClaimMapViews
import Derived.JoinedTies
import Derived.KernelRfl
namespace Go.Proofs.YtjclbjdkkdijbaaGreat
/- THE CELL 'sum', in the pinned program and in every row, IS THE sha256 OF THE DUMP (.gsa) THAT YtjclbjdkkdijbaaGreatProg.lean LOADS. Nothing in Lean hashes anything: it is a label: what it is worth is what the hold of that sum in a sandbox is worth. -/
noncomputable def Tryz.pinned : Pinned := { name := "ytjclbjdkkdijbaagreat", sum := "2644ebec0c9ac2bd2dc586b2889767824dbf5ddde05007316ada58fabbd06632", checked := Tryz.checked }
namespace Rows
def none {H : Type} : Left H := { results := [], args := [] }

/-- 'enthymemelaw05.AutoOf': WHATEVER THE INPUT: true; the input reads as it did. -/
def autoOfSpec : ChangeSpec := { name := "autoOf", fn := fun _ => fun
  | [d1, d2, d3] => { results := [.lit (.bool true)], args := [d1, d2, d3] }
  | _ => none }
def autoOfRow : OpenClaim := { program := "ytjclbjdkkdijbaagreat", sum := "2644ebec0c9ac2bd2dc586b2889767824dbf5ddde05007316ada58fabbd06632", func := "enthymeme/enthymemelaw05.AutoOf", spec := "autoOf", unfollowed := true, recurses := true, plainKeys := false, apart := false }
def AutoOfSaid : Prop := autoOfRow.holds Tryz.pinned (OpenSpec.ofChange autoOfSpec)

/-- ITS FALSE NEIGHBOUR: 'it returns false'. Refute it at one input. -/
def autoOfWrong : ChangeSpec := { name := "autoOf", fn := fun _ => fun
  | [d1, d2, d3] => { results := [.lit (.bool false)], args := [d1, d2, d3] }
  | _ => none }
def AutoOfWrongFalsely : Prop := autoOfRow.holds Tryz.pinned (OpenSpec.ofChange autoOfWrong)

/-- 'enthymemelaw05.AutoWords': WHATEVER THE INPUT: true; the input reads as it did. -/
def autoWordsSpec : ChangeSpec := { name := "autoWords", fn := fun _ => fun
  | [d1, d2, d3, d4, d5, d6] => { results := [.lit (.bool true)], args := [d1, d2, d3, d4, d5, d6] }
  | _ => none }
def autoWordsRow : OpenClaim := { program := "ytjclbjdkkdijbaagreat", sum := "2644ebec0c9ac2bd2dc586b2889767824dbf5ddde05007316ada58fabbd06632", func := "enthymeme/enthymemelaw05.AutoWords", spec := "autoWords", unfollowed := true, recurses := true, plainKeys := false, apart := false }
def AutoWordsSaid : Prop := autoWordsRow.holds Tryz.pinned (OpenSpec.ofChange autoWordsSpec)

/-- ITS FALSE NEIGHBOUR: 'it returns false'. Refute it at one input. -/
def autoWordsWrong : ChangeSpec := { name := "autoWords", fn := fun _ => fun
  | [d1, d2, d3, d4, d5, d6] => { results := [.lit (.bool false)], args := [d1, d2, d3, d4, d5, d6] }
  | _ => none }
def AutoWordsWrongFalsely : Prop := autoWordsRow.holds Tryz.pinned (OpenSpec.ofChange autoWordsWrong)

/-- 'enthymemelaw05.AutoRuns': WHATEVER THE INPUT: true; the input reads as it did. -/
def autoRunsSpec : ChangeSpec := { name := "autoRuns", fn := fun _ => fun
  | [d1, d2, d3, d4, d5, d6, d7] => { results := [.lit (.bool true)], args := [d1, d2, d3, d4, d5, d6, d7] }
  | _ => none }
def autoRunsRow : OpenClaim := { program := "ytjclbjdkkdijbaagreat", sum := "2644ebec0c9ac2bd2dc586b2889767824dbf5ddde05007316ada58fabbd06632", func := "enthymeme/enthymemelaw05.AutoRuns", spec := "autoRuns", unfollowed := true, recurses := true, plainKeys := false, apart := false }
def AutoRunsSaid : Prop := autoRunsRow.holds Tryz.pinned (OpenSpec.ofChange autoRunsSpec)

/-- ITS FALSE NEIGHBOUR: 'it returns false'. Refute it at one input. -/
def autoRunsWrong : ChangeSpec := { name := "autoRuns", fn := fun _ => fun
  | [d1, d2, d3, d4, d5, d6, d7] => { results := [.lit (.bool false)], args := [d1, d2, d3, d4, d5, d6, d7] }
  | _ => none }
def AutoRunsWrongFalsely : Prop := autoRunsRow.holds Tryz.pinned (OpenSpec.ofChange autoRunsWrong)

/-- 'enthymemelaw05.AutoMinimal': WHATEVER THE INPUT: true; the input reads as it did. -/
def autoMinimalSpec : ChangeSpec := { name := "autoMinimal", fn := fun _ => fun
  | [d1, d2, d3, d4, d5] => { results := [.lit (.bool true)], args := [d1, d2, d3, d4, d5] }
  | _ => none }
def autoMinimalRow : OpenClaim := { program := "ytjclbjdkkdijbaagreat", sum := "2644ebec0c9ac2bd2dc586b2889767824dbf5ddde05007316ada58fabbd06632", func := "enthymeme/enthymemelaw05.AutoMinimal", spec := "autoMinimal", unfollowed := true, recurses := true, plainKeys := false, apart := false }
def AutoMinimalSaid : Prop := autoMinimalRow.holds Tryz.pinned (OpenSpec.ofChange autoMinimalSpec)

/-- ITS FALSE NEIGHBOUR: 'it returns false'. Refute it at one input. -/
def autoMinimalWrong : ChangeSpec := { name := "autoMinimal", fn := fun _ => fun
  | [d1, d2, d3, d4, d5] => { results := [.lit (.bool false)], args := [d1, d2, d3, d4, d5] }
  | _ => none }
def AutoMinimalWrongFalsely : Prop := autoMinimalRow.holds Tryz.pinned (OpenSpec.ofChange autoMinimalWrong)

/-- 'enthymemelaw05.AutoCombined': WHATEVER THE INPUT: true; the input reads as it did. -/
def autoCombinedSpec : ChangeSpec := { name := "autoCombined", fn := fun _ => fun
  | [d1, d2, d3, d4, d5, d6] => { results := [.lit (.bool true)], args := [d1, d2, d3, d4, d5, d6] }
  | _ => none }
def autoCombinedRow : OpenClaim := { program := "ytjclbjdkkdijbaagreat", sum := "2644ebec0c9ac2bd2dc586b2889767824dbf5ddde05007316ada58fabbd06632", func := "enthymeme/enthymemelaw05.AutoCombined", spec := "autoCombined", unfollowed := true, recurses := true, plainKeys := false, apart := false }
def AutoCombinedSaid : Prop := autoCombinedRow.holds Tryz.pinned (OpenSpec.ofChange autoCombinedSpec)

/-- ITS FALSE NEIGHBOUR: 'it returns false'. Refute it at one input. -/
def autoCombinedWrong : ChangeSpec := { name := "autoCombined", fn := fun _ => fun
  | [d1, d2, d3, d4, d5, d6] => { results := [.lit (.bool false)], args := [d1, d2, d3, d4, d5, d6] }
  | _ => none }
def AutoCombinedWrongFalsely : Prop := autoCombinedRow.holds Tryz.pinned (OpenSpec.ofChange autoCombinedWrong)

/-- 'enthymemelaw05.AutoSets': WHATEVER THE INPUT: true; the input reads as it did. -/
def autoSetsSpec : ChangeSpec := { name := "autoSets", fn := fun _ => fun
  | [d1, d2, d3] => { results := [.lit (.bool true)], args := [d1, d2, d3] }
  | _ => none }
def autoSetsRow : OpenClaim := { program := "ytjclbjdkkdijbaagreat", sum := "2644ebec0c9ac2bd2dc586b2889767824dbf5ddde05007316ada58fabbd06632", func := "enthymeme/enthymemelaw05.AutoSets", spec := "autoSets", unfollowed := true, recurses := true, plainKeys := false, apart := false }
def AutoSetsSaid : Prop := autoSetsRow.holds Tryz.pinned (OpenSpec.ofChange autoSetsSpec)

/-- ITS FALSE NEIGHBOUR: 'it returns false'. Refute it at one input. -/
def autoSetsWrong : ChangeSpec := { name := "autoSets", fn := fun _ => fun
  | [d1, d2, d3] => { results := [.lit (.bool false)], args := [d1, d2, d3] }
  | _ => none }
def AutoSetsWrongFalsely : Prop := autoSetsRow.holds Tryz.pinned (OpenSpec.ofChange autoSetsWrong)

/-- 'enthymemelaw05.AutoMatch': WHATEVER THE INPUT: true; the input reads as it did. -/
def autoMatchSpec : ChangeSpec := { name := "autoMatch", fn := fun _ => fun
  | [d1, d2] => { results := [.lit (.bool true)], args := [d1, d2] }
  | _ => none }
def autoMatchRow : OpenClaim := { program := "ytjclbjdkkdijbaagreat", sum := "2644ebec0c9ac2bd2dc586b2889767824dbf5ddde05007316ada58fabbd06632", func := "enthymeme/enthymemelaw05.AutoMatch", spec := "autoMatch", unfollowed := true, recurses := true, plainKeys := false, apart := false }
def AutoMatchSaid : Prop := autoMatchRow.holds Tryz.pinned (OpenSpec.ofChange autoMatchSpec)

/-- ITS FALSE NEIGHBOUR: 'it returns false'. Refute it at one input. -/
def autoMatchWrong : ChangeSpec := { name := "autoMatch", fn := fun _ => fun
  | [d1, d2] => { results := [.lit (.bool false)], args := [d1, d2] }
  | _ => none }
def AutoMatchWrongFalsely : Prop := autoMatchRow.holds Tryz.pinned (OpenSpec.ofChange autoMatchWrong)

/-- 'enthymemelaw05.AutoForm': WHATEVER THE INPUT: true; the input reads as it did. -/
def autoFormSpec : ChangeSpec := { name := "autoForm", fn := fun _ => fun
  | [d1, d2, d3] => { results := [.lit (.bool true)], args := [d1, d2, d3] }
  | _ => none }
def autoFormRow : OpenClaim := { program := "ytjclbjdkkdijbaagreat", sum := "2644ebec0c9ac2bd2dc586b2889767824dbf5ddde05007316ada58fabbd06632", func := "enthymeme/enthymemelaw05.AutoForm", spec := "autoForm", unfollowed := true, recurses := true, plainKeys := false, apart := false }
def AutoFormSaid : Prop := autoFormRow.holds Tryz.pinned (OpenSpec.ofChange autoFormSpec)

/-- ITS FALSE NEIGHBOUR: 'it returns false'. Refute it at one input. -/
def autoFormWrong : ChangeSpec := { name := "autoForm", fn := fun _ => fun
  | [d1, d2, d3] => { results := [.lit (.bool false)], args := [d1, d2, d3] }
  | _ => none }
def AutoFormWrongFalsely : Prop := autoFormRow.holds Tryz.pinned (OpenSpec.ofChange autoFormWrong)

/- THE SECOND FORM. 'bulk': how many values and letters a reading holds, each counted each time it is reached (what is shared counts as often as it is met; a slice's spare places count too). A statement '..UptoSaid' is the law's where the arguments, and the package variables that the reading takes, are together of bulk at most 1048576: NARROWER than '..Said'. Prove '..Said' where nothing that the law and all that it calls make is longer than what came in: it says more and counts as full. Else prove '..UptoSaid'. A law counts once. -/
mutual
def uptoBulk {H : Type} : DataW H → Nat
  | .lit (.string bytes) => bytes.length + 1
  | .lit _ => 1
  | .nil => 1
  | .ptr d => uptoBulk d + 1
  | .slice elems spare => uptoBulkAll elems + uptoBulkAll spare + 1
  | .agg parts => uptoBulkAll parts + 1
  | .iface _ d => uptoBulk d + 1
  | .map entries => uptoBulkEntries entries + 1
  | .held _ => 1
def uptoBulkAll {H : Type} : List (DataW H) → Nat
  | [] => 0
  | d :: r => uptoBulk d + uptoBulkAll r
def uptoBulkEntries {H : Type} : List (Lit × DataW H) → Nat
  | [] => 0
  | x :: r => uptoBulkEntry x + uptoBulkEntries r
def uptoBulkEntry {H : Type} : Lit × DataW H → Nat
  | (.string bytes, d) => bytes.length + uptoBulk d + 1
  | (_, d) => uptoBulk d + 1
 end
def uptoSmall : (H : Type) → List (DataW H) → Bool := fun _ ds => decide (uptoBulkAll ds ≤ 1048576)
def OpenSpec.upto (s : _root_.Go.ChangeSpec) : _root_.Go.OpenSpec := { _root_.Go.OpenSpec.ofChange s with cond := some uptoSmall }

/-- 'enthymemelaw05.AutoOf', WHERE WHAT IT READS IS OF BULK AT MOST 1048576: true; the input reads as it did. -/
def autoOfUptoRow : OpenClaim := { program := "ytjclbjdkkdijbaagreat", sum := "2644ebec0c9ac2bd2dc586b2889767824dbf5ddde05007316ada58fabbd06632", func := "enthymeme/enthymemelaw05.AutoOf", spec := "autoOf", unfollowed := true, recurses := true, plainKeys := false, apart := false, narrowed := true }
def AutoOfUptoSaid : Prop := autoOfUptoRow.holds Tryz.pinned (OpenSpec.upto autoOfSpec)

/-- 'enthymemelaw05.AutoWords', WHERE WHAT IT READS IS OF BULK AT MOST 1048576: true; the input reads as it did. -/
def autoWordsUptoRow : OpenClaim := { program := "ytjclbjdkkdijbaagreat", sum := "2644ebec0c9ac2bd2dc586b2889767824dbf5ddde05007316ada58fabbd06632", func := "enthymeme/enthymemelaw05.AutoWords", spec := "autoWords", unfollowed := true, recurses := true, plainKeys := false, apart := false, narrowed := true }
def AutoWordsUptoSaid : Prop := autoWordsUptoRow.holds Tryz.pinned (OpenSpec.upto autoWordsSpec)

/-- 'enthymemelaw05.AutoRuns', WHERE WHAT IT READS IS OF BULK AT MOST 1048576: true; the input reads as it did. -/
def autoRunsUptoRow : OpenClaim := { program := "ytjclbjdkkdijbaagreat", sum := "2644ebec0c9ac2bd2dc586b2889767824dbf5ddde05007316ada58fabbd06632", func := "enthymeme/enthymemelaw05.AutoRuns", spec := "autoRuns", unfollowed := true, recurses := true, plainKeys := false, apart := false, narrowed := true }
def AutoRunsUptoSaid : Prop := autoRunsUptoRow.holds Tryz.pinned (OpenSpec.upto autoRunsSpec)

/-- 'enthymemelaw05.AutoMinimal', WHERE WHAT IT READS IS OF BULK AT MOST 1048576: true; the input reads as it did. -/
def autoMinimalUptoRow : OpenClaim := { program := "ytjclbjdkkdijbaagreat", sum := "2644ebec0c9ac2bd2dc586b2889767824dbf5ddde05007316ada58fabbd06632", func := "enthymeme/enthymemelaw05.AutoMinimal", spec := "autoMinimal", unfollowed := true, recurses := true, plainKeys := false, apart := false, narrowed := true }
def AutoMinimalUptoSaid : Prop := autoMinimalUptoRow.holds Tryz.pinned (OpenSpec.upto autoMinimalSpec)

/-- 'enthymemelaw05.AutoCombined', WHERE WHAT IT READS IS OF BULK AT MOST 1048576: true; the input reads as it did. -/
def autoCombinedUptoRow : OpenClaim := { program := "ytjclbjdkkdijbaagreat", sum := "2644ebec0c9ac2bd2dc586b2889767824dbf5ddde05007316ada58fabbd06632", func := "enthymeme/enthymemelaw05.AutoCombined", spec := "autoCombined", unfollowed := true, recurses := true, plainKeys := false, apart := false, narrowed := true }
def AutoCombinedUptoSaid : Prop := autoCombinedUptoRow.holds Tryz.pinned (OpenSpec.upto autoCombinedSpec)

/-- 'enthymemelaw05.AutoSets', WHERE WHAT IT READS IS OF BULK AT MOST 1048576: true; the input reads as it did. -/
def autoSetsUptoRow : OpenClaim := { program := "ytjclbjdkkdijbaagreat", sum := "2644ebec0c9ac2bd2dc586b2889767824dbf5ddde05007316ada58fabbd06632", func := "enthymeme/enthymemelaw05.AutoSets", spec := "autoSets", unfollowed := true, recurses := true, plainKeys := false, apart := false, narrowed := true }
def AutoSetsUptoSaid : Prop := autoSetsUptoRow.holds Tryz.pinned (OpenSpec.upto autoSetsSpec)

/-- 'enthymemelaw05.AutoMatch', WHERE WHAT IT READS IS OF BULK AT MOST 1048576: true; the input reads as it did. -/
def autoMatchUptoRow : OpenClaim := { program := "ytjclbjdkkdijbaagreat", sum := "2644ebec0c9ac2bd2dc586b2889767824dbf5ddde05007316ada58fabbd06632", func := "enthymeme/enthymemelaw05.AutoMatch", spec := "autoMatch", unfollowed := true, recurses := true, plainKeys := false, apart := false, narrowed := true }
def AutoMatchUptoSaid : Prop := autoMatchUptoRow.holds Tryz.pinned (OpenSpec.upto autoMatchSpec)

/-- 'enthymemelaw05.AutoForm', WHERE WHAT IT READS IS OF BULK AT MOST 1048576: true; the input reads as it did. -/
def autoFormUptoRow : OpenClaim := { program := "ytjclbjdkkdijbaagreat", sum := "2644ebec0c9ac2bd2dc586b2889767824dbf5ddde05007316ada58fabbd06632", func := "enthymeme/enthymemelaw05.AutoForm", spec := "autoForm", unfollowed := true, recurses := true, plainKeys := false, apart := false, narrowed := true }
def AutoFormUptoSaid : Prop := autoFormUptoRow.holds Tryz.pinned (OpenSpec.upto autoFormSpec)

end Rows
end Go.Proofs.YtjclbjdkkdijbaaGreat
