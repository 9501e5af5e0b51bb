/-
  No cell of these rows narrows 'for every input' (looked for: loops, veiled, ifaces, maps, wideKeys, modest, calm, conditions, laid).
  DERIVED. THE GIVEN ROWS OF THIS SEAT. 6 by the template 'for every input the law returns true; each argument reads behind the call as it read before'; 0 by the template 'total and deterministic' (their statements: YtdhhohnaehdpkaaTotals.lean).
  GIVEN WITH THE SEED: the statements are not yours to turn. If you find one false, say at which input.
  Laid BY PROGRAM, IN A SANDBOX (cutbox-rows.mjs): the forced cells as the released guide's own fill.sh prints them over the translation 2fe6429ca6a9c89b… (all of the seat's roots in one cut). By AI agents, Wed Nov 11 2026. No macro, syntax, notation, axiom, sorry.
-/
import Derived.Test.YtdhhohnaehdpkaaChecked
import GoSem.Claim
import GoSem.ClaimJoined
import GoSem.ClaimMapViews
import Derived.JoinedTies
import Derived.KernelRfl
namespace Go.Proofs.Ytdhhohnaehdpkaa
/- THE CELL 'sum', in the pinned program and in every row, IS THE sha256 OF THE DUMP (.gsa) THAT YtdhhohnaehdpkaaProg.lean LOADS. Nothing in Lean hashes anything: it is a label: what it is worth is what the hold of that sum in a sandbox is worth. -/
noncomputable def Try.pinned : Pinned := { name := "ytdhhohnaehdpkaa", sum := "2fe6429ca6a9c89b95587c91ad9067bce7c382708482231e50ff0080ddee4138", checked := Try.checked }
namespace Rows
def none {H : Type} : Left H := { results := [], args := [] }

/-- 'enthymemelaw18.LearnAnalyzes': WHATEVER THE INPUT: true; the input reads as it did. -/
def learnAnalyzesSpec : ChangeSpec := { name := "learnAnalyzes", fn := fun _ => fun
  | [d1, d2, d3, d4, d5] => { results := [.lit (.bool true)], args := [d1, d2, d3, d4, d5] }
  | _ => none }
def learnAnalyzesRow : OpenClaim := { program := "ytdhhohnaehdpkaa", sum := "2fe6429ca6a9c89b95587c91ad9067bce7c382708482231e50ff0080ddee4138", func := "enthymeme/enthymemelaw18.LearnAnalyzes", spec := "learnAnalyzes", unfollowed := true, recurses := true, apart := false }
def LearnAnalyzesSaid : Prop := learnAnalyzesRow.holds Try.pinned (OpenSpec.ofChange learnAnalyzesSpec)

/-- ITS FALSE NEIGHBOUR: 'it returns false'. Refute it at one input. -/
def learnAnalyzesWrong : ChangeSpec := { name := "learnAnalyzes", fn := fun _ => fun
  | [d1, d2, d3, d4, d5] => { results := [.lit (.bool false)], args := [d1, d2, d3, d4, d5] }
  | _ => none }
def LearnAnalyzesWrongFalsely : Prop := learnAnalyzesRow.holds Try.pinned (OpenSpec.ofChange learnAnalyzesWrong)

/-- 'enthymemelaw18.LearnOthers': WHATEVER THE INPUT: true; the input reads as it did. -/
def learnOthersSpec : ChangeSpec := { name := "learnOthers", fn := fun _ => fun
  | [d1, d2, d3] => { results := [.lit (.bool true)], args := [d1, d2, d3] }
  | _ => none }
def learnOthersRow : OpenClaim := { program := "ytdhhohnaehdpkaa", sum := "2fe6429ca6a9c89b95587c91ad9067bce7c382708482231e50ff0080ddee4138", func := "enthymeme/enthymemelaw18.LearnOthers", spec := "learnOthers", unfollowed := true, recurses := true, apart := false }
def LearnOthersSaid : Prop := learnOthersRow.holds Try.pinned (OpenSpec.ofChange learnOthersSpec)

/-- ITS FALSE NEIGHBOUR: 'it returns false'. Refute it at one input. -/
def learnOthersWrong : ChangeSpec := { name := "learnOthers", fn := fun _ => fun
  | [d1, d2, d3] => { results := [.lit (.bool false)], args := [d1, d2, d3] }
  | _ => none }
def LearnOthersWrongFalsely : Prop := learnOthersRow.holds Try.pinned (OpenSpec.ofChange learnOthersWrong)

/-- 'enthymemelaw18.LearnFollows': WHATEVER THE INPUT: true; the input reads as it did. -/
def learnFollowsSpec : ChangeSpec := { name := "learnFollows", fn := fun _ => fun
  | [d1, d2] => { results := [.lit (.bool true)], args := [d1, d2] }
  | _ => none }
def learnFollowsRow : OpenClaim := { program := "ytdhhohnaehdpkaa", sum := "2fe6429ca6a9c89b95587c91ad9067bce7c382708482231e50ff0080ddee4138", func := "enthymeme/enthymemelaw18.LearnFollows", spec := "learnFollows", unfollowed := true, recurses := true, apart := false }
def LearnFollowsSaid : Prop := learnFollowsRow.holds Try.pinned (OpenSpec.ofChange learnFollowsSpec)

/-- ITS FALSE NEIGHBOUR: 'it returns false'. Refute it at one input. -/
def learnFollowsWrong : ChangeSpec := { name := "learnFollows", fn := fun _ => fun
  | [d1, d2] => { results := [.lit (.bool false)], args := [d1, d2] }
  | _ => none }
def LearnFollowsWrongFalsely : Prop := learnFollowsRow.holds Try.pinned (OpenSpec.ofChange learnFollowsWrong)

/-- 'enthymemelaw18.LearnKeeps': WHATEVER THE INPUT: true; the input reads as it did. -/
def learnKeepsSpec : ChangeSpec := { name := "learnKeeps", fn := fun _ => fun
  | [d1, d2, d3] => { results := [.lit (.bool true)], args := [d1, d2, d3] }
  | _ => none }
def learnKeepsRow : OpenClaim := { program := "ytdhhohnaehdpkaa", sum := "2fe6429ca6a9c89b95587c91ad9067bce7c382708482231e50ff0080ddee4138", func := "enthymeme/enthymemelaw18.LearnKeeps", spec := "learnKeeps", unfollowed := true, recurses := true, apart := false }
def LearnKeepsSaid : Prop := learnKeepsRow.holds Try.pinned (OpenSpec.ofChange learnKeepsSpec)

/-- ITS FALSE NEIGHBOUR: 'it returns false'. Refute it at one input. -/
def learnKeepsWrong : ChangeSpec := { name := "learnKeeps", fn := fun _ => fun
  | [d1, d2, d3] => { results := [.lit (.bool false)], args := [d1, d2, d3] }
  | _ => none }
def LearnKeepsWrongFalsely : Prop := learnKeepsRow.holds Try.pinned (OpenSpec.ofChange learnKeepsWrong)

/-- 'enthymemelaw18.LearnShows': WHATEVER THE INPUT: true; the input reads as it did. -/
def learnShowsSpec : ChangeSpec := { name := "learnShows", fn := fun _ => fun
  | [d1, d2] => { results := [.lit (.bool true)], args := [d1, d2] }
  | _ => none }
def learnShowsRow : OpenClaim := { program := "ytdhhohnaehdpkaa", sum := "2fe6429ca6a9c89b95587c91ad9067bce7c382708482231e50ff0080ddee4138", func := "enthymeme/enthymemelaw18.LearnShows", spec := "learnShows", unfollowed := true, recurses := true, apart := false }
def LearnShowsSaid : Prop := learnShowsRow.holds Try.pinned (OpenSpec.ofChange learnShowsSpec)

/-- ITS FALSE NEIGHBOUR: 'it returns false'. Refute it at one input. -/
def learnShowsWrong : ChangeSpec := { name := "learnShows", fn := fun _ => fun
  | [d1, d2] => { results := [.lit (.bool false)], args := [d1, d2] }
  | _ => none }
def LearnShowsWrongFalsely : Prop := learnShowsRow.holds Try.pinned (OpenSpec.ofChange learnShowsWrong)

/-- 'enthymemelaw18.LearnForces': WHATEVER THE INPUT: true; the input reads as it did. -/
def learnForcesSpec : ChangeSpec := { name := "learnForces", fn := fun _ => fun
  | [d1, d2] => { results := [.lit (.bool true)], args := [d1, d2] }
  | _ => none }
def learnForcesRow : OpenClaim := { program := "ytdhhohnaehdpkaa", sum := "2fe6429ca6a9c89b95587c91ad9067bce7c382708482231e50ff0080ddee4138", func := "enthymeme/enthymemelaw18.LearnForces", spec := "learnForces", unfollowed := true, recurses := true, apart := false }
def LearnForcesSaid : Prop := learnForcesRow.holds Try.pinned (OpenSpec.ofChange learnForcesSpec)

/-- ITS FALSE NEIGHBOUR: 'it returns false'. Refute it at one input. -/
def learnForcesWrong : ChangeSpec := { name := "learnForces", fn := fun _ => fun
  | [d1, d2] => { results := [.lit (.bool false)], args := [d1, d2] }
  | _ => none }
def LearnForcesWrongFalsely : Prop := learnForcesRow.holds Try.pinned (OpenSpec.ofChange learnForcesWrong)

/- THE SECOND FORM. 'bulk': how many values and letters a reading holds, each counted each time it is reached (what is shared counts as often as it is met; a slice's spare places count too). A statement '..UptoSaid' is the law's where the arguments, and the package variables that the reading takes, are together of bulk at most 1048576: NARROWER than '..Said'. Prove '..Said' where nothing that the law and all that it calls make is longer than what came in: it says more and counts as full. Else prove '..UptoSaid'. A law counts once. -/
mutual
def uptoBulk {H : Type} : DataW H → Nat
  | .lit (.string bytes) => bytes.length + 1
  | .lit _ => 1
  | .nil => 1
  | .ptr d => uptoBulk d + 1
  | .slice elems spare => uptoBulkAll elems + uptoBulkAll spare + 1
  | .agg parts => uptoBulkAll parts + 1
  | .iface _ d => uptoBulk d + 1
  | .map entries => uptoBulkEntries entries + 1
  | .held _ => 1
def uptoBulkAll {H : Type} : List (DataW H) → Nat
  | [] => 0
  | d :: r => uptoBulk d + uptoBulkAll r
def uptoBulkEntries {H : Type} : List (Lit × DataW H) → Nat
  | [] => 0
  | x :: r => uptoBulkEntry x + uptoBulkEntries r
def uptoBulkEntry {H : Type} : Lit × DataW H → Nat
  | (.string bytes, d) => bytes.length + uptoBulk d + 1
  | (_, d) => uptoBulk d + 1
 end
def uptoSmall : (H : Type) → List (DataW H) → Bool := fun _ ds => decide (uptoBulkAll ds ≤ 1048576)
def OpenSpec.upto (s : _root_.Go.ChangeSpec) : _root_.Go.OpenSpec := { _root_.Go.OpenSpec.ofChange s with cond := some uptoSmall }

/-- 'enthymemelaw18.LearnAnalyzes', WHERE WHAT IT READS IS OF BULK AT MOST 1048576: true; the input reads as it did. -/
def learnAnalyzesUptoRow : OpenClaim := { program := "ytdhhohnaehdpkaa", sum := "2fe6429ca6a9c89b95587c91ad9067bce7c382708482231e50ff0080ddee4138", func := "enthymeme/enthymemelaw18.LearnAnalyzes", spec := "learnAnalyzes", unfollowed := true, recurses := true, apart := false, narrowed := true }
def LearnAnalyzesUptoSaid : Prop := learnAnalyzesUptoRow.holds Try.pinned (OpenSpec.upto learnAnalyzesSpec)

/-- 'enthymemelaw18.LearnOthers', WHERE WHAT IT READS IS OF BULK AT MOST 1048576: true; the input reads as it did. -/
def learnOthersUptoRow : OpenClaim := { program := "ytdhhohnaehdpkaa", sum := "2fe6429ca6a9c89b95587c91ad9067bce7c382708482231e50ff0080ddee4138", func := "enthymeme/enthymemelaw18.LearnOthers", spec := "learnOthers", unfollowed := true, recurses := true, apart := false, narrowed := true }
def LearnOthersUptoSaid : Prop := learnOthersUptoRow.holds Try.pinned (OpenSpec.upto learnOthersSpec)

/-- 'enthymemelaw18.LearnFollows', WHERE WHAT IT READS IS OF BULK AT MOST 1048576: true; the input reads as it did. -/
def learnFollowsUptoRow : OpenClaim := { program := "ytdhhohnaehdpkaa", sum := "2fe6429ca6a9c89b95587c91ad9067bce7c382708482231e50ff0080ddee4138", func := "enthymeme/enthymemelaw18.LearnFollows", spec := "learnFollows", unfollowed := true, recurses := true, apart := false, narrowed := true }
def LearnFollowsUptoSaid : Prop := learnFollowsUptoRow.holds Try.pinned (OpenSpec.upto learnFollowsSpec)

/-- 'enthymemelaw18.LearnKeeps', WHERE WHAT IT READS IS OF BULK AT MOST 1048576: true; the input reads as it did. -/
def learnKeepsUptoRow : OpenClaim := { program := "ytdhhohnaehdpkaa", sum := "2fe6429ca6a9c89b95587c91ad9067bce7c382708482231e50ff0080ddee4138", func := "enthymeme/enthymemelaw18.LearnKeeps", spec := "learnKeeps", unfollowed := true, recurses := true, apart := false, narrowed := true }
def LearnKeepsUptoSaid : Prop := learnKeepsUptoRow.holds Try.pinned (OpenSpec.upto learnKeepsSpec)

/-- 'enthymemelaw18.LearnShows', WHERE WHAT IT READS IS OF BULK AT MOST 1048576: true; the input reads as it did. -/
def learnShowsUptoRow : OpenClaim := { program := "ytdhhohnaehdpkaa", sum := "2fe6429ca6a9c89b95587c91ad9067bce7c382708482231e50ff0080ddee4138", func := "enthymeme/enthymemelaw18.LearnShows", spec := "learnShows", unfollowed := true, recurses := true, apart := false, narrowed := true }
def LearnShowsUptoSaid : Prop := learnShowsUptoRow.holds Try.pinned (OpenSpec.upto learnShowsSpec)

/-- 'enthymemelaw18.LearnForces', WHERE WHAT IT READS IS OF BULK AT MOST 1048576: true; the input reads as it did. -/
def learnForcesUptoRow : OpenClaim := { program := "ytdhhohnaehdpkaa", sum := "2fe6429ca6a9c89b95587c91ad9067bce7c382708482231e50ff0080ddee4138", func := "enthymeme/enthymemelaw18.LearnForces", spec := "learnForces", unfollowed := true, recurses := true, apart := false, narrowed := true }
def LearnForcesUptoSaid : Prop := learnForcesUptoRow.holds Try.pinned (OpenSpec.upto learnForcesSpec)

end Rows
end Go.Proofs.Ytdhhohnaehdpkaa
