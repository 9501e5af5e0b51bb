/- Walks through package clause: Compact, collected, Normal. Conditions: none. -/
import Derived.Test.YtdhhohnaehdpkaaSort2
set_option linter.unusedVariables false
set_option linter.unusedSimpArgs false
set_option linter.unusedSectionVars false
open Go.RowKit
namespace Go.Proofs.Ytdhhohnaehdpkaa
open L
namespace Cla
open R01 R14 Go.Sort
section
variable {w : World}
theorem gd_norm {c : List Int} {k : Nat} (hk : k < (norm c).length) (h : ∀ x ∈ c, LitR x) : LitR ((norm c).getD k 0) := h _ ((norm_mem c _).1 (gd_mem hk))
def oppB (c : List Int) : Bool := oppo (norm c)
/-- What Normal returns. -/
def nB (c : List Int) : Bool := decide (listErr c = 0 ∧ taut c = true)
def nL (c : List Int) : List Int := if listErr c = 0 then nrm c else []
def TrioF (l : List Int) (b : Bool) (r : Int) (w : World) (e : Ending) (w' : World) : Prop := ∃ v, e = .returned (.tuple #[v, .bool b, .int .i64 r]) ∧ SL w' 1 v l.length (ints l) ∧ Upd [] w w' ∧ ∀ g, v.ownBlock = some g → w.heap.size ≤ g
def TrioT (l : List Int) (b : Bool) (r : Int) (w : World) (e : Ending) (w' : World) : Prop := ∃ v, e = .returned (.tuple #[v, .bool b, .int .i64 r]) ∧ SL w' 1 v l.length (ints l) ∧ Upd [] w w'
end
end Cla
end Go.Proofs.Ytdhhohnaehdpkaa
