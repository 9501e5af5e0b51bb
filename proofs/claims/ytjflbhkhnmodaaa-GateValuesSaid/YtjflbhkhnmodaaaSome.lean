/- Walks through the reference of clauses: Some, Var. Conditions: none. -/
import Derived.Test.YtjflbhkhnmodaaaOwn
set_option linter.unusedVariables false
set_option linter.unusedSimpArgs false
set_option linter.unusedSectionVars false
open Go.RowKit
namespace Go.Proofs.Ytjflbhkhnmodaaa
open L
namespace R14
open R01
section
variable {w : World}
def SomeT (vars : Int) (w : World) (e : Ending) (w' : World) : Prop :=
  ∃ v xs, e = .returned v ∧ Own w v xs w' ∧ (∀ x ∈ xs, 1 ≤ x.natAbs ∧ (x.natAbs : Int) ≤ vars) ∧ xs.length ≤ vars.toNat
end
end R14
end Go.Proofs.Ytjflbhkhnmodaaa
