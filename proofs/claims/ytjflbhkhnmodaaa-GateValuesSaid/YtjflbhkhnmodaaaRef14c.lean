/- Walks through the reference of clauses: Resolve, State. Conditions: none. -/
import Derived.Test.YtjflbhkhnmodaaaResolve
set_option linter.unusedVariables false
set_option linter.unusedSimpArgs false
set_option linter.unusedSectionVars false
open Go.RowKit
namespace Go.Proofs.Ytjflbhkhnmodaaa
open L
namespace Cla
open R01 R14
section
variable {w : World}
theorem badV_iff {a : List Int} {x : Int} : badV a x = true ↔ a.length ≤ x.natAbs ∨ a.getD x.natAbs 0 < -1 ∨ 1 < a.getD x.natAbs 0 := by
  simp [badV, or_assoc]
end
end Cla
end Go.Proofs.Ytjflbhkhnmodaaa
