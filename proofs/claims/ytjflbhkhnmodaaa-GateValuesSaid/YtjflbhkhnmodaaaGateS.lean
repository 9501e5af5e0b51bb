/- Walks through the reference of gates: Valid, Clauses. Conditions: none. -/
import Derived.Test.YtjflbhkhnmodaaaGateR
set_option linter.unusedVariables false
set_option linter.unusedSimpArgs false
set_option linter.unusedSectionVars false
open Go.RowKit
namespace Go.Proofs.Ytjflbhkhnmodaaa
open L
namespace Gate
open Cla R14 R01
section
variable {w : World}
theorem gErr_no {k o : Int} {xs : List Int} (h : ¬ gOk k o xs = true) : gErr k o xs = 1 := gErr_bad (by simpa using h)
theorem raw_row {k o : Int} {xs : List Int} {i : Nat} (hi : i < (rowsOf k).length) : (gRaw k o xs).getD i [] = ((rowsOf k).getD i []).map (litOf o xs) := by
  unfold gRaw
  simp [List.getD_eq_getElem?_getD, hi]
end
end Gate
end Go.Proofs.Ytjflbhkhnmodaaa
