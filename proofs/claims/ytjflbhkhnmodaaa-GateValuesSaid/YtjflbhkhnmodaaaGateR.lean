/- Walks through the reference of gates: Inputs, Valid, rows, literal, Clauses. Conditions: none. -/
import Derived.Test.YtjflbhkhnmodaaaGateC
set_option linter.unusedVariables false
set_option linter.unusedSimpArgs false
set_option linter.unusedSectionVars false
open Go.RowKit
namespace Go.Proofs.Ytjflbhkhnmodaaa
open L
namespace Gate
open Cla R14 R01
section
variable {w : World}
def inps : List Int := [1, 2, 2, 2, 3, 3, 3]
set_option maxRecDepth 100000 in
set_option maxHeartbeats 8000000 in
theorem InputsR_calls (k : Int) (h0 : 0 ≤ k) (h6 : k ≤ 6) : Calls Try.prog 4 #[.int .i64 k] w fun e w' => e = .returned (.int .i64 (ninp k)) ∧ Upd [] w w' := by
  have HU := Lib.hid ((Upd.refl [] w).alloc (.cells (ints inps).toArray 3))
  rcases (by omega : k = 0 ∨ k = 1 ∨ k = 2 ∨ k = 3 ∨ k = 4 ∨ k = 5 ∨ k = 6) with rfl | rfl | rfl | rfl | rfl | rfl | rfl
  all_goals
    go_enter Try.func4, Try.ntmps4
    go_wp2_with fail
    go_ret
    exact ⟨rfl, HU.out⟩
end
end Gate
end Go.Proofs.Ytjflbhkhnmodaaa
