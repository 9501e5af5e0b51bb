/- Walks through the reference of clauses: Some, Var. Conditions: none. -/
import Derived.Test.YtdhhohnaehdpkaaOwn
set_option linter.unusedVariables false
set_option linter.unusedSimpArgs false
set_option linter.unusedSectionVars false
open Go.RowKit
namespace Go.Proofs.Ytdhhohnaehdpkaa
open L
namespace R14
open R01
section
variable {w : World}
def SomeT (vars : Int) (w : World) (e : Ending) (w' : World) : Prop :=
  ∃ v xs, e = .returned v ∧ Own w v xs w' ∧ (∀ x ∈ xs, 1 ≤ x.natAbs ∧ (x.natAbs : Int) ≤ vars) ∧ xs.length ≤ vars.toNat
theorem Var_calls (n : Int) (w : World) (hn : -9223372036854775808 < n) (h2 : n ≤ 9223372036854775807) : Calls Try.prog 74 #[.int .i64 n] w fun e w' => e = .returned (.int .i64 (n.natAbs : Int)) ∧ w = w' := by
  by_cases h : n < 0
  · go_enter Try.func74, Try.ntmps74
    go_wp2_with fail
    go_ret
    exact ⟨ret_int (by omega), rfl⟩
  · go_enter Try.func74, Try.ntmps74
    go_wp2_with fail
    go_ret
    exact ⟨ret_int (by omega), rfl⟩
end
end R14
end Go.Proofs.Ytdhhohnaehdpkaa
