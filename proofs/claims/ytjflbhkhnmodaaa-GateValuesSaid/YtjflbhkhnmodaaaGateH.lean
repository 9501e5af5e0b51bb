/- Walks through the reference of gates: Spoilt. Conditions: none. -/
import Derived.Test.YtjflbhkhnmodaaaGateG
import Derived.Test.YtjflbhkhnmodaaaReg3
set_option linter.unusedVariables false
set_option linter.unusedSimpArgs false
set_option linter.unusedSectionVars false
open Go.RowKit
namespace Go.Proofs.Ytjflbhkhnmodaaa
open L
namespace Gate
open Cla R14 R01
def spoils (o y : Int) : List Int := [y, 0, -1, 1073741824, 1073741825, -1073741824, -1073741825, o, -o]
theorem spoils_i64 {o y : Int} (ho1 : 1 ≤ o) (ho2 : o ≤ 1000) (hy : IsI64 y) : ∀ x ∈ spoils o y, IsI64 x := by
  intro x hx
  unfold IsI64 at hy ⊢
  simp only [spoils, List.mem_cons, List.not_mem_nil, or_false] at hx
  omega
/-- A gate that was spoilt. -/
def SpoT (w : World) (e : Ending) (w' : World) : Prop :=
  ∃ (k o : Int) (xs : List Int) (v : Value), e = .returned (.agg #[.int .i64 k, .int .i64 o, v]) ∧ IsI64 k ∧ IsI64 o ∧ (∀ x ∈ xs, IsI64 x) ∧ SL w' 1 v xs.length (ints xs) ∧ Upd [] w w'
/-- The same, and the slice is new. -/
def SpoF (w : World) (e : Ending) (w' : World) : Prop :=
  ∃ (k o : Int) (xs : List Int) (v : Value), e = .returned (.agg #[.int .i64 k, .int .i64 o, v]) ∧ IsI64 k ∧ IsI64 o ∧ (∀ x ∈ xs, IsI64 x) ∧ SL w' 1 v xs.length (ints xs) ∧ Upd [] w w' ∧ ∀ b, v.ownBlock = some b → w.heap.size ≤ b
section
variable {w : World}
end
end Gate
end Go.Proofs.Ytjflbhkhnmodaaa
