/- Walks through the reference of clauses: Put, Normal, without, Value, State, Subsumes, True. Conditions: none. -/
import Derived.Test.YtjflbhkhnmodaaaVal
import Derived.Test.YtjflbhkhnmodaaaLists
set_option linter.unusedVariables false
set_option linter.unusedSimpArgs false
set_option linter.unusedSectionVars false
open Go.RowKit
namespace Go.Proofs.Ytjflbhkhnmodaaa
open L
namespace Cla
open R01 R14
attribute [-go_sem] sliced
theorem putAt_le (l : List Int) (n : Int) : putAt l n ≤ l.length := (List.takeWhile_prefix _).length_le
theorem putAt_eq {l : List Int} {n : Int} {k : Nat} (hk : k ≤ l.length) (h1 : ∀ j, j < k → (l.getD j 0).natAbs < n.natAbs) (h2 : k < l.length → ¬ (l.getD k 0).natAbs < n.natAbs) : putAt l n = k := by
  unfold putAt
  induction k generalizing l with
  | zero =>
    cases l with
    | nil => rfl
    | cons x l => have := h2 (by simp); simp at this; simp [List.takeWhile_cons, this]
  | succ k ih =>
    cases l with
    | nil => simp at hk
    | cons x l =>
      have h0 := h1 0 (by omega)
      simp at h0
      simp only [List.takeWhile_cons, h0, decide_true, if_true, List.length_cons]
      rw [ih (by simpa using hk) (fun j hj => by simpa using h1 (j + 1) (by omega)) (fun hl => by simpa using h2 (by simpa using hl))]
section
variable {w : World}
def SlT (l : List Int) (w : World) (e : Ending) (w' : World) : Prop := ∃ v, e = .returned v ∧ SL w' 1 v l.length (ints l) ∧ Upd [] w w'
def SlF (l : List Int) (v0 : Value) (w : World) (e : Ending) (w' : World) : Prop := ∃ v, e = .returned v ∧ SL w' 1 v l.length (ints l) ∧ Upd [] w w' ∧ ∀ g, v.ownBlock = some g → v0.ownBlock = some g ∨ w.heap.size ≤ g
def LitR (x : Int) : Prop := -1073741824 ≤ x ∧ x ≤ 1073741824
end
end Cla
end Go.Proofs.Ytjflbhkhnmodaaa
