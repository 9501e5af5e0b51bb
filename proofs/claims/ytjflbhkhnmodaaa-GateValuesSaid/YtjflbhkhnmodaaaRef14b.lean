/- Walks through the reference of clauses: Normal, without, Value, True, Subsumes, State. Conditions: none. -/
import Derived.Test.YtjflbhkhnmodaaaRef14
set_option linter.unusedVariables false
set_option linter.unusedSimpArgs false
set_option linter.unusedSectionVars false
open Go.RowKit
namespace Go.Proofs.Ytjflbhkhnmodaaa
open L
namespace Cla
open R01 R14
def nrm (c : List Int) : List Int := if taut c = true then [] else norm c
def tautB (c : List Int) : Bool := taut c
theorem taut_no {c : List Int} : taut c = false ↔ ∀ x ∈ c, -x ∉ c := by
  unfold taut
  rw [List.any_eq_false]
  constructor
  · intro h x hx h2; exact h x hx (List.contains_iff_mem.2 h2)
  · intro h x hx h2; exact h x hx (List.contains_iff_mem.1 h2)
theorem taut_yes {c : List Int} {x : Int} (hx : x ∈ c) (h : -x ∈ c) : taut c = true := by
  unfold taut
  rw [List.any_eq_true]
  exact ⟨x, hx, List.contains_iff_mem.2 h⟩
theorem putAll_length (c : List Int) : (putAll c).length ≤ c.length := by
  unfold putAll
  have : ∀ (c l : List Int), (c.foldl put l).length ≤ l.length + c.length := by
    intro c
    induction c with
    | nil => intro l; simp
    | cons x c ih => intro l; rw [List.foldl_cons]; have := ih (put l x); have := put_length l x; simp; omega
  have := this c []
  simpa using this
section
variable {w : World}
def PairF (l : List Int) (b : Bool) (w : World) (e : Ending) (w' : World) : Prop := ∃ v, e = .returned (.tuple #[v, .bool b]) ∧ SL w' 1 v l.length (ints l) ∧ Upd [] w w' ∧ ∀ g, v.ownBlock = some g → w.heap.size ≤ g
def PairT (l : List Int) (b : Bool) (w : World) (e : Ending) (w' : World) : Prop := ∃ v, e = .returned (.tuple #[v, .bool b]) ∧ SL w' 1 v l.length (ints l) ∧ Upd [] w w'
def wout (c : List Int) (n : Int) : List Int := c.filter fun x => x != n
/-- Is a clause true under an assignment? -/
def trueB (c a : List Int) : Bool := c.any fun x => lval a x == 1
/-- What Subsumes returns. -/
def subsB (a b : List Int) : Bool := decide (listErr a = 0 ∧ listErr b = 0 ∧ ∀ x ∈ a, x ∈ b)
def subsE (a b : List Int) : Int := if listErr a ≠ 0 then listErr a else listErr b
end
end Cla
end Go.Proofs.Ytjflbhkhnmodaaa
