/- Walks through package clause and its reference: Resolve. Conditions: none. -/
import Derived.Test.YtjflbhkhnmodaaaColl
import Derived.Test.YtjflbhkhnmodaaaChain
set_option linter.unusedVariables false
set_option linter.unusedSimpArgs false
set_option linter.unusedSectionVars false
open Go.RowKit
namespace Go.Proofs.Ytjflbhkhnmodaaa
open L
namespace Cla
open R01 R14
def rest2 (a b : List Int) (x : Int) : List Int := wout a x ++ wout b (-x)
def resE (a b : List Int) (x : Int) : Int := if validErr a ≠ 0 then validErr a else if validErr b ≠ 0 then validErr b else if hasB a x = false ∨ hasB b (-x) = false then 7 else if taut (rest2 a b x) = true then 13 else 0
def resL (a b : List Int) (x : Int) : List Int := if resE a b x = 0 then norm (rest2 a b x) else []
def PairE (l : List Int) (r : Int) (w : World) (e : Ending) (w' : World) : Prop := ∃ v, e = .returned (.tuple #[v, .int .i64 r]) ∧ SL w' 1 v l.length (ints l) ∧ Upd [] w w'
theorem wout_mem {c : List Int} {n x : Int} : x ∈ wout c n ↔ x ∈ c ∧ x ≠ n := by simp [wout]
theorem wout_length (c : List Int) (n : Int) : (wout c n).length ≤ c.length := List.length_filter_le _ _
theorem wout_snoc (c : List Int) (n x : Int) : wout (c ++ [x]) n = wout c n ++ if x = n then [] else [x] := by
  unfold wout
  rw [List.filter_append]
  by_cases h : x = n <;> simp [h]
section
variable {w : World}
theorem resL_nil {a b : List Int} {x : Int} (h : resE a b x ≠ 0) : resL a b x = [] := by unfold resL; rw [if_neg h]
theorem ret_nil {a b : List Int} {x r : Int} {w w' : World} (h : resE a b x = r) (h0 : r ≠ 0) (hu : Upd [] w w') : PairE (resL a b x) (resE a b x) w (.returned (.tuple #[.slice none 0 0, .int .i64 r])) w' :=
  ⟨.slice none 0 0, by rw [h], by rw [resL_nil (by rw [h]; exact h0)]; exact (Own.nil w').sl, hu⟩
end
end Cla
end Go.Proofs.Ytjflbhkhnmodaaa
