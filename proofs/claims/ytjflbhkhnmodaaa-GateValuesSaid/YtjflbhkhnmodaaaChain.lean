/- Walks through chains of hints: examine, Chain, the reference's Chain and State. Conditions: none. -/
import Derived.Test.YtjflbhkhnmodaaaRef14b
import Derived.Test.YtjflbhkhnmodaaaMap
set_option linter.unusedVariables false
set_option linter.unusedSimpArgs false
set_option linter.unusedSectionVars false
open Go.RowKit
namespace Go.Proofs.Ytjflbhkhnmodaaa
open L
namespace Cla
open R01 R14
theorem infoInts : (Try.prog.info? 24).map (fun i => (i.zero, i.size, i.bytes)) = some (some (.slice none 0 0), 1, 24) := by kernel_rfl
theorem infoBool : (Try.prog.info? 4).map (fun i => (i.zero, i.size, i.bytes)) = some (some (.bool false), 1, 1) := by kernel_rfl
/-- The first error of some clauses. -/
def examErr : List (List Int) → Int
  | [] => 0
  | c :: r => if validErr c ≠ 0 then validErr c else examErr r
theorem examErr_ok : ∀ {cs : List (List Int)}, examErr cs = 0 → ∀ c ∈ cs, validErr c = 0
  | [], _, c, hc => by simp at hc
  | d :: r, h, c, hc => by
    unfold examErr at h
    split at h
    · contradiction
    · rename_i h2
      simp only [List.mem_cons] at hc
      rcases hc with rfl | hc
      · exact Classical.not_not.1 h2
      · exact examErr_ok h c hc
theorem valid_lit {c : List Int} (h : validErr c = 0) : c.length ≤ 65536 ∧ ∀ x ∈ c, x ≠ 0 ∧ LitR x := by
  obtain ⟨h1, h2⟩ := listErr_lit (validErr_ok.1 h).1
  exact ⟨h1, fun x hx => ⟨(h2 x hx).1, (h2 x hx).2⟩⟩
def ChainT (r : Int) (w : World) (e : Ending) (w' : World) : Prop := e = .returned (.int .i64 r) ∧ Upd [] w w'
section
variable {w : World}
/-- What is left of a hint. -/
def left (no h : List Int) : List Int := h.filter fun x => !hasB no x
/-- Unit propagation of hints. -/
def chainLoop (no : List Int) : List (List Int) → Int
  | [] => 14
  | h :: r => match left no h with
    | [] => if r.length = 0 then 0 else 14
    | [x] => if hasB no (-x) = true then 14 else chainLoop (no ++ [-x]) r
    | _ => 14
def chainRes (c : List Int) (hs : List (List Int)) : Int := if validErr c ≠ 0 then validErr c else if examErr hs ≠ 0 then examErr hs else chainLoop c hs
end
end Cla
end Go.Proofs.Ytjflbhkhnmodaaa
