/- A slice of bytes of one's own. Conditions: none. -/
import Derived.Test.YtfkgpecglcjpkaaGreatWireW
set_option linter.unusedVariables false
set_option linter.unusedSimpArgs false
set_option linter.unusedSectionVars false
open Go.RowKit
namespace Go.Proofs.YtfkgpecglcjpkaaGreat
open L
namespace Wire
/-- A slice of bytes of one's own, new since w0. -/
structure OwnB (w0 : World) (v : Value) (xs : List Int) (w : World) : Prop where
  row : w.ownsRow 0 5 1 v xs.length (byts xs)
  fresh : ∀ g, v.ownBlock = some g → w0.heap.size ≤ g
  u : Upd [] w0 w
section
variable {w0 w w' : World} {v : Value} {xs : List Int}
theorem OwnB.nil (w : World) : OwnB w (.slice none 0 0) [] w := ⟨World.ownsRow_nil _ _ _ _, by simp [Value.ownBlock], Upd.refl _ _⟩
theorem OwnB.quiet (h : OwnB w0 v xs w) (hu : Upd [] w w') : OwnB w0 v xs w' := ⟨ownsRow_updL h.row hu (by simp), h.fresh, h.u.step hu⟩
theorem OwnB.form (h : OwnB w0 v xs w) : ∃ a cap, v = .slice a xs.length cap ∧ xs.length ≤ cap := by
  obtain ⟨h1, a, cap, rfl, h2, _⟩ := SL.of_owns h.row
  exact ⟨a, cap, rfl, h2⟩
theorem OwnB.sl (h : OwnB w0 v xs w) : SL w 1 v xs.length (byts xs) := SL.of_owns h.row
theorem OwnB.push {x : Int} {g cap : Nat} (h : OwnB w0 v xs w) (o : w'.ownsRow 0 5 1 (.slice (some ⟨g, 0, none⟩) (xs.length + 1) cap) (xs.length + 1) (byts xs ++ [.int .u8 x])) (u : Upd v.ownBlock.toList w w')
    (k : v.ownBlock = some g ∨ w.heap.size ≤ g) : OwnB w0 (.slice (some ⟨g, 0, none⟩) (xs.length + 1) cap) (xs ++ [x]) w' := by
  refine ⟨by simpa [byts] using o, ?_, h.u.fresh u (fun j hj => .inr (h.fresh j (by simpa using hj)))⟩
  intro j hj
  simp only [Value.ownBlock, Option.some.injEq] at hj
  subst hj
  rcases k with k | k
  · exact h.fresh _ k
  · have := h.u.size; omega
/-- append(s, t...) -/
theorem OwnB.app {ys : List Int} {a : Option Addr} {cap : Nat} (h : OwnB w0 v xs w) (o : w'.ownsRow 0 5 1 (.slice a (xs.length + ys.length) cap) (xs.length + ys.length) (byts xs ++ byts ys)) (u : Upd v.ownBlock.toList w w')
    (k : (Value.slice a (xs.length + ys.length) cap).ownBlock = v.ownBlock ∨ (Value.slice a (xs.length + ys.length) cap).ownBlock = some w.heap.size) : OwnB w0 (.slice a (xs.length + ys.length) cap) (xs ++ ys) w' := by
  refine ⟨by simpa [byts] using o, ?_, h.u.fresh u (fun j hj => .inr (h.fresh j (by simpa using hj)))⟩
  intro j hj
  rcases k with k | k <;> rw [hj] at k
  · exact h.fresh _ k.symm
  · simp at k; have := h.u.size; omega
theorem OwnB.base {w1 : World} (h : OwnB w1 v xs w') (hu : Upd [] w w1) : OwnB w v xs w' := ⟨h.row, fun g hg => Nat.le_trans hu.size (h.fresh g hg), hu.step h.u⟩
theorem OwnB.toV (h : OwnB w0 v xs w) : OwnV w0 5 1 v xs.length (byts xs) w := ⟨h.row, h.fresh⟩
end
end Wire
end Go.Proofs.YtfkgpecglcjpkaaGreat
