/- Walks through the laws of gates: GateClauses. Conditions: none. -/
import Derived.Test.YtjflbhkhnmodaaaGateL
set_option linter.unusedVariables false
set_option linter.unusedSimpArgs false
set_option linter.unusedSectionVars false
open Go.RowKit
namespace Go.Proofs.Ytjflbhkhnmodaaa
open L
namespace Gate
open Cla R14 R01
def gL (k o : Int) (xs : List Int) : List (List Int) := if gOk k o xs = true then gCl k o xs else []
theorem ClsT.uni {k o : Int} {xs : List Int} {w w' : World} {e : Ending} (h : ClsT k o xs w e w') : ∃ v, e = .returned (.tuple #[v, .int .i64 (gErr k o xs)]) ∧ CL w' v (gL k o xs) ∧ Upd [] w w' := by
  cases hg : gOk k o xs with
  | true =>
    obtain ⟨v, h1, h2, h3⟩ := h.2 hg
    exact ⟨v, by rw [gErr_good hg]; exact h1, by unfold gL; rw [if_pos hg]; exact h2, h3⟩
  | false =>
    obtain ⟨h1, h2⟩ := h.1 hg
    exact ⟨_, by rw [gErr_bad hg]; exact h1, by unfold gL; rw [if_neg (by simp [hg])]; exact (OwnL.nil 24 w' w').cl, h2⟩
theorem ninp_pos {k : Int} (h0 : 0 ≤ k) (h6 : k ≤ 6) : 1 ≤ ninp k := by unfold ninp; split <;> (try split) <;> (try split) <;> omega
/-- A gate in a row of gates. -/
def GAt (w : World) (g k : Nat) (kk oo : Int) (ys : List Int) (a : Option Addr) (cap : Nat) : Prop :=
  w.cell? ⟨g, k * 3, none⟩ = some (.int .i64 kk) ∧ w.cell? ⟨g, k * 3 + 1, none⟩ = some (.int .i64 oo) ∧ w.cell? ⟨g, k * 3 + 2, none⟩ = some (.slice a ys.length cap) ∧ SL w 1 (.slice a ys.length cap) ys.length (ints ys) ∧ ∀ x ∈ ys, IsI64 x
theorem GAt.upd {w w' : World} {g k : Nat} {kk oo : Int} {ys : List Int} {a : Option Addr} {cap : Nat} (h : GAt w g k kk oo ys a cap) (hu : Upd [] w w') : GAt w' g k kk oo ys a cap :=
  ⟨hu.some h.1 (by simp), hu.some h.2.1 (by simp), hu.some h.2.2.1 (by simp), h.2.2.2.1.upd hu (by simp), h.2.2.2.2⟩
/-- A world in which three cells hold what they held. -/
def Tri3 (p0 p1 p2 : Addr) (v0 v1 v2 : Value) : Type := { w : World // w.cell? p0 = some v0 ∧ w.cell? p1 = some v1 ∧ w.cell? p2 = some v2 }
theorem Tri3.c0 {p0 p1 p2 : Addr} {v0 v1 v2 : Value} (x : Tri3 p0 p1 p2 v0 v1 v2) : x.val.cell? p0 = some v0 := x.property.1
theorem Tri3.c1 {p0 p1 p2 : Addr} {v0 v1 v2 : Value} (x : Tri3 p0 p1 p2 v0 v1 v2) : x.val.cell? p1 = some v1 := x.property.2.1
theorem Tri3.c2 {p0 p1 p2 : Addr} {v0 v1 v2 : Value} (x : Tri3 p0 p1 p2 v0 v1 v2) : x.val.cell? p2 = some v2 := x.property.2.2
attribute [go_sem] Tri3.c0 Tri3.c1 Tri3.c2
section
variable {w : World}
end
end Gate
end Go.Proofs.Ytjflbhkhnmodaaa
