/- Gates: running them, in plain Lean. No program is named. Conditions: none. -/
import Derived.Test.YtobclpfpkpkocaaGateN
set_option linter.unusedVariables false
set_option linter.unusedSimpArgs false
set_option linter.unusedSectionVars false
open Go.RowKit
namespace Go.Proofs.Ytobclpfpkpkocaa
open L
namespace Gate
open Cla R14
def opn (A : List Int) (x : Int) : Bool := A.getD x.natAbs 0 == 0
/-- The error of one gate. -/
def runErr (o : Int) (xs A : List Int) : Int :=
  if (A.length : Int) ≤ o then 5 else if xs.any (badV A) = true then 5 else if xs.any (opn A) = true then 11 else 0
def runVal (k : Int) (xs A : List Int) : Int := if gVal k (xs.map (isT A)) = true then 1 else -1
def runSet (k o : Int) (xs A : List Int) : List Int := A.set o.toNat (runVal k xs A)
theorem runErr_long {o : Int} {xs A : List Int} (h : (A.length : Int) ≤ o) : runErr o xs A = 5 := by unfold runErr; rw [if_pos h]
theorem runErr_bad {o x : Int} {xs A : List Int} (hx : x ∈ xs) (h : badV A x = true) : runErr o xs A = 5 := by
  unfold runErr
  split
  · rfl
  · rw [if_pos (List.any_eq_true.2 ⟨x, hx, h⟩)]
theorem runErr_opn {o x : Int} {xs A : List Int} (h0 : ¬ (A.length : Int) ≤ o) (h1 : ∀ x ∈ xs, badV A x = false) (hx : x ∈ xs) (h : opn A x = true) : runErr o xs A = 11 := by
  unfold runErr
  rw [if_neg h0, if_neg, if_pos (List.any_eq_true.2 ⟨x, hx, h⟩)]
  rw [Bool.not_eq_true, List.any_eq_false]
  intro y hy
  rw [h1 y hy]; simp
theorem runErr_ok {o : Int} {xs A : List Int} (h0 : ¬ (A.length : Int) ≤ o) (h1 : ∀ x ∈ xs, badV A x = false) (h2 : ∀ x ∈ xs, opn A x = false) : runErr o xs A = 0 := by
  unfold runErr
  rw [if_neg h0, if_neg, if_neg]
  · rw [Bool.not_eq_true, List.any_eq_false]
    intro y hy
    rw [h2 y hy]; simp
  · rw [Bool.not_eq_true, List.any_eq_false]
    intro y hy
    rw [h1 y hy]; simp
theorem badV_no {A : List Int} {x : Int} (h : badV A x = false) : x.natAbs < A.length ∧ -1 ≤ A.getD x.natAbs 0 ∧ A.getD x.natAbs 0 ≤ 1 := by
  unfold badV at h
  simp only [Bool.or_eq_false_iff, decide_eq_false_iff_not] at h
  omega
theorem isT_eq {A : List Int} {x : Int} (h0 : x ≠ 0) (h1 : badV A x = false) (h2 : opn A x = false) : isT A x = ((A.getD x.natAbs 0 == 1) == decide (0 < x)) := by
  obtain ⟨_, h3, h4⟩ := badV_no h1
  have h5 : A.getD x.natAbs 0 ≠ 0 := by unfold opn at h2; simpa using h2
  unfold isT lval
  generalize A.getD x.natAbs 0 = y at *
  rcases (by omega : y = 1 ∨ y = -1) with rfl | rfl
  · by_cases hx : x < 0
    · rw [if_pos hx, decide_eq_false (by omega)]; rfl
    · rw [if_neg hx, decide_eq_true (by omega)]; rfl
  · by_cases hx : x < 0
    · rw [if_pos hx, decide_eq_false (by omega)]; rfl
    · rw [if_neg hx, decide_eq_true (by omega)]; rfl
/-- The inputs that are known, the others false. -/
def known (A xs : List Int) (j : Nat) : List Bool := (xs.take j).map (isT A) ++ List.replicate (xs.length - j) false
theorem known_zero (A xs : List Int) : known A xs 0 = List.replicate xs.length false := by simp [known]
theorem known_full (A xs : List Int) : known A xs xs.length = xs.map (isT A) := by simp [known]
theorem known_len {A xs : List Int} {j : Nat} (h : j ≤ xs.length) : (known A xs j).length = xs.length := by simp [known]; omega
theorem known_set {A xs : List Int} {j : Nat} (h : j < xs.length) : (known A xs j).set j (isT A (xs.getD j 0)) = known A xs (j + 1) := by
  unfold known
  have hl : ((xs.take j).map (isT A)).length = j := by rw [List.length_map, List.length_take]; omega
  rw [List.set_append_right _ _ (by omega), hl, Nat.sub_self, show xs.length - j = (xs.length - (j + 1)) + 1 by omega, List.replicate_succ, List.set_cons_zero, List.take_add_one, gd_some (d := 0) h, List.map_append]
  simp
end Gate
end Go.Proofs.Ytobclpfpkpkocaa
