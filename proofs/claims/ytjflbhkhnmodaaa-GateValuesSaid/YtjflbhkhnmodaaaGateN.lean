/- Gates: what the clauses say, in plain Lean. No program is named. Conditions: none. -/
import Derived.Test.YtjflbhkhnmodaaaGateV
import Derived.Test.YtjflbhkhnmodaaaColl
set_option linter.unusedVariables false
set_option linter.unusedSimpArgs false
set_option linter.unusedSectionVars false
open Go.RowKit
namespace Go.Proofs.Ytjflbhkhnmodaaa
open L
namespace Gate
open Cla R14
/-- The value of a literal of a row. -/
def tv (f : Nat → Bool) (n : Int) : Bool := if n < 0 then !(f n.natAbs) else f n.natAbs
theorem rows_law {k : Int} (h0 : 0 ≤ k) (h6 : k ≤ 6) (f : Nat → Bool) (bs : List Bool) (hb : ∀ i, i < ninp k → bt bs i = f (i + 1)) :
    (rowsOf k).all (fun r => r.any (tv f)) = (gVal k bs == f 4) := by
  rcases (by omega : k = 0 ∨ k = 1 ∨ k = 2 ∨ k = 3 ∨ k = 4 ∨ k = 5 ∨ k = 6) with rfl | rfl | rfl | rfl | rfl | rfl | rfl
  · have h1 := hb 0 (by decide)
    simp [gVal, rowsOf, tv, h1]
    generalize f 1 = x1; generalize f 4 = x4
    revert x1 x4; decide
  · have h1 := hb 0 (by decide)
    have h2 := hb 1 (by decide)
    simp [gVal, rowsOf, tv, h1, h2]
    generalize f 1 = x1; generalize f 2 = x2; generalize f 4 = x4
    revert x1 x2 x4; decide
  · have h1 := hb 0 (by decide)
    have h2 := hb 1 (by decide)
    simp [gVal, rowsOf, tv, h1, h2]
    generalize f 1 = x1; generalize f 2 = x2; generalize f 4 = x4
    revert x1 x2 x4; decide
  · have h1 := hb 0 (by decide)
    have h2 := hb 1 (by decide)
    simp [gVal, rowsOf, tv, h1, h2]
    generalize f 1 = x1; generalize f 2 = x2; generalize f 4 = x4
    revert x1 x2 x4; decide
  · have h1 := hb 0 (by decide)
    have h2 := hb 1 (by decide)
    have h3 := hb 2 (by decide)
    simp [gVal, rowsOf, tv, h1, h2, h3]
    generalize f 1 = x1; generalize f 2 = x2; generalize f 3 = x3; generalize f 4 = x4
    revert x1 x2 x3 x4; decide
  · have h1 := hb 0 (by decide)
    have h2 := hb 1 (by decide)
    have h3 := hb 2 (by decide)
    simp [gVal, rowsOf, tv, h1, h2, h3]
    generalize f 1 = x1; generalize f 2 = x2; generalize f 3 = x3; generalize f 4 = x4
    revert x1 x2 x3 x4; decide
  · have h1 := hb 0 (by decide)
    have h2 := hb 1 (by decide)
    have h3 := hb 2 (by decide)
    simp [gVal, rowsOf, tv, h1, h2, h3]
    generalize f 1 = x1; generalize f 2 = x2; generalize f 3 = x3; generalize f 4 = x4
    revert x1 x2 x3 x4; decide
/-- A literal that has a value. -/
def Has1 (A : List Int) (x : Int) : Prop := x ≠ 0 ∧ (lval A x = 1 ∨ lval A x = -1)
theorem lval_neg (A : List Int) {x : Int} (h : x ≠ 0) : lval A (-x) = -lval A x := by
  unfold lval
  rw [Int.natAbs_neg]
  by_cases h0 : x < 0
  · rw [if_neg (by omega), if_pos h0]; omega
  · rw [if_pos (by omega), if_neg h0]
def isT (A : List Int) (x : Int) : Bool := lval A x == 1
theorem isT_neg {A : List Int} {x : Int} (h : Has1 A x) : isT A (-x) = !(isT A x) := by
  unfold isT
  rw [lval_neg A h.1]
  rcases h.2 with h2 | h2 <;> rw [h2] <;> rfl
/-- Is a clause true? -/
def tru (A : List Int) (c : List Int) : Bool := c.any (isT A)
theorem tru_norm (A c : List Int) : tru A (norm c) = tru A c := by
  unfold tru
  rw [Bool.eq_iff_iff, List.any_eq_true, List.any_eq_true]
  simp only [norm_mem]
theorem tru_taut {A c : List Int} (h : ∀ x ∈ c, Has1 A x) (ht : taut c = true) : tru A c = true := by
  unfold taut at ht
  obtain ⟨x, hx, hx2⟩ := List.any_eq_true.1 ht
  have hx3 : -x ∈ c := by simpa using hx2
  unfold tru
  rw [List.any_eq_true]
  cases hi : isT A x with
  | true => exact ⟨x, hx, hi⟩
  | false => exact ⟨-x, hx3, by rw [isT_neg (h x hx), hi]; rfl⟩
theorem tru_keep {A : List Int} : ∀ {cs : List (List Int)}, (∀ c ∈ cs, ∀ x ∈ c, Has1 A x) → (keep cs).all (tru A) = cs.all (tru A) := by
  intro cs
  induction cs with
  | nil => intro _; rfl
  | cons c cs ih =>
    intro h
    have ih' := ih (fun d hd => h d (List.mem_cons_of_mem _ hd))
    unfold keep at ih' ⊢
    rw [List.all_cons, ← ih']
    by_cases ht : taut c = true
    · rw [List.filter_cons, if_neg (by simp [ht]), tru_taut (h c (by simp)) ht, Bool.true_and]
    · rw [List.filter_cons, if_pos (by simp [ht]), List.map_cons, List.all_cons, tru_norm]
/-- The values of the places of a row. -/
def fOf (A : List Int) (o : Int) (xs : List Int) (j : Nat) : Bool := isT A (litVar o xs j)
theorem isT_lit {A : List Int} {o : Int} {xs : List Int} {n : Int} (h : Has1 A (litVar o xs n.natAbs)) : isT A (litOf o xs n) = tv (fOf A o xs) n := by
  unfold litOf tv fOf
  by_cases h0 : n < 0
  · rw [if_pos h0, if_pos h0, isT_neg h]
  · rw [if_neg h0, if_neg h0]
theorem tru_row {A : List Int} {o : Int} {xs : List Int} {r : List Int} (h : ∀ n ∈ r, Has1 A (litVar o xs n.natAbs)) : tru A (r.map (litOf o xs)) = r.any (tv (fOf A o xs)) := by
  unfold tru
  rw [List.any_map]
  rw [Bool.eq_iff_iff, List.any_eq_true, List.any_eq_true]
  constructor
  · rintro ⟨n, hn, h2⟩; exact ⟨n, hn, by rw [← isT_lit (h n hn)]; exact h2⟩
  · rintro ⟨n, hn, h2⟩; exact ⟨n, hn, by show isT A (litOf o xs n) = true; rw [isT_lit (h n hn)]; exact h2⟩
theorem has1_neg {A : List Int} {x : Int} (h : Has1 A x) : Has1 A (-x) := ⟨by have := h.1; omega, by rw [lval_neg A h.1]; have := h.2; omega⟩
theorem has1_lit {A : List Int} {o : Int} {xs : List Int} {n : Int} (h : Has1 A (litVar o xs n.natAbs)) : Has1 A (litOf o xs n) := by
  unfold litOf
  split
  · exact has1_neg h
  · exact h
theorem has1_var {A : List Int} {k o : Int} {xs : List Int} (hl : xs.length = ninp k) (ho : Has1 A o) (hx : ∀ x ∈ xs, Has1 A x) {n : Nat} (hn : n = 4 ∨ (1 ≤ n ∧ n ≤ ninp k)) : Has1 A (litVar o xs n) := by
  have := ninp_le k
  unfold litVar
  rcases hn with rfl | ⟨h1, h2⟩
  · rw [if_neg (by omega)]; exact ho
  · rw [if_pos (by omega)]; exact hx _ (gd_mem (by omega))
/-- All clauses are true exactly if the output has the value of the gate. -/
theorem gate_law {A : List Int} {k o : Int} {xs : List Int} (h0 : 0 ≤ k) (h6 : k ≤ 6) (hl : xs.length = ninp k) (ho : Has1 A o) (hx : ∀ x ∈ xs, Has1 A x) :
    (gCl k o xs).all (tru A) = (gVal k (xs.map (isT A)) == isT A o) := by
  have hv := fun (n : Nat) (hn : n = 4 ∨ (1 ≤ n ∧ n ≤ ninp k)) => has1_var (A := A) hl ho hx hn
  have hr := (rowsOf_ok h0 h6).1
  unfold gCl
  rw [tru_keep]
  · unfold gRaw
    rw [List.all_map]
    have e1 : (rowsOf k).all (tru A ∘ fun r => r.map (litOf o xs)) = (rowsOf k).all (fun r => r.any (tv (fOf A o xs))) := by
      rw [Bool.eq_iff_iff, List.all_eq_true, List.all_eq_true]
      refine forall_congr' fun r => forall_congr' fun hm => ?_
      show tru A (r.map (litOf o xs)) = true ↔ _
      rw [tru_row (fun n hn => hv _ ((hr r hm).2.2 n hn))]
    rw [e1, rows_law h0 h6 (fOf A o xs) (xs.map (isT A))]
    · rfl
    · intro i hi
      unfold bt fOf litVar
      have := ninp_le k
      rw [if_pos (by omega), List.getD_eq_getElem?_getD, List.getElem?_map, Nat.add_sub_cancel, gd_some (d := 0) (show i < xs.length by omega)]
      rfl
  · intro c hc x hx
    obtain ⟨r, hm, rfl⟩ := List.mem_map.1 hc
    obtain ⟨n, hn, rfl⟩ := List.mem_map.1 hx
    exact has1_lit (hv _ ((hr r hm).2.2 n hn))
/-- What State gives where all literals have values. -/
theorem state_has {A c : List Int} (hc : listErr c = 0) (h : ∀ x ∈ c, Has1 A x ∧ x.natAbs < A.length ∧ A.getD x.natAbs 0 ≤ 1 ∧ -1 ≤ A.getD x.natAbs 0) : stateRes c A = (tru A c, [], 0) := by
  unfold stateRes
  rw [if_neg (by simpa using hc), if_neg]
  · refine Prod.ext rfl (Prod.ext ?_ rfl)
    show c.filter (fun x => lval A x == 0) = []
    rw [List.filter_eq_nil_iff]
    intro x hx
    obtain ⟨⟨_, h1⟩, _⟩ := h x hx
    simp
    omega
  · rw [Bool.not_eq_true, List.any_eq_false]
    intro x hx
    obtain ⟨_, h1, h2, h3⟩ := h x hx
    unfold badV
    rw [Bool.not_eq_true]
    simp only [Bool.or_eq_false_iff, decide_eq_false_iff_not]
    exact ⟨⟨by omega, by omega⟩, by omega⟩
end Gate
end Go.Proofs.Ytjflbhkhnmodaaa
