/- Gates: plain facts. No program is named. Conditions: none. -/
import Derived.Test.YtjflbhkhnmodaaaRef14c
set_option linter.unusedVariables false
set_option linter.unusedSimpArgs false
set_option linter.unusedSectionVars false
open Go.RowKit
namespace Go.Proofs.Ytjflbhkhnmodaaa
open L
namespace Gate
open Cla
def kOk (k : Int) : Bool := decide (0 ≤ k ∧ k ≤ 6)
def ninp (k : Int) : Nat := if k = 0 then 1 else if 1 ≤ k ∧ k ≤ 3 then 2 else if 4 ≤ k ∧ k ≤ 6 then 3 else 0
/-- May a literal be an input of a gate with this output? -/
def inOk (o x : Int) : Bool := isL x && (decide (x ≠ o) && decide (x ≠ -o))
def gOk (k o : Int) (xs : List Int) : Bool := kOk k && (decide (1 ≤ o ∧ o ≤ 1073741824) && (decide (xs.length = ninp k) && xs.all (inOk o)))
def gErr (k o : Int) (xs : List Int) : Int := if gOk k o xs = true then 0 else 1
theorem isL_iff {x : Int} : isL x = true ↔ x ≠ 0 ∧ -1073741824 ≤ x ∧ x ≤ 1073741824 := by unfold isL; rw [decide_eq_true_eq]
theorem isL_no {x : Int} : isL x = false ↔ ¬ (x ≠ 0 ∧ -1073741824 ≤ x ∧ x ≤ 1073741824) := by unfold isL; rw [decide_eq_false_iff_not]
theorem validErr_one (x : Int) : validErr [x] = if isL x = true then 0 else 1 := by
  unfold validErr listErr
  by_cases h : isL x = true
  · simp [h, ordB]
  · simp [h]
theorem isL_valid (x : Int) : decide (validErr [x] = 0) = isL x := by
  rw [validErr_one]
  cases h : isL x <;> simp
theorem gErr_bad {k o : Int} {xs : List Int} (h : gOk k o xs = false) : gErr k o xs = 1 := by unfold gErr; rw [h]; rfl
theorem gErr_good {k o : Int} {xs : List Int} (h : gOk k o xs = true) : gErr k o xs = 0 := by unfold gErr; rw [h]; rfl
theorem gErr_iff {k o : Int} {xs : List Int} : gErr k o xs = 0 ↔ gOk k o xs = true := by
  unfold gErr
  split
  · simp [*]
  · simp [*]
theorem gOk_iff {k o : Int} {xs : List Int} : gOk k o xs = true ↔ (0 ≤ k ∧ k ≤ 6) ∧ (1 ≤ o ∧ o ≤ 1073741824) ∧ xs.length = ninp k ∧ ∀ x ∈ xs, (x ≠ 0 ∧ -1073741824 ≤ x ∧ x ≤ 1073741824) ∧ x ≠ o ∧ x ≠ -o := by
  unfold gOk kOk
  simp only [Bool.and_eq_true, decide_eq_true_eq, List.all_eq_true, inOk, isL_iff]
theorem gOk_in {k o x : Int} {xs : List Int} (hx : x ∈ xs) (h : inOk o x = false) : gOk k o xs = false := by
  rw [Bool.eq_false_iff]
  intro h2
  unfold gOk at h2
  simp only [Bool.and_eq_true, List.all_eq_true] at h2
  rw [h2.2.2.2 x hx] at h
  cases h
/-- The clauses that are not always true, in normal form. -/
def keep (cs : List (List Int)) : List (List Int) := (cs.filter fun c => !(taut c)).map norm
theorem keep_snoc {cs : List (List Int)} {c : List Int} : keep (cs ++ [c]) = keep cs ++ if taut c = true then [] else [norm c] := by
  unfold keep
  rw [List.filter_append, List.map_append]
  congr 1
  by_cases h : taut c = true
  · simp [h]
  · rw [Bool.not_eq_true] at h; simp [h]
theorem keep_take {cs : List (List Int)} {k : Nat} (h : k < cs.length) : keep (cs.take (k + 1)) = keep (cs.take k) ++ if taut (cs.getD k []) = true then [] else [norm (cs.getD k [])] := by
  rw [List.take_add_one, gd_some (d := []) h]
  exact keep_snoc
theorem keep_len (cs : List (List Int)) : (keep cs).length ≤ cs.length := by
  unfold keep
  rw [List.length_map]
  exact List.length_filter_le _ _
/-- The clauses of a kind: 4 stands for the output, 1 to 3 for the inputs. -/
def rowsOf (k : Int) : List (List Int) :=
  if k = 0 then [[-4, 1], [4, -1]]
  else if k = 1 then [[-4, 1], [-4, 2], [4, -1, -2]]
  else if k = 2 then [[4, -1], [4, -2], [-4, 1, 2]]
  else if k = 3 then [[-4, 1, 2], [-4, -1, -2], [4, -1, 2], [4, 1, -2]]
  else if k = 4 then [[-1, -2, 4], [-1, 2, -4], [1, -3, 4], [1, 3, -4]]
  else if k = 5 then [[4, -1, 2, 3], [4, 1, -2, 3], [4, 1, 2, -3], [4, -1, -2, -3], [-4, 1, 2, 3], [-4, 1, -2, -3], [-4, -1, 2, -3], [-4, -1, -2, 3]]
  else [[4, -1, -2], [4, -1, -3], [4, -2, -3], [-4, 1, 2], [-4, 1, 3], [-4, 2, 3]]
def litVar (o : Int) (xs : List Int) (n : Nat) : Int := if n < 4 then xs.getD (n - 1) 0 else o
def litOf (o : Int) (xs : List Int) (n : Int) : Int := if n < 0 then -litVar o xs n.natAbs else litVar o xs n.natAbs
def gRaw (k o : Int) (xs : List Int) : List (List Int) := (rowsOf k).map fun r => r.map (litOf o xs)
def gCl (k o : Int) (xs : List Int) : List (List Int) := keep (gRaw k o xs)
theorem rowsOf_ok {k : Int} (h0 : 0 ≤ k) (h6 : k ≤ 6) : (∀ r ∈ rowsOf k, 0 < r.length ∧ r.length ≤ 4 ∧ ∀ n ∈ r, n.natAbs = 4 ∨ (1 ≤ n.natAbs ∧ n.natAbs ≤ ninp k)) ∧ (rowsOf k).length ≤ 8 := by
  rcases (by omega : k = 0 ∨ k = 1 ∨ k = 2 ∨ k = 3 ∨ k = 4 ∨ k = 5 ∨ k = 6) with rfl | rfl | rfl | rfl | rfl | rfl | rfl <;> decide
theorem ninp_le (k : Int) : ninp k ≤ 3 := by unfold ninp; split <;> (try split) <;> (try split) <;> omega
theorem litVar_ok {k o : Int} {xs : List Int} (hg : gOk k o xs = true) {n : Nat} (hn : n = 4 ∨ (1 ≤ n ∧ n ≤ ninp k)) : litVar o xs n ≠ 0 ∧ -1073741824 ≤ litVar o xs n ∧ litVar o xs n ≤ 1073741824 := by
  obtain ⟨_, ho, hl, hx⟩ := gOk_iff.1 hg
  have := ninp_le k
  unfold litVar
  rcases hn with rfl | ⟨h1, h2⟩
  · rw [if_neg (by omega)]; omega
  · rw [if_pos (by omega)]
    exact (hx _ (gd_mem (by omega))).1
theorem litOf_ok {k o : Int} {xs : List Int} (hg : gOk k o xs = true) {n : Int} (hn : n.natAbs = 4 ∨ (1 ≤ n.natAbs ∧ n.natAbs ≤ ninp k)) : litOf o xs n ≠ 0 ∧ -1073741824 ≤ litOf o xs n ∧ litOf o xs n ≤ 1073741824 := by
  have := litVar_ok hg hn
  unfold litOf
  split <;> omega
theorem listErr_lits {c : List Int} (h1 : c.length ≤ 65536) (h2 : ∀ x ∈ c, x ≠ 0 ∧ -1073741824 ≤ x ∧ x ≤ 1073741824) : listErr c = 0 := by
  unfold listErr
  rw [if_neg (by omega), if_pos]
  rw [List.all_eq_true]
  exact fun x hx => isL_iff.2 (h2 x hx)
theorem gRaw_ok {k o : Int} {xs : List Int} (hg : gOk k o xs = true) : (∀ c ∈ gRaw k o xs, listErr c = 0 ∧ 0 < c.length ∧ c.length ≤ 4 ∧ ∀ x ∈ c, x ≠ 0 ∧ LitR x) ∧ (gRaw k o xs).length ≤ 8 := by
  obtain ⟨⟨h0, h6⟩, _⟩ := gOk_iff.1 hg
  obtain ⟨h1, h2⟩ := rowsOf_ok h0 h6
  refine ⟨fun c hc => ?_, by unfold gRaw; rw [List.length_map]; exact h2⟩
  obtain ⟨r, hr, rfl⟩ := List.mem_map.1 hc
  obtain ⟨r1, r2, r3⟩ := h1 r hr
  have hx : ∀ x ∈ r.map (litOf o xs), x ≠ 0 ∧ -1073741824 ≤ x ∧ x ≤ 1073741824 := fun x hx => by
    obtain ⟨n, hn, rfl⟩ := List.mem_map.1 hx
    exact litOf_ok hg (r3 n hn)
  refine ⟨listErr_lits (by rw [List.length_map]; omega) hx, by rw [List.length_map]; exact r1, by rw [List.length_map]; exact r2, hx⟩
/-- What a list of clauses as a result is. -/
def LsT (L : List (List Int)) (w : World) (e : Ending) (w' : World) : Prop := ∃ v, e = .returned v ∧ CL w' v L ∧ Upd [] w w'
end Gate
end Go.Proofs.Ytjflbhkhnmodaaa
