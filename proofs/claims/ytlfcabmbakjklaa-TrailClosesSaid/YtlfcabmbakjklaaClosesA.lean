/- The laws of trails: what TrailCloses needs, in plain words. Conditions: none. -/
import Derived.Test.YtlfcabmbakjklaaNextB
import Derived.Test.YtlfcabmbakjklaaClause
import Derived.Test.YtlfcabmbakjklaaLevels
set_option linter.unusedVariables false
set_option linter.unusedSimpArgs false
set_option linter.unusedSectionVars false
open Go.RowKit
namespace Go.Proofs.Ytlfcabmbakjklaa
open L
namespace Law
open Trail Cla
theorem next_spec {vs : Nat} {es : Es} : ∀ (cs : List (List Int)) (al : List Bool) (i : Nat), al.length = cs.length → (∀ a ∈ al, a = true) →
    (nextFrom vs es (cs.zip al) i = (0, -1) ∧ ∀ c ∈ cs, clOf vs es c = none) ∨
    (∃ (j : Nat) (c : List Int) (x : Int), cs[j]? = some c ∧ clOf vs es c = some x ∧ nextFrom vs es (cs.zip al) i = (x, ((i + j : Nat) : Int)))
  | [], al, i, _, _ => by left; simp [nextFrom]
  | c :: cs, [], i, h, _ => by simp at h
  | c :: cs, a :: al, i, h, ha => by
    have ha1 : a = true := ha a (by simp)
    subst ha1
    simp only [List.zip_cons_cons]
    cases hc : clOf vs es c with
    | some x => right; exact ⟨0, c, x, rfl, hc, by rw [next_take hc]; simp⟩
    | none =>
      rw [next_skip (by rw [if_pos rfl]; exact hc)]
      rcases next_spec cs al (i + 1) (by simpa using h) (fun b hb => ha b (by simp [hb])) with ⟨h1, h2⟩ | ⟨j, d, x, h1, h2, h3⟩
      · left
        refine ⟨h1, fun d hd => ?_⟩
        rcases List.mem_cons.1 hd with rfl | hd
        · exact hc
        · exact h2 d hd
      · right
        exact ⟨j + 1, d, x, by simpa using h1, h2, by rw [h3]; congr 2; omega⟩
theorem next_res {vs : Nat} {es : Es} {cs : List (List Int)} {al : List Bool} (hl : al.length = cs.length) (hg : ∀ c ∈ cs, ∀ x ∈ c, isLit vs x = true) :
    nextRes vs es cs al = ((nextFrom vs es (cs.zip al) 0).1, (nextFrom vs es (cs.zip al) 0).2, 0) := by
  unfold nextRes
  have : badC vs cs al = false := by
    unfold badC
    rw [List.any_eq_false]
    intro p hp
    have := hg p.1 (List.of_mem_zip hp).1
    simp only [Bool.and_eq_true, List.any_eq_true, Bool.not_eq_true', not_and, not_exists, Bool.not_eq_false]
    intro _ x hx
    exact this x hx
  rw [if_neg (by omega), if_neg (by rw [this]; simp)]
/-- The assignment of a trail. -/
def asg (vs : Nat) (es : Es) (n : Nat) : List Int := 0 :: (List.range' 1 n).map fun v : Nat => tval vs es (v : Int)
theorem asg_length (vs : Nat) (es : Es) (n : Nat) : (asg vs es n).length = n + 1 := by simp [asg]
theorem asg_succ (vs : Nat) (es : Es) (n : Nat) : asg vs es (n + 1) = asg vs es n ++ [tval vs es ((n : Int) + 1)] := by
  unfold asg
  rw [List.range'_concat, List.map_append]
  simp [show 1 + n = n + 1 by omega]
theorem asg_get {vs : Nat} {es : Es} {n v : Nat} (h1 : 1 ≤ v) (h2 : v ≤ n) : (asg vs es n).getD v 0 = tval vs es (v : Int) := by
  unfold asg
  obtain ⟨u, rfl⟩ : ∃ u, v = u + 1 := ⟨v - 1, by omega⟩
  rw [List.getD_eq_getElem?_getD, List.getElem?_cons_succ, List.getElem?_map, List.getElem?_range' (by omega)]
  simp only [Option.map_some, Option.getD_some]
  rw [show 1 + 1 * u = u + 1 by omega]
theorem tval_neg {vs : Nat} {es : Es} {x : Int} (h0 : x ≠ 0) : tval vs es (-x) = -tval vs es x := by
  unfold tval
  have hl : isLit vs (-x) = isLit vs x := by unfold isLit; rw [decide_eq_decide]; omega
  rw [hl, Int.natAbs_neg]
  by_cases h1 : isLit vs x = true
  · rw [if_pos h1, if_pos h1]
    by_cases h2 : pos es x.natAbs = 0
    · rw [if_pos h2, if_pos h2]; rfl
    · rw [if_neg h2, if_neg h2]
      have h3 := (pos_at h2).1
      by_cases h4 : (at_ es (pos es x.natAbs - 1)).1 = x
      · rw [if_pos h4, h4, if_neg (by omega)]
      · rw [if_neg h4, if_pos (by omega)]; rfl
  · rw [if_neg h1, if_neg h1]; rfl
theorem lval_asg {vs : Nat} {es : Es} {x : Int} (h1 : 1 ≤ x.natAbs) (h2 : x.natAbs ≤ vs) : lval (asg vs es vs) x = tval vs es x := by
  unfold lval
  rw [asg_get h1 h2]
  split
  · rw [show ((x.natAbs : Nat) : Int) = -x by omega, tval_neg (by omega)]; omega
  · rw [show ((x.natAbs : Nat) : Int) = x by omega]
theorem badV_asg {vs : Nat} {es : Es} {x : Int} (h1 : 1 ≤ x.natAbs) (h2 : x.natAbs ≤ vs) : badV (asg vs es vs) x = false := by
  unfold badV
  rw [asg_get h1 h2, asg_length]
  rcases tval_cases vs es (x.natAbs : Int) with h | h | h <;> rw [h] <;> simp <;> omega
/-- What State says of a clause of literals of the trail. -/
theorem state_asg {vs : Nat} {es : Es} {c : List Int} (hv : vs ≤ 1000) (hl : c.length ≤ 65536) (hg : ∀ x ∈ c, 1 ≤ x.natAbs ∧ x.natAbs ≤ vs) :
    stateRes c (asg vs es vs) = (c.any (fun x => tval vs es x == 1), c.filter (fun x => tval vs es x == 0), 0) := by
  have h1 : listErr c = 0 := by
    unfold listErr
    rw [if_neg (by omega), if_pos]
    rw [List.all_eq_true]
    intro x hx
    have := hg x hx
    simp [isL]
    omega
  have h2 : c.any (badV (asg vs es vs)) = false := by
    rw [List.any_eq_false]
    intro x hx
    rw [badV_asg (hg x hx).1 (hg x hx).2]
    simp
  unfold stateRes
  rw [if_neg (by rw [h1]; simp), if_neg (by rw [h2]; simp)]
  congr 1
  · rw [Bool.eq_iff_iff, List.any_eq_true, List.any_eq_true]
    constructor <;> rintro ⟨x, hx, h⟩ <;> refine ⟨x, hx, ?_⟩ <;> simpa [lval_asg (es := es) (hg x hx).1 (hg x hx).2] using h
  · congr 1
    apply List.filter_congr
    intro x hx
    rw [lval_asg (hg x hx).1 (hg x hx).2]
theorem clOf_some {vs : Nat} {es : Es} {c : List Int} {x : Int} (h : clOf vs es c = some x) : (c.any fun x => tval vs es x == 1) = false ∧ (((c.filter fun x => tval vs es x == 0) = [] ∧ x = 0) ∨ (c.filter fun x => tval vs es x == 0) = [x]) := by
  unfold clOf at h
  split at h
  · cases h
  · rename_i h1
    refine ⟨by simpa using h1, ?_⟩
    split at h
    · rename_i h2; cases h; exact .inl ⟨h2, rfl⟩
    · rename_i h2; cases h; exact .inr h2
    · cases h
theorem clOf_none {vs : Nat} {es : Es} {c : List Int} (h : clOf vs es c = none) : (c.any fun x => tval vs es x == 1) = true ∨ 2 ≤ (c.filter fun x => tval vs es x == 0).length := by
  unfold clOf at h
  split at h
  · rename_i h1; exact .inl h1
  · right
    split at h
    · cases h
    · cases h
    · rename_i h2 h3
      generalize (c.filter fun x => tval vs es x == 0) = l at *
      match l with
      | [] => exact absurd rfl h2
      | [y] => exact absurd rfl (h3 y)
      | _ :: _ :: _ => simp
end Law
end Go.Proofs.Ytlfcabmbakjklaa
