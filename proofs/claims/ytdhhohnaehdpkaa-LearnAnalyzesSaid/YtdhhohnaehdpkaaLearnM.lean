/- A search without learning as plain data: what its moves keep. No program is named. Conditions: none. -/
import Derived.Test.YtdhhohnaehdpkaaLrnE
import Derived.Test.YtdhhohnaehdpkaaLearnW
import Derived.Test.YtdhhohnaehdpkaaNextB
set_option linter.unusedVariables false
set_option linter.unusedSimpArgs false
set_option linter.unusedSectionVars false
open Go.RowKit
namespace Go.Proofs.Ytdhhohnaehdpkaa
open L R01 R14
namespace Learn
open Cla Trail
theorem next_spec {vs : Nat} {es : Es} : ∀ (cs : List (List Int)) (al : List Bool) (i : Nat), al.length = cs.length → (∀ a ∈ al, a = true) →
    (nextFrom vs es (cs.zip al) i = (0, -1) ∧ ∀ c ∈ cs, clOf vs es c = none) ∨
    (∃ (j : Nat) (c : List Int) (x : Int), cs[j]? = some c ∧ clOf vs es c = some x ∧ nextFrom vs es (cs.zip al) i = (x, ((i + j : Nat) : Int)))
  | [], al, i, _, _ => by left; simp [nextFrom]
  | c :: cs, [], i, h, _ => by simp at h
  | c :: cs, a :: al, i, h, ha => by
    have ha1 : a = true := ha a (by simp)
    subst ha1
    simp only [List.zip_cons_cons]
    cases hc : clOf vs es c with
    | some x => right; exact ⟨0, c, x, rfl, hc, by rw [next_take hc]; simp⟩
    | none =>
      rw [next_skip (by rw [if_pos rfl]; exact hc)]
      rcases next_spec cs al (i + 1) (by simpa using h) (fun b hb => ha b (by simp [hb])) with ⟨h1, h2⟩ | ⟨j, d, x, h1, h2, h3⟩
      · left
        refine ⟨h1, fun d hd => ?_⟩
        rcases List.mem_cons.1 hd with rfl | hd
        · exact hc
        · exact h2 d hd
      · right
        exact ⟨j + 1, d, x, by simpa using h1, h2, by rw [h3]; congr 2; omega⟩
theorem next_res {vs : Nat} {es : Es} {cs : List (List Int)} {al : List Bool} (hl : al.length = cs.length) (hg : ∀ c ∈ cs, ∀ x ∈ c, isLit vs x = true) :
    nextRes vs es cs al = ((nextFrom vs es (cs.zip al) 0).1, (nextFrom vs es (cs.zip al) 0).2, 0) := by
  unfold nextRes
  have : badC vs cs al = false := by
    unfold badC
    rw [List.any_eq_false]
    intro p hp
    have := hg p.1 (List.of_mem_zip hp).1
    simp only [Bool.and_eq_true, List.any_eq_true, Bool.not_eq_true', not_and, not_exists, Bool.not_eq_false]
    intro _ x hx
    exact this x hx
  rw [if_neg (by omega), if_neg (by rw [this]; simp)]
theorem clOf_some {vs : Nat} {es : Es} {c : List Int} {x : Int} (h : clOf vs es c = some x) : (c.any fun x => tval vs es x == 1) = false ∧ (((c.filter fun x => tval vs es x == 0) = [] ∧ x = 0) ∨ (c.filter fun x => tval vs es x == 0) = [x]) := by
  unfold clOf at h
  split at h
  · cases h
  · rename_i h1
    refine ⟨by simpa using h1, ?_⟩
    split at h
    · rename_i h2; cases h; exact .inl ⟨h2, rfl⟩
    · rename_i h2; cases h; exact .inr h2
    · cases h
section
variable {vars : Nat} {es : Es} {L : List (List Int)}
theorem tval_snoc {x : Int × Int} {y : Int} (hp : pos es x.1.natAbs = 0) (h : tval vars es y = -1) : tval vars (es ++ [x]) y = -1 ∧ pos (es ++ [x]) y.natAbs = pos es y.natAbs := by
  obtain ⟨h1, h2, h3⟩ := tval_neg h
  have hne : y.natAbs ≠ x.1.natAbs := fun e => by rw [e] at h2; exact h2 hp
  have hps : pos (es ++ [x]) y.natAbs = pos es y.natAbs := by rw [pos_snoc es x _ hp, if_neg hne]
  refine ⟨?_, hps⟩
  have hlt := (pos_at h2).2
  unfold tval
  rw [if_pos h1, hps, if_neg h2, at_append [x] hlt, h3]
  unfold isLit at h1
  simp only [decide_eq_true_eq] at h1
  rw [if_neg (by omega)]
theorem Fits.snoc {x : Int × Int} {k : Nat} (hp : pos es x.1.natAbs = 0) (hk : k < es.length) (h : Fits L vars es k) : Fits L vars (es ++ [x]) k := by
  obtain ⟨h1, h2, h3, h4, h5⟩ := h
  unfold Fits rsn at *
  rw [at_append [x] hk]
  refine ⟨h1, h2, h3, h4, fun y hy hn => ?_⟩
  obtain ⟨h6, h7⟩ := h5 y hy hn
  have := tval_snoc hp h6
  exact ⟨this.1, by omega⟩
/-- What the moves of a search keep. -/
structure Mv (L : List (List Int)) (vars : Nat) (es : Es) : Prop where
  wf : TWf vars es
  fits : ∀ k, k < es.length → 0 ≤ (at_ es k).2 → Fits L vars es k
theorem Mv.nil (L : List (List Int)) {vars : Nat} (hv : vars ≤ 4194304) : Mv L vars [] := ⟨⟨hv, by simp, by simp, by simp⟩, fun k h => by simp at h⟩
theorem Mv.decide {x : Int} (h : Mv L vars es) (hl : isLit vars x = true) (hp : pos es x.natAbs = 0) : Mv L vars (es ++ [(x, -1)]) := by
  refine ⟨h.wf.snoc hl hp ⟨by simp, by simp⟩, fun k hk h0 => ?_⟩
  rw [List.length_append, List.length_singleton] at hk
  rcases Nat.lt_or_ge k es.length with h1 | h1
  · rw [at_append _ h1] at h0
    exact (h.fits k h1 h0).snoc hp h1
  · obtain rfl : k = es.length := by omega
    rw [at_snoc] at h0
    simp at h0
theorem Mv.imply {x : Int} {j : Nat} {c : List Int} (h : Mv L vars es) (hj : L[j]? = some c) (hv : validErr c = 0) (hc : clOf vars es c = some x) (hx0 : x ≠ 0) (hI : ∀ y ∈ c, isLit vars y = true) (hL : L.length ≤ 1000000) :
    Mv L vars (es ++ [(x, (j : Int))]) ∧ isLit vars x = true ∧ pos es x.natAbs = 0 := by
  obtain ⟨h1, h2⟩ := clOf_some hc
  have hf : (c.filter fun x => tval vars es x == 0) = [x] := by
    rcases h2 with ⟨_, h2⟩ | h2
    · exact absurd h2 hx0
    · exact h2
  have hxm : x ∈ c ∧ tval vars es x = 0 := by
    have : x ∈ (c.filter fun x => tval vars es x == 0) := by rw [hf]; simp
    simpa using this
  have hl := hI x hxm.1
  have hp := (tval_zero hl).1 hxm.2
  have hjl : j < L.length := (List.getElem?_eq_some_iff.1 hj).1
  refine ⟨⟨h.wf.snoc hl hp ⟨show (-1 : Int) ≤ (j : Int) by omega, show (j : Int) ≤ 9223372036854775807 by omega⟩, fun k hk h0 => ?_⟩, hl, hp⟩
  rw [List.length_append, List.length_singleton] at hk
  rcases Nat.lt_or_ge k es.length with hlt | hge
  · rw [at_append _ hlt] at h0
    exact (h.fits k hlt h0).snoc hp hlt
  · obtain rfl : k = es.length := by omega
    have hr : L.getD j [] = c := by rw [List.getD_eq_getElem?_getD, hj]; rfl
    unfold Fits rsn
    rw [at_snoc]
    simp only [Int.toNat_natCast]
    rw [hr]
    refine ⟨by omega, by omega, hv, hxm.1, fun y hy hn => ?_⟩
    have ht : tval vars es y = -1 := by
      rcases tval_cases vars es y with h0 | h0 | h0
      · have : y ∈ (c.filter fun x => tval vars es x == 0) := List.mem_filter.2 ⟨hy, by simpa using h0⟩
        rw [hf] at this
        exact absurd (List.mem_singleton.1 this) hn
      · rw [List.any_eq_false] at h1
        exact absurd (by simpa using h0) (h1 y hy)
      · exact h0
    have h3 := tval_snoc (x := (x, (j : Int))) hp ht
    refine ⟨h3.1, ?_⟩
    rw [h3.2]
    have := pos_le es y.natAbs
    omega
theorem conf_of {c : List Int} (hc : clOf vars es c = some 0) (hI : ∀ y ∈ c, isLit vars y = true) : ∀ y ∈ c, tval vars es y = -1 := by
  obtain ⟨h1, h2⟩ := clOf_some hc
  have hf : (c.filter fun x => tval vars es x == 0) = [] := by
    rcases h2 with ⟨h2, _⟩ | h2
    · exact h2
    · have : (0 : Int) ∈ (c.filter fun x => tval vars es x == 0) := by rw [h2]; simp
      have := hI 0 (List.mem_filter.1 this).1
      simp [isLit] at this
  intro y hy
  rcases tval_cases vars es y with h0 | h0 | h0
  · have : y ∈ (c.filter fun x => tval vars es x == 0) := List.mem_filter.2 ⟨hy, by simpa using h0⟩
    rw [hf] at this
    simp at this
  · rw [List.any_eq_false] at h1
    exact absurd (by simpa using h0) (h1 y hy)
  · exact h0
end
/-- The clauses that are made are clauses of eight variables. -/
theorem clsL_ok {xs : List Int} {c : List Int} (h : c ∈ clsL xs) : validErr c = 0 ∧ (∀ x ∈ c, isLit 8 x = true) ∧ c.length ≤ 3 := by
  unfold clsL at h
  obtain ⟨d, hd, rfl⟩ := List.mem_map.1 h
  obtain ⟨h1, h2⟩ := List.mem_filter.1 hd
  obtain ⟨x, _, rfl⟩ := List.mem_map.1 h1
  have ht : taut (rawC x) = false := by
    unfold tautB at h2
    simpa using h2
  have hn : nrm (rawC x) = norm (rawC x) := by unfold nrm; rw [if_neg (by rw [ht]; simp)]
  have hr : ∀ y ∈ rawC x, 1 ≤ y.natAbs ∧ y.natAbs ≤ 8 := fun y hy => by unfold rawC at hy; exact takeN_rng _ _ y hy
  have hln : (norm (rawC x)).length ≤ 3 := by
    refine Nat.le_trans (norm_length _) ?_
    unfold rawC
    rw [takeN_length]
    exact (manyN_rng (Nat.mod_lt _ (by omega))).2
  have hm : ∀ y ∈ norm (rawC x), 1 ≤ y.natAbs ∧ y.natAbs ≤ 8 := fun y hy => hr y ((norm_mem _ _).1 hy)
  rw [hn]
  refine ⟨validErr_ok.2 ⟨?_, norm_ord ht⟩, fun y hy => ?_, hln⟩
  · unfold listErr
    rw [if_neg (by omega), if_pos]
    rw [List.all_eq_true]
    intro y hy
    have := hm y hy
    unfold isL
    simp
    omega
  · have := hm y hy
    unfold isLit
    simp
    omega
theorem clsL_length (xs : List Int) : (clsL xs).length ≤ 26 := by
  unfold clsL
  rw [List.length_map]
  refine Nat.le_trans (List.length_filter_le _ _) ?_
  rw [List.length_map, List.length_take]
  omega
end Learn
end Go.Proofs.Ytdhhohnaehdpkaa
