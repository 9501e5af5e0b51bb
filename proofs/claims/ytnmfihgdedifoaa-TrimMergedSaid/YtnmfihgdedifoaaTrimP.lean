/- Proofs as plain data: their form, what a step rests on. No program is named. Conditions: none. -/
import Derived.Test.YtnmfihgdedifoaaLib
set_option linter.unusedVariables false
set_option linter.unusedSimpArgs false
set_option linter.unusedSectionVars false
open Go.RowKit
namespace Go.Proofs.Ytnmfihgdedifoaa
open L
namespace Trim
structure StepD where
  kind : Int
  node : Int
  rule : Int
  params : List Int
  name : ByteArray
  lits : List Int
  hints : List Int
structure NodeD where
  op : Int
  kids : List Int
  n : Int
  m : Int
  u : Int
  text : ByteArray
  sk : Int
  sn : Int
  si : Int
structure LemD where
  graph : List NodeD
  hyps : List Int
  clause : List Int
  steps : List StepD
structure PrfD where
  lemmas : List LemD
  steps : List StepD
/-- A hint that is none. -/
def badH (i : Nat) (h : Int) : Bool := decide (h < 0 ∨ (i : Int) ≤ h)
/-- The error of the step with a number. -/
def badS (nl i : Nat) (s : StepD) : Int :=
  if s.kind < 0 ∨ 5 < s.kind then 1 else if s.hints.any (badH i) = true then 14 else if s.kind = 4 ∧ (s.node < 0 ∨ (nl : Int) ≤ s.node) then 7 else 0
def chk (nl : Nat) : Nat → List StepD → Int
  | _, [] => 0
  | i, s :: l => if badS nl i s ≠ 0 then badS nl i s else chk nl (i + 1) l
/-- The error of a proof. -/
def check (p : PrfD) : Int := if 1048576 < p.steps.length then 4 else chk p.lemmas.length 0 p.steps
theorem chk_zero {nl : Nat} : ∀ {l : List StepD} {i : Nat}, chk nl i l = 0 ↔ ∀ (k : Nat) (s : StepD), l[k]? = some s → badS nl (i + k) s = 0
  | [], i => by simp [chk]
  | s :: l, i => by
    unfold chk
    constructor
    · intro h k t hk
      split at h
      · rename_i hn; exact absurd h hn
      · rename_i hn
        cases k with
        | zero => simp at hk; subst hk; simpa using hn
        | succ k => have := (chk_zero (l := l) (i := i + 1)).1 h k t (by simpa using hk); rwa [show i + (k + 1) = i + 1 + k by omega]
    · intro h
      have h0 := h 0 s rfl
      simp only [Nat.add_zero] at h0
      rw [if_neg (by simp [h0])]
      exact (chk_zero (l := l) (i := i + 1)).2 fun k t hk => by
        have := h (k + 1) t (by simpa using hk)
        rwa [show i + (k + 1) = i + 1 + k by omega] at this
theorem chk_at {nl : Nat} : ∀ {l : List StepD} {i k : Nat} {s : StepD}, l[k]? = some s → (∀ (j : Nat) (t : StepD), j < k → l[j]? = some t → badS nl (i + j) t = 0) → badS nl (i + k) s ≠ 0 → chk nl i l = badS nl (i + k) s
  | [], i, k, s, h, _, _ => by simp at h
  | x :: l, i, 0, s, h, _, hb => by
    simp at h; subst h
    unfold chk
    simp only [Nat.add_zero] at hb ⊢
    rw [if_pos hb]
  | x :: l, i, k + 1, s, h, ha, hb => by
    unfold chk
    have h0 := ha 0 x (by omega) rfl
    simp only [Nat.add_zero] at h0
    rw [if_neg (by simp [h0]), show i + (k + 1) = i + 1 + k by omega]
    rw [show i + (k + 1) = i + 1 + k by omega] at hb
    exact chk_at (by simpa using h) (fun j t hj ht => by have := ha (j + 1) t (by omega) (by simpa using ht); rwa [show i + (j + 1) = i + 1 + j by omega] at this) hb
/-- The steps of a proof that is well-formed. -/
structure Wf (p : PrfD) : Prop where
  len : p.steps.length ≤ 1048576
  hint : ∀ (i : Nat) (s : StepD), p.steps[i]? = some s → ∀ h ∈ s.hints, 0 ≤ h ∧ h < i
  kind : ∀ (i : Nat) (s : StepD), p.steps[i]? = some s → 0 ≤ s.kind ∧ s.kind ≤ 5
  lem : ∀ (i : Nat) (s : StepD), p.steps[i]? = some s → s.kind = 4 → 0 ≤ s.node ∧ s.node < p.lemmas.length
theorem wf_check {p : PrfD} : check p = 0 ↔ Wf p := by
  have key : ∀ (i : Nat) (s : StepD), badS p.lemmas.length i s = 0 ↔ (0 ≤ s.kind ∧ s.kind ≤ 5) ∧ (∀ h ∈ s.hints, 0 ≤ h ∧ h < (i : Int)) ∧ (s.kind = 4 → 0 ≤ s.node ∧ s.node < p.lemmas.length) := by
    intro i s
    unfold badS
    by_cases h1 : s.kind < 0 ∨ 5 < s.kind
    · rw [if_pos h1]; constructor
      · intro h; cases h
      · intro h; omega
    · rw [if_neg h1]
      by_cases h2 : s.hints.any (badH i) = true
      · rw [if_pos h2]; constructor
        · intro h; cases h
        · rintro ⟨_, h, _⟩
          obtain ⟨x, hx, hb⟩ := List.any_eq_true.1 h2
          have := h x hx
          have hb' : x < 0 ∨ (i : Int) ≤ x := of_decide_eq_true hb
          omega
      · rw [if_neg h2]
        have h2' : ∀ h ∈ s.hints, 0 ≤ h ∧ h < (i : Int) := fun x hx => by
          have hb : ¬ (x < 0 ∨ (i : Int) ≤ x) := fun hb => h2 (List.any_eq_true.2 ⟨x, hx, decide_eq_true hb⟩)
          omega
        by_cases h3 : s.kind = 4 ∧ (s.node < 0 ∨ (p.lemmas.length : Int) ≤ s.node)
        · rw [if_pos h3]; constructor
          · intro h; cases h
          · rintro ⟨_, _, h⟩
            have := h h3.1
            omega
        · rw [if_neg h3]; constructor
          · intro _; exact ⟨by omega, h2', fun hk => by omega⟩
          · intro _; rfl
  unfold check
  constructor
  · intro h
    split at h
    · cases h
    · rename_i hl
      have hz := chk_zero.1 h
      refine ⟨by omega, fun i s hi => ?_, fun i s hi => ?_, fun i s hi => ?_⟩
      · have := ((key i s).1 (by simpa using hz i s hi)).2.1; exact this
      · exact ((key i s).1 (by simpa using hz i s hi)).1
      · exact ((key i s).1 (by simpa using hz i s hi)).2.2
  · intro h
    rw [if_neg (by have := h.len; omega)]
    exact chk_zero.2 fun k s hk => by
      rw [Nat.zero_add]
      exact (key k s).2 ⟨h.kind k s hk, h.hint k s hk, h.lem k s hk⟩
/-- The hints of the step with a number. -/
def hintsOf (l : List StepD) (i : Nat) : List Int := match l[i]? with
  | some s => s.hints
  | none => []
/-- One step on the way down. -/
def mark (l : List StepD) (i : Nat) (u : Nat → Bool) : Nat → Bool := if u i then fun k => u k || (hintsOf l i).contains (k : Int) else u
/-- The way down from step n - 1. -/
def down (l : List StepD) : Nat → (Nat → Bool) → Nat → Bool
  | 0, u => u
  | i + 1, u => down l i (mark l i u)
/-- On which steps a step rests. -/
def rests (l : List StepD) (j : Nat) : Nat → Bool := down l (j + 1) (fun k => k == j)
theorem down_skip {l : List StepD} {j : Nat} : ∀ (d : Nat) {n : Nat} {u : Nat → Bool}, n = j + 1 + d → (∀ i, j < i → u i = false) → down l n u = down l (j + 1) u
  | 0, n, u, h, _ => by subst h; rfl
  | d + 1, n, u, h, hu => by
    subst h
    rw [show j + 1 + (d + 1) = (j + 1 + d) + 1 by omega, down]
    have e : mark l (j + 1 + d) u = u := by unfold mark; rw [hu _ (by omega)]; simp
    rw [e]
    exact down_skip d rfl hu
theorem rests_len {l : List StepD} {j n : Nat} (h : j < n) : down l n (fun k => k == j) = rests l j :=
  down_skip (n - (j + 1)) (by omega) (fun i hi => by simp; omega)
/-- Marks above a place stand. -/
theorem down_above {l : List StepD} (hl : ∀ (i : Nat), ∀ h ∈ hintsOf l i, h < (i : Int)) : ∀ (n : Nat) (u : Nat → Bool) (k : Nat), n ≤ k + 1 → down l n u k = u k
  | 0, _, _, _ => rfl
  | n + 1, u, k, h => by
    rw [down, down_above hl n _ k (by omega)]
    unfold mark
    split
    · have : (hintsOf l n).contains (k : Int) = false := by
        rw [List.contains_eq_any_beq, List.any_eq_false]
        intro x hx
        have := hl n x hx
        simp
        omega
      show (u k || (hintsOf l n).contains (k : Int)) = u k
      rw [this]; simp
    · rfl
theorem hints_lt {p : PrfD} (h : Wf p) (i : Nat) : ∀ x ∈ hintsOf p.steps i, 0 ≤ x ∧ x < (i : Int) := by
  intro x hx
  unfold hintsOf at hx
  cases hs : p.steps[i]? with
  | none => rw [hs] at hx; simp at hx
  | some s => rw [hs] at hx; exact h.hint i s hs x hx
/-- Marks only grow. -/
theorem down_grow {l : List StepD} : ∀ (n : Nat) (u : Nat → Bool) (k : Nat), u k = true → down l n u k = true
  | 0, _, _, h => h
  | n + 1, u, k, h => by
    rw [down]
    refine down_grow n _ k ?_
    unfold mark
    split
    · show (u k || _) = true
      rw [h]; rfl
    · exact h
/-- What the way down visits: the places whose mark is set when they are come to. -/
def visits (l : List StepD) : Nat → (Nat → Bool) → List Nat
  | 0, _ => []
  | i + 1, u => (if u i then [i] else []) ++ visits l i (mark l i u)
theorem visits_mem {l : List StepD} (hl : ∀ (i : Nat), ∀ h ∈ hintsOf l i, h < (i : Int)) : ∀ (n : Nat) (u : Nat → Bool) (k : Nat), k ∈ visits l n u ↔ k < n ∧ down l n u k = true
  | 0, u, k => by simp [visits]
  | n + 1, u, k => by
    have h1 := down_above hl n (mark l n u) n (by omega)
    have hm : mark l n u n = u n := by
      unfold mark
      split
      · have : (hintsOf l n).contains (n : Int) = false := by
          rw [List.contains_eq_any_beq, List.any_eq_false]
          intro x hx
          have := hl n x hx
          simp
          omega
        show (u n || (hintsOf l n).contains (n : Int)) = u n
        rw [this]; simp
      · rfl
    rw [visits, List.mem_append, visits_mem hl n, down]
    by_cases hk : k = n
    · subst hk
      rw [h1, hm]
      by_cases hu : u k = true
      · simp [hu]
      · simp [hu]
    · have : ¬ k ∈ (if u n then [n] else []) := by split <;> simp [hk]
      constructor
      · rintro (h | ⟨h, h'⟩)
        · exact absurd h this
        · exact ⟨by omega, h'⟩
      · rintro ⟨h, h'⟩
        exact .inr ⟨by omega, h'⟩
end Trim
end Go.Proofs.Ytnmfihgdedifoaa
