/- Proofs as plain data: what lies below a step. No program is named. Conditions: none. -/
import Derived.Test.YtnmfihgdedifoaaTrimT
set_option linter.unusedVariables false
set_option linter.unusedSimpArgs false
set_option linter.unusedSectionVars false
open Go.RowKit
namespace Go.Proofs.Ytnmfihgdedifoaa
open L
namespace Trim
/-- A step lies below another one, or is the same. -/
inductive Bel (l : List StepD) : Nat → Nat → Prop
  | refl (j : Nat) : Bel l j j
  | step {j k : Nat} {h : Int} : h ∈ hintsOf l j → Bel l h.toNat k → Bel l j k
/-- All hints point back. -/
def HOk (l : List StepD) : Prop := ∀ (i : Nat), ∀ h ∈ hintsOf l i, 0 ≤ h ∧ h < (i : Int)
theorem Wf.ok {p : PrfD} (h : Wf p) : HOk p.steps := fun i x hx => hints_lt h i x hx
theorem hintsOf_some {l : List StepD} {i : Nat} {s : StepD} (h : l[i]? = some s) : hintsOf l i = s.hints := by unfold hintsOf; rw [h]
theorem Bel.trans {l : List StepD} {i j k : Nat} (h : Bel l i j) : Bel l j k → Bel l i k := by
  induction h with
  | refl => exact id
  | step h1 _ ih => exact fun h2 => .step h1 (ih h2)
theorem Bel.le {l : List StepD} (hl : HOk l) {j k : Nat} (h : Bel l j k) : k ≤ j := by
  induction h with
  | refl => exact Nat.le_refl _
  | step h1 _ ih => have := hl _ _ h1; omega
theorem mark_iff {l : List StepD} {i : Nat} {u : Nat → Bool} {k : Nat} : mark l i u k = true ↔ u k = true ∨ (u i = true ∧ (k : Int) ∈ hintsOf l i) := by
  unfold mark
  cases hu : u i with
  | false => simp
  | true => simp
theorem down_iff {l : List StepD} (hl : HOk l) : ∀ (n : Nat) (u : Nat → Bool) (k : Nat), down l n u k = true ↔ u k = true ∨ ∃ j, j < n ∧ u j = true ∧ Bel l j k
  | 0, u, k => by simp [down]
  | n + 1, u, k => by
    rw [down, down_iff hl n]
    constructor
    · rintro (h | ⟨j, h1, h2, h3⟩)
      · rcases mark_iff.1 h with h | ⟨h1, h2⟩
        · exact .inl h
        · exact .inr ⟨n, by omega, h1, .step h2 (.refl _)⟩
      · rcases mark_iff.1 h2 with h | ⟨h4, h5⟩
        · exact .inr ⟨j, by omega, h, h3⟩
        · exact .inr ⟨n, by omega, h4, .step h5 h3⟩
    · rintro (h | ⟨j, h1, h2, h3⟩)
      · exact .inl (mark_iff.2 (.inl h))
      · by_cases e : j = n
        · subst e
          cases h3 with
          | refl => exact .inl (mark_iff.2 (.inl h2))
          | @step _ _ h h4 h5 =>
            obtain ⟨z0, z1⟩ := hl _ _ h4
            obtain ⟨m, rfl⟩ := Int.eq_ofNat_of_zero_le z0
            exact .inr ⟨m, by omega, mark_iff.2 (.inr ⟨h2, h4⟩), h5⟩
        · exact .inr ⟨j, by omega, mark_iff.2 (.inl h2), h3⟩
theorem one_iff {l : List StepD} (hl : HOk l) {n j k : Nat} (h : j < n) : down l n (fun m => decide ((m : Int) = (j : Int))) k = true ↔ Bel l j k := by
  rw [down_iff hl]
  constructor
  · rintro (h | ⟨i, _, h2, h3⟩)
    · have e : k = j := by have := of_decide_eq_true h; omega
      subst e; exact .refl _
    · have e : i = j := by have := of_decide_eq_true h2; omega
      subst e; exact h3
  · exact fun h2 => .inr ⟨j, h, by simp, h2⟩
theorem lastOn_iff {l : List StepD} (hl : HOk l) {k : Nat} : lastOn l k = true ↔ 0 < l.length ∧ Bel l (l.length - 1) k := by
  unfold lastOn
  by_cases h0 : 0 < l.length
  · have e : (l.length : Int) - 1 = ((l.length - 1 : Nat) : Int) := by omega
    rw [e, one_iff hl (by omega)]
    exact ⟨fun h => ⟨h0, h⟩, fun h => h.2⟩
  · have e : l.length = 0 := by omega
    rw [e]
    simp only [down, Nat.lt_irrefl, false_and, iff_false]
    simp
/-- Nothing below a step is an assertion of a name of the list. -/
def Free (gone : List ByteArray) (l : List StepD) (j : Nat) : Prop := ∀ (k : Nat) (st : StepD), Bel l j k → l[k]? = some st → st.kind = 1 → hasN gone st.name = false
theorem kept_iff {gone : List ByteArray} {l : List StepD} (hl : HOk l) : ∀ {n j : Nat}, n ≤ l.length → (keptTo gone l n j = true ↔ j < n ∧ Free gone l j)
  | 0, j, _ => by simp [keptTo]
  | n + 1, j, hn => by
    rw [keptTo]
    by_cases e : j = n
    · subst e
      have hs := List.getElem?_eq_getElem (show j < l.length by omega)
      rw [if_pos rfl, hs]
      generalize l[j]'(by omega) = s at *
      simp only [okS, Bool.and_eq_true, Bool.or_eq_true, Bool.not_eq_true', beq_eq_false_iff_ne, List.all_eq_true]
      constructor
      · rintro ⟨h1, h2⟩
        refine ⟨by omega, fun k st hb hk hk1 => ?_⟩
        cases hb with
        | refl =>
          rw [hs] at hk; cases hk
          rcases h1 with h1 | h1
          · exact absurd hk1 h1
          · exact h1
        | step h3 h4 =>
          rw [hintsOf_some hs] at h3
          exact ((kept_iff hl (by omega)).1 (h2 _ h3)).2 k st h4 hk hk1
      · rintro ⟨_, h1⟩
        refine ⟨?_, fun h hh => (kept_iff hl (by omega)).2 ⟨?_, fun k st hb => h1 k st (.step (by rw [hintsOf_some hs]; exact hh) hb)⟩⟩
        · by_cases hk1 : s.kind = 1
          · exact .inr (h1 j s (.refl _) hs hk1)
          · exact .inl hk1
        · have := hl j h (by rw [hintsOf_some hs]; exact hh)
          omega
    · rw [if_neg e, kept_iff hl (by omega)]
      exact ⟨fun h => ⟨by omega, h.2⟩, fun h => ⟨by omega, h.2⟩⟩
/-- Hints of chosen steps are chosen. -/
def Clo (l : List StepD) (u : Nat → Bool) : Prop := ∀ (i : Nat), u i = true → ∀ h ∈ hintsOf l i, u h.toNat = true
theorem lastOn_clo {l : List StepD} (hl : HOk l) : Clo l (lastOn l) := fun i hi h hh => by
  rw [lastOn_iff hl] at hi ⊢
  exact ⟨hi.1, hi.2.trans (.step hh (.refl _))⟩
theorem kept_clo {gone : List ByteArray} {l : List StepD} (hl : HOk l) : Clo l (keptTo gone l l.length) := fun i hi h hh => by
  rw [kept_iff hl (Nat.le_refl _)] at hi ⊢
  have := hl i h hh
  exact ⟨by omega, fun k st hb => hi.2 k st (.step hh hb)⟩
/-- The premises of a step say whether it stays. -/
theorem free_of {gone : List ByteArray} {l : List StepD} (hl : HOk l) {n j : Nat} (hj : j < n) {R : List ByteArray} (hR : PremOf l (down l n (fun m => decide ((m : Int) = (j : Int)))) R) : (∀ x ∈ R, hasN gone x = false) ↔ Free gone l j := by
  constructor
  · intro h k st hb hk hk1
    exact h _ ((hR.2 _).2 ⟨k, st, hk, (one_iff hl hj).2 hb, hk1, rfl⟩)
  · intro h x hx
    obtain ⟨k, st, h1, h2, h3, rfl⟩ := (hR.2 x).1 hx
    exact h k st ((one_iff hl hj).1 h2) h1 h3
end Trim
end Go.Proofs.Ytnmfihgdedifoaa
