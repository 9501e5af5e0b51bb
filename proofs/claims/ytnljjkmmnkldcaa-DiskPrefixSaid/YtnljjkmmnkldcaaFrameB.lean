/- What a claim's walk is told of a slice of byte slices. Conditions: none. -/
import Derived.Test.YtnljjkmmnkldcaaDiskPre
import Derived.Test.YtnljjkmmnkldcaaFrame
import Derived.Deep.Matrix
set_option linter.unusedVariables false
set_option linter.unusedSimpArgs false
set_option linter.unusedSectionVars false
open Go.RowKit
namespace Go.Proofs.Ytnljjkmmnkldcaa
open L
namespace Disk
theorem BS.nil (w : World) : BS w (.slice none 0 0) [] := ⟨[], ⟨rfl, none, 0, rfl, Nat.le_refl _, by unfold maxLen; omega, fun _ => rfl, .inl rfl⟩, fun i c hi => by simp at hi⟩
theorem BS.of {w : World} {a : Addr} {len cap base : Nat} {A : Nat → Option Addr} {L C : Nat → Nat} {Z : Nat → List Int} (hl : len ≤ cap) (hm : cap ≤ maxLen)
    (h : ∀ r, r < cap → w.cell? (a.add r) = some (.slice (A r) (L r) (C r)) ∧ L r ≤ C r ∧ C r ≤ maxLen ∧ (Z r).length = C r ∧ (∀ n ∈ Z r, (Lit.int .u8 n).wf = true) ∧ (A r = none → C r = 0) ∧
        ∀ a', A r = some a' → base ≤ a'.block ∧ ∀ c, c < C r → w.cell? (a'.add c) = some (.int .u8 ((Z r).getD c 0))) :
    ∃ l : List (List Int), len = l.length ∧ BS w (.slice (some a) len cap) l := by
  have each : ∀ r, r < cap → ∃ xs : List Int, (∀ x ∈ xs, IsU8 x) ∧ L r = xs.length ∧ SL w 1 (.slice (A r) (L r) (C r)) xs.length (byts xs) := fun r hr => by
    obtain ⟨_, h2, h3, h4, h5, h6, h7⟩ := h r hr
    have hr' : IsRow .u8 w (A r) (L r) (C r) (Z r) := by
      cases hA : A r with
      | none =>
        have hc := h6 hA
        refine .inl ⟨rfl, by omega, hc, List.eq_nil_of_length_eq_zero (by omega)⟩
      | some a' =>
        obtain ⟨_, h8⟩ := h7 a' hA
        exact .inr ⟨a', rfl, h2, h3, h4, fun i hi => h8 i (by omega), h5⟩
    exact hr'.bytes
  obtain ⟨f, hf⟩ := Go.Deep.choose_lt each
  refine ⟨(List.range len).map f, by simp, (List.range len).map (fun r => .slice (A r) (L r) (C r)), ?_, fun i c hi => ?_⟩
  · refine ⟨by simp, some a, cap, by simp, by simpa using hl, hm, (fun h => by cases h), ?_⟩
    by_cases h0 : len = 0
    · left; simp [h0]
    right
    have hx := (h 0 (by omega)).1
    obtain ⟨b, o, sp⟩ := a
    have hsp : sp = none := by
      cases sp with
      | none => rfl
      | some v =>
        simp [World.cell?, Addr.add] at hx
        split at hx <;> simp at hx
    subst hsp
    refine ⟨b, o, rfl, fun j u hj => ?_⟩
    rw [List.getElem?_map] at hj
    obtain ⟨r, hr, rfl⟩ := Option.map_eq_some_iff.1 hj
    have hjl : j < len := by have := (List.getElem?_eq_some_iff.1 hr).1; simpa using this
    have : r = j := by rw [List.getElem?_range hjl] at hr; simpa using hr.symm
    subst this
    have h1 := (h r (by omega)).1
    rw [addr_add] at h1
    exact h1
  · rw [List.getElem?_map] at hi
    obtain ⟨r, hr, rfl⟩ := Option.map_eq_some_iff.1 hi
    have hil : i < len := by have := (List.getElem?_eq_some_iff.1 hr).1; simpa using this
    have : r = i := by rw [List.getElem?_range hil] at hr; simpa using hr.symm
    subst this
    obtain ⟨g1, g2, g3⟩ := hf r (by omega)
    exact ⟨g1, .slice (A r) (L r) (C r), by rw [List.getElem?_map, hr]; rfl, g3⟩
end Disk
end Go.Proofs.Ytnljjkmmnkldcaa
