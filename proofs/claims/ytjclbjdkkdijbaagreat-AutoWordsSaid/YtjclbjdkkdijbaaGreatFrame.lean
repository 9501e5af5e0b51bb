/- What a claim's walk is told of its arguments. Conditions: none. -/
import Derived.Test.YtjclbjdkkdijbaaGreatLib
import Derived.ChangeSlices
set_option linter.unusedVariables false
set_option linter.unusedSimpArgs false
set_option linter.unusedSectionVars false
open Go.RowKit
namespace Go.Proofs.YtjclbjdkkdijbaaGreat
namespace L
/-- A slice of integers that came in: nil, or it leads to a row of 'cap' cells, the numbers 'zs' (the first 'len' are its elements), each fitting its kind. -/
def IsRow (k : IntKind) (w : World) (a : Option Addr) (len cap : Nat) (zs : List Int) : Prop :=
  (a = none ∧ len = 0 ∧ cap = 0 ∧ zs = []) ∨
  ∃ x, a = some x ∧ len ≤ cap ∧ cap ≤ maxLen ∧ zs.length = cap ∧ (∀ i, i < zs.length → w.cell? (x.add i) = some (.int k (zs.getD i 0))) ∧ ∀ n ∈ zs, (Lit.int k n).wf = true
theorem wf_i64 {n : Int} (h : (Lit.int .i64 n).wf = true) : IsI64 n := by
  simp [Lit.wf, IntKind.min, IntKind.max, IntKind.bits, IntKind.signed] at h
  unfold IsI64
  omega
def IsU8 (n : Int) : Prop := 0 ≤ n ∧ n ≤ 255
theorem wf_u8 {n : Int} (h : (Lit.int .u8 n).wf = true) : IsU8 n := by
  simp [Lit.wf, IntKind.min, IntKind.max, IntKind.bits, IntKind.signed] at h
  unfold IsU8
  omega
theorem IsRow.read {k : IntKind} {w : World} {a : Option Addr} {len cap : Nat} {zs : List Int} (h : IsRow k w a len cap zs) :
    ∃ xs : List Int, (∀ x ∈ xs, (Lit.int k x).wf = true) ∧ len = xs.length ∧ SL w 1 (.slice a len cap) xs.length (xs.map (Value.int k)) := by
  rcases h with ⟨rfl, rfl, rfl, rfl⟩ | ⟨x, rfl, hlc, hcm, hz, hc, hwf⟩
  · exact ⟨[], by simp, rfl, rfl, none, 0, rfl, Nat.le_refl _, by unfold maxLen; omega, fun _ => rfl, .inl rfl⟩
  · have hlen : (zs.take len).length = len := by rw [List.length_take]; omega
    refine ⟨zs.take len, fun y hy => hwf y (List.mem_of_mem_take hy), hlen.symm, by rw [List.length_map]; omega, some x, cap, by rw [hlen], by omega, hcm, (fun h => by cases h), ?_⟩
    by_cases h0 : len = 0
    · left; omega
    right
    have hx := hc 0 (by omega)
    obtain ⟨b, o, sp⟩ := x
    have hsp : sp = none := by
      cases sp with
      | none => rfl
      | some v =>
        simp [World.cell?, Addr.add] at hx
        split at hx <;> simp at hx
    subst hsp
    refine ⟨b, o, rfl, fun j u hj => ?_⟩
    have hj1 : j < ((zs.take len).map (Value.int k)).length := (List.getElem?_eq_some_iff.1 hj).1
    rw [List.length_map, hlen] at hj1
    have h1 := hc j (by omega)
    rw [addr_add] at h1
    rw [h1, ← hj, List.getElem?_map, List.getElem?_take_of_lt hj1, List.getD_eq_getElem?_getD, List.getElem?_eq_getElem (by omega)]
    simp
theorem IsRow.ints {w : World} {a : Option Addr} {len cap : Nat} {zs : List Int} (h : IsRow .i64 w a len cap zs) :
    ∃ xs : List Int, (∀ x ∈ xs, IsI64 x) ∧ len = xs.length ∧ SL w 1 (.slice a len cap) xs.length (ints xs) := by
  obtain ⟨xs, h1, h2, h3⟩ := h.read
  exact ⟨xs, fun x hx => wf_i64 (h1 x hx), h2, h3⟩
def byts (xs : List Int) : List Value := xs.map (Value.int .u8)
theorem IsRow.bytes {w : World} {a : Option Addr} {len cap : Nat} {zs : List Int} (h : IsRow .u8 w a len cap zs) :
    ∃ xs : List Int, (∀ x ∈ xs, IsU8 x) ∧ len = xs.length ∧ SL w 1 (.slice a len cap) xs.length (byts xs) := by
  obtain ⟨xs, h1, h2, h3⟩ := h.read
  exact ⟨xs, fun x hx => wf_u8 (h1 x hx), h2, h3⟩
end L
end Go.Proofs.YtjclbjdkkdijbaaGreat
