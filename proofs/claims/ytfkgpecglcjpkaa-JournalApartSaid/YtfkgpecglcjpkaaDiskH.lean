/- Walks through package disk: Copy. Conditions: none. -/
import Derived.Test.YtfkgpecglcjpkaaDiskG
set_option linter.unusedVariables false
set_option linter.unusedSimpArgs false
set_option linter.unusedSectionVars false
open Go.RowKit
namespace Go.Proofs.Ytfkgpecglcjpkaa
open L
namespace Disk
open Wire
/-- The copy of a disk, so far. -/
def copyK (s : DS) (left : Int → Bool) : DS := { s with B := fun i => if left i then [] else s.B i, F := fun i => if left i then 0 else s.F i }
theorem copyK_ok {s : DS} (h : s.Ok) (left : Int → Bool) : (copyK s left).Ok := by
  refine ⟨fun i hi => ?_, fun i => ?_, fun i x hx => ?_, h.plan, h.room, used_less h (fun i => ?_)⟩
  · simp only [copyK]; split
    · rfl
    · exact h.out i hi
  · simp only [copyK]; split
    · exact Nat.zero_le _
    · exact h.firm i
  · simp only [copyK] at hx; split at hx
    · simp at hx
    · exact h.u8 i x hx
  · simp only [copyK]; split
    · simp
    · exact Nat.le_refl _
theorem copyK_start {s : DS} (h : s.Ok) (G C : Nat → Nat) : copyK s (fun x => (fileF s G C x).isSome) = { s with B := fun _ => [], F := fun _ => 0 } := by
  unfold copyK
  have key : ∀ i : Nat, (fileF s G C (i : Int)).isSome = false → s.B i = [] ∧ s.F i = 0 := by
    intro i hi
    have hb : s.B i = [] := by
      by_cases h64 : i < 64
      · refine Classical.byContradiction fun hb => ?_
        unfold fileF at hi
        rw [if_pos ⟨by omega, by omega, by rw [Int.toNat_natCast]; exact hb⟩] at hi
        cases hi
      · exact h.out i (by omega)
    have := h.firm i
    rw [hb] at this
    exact ⟨hb, by simpa using this⟩
  congr 1
  · funext i
    cases hi : (fileF s G C (i : Int)).isSome with
    | true => exact if_pos hi
    | false => simp [(key i hi).1]
  · funext i
    cases hi : (fileF s G C (i : Int)).isSome with
    | true => exact if_pos hi
    | false => simp [(key i hi).2]
theorem copyK_step {s : DS} {left : Int → Bool} {i : Nat} (hi : left i = true) : copyK s (fun z => left z && !decide (z = (i : Int))) = { copyK s left with B := setB (copyK s left).B i (s.B i), F := setF (copyK s left).F i (s.F i) } := by
  unfold copyK
  congr 1
  · funext j
    simp only [setB]
    by_cases e : j = i
    · subst e; simp
    · have : decide ((j : Int) = (i : Int)) = false := decide_eq_false (by omega)
      simp [e, this]
  · funext j
    simp only [setF]
    by_cases e : j = i
    · subst e; simp
    · have : decide ((j : Int) = (i : Int)) = false := decide_eq_false (by omega)
      simp [e, this]
theorem copyK_end {s : DS} (h : s.Ok) {left : Int → Bool} (hl : ∀ x, IsI64 x → left x = false) : copyK s left = s := by
  have key : ∀ i : Nat, left i = true → s.B i = [] ∧ s.F i = 0 := by
    intro i hi
    have hb : s.B i = [] := by
      refine h.out i ?_
      refine Classical.byContradiction fun h64 => ?_
      rw [hl i ⟨by omega, by omega⟩] at hi
      cases hi
    have := h.firm i
    rw [hb] at this
    exact ⟨hb, by simpa using this⟩
  obtain ⟨room, B, F, off, plan⟩ := s
  unfold copyK
  congr 1
  · funext i
    cases hi : left (i : Int) with
    | true => exact (if_pos rfl).trans (key i hi).1.symm
    | false => simp
  · funext i
    cases hi : left (i : Int) with
    | true => exact (if_pos rfl).trans (key i hi).2.symm
    | false => simp
section
variable {w w' : World} {p : Nat} {s : DS} {S : List Nat}
theorem dk_blank {m : Nat} (h1 : Blk w p [.int .i64 (s.room : Int), .map (some m), .bool s.off, .int .i64 s.plan] 89) (h2 : MF Try.prog 3 w m 64 (fun _ => none)) (hpm : p ≠ m) (hok : s.Ok) (hb : ∀ i, s.B i = []) : Dk w p s [p, m] :=
  ⟨⟨m, fun _ => 0, fun _ => 0, h1, h2.congr (fun x => by unfold fileF; rw [if_neg (fun h => h.2.2 (hb _))]), hpm, by simp, by simp, fun i _ h => absurd (hb i) h, fun i j _ _ h => absurd (hb i) h⟩, hok, fun k hk => by
    simp only [List.mem_cons, List.not_mem_nil, or_false] at hk
    rcases hk with rfl | rfl
    · exact h1.lt
    · exact h2.lt⟩
end
end Disk
end Go.Proofs.Ytfkgpecglcjpkaa
