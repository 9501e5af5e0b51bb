/- A planned failure: plain facts. No function is named. Conditions: none. -/
import Derived.Test.YtnljjkmmnkldcaaDiskM
set_option linter.unusedVariables false
set_option linter.unusedSimpArgs false
set_option linter.unusedSectionVars false
open Go.RowKit
namespace Go.Proofs.Ytnljjkmmnkldcaa
open L
namespace Disk
/-- A disk with one file, before operation number i of a plan. -/
structure Pl (most i : Nat) (s : DS) (n : Nat) : Prop where
  room : s.room = 1000
  one : ∀ j, j ≠ 1 → s.B j = []
  len : (s.B 1).length = n
  le : n ≤ i
  on : i ≤ most → s.off = false ∧ s.plan = (most : Int) - i
  down : most < i → s.off = true
theorem Pl.used {most i n : Nat} {s : DS} (h : Pl most i s n) : used s = n := by
  unfold Disk.used
  have h1 := tot_one (n := 64) (g := fun j => (s.B j).length) (h := fun _ => 0) (i := 1) (by omega) (fun j _ hne => by rw [h.one j hne]; rfl)
  have h2 := tot_zero (g := fun _ => 0) (n := 64) (fun _ _ => rfl)
  simp only [h.len] at h1
  omega
theorem isF_one : isF 1 = true := by decide
theorem Pl.app {most i n : Nat} {s : DS} (h : Pl most i s n) (hi : i < 12) : (appendS s 1 [5]).1 = (if i < most then 0 else 23) ∧ Pl most (i + 1) (appendS s 1 [5]).2 (if i ≤ most then n + 1 else n) ∧ (appendS s 1 [5]).2.off = !decide (i < most) := by
  have hu := h.used
  have hle := h.le
  by_cases h1 : i ≤ most
  · obtain ⟨ho, hp⟩ := h.on h1
    have e : appendS s 1 [5] = (if (stepS { s with B := setB s.B 1 (s.B 1 ++ [5]) }).1 then 23 else 0, (stepS { s with B := setB s.B 1 (s.B 1 ++ [5]) }).2) := by
      unfold appendS
      rw [if_neg (by rw [isF_one]; simp), if_neg (by rw [ho]; simp), if_neg (by rw [hu, h.room]; simp; omega)]
      rfl
    have hB : ∀ j, j ≠ 1 → setB s.B 1 (s.B 1 ++ [5]) j = [] := fun j hj => by simp only [setB, if_neg hj]; exact h.one j hj
    have hl : (setB s.B 1 (s.B 1 ++ [5]) 1).length = n + 1 := by simp [setB, h.len]
    rw [e, if_pos h1]
    by_cases h2 : i < most
    · have est : stepS { s with B := setB s.B 1 (s.B 1 ++ [5]) } = (false, { s with B := setB s.B 1 (s.B 1 ++ [5]), plan := s.plan - 1 }) := by
        unfold stepS
        rw [if_neg (by simp only; omega), if_neg (by simp only; omega)]
      rw [est, if_pos h2]
      exact ⟨rfl, ⟨h.room, hB, hl, by omega, fun _ => ⟨ho, by simp only; omega⟩, fun h3 => by omega⟩, by rw [decide_eq_true h2]; exact ho⟩
    · have est : stepS { s with B := setB s.B 1 (s.B 1 ++ [5]) } = (true, { s with B := setB s.B 1 (s.B 1 ++ [5]), plan := -1, off := true }) := by
        unfold stepS
        rw [if_neg (by simp only; omega), if_pos (by simp only; omega)]
      rw [est, if_neg h2]
      exact ⟨rfl, ⟨h.room, hB, hl, by omega, fun h3 => by omega, fun _ => rfl⟩, by rw [decide_eq_false h2]; rfl⟩
  · have ho := h.down (by omega)
    have e : appendS s 1 [5] = (23, s) := by
      unfold appendS
      rw [if_neg (by rw [isF_one]; simp), if_pos ho]
    rw [e, if_neg h1, if_neg (by omega)]
    exact ⟨rfl, ⟨h.room, h.one, h.len, by omega, fun h3 => by omega, fun _ => ho⟩, by rw [decide_eq_false (by omega)]; exact ho⟩
theorem Pl.sync {most i n : Nat} {s : DS} (h : Pl most i s n) : (syncS s).1 = (if i < most then 0 else 23) ∧ Pl most (i + 1) (syncS s).2 n ∧ (syncS s).2.off = !decide (i < most) := by
  have hle := h.le
  by_cases h1 : i ≤ most
  · obtain ⟨ho, hp⟩ := h.on h1
    by_cases h2 : i < most
    · have est : stepS s = (false, { s with plan := s.plan - 1 }) := by
        unfold stepS
        rw [if_neg (by omega), if_neg (by omega)]
      have e : syncS s = (0, { s with plan := s.plan - 1, F := fun i => (s.B i).length }) := by
        unfold syncS
        rw [if_neg (by rw [ho]; simp), est, if_neg (by simp)]
      rw [e, if_pos h2]
      exact ⟨rfl, ⟨h.room, h.one, h.len, by omega, fun _ => ⟨ho, by simp only; omega⟩, fun h3 => by omega⟩, by rw [decide_eq_true h2]; exact ho⟩
    · have est : stepS s = (true, { s with plan := -1, off := true }) := by
        unfold stepS
        rw [if_neg (by omega), if_pos (by omega)]
      have e : syncS s = (23, { s with plan := -1, off := true }) := by
        unfold syncS
        rw [if_neg (by rw [ho]; simp), est, if_pos rfl]
      rw [e, if_neg h2]
      exact ⟨rfl, ⟨h.room, h.one, h.len, by omega, fun h3 => by omega, fun _ => rfl⟩, by rw [decide_eq_false h2]; rfl⟩
  · have ho := h.down (by omega)
    have e : syncS s = (23, s) := by unfold syncS; rw [if_pos ho]
    rw [e, if_neg (by omega)]
    exact ⟨rfl, ⟨h.room, h.one, h.len, by omega, fun h3 => by omega, fun _ => ho⟩, by rw [decide_eq_false (by omega)]; exact ho⟩
theorem Pl.trunc {most i n : Nat} {s : DS} (h : Pl most i s n) (hn : 0 < n) : (truncS s 1 ((n : Int) - 1)).1 = (if i < most then 0 else 23) ∧ Pl most (i + 1) (truncS s 1 ((n : Int) - 1)).2 (if i < most then n - 1 else n) ∧ (truncS s 1 ((n : Int) - 1)).2.off = !decide (i < most) := by
  have hle := h.le
  have hb : ¬ (isF 1 = false ∨ (n : Int) - 1 < 0 ∨ ((s.B (1 : Int).toNat).length : Int) < (n : Int) - 1) := by
    rw [isF_one, show (1 : Int).toNat = 1 from rfl, h.len]; simp; omega
  by_cases h1 : i ≤ most
  · obtain ⟨ho, hp⟩ := h.on h1
    by_cases h2 : i < most
    · have est : stepS s = (false, { s with plan := s.plan - 1 }) := by
        unfold stepS
        rw [if_neg (by omega), if_neg (by omega)]
      have e : truncS s 1 ((n : Int) - 1) = (0, { s with plan := s.plan - 1, B := setB s.B 1 ((s.B 1).take ((n : Int) - 1).toNat), F := setF s.F 1 (min (s.F 1) ((n : Int) - 1).toNat) }) := by
        unfold truncS
        rw [if_neg hb, if_neg (by rw [ho]; simp), est, if_neg (by simp)]
        rfl
      rw [e, if_pos h2, if_pos h2]
      refine ⟨rfl, ⟨h.room, fun j hj => by simp only [setB, if_neg hj]; exact h.one j hj, ?_, by omega, fun _ => ⟨ho, by simp only; omega⟩, fun h3 => by omega⟩, by rw [decide_eq_true h2]; exact ho⟩
      simp only [setB, if_pos]
      rw [List.length_take, h.len]; omega
    · have est : stepS s = (true, { s with plan := -1, off := true }) := by
        unfold stepS
        rw [if_neg (by omega), if_pos (by omega)]
      have e : truncS s 1 ((n : Int) - 1) = (23, { s with plan := -1, off := true }) := by
        unfold truncS
        rw [if_neg hb, if_neg (by rw [ho]; simp), est, if_pos rfl]
      rw [e, if_neg h2, if_neg h2]
      exact ⟨rfl, ⟨h.room, h.one, h.len, by omega, fun h3 => by omega, fun _ => rfl⟩, by rw [decide_eq_false h2]; rfl⟩
  · have ho := h.down (by omega)
    have e : truncS s 1 ((n : Int) - 1) = (23, s) := by unfold truncS; rw [if_neg hb, if_pos ho]
    rw [e, if_neg (by omega), if_neg (by omega)]
    exact ⟨rfl, ⟨h.room, h.one, h.len, by omega, fun h3 => by omega, fun _ => ho⟩, by rw [decide_eq_false (by omega)]; exact ho⟩
theorem Pl.crash {most i n : Nat} {s : DS} (h : Pl most i s n) (hok : s.Ok) (hn : n ≤ 12) : (readS (crashS s [1000] (-1)) 1).2 = 0 ∧ (readS (crashS s [1000] (-1)) 1).1.length = n ∧ (crashS s [1000] (-1)).off = false ∧ (syncS (crashS s [1000] (-1))).1 = 0 := by
  have hF := hok.firm 1
  have hk : s.F 1 + keptN s [1000] 1 = n := by
    rw [h.len] at hF
    unfold keptN
    by_cases hb : s.B 1 = []
    · rw [if_pos hb]
      have := h.len
      rw [hb] at this
      simp at this
      omega
    · have hr : rank s.B 1 = 0 := by unfold rank; rw [show tot (fun j => if s.B j = [] then 0 else 1) 1 = 0 + (if s.B 0 = [] then 0 else 1) from rfl, h.one 0 (by omega)]; rfl
      rw [if_neg hb, hr]
      simp only [List.getElem?_cons_zero, h.len]
      omega
  refine ⟨rfl, ?_, rfl, rfl⟩
  show (crashB s [1000] (crashAt s [1000] (-1)) 1).length = n
  rw [crashB_length s _ _ 1 hok, hk]
end Disk
end Go.Proofs.Ytnljjkmmnkldcaa
