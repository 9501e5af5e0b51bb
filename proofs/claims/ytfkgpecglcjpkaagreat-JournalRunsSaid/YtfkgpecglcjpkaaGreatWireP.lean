/- Variable-length integers: what is written is read back, and what is read is what is written. Conditions: none. -/
import Derived.Test.YtfkgpecglcjpkaaGreatWire
set_option linter.unusedVariables false
set_option linter.unusedSimpArgs false
set_option linter.unusedSectionVars false
open Go.RowKit
namespace Go.Proofs.YtfkgpecglcjpkaaGreat
open L
namespace Wire
theorem rdF_lt {bs : List Int} {p : Nat} (hu : ∀ x ∈ bs, IsU8 x) : ∀ (f k acc : Nat), f + k = 10 → acc < 128 ^ k → (rdF bs p f k acc).1 < 18446744073709551616
  | 0, k, acc, _, _ => by simp [rdF]
  | f + 1, k, acc, hf, ha => by
    unfold rdF
    cases hb : bs[p + k]? with
    | none => simp
    | some c =>
      obtain ⟨hc0, hc1⟩ := hu c (List.mem_of_getElem? hb)
      simp only
      by_cases hbad : (k = 9 ∧ 1 < c) ∨ (0 < k ∧ c = 0)
      · rw [if_pos hbad]; simp
      · rw [if_neg hbad]
        by_cases hlt : c < 128
        · rw [if_pos hlt]
          simp only
          have := digit_lt (k := k) (d := c.toNat % 128) (by omega) (by omega) (fun h => by omega)
          omega
        · rw [if_neg hlt]
          have hk9 : k < 9 := by omega
          exact rdF_lt hu f (k + 1) _ (by omega) (acc_lt ha (by omega))
theorem rdU_lt {bs : List Int} {p : Nat} {e : Int} (hu : ∀ x ∈ bs, IsU8 x) : (rdU bs p e).1 < 18446744073709551616 := by
  unfold rdU
  split
  · exact rdF_lt hu 10 0 0 rfl (by simp)
  · simp
theorem rdF_write : ∀ (g k m acc p : Nat) (front rest : List Int), g + k = 9 → front.length = p + k → m < 2 * 128 ^ g → (0 < k → m ≠ 0) →
    rdF (front ++ (ubF g m ++ rest)) p (g + 1) k acc = (acc + m * 128 ^ k, p + k + (ubF g m).length, 0)
  | g, k, m, acc, p, front, rest, hg, hfr, hm, hz => by
    by_cases hlt : m < 128
    · have hub : ubF g m = [(m : Int)] := by cases g <;> simp [ubF, hlt]
      rw [hub]
      unfold rdF
      have hget : (front ++ ([(m : Int)] ++ rest))[p + k]? = some (m : Int) := by
        rw [List.getElem?_append_right (by omega), hfr, Nat.sub_self]; rfl
      rw [hget]
      simp only
      have hnb : ¬ ((k = 9 ∧ 1 < (m : Int)) ∨ (0 < k ∧ (m : Int) = 0)) := by
        rintro (⟨h1, h2⟩ | ⟨h1, h2⟩)
        · have : g = 0 := by omega
          subst this; simp at hm; omega
        · exact hz h1 (by omega)
      rw [if_neg hnb, if_pos (by omega)]
      have : (m : Int).toNat % 128 = m := by omega
      rw [this]
      simp
    · cases g with
      | zero => simp at hm; omega
      | succ g =>
        have hub : ubF (g + 1) m = ((m % 128 + 128 : Nat) : Int) :: ubF g (m / 128) := by rw [ubF, if_neg hlt]
        rw [hub]
        unfold rdF
        have hget : (front ++ (((m % 128 + 128 : Nat) : Int) :: ubF g (m / 128) ++ rest))[p + k]? = some ((m % 128 + 128 : Nat) : Int) := by
          rw [List.getElem?_append_right (by omega), hfr, Nat.sub_self]; rfl
        rw [hget]
        simp only
        have hnb : ¬ ((k = 9 ∧ 1 < ((m % 128 + 128 : Nat) : Int)) ∨ (0 < k ∧ ((m % 128 + 128 : Nat) : Int) = 0)) := by omega
        rw [if_neg hnb, if_neg (by omega)]
        have hd : (((m % 128 + 128 : Nat) : Int)).toNat % 128 = m % 128 := by omega
        rw [hd]
        have hre : front ++ (((m % 128 + 128 : Nat) : Int) :: ubF g (m / 128) ++ rest) = (front ++ [((m % 128 + 128 : Nat) : Int)]) ++ (ubF g (m / 128) ++ rest) := by simp
        rw [hre, rdF_write g (k + 1) (m / 128) (acc + m % 128 * 128 ^ k) p (front ++ [((m % 128 + 128 : Nat) : Int)]) rest (by omega) (by simp; omega) (by rw [Nat.pow_succ] at hm; omega) (by omega)]
        refine Prod.ext ?_ (Prod.ext ?_ rfl)
        · simp only
          rw [Nat.pow_succ]
          have : m * 128 ^ k = (m % 128) * 128 ^ k + m / 128 * (128 ^ k * 128) := by
            conv => lhs; rw [← Nat.mod_add_div m 128]
            rw [Nat.add_mul, Nat.mul_comm (128 ^ k) 128, ← Nat.mul_assoc, Nat.mul_comm 128 (m / 128)]
          omega
        · simp only [List.length_cons]; omega
theorem rdU_write (front rest : List Int) {n : Nat} (hn : n < 18446744073709551616) : rdU (front ++ (ub n ++ rest)) front.length 0 = (n, front.length + (ub n).length, 0) := by
  unfold rdU ub
  rw [if_pos rfl, rdF_write 9 0 n 0 front.length front rest rfl rfl (by simpa using hn) (by omega)]
  simp
theorem rdF_read {bs : List Int} {p : Nat} (hu : ∀ x ∈ bs, IsU8 x) : ∀ (g k acc v p' : Nat), g + k = 9 → rdF bs p (g + 1) k acc = (v, p', 0) →
    ∃ m, v = acc + m * 128 ^ k ∧ bs.drop (p + k) = ubF g m ++ bs.drop p' ∧ p' ≤ bs.length ∧ (0 < k → m ≠ 0)
  | g, k, acc, v, p', hg, h => by
    unfold rdF at h
    cases hb : bs[p + k]? with
    | none => rw [hb] at h; simp at h
    | some c =>
      rw [hb] at h
      simp only at h
      obtain ⟨hc0, hc1⟩ := hu c (List.mem_of_getElem? hb)
      obtain ⟨hlen, hgc⟩ := List.getElem?_eq_some_iff.1 hb
      have hdrop : bs.drop (p + k) = c :: bs.drop (p + k + 1) := by rw [List.drop_eq_getElem_cons hlen, hgc]
      by_cases hbad : (k = 9 ∧ 1 < c) ∨ (0 < k ∧ c = 0)
      · rw [if_pos hbad] at h; simp at h
      · rw [if_neg hbad] at h
        by_cases hlt : c < 128
        · rw [if_pos hlt] at h
          simp only [Prod.mk.injEq, and_true] at h
          have hcn : (c.toNat : Int) = c := by omega
          refine ⟨c.toNat, by rw [← h.1]; congr 2; omega, ?_, by omega, fun hk hz => hbad (.inr ⟨hk, by omega⟩)⟩
          have hub : ubF g c.toNat = [c] := by
            cases g with
            | zero => simp [ubF, hcn]
            | succ g => rw [ubF, if_pos (by omega), hcn]
          rw [hub, hdrop, ← h.2]; rfl
        · rw [if_neg hlt] at h
          cases g with
          | zero => omega
          | succ g =>
            obtain ⟨m, h1, h2, h3, h4⟩ := rdF_read hu g (k + 1) _ v p' (by omega) h
            have hm := h4 (by omega)
            refine ⟨c.toNat % 128 + 128 * m, ?_, ?_, h3, by omega⟩
            · rw [h1, Nat.pow_succ, Nat.add_mul, Nat.mul_comm 128 m, Nat.mul_assoc m 128, Nat.mul_comm 128 (128 ^ k)]; omega
            · have hub : ubF (g + 1) (c.toNat % 128 + 128 * m) = c :: ubF g m := by
                rw [ubF, if_neg (by omega)]
                congr 1
                · omega
                · congr 1; omega
              rw [hub, hdrop, List.cons_append, ← h2]; rfl
theorem rdU_read {bs : List Int} {p v p' : Nat} {e : Int} (hu : ∀ x ∈ bs, IsU8 x) (h : rdU bs p e = (v, p', 0)) : e = 0 ∧ bs.drop p = ub v ++ bs.drop p' ∧ p' ≤ bs.length ∧ v < 18446744073709551616 := by
  have hlt := rdU_lt (p := p) (e := e) hu
  rw [h] at hlt
  unfold rdU at h
  by_cases he : e = 0
  · rw [if_pos he] at h
    obtain ⟨m, h1, h2, h3, _⟩ := rdF_read hu 9 0 0 v p' rfl h
    have hm : v = m := by rw [h1]; simp
    subst hm
    exact ⟨he, by simpa [ub] using h2, h3, hlt⟩
  · rw [if_neg he] at h
    simp at h
    exact absurd h.2.2 he
theorem rdU_err {bs : List Int} {p : Nat} {e : Int} (he : e ≠ 0) : rdU bs p e = (0, p, e) := by unfold rdU; rw [if_neg he]
end Wire
end Go.Proofs.YtfkgpecglcjpkaaGreat
