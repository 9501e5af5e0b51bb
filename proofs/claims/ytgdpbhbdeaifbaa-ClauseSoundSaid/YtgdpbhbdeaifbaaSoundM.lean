/- Plain facts on clauses: unit propagation and resolution are sound. Conditions: none. -/
import Derived.Test.YtgdpbhbdeaifbaaSameC
import Derived.Test.YtgdpbhbdeaifbaaSteps
set_option linter.unusedVariables false
set_option linter.unusedSimpArgs false
set_option linter.unusedSectionVars false
open Go.RowKit
namespace Go.Proofs.Ytgdpbhbdeaifbaa
open L
namespace Law
open R01 R14 Cla
theorem trueB_iff {c t : List Int} : trueB c t = true ↔ ∃ x ∈ c, lval t x = 1 := by
  unfold trueB
  rw [List.any_eq_true]
  constructor
  · rintro ⟨x, hx, h⟩; exact ⟨x, hx, by simpa using h⟩
  · rintro ⟨x, hx, h⟩; exact ⟨x, hx, by simpa using h⟩
theorem left_mem {no h : List Int} {x : Int} : x ∈ left no h ↔ x ∈ h ∧ x ∉ no := by
  unfold left
  rw [List.mem_filter, Bool.not_eq_true', hasB_no]
theorem loop_sound {v : Nat} {t : List Int} (ht : Asg v t) : ∀ (hs : List (List Int)) (no : List Int), (∀ h ∈ hs, Few v h) → Few v no → chainLoop no hs = 0 → (∀ h ∈ hs, trueB h t = true) → trueB no t = true
  | [], no, _, _, h, _ => by simp [chainLoop] at h
  | h :: r, no, hf, hn, he, htr => by
    have hh := trueB_iff.1 (htr h (by simp))
    obtain ⟨z, hz, hz1⟩ := hh
    unfold chainLoop at he
    rcases hL : left no h with _ | ⟨x, _ | ⟨y, s⟩⟩
    · rw [trueB_iff]
      refine ⟨z, ?_, hz1⟩
      exact left_nil.1 hL z hz
    · rw [hL] at he
      simp only at he
      split at he
      · cases he
      · have hx : x ∈ h ∧ x ∉ no := left_mem.1 (by rw [hL]; simp)
        have hxf := hf h (by simp) x hx.1
        have hno : Few v (no ++ [-x]) := fun u hu => by
          rcases List.mem_append.1 hu with hu | hu
          · exact hn u hu
          · simp at hu; subst hu; exact ⟨by omega, by rw [Int.natAbs_neg]; exact hxf.2⟩
        have ih := loop_sound ht r (no ++ [-x]) (fun g hg => hf g (by simp [hg])) hno he (fun g hg => htr g (by simp [hg]))
        obtain ⟨u, hu, hu1⟩ := trueB_iff.1 ih
        rw [trueB_iff]
        rcases List.mem_append.1 hu with hu | hu
        · exact ⟨u, hu, hu1⟩
        · simp at hu
          subst hu
          rw [asg_neg ht hxf.1 hxf.2] at hu1
          by_cases hzn : z ∈ no
          · exact ⟨z, hzn, hz1⟩
          · have : z ∈ left no h := left_mem.2 ⟨hz, hzn⟩
            rw [hL] at this
            simp at this
            subst this
            omega
    · rw [hL] at he
      simp at he
theorem chain_sound {v : Nat} {t : List Int} (ht : Asg v t) {c : List Int} {hs : List (List Int)} (hc : Few v c) (hf : ∀ h ∈ hs, Few v h) (he : chainRes c hs = 0) (htr : ∀ h ∈ hs, trueB h t = true) : trueB c t = true := by
  unfold chainRes at he
  split at he
  · contradiction
  · split at he
    · contradiction
    · exact loop_sound ht hs c hf hc he htr
theorem resolve_sound {v : Nat} {t a b : List Int} {x : Int} (ht : Asg v t) (ha : Few v a) (he : resE a b x = 0) (h1 : trueB a t = true) (h2 : trueB b t = true) : trueB (resL a b x) t = true := by
  have hm : ∀ y, y ∈ resL a b x ↔ (y ∈ a ∧ y ≠ x) ∨ (y ∈ b ∧ y ≠ -x) := fun y => by
    unfold resL
    rw [if_pos he, norm_mem, rest2, List.mem_append, wout_mem, wout_mem]
  obtain ⟨p, hp, hp1⟩ := trueB_iff.1 h1
  obtain ⟨q, hq, hq1⟩ := trueB_iff.1 h2
  rw [trueB_iff]
  by_cases hpx : p = x
  · by_cases hqx : q = -x
    · subst hpx
      subst hqx
      have := ha p hp
      rw [asg_neg ht this.1 this.2] at hq1
      omega
    · exact ⟨q, (hm q).2 (.inr ⟨hq, hqx⟩), hq1⟩
  · exact ⟨p, (hm p).2 (.inl ⟨hp, hpx⟩), hp1⟩
theorem good_few {vars : Int} {v : Nat} {c : List Int} (h : Good vars c) (hv : vars ≤ v) : Few v c := fun x hx => by
  have := h.1 x hx
  exact ⟨by omega, by omega⟩
/-- A resolvent of generated clauses: valid, of few literals. -/
theorem resolve_good {vars : Int} {a b : List Int} {x : Int} (hv : vars ≤ 100) (ha : Good vars a) (hb : Good vars b) (he : resE a b x = 0) : Good vars (resL a b x) := by
  have hva := valid_lit (valid_good ha hv)
  have hR : resE a b x = if hasB a x = false ∨ hasB b (-x) = false then 7 else if taut (rest2 a b x) = true then 13 else 0 := by
    unfold resE; rw [if_neg (by rw [valid_good ha hv]; simp), if_neg (by rw [valid_good hb hv]; simp)]
  have ht : taut (rest2 a b x) = false := by
    rw [hR] at he
    split at he
    · cases he
    · split at he
      · cases he
      · rename_i h; simpa using h
  have e : resL a b x = norm (rest2 a b x) := by unfold resL; rw [if_pos he]
  have hmem : ∀ y ∈ resL a b x, 1 ≤ y.natAbs ∧ (y.natAbs : Int) ≤ vars := fun y hy => by
    rw [e, norm_mem, rest2, List.mem_append, wout_mem, wout_mem] at hy
    rcases hy with hy | hy
    · exact ha.1 y hy.1
    · exact hb.1 y hy.1
  have hord : Cla.Ord (resL a b x) := by rw [e]; exact norm_ord ht
  refine ⟨hmem, ?_, hord⟩
  -- the variables rise and are among 1 .. vars
  have key : ∀ (l : List Int) (lo : Nat), Cla.Ord l → (∀ y ∈ l, lo ≤ y.natAbs ∧ (y.natAbs : Int) ≤ vars) → l.length ≤ vars.toNat + 1 - lo ∨ l = [] := by
    intro l
    induction l with
    | nil => intro lo _ _; exact .inr rfl
    | cons y l ih =>
      intro lo ho hl
      unfold Cla.Ord at ho
      rw [List.pairwise_cons] at ho
      have hy := hl y (by simp)
      left
      rcases ih (y.natAbs + 1) ho.2 (fun z hz => ⟨by have := ho.1 z hz; omega, (hl z (by simp [hz])).2⟩) with h | h
      · simp only [List.length_cons]
        by_cases hl0 : l = []
        · subst hl0; simp; omega
        · have : 0 < l.length := by
            cases l with
            | nil => exact absurd rfl hl0
            | cons _ _ => simp
          omega
      · subst h; simp; omega
  rcases key (resL a b x) 1 hord hmem with h | h
  · omega
  · rw [h]; simp
end Law
end Go.Proofs.Ytgdpbhbdeaifbaa
