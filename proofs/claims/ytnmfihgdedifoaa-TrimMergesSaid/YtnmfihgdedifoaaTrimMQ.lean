/- Merging as plain data: the program's and the reference's are the same. Conditions: none. -/
import Derived.Test.YtnmfihgdedifoaaTrimMJ
set_option linter.unusedVariables false
set_option linter.unusedSimpArgs false
set_option linter.unusedSectionVars false
open Go.RowKit
namespace Go.Proofs.Ytnmfihgdedifoaa
open L R01
namespace Trim
/-- Proofs of the generator's kind. -/
structure MFm (p : PrfD) : Prop where
  wf : Wf p
  len : p.steps.length ≤ 1000
  nl : p.lemmas.length ≤ 2
  form : ∀ d ∈ p.lemmas, d = lem0 0 ∨ d = lem0 1
  sts : ∀ (k : Nat) (s : StepD), p.steps[k]? = some s → StOk s
theorem lem0_ok {d : LemD} (h : d = lem0 0 ∨ d = lem0 1) : LmOk d := by
  have key : ∀ c : Int, c = 0 ∨ c = 1 → LmOk (lem0 c) := fun c hc => by
    refine ⟨⟨by simp [lem0], fun x hx => ?_⟩, ⟨by simp [lem0], by simp [lem0, IsI64]⟩, ⟨by simp [lem0], fun x hx => ?_⟩, ⟨by simp [lem0], fun x hx => ?_⟩⟩
    · simp [lem0] at hx; subst hx
      exact ⟨by simp [nod0, IsI64], by simp [nod0, IsI64], by simp [nod0, IsI64], by simp [nod0, IsI64], by simp [nod0, IsI64], by simp [nod0, IsI64], by simp [nod0], by decide⟩
    · simp [lem0] at hx; subst hx; unfold IsI64; omega
    · simp [lem0] at hx; subst hx
      rw [stE_length]
      have h1 : stp0.name.size ≤ 100 := by decide
      simp only [stp0, List.length_nil, List.length_cons] at h1 ⊢
      omega
  rcases h with rfl | rfl
  · exact key 0 (.inl rfl)
  · exact key 1 (.inr rfl)
theorem MFm.ok {p : PrfD} (h : MFm p) : MOk p := ⟨h.wf, h.len, by have := h.nl; omega, fun k s hs => by have := h.sts k s hs; exact ⟨this.params.1, this.lits.1, this.hints.1⟩, fun d hd => lem0_ok (h.form d hd)⟩
/-- A proof in memory has numbers that are numbers. -/
theorem MFm.of {w : World} {v : Value} {p : PrfD} (h : PrL w v p) (hwf : Wf p) (hlen : p.steps.length ≤ 1000) (hnl : p.lemmas.length ≤ 2) (hf : ∀ d ∈ p.lemmas, d = lem0 0 ∨ d = lem0 1) (hs : ∀ (k : Nat) (s : StepD), p.steps[k]? = some s → s.params.length ≤ 1000 ∧ s.lits.length ≤ 1000 ∧ s.hints.length ≤ 1000) : MFm p := by
  refine ⟨hwf, hlen, hnl, hf, fun k s hk => ?_⟩
  obtain ⟨vl, vs, rfl, _, hS⟩ := h
  obtain ⟨a, c, rfl, _, _, hat⟩ := hS.at_
  obtain ⟨g, vp, vl2, vh, _, _, f1, f2, f3, f4, f5, f6, f7, f8, f9, f10⟩ := hat k s hk
  have := hs k s hk
  exact ⟨f4, f5, f6, ⟨this.1, f7⟩, ⟨this.2.1, f8⟩, ⟨this.2.2, f9⟩, f10⟩
theorem qE_lm {a b : LemD} (ha : a = lem0 0 ∨ a = lem0 1) (hb : b = lem0 0 ∨ b = lem0 1) : qE lmE a b = sameLm a b := by
  unfold qE
  by_cases h : a = b
  · subst h; rw [sameLm_true rfl]; simp
  · rw [sameLm_false h]; exact decide_eq_false (fun e => h (lmE_inj ha hb e))
theorem qE_st {a b : StepD} (ha : StOk a) (hb : StOk b) : qE stE a b = sameSt a b := by
  unfold qE
  by_cases h : a = b
  · subst h; rw [sameSt_iff.2 rfl]; simp
  · have h1 : sameSt a b = false := by
      cases hq : sameSt a b with
      | false => rfl
      | true => exact (h (sameSt_iff.1 hq)).elim
    rw [h1]
    exact decide_eq_false (fun e => h (stE_inj ha hb e))
theorem renS_ok {no ln : Nat → Int} {s : StepD} (h : StOk s) (hn : ∀ j, IsI64 (no j)) (hl : ∀ j, IsI64 (ln j)) : StOk (renS no ln s) := by
  refine ⟨h.kind, ?_, h.rule, h.params, h.lits, ⟨by show (s.hints.map _).length ≤ _; rw [List.length_map]; exact h.hints.1, fun x hx => ?_⟩, h.name⟩
  · show IsI64 (if s.kind = 4 then ln s.node.toNat else s.node)
    by_cases h4 : s.kind = 4
    · rw [if_pos h4]; exact hl _
    · rw [if_neg h4]; exact h.node
  · obtain ⟨y, _, rfl⟩ := List.mem_map.1 hx
    exact hn _
theorem lmV {L xs : List LemD} (h0 : ∀ d ∈ L, d = lem0 0 ∨ d = lem0 1) (hx : ∀ d ∈ xs, d = lem0 0 ∨ d = lem0 1) (k : Nat) : GL L xs k = RL L xs k ∧ ∀ d ∈ (RL L xs k).1, d = lem0 0 ∨ d = lem0 1 := by
  have hr : ∀ (q : LemD → LemD → Bool) (k : Nat) (x : LemD), xs[k]? = some x → (fun d => d = lem0 0 ∨ d = lem0 1) ((fun (_ : Nat → Int) x => x) (goTo q (fun _ x => x) L xs k).2 x) := fun q k x hk => hx x (List.mem_of_getElem? hk)
  have e := goTo_congr (q := qE lmE) (q' := sameLm) (ren := fun _ x => x) (T0 := L) (xs := xs) (V := fun d => d = lem0 0 ∨ d = lem0 1) (fun a b ha hb => qE_lm ha hb) h0 (hr (qE lmE)) k
  exact ⟨e, goTo_all (q := sameLm) (ren := fun _ x => x) (V := fun d => d = lem0 0 ∨ d = lem0 1) h0 (hr sameLm) k⟩
theorem stV {T xs : List StepD} {ln : Nat → Int} (h0 : ∀ d ∈ T, StOk d) (hx : ∀ (k : Nat) (s : StepD), xs[k]? = some s → StOk s) (hl : ∀ j, IsI64 (ln j)) (hn : T.length + xs.length ≤ 1000000) (k : Nat) : GS ln T xs k = RS ln T xs k ∧ ∀ d ∈ (RS ln T xs k).1, StOk d := by
  have hr : ∀ (q : StepD → StepD → Bool) (k : Nat) (x : StepD), xs[k]? = some x → StOk ((fun (no : Nat → Int) x => renS no ln x) (goTo q (fun no x => renS no ln x) T xs k).2 x) := fun q k x hk => renS_ok (hx k x hk) (fun j => goTo_i64 (by have := (List.getElem?_eq_some_iff.1 hk).1; omega) j) hl
  have e := goTo_congr (q := qE stE) (q' := sameSt) (ren := fun no x => renS no ln x) (T0 := T) (xs := xs) (V := StOk) (fun a b ha hb => qE_st ha hb) h0 (hr (qE stE)) k
  exact ⟨e, goTo_all (q := sameSt) (ren := fun no x => renS no ln x) (V := StOk) h0 (hr sameSt) k⟩
/-- The program's merging is the reference's. -/
theorem mrg_rst {ps : Nat → PrfD} (h : ∀ j, MFm (ps j)) : mrg (ps 0) (ps 1) = ⟨(rst ps 2).1, (rst ps 2).2⟩ ∧ tabI (ps 0).steps.length (mS1 (ps 0)).2 = rnum ps 0 ∧ tabI (ps 1).steps.length (mS2 (ps 0) (ps 1)).2 = rnum ps 1 := by
  obtain ⟨l1, v1⟩ := lmV (L := []) (xs := (ps 0).lemmas) (by simp) (h 0).form (ps 0).lemmas.length
  have e1 : mL1 (ps 0) = RL [] (ps 0).lemmas (ps 0).lemmas.length := l1
  obtain ⟨l2, v2⟩ := lmV (L := (RL [] (ps 0).lemmas (ps 0).lemmas.length).1) (xs := (ps 1).lemmas) v1 (h 1).form (ps 1).lemmas.length
  have e2 : mL2 (ps 0) (ps 1) = RL (RL [] (ps 0).lemmas (ps 0).lemmas.length).1 (ps 1).lemmas (ps 1).lemmas.length := by unfold mL2; rw [e1]; exact l2
  have hb0 := (h 0).nl
  have hb1 := (h 1).nl
  have hc0 := (h 0).len
  have hc1 := (h 1).len
  have hi1 : ∀ j, IsI64 ((RL [] (ps 0).lemmas (ps 0).lemmas.length).2 j) := fun j => goTo_i64 (by simp; omega) j
  have hL : (RL [] (ps 0).lemmas (ps 0).lemmas.length).1.length ≤ 2 := by have := (goTo_bound sameLm (fun _ x => x) ([] : List LemD) (ps 0).lemmas (ps 0).lemmas.length).1; simp at this; unfold RL; omega
  have hi2 : ∀ j, IsI64 ((RL (RL [] (ps 0).lemmas (ps 0).lemmas.length).1 (ps 1).lemmas (ps 1).lemmas.length).2 j) := fun j => goTo_i64 (by omega) j
  obtain ⟨s1, u1⟩ := stV (T := []) (xs := (ps 0).steps) (by simp) (h 0).sts hi1 (by simp; omega) (ps 0).steps.length
  have e3 : mS1 (ps 0) = RS (RL [] (ps 0).lemmas (ps 0).lemmas.length).2 [] (ps 0).steps (ps 0).steps.length := by unfold mS1; rw [e1]; exact s1
  have hT : (RS (RL [] (ps 0).lemmas (ps 0).lemmas.length).2 [] (ps 0).steps (ps 0).steps.length).1.length ≤ 1000 := by
    have := mS1_le (ps 0)
    rw [e3] at this; omega
  obtain ⟨s2, u2⟩ := stV (T := (RS (RL [] (ps 0).lemmas (ps 0).lemmas.length).2 [] (ps 0).steps (ps 0).steps.length).1) (xs := (ps 1).steps) u1 (h 1).sts hi2 (by omega) (ps 1).steps.length
  have e4 : mS2 (ps 0) (ps 1) = RS (RL (RL [] (ps 0).lemmas (ps 0).lemmas.length).1 (ps 1).lemmas (ps 1).lemmas.length).2 (RS (RL [] (ps 0).lemmas (ps 0).lemmas.length).2 [] (ps 0).steps (ps 0).steps.length).1 (ps 1).steps (ps 1).steps.length := by unfold mS2; rw [e2, e3]; exact s2
  refine ⟨?_, ?_, ?_⟩
  · unfold mrg
    rw [e2, e4]
    rfl
  · rw [e3]; rfl
  · rw [e4]; rfl
end Trim
end Go.Proofs.Ytnmfihgdedifoaa
