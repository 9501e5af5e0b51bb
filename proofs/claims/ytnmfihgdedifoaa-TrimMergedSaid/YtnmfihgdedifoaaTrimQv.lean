/- Merging as plain data: the program's and the reference's are the same. Conditions: none. Merging as plain data: what a merged proof is. Conditions: none. Merging as plain data: the law of what a merged proof is. Conditions: none. -/
import Derived.Test.YtnmfihgdedifoaaTrimMJ
import Derived.Test.YtnmfihgdedifoaaTrimBb
set_option linter.unusedVariables false
set_option linter.unusedSimpArgs false
set_option linter.unusedSectionVars false
section
open Go.RowKit
namespace Go.Proofs.Ytnmfihgdedifoaa
open L R01
namespace Trim
/-- Proofs of the generator's kind. -/
structure MFm (p : PrfD) : Prop where
  wf : Wf p
  len : p.steps.length ≤ 1000
  nl : p.lemmas.length ≤ 2
  form : ∀ d ∈ p.lemmas, d = lem0 0 ∨ d = lem0 1
  sts : ∀ (k : Nat) (s : StepD), p.steps[k]? = some s → StOk s
theorem lem0_ok {d : LemD} (h : d = lem0 0 ∨ d = lem0 1) : LmOk d := by
  have key : ∀ c : Int, c = 0 ∨ c = 1 → LmOk (lem0 c) := fun c hc => by
    refine ⟨⟨by simp [lem0], fun x hx => ?_⟩, ⟨by simp [lem0], by simp [lem0, IsI64]⟩, ⟨by simp [lem0], fun x hx => ?_⟩, ⟨by simp [lem0], fun x hx => ?_⟩⟩
    · simp [lem0] at hx; subst hx
      exact ⟨by simp [nod0, IsI64], by simp [nod0, IsI64], by simp [nod0, IsI64], by simp [nod0, IsI64], by simp [nod0, IsI64], by simp [nod0, IsI64], by simp [nod0], by decide⟩
    · simp [lem0] at hx; subst hx; unfold IsI64; omega
    · simp [lem0] at hx; subst hx
      rw [stE_length]
      have h1 : stp0.name.size ≤ 100 := by decide
      simp only [stp0, List.length_nil, List.length_cons] at h1 ⊢
      omega
  rcases h with rfl | rfl
  · exact key 0 (.inl rfl)
  · exact key 1 (.inr rfl)
theorem MFm.ok {p : PrfD} (h : MFm p) : MOk p := ⟨h.wf, h.len, by have := h.nl; omega, fun k s hs => by have := h.sts k s hs; exact ⟨this.params.1, this.lits.1, this.hints.1⟩, fun d hd => lem0_ok (h.form d hd)⟩
/-- A proof in memory has numbers that are numbers. -/
theorem MFm.of {w : World} {v : Value} {p : PrfD} (h : PrL w v p) (hwf : Wf p) (hlen : p.steps.length ≤ 1000) (hnl : p.lemmas.length ≤ 2) (hf : ∀ d ∈ p.lemmas, d = lem0 0 ∨ d = lem0 1) (hs : ∀ (k : Nat) (s : StepD), p.steps[k]? = some s → s.params.length ≤ 1000 ∧ s.lits.length ≤ 1000 ∧ s.hints.length ≤ 1000) : MFm p := by
  refine ⟨hwf, hlen, hnl, hf, fun k s hk => ?_⟩
  obtain ⟨vl, vs, rfl, _, hS⟩ := h
  obtain ⟨a, c, rfl, _, _, hat⟩ := hS.at_
  obtain ⟨g, vp, vl2, vh, _, _, f1, f2, f3, f4, f5, f6, f7, f8, f9, f10⟩ := hat k s hk
  have := hs k s hk
  exact ⟨f4, f5, f6, ⟨this.1, f7⟩, ⟨this.2.1, f8⟩, ⟨this.2.2, f9⟩, f10⟩
theorem qE_lm {a b : LemD} (ha : a = lem0 0 ∨ a = lem0 1) (hb : b = lem0 0 ∨ b = lem0 1) : qE lmE a b = sameLm a b := by
  unfold qE
  by_cases h : a = b
  · subst h; rw [sameLm_true rfl]; simp
  · rw [sameLm_false h]; exact decide_eq_false (fun e => h (lmE_inj ha hb e))
theorem qE_st {a b : StepD} (ha : StOk a) (hb : StOk b) : qE stE a b = sameSt a b := by
  unfold qE
  by_cases h : a = b
  · subst h; rw [sameSt_iff.2 rfl]; simp
  · have h1 : sameSt a b = false := by
      cases hq : sameSt a b with
      | false => rfl
      | true => exact (h (sameSt_iff.1 hq)).elim
    rw [h1]
    exact decide_eq_false (fun e => h (stE_inj ha hb e))
theorem renS_ok {no ln : Nat → Int} {s : StepD} (h : StOk s) (hn : ∀ j, IsI64 (no j)) (hl : ∀ j, IsI64 (ln j)) : StOk (renS no ln s) := by
  refine ⟨h.kind, ?_, h.rule, h.params, h.lits, ⟨by show (s.hints.map _).length ≤ _; rw [List.length_map]; exact h.hints.1, fun x hx => ?_⟩, h.name⟩
  · show IsI64 (if s.kind = 4 then ln s.node.toNat else s.node)
    by_cases h4 : s.kind = 4
    · rw [if_pos h4]; exact hl _
    · rw [if_neg h4]; exact h.node
  · obtain ⟨y, _, rfl⟩ := List.mem_map.1 hx
    exact hn _
theorem lmV {L xs : List LemD} (h0 : ∀ d ∈ L, d = lem0 0 ∨ d = lem0 1) (hx : ∀ d ∈ xs, d = lem0 0 ∨ d = lem0 1) (k : Nat) : GL L xs k = RL L xs k ∧ ∀ d ∈ (RL L xs k).1, d = lem0 0 ∨ d = lem0 1 := by
  have hr : ∀ (q : LemD → LemD → Bool) (k : Nat) (x : LemD), xs[k]? = some x → (fun d => d = lem0 0 ∨ d = lem0 1) ((fun (_ : Nat → Int) x => x) (goTo q (fun _ x => x) L xs k).2 x) := fun q k x hk => hx x (List.mem_of_getElem? hk)
  have e := goTo_congr (q := qE lmE) (q' := sameLm) (ren := fun _ x => x) (T0 := L) (xs := xs) (V := fun d => d = lem0 0 ∨ d = lem0 1) (fun a b ha hb => qE_lm ha hb) h0 (hr (qE lmE)) k
  exact ⟨e, goTo_all (q := sameLm) (ren := fun _ x => x) (V := fun d => d = lem0 0 ∨ d = lem0 1) h0 (hr sameLm) k⟩
theorem stV {T xs : List StepD} {ln : Nat → Int} (h0 : ∀ d ∈ T, StOk d) (hx : ∀ (k : Nat) (s : StepD), xs[k]? = some s → StOk s) (hl : ∀ j, IsI64 (ln j)) (hn : T.length + xs.length ≤ 1000000) (k : Nat) : GS ln T xs k = RS ln T xs k ∧ ∀ d ∈ (RS ln T xs k).1, StOk d := by
  have hr : ∀ (q : StepD → StepD → Bool) (k : Nat) (x : StepD), xs[k]? = some x → StOk ((fun (no : Nat → Int) x => renS no ln x) (goTo q (fun no x => renS no ln x) T xs k).2 x) := fun q k x hk => renS_ok (hx k x hk) (fun j => goTo_i64 (by have := (List.getElem?_eq_some_iff.1 hk).1; omega) j) hl
  have e := goTo_congr (q := qE stE) (q' := sameSt) (ren := fun no x => renS no ln x) (T0 := T) (xs := xs) (V := StOk) (fun a b ha hb => qE_st ha hb) h0 (hr (qE stE)) k
  exact ⟨e, goTo_all (q := sameSt) (ren := fun no x => renS no ln x) (V := StOk) h0 (hr sameSt) k⟩
/-- The program's merging is the reference's. -/
theorem mrg_rst {ps : Nat → PrfD} (h : ∀ j, MFm (ps j)) : mrg (ps 0) (ps 1) = ⟨(rst ps 2).1, (rst ps 2).2⟩ ∧ tabI (ps 0).steps.length (mS1 (ps 0)).2 = rnum ps 0 ∧ tabI (ps 1).steps.length (mS2 (ps 0) (ps 1)).2 = rnum ps 1 := by
  obtain ⟨l1, v1⟩ := lmV (L := []) (xs := (ps 0).lemmas) (by simp) (h 0).form (ps 0).lemmas.length
  have e1 : mL1 (ps 0) = RL [] (ps 0).lemmas (ps 0).lemmas.length := l1
  obtain ⟨l2, v2⟩ := lmV (L := (RL [] (ps 0).lemmas (ps 0).lemmas.length).1) (xs := (ps 1).lemmas) v1 (h 1).form (ps 1).lemmas.length
  have e2 : mL2 (ps 0) (ps 1) = RL (RL [] (ps 0).lemmas (ps 0).lemmas.length).1 (ps 1).lemmas (ps 1).lemmas.length := by unfold mL2; rw [e1]; exact l2
  have hb0 := (h 0).nl
  have hb1 := (h 1).nl
  have hc0 := (h 0).len
  have hc1 := (h 1).len
  have hi1 : ∀ j, IsI64 ((RL [] (ps 0).lemmas (ps 0).lemmas.length).2 j) := fun j => goTo_i64 (by simp; omega) j
  have hL : (RL [] (ps 0).lemmas (ps 0).lemmas.length).1.length ≤ 2 := by have := (goTo_bound sameLm (fun _ x => x) ([] : List LemD) (ps 0).lemmas (ps 0).lemmas.length).1; simp at this; unfold RL; omega
  have hi2 : ∀ j, IsI64 ((RL (RL [] (ps 0).lemmas (ps 0).lemmas.length).1 (ps 1).lemmas (ps 1).lemmas.length).2 j) := fun j => goTo_i64 (by omega) j
  obtain ⟨s1, u1⟩ := stV (T := []) (xs := (ps 0).steps) (by simp) (h 0).sts hi1 (by simp; omega) (ps 0).steps.length
  have e3 : mS1 (ps 0) = RS (RL [] (ps 0).lemmas (ps 0).lemmas.length).2 [] (ps 0).steps (ps 0).steps.length := by unfold mS1; rw [e1]; exact s1
  have hT : (RS (RL [] (ps 0).lemmas (ps 0).lemmas.length).2 [] (ps 0).steps (ps 0).steps.length).1.length ≤ 1000 := by
    have := mS1_le (ps 0)
    rw [e3] at this; omega
  obtain ⟨s2, u2⟩ := stV (T := (RS (RL [] (ps 0).lemmas (ps 0).lemmas.length).2 [] (ps 0).steps (ps 0).steps.length).1) (xs := (ps 1).steps) u1 (h 1).sts hi2 (by omega) (ps 1).steps.length
  have e4 : mS2 (ps 0) (ps 1) = RS (RL (RL [] (ps 0).lemmas (ps 0).lemmas.length).1 (ps 1).lemmas (ps 1).lemmas.length).2 (RS (RL [] (ps 0).lemmas (ps 0).lemmas.length).2 [] (ps 0).steps (ps 0).steps.length).1 (ps 1).steps (ps 1).steps.length := by unfold mS2; rw [e2, e3]; exact s2
  refine ⟨?_, ?_, ?_⟩
  · unfold mrg
    rw [e2, e4]
    rfl
  · rw [e3]; rfl
  · rw [e4]; rfl
end Trim
end Go.Proofs.Ytnmfihgdedifoaa
end
section
open Go.RowKit
namespace Go.Proofs.Ytnmfihgdedifoaa
open L R01
namespace Trim
section
variable {α : Type} {q : α → α → Bool}
theorem fnd_some {T : List α} {x : α} {i : Nat} (hq : ∀ y x, q y x = true ↔ y = x) (h : fnd q T x = some i) : T[i]? = some x := by
  unfold fnd at h
  obtain ⟨hi, h1, _⟩ := List.findIdx?_eq_some_iff_getElem.1 h
  rw [List.getElem?_eq_getElem hi, (hq _ _).1 h1]
theorem fnd_none {T : List α} {x : α} (hq : ∀ y x, q y x = true ↔ y = x) (h : fnd q T x = none) : x ∉ T := by
  unfold fnd at h
  intro hx
  have := List.findIdx?_eq_none_iff.1 h x hx
  rw [(hq x x).2 rfl] at this
  cases this
theorem nodup_at {T : List α} (h : T.Nodup) {i j : Nat} {x : α} (hi : T[i]? = some x) (hj : T[j]? = some x) : i = j := by
  obtain ⟨h1, e1⟩ := List.getElem?_eq_some_iff.1 hi
  obtain ⟨h2, e2⟩ := List.getElem?_eq_some_iff.1 hj
  exact (List.getElem_inj h).1 (e1.trans e2.symm)
theorem fnd_at {T : List α} (hn : T.Nodup) {x : α} {i : Nat} (hq : ∀ y x, q y x = true ↔ y = x) (h : T[i]? = some x) : fnd q T x = some i := by
  cases hf : fnd q T x with
  | none => exact (fnd_none hq hf (List.mem_of_getElem? h)).elim
  | some j => rw [nodup_at hn (fnd_some hq hf) h]
/-- T goes on as T'. -/
def Goes (T T' : List α) : Prop := ∀ (i : Nat) (x : α), T[i]? = some x → T'[i]? = some x
theorem Goes.le {T T' : List α} (h : Goes T T') : T.length ≤ T'.length := by
  rcases Nat.eq_zero_or_pos T.length with h0 | h0
  · omega
  · have := (List.getElem?_eq_some_iff.1 (h (T.length - 1) _ (List.getElem?_eq_getElem (by omega)))).1; omega
theorem ins_goes (T : List α) (x : α) : Goes T (ins q T x) := by
  intro i y hy
  unfold ins
  split
  · exact hy
  · have := (List.getElem?_eq_some_iff.1 hy).1
    rw [List.getElem?_append_left this]; exact hy
theorem ins_at {T : List α} {x : α} (hq : ∀ y x, q y x = true ↔ y = x) : (ins q T x)[noOf q T x]? = some x := by
  unfold ins noOf
  cases hf : fnd q T x with
  | some i => exact fnd_some hq hf
  | none => simp
theorem ins_nodup {T : List α} {x : α} (hq : ∀ y x, q y x = true ↔ y = x) (h : T.Nodup) : (ins q T x).Nodup := by
  unfold ins
  cases hf : fnd q T x with
  | some i => exact h
  | none =>
    have := fnd_none hq hf
    rw [if_neg (by simp)]
    rw [List.nodup_append]
    refine ⟨h, by simp, fun a ha b hb => ?_⟩
    rw [List.mem_singleton] at hb
    subst hb
    intro e; subst e; exact this ha
variable {ren : (Nat → Int) → α → α} {T0 xs : List α}
theorem goTo_none {k : Nat} (h : xs[k]? = none) : goTo q ren T0 xs (k + 1) = goTo q ren T0 xs k := by rw [goTo, h]
theorem goTo_goes (k : Nat) : Goes (goTo q ren T0 xs k).1 (goTo q ren T0 xs (k + 1)).1 := by
  cases hx : xs[k]? with
  | none => rw [goTo_none hx]; exact fun _ _ h => h
  | some x => rw [goTo_succ hx]; exact ins_goes _ _
theorem goTo_goes2 {k : Nat} : ∀ {n : Nat}, k ≤ n → Goes (goTo q ren T0 xs k).1 (goTo q ren T0 xs n).1
  | 0, h => by obtain rfl : k = 0 := by omega
               exact fun _ _ h => h
  | n + 1, h => by
    by_cases e : k = n + 1
    · subst e; exact fun _ _ h => h
    · exact fun i x hx => goTo_goes n i x (goTo_goes2 (by omega) i x hx)
theorem goTo_start (k : Nat) : Goes T0 (goTo q ren T0 xs k).1 := goTo_goes2 (k := 0) (Nat.zero_le k)
theorem goTo_nodup (hq : ∀ y x, q y x = true ↔ y = x) (h : T0.Nodup) : ∀ k, (goTo q ren T0 xs k).1.Nodup
  | 0 => h
  | k + 1 => by
    have ih := goTo_nodup hq h k
    cases hx : xs[k]? with
    | none => rw [goTo_none hx]; exact ih
    | some x => rw [goTo_succ hx]; exact ins_nodup hq ih
theorem goTo_no {j k : Nat} (hj : j < k) : ∀ {n : Nat}, k ≤ n → (goTo q ren T0 xs n).2 j = (goTo q ren T0 xs k).2 j
  | 0, h => by omega
  | n + 1, h => by
    by_cases e : k = n + 1
    · subst e; rfl
    · have ih := goTo_no hj (n := n) (by omega)
      cases hx : xs[n]? with
      | none => rw [goTo_none hx]; exact ih
      | some x =>
        rw [goTo_succ hx]
        show (if j = n then _ else _) = _
        rw [if_neg (by omega)]; exact ih
/-- The number of an element leads to it. -/
theorem goTo_at (hq : ∀ y x, q y x = true ↔ y = x) {j n : Nat} {x : α} (hx : xs[j]? = some x) (hj : j < n) : 0 ≤ (goTo q ren T0 xs n).2 j ∧ (goTo q ren T0 xs n).1[((goTo q ren T0 xs n).2 j).toNat]? = some (ren (goTo q ren T0 xs j).2 x) := by
  have e : (goTo q ren T0 xs n).2 j = (noOf q (goTo q ren T0 xs j).1 (ren (goTo q ren T0 xs j).2 x) : Int) := by
    rw [goTo_no (k := j + 1) (by omega) (by omega), goTo_succ hx]
    show (if j = j then _ else _) = _
    rw [if_pos rfl]
  refine ⟨by rw [e]; omega, ?_⟩
  rw [e]
  have h1 : (goTo q ren T0 xs (j + 1)).1[noOf q (goTo q ren T0 xs j).1 (ren (goTo q ren T0 xs j).2 x)]? = some (ren (goTo q ren T0 xs j).2 x) := by
    rw [goTo_succ hx]; exact ins_at hq
  exact goTo_goes2 (k := j + 1) (by omega) _ _ h1
/-- Each element comes from the start or is one of the new ones. -/
theorem goTo_from (hq : ∀ y x, q y x = true ↔ y = x) : ∀ (n : Nat) {t : Nat} {d : α}, (goTo q ren T0 xs n).1[t]? = some d → T0[t]? = some d ∨ ∃ j x, j < n ∧ xs[j]? = some x ∧ d = ren (goTo q ren T0 xs j).2 x
  | 0, t, d, h => .inl h
  | n + 1, t, d, h => by
    cases hx : xs[n]? with
    | none =>
      rw [goTo_none hx] at h
      rcases goTo_from hq n h with h | ⟨j, x, hj, h1, h2⟩
      · exact .inl h
      · exact .inr ⟨j, x, by omega, h1, h2⟩
    | some x =>
      rw [goTo_succ hx] at h
      have h : (ins q (goTo q ren T0 xs n).1 (ren (goTo q ren T0 xs n).2 x))[t]? = some d := h
      have old : (goTo q ren T0 xs n).1[t]? = some d → T0[t]? = some d ∨ ∃ j x, j < n + 1 ∧ xs[j]? = some x ∧ d = ren (goTo q ren T0 xs j).2 x := fun h => by
        rcases goTo_from hq n h with h | ⟨j, x, hj, h1, h2⟩
        · exact .inl h
        · exact .inr ⟨j, x, by omega, h1, h2⟩
      unfold ins at h
      split at h
      · exact old h
      · by_cases hl : t < (goTo q ren T0 xs n).1.length
        · rw [List.getElem?_append_left hl] at h; exact old h
        · rw [List.getElem?_append_right (by omega)] at h
          have : t - (goTo q ren T0 xs n).1.length = 0 := by
            have := (List.getElem?_eq_some_iff.1 h).1; simp at this; omega
          rw [this] at h
          simp at h
          exact .inr ⟨n, x, by omega, hx, h.symm⟩
/-- If all elements are there already, nothing changes. -/
theorem goTo_there (hq : ∀ y x, q y x = true ↔ y = x) (hn : T0.Nodup) {f : Nat → Int} : ∀ (n : Nat), (∀ j x, j < n → xs[j]? = some x → 0 ≤ f j ∧ ∀ g : Nat → Int, (∀ i, i < j → g i = f i) → T0[(f j).toNat]? = some (ren g x)) → n ≤ xs.length → (goTo q ren T0 xs n).1 = T0 ∧ ∀ j, j < n → (goTo q ren T0 xs n).2 j = f j
  | 0, _, _ => ⟨rfl, fun j hj => by omega⟩
  | n + 1, h, hl => by
    obtain ⟨h1, h2⟩ := goTo_there hq hn n (fun j x hj => h j x (by omega)) (by omega)
    have hx := List.getElem?_eq_getElem (show n < xs.length by omega)
    obtain ⟨h0, h3⟩ := h n _ (by omega) hx
    have h4 := h3 (goTo q ren T0 xs n).2 h2
    have h5 := fnd_at hn hq h4
    rw [goTo_succ hx]
    refine ⟨?_, fun j hj => ?_⟩
    · show ins q (goTo q ren T0 xs n).1 _ = T0
      unfold ins
      rw [h1, h5]; rfl
    · show (if j = n then _ else _) = _
      by_cases e : j = n
      · subst e
        rw [if_pos rfl]
        unfold noOf
        rw [h1, h5]
        show ((f j).toNat : Int) = f j
        omega
      · rw [if_neg e]; exact h2 j (by omega)
end
end Trim
end Go.Proofs.Ytnmfihgdedifoaa
end
section
open Go.RowKit
namespace Go.Proofs.Ytnmfihgdedifoaa
open L R01
namespace Trim
theorem lm_iff (y x : LemD) : sameLm y x = true ↔ y = x := by
  constructor
  · intro h
    apply Classical.byContradiction
    intro hn
    rw [sameLm_false hn] at h; cases h
  · exact sameLm_true
/-- All hints of a list point back. -/
def OrdT (T : List StepD) : Prop := ∀ (t : Nat) (s : StepD), T[t]? = some s → ∀ h ∈ s.hints, 0 ≤ h ∧ h < (t : Int)
section
variable {ln : Nat → Int} {T xs : List StepD}
theorem rs_ren (hx : ∀ (k : Nat) (s : StepD), xs[k]? = some s → ∀ h ∈ s.hints, 0 ≤ h ∧ h < (k : Int)) {j n : Nat} {s : StepD} (hs : xs[j]? = some s) (hj : j ≤ n) : renS (RS ln T xs j).2 ln s = renS (RS ln T xs n).2 ln s :=
  renS_congr (fun h hh => by
    have := hx j s hs h hh
    exact (goTo_no (k := j) (by omega) hj).symm) (fun _ => rfl)
theorem rs_at (hx : ∀ (k : Nat) (s : StepD), xs[k]? = some s → ∀ h ∈ s.hints, 0 ≤ h ∧ h < (k : Int)) {j n : Nat} {s : StepD} (hs : xs[j]? = some s) (hj : j < n) : 0 ≤ (RS ln T xs n).2 j ∧ (RS ln T xs n).1[((RS ln T xs n).2 j).toNat]? = some (renS (RS ln T xs n).2 ln s) := by
  rw [← rs_ren (ln := ln) (T := T) hx hs (show j ≤ n by omega)]
  exact goTo_at (fun y x => sameSt_iff) hs hj
theorem rs_ord (h0 : OrdT T) (hx : ∀ (k : Nat) (s : StepD), xs[k]? = some s → ∀ h ∈ s.hints, 0 ≤ h ∧ h < (k : Int)) : ∀ k, OrdT (RS ln T xs k).1
  | 0 => h0
  | k + 1 => by
    have ih := rs_ord h0 hx k
    cases hs : xs[k]? with
    | none =>
      have e : RS ln T xs (k + 1) = RS ln T xs k := goTo_none hs
      rw [e]; exact ih
    | some s =>
      have e : (RS ln T xs (k + 1)).1 = ins sameSt (RS ln T xs k).1 (renS (RS ln T xs k).2 ln s) := by
        show (goTo _ _ _ _ _).1 = _; rw [goTo_succ hs]; rfl
      rw [e]
      intro t d hd
      unfold ins at hd
      split at hd
      · exact ih t d hd
      · by_cases hl : t < (RS ln T xs k).1.length
        · rw [List.getElem?_append_left hl] at hd; exact ih t d hd
        · rw [List.getElem?_append_right (by omega)] at hd
          have h1 : t - (RS ln T xs k).1.length = 0 := by
            have := (List.getElem?_eq_some_iff.1 hd).1; simp at this; omega
          rw [h1] at hd
          simp at hd
          subst hd
          intro h hh
          obtain ⟨y, hy, rfl⟩ := List.mem_map.1 hh
          have hb := hx k s hs y hy
          have hk := (List.getElem?_eq_some_iff.1 hs).1
          have hy' := List.getElem?_eq_getElem (show y.toNat < xs.length by omega)
          have ha := rs_at (ln := ln) (T := T) hx hy' (show y.toNat < k by omega)
          have := (List.getElem?_eq_some_iff.1 ha.2).1
          exact ⟨ha.1, by show (RS ln T xs k).2 y.toNat < _; omega⟩
end
/-- What a merged proof of two is. -/
structure Mgd (ps : Nat → PrfD) (r : PrfD) (X Y : Nat → Nat → Int) : Prop where
  ds : r.steps.Nodup
  dl : r.lemmas.Nodup
  at_ : ∀ (j i : Nat) (s : StepD), j < 2 → (ps j).steps[i]? = some s → 0 ≤ X j i ∧ r.steps[(X j i).toNat]? = some (renS (X j) (Y j) s)
  lat : ∀ (j i : Nat) (d : LemD), j < 2 → (ps j).lemmas[i]? = some d → 0 ≤ Y j i ∧ r.lemmas[(Y j i).toNat]? = some d
  on : ∀ (t : Nat) (s : StepD), r.steps[t]? = some s → ∃ j i, j < 2 ∧ i < (ps j).steps.length ∧ X j i = (t : Int)
  lon : ∀ (t : Nat) (d : LemD), r.lemmas[t]? = some d → ∃ j i, j < 2 ∧ i < (ps j).lemmas.length ∧ Y j i = (t : Int)
  ord : OrdT r.steps
noncomputable def XX (p q : PrfD) : Nat → Nat → Int
  | 0 => (mS1 p).2
  | _ + 1 => (mS2 p q).2
noncomputable def YY (p q : PrfD) : Nat → Nat → Int
  | 0 => (mL1 p).2
  | _ + 1 => (mL2 p q).2
def two (p q : PrfD) : Nat → PrfD
  | 0 => p
  | _ + 1 => q
/-- The four stages as the reference has them. -/
theorem stages {p q : PrfD} (fp : MFm p) (fq : MFm q) : mL1 p = RL [] p.lemmas p.lemmas.length ∧ mL2 p q = RL (mL1 p).1 q.lemmas q.lemmas.length ∧ mS1 p = RS (mL1 p).2 [] p.steps p.steps.length ∧ mS2 p q = RS (mL2 p q).2 (mS1 p).1 q.steps q.steps.length := by
  obtain ⟨l1, v1⟩ := lmV (L := []) (xs := p.lemmas) (by simp) fp.form p.lemmas.length
  have e1 : mL1 p = RL [] p.lemmas p.lemmas.length := l1
  obtain ⟨l2, v2⟩ := lmV (L := (mL1 p).1) (xs := q.lemmas) (by rw [e1]; exact v1) fq.form q.lemmas.length
  have hb0 := fp.nl
  have hb1 := fq.nl
  have hc0 := fp.len
  have hc1 := fq.len
  have h1 := mL1_le p
  have h2 := mS1_le p
  have hi1 : ∀ j, IsI64 ((mL1 p).2 j) := fun j => goTo_i64 (by simp; omega) j
  have hi2 : ∀ j, IsI64 ((mL2 p q).2 j) := fun j => goTo_i64 (by omega) j
  obtain ⟨s1, u1⟩ := stV (T := []) (xs := p.steps) (by simp) fp.sts hi1 (by simp; omega) p.steps.length
  have e3 : mS1 p = RS (mL1 p).2 [] p.steps p.steps.length := s1
  obtain ⟨s2, u2⟩ := stV (T := (mS1 p).1) (xs := q.steps) (by rw [e3]; exact u1) fq.sts hi2 (by omega) q.steps.length
  exact ⟨e1, l2, e3, s2⟩
theorem mgd {p q : PrfD} (fp : MFm p) (fq : MFm q) : Mgd (two p q) (mrg p q) (XX p q) (YY p q) := by
  obtain ⟨e1, e2, e3, e4⟩ := stages fp fq
  have n1 : (mL1 p).1.Nodup := by rw [e1]; exact goTo_nodup lm_iff List.nodup_nil _
  have n2 : (mL2 p q).1.Nodup := by rw [e2]; exact goTo_nodup lm_iff n1 _
  have n3 : (mS1 p).1.Nodup := by rw [e3]; exact goTo_nodup (fun y x => sameSt_iff) List.nodup_nil _
  have n4 : (mS2 p q).1.Nodup := by rw [e4]; exact goTo_nodup (fun y x => sameSt_iff) n3 _
  have g1 : Goes (mL1 p).1 (mL2 p q).1 := by rw [e2]; exact goTo_start _
  have g2 : Goes (mS1 p).1 (mS2 p q).1 := by rw [e4]; exact goTo_start _
  have a0 : ∀ (i : Nat) (s : StepD), p.steps[i]? = some s → 0 ≤ (mS1 p).2 i ∧ (mS1 p).1[((mS1 p).2 i).toNat]? = some (renS (mS1 p).2 (mL1 p).2 s) := fun i s hs => by
    rw [e3]; exact rs_at fp.wf.hint hs (List.getElem?_eq_some_iff.1 hs).1
  have a1 : ∀ (i : Nat) (s : StepD), q.steps[i]? = some s → 0 ≤ (mS2 p q).2 i ∧ (mS2 p q).1[((mS2 p q).2 i).toNat]? = some (renS (mS2 p q).2 (mL2 p q).2 s) := fun i s hs => by
    rw [e4]; exact rs_at fq.wf.hint hs (List.getElem?_eq_some_iff.1 hs).1
  have l0 : ∀ (i : Nat) (d : LemD), p.lemmas[i]? = some d → 0 ≤ (mL1 p).2 i ∧ (mL1 p).1[((mL1 p).2 i).toNat]? = some d := fun i d hd => by
    rw [e1]; exact goTo_at lm_iff hd (List.getElem?_eq_some_iff.1 hd).1
  have l1 : ∀ (i : Nat) (d : LemD), q.lemmas[i]? = some d → 0 ≤ (mL2 p q).2 i ∧ (mL2 p q).1[((mL2 p q).2 i).toNat]? = some d := fun i d hd => by
    rw [e2]; exact goTo_at lm_iff hd (List.getElem?_eq_some_iff.1 hd).1
  refine ⟨n4, n2, fun j i s hj hs => ?_, fun j i d hj hd => ?_, fun t s ht => ?_, fun t d ht => ?_, ?_⟩
  · match j, hj with
    | 0, _ => exact ⟨(a0 i s hs).1, g2 _ _ (a0 i s hs).2⟩
    | 1, _ => exact a1 i s hs
  · match j, hj with
    | 0, _ => exact ⟨(l0 i d hd).1, g1 _ _ (l0 i d hd).2⟩
    | 1, _ => exact l1 i d hd
  · have ht : (mS2 p q).1[t]? = some s := ht
    have h1 : (mS1 p).1[t]? = some s ∨ ∃ j x, j < q.steps.length ∧ q.steps[j]? = some x ∧ s = renS (RS (mL2 p q).2 (mS1 p).1 q.steps j).2 (mL2 p q).2 x := by
      rw [e4] at ht
      exact goTo_from (fun y x => sameSt_iff) q.steps.length ht
    rcases h1 with h1 | ⟨j, x, hj, hx, rfl⟩
    · have h2 : ([] : List StepD)[t]? = some s ∨ ∃ j x, j < p.steps.length ∧ p.steps[j]? = some x ∧ s = renS (RS (mL1 p).2 [] p.steps j).2 (mL1 p).2 x := by
        rw [e3] at h1
        exact goTo_from (fun y x => sameSt_iff) p.steps.length h1
      rcases h2 with h2 | ⟨j, x, hj, hx, rfl⟩
      · simp at h2
      · refine ⟨0, j, by omega, hj, ?_⟩
        have h3 := a0 j x hx
        rw [rs_ren (n := p.steps.length) fp.wf.hint hx (by omega), ← e3] at h1
        have := nodup_at n3 h1 h3.2
        show (mS1 p).2 j = _
        omega
    · refine ⟨1, j, by omega, hj, ?_⟩
      have h3 := a1 j x hx
      rw [rs_ren (n := q.steps.length) fq.wf.hint hx (by omega), ← e4] at ht
      have := nodup_at n4 ht h3.2
      show (mS2 p q).2 j = _
      omega
  · have ht : (mL2 p q).1[t]? = some d := ht
    have h1 : (mL1 p).1[t]? = some d ∨ ∃ j x, j < q.lemmas.length ∧ q.lemmas[j]? = some x ∧ d = x := by
      rw [e2] at ht
      exact goTo_from lm_iff q.lemmas.length ht
    rcases h1 with h1 | ⟨j, x, hj, hx, rfl⟩
    · have h2 : ([] : List LemD)[t]? = some d ∨ ∃ j x, j < p.lemmas.length ∧ p.lemmas[j]? = some x ∧ d = x := by
        rw [e1] at h1
        exact goTo_from lm_iff p.lemmas.length h1
      rcases h2 with h2 | ⟨j, x, hj, hx, rfl⟩
      · simp at h2
      · refine ⟨0, j, by omega, hj, ?_⟩
        have h3 := l0 j _ hx
        have := nodup_at n1 h1 h3.2
        show (mL1 p).2 j = _
        omega
    · refine ⟨1, j, by omega, hj, ?_⟩
      have h3 := l1 j _ hx
      have := nodup_at n2 ht h3.2
      show (mL2 p q).2 j = _
      omega
  · show OrdT (mS2 p q).1
    rw [e4]
    refine rs_ord ?_ fq.wf.hint _
    rw [e3]
    exact rs_ord (fun t s h => by simp at h) fp.wf.hint _
section
variable {ps : Nat → PrfD} {r s : PrfD} {X Y X' Y' : Nat → Nat → Int}
theorem Mgd.hok (h : Mgd ps r X Y) : HOk r.steps := fun i x hx => by
  unfold hintsOf at hx
  split at hx
  · rename_i d hd; exact h.ord i d hd x hx
  · simp at hx
theorem Mgd.lt (h : Mgd ps r X Y) {j i : Nat} (hj : j < 2) (hi : i < (ps j).steps.length) : 0 ≤ X j i ∧ X j i < r.steps.length := by
  have h1 := h.at_ j i _ hj (List.getElem?_eq_getElem hi)
  have := (List.getElem?_eq_some_iff.1 h1.2).1
  omega
theorem Mgd.wf (h : Mgd ps r X Y) (hw : ∀ j, Wf (ps j)) (hl : r.steps.length ≤ 1048576) : Wf r := by
  refine ⟨hl, fun i s hs => h.ord i s hs, fun t s hs => ?_, fun t s hs h4 => ?_⟩ <;> (obtain ⟨j, i, hj, hi, e⟩ := h.on t s hs) <;> (have h1 := h.at_ j i _ hj (List.getElem?_eq_getElem hi)) <;> (rw [e, Int.toNat_natCast, hs] at h1) <;> (have h2 := Option.some.inj h1.2) <;> subst h2
  · show 0 ≤ ((ps j).steps[i]).kind ∧ ((ps j).steps[i]).kind ≤ 5
    exact (hw j).kind i _ (List.getElem?_eq_getElem hi)
  · have h4' : ((ps j).steps[i]).kind = 4 := h4
    have hb := (hw j).lem i _ (List.getElem?_eq_getElem hi) h4'
    have h5 : (renS (X j) (Y j) (ps j).steps[i]).node = Y j ((ps j).steps[i]).node.toNat := by
      show (if ((ps j).steps[i]).kind = 4 then _ else _) = _
      rw [if_pos h4']
    have h6 := h.lat j ((ps j).steps[i]).node.toNat _ hj (List.getElem?_eq_getElem (by omega))
    have := (List.getElem?_eq_some_iff.1 h6.2).1
    rw [h5]
    omega
theorem Mgd.hints (h : Mgd ps r X Y) {j i : Nat} (hj : j < 2) (hi : i < (ps j).steps.length) : hintsOf r.steps (X j i).toNat = (hintsOf (ps j).steps i).map (fun x => X j x.toNat) := by
  have hs := List.getElem?_eq_getElem hi
  rw [hintsOf_some (h.at_ j i _ hj hs).2, hintsOf_some hs]
  rfl
theorem Mgd.bel1 (h : Mgd ps r X Y) (hw : ∀ j, Wf (ps j)) {j : Nat} (hj : j < 2) {m c : Nat} (hb : Bel r.steps c m) : ∀ {i : Nat}, i < (ps j).steps.length → c = (X j i).toNat → ∃ k, k < (ps j).steps.length ∧ m = (X j k).toNat ∧ Bel (ps j).steps i k := by
  induction hb with
  | refl c => exact fun {i} hi e => ⟨i, hi, e, .refl _⟩
  | @step c m x h1 _ ih =>
    intro i hi e
    subst e
    rw [h.hints hj hi] at h1
    obtain ⟨y, hy, rfl⟩ := List.mem_map.1 h1
    have hbd := (hw j).ok i y hy
    obtain ⟨k, f1, f2, f3⟩ := ih (i := y.toNat) (by omega) rfl
    exact ⟨k, f1, f2, .step hy f3⟩
theorem Mgd.bel2 (h : Mgd ps r X Y) (hw : ∀ j, Wf (ps j)) {j : Nat} (hj : j < 2) {i k : Nat} (hb : Bel (ps j).steps i k) : i < (ps j).steps.length → Bel r.steps (X j i).toNat (X j k).toNat ∧ k < (ps j).steps.length := by
  induction hb with
  | refl => exact fun h1 => ⟨.refl _, h1⟩
  | @step i k y h1 _ ih =>
    intro hi
    have hbd := (hw j).ok i y h1
    obtain ⟨h2, h3⟩ := ih (by omega)
    refine ⟨.step (h := X j y.toNat) ?_ h2, h3⟩
    rw [h.hints hj hi]
    exact List.mem_map.2 ⟨y, h1, rfl⟩
/-- A merged step has the premises of the step for which it stands. -/
theorem Mgd.name (h : Mgd ps r X Y) (hw : ∀ j, Wf (ps j)) {j i : Nat} (hj : j < 2) (hi : i < (ps j).steps.length) (x : ByteArray) : NameAt r.steps (X j i).toNat x ↔ NameAt (ps j).steps i x := by
  constructor
  · rintro ⟨m, t, h1, h2, h3, h4⟩
    obtain ⟨k, f1, rfl, f3⟩ := h.bel1 hw hj h2 hi rfl
    have h5 := (h.at_ j k _ hj (List.getElem?_eq_getElem f1)).2
    rw [h1] at h5
    have h6 := Option.some.inj h5
    subst h6
    exact ⟨k, _, List.getElem?_eq_getElem f1, f3, h3, h4⟩
  · rintro ⟨k, t, h1, h2, h3, h4⟩
    obtain ⟨f1, f2⟩ := h.bel2 hw hj h2 hi
    exact ⟨_, _, (h.at_ j k t hj h1).2, f1, h3, h4⟩
theorem Mgd.lker (h : Mgd ps r X Y) (h' : Mgd ps s X' Y') {j j' i i' : Nat} (hj : j < 2) (hj' : j' < 2) (hi : i < (ps j).lemmas.length) (hi' : i' < (ps j').lemmas.length) (e : Y j i = Y j' i') : Y' j i = Y' j' i' := by
  have a := h.lat j i _ hj (List.getElem?_eq_getElem hi)
  have b := h.lat j' i' _ hj' (List.getElem?_eq_getElem hi')
  rw [e, b.2] at a
  have e2 := Option.some.inj a.2
  have a' := h'.lat j i _ hj (List.getElem?_eq_getElem hi)
  have b' := h'.lat j' i' _ hj' (List.getElem?_eq_getElem hi')
  rw [← e2] at a'
  have := nodup_at h'.dl a'.2 b'.2
  omega
/-- Two steps are one in r only if they are one in s. -/
theorem Mgd.ker (h : Mgd ps r X Y) (h' : Mgd ps s X' Y') (hw : ∀ j, Wf (ps j)) : ∀ (i : Nat) {j j' i' : Nat}, j < 2 → j' < 2 → i < (ps j).steps.length → i' < (ps j').steps.length → X j i = X j' i' → X' j i = X' j' i' := by
  intro i
  induction i using Nat.strongRecOn with
  | _ i ih =>
    intro j j' i' hj hj' hi hi' e
    have a := h.at_ j i _ hj (List.getElem?_eq_getElem hi)
    have b := h.at_ j' i' _ hj' (List.getElem?_eq_getElem hi')
    rw [e, b.2] at a
    have e2 := Option.some.inj a.2
    have a' := h'.at_ j i _ hj (List.getElem?_eq_getElem hi)
    have b' := h'.at_ j' i' _ hj' (List.getElem?_eq_getElem hi')
    have hh1 := (hw j).hint i _ (List.getElem?_eq_getElem hi)
    have hh2 := (hw j').hint i' _ (List.getElem?_eq_getElem hi')
    have hl1 := (hw j).lem i _ (List.getElem?_eq_getElem hi)
    have hl2 := (hw j').lem i' _ (List.getElem?_eq_getElem hi')
    generalize (ps j).steps[i] = s1 at *
    generalize (ps j').steps[i'] = s2 at *
    have e3 : renS (X' j') (Y' j') s2 = renS (X' j) (Y' j) s1 := by
      unfold renS at e2 ⊢
      simp only [StepD.mk.injEq] at e2 ⊢
      obtain ⟨k1, k2, k3, k4, k5, k6, k7⟩ := e2
      refine ⟨k1, ?_, k3, k4, k5, k6, ?_⟩
      · by_cases h4 : s1.kind = 4
        · have h4' : s2.kind = 4 := by omega
          rw [if_pos h4', if_pos h4] at k2 ⊢
          have := hl1 h4
          have := hl2 h4'
          exact h.lker h' hj' hj (by omega) (by omega) k2
        · have h4' : ¬ s2.kind = 4 := by omega
          rw [if_neg h4', if_neg h4] at k2 ⊢
          exact k2
      · have hlen : s2.hints.length = s1.hints.length := by simpa using congrArg List.length k7
        refine List.ext_getElem (by simpa using hlen) (fun n n1 n2 => ?_)
        simp only [List.length_map] at n1 n2
        simp only [List.getElem_map]
        have k8 : X j' (s2.hints[n]).toNat = X j (s1.hints[n]).toNat := by
          have := congrArg (fun l : List Int => l[n]?) k7
          simpa [n1, n2] using this
        have b1 := hh1 _ (List.getElem_mem n2)
        have b2 := hh2 _ (List.getElem_mem n1)
        exact (ih _ (by omega) hj hj' (by omega) (by omega) k8.symm).symm
    rw [← e3] at a'
    have := nodup_at h'.ds a'.2 b'.2
    omega
theorem pigeon : ∀ (m : Nat) (l : List Nat), l.Nodup → (∀ x ∈ l, x < m) → l.length ≤ m
  | 0, l, _, h => by
    cases l with
    | nil => simp
    | cons a l => have := h a (by simp); omega
  | m + 1, l, hn, h => by
    have h1 := pigeon m (l.erase m) (hn.erase m) (fun x hx => by
      have h2 := h x (List.mem_of_mem_erase hx)
      have h3 : x ≠ m := fun e => by subst e; exact (hn.mem_erase_iff.1 hx).1 rfl
      omega)
    by_cases hm : m ∈ l
    · rw [List.length_erase_of_mem hm] at h1; omega
    · rw [List.erase_of_not_mem hm] at h1; omega
theorem inj_le {n m : Nat} {R : Nat → Nat → Prop} (h1 : ∀ t, t < n → ∃ u, u < m ∧ R t u) (h2 : ∀ t t' u, t < n → t' < n → R t u → R t' u → t = t') : n ≤ m := by
  obtain ⟨f, hf⟩ : ∃ f : Nat → Nat, ∀ t, t < n → f t < m ∧ R t (f t) := by
    refine ⟨fun t => if h : t < n then Classical.choose (h1 t h) else 0, fun t ht => ?_⟩
    simp only [ht, dite_true]
    exact Classical.choose_spec (h1 t ht)
  have := pigeon m ((List.range n).map f) (by
    refine List.pairwise_map.2 (List.Pairwise.imp_of_mem (fun {a b} ha hb hne e => hne ?_) List.nodup_range)
    have ha := List.mem_range.1 ha
    have hb := List.mem_range.1 hb
    have := (hf b hb).2
    rw [← e] at this
    exact h2 a b _ ha hb (hf a ha).2 this) (fun x hx => by
      obtain ⟨t, ht, rfl⟩ := List.mem_map.1 hx
      exact (hf t (by simpa using ht)).1)
  simpa using this
theorem Mgd.len_le (h : Mgd ps r X Y) (h' : Mgd ps s X' Y') (hw : ∀ j, Wf (ps j)) : r.steps.length ≤ s.steps.length := by
  refine inj_le (R := fun t u => ∃ j i, j < 2 ∧ i < (ps j).steps.length ∧ X j i = (t : Int) ∧ X' j i = (u : Int)) (fun t ht => ?_) (fun t t' u _ _ => ?_)
  · obtain ⟨j, i, hj, hi, e⟩ := h.on t _ (List.getElem?_eq_getElem ht)
    have := h'.lt hj hi
    exact ⟨(X' j i).toNat, by omega, j, i, hj, hi, e, by omega⟩
  · rintro ⟨j, i, hj, hi, e1, e2⟩ ⟨j', i', hj', hi', e3, e4⟩
    have := h'.ker h hw i hj hj' hi hi' (by rw [e2, e4])
    omega
theorem Mgd.llen_le (h : Mgd ps r X Y) (h' : Mgd ps s X' Y') : r.lemmas.length ≤ s.lemmas.length := by
  refine inj_le (R := fun t u => ∃ j i, j < 2 ∧ i < (ps j).lemmas.length ∧ Y j i = (t : Int) ∧ Y' j i = (u : Int)) (fun t ht => ?_) (fun t t' u _ _ => ?_)
  · obtain ⟨j, i, hj, hi, e⟩ := h.lon t _ (List.getElem?_eq_getElem ht)
    have h1 := h'.lat j i _ hj (List.getElem?_eq_getElem hi)
    have := (List.getElem?_eq_some_iff.1 h1.2).1
    exact ⟨(Y' j i).toNat, this, j, i, hj, hi, e, by omega⟩
  · rintro ⟨j, i, hj, hi, e1, e2⟩ ⟨j', i', hj', hi', e3, e4⟩
    have := h'.lker h hj hj' hi hi' (by rw [e2, e4])
    omega
end
theorem Mgd.swap {p q r : PrfD} {X Y : Nat → Nat → Int} (h : Mgd (two q p) r X Y) : Mgd (two p q) r (fun j => X (1 - j)) (fun j => Y (1 - j)) := by
  have ht : ∀ j, j < 2 → two p q j = two q p (1 - j) := fun j hj => by
    match j, hj with
    | 0, _ => rfl
    | 1, _ => rfl
  refine ⟨h.ds, h.dl, fun j i s hj hs => h.at_ (1 - j) i s (by omega) (by rw [← ht j hj]; exact hs), fun j i d hj hd => h.lat (1 - j) i d (by omega) (by rw [← ht j hj]; exact hd), fun t s hs => ?_, fun t d hd => ?_, h.ord⟩
  · obtain ⟨j, i, hj, hi, e⟩ := h.on t s hs
    refine ⟨1 - j, i, by omega, ?_, ?_⟩
    · rw [ht (1 - j) (by omega), show 1 - (1 - j) = j by omega]; exact hi
    · show X (1 - (1 - j)) i = _; rw [show 1 - (1 - j) = j by omega]; exact e
  · obtain ⟨j, i, hj, hi, e⟩ := h.lon t d hd
    refine ⟨1 - j, i, by omega, ?_, ?_⟩
    · rw [ht (1 - j) (by omega), show 1 - (1 - j) = j by omega]; exact hi
    · show Y (1 - (1 - j)) i = _; rw [show 1 - (1 - j) = j by omega]; exact e
/-- Exchanged, there are as many steps and lemmas. -/
theorem mrg_swap {p q : PrfD} (fp : MFm p) (fq : MFm q) : (mrg p q).steps.length = (mrg q p).steps.length ∧ (mrg p q).lemmas.length = (mrg q p).lemmas.length := by
  have h1 := mgd fp fq
  have h2 := (mgd fq fp).swap
  have hw : ∀ j, Wf (two p q j) := fun j => by
    cases j with
    | zero => exact fp.wf
    | succ j => exact fq.wf
  have a := h1.len_le h2 hw
  have b := h2.len_le h1 hw
  have c := h1.llen_le h2
  have d := h2.llen_le h1
  exact ⟨by omega, by omega⟩
/-- Merging with itself is merging with nothing. -/
theorem mrg_self {p : PrfD} (fp : MFm p) : mrg p p = mrg p ⟨[], []⟩ := by
  have fe : MFm ⟨[], []⟩ := ⟨⟨by simp, fun i s h => by simp at h, fun i s h => by simp at h, fun i s h => by simp at h⟩, by simp, by simp, by simp, fun k s h => by simp at h⟩
  obtain ⟨e1, e2, e3, e4⟩ := stages fp fp
  obtain ⟨_, f2, _, f4⟩ := stages fp fe
  have n1 : (mL1 p).1.Nodup := by rw [e1]; exact goTo_nodup lm_iff List.nodup_nil _
  have n3 : (mS1 p).1.Nodup := by rw [e3]; exact goTo_nodup (fun y x => sameSt_iff) List.nodup_nil _
  have hL := goTo_there (q := sameLm) (ren := fun _ x => x) (T0 := (mL1 p).1) (xs := p.lemmas) (f := (mL1 p).2) lm_iff n1 p.lemmas.length (fun j x hj hx => by
    have h : 0 ≤ (mL1 p).2 j ∧ (mL1 p).1[((mL1 p).2 j).toNat]? = some x := by rw [e1]; exact goTo_at lm_iff hx hj
    exact ⟨h.1, fun _ _ => h.2⟩) (Nat.le_refl _)
  have hL1 : (mL2 p p).1 = (mL1 p).1 := by rw [e2]; exact hL.1
  have hL2 : ∀ j, j < p.lemmas.length → (mL2 p p).2 j = (mL1 p).2 j := by rw [e2]; exact hL.2
  have hS := goTo_there (q := sameSt) (ren := fun no x => renS no (mL2 p p).2 x) (T0 := (mS1 p).1) (xs := p.steps) (f := (mS1 p).2) (fun y x => sameSt_iff) n3 p.steps.length (fun j x hj hx => by
    have h : 0 ≤ (mS1 p).2 j ∧ (mS1 p).1[((mS1 p).2 j).toNat]? = some (renS (mS1 p).2 (mL1 p).2 x) := by rw [e3]; exact rs_at fp.wf.hint hx hj
    refine ⟨h.1, fun g hg => ?_⟩
    rw [h.2]
    congr 1
    refine renS_congr (fun y hy => ?_) (fun h4 => ?_)
    · have := fp.wf.hint j x hx y hy
      exact (hg _ (by omega)).symm
    · have := fp.wf.lem j x hx h4
      exact (hL2 _ (by omega)).symm) (Nat.le_refl _)
  have hS1 : (mS2 p p).1 = (mS1 p).1 := by rw [e4]; exact hS.1
  have hE1 : (mL2 p ⟨[], []⟩).1 = (mL1 p).1 := by rw [f2]; rfl
  have hE2 : (mS2 p ⟨[], []⟩).1 = (mS1 p).1 := by rw [f4]; rfl
  unfold mrg
  rw [hL1, hS1, hE1, hE2]
end Trim
end Go.Proofs.Ytnmfihgdedifoaa
end
