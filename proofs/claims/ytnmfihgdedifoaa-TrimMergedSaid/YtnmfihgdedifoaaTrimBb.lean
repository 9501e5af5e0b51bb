/- Proofs as plain data: what picking keeps. No program is named. Conditions: none. -/
import Derived.Test.YtnmfihgdedifoaaTrimBa
import Derived.Test.YtnmfihgdedifoaaTrimRC
set_option linter.unusedVariables false
set_option linter.unusedSimpArgs false
set_option linter.unusedSectionVars false
open Go.RowKit
namespace Go.Proofs.Ytnmfihgdedifoaa
open L
namespace Trim
theorem cnt_mono {q : Nat → Bool} {i : Nat} : ∀ {j : Nat}, i ≤ j → cnt q i ≤ cnt q j
  | 0, h => by have : i = 0 := by omega
               subst this; exact Nat.le_refl _
  | j + 1, h => by
    by_cases e : i = j + 1
    · subst e; exact Nat.le_refl _
    · have := cnt_mono (q := q) (i := i) (j := j) (by omega)
      rw [cnt]; omega
theorem cnt_lt {q : Nat → Bool} {i j : Nat} (h : i < j) (hq : q i = true) : cnt q i < cnt q j := by
  have h1 := cnt_mono (q := q) (i := i + 1) (j := j) (by omega)
  rw [cnt, if_pos hq] at h1
  omega
theorem cnt_inj {q : Nat → Bool} {i j : Nat} (hi : q i = true) (hj : q j = true) (h : cnt q i = cnt q j) : i = j := by
  rcases Nat.lt_trichotomy i j with h1 | h1 | h1
  · have := cnt_lt h1 hi; omega
  · exact h1
  · have := cnt_lt h1 hj; omega
theorem keepTo_at {α : Type} {q : Nat → Bool} {l : List α} {k : Nat} (hq : q k = true) : ∀ {n : Nat}, k < n → n ≤ l.length → (keepTo q l n)[cnt q k]? = l[k]?
  | 0, h, _ => by omega
  | n + 1, h, hn => by
    have hl := keepTo_length (q := q) (l := l) (k := n) (by omega)
    rw [keepTo]
    by_cases e : k = n
    · subst e
      rw [List.getElem?_append_right (by omega), hl, Nat.sub_self, if_pos hq, List.getElem?_eq_getElem (show k < l.length by omega)]
      rfl
    · have := cnt_lt (q := q) (i := k) (j := n) (by omega) hq
      rw [List.getElem?_append_left (by omega)]
      exact keepTo_at hq (by omega) (by omega)
theorem keepTo_inv {α : Type} {q : Nat → Bool} {l : List α} {m : Nat} {x : α} : ∀ {n : Nat}, n ≤ l.length → (keepTo q l n)[m]? = some x → ∃ k, k < n ∧ q k = true ∧ cnt q k = m ∧ l[k]? = some x
  | 0, _, h => by simp [keepTo] at h
  | n + 1, hn, h => by
    have hl := keepTo_length (q := q) (l := l) (k := n) (by omega)
    rw [keepTo] at h
    by_cases hm : m < (keepTo q l n).length
    · rw [List.getElem?_append_left hm] at h
      obtain ⟨k, h1, h2⟩ := keepTo_inv (by omega) h
      exact ⟨k, by omega, h2⟩
    · rw [List.getElem?_append_right (by omega)] at h
      cases hq : q n with
      | false => rw [hq] at h; simp at h
      | true =>
        rw [hq, if_pos rfl] at h
        have he := List.getElem?_eq_getElem (show n < l.length by omega)
        rw [he] at h
        simp only [Option.toList] at h
        have hm0 : m - (keepTo q l n).length = 0 := by
          have := (List.getElem?_eq_some_iff.1 h).1
          simp at this; omega
        rw [hm0] at h
        exact ⟨n, by omega, hq, by omega, by rw [he]; simpa using h⟩
theorem keepTo_map {α β : Type} {q : Nat → Bool} {l : List α} {f : α → β} : ∀ (n : Nat), (keepTo q l n).map f = keepTo q (l.map f) n
  | 0 => rfl
  | n + 1 => by
    rw [keepTo, keepTo, List.map_append, keepTo_map n, List.getElem?_map]
    congr 1
    split
    · cases l[n]? <;> rfl
    · rfl
theorem keepTo_congr {α : Type} {q : Nat → Bool} {l l' : List α} : ∀ {n : Nat}, (∀ k, k < n → q k = true → l[k]? = l'[k]?) → keepTo q l n = keepTo q l' n
  | 0, _ => rfl
  | n + 1, h => by
    rw [keepTo, keepTo, keepTo_congr (fun k hk => h k (by omega))]
    congr 1
    split
    · rename_i hq; rw [h n (by omega) hq]
    · rfl
theorem keepTo_congr2 {α : Type} {q q' : Nat → Bool} {l : List α} : ∀ {n : Nat}, (∀ k, k < n → q k = q' k) → keepTo q l n = keepTo q' l n
  | 0, _ => rfl
  | n + 1, h => by rw [keepTo, keepTo, keepTo_congr2 (fun k hk => h k (by omega)), h n (by omega)]
theorem cnt_congr {q q' : Nat → Bool} : ∀ {n : Nat}, (∀ k, k < n → q k = q' k) → cnt q n = cnt q' n
  | 0, _ => rfl
  | n + 1, h => by rw [cnt, cnt, cnt_congr (fun k hk => h k (by omega)), h n (by omega)]
theorem cnt_cnt {u v : Nat → Bool} : ∀ (n : Nat), cnt v (cnt u n) = cnt (fun k => u k && v (cnt u k)) n
  | 0 => rfl
  | n + 1 => by
    rw [cnt, cnt, ← cnt_cnt n]
    cases hu : u n with
    | false => simp
    | true =>
      rw [if_pos rfl, cnt]
      simp
theorem keepTo_keepTo {α : Type} {u v : Nat → Bool} {l : List α} : ∀ {n m : Nat}, n ≤ m → m ≤ l.length → keepTo v (keepTo u l m) (cnt u n) = keepTo (fun k => u k && v (cnt u k)) l n
  | 0, _, _, _ => rfl
  | n + 1, m, h, hm => by
    rw [cnt, keepTo, ← keepTo_keepTo (n := n) (m := m) (by omega) hm]
    cases hu : u n with
    | false => simp
    | true =>
      rw [if_pos rfl, keepTo, keepTo_at hu (by omega) hm]
      simp
theorem cnt_all {q : Nat → Bool} : ∀ {n : Nat}, (∀ k, k < n → q k = true) → cnt q n = n
  | 0, _ => rfl
  | n + 1, h => by rw [cnt, cnt_all (fun k hk => h k (by omega)), if_pos (h n (by omega))]
theorem keepTo_all {α : Type} {q : Nat → Bool} {l : List α} : ∀ {n : Nat}, n ≤ l.length → (∀ k, k < n → q k = true) → keepTo q l n = l.take n
  | 0, _, _ => by simp [keepTo]
  | n + 1, hn, h => by
    rw [keepTo, keepTo_all (by omega) (fun k hk => h k (by omega)), if_pos (h n (by omega)), List.take_add_one]
theorem refTo_iff {l : List StepD} {u : Nat → Bool} {j : Nat} : ∀ {m : Nat}, refTo l u m j = true ↔ ∃ (k : Nat) (s : StepD), k < m ∧ l[k]? = some s ∧ u k = true ∧ s.kind = 4 ∧ s.node = (j : Int)
  | 0 => by simp [refTo]
  | m + 1 => by
    rw [refTo, Bool.or_eq_true, refTo_iff (m := m)]
    constructor
    · rintro (⟨k, s, h1, h2⟩ | h)
      · exact ⟨k, s, by omega, h2⟩
      · cases hs : l[m]? with
        | none => rw [hs] at h; simp at h
        | some s =>
          rw [hs] at h
          simp only [Bool.and_eq_true, beq_iff_eq] at h
          exact ⟨m, s, by omega, hs, h⟩
    · rintro ⟨k, s, h1, h2, h3, h4, h5⟩
      by_cases e : k = m
      · subst e
        rw [h2]
        refine .inr ?_
        simp [h3, h4, h5]
      · exact .inl ⟨k, s, by omega, h2, h3, h4, h5⟩
/-- Which lemmas are kept. -/
def refs (p : PrfD) (u : Nat → Bool) : Nat → Bool := refTo p.steps u p.steps.length
theorem pick_len {p : PrfD} {u : Nat → Bool} : (pickP p u).steps.length = cnt u p.steps.length := by
  show (keepTo u (p.steps.map _) p.steps.length).length = _
  rw [keepTo_length (by rw [List.length_map]; exact Nat.le_refl _)]
theorem pick_llen {p : PrfD} {u : Nat → Bool} : (pickP p u).lemmas.length = cnt (refs p u) p.lemmas.length := keepTo_length (Nat.le_refl _)
theorem pick_at {p : PrfD} {u : Nat → Bool} {k : Nat} {s : StepD} (hu : u k = true) (hs : p.steps[k]? = some s) : (pickP p u).steps[cnt u k]? = some (renS (stepNo u) (lemNo (refs p u)) s) := by
  show (keepTo u (p.steps.map _) p.steps.length)[cnt u k]? = _
  rw [keepTo_at hu (List.getElem?_eq_some_iff.1 hs).1 (by rw [List.length_map]; exact Nat.le_refl _), List.getElem?_map, hs]
  rfl
theorem pick_inv {p : PrfD} {u : Nat → Bool} {m : Nat} {t : StepD} (h : (pickP p u).steps[m]? = some t) : ∃ (k : Nat) (s : StepD), u k = true ∧ cnt u k = m ∧ p.steps[k]? = some s ∧ t = renS (stepNo u) (lemNo (refs p u)) s := by
  obtain ⟨k, h1, h2, h3, h4⟩ := keepTo_inv (q := u) (l := p.steps.map (renS (stepNo u) (lemNo (refs p u)))) (by rw [List.length_map]; exact Nat.le_refl _) h
  rw [List.getElem?_map] at h4
  cases hs : p.steps[k]? with
  | none => rw [hs] at h4; simp at h4
  | some s =>
    rw [hs] at h4
    exact ⟨k, s, h2, h3, hs, by simpa using h4.symm⟩
theorem pick_hints {p : PrfD} {u : Nat → Bool} {k : Nat} (hu : u k = true) (hk : k < p.steps.length) : hintsOf (pickP p u).steps (cnt u k) = (hintsOf p.steps k).map (fun h => stepNo u h.toNat) := by
  have hs := List.getElem?_eq_getElem hk
  rw [hintsOf_some (pick_at hu hs), hintsOf_some hs]
  rfl
theorem pick_bel1 {p : PrfD} (hl : HOk p.steps) {u : Nat → Bool} (hc : Clo p.steps u) {m c : Nat} (h : Bel (pickP p u).steps c m) : ∀ {i : Nat}, u i = true → i < p.steps.length → c = cnt u i → ∃ k, m = cnt u k ∧ u k = true ∧ Bel p.steps i k := by
  induction h with
  | refl c => exact fun {i} hi _ e => ⟨i, e, hi, .refl _⟩
  | @step c m x h1 _ ih =>
    intro i hi hil e
    subst e
    rw [pick_hints hi hil] at h1
    obtain ⟨h, hh, rfl⟩ := List.mem_map.1 h1
    have hb := hl i h hh
    have hu := hc i hi h hh
    have hn : (stepNo u h.toNat).toNat = cnt u h.toNat := by unfold stepNo; rw [hu]; simp
    obtain ⟨k, e1, e2, e3⟩ := ih hu (by omega) hn
    exact ⟨k, e1, e2, .step hh e3⟩
theorem pick_bel2 {p : PrfD} (hl : HOk p.steps) {u : Nat → Bool} (hc : Clo p.steps u) {i k : Nat} (h : Bel p.steps i k) : u i = true → i < p.steps.length → Bel (pickP p u).steps (cnt u i) (cnt u k) ∧ u k = true := by
  induction h with
  | refl => exact fun h1 _ => ⟨.refl _, h1⟩
  | @step i k h h1 _ ih =>
    intro hi hil
    have hb := hl i h h1
    have hu := hc i hi h h1
    obtain ⟨h2, h3⟩ := ih hu (by omega)
    have hn : (stepNo u h.toNat).toNat = cnt u h.toNat := by unfold stepNo; rw [hu]; simp
    refine ⟨.step (h := stepNo u h.toNat) ?_ (by rw [hn]; exact h2), h3⟩
    rw [pick_hints hi hil]
    exact List.mem_map.2 ⟨h, h1, rfl⟩
theorem pick_wf {p : PrfD} (hwf : Wf p) {u : Nat → Bool} (hc : Clo p.steps u) : Wf (pickP p u) := by
  refine ⟨by rw [pick_len]; have := cnt_le u p.steps.length; have := hwf.len; omega, fun m t ht => ?_, fun m t ht => ?_, fun m t ht => ?_⟩ <;> obtain ⟨k, s, h1, rfl, h3, rfl⟩ := pick_inv ht
  · intro x hx
    obtain ⟨h, hh, rfl⟩ := List.mem_map.1 hx
    have hb := hwf.hint k s h3 h hh
    have hu := hc k h1 h (by rw [hintsOf_some h3]; exact hh)
    have := cnt_lt (q := u) (i := h.toNat) (j := k) (by omega) hu
    unfold stepNo
    rw [hu, if_pos rfl]
    omega
  · exact hwf.kind k s h3
  · intro h4
    have hb := hwf.lem k s h3 h4
    have h4' : s.kind = 4 := h4
    obtain ⟨n, hn⟩ := Int.eq_ofNat_of_zero_le hb.1
    have hq : refs p u n = true := refTo_iff.2 ⟨k, s, (List.getElem?_eq_some_iff.1 h3).1, h3, h1, h4', hn⟩
    have h5 : (renS (stepNo u) (lemNo (refs p u)) s).node = (cnt (refs p u) n : Int) := by
      show (if s.kind = 4 then lemNo (refs p u) s.node.toNat else s.node) = _
      rw [if_pos h4', hn, Int.toNat_natCast]
      unfold lemNo; rw [hq]; rfl
    rw [h5, pick_llen]
    have := cnt_lt (q := refs p u) (i := n) (j := p.lemmas.length) (by omega) hq
    omega
theorem pick_few {p : PrfD} {B : Nat} (h : ∀ (k : Nat) (st : StepD), p.steps[k]? = some st → st.hints.length ≤ B) {u : Nat → Bool} : ∀ (k : Nat) (st : StepD), (pickP p u).steps[k]? = some st → st.hints.length ≤ B := fun m t ht => by
  obtain ⟨k, s, h1, rfl, h3, rfl⟩ := pick_inv ht
  show (s.hints.map _).length ≤ B
  rw [List.length_map]; exact h k s h3
/-- What a step rests on, as names. -/
def NameAt (l : List StepD) (j : Nat) (x : ByteArray) : Prop := ∃ (k : Nat) (st : StepD), l[k]? = some st ∧ Bel l j k ∧ st.kind = 1 ∧ st.name = x
theorem pick_name {p : PrfD} (hl : HOk p.steps) {u : Nat → Bool} (hc : Clo p.steps u) {i : Nat} (hi : u i = true) (hil : i < p.steps.length) (x : ByteArray) : NameAt (pickP p u).steps (cnt u i) x ↔ NameAt p.steps i x := by
  constructor
  · rintro ⟨m, t, h1, h2, h3, h4⟩
    obtain ⟨k, s, e1, e2, e3, rfl⟩ := pick_inv h1
    obtain ⟨k', f1, f2, f3⟩ := pick_bel1 hl hc h2 hi hil rfl
    have : k = k' := cnt_inj e1 f2 (by omega)
    subst this
    exact ⟨k, s, e3, f3, h3, h4⟩
  · rintro ⟨k, s, h1, h2, h3, h4⟩
    obtain ⟨f1, f2⟩ := pick_bel2 hl hc h2 hi hil
    exact ⟨cnt u k, _, pick_at f2 h1, f1, h3, h4⟩
theorem rests_iff {l : List StepD} (hl : HOk l) {j k : Nat} : rests l j k = true ↔ Bel l j k := by
  unfold rests
  rw [down_iff hl]
  constructor
  · rintro (h | ⟨i, _, h2, h3⟩)
    · have e : k = j := by simpa using h
      subst e; exact .refl _
    · have e : i = j := by simpa using h2
      subst e; exact h3
  · exact fun h2 => .inr ⟨j, by omega, by simp, h2⟩
theorem prem_iff {l : List StepD} (hl : HOk l) {j : Nat} {R : List ByteArray} (h : PremOf l (rests l j) R) (x : ByteArray) : x ∈ R ↔ NameAt l j x := by
  rw [h.2 x]
  unfold asserted NameAt
  constructor
  · rintro ⟨k, st, h1, h2, h3⟩; exact ⟨k, st, h1, (rests_iff hl).1 h2, h3⟩
  · rintro ⟨k, st, h1, h2, h3⟩; exact ⟨k, st, h1, (rests_iff hl).2 h2, h3⟩
theorem prem_same {l l' : List StepD} (hl : HOk l) (hl' : HOk l') {j j' : Nat} {R R' : List ByteArray} (h : PremOf l (rests l j) R) (h' : PremOf l' (rests l' j') R') (hn : ∀ x, NameAt l' j' x ↔ NameAt l j x) : R = R' :=
  ascending_eq h.1 h'.1 (fun x => (prem_iff hl h x).trans ((hn x).symm.trans (prem_iff hl' h' x).symm))
/-- A proof of which all is used is picked as it is. -/
theorem pick_full {p : PrfD} (hwf : Wf p) {u : Nat → Bool} (h1 : ∀ k, k < p.steps.length → u k = true) (h2 : ∀ j, j < p.lemmas.length → refs p u j = true) : pickP p u = p := by
  have hS : p.steps.map (renS (stepNo u) (lemNo (refs p u))) = p.steps := by
    apply List.ext_getElem?
    intro k
    rw [List.getElem?_map]
    cases hs : p.steps[k]? with
    | none => rfl
    | some s =>
      have hk := (List.getElem?_eq_some_iff.1 hs).1
      show some (renS _ _ s) = some s
      congr 1
      have e1 : s.hints.map (fun h => stepNo u h.toNat) = s.hints := by
        have : ∀ h ∈ s.hints, stepNo u h.toNat = h := fun h hh => by
          have hb := hwf.hint k s hs h hh
          unfold stepNo
          rw [h1 h.toNat (by omega), if_pos rfl, cnt_all (fun m hm => h1 m (by omega))]
          omega
        exact (List.map_congr_left this).trans (List.map_id' _)
      have e2 : (if s.kind = 4 then lemNo (refs p u) s.node.toNat else s.node) = s.node := by
        by_cases h4 : s.kind = 4
        · have hb := hwf.lem k s hs h4
          rw [if_pos h4]
          unfold lemNo
          rw [h2 s.node.toNat (by omega), if_pos rfl, cnt_all (fun m hm => h2 m (by omega))]
          omega
        · rw [if_neg h4]
      unfold renS
      rw [e1, e2]
  have hp : pickP p u = ⟨keepTo (refs p u) p.lemmas p.lemmas.length, keepTo u (p.steps.map (renS (stepNo u) (lemNo (refs p u)))) p.steps.length⟩ := rfl
  rw [hp, hS, keepTo_all (Nat.le_refl _) h2, keepTo_all (Nat.le_refl _) h1, List.take_length, List.take_length]
/-- The chosen lemmas of a picked proof are all referred to. -/
theorem pick_refs {p : PrfD} {u v : Nat → Bool} (hv : ∀ k, k < (pickP p u).steps.length → v k = true) {j : Nat} (hj : j < (pickP p u).lemmas.length) : refs (pickP p u) v j = true := by
  have hg := List.getElem?_eq_getElem hj
  obtain ⟨n, h1, h2, rfl, _⟩ := keepTo_inv (q := refs p u) (l := p.lemmas) (Nat.le_refl _) hg
  obtain ⟨k, s, hk, h3, h4, h5, h6⟩ := refTo_iff.1 h2
  have ht := pick_at h4 h3
  have hkl := (List.getElem?_eq_some_iff.1 ht).1
  refine refTo_iff.2 ⟨cnt u k, _, hkl, ht, hv _ hkl, h5, ?_⟩
  show (if s.kind = 4 then lemNo (refs p u) s.node.toNat else s.node) = _
  rw [if_pos h5, h6, Int.toNat_natCast]
  unfold lemNo
  rw [h2]; rfl
theorem lastOn_last {l : List StepD} (hl : HOk l) (h : 0 < l.length) : lastOn l (l.length - 1) = true := (lastOn_iff hl).2 ⟨h, .refl _⟩
theorem trim_len {p : PrfD} (hwf : Wf p) (h : 0 < p.steps.length) : (pickP p (lastOn p.steps)).steps.length = cnt (lastOn p.steps) (p.steps.length - 1) + 1 := by
  rw [pick_len]
  obtain ⟨n, hn⟩ : ∃ n, p.steps.length = n + 1 := ⟨p.steps.length - 1, by omega⟩
  have hl := lastOn_last hwf.ok h
  rw [hn] at hl ⊢
  rw [show n + 1 - 1 = n by omega] at hl ⊢
  rw [cnt, hl]; rfl
/-- A trimmed proof uses all of its steps. -/
theorem trim_all {p : PrfD} (hwf : Wf p) {k : Nat} (hk : k < (pickP p (lastOn p.steps)).steps.length) : lastOn (pickP p (lastOn p.steps)).steps k = true := by
  have hclo := lastOn_clo hwf.ok
  have hW := pick_wf hwf hclo
  obtain ⟨k0, s, h1, rfl, h3, _⟩ := pick_inv (List.getElem?_eq_getElem hk)
  have h0 := ((lastOn_iff hwf.ok).1 h1)
  have hb := (pick_bel2 hwf.ok hclo h0.2 (lastOn_last hwf.ok h0.1) (by omega)).1
  refine (lastOn_iff hW.ok).2 ⟨by omega, ?_⟩
  rw [trim_len hwf h0.1]
  exact hb
theorem trim_again {p : PrfD} (hwf : Wf p) : pickP (pickP p (lastOn p.steps)) (lastOn (pickP p (lastOn p.steps)).steps) = pickP p (lastOn p.steps) :=
  pick_full (pick_wf hwf (lastOn_clo hwf.ok)) (fun _ hk => trim_all hwf hk) (fun _ hj => pick_refs (fun _ hk => trim_all hwf hk) hj)
/-- Picking twice. -/
theorem pick_pick {p : PrfD} (hwf : Wf p) {u v : Nat → Bool} (hc : Clo p.steps u) : pickP (pickP p u) v = pickP p (fun k => u k && v (cnt u k)) := by
  obtain ⟨w, hw⟩ : ∃ w : Nat → Bool, w = fun k => u k && v (cnt u k) := ⟨_, rfl⟩
  have hwk : ∀ k, w k = (u k && v (cnt u k)) := fun k => by rw [hw]
  rw [← hw]
  have hR : ∀ j, refs p w j = (refs p u j && refs (pickP p u) v (cnt (refs p u) j)) := by
    intro j
    rw [Bool.eq_iff_iff, Bool.and_eq_true]
    constructor
    · intro h
      obtain ⟨k, s, h1, h2, h3, h4, h5⟩ := refTo_iff.1 h
      rw [hwk, Bool.and_eq_true] at h3
      have hq : refs p u j = true := refTo_iff.2 ⟨k, s, h1, h2, h3.1, h4, h5⟩
      have ht := pick_at h3.1 h2
      refine ⟨hq, refTo_iff.2 ⟨cnt u k, _, (List.getElem?_eq_some_iff.1 ht).1, ht, h3.2, h4, ?_⟩⟩
      show (if s.kind = 4 then lemNo (refs p u) s.node.toNat else s.node) = _
      rw [if_pos h4, h5, Int.toNat_natCast]
      unfold lemNo
      rw [hq]; rfl
    · rintro ⟨hq, h⟩
      obtain ⟨m, t, h1, h2, h3, h4, h5⟩ := refTo_iff.1 h
      obtain ⟨k, s, e1, rfl, e3, rfl⟩ := pick_inv h2
      have h4' : s.kind = 4 := h4
      have hb := hwf.lem k s e3 h4'
      obtain ⟨j', hj'⟩ := Int.eq_ofNat_of_zero_le hb.1
      have hkl := (List.getElem?_eq_some_iff.1 e3).1
      have hq' : refs p u j' = true := refTo_iff.2 ⟨k, s, hkl, e3, e1, h4', hj'⟩
      have h6 : (if s.kind = 4 then lemNo (refs p u) s.node.toNat else s.node) = ((cnt (refs p u) j : Nat) : Int) := h5
      rw [if_pos h4', hj', Int.toNat_natCast] at h6
      unfold lemNo at h6
      rw [hq', if_pos rfl] at h6
      have : j' = j := cnt_inj hq' hq (by omega)
      subst this
      exact refTo_iff.2 ⟨k, s, hkl, e3, by rw [hwk, e1, h3]; rfl, h4', hj'⟩
  have hRf : refs p w = fun j => refs p u j && refs (pickP p u) v (cnt (refs p u) j) := funext hR
  have hp : ∀ (q : PrfD) (x : Nat → Bool), pickP q x = ⟨keepTo (refs q x) q.lemmas q.lemmas.length, keepTo x (q.steps.map (renS (stepNo x) (lemNo (refs q x)))) q.steps.length⟩ := fun _ _ => rfl
  rw [hp (pickP p u) v, hp p w]
  have hL : keepTo (refs (pickP p u) v) (pickP p u).lemmas (pickP p u).lemmas.length = keepTo (refs p w) p.lemmas p.lemmas.length := by
    rw [pick_llen, hRf]
    exact keepTo_keepTo (Nat.le_refl _) (Nat.le_refl _)
  have hS : keepTo v ((pickP p u).steps.map (renS (stepNo v) (lemNo (refs (pickP p u) v)))) (pickP p u).steps.length = keepTo w (p.steps.map (renS (stepNo w) (lemNo (refs p w)))) p.steps.length := by
    have e1 : (pickP p u).steps = keepTo u (p.steps.map (renS (stepNo u) (lemNo (refs p u)))) p.steps.length := rfl
    rw [pick_len, e1, keepTo_map, keepTo_keepTo (Nat.le_refl _) (by simp), ← hw]
    refine keepTo_congr (fun k hk hwk' => ?_)
    have hs := List.getElem?_eq_getElem hk
    rw [List.getElem?_map, List.getElem?_map, List.getElem?_map, hs]
    generalize p.steps[k] = s at *
    show some _ = some _
    congr 1
    have huk : u k = true := by rw [hwk, Bool.and_eq_true] at hwk'; exact hwk'.1
    have a1 : (s.hints.map (fun h => stepNo u h.toNat)).map (fun h => stepNo v h.toNat) = s.hints.map (fun h => stepNo w h.toNat) := by
      rw [List.map_map]
      refine List.map_congr_left (fun h hh => ?_)
      have hu := hc k huk h (by rw [hintsOf_some hs]; exact hh)
      show stepNo v (stepNo u h.toNat).toNat = stepNo w h.toNat
      have : stepNo u h.toNat = (cnt u h.toNat : Int) := by unfold stepNo; rw [hu]; rfl
      rw [this, Int.toNat_natCast]
      unfold stepNo
      rw [hwk, hu, Bool.true_and, cnt_cnt, ← hw]
    have a2 : (if s.kind = 4 then lemNo (refs (pickP p u) v) (if s.kind = 4 then lemNo (refs p u) s.node.toNat else s.node).toNat else (if s.kind = 4 then lemNo (refs p u) s.node.toNat else s.node)) = (if s.kind = 4 then lemNo (refs p w) s.node.toNat else s.node) := by
      by_cases h4 : s.kind = 4
      · rw [if_pos h4, if_pos h4, if_pos h4]
        have hb := hwf.lem k s hs h4
        obtain ⟨j, hj⟩ := Int.eq_ofNat_of_zero_le hb.1
        have hq : refs p u j = true := refTo_iff.2 ⟨k, s, hk, hs, huk, h4, hj⟩
        rw [hj, Int.toNat_natCast]
        have : lemNo (refs p u) j = (cnt (refs p u) j : Int) := by unfold lemNo; rw [hq]; rfl
        rw [this, Int.toNat_natCast]
        unfold lemNo
        rw [hR, hq, Bool.true_and, cnt_cnt, ← hRf]
      · rw [if_neg h4, if_neg h4, if_neg h4]
    show renS _ _ (renS _ _ s) = renS _ _ s
    unfold renS
    show StepD.mk _ _ _ _ _ _ _ = StepD.mk _ _ _ _ _ _ _
    congr 1
  rw [hL, hS]
theorem pick_congr {p : PrfD} (hwf : Wf p) {u v : Nat → Bool} (h : ∀ k, k < p.steps.length → u k = v k) : pickP p u = pickP p v := by
  have hR : refs p u = refs p v := by
    funext j
    rw [Bool.eq_iff_iff]
    constructor <;> intro hh <;> obtain ⟨k, s, h1, h2, h3, h4⟩ := refTo_iff.1 hh
    · exact refTo_iff.2 ⟨k, s, h1, h2, by rw [← h k h1]; exact h3, h4⟩
    · exact refTo_iff.2 ⟨k, s, h1, h2, by rw [h k h1]; exact h3, h4⟩
  have hp : ∀ (x : Nat → Bool), pickP p x = ⟨keepTo (refs p x) p.lemmas p.lemmas.length, keepTo x (p.steps.map (renS (stepNo x) (lemNo (refs p x)))) p.steps.length⟩ := fun _ => rfl
  rw [hp, hp, hR, keepTo_congr2 h]
  congr 1
  refine keepTo_congr (fun k hk _ => ?_)
  have hs := List.getElem?_eq_getElem hk
  rw [List.getElem?_map, List.getElem?_map, hs]
  generalize p.steps[k] = s at *
  show some _ = some _
  congr 1
  unfold renS
  congr 1
  refine List.map_congr_left (fun x hx => ?_)
  have hb := hwf.hint k s hs x hx
  unfold stepNo
  rw [h _ (by omega), cnt_congr (fun m hm => h m (by omega))]
/-- Nothing of the names lies below a step, in the picked proof as in the proof. -/
theorem pick_free {gone : List ByteArray} {p : PrfD} (hl : HOk p.steps) {u : Nat → Bool} (hc : Clo p.steps u) {i : Nat} (hi : u i = true) (hil : i < p.steps.length) : Free gone (pickP p u).steps (cnt u i) ↔ Free gone p.steps i := by
  have key : ∀ (l : List StepD) (j : Nat), Free gone l j ↔ ∀ x, NameAt l j x → hasN gone x = false := fun l j => by
    constructor
    · rintro h x ⟨k, st, h1, h2, h3, rfl⟩; exact h k st h2 h1 h3
    · intro h k st h1 h2 h3; exact h _ ⟨k, st, h2, h1, h3, rfl⟩
  rw [key, key]
  constructor
  · intro h x hx; exact h x ((pick_name hl hc hi hil x).2 hx)
  · intro h x hx; exact h x ((pick_name hl hc hi hil x).1 hx)
theorem hasN_append (a b : List ByteArray) (x : ByteArray) : hasN (a ++ b) x = (hasN a x || hasN b x) := by unfold hasN; rw [List.any_append]
/-- Leaving out some and then others. -/
theorem kept_kept {p : PrfD} (hwf : Wf p) (a b : List ByteArray) : pickP (pickP p (keptTo a p.steps p.steps.length)) (keptTo b (pickP p (keptTo a p.steps p.steps.length)).steps (pickP p (keptTo a p.steps p.steps.length)).steps.length) = pickP p (keptTo (a ++ b) p.steps p.steps.length) := by
  have hc := kept_clo (gone := a) hwf.ok
  have hW := pick_wf hwf hc
  rw [pick_pick hwf hc]
  refine pick_congr hwf (fun k hk => ?_)
  rw [Bool.eq_iff_iff, Bool.and_eq_true, kept_iff hwf.ok (Nat.le_refl _), kept_iff hwf.ok (Nat.le_refl _), kept_iff hW.ok (Nat.le_refl _)]
  have hfr : Free (a ++ b) p.steps k ↔ Free a p.steps k ∧ Free b p.steps k := by
    constructor
    · intro h
      refine ⟨fun m st h1 h2 h3 => ?_, fun m st h1 h2 h3 => ?_⟩ <;> have := h m st h1 h2 h3 <;> rw [hasN_append, Bool.or_eq_false_iff] at this
      · exact this.1
      · exact this.2
    · rintro ⟨h1, h2⟩ m st h3 h4 h5
      rw [hasN_append, h1 m st h3 h4 h5, h2 m st h3 h4 h5]; rfl
  rw [hfr]
  constructor
  · rintro ⟨⟨_, h1⟩, _, h2⟩
    have hu : keptTo a p.steps p.steps.length k = true := (kept_iff hwf.ok (Nat.le_refl _)).2 ⟨hk, h1⟩
    exact ⟨hk, h1, (pick_free hwf.ok hc hu hk).1 h2⟩
  · rintro ⟨_, h1, h2⟩
    have hu : keptTo a p.steps p.steps.length k = true := (kept_iff hwf.ok (Nat.le_refl _)).2 ⟨hk, h1⟩
    refine ⟨⟨hk, h1⟩, ?_, (pick_free hwf.ok hc hu hk).2 h2⟩
    rw [pick_len]
    exact cnt_lt hk hu
end Trim
end Go.Proofs.Ytnmfihgdedifoaa
