/- Numbering as plain data: the rows out of the list, one list for two numberings, fewer classes. No program is named. Conditions: none. -/
import Derived.Test.YtjclbjdkkdijbaaGreatAutoP
set_option linter.unusedVariables false
set_option linter.unusedSimpArgs false
set_option linter.unusedSectionVars false
open Go.RowKit
namespace Go.Proofs.YtjclbjdkkdijbaaGreat
open L
namespace Auto
section
variable {α β : Type} [DecidableEq α] [DecidableEq β]
theorem place_pre {l l' : List α} (h : l <+: l') {x : α} (hx : x ∈ l) : place l' x = place l x := by
  obtain ⟨r, rfl⟩ := h
  induction l with
  | nil => exact absurd hx (by simp)
  | cons y ys ih =>
    unfold place at *
    rw [List.cons_append, List.findIdx_cons, List.findIdx_cons]
    by_cases he : y = x
    · simp [he]
    · have hx' : x ∈ ys := by
        rcases List.mem_cons.1 hx with h | h
        · exact absurd h.symm he
        · exact h
      simp only [he, decide_false, cond_false]
      rw [ih hx']
theorem place_adds (l : List α) (x : α) : place (adds l x) x = place l x := by
  by_cases h : x ∈ l
  · unfold adds; rw [if_pos h]
  · have e : adds l x = l ++ [x] := by unfold adds; rw [if_neg h]
    rw [e, place_none h]
    have h1 : place (l ++ [x]) x < (l ++ [x]).length := place_lt.2 (by simp)
    have h2 : ¬ place (l ++ [x]) x < l.length := fun h3 => by
      have h4 := place_get h1
      rw [List.getElem_append_left h3] at h4
      exact h (h4 ▸ List.getElem_mem h3)
    rw [List.length_append] at h1
    simp at h1
    omega
theorem scan_mem {f : Nat → α} {l : List α} {k j : Nat} (h : j < k) : f j ∈ (scan f k l).1 := List.mem_of_getElem? (scan_ok f l k j h)
theorem scan_snd (f : Nat → α) (l : List α) : ∀ k, (scan f k l).2 = (List.range k).map (fun j => place (scan f k l).1 (f j))
  | 0 => rfl
  | k + 1 => by
    have e1 : (scan f (k + 1) l).2 = (scan f k l).2 ++ [place (scan f k l).1 (f k)] := rfl
    have e2 : (scan f (k + 1) l).1 = adds (scan f k l).1 (f k) := rfl
    rw [e1, e2, scan_snd f l k, List.range_succ, List.map_append]
    congr 1
    · refine List.map_congr_left fun j hj => ?_
      exact (place_pre (adds_pre _ _) (scan_mem (List.mem_range.1 hj))).symm
    · simp [place_adds]
/-- The table is the places of what comes next in the list. -/
theorem upTo_tab (first : α) (m : Nat) (nx : α → Nat → α) : ∀ i, (upTo first m nx i).2 = ((upTo first m nx i).1.take i).map (fun x => (List.range m).map fun j => place (upTo first m nx i).1 (nx x j)) ∧ ∀ x ∈ (upTo first m nx i).1.take i, ∀ j, j < m → nx x j ∈ (upTo first m nx i).1
  | 0 => ⟨rfl, fun x hx => absurd hx (by simp)⟩
  | i + 1 => by
    obtain ⟨h1, h2⟩ := upTo_tab first m nx i
    rw [upTo]
    cases hs : (upTo first m nx i).1[i]? with
    | none =>
      have hl := List.getElem?_eq_none_iff.1 hs
      simp only
      rw [List.take_of_length_le (by omega)] at h1 h2 ⊢
      exact ⟨h1, h2⟩
    | some s =>
      simp only
      have hl := (List.getElem?_eq_some_iff.1 hs).1
      have hp := scan_pre (nx s) m (upTo first m nx i).1
      have ht : (scan (nx s) m (upTo first m nx i).1).1.take (i + 1) = (upTo first m nx i).1.take i ++ [s] := by
        obtain ⟨r, hr⟩ := hp
        rw [← hr, List.take_append_of_le_length (by omega), List.take_add_one, hs]
        rfl
      refine ⟨?_, fun x hx j hj => ?_⟩
      · rw [ht, List.map_append, h1]
        congr 1
        · refine List.map_congr_left fun x hx => List.map_congr_left fun j hj => ?_
          exact (place_pre hp (h2 x hx j (List.mem_range.1 hj))).symm
        · rw [List.map_singleton, scan_snd]
      · rw [ht] at hx
        rcases List.mem_append.1 hx with h | h
        · exact hp.subset (h2 x h j hj)
        · simp at h; subst h; exact scan_mem hj
/-- Two lists of the same length whose elements are related. -/
def Rl (R : α → β → Prop) (l : List α) (l' : List β) : Prop := l.length = l'.length ∧ ∀ (i : Nat) (x : α) (y : β), l[i]? = some x → l'[i]? = some y → R x y
variable {R : α → β → Prop}
theorem Rl.place : ∀ {l : List α} {l' : List β}, Rl R l l' → (∀ x y x' y', R x y → R x' y' → (x = x' ↔ y = y')) → ∀ {x : α} {y : β}, R x y → place l x = Auto.place l' y
  | [], [], _, _, _, _, _ => rfl
  | [], _ :: _, h, _, _, _, _ => by have := h.1; simp at this
  | _ :: _, [], h, _, _, _, _ => by have := h.1; simp at this
  | x0 :: l, y0 :: l', h, hR, x, y, hxy => by
    have h0 : R x0 y0 := h.2 0 x0 y0 rfl rfl
    have ht : Rl R l l' := ⟨by have := h.1; simpa using this, fun i x y hx hy => h.2 (i + 1) x y (by simpa using hx) (by simpa using hy)⟩
    have ih := Rl.place ht hR hxy
    unfold Auto.place at *
    rw [List.findIdx_cons, List.findIdx_cons, ih]
    by_cases he : x0 = x
    · have : y0 = y := (hR _ _ _ _ h0 hxy).1 he
      simp [he, this]
    · have : ¬ y0 = y := fun h => he ((hR _ _ _ _ h0 hxy).2 h)
      simp [he, this]
theorem Rl.adds {l : List α} {l' : List β} (h : Rl R l l') (hR : ∀ x y x' y', R x y → R x' y' → (x = x' ↔ y = y')) {x : α} {y : β} (hxy : R x y) : Rl R (adds l x) (Auto.adds l' y) := by
  have hm : x ∈ l ↔ y ∈ l' := by rw [← place_lt, ← place_lt, h.place hR hxy, h.1]
  unfold Auto.adds
  by_cases hx : x ∈ l
  · rw [if_pos hx, if_pos (hm.1 hx)]; exact h
  · rw [if_neg hx, if_neg (fun hy => hx (hm.2 hy))]
    refine ⟨by simp [h.1], fun i a b ha hb => ?_⟩
    rcases Nat.lt_or_ge i l.length with hi | hi
    · rw [List.getElem?_append_left hi] at ha
      rw [List.getElem?_append_left (by have := h.1; omega)] at hb
      exact h.2 i a b ha hb
    · rw [List.getElem?_append_right hi] at ha
      rw [List.getElem?_append_right (by have := h.1; omega)] at hb
      cases hk : i - l.length with
      | zero =>
        rw [hk] at ha
        rw [← h.1, hk] at hb
        simp at ha hb
        subst ha; subst hb; exact hxy
      | succ k =>
        rw [hk] at ha
        simp at ha
theorem Rl.scan {l : List α} {l' : List β} (h : Rl R l l') (hR : ∀ x y x' y', R x y → R x' y' → (x = x' ↔ y = y')) {f : Nat → α} {g : Nat → β} : ∀ {k : Nat}, (∀ j, j < k → R (f j) (g j)) → Rl R (scan f k l).1 (Auto.scan g k l').1 ∧ (Auto.scan f k l).2 = (Auto.scan g k l').2
  | 0, _ => ⟨h, rfl⟩
  | k + 1, hf => by
    obtain ⟨h1, h2⟩ := Rl.scan h hR (k := k) fun j hj => hf j (by omega)
    refine ⟨h1.adds hR (hf k (by omega)), ?_⟩
    show (Auto.scan f k l).2 ++ [Auto.place (Auto.scan f k l).1 (f k)] = (Auto.scan g k l').2 ++ [Auto.place (Auto.scan g k l').1 (g k)]
    rw [h2, h1.place hR (hf k (by omega))]
theorem Rl.upTo {m : Nat} {first : α} {first' : β} {nx : α → Nat → α} {nx' : β → Nat → β} (h0 : R first first') (hR : ∀ x y x' y', R x y → R x' y' → (x = x' ↔ y = y')) (hn : ∀ x y, R x y → ∀ j, j < m → R (nx x j) (nx' y j)) : ∀ i, Rl R (upTo first m nx i).1 (Auto.upTo first' m nx' i).1 ∧ (Auto.upTo first m nx i).2 = (Auto.upTo first' m nx' i).2
  | 0 => ⟨⟨rfl, fun i x y hx hy => by
      cases i with
      | zero => simp [Auto.upTo] at hx hy; subst hx; subst hy; exact h0
      | succ i => simp [Auto.upTo] at hx⟩, rfl⟩
  | i + 1 => by
    obtain ⟨h1, h2⟩ := Rl.upTo h0 hR hn i
    rw [Auto.upTo, Auto.upTo]
    cases hs : (Auto.upTo first m nx i).1[i]? with
    | none =>
      have hl := List.getElem?_eq_none_iff.1 hs
      rw [List.getElem?_eq_none_iff.2 (show (Auto.upTo first' m nx' i).1.length ≤ i by rw [← h1.1]; exact hl)]
      exact ⟨h1, h2⟩
    | some s =>
      have hl := (List.getElem?_eq_some_iff.1 hs).1
      have hl' : i < (Auto.upTo first' m nx' i).1.length := by rw [← h1.1]; exact hl
      rw [List.getElem?_eq_getElem hl']
      have hst := h1.2 i _ _ hs (List.getElem?_eq_getElem hl')
      obtain ⟨h3, h4⟩ := h1.scan hR (fun j hj => hn _ _ hst j hj)
      exact ⟨h3, by simp only [h2, h4]⟩
end
section
variable {α β : Type} [DecidableEq α] [DecidableEq β]
/-- A list with more states. -/
def addAll (l : List α) (xs : List α) : List α := xs.foldl adds l
theorem addAll_one (l xs : List α) (x : α) : addAll l (xs ++ [x]) = adds (addAll l xs) x := by unfold addAll; rw [List.foldl_append]; rfl
theorem scan_fst (f : Nat → α) (l : List α) : ∀ k, (scan f k l).1 = addAll l ((List.range k).map f)
  | 0 => rfl
  | k + 1 => by
    rw [List.range_succ, List.map_append, List.map_singleton, addAll_one, ← scan_fst f l k]
    rfl
/-- The number of cuts below. -/
def bel (cs : List Int) (n : Nat) : Nat := cs.countP (fun x => decide (x < (n : Int)))
theorem bel_step {n : Nat} : ∀ {cs : List Int}, cs.Pairwise (· < ·) → bel cs (n + 1) = bel cs n ∨ bel cs (n + 1) = bel cs n + 1
  | [], _ => .inl rfl
  | x :: l, h => by
    have h2 := (List.pairwise_cons.1 h)
    unfold bel
    rw [List.countP_cons, List.countP_cons]
    rcases Int.lt_trichotomy x n with hx | hx | hx
    · have := bel_step (n := n) h2.2
      unfold bel at this
      rw [if_pos (by simp; omega), if_pos (by simpa using hx)]
      omega
    · have z1 : l.countP (fun x => decide (x < ((n + 1 : Nat) : Int))) = 0 := List.countP_eq_zero.2 fun y hy => by have := h2.1 y hy; simp; omega
      have z2 : l.countP (fun x => decide (x < (n : Int))) = 0 := List.countP_eq_zero.2 fun y hy => by have := h2.1 y hy; simp; omega
      rw [z1, z2, if_pos (by simp; omega), if_neg (by simp; omega)]
      exact .inr rfl
    · have z1 : l.countP (fun x => decide (x < ((n + 1 : Nat) : Int))) = 0 := List.countP_eq_zero.2 fun y hy => by have := h2.1 y hy; simp; omega
      have z2 : l.countP (fun x => decide (x < (n : Int))) = 0 := List.countP_eq_zero.2 fun y hy => by have := h2.1 y hy; simp; omega
      rw [z1, z2, if_neg (by simp; omega), if_neg (by simp; omega)]
      exact .inl rfl
theorem cls_bel (cs : List Int) (n : Nat) : cls cs n = bel cs (n + 1) - 1 := by
  unfold cls bel
  congr 1
  refine List.countP_congr fun x _ => ?_
  simp only [decide_eq_true_eq]
  omega
/-- To add what comes next byte by byte is to add it class by class. -/
theorem addAll_bel {cs : List Int} (hs : cs.Pairwise (· < ·)) (h0 : (0 : Int) ∈ cs) (hz : ∀ x ∈ cs, 0 ≤ x) (g : Nat → α) (l : List α) : ∀ n, addAll l ((List.range n).map (fun c => g (cls cs (c : Nat)))) = addAll l ((List.range (bel cs n)).map g)
  | 0 => by
    have z : bel cs 0 = 0 := by
      refine List.countP_eq_zero.2 fun y hy => ?_
      simp only [decide_eq_true_eq]
      have := hz y hy
      omega
    rw [z]; rfl
  | n + 1 => by
    rw [List.range_succ, List.map_append, List.map_singleton, addAll_one, addAll_bel hs h0 hz g l n]
    have hc := cls_bel cs n
    have hb : bel cs (n + 1) ≠ 0 := by
      unfold bel
      exact Nat.ne_of_gt (List.countP_pos_iff.2 ⟨0, h0, by simp⟩)
    rcases bel_step (n := n) hs with h | h
    · rw [h]
      have hm : g (cls cs (n : Nat)) ∈ (scan g (bel cs n) l).1 := scan_mem (f := g) (by omega)
      rw [scan_fst] at hm
      unfold adds
      rw [if_pos hm]
    · rw [h, List.range_succ, List.map_append, List.map_singleton, addAll_one]
      rw [show cls cs (n : Nat) = bel cs n by omega]
/-- Finer keys are at least as many; if they are not more, they divide nothing. -/
theorem scan_finer {g : Nat → α} {h : Nat → β} : ∀ {n : Nat}, (∀ s t, s < n → t < n → g s = g t → h s = h t) → (scan h n []).1.length ≤ (scan g n []).1.length ∧ ((scan h n []).1.length = (scan g n []).1.length → ∀ s t, s < n → t < n → h s = h t → g s = g t)
  | 0, _ => ⟨Nat.le_refl _, fun _ s t hs => absurd hs (Nat.not_lt_zero _)⟩
  | n + 1, hf => by
    obtain ⟨h1, h2⟩ := scan_finer (n := n) fun s t hs ht => hf s t (by omega) (by omega)
    have key : ∀ {γ : Type} [DecidableEq γ] (k : Nat → γ) (x : γ), x ∈ (scan k n []).1 ↔ ∃ s, s < n ∧ k s = x := by
      intro γ _ k x
      rw [scan_fst]
      have : ∀ (xs l : List γ), x ∈ addAll l xs ↔ x ∈ l ∨ x ∈ xs := by
        intro xs
        induction xs with
        | nil => intro l; simp [addAll]
        | cons y ys ih =>
          intro l
          have e : addAll l (y :: ys) = addAll (adds l y) ys := rfl
          rw [e, ih]
          unfold adds
          by_cases hy : y ∈ l
          · rw [if_pos hy]
            refine ⟨fun h => h.imp id (fun h => by simp [h]), fun h => ?_⟩
            rcases h with h | h
            · exact .inl h
            · rcases List.mem_cons.1 h with h | h
              · subst h; exact .inl hy
              · exact .inr h
          · rw [if_neg hy]
            rw [List.mem_append, List.mem_singleton, List.mem_cons]
            constructor
            · rintro ((h | h) | h)
              · exact .inl h
              · exact .inr (.inl h)
              · exact .inr (.inr h)
            · rintro (h | h | h)
              · exact .inl (.inl h)
              · exact .inl (.inr h)
              · exact .inr h
      rw [this]
      simp
    have e1 : (scan h (n + 1) []).1 = adds (scan h n []).1 (h n) := rfl
    have e2 : (scan g (n + 1) []).1 = adds (scan g n []).1 (g n) := rfl
    rw [e1, e2]
    unfold adds
    by_cases hg : g n ∈ (scan g n []).1
    · have hh : h n ∈ (scan h n []).1 := by
        obtain ⟨s, hs, he⟩ := (key g _).1 hg
        exact (key h _).2 ⟨s, hs, hf s n (by omega) (by omega) he⟩
      rw [if_pos hg, if_pos hh]
      refine ⟨h1, fun he s t hs ht hst => ?_⟩
      have h3 := h2 he
      obtain ⟨m, hm, hgm⟩ := (key g _).1 hg
      have hhm := hf m n (by omega) (by omega) hgm
      have fix : ∀ s, s < n + 1 → ∃ s', s' < n ∧ g s' = g s ∧ h s' = h s := fun s hs => by
        by_cases hsn : s < n
        · exact ⟨s, hsn, rfl, rfl⟩
        · have : s = n := by omega
          subst this
          exact ⟨m, hm, hgm, hhm⟩
      obtain ⟨s', hs', hsg, hsh⟩ := fix s hs
      obtain ⟨t', ht', htg, hth⟩ := fix t ht
      rw [← hsg, ← htg]
      exact h3 s' t' hs' ht' (by rw [hsh, hth, hst])
    · rw [if_neg hg]
      by_cases hh : h n ∈ (scan h n []).1
      · rw [if_pos hh, List.length_append]
        simp only [List.length_singleton]
        refine ⟨by omega, fun he => by omega⟩
      · rw [if_neg hh, List.length_append, List.length_append, List.length_singleton, List.length_singleton]
        refine ⟨by omega, fun he s t hs ht hst => ?_⟩
        have h3 := h2 (by omega)
        by_cases hsn : s < n
        · by_cases htn : t < n
          · exact h3 s t hsn htn hst
          · have : t = n := by omega
            subst this
            exact absurd ((key h _).2 ⟨s, hsn, hst⟩) hh
        · have : s = n := by omega
          subst this
          by_cases htn : t < s
          · exact absurd ((key h _).2 ⟨t, htn, hst.symm⟩) hh
          · have : t = s := by omega
            rw [this]
end
end Auto
end Go.Proofs.YtjclbjdkkdijbaaGreat
