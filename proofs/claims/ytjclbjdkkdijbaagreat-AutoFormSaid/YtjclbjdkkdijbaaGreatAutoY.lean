/- Numbering as plain data: the rows out of the list, one list for two numberings, fewer classes. No program is named. Conditions: none. Numbering by keys as plain data. No program is named. Conditions: none. The division of states into blocks as plain data. No program is named. Conditions: none. The least automaton as plain data: blocks as the reference divides them, numbering, merged cuts; it depends on the accepted strings alone. No program is named. Conditions: none. The least automaton as plain data, second part: numbering, merged cuts; the least automaton depends on the accepted strings alone. No program is named. Conditions: none. -/
import Derived.Test.YtjclbjdkkdijbaaGreatAutoP
import Derived.Test.YtjclbjdkkdijbaaGreatAutoL
import Derived.Test.YtjclbjdkkdijbaaGreatLists
set_option linter.unusedVariables false
set_option linter.unusedSimpArgs false
set_option linter.unusedSectionVars false
section
open Go.RowKit
namespace Go.Proofs.YtjclbjdkkdijbaaGreat
open L
namespace Auto
section
variable {α β : Type} [DecidableEq α] [DecidableEq β]
theorem place_pre {l l' : List α} (h : l <+: l') {x : α} (hx : x ∈ l) : place l' x = place l x := by
  obtain ⟨r, rfl⟩ := h
  induction l with
  | nil => exact absurd hx (by simp)
  | cons y ys ih =>
    unfold place at *
    rw [List.cons_append, List.findIdx_cons, List.findIdx_cons]
    by_cases he : y = x
    · simp [he]
    · have hx' : x ∈ ys := by
        rcases List.mem_cons.1 hx with h | h
        · exact absurd h.symm he
        · exact h
      simp only [he, decide_false, cond_false]
      rw [ih hx']
theorem place_adds (l : List α) (x : α) : place (adds l x) x = place l x := by
  by_cases h : x ∈ l
  · unfold adds; rw [if_pos h]
  · have e : adds l x = l ++ [x] := by unfold adds; rw [if_neg h]
    rw [e, place_none h]
    have h1 : place (l ++ [x]) x < (l ++ [x]).length := place_lt.2 (by simp)
    have h2 : ¬ place (l ++ [x]) x < l.length := fun h3 => by
      have h4 := place_get h1
      rw [List.getElem_append_left h3] at h4
      exact h (h4 ▸ List.getElem_mem h3)
    rw [List.length_append] at h1
    simp at h1
    omega
theorem scan_mem {f : Nat → α} {l : List α} {k j : Nat} (h : j < k) : f j ∈ (scan f k l).1 := List.mem_of_getElem? (scan_ok f l k j h)
theorem scan_snd (f : Nat → α) (l : List α) : ∀ k, (scan f k l).2 = (List.range k).map (fun j => place (scan f k l).1 (f j))
  | 0 => rfl
  | k + 1 => by
    have e1 : (scan f (k + 1) l).2 = (scan f k l).2 ++ [place (scan f k l).1 (f k)] := rfl
    have e2 : (scan f (k + 1) l).1 = adds (scan f k l).1 (f k) := rfl
    rw [e1, e2, scan_snd f l k, List.range_succ, List.map_append]
    congr 1
    · refine List.map_congr_left fun j hj => ?_
      exact (place_pre (adds_pre _ _) (scan_mem (List.mem_range.1 hj))).symm
    · simp [place_adds]
/-- The table is the places of what comes next in the list. -/
theorem upTo_tab (first : α) (m : Nat) (nx : α → Nat → α) : ∀ i, (upTo first m nx i).2 = ((upTo first m nx i).1.take i).map (fun x => (List.range m).map fun j => place (upTo first m nx i).1 (nx x j)) ∧ ∀ x ∈ (upTo first m nx i).1.take i, ∀ j, j < m → nx x j ∈ (upTo first m nx i).1
  | 0 => ⟨rfl, fun x hx => absurd hx (by simp)⟩
  | i + 1 => by
    obtain ⟨h1, h2⟩ := upTo_tab first m nx i
    rw [upTo]
    cases hs : (upTo first m nx i).1[i]? with
    | none =>
      have hl := List.getElem?_eq_none_iff.1 hs
      simp only
      rw [List.take_of_length_le (by omega)] at h1 h2 ⊢
      exact ⟨h1, h2⟩
    | some s =>
      simp only
      have hl := (List.getElem?_eq_some_iff.1 hs).1
      have hp := scan_pre (nx s) m (upTo first m nx i).1
      have ht : (scan (nx s) m (upTo first m nx i).1).1.take (i + 1) = (upTo first m nx i).1.take i ++ [s] := by
        obtain ⟨r, hr⟩ := hp
        rw [← hr, List.take_append_of_le_length (by omega), List.take_add_one, hs]
        rfl
      refine ⟨?_, fun x hx j hj => ?_⟩
      · rw [ht, List.map_append, h1]
        congr 1
        · refine List.map_congr_left fun x hx => List.map_congr_left fun j hj => ?_
          exact (place_pre hp (h2 x hx j (List.mem_range.1 hj))).symm
        · rw [List.map_singleton, scan_snd]
      · rw [ht] at hx
        rcases List.mem_append.1 hx with h | h
        · exact hp.subset (h2 x h j hj)
        · simp at h; subst h; exact scan_mem hj
/-- Two lists of the same length whose elements are related. -/
def Rl (R : α → β → Prop) (l : List α) (l' : List β) : Prop := l.length = l'.length ∧ ∀ (i : Nat) (x : α) (y : β), l[i]? = some x → l'[i]? = some y → R x y
variable {R : α → β → Prop}
theorem Rl.place : ∀ {l : List α} {l' : List β}, Rl R l l' → (∀ x y x' y', R x y → R x' y' → (x = x' ↔ y = y')) → ∀ {x : α} {y : β}, R x y → place l x = Auto.place l' y
  | [], [], _, _, _, _, _ => rfl
  | [], _ :: _, h, _, _, _, _ => by have := h.1; simp at this
  | _ :: _, [], h, _, _, _, _ => by have := h.1; simp at this
  | x0 :: l, y0 :: l', h, hR, x, y, hxy => by
    have h0 : R x0 y0 := h.2 0 x0 y0 rfl rfl
    have ht : Rl R l l' := ⟨by have := h.1; simpa using this, fun i x y hx hy => h.2 (i + 1) x y (by simpa using hx) (by simpa using hy)⟩
    have ih := Rl.place ht hR hxy
    unfold Auto.place at *
    rw [List.findIdx_cons, List.findIdx_cons, ih]
    by_cases he : x0 = x
    · have : y0 = y := (hR _ _ _ _ h0 hxy).1 he
      simp [he, this]
    · have : ¬ y0 = y := fun h => he ((hR _ _ _ _ h0 hxy).2 h)
      simp [he, this]
theorem Rl.adds {l : List α} {l' : List β} (h : Rl R l l') (hR : ∀ x y x' y', R x y → R x' y' → (x = x' ↔ y = y')) {x : α} {y : β} (hxy : R x y) : Rl R (adds l x) (Auto.adds l' y) := by
  have hm : x ∈ l ↔ y ∈ l' := by rw [← place_lt, ← place_lt, h.place hR hxy, h.1]
  unfold Auto.adds
  by_cases hx : x ∈ l
  · rw [if_pos hx, if_pos (hm.1 hx)]; exact h
  · rw [if_neg hx, if_neg (fun hy => hx (hm.2 hy))]
    refine ⟨by simp [h.1], fun i a b ha hb => ?_⟩
    rcases Nat.lt_or_ge i l.length with hi | hi
    · rw [List.getElem?_append_left hi] at ha
      rw [List.getElem?_append_left (by have := h.1; omega)] at hb
      exact h.2 i a b ha hb
    · rw [List.getElem?_append_right hi] at ha
      rw [List.getElem?_append_right (by have := h.1; omega)] at hb
      cases hk : i - l.length with
      | zero =>
        rw [hk] at ha
        rw [← h.1, hk] at hb
        simp at ha hb
        subst ha; subst hb; exact hxy
      | succ k =>
        rw [hk] at ha
        simp at ha
theorem Rl.scan {l : List α} {l' : List β} (h : Rl R l l') (hR : ∀ x y x' y', R x y → R x' y' → (x = x' ↔ y = y')) {f : Nat → α} {g : Nat → β} : ∀ {k : Nat}, (∀ j, j < k → R (f j) (g j)) → Rl R (scan f k l).1 (Auto.scan g k l').1 ∧ (Auto.scan f k l).2 = (Auto.scan g k l').2
  | 0, _ => ⟨h, rfl⟩
  | k + 1, hf => by
    obtain ⟨h1, h2⟩ := Rl.scan h hR (k := k) fun j hj => hf j (by omega)
    refine ⟨h1.adds hR (hf k (by omega)), ?_⟩
    show (Auto.scan f k l).2 ++ [Auto.place (Auto.scan f k l).1 (f k)] = (Auto.scan g k l').2 ++ [Auto.place (Auto.scan g k l').1 (g k)]
    rw [h2, h1.place hR (hf k (by omega))]
theorem Rl.upTo {m : Nat} {first : α} {first' : β} {nx : α → Nat → α} {nx' : β → Nat → β} (h0 : R first first') (hR : ∀ x y x' y', R x y → R x' y' → (x = x' ↔ y = y')) (hn : ∀ x y, R x y → ∀ j, j < m → R (nx x j) (nx' y j)) : ∀ i, Rl R (upTo first m nx i).1 (Auto.upTo first' m nx' i).1 ∧ (Auto.upTo first m nx i).2 = (Auto.upTo first' m nx' i).2
  | 0 => ⟨⟨rfl, fun i x y hx hy => by
      cases i with
      | zero => simp [Auto.upTo] at hx hy; subst hx; subst hy; exact h0
      | succ i => simp [Auto.upTo] at hx⟩, rfl⟩
  | i + 1 => by
    obtain ⟨h1, h2⟩ := Rl.upTo h0 hR hn i
    rw [Auto.upTo, Auto.upTo]
    cases hs : (Auto.upTo first m nx i).1[i]? with
    | none =>
      have hl := List.getElem?_eq_none_iff.1 hs
      rw [List.getElem?_eq_none_iff.2 (show (Auto.upTo first' m nx' i).1.length ≤ i by rw [← h1.1]; exact hl)]
      exact ⟨h1, h2⟩
    | some s =>
      have hl := (List.getElem?_eq_some_iff.1 hs).1
      have hl' : i < (Auto.upTo first' m nx' i).1.length := by rw [← h1.1]; exact hl
      rw [List.getElem?_eq_getElem hl']
      have hst := h1.2 i _ _ hs (List.getElem?_eq_getElem hl')
      obtain ⟨h3, h4⟩ := h1.scan hR (fun j hj => hn _ _ hst j hj)
      exact ⟨h3, by simp only [h2, h4]⟩
end
section
variable {α β : Type} [DecidableEq α] [DecidableEq β]
/-- A list with more states. -/
def addAll (l : List α) (xs : List α) : List α := xs.foldl adds l
theorem addAll_one (l xs : List α) (x : α) : addAll l (xs ++ [x]) = adds (addAll l xs) x := by unfold addAll; rw [List.foldl_append]; rfl
theorem scan_fst (f : Nat → α) (l : List α) : ∀ k, (scan f k l).1 = addAll l ((List.range k).map f)
  | 0 => rfl
  | k + 1 => by
    rw [List.range_succ, List.map_append, List.map_singleton, addAll_one, ← scan_fst f l k]
    rfl
/-- The number of cuts below. -/
def bel (cs : List Int) (n : Nat) : Nat := cs.countP (fun x => decide (x < (n : Int)))
theorem bel_step {n : Nat} : ∀ {cs : List Int}, cs.Pairwise (· < ·) → bel cs (n + 1) = bel cs n ∨ bel cs (n + 1) = bel cs n + 1
  | [], _ => .inl rfl
  | x :: l, h => by
    have h2 := (List.pairwise_cons.1 h)
    unfold bel
    rw [List.countP_cons, List.countP_cons]
    rcases Int.lt_trichotomy x n with hx | hx | hx
    · have := bel_step (n := n) h2.2
      unfold bel at this
      rw [if_pos (by simp; omega), if_pos (by simpa using hx)]
      omega
    · have z1 : l.countP (fun x => decide (x < ((n + 1 : Nat) : Int))) = 0 := List.countP_eq_zero.2 fun y hy => by have := h2.1 y hy; simp; omega
      have z2 : l.countP (fun x => decide (x < (n : Int))) = 0 := List.countP_eq_zero.2 fun y hy => by have := h2.1 y hy; simp; omega
      rw [z1, z2, if_pos (by simp; omega), if_neg (by simp; omega)]
      exact .inr rfl
    · have z1 : l.countP (fun x => decide (x < ((n + 1 : Nat) : Int))) = 0 := List.countP_eq_zero.2 fun y hy => by have := h2.1 y hy; simp; omega
      have z2 : l.countP (fun x => decide (x < (n : Int))) = 0 := List.countP_eq_zero.2 fun y hy => by have := h2.1 y hy; simp; omega
      rw [z1, z2, if_neg (by simp; omega), if_neg (by simp; omega)]
      exact .inl rfl
theorem cls_bel (cs : List Int) (n : Nat) : cls cs n = bel cs (n + 1) - 1 := by
  unfold cls bel
  congr 1
  refine List.countP_congr fun x _ => ?_
  simp only [decide_eq_true_eq]
  omega
/-- To add what comes next byte by byte is to add it class by class. -/
theorem addAll_bel {cs : List Int} (hs : cs.Pairwise (· < ·)) (h0 : (0 : Int) ∈ cs) (hz : ∀ x ∈ cs, 0 ≤ x) (g : Nat → α) (l : List α) : ∀ n, addAll l ((List.range n).map (fun c => g (cls cs (c : Nat)))) = addAll l ((List.range (bel cs n)).map g)
  | 0 => by
    have z : bel cs 0 = 0 := by
      refine List.countP_eq_zero.2 fun y hy => ?_
      simp only [decide_eq_true_eq]
      have := hz y hy
      omega
    rw [z]; rfl
  | n + 1 => by
    rw [List.range_succ, List.map_append, List.map_singleton, addAll_one, addAll_bel hs h0 hz g l n]
    have hc := cls_bel cs n
    have hb : bel cs (n + 1) ≠ 0 := by
      unfold bel
      exact Nat.ne_of_gt (List.countP_pos_iff.2 ⟨0, h0, by simp⟩)
    rcases bel_step (n := n) hs with h | h
    · rw [h]
      have hm : g (cls cs (n : Nat)) ∈ (scan g (bel cs n) l).1 := scan_mem (f := g) (by omega)
      rw [scan_fst] at hm
      unfold adds
      rw [if_pos hm]
    · rw [h, List.range_succ, List.map_append, List.map_singleton, addAll_one]
      rw [show cls cs (n : Nat) = bel cs n by omega]
/-- Finer keys are at least as many; if they are not more, they divide nothing. -/
theorem scan_finer {g : Nat → α} {h : Nat → β} : ∀ {n : Nat}, (∀ s t, s < n → t < n → g s = g t → h s = h t) → (scan h n []).1.length ≤ (scan g n []).1.length ∧ ((scan h n []).1.length = (scan g n []).1.length → ∀ s t, s < n → t < n → h s = h t → g s = g t)
  | 0, _ => ⟨Nat.le_refl _, fun _ s t hs => absurd hs (Nat.not_lt_zero _)⟩
  | n + 1, hf => by
    obtain ⟨h1, h2⟩ := scan_finer (n := n) fun s t hs ht => hf s t (by omega) (by omega)
    have key : ∀ {γ : Type} [DecidableEq γ] (k : Nat → γ) (x : γ), x ∈ (scan k n []).1 ↔ ∃ s, s < n ∧ k s = x := by
      intro γ _ k x
      rw [scan_fst]
      have : ∀ (xs l : List γ), x ∈ addAll l xs ↔ x ∈ l ∨ x ∈ xs := by
        intro xs
        induction xs with
        | nil => intro l; simp [addAll]
        | cons y ys ih =>
          intro l
          have e : addAll l (y :: ys) = addAll (adds l y) ys := rfl
          rw [e, ih]
          unfold adds
          by_cases hy : y ∈ l
          · rw [if_pos hy]
            refine ⟨fun h => h.imp id (fun h => by simp [h]), fun h => ?_⟩
            rcases h with h | h
            · exact .inl h
            · rcases List.mem_cons.1 h with h | h
              · subst h; exact .inl hy
              · exact .inr h
          · rw [if_neg hy]
            rw [List.mem_append, List.mem_singleton, List.mem_cons]
            constructor
            · rintro ((h | h) | h)
              · exact .inl h
              · exact .inr (.inl h)
              · exact .inr (.inr h)
            · rintro (h | h | h)
              · exact .inl (.inl h)
              · exact .inl (.inr h)
              · exact .inr h
      rw [this]
      simp
    have e1 : (scan h (n + 1) []).1 = adds (scan h n []).1 (h n) := rfl
    have e2 : (scan g (n + 1) []).1 = adds (scan g n []).1 (g n) := rfl
    rw [e1, e2]
    unfold adds
    by_cases hg : g n ∈ (scan g n []).1
    · have hh : h n ∈ (scan h n []).1 := by
        obtain ⟨s, hs, he⟩ := (key g _).1 hg
        exact (key h _).2 ⟨s, hs, hf s n (by omega) (by omega) he⟩
      rw [if_pos hg, if_pos hh]
      refine ⟨h1, fun he s t hs ht hst => ?_⟩
      have h3 := h2 he
      obtain ⟨m, hm, hgm⟩ := (key g _).1 hg
      have hhm := hf m n (by omega) (by omega) hgm
      have fix : ∀ s, s < n + 1 → ∃ s', s' < n ∧ g s' = g s ∧ h s' = h s := fun s hs => by
        by_cases hsn : s < n
        · exact ⟨s, hsn, rfl, rfl⟩
        · have : s = n := by omega
          subst this
          exact ⟨m, hm, hgm, hhm⟩
      obtain ⟨s', hs', hsg, hsh⟩ := fix s hs
      obtain ⟨t', ht', htg, hth⟩ := fix t ht
      rw [← hsg, ← htg]
      exact h3 s' t' hs' ht' (by rw [hsh, hth, hst])
    · rw [if_neg hg]
      by_cases hh : h n ∈ (scan h n []).1
      · rw [if_pos hh, List.length_append]
        simp only [List.length_singleton]
        refine ⟨by omega, fun he => by omega⟩
      · rw [if_neg hh, List.length_append, List.length_append, List.length_singleton, List.length_singleton]
        refine ⟨by omega, fun he s t hs ht hst => ?_⟩
        have h3 := h2 (by omega)
        by_cases hsn : s < n
        · by_cases htn : t < n
          · exact h3 s t hsn htn hst
          · have : t = n := by omega
            subst this
            exact absurd ((key h _).2 ⟨s, hsn, hst⟩) hh
        · have : s = n := by omega
          subst this
          by_cases htn : t < s
          · exact absurd ((key h _).2 ⟨t, htn, hst.symm⟩) hh
          · have : t = s := by omega
            rw [this]
end
end Auto
end Go.Proofs.YtjclbjdkkdijbaaGreat
end
section
open Go.RowKit
namespace Go.Proofs.YtjclbjdkkdijbaaGreat
open L
namespace Auto
section
variable {α κ : Type} [DecidableEq κ]
def addK (key : α → κ) (l : List α) (x : α) : List α := if key x ∈ l.map key then l else l ++ [x]
def scanK (key : α → κ) (f : Nat → α) : Nat → List α → List α × List Nat
  | 0, l => (l, [])
  | k + 1, l => (addK key (scanK key f k l).1 (f k), (scanK key f k l).2 ++ [place ((scanK key f k l).1.map key) (key (f k))])
def upToK (key : α → κ) (first : α) (m : Nat) (nx : α → Nat → α) : Nat → List α × List (List Nat)
  | 0 => ([first], [])
  | i + 1 => match (upToK key first m nx i).1[i]? with
    | some s => ((scanK key (nx s) m (upToK key first m nx i).1).1, (upToK key first m nx i).2 ++ [(scanK key (nx s) m (upToK key first m nx i).1).2])
    | none => upToK key first m nx i
variable {key : α → κ} {f : Nat → α} {k : Nat} {l S : List α} {row : List Nat}
theorem addK_nodup (h : (l.map key).Nodup) (x : α) : ((addK key l x).map key).Nodup := by
  unfold addK
  split
  · exact h
  · rename_i hx
    rw [List.map_append, List.map_singleton]
    exact List.nodup_append.2 ⟨h, by simp, fun a ha b hb e => by simp at hb; subst hb; exact hx (e ▸ ha)⟩
theorem scanK_old (h : scanK key f k l = (S, row)) (hm : key (f k) ∈ S.map key) : scanK key f (k + 1) l = (S, row ++ [place (S.map key) (key (f k))]) := by
  show (addK key (scanK key f k l).1 (f k), (scanK key f k l).2 ++ [place ((scanK key f k l).1.map key) (key (f k))]) = _
  rw [h]
  unfold addK
  rw [if_pos hm]
theorem scanK_new (h : scanK key f k l = (S, row)) (hm : key (f k) ∉ S.map key) : scanK key f (k + 1) l = (S ++ [f k], row ++ [S.length]) := by
  show (addK key (scanK key f k l).1 (f k), (scanK key f k l).2 ++ [place ((scanK key f k l).1.map key) (key (f k))]) = _
  rw [h]
  simp only
  unfold addK
  rw [if_neg hm, place_none hm, List.length_map]
theorem upToK_step {first : α} {m : Nat} {nx : α → Nat → α} {i : Nat} {S S' : List α} {T : List (List Nat)} {row : List Nat} {s : α} (h : upToK key first m nx i = (S, T)) (hs : S[i]? = some s) (hr : scanK key (nx s) m S = (S', row)) : upToK key first m nx (i + 1) = (S', T ++ [row]) := by
  rw [upToK, h, hs]
  simp only [hr]
/-- Numbering by keys is numbering of keys, where keys are enough to know what comes next. -/
theorem scanK_keys {P : α → Prop} (hf : ∀ j, j < k → P (f j)) (hl : ∀ x ∈ l, P x) : (∀ x ∈ (scanK key f k l).1, P x) ∧ (scanK key f k l).1.map key = (scan (fun j => key (f j)) k (l.map key)).1 ∧ (scanK key f k l).2 = (scan (fun j => key (f j)) k (l.map key)).2 := by
  induction k with
  | zero => exact ⟨hl, rfl, rfl⟩
  | succ k ih =>
    obtain ⟨h1, h2, h3⟩ := ih fun j hj => hf j (by omega)
    refine ⟨fun x hx => ?_, ?_, ?_⟩
    · have e : (scanK key f (k + 1) l).1 = addK key (scanK key f k l).1 (f k) := rfl
      rw [e] at hx
      unfold addK at hx
      split at hx
      · exact h1 x hx
      · rcases List.mem_append.1 hx with h | h
        · exact h1 x h
        · simp at h; subst h; exact hf k (by omega)
    · show (addK key (scanK key f k l).1 (f k)).map key = adds (scan (fun j => key (f j)) k (l.map key)).1 (key (f k))
      rw [← h2]
      unfold addK adds
      split
      · rfl
      · rw [List.map_append, List.map_singleton]
    · show (scanK key f k l).2 ++ [place ((scanK key f k l).1.map key) (key (f k))] = (scan (fun j => key (f j)) k (l.map key)).2 ++ [place (scan (fun j => key (f j)) k (l.map key)).1 (key (f k))]
      rw [h2, h3]
theorem scan_congr {β : Type} [DecidableEq β] {f g : Nat → β} {l : List β} : ∀ {k : Nat}, (∀ j, j < k → f j = g j) → scan f k l = scan g k l
  | 0, _ => rfl
  | k + 1, h => by
    have ih := scan_congr (l := l) (k := k) fun j hj => h j (by omega)
    show (adds (scan f k l).1 (f k), (scan f k l).2 ++ [place (scan f k l).1 (f k)]) = (adds (scan g k l).1 (g k), (scan g k l).2 ++ [place (scan g k l).1 (g k)])
    rw [ih, h k (by omega)]
theorem upToK_keys {P : α → Prop} {first : α} {m : Nat} {nx : α → Nat → α} {nk : κ → Nat → κ} (h0 : P first) (hn : ∀ x, P x → ∀ j, j < m → P (nx x j) ∧ key (nx x j) = nk (key x) j) : ∀ i, (∀ x ∈ (upToK key first m nx i).1, P x) ∧ (upToK key first m nx i).1.map key = (upTo (key first) m nk i).1 ∧ (upToK key first m nx i).2 = (upTo (key first) m nk i).2
  | 0 => ⟨fun x hx => by simp [upToK] at hx; subst hx; exact h0, rfl, rfl⟩
  | i + 1 => by
    obtain ⟨h1, h2, h3⟩ := upToK_keys h0 hn i
    rw [upToK, upTo, ← h2, List.getElem?_map]
    cases hs : (upToK key first m nx i).1[i]? with
    | none => exact ⟨h1, h2, h3⟩
    | some s =>
      have hPs := h1 s (List.mem_of_getElem? hs)
      obtain ⟨a1, a2, a3⟩ := scanK_keys (key := key) (f := nx s) (k := m) (P := P) (fun j hj => (hn s hPs j hj).1) h1
      have e := scan_congr (l := (upToK key first m nx i).1.map key) (k := m) (f := fun j => key (nx s j)) (g := nk (key s)) fun j hj => (hn s hPs j hj).2
      simp only [Option.map_some]
      rw [← e]
      exact ⟨a1, a2, by rw [a3, h3]⟩
end
end Auto
end Go.Proofs.YtjclbjdkkdijbaaGreat
end
section
open Go.RowKit
namespace Go.Proofs.YtjclbjdkkdijbaaGreat
open L
namespace Auto
/-- What divides states: their blocks, and the blocks of what comes next. -/
def keyB (a : Au) (bl : List Nat) (s : Nat) : List Nat := bl.getD s 0 :: (a.next.getD s []).map fun t => bl.getD t.toNat 0
def stepB (a : Au) (bl : List Nat) : List Nat := (scan (keyB a bl) a.next.length []).2
def cntB (a : Au) (bl : List Nat) : Nat := (scan (keyB a bl) a.next.length []).1.length
/-- The blocks after so many divisions, and how many there were at the last one. -/
def blkS (a : Au) : Nat → List Nat
  | 0 => a.acc.map fun x => if x then 1 else 0
  | j + 1 => stepB a (blkS a j)
def cntS (a : Au) : Nat → Nat
  | 0 => 0
  | j + 1 => cntB a (blkS a j)
section
variable {α : Type} [DecidableEq α]
theorem scan_le (f : Nat → α) : ∀ (k : Nat) (l : List α), (scan f k l).1.length ≤ l.length + k
  | 0, _ => Nat.le_refl _
  | k + 1, l => by
    have ih := scan_le f k l
    have e : (scan f (k + 1) l).1 = adds (scan f k l).1 (f k) := rfl
    rw [e]
    unfold adds
    split
    · omega
    · rw [List.length_append, List.length_singleton]; omega
/-- Equal places are equal keys. -/
theorem scan_eq_iff {f : Nat → α} {k s t : Nat} (hs : s < k) (ht : t < k) : (scan f k []).2.getD s 0 = (scan f k []).2.getD t 0 ↔ f s = f t := by
  have g : ∀ j, j < k → (scan f k []).2.getD j 0 = place (scan f k []).1 (f j) := fun j hj => by
    rw [scan_snd, List.getD_eq_getElem?_getD, List.getElem?_map, List.getElem?_range hj]
    rfl
  rw [g s hs, g t ht]
  constructor
  · intro h
    have at_ : ∀ j, j < k → (scan f k []).1[place (scan f k []).1 (f j)]? = some (f j) := fun j hj => by
      have hp := place_lt.2 (scan_mem (f := f) (l := []) hj)
      rw [List.getElem?_eq_getElem hp, place_get hp]
    have h1 := at_ s hs
    rw [h, at_ t ht] at h1
    exact (Option.some.inj h1).symm
  · intro h; rw [h]
end
theorem stepB_len (a : Au) (bl : List Nat) : (stepB a bl).length = a.next.length := scan_len _ _ _
theorem blkS_len {a : Au} (h : Ok a) : ∀ j, (blkS a j).length = a.next.length
  | 0 => by simp [blkS, h.acc]
  | j + 1 => stepB_len _ _
theorem stepB_lt (a : Au) (bl : List Nat) : ∀ x ∈ stepB a bl, x < a.next.length := fun x hx => by
  unfold stepB at hx
  rw [scan_snd] at hx
  obtain ⟨j, hj, rfl⟩ := List.mem_map.1 hx
  have h1 := place_lt.2 (scan_mem (f := keyB a bl) (l := []) (List.mem_range.1 hj))
  have h2 := scan_le (keyB a bl) a.next.length []
  simp at h2
  omega
theorem blkS_lt {a : Au} (h : Ok a) : ∀ j, ∀ x ∈ blkS a j, x < 256
  | 0, x, hx => by
    obtain ⟨y, _, rfl⟩ := List.mem_map.1 hx
    split <;> omega
  | j + 1, x, hx => by
    have := stepB_lt a _ x hx
    have := h.few
    omega
theorem cntS_le {a : Au} (h : Ok a) : ∀ j, cntS a j ≤ 256
  | 0 => by simp [cntS]
  | j + 1 => by
    have h1 := scan_le (keyB a (blkS a j)) a.next.length []
    have h2 := h.few
    show (scan (keyB a (blkS a j)) a.next.length []).1.length ≤ 256
    simp at h1
    omega
theorem blkS_eq_iff {a : Au} {j s t : Nat} (hs : s < a.next.length) (ht : t < a.next.length) : (blkS a (j + 1)).getD s 0 = (blkS a (j + 1)).getD t 0 ↔ keyB a (blkS a j) s = keyB a (blkS a j) t := scan_eq_iff hs ht
theorem keyB_head {a : Au} {bl : List Nat} {s t : Nat} (h : keyB a bl s = keyB a bl t) : bl.getD s 0 = bl.getD t 0 := by
  unfold keyB at h
  exact (List.cons.inj h).1
/-- The number of blocks does not fall; where it stays, nothing was divided. -/
theorem cntS_mono (a : Au) (j : Nat) : cntS a (j + 1) ≤ cntS a (j + 2) ∧ (cntS a (j + 1) = cntS a (j + 2) → ∀ s t, s < a.next.length → t < a.next.length → keyB a (blkS a j) s = keyB a (blkS a j) t → keyB a (blkS a (j + 1)) s = keyB a (blkS a (j + 1)) t) :=
  scan_finer fun s t hs ht h => (blkS_eq_iff hs ht).1 (keyB_head h)
theorem cntS_pos {a : Au} (h : Ok a) (j : Nat) : 0 < cntS a (j + 1) := by
  show 0 < (scan (keyB a (blkS a j)) a.next.length []).1.length
  have := scan_mem (f := keyB a (blkS a j)) (l := []) h.some_
  exact List.length_pos_of_mem this
theorem cntS_up {a : Au} (h : Ok a) : ∀ j, cntS a j ≤ cntS a (j + 1)
  | 0 => Nat.zero_le _
  | j + 1 => (cntS_mono a j).1
/-- Blocks that are divided no further. -/
structure Stb (a : Au) (bl : List Nat) : Prop where
  len : bl.length = a.next.length
  lt : ∀ x ∈ bl, x < 256
  acc : ∀ s t, s < a.next.length → t < a.next.length → bl.getD s 0 = bl.getD t 0 → a.acc.getD s false = a.acc.getD t false
  next : ∀ s t, s < a.next.length → t < a.next.length → bl.getD s 0 = bl.getD t 0 → ∀ k, k < a.cuts.length → bl.getD (rowA a s k) 0 = bl.getD (rowA a t k) 0
theorem blkS_acc {a : Au} (h : Ok a) : ∀ j, ∀ s t, s < a.next.length → t < a.next.length → (blkS a j).getD s 0 = (blkS a j).getD t 0 → a.acc.getD s false = a.acc.getD t false
  | 0, s, t, hs, ht, he => by
    have hs' : s < a.acc.length := by rw [h.acc]; exact hs
    have ht' : t < a.acc.length := by rw [h.acc]; exact ht
    unfold blkS at he
    simp only [List.getD_eq_getElem?_getD, List.getElem?_map, List.getElem?_eq_getElem hs', List.getElem?_eq_getElem ht', Option.map_some, Option.getD_some] at he ⊢
    generalize a.acc[s] = x at *
    generalize a.acc[t] = y at *
    cases x <;> cases y <;> simp at he ⊢
  | j + 1, s, t, hs, ht, he => blkS_acc h j s t hs ht (keyB_head ((blkS_eq_iff hs ht).1 he))
theorem rowA_lt {a : Au} (h : Ok a) {s k : Nat} (hs : s < a.next.length) (hk : k < a.cuts.length) : rowA a s k < a.next.length := by
  have h1 := h.rows _ (gd_memA (d := []) hs)
  have h2 := h1.2 _ (gd_memA (d := 0) (by omega : k < (a.next.getD s []).length))
  show ((a.next.getD s []).getD k 0).toNat < _
  omega
theorem keyB_next {a : Au} (h : Ok a) {bl : List Nat} {s t : Nat} (hs : s < a.next.length) (ht : t < a.next.length) (he : keyB a bl s = keyB a bl t) : ∀ k, k < a.cuts.length → bl.getD (rowA a s k) 0 = bl.getD (rowA a t k) 0 := fun k hk => by
  have h1 := (List.cons.inj he).2
  have hs1 := (h.rows _ (gd_memA (d := []) hs)).1
  have ht1 := (h.rows _ (gd_memA (d := []) ht)).1
  have h2 := congrArg (fun l => l[k]?) h1
  simp only [List.getElem?_map] at h2
  unfold rowA
  rw [List.getD_eq_getElem?_getD (l := a.next.getD s []), List.getD_eq_getElem?_getD (l := a.next.getD t []), List.getElem?_eq_getElem (by omega), List.getElem?_eq_getElem (by omega)]
  rw [List.getElem?_eq_getElem (by omega), List.getElem?_eq_getElem (by omega)] at h2
  simpa using h2
/-- Where the number of blocks stayed, the blocks are divided no further. -/
theorem blkS_stb {a : Au} (h : Ok a) {j : Nat} (he : cntS a (j + 1) = cntS a j) : Stb a (blkS a (j + 1)) := by
  cases j with
  | zero =>
    have := cntS_pos h 0
    simp only [cntS] at he this
    omega
  | succ j =>
    refine ⟨blkS_len h _, blkS_lt h _, blkS_acc h _, fun s t hs ht hst k hk => ?_⟩
    have h1 := (blkS_eq_iff hs ht).1 hst
    have h2 := keyB_next h hs ht h1 k hk
    have hx := rowA_lt h hs hk
    have hy := rowA_lt h ht hk
    have h3 := (blkS_eq_iff hx hy).1 h2
    exact (blkS_eq_iff hx hy).2 ((cntS_mono a j).2 he.symm _ _ hx hy h3)
/-- States with the same words have the same block. -/
theorem blkS_lang {a : Au} (h : Ok a) : ∀ j, ∀ s t, s < a.next.length → t < a.next.length → (∀ w : List Int, (∀ c ∈ w, 0 ≤ c ∧ c ≤ 255) → a.acc.getD (runA a s w) false = a.acc.getD (runA a t w) false) → (blkS a j).getD s 0 = (blkS a j).getD t 0
  | 0, s, t, hs, ht, hw => by
    have h0 := hw [] (by simp)
    have hs' : s < a.acc.length := by rw [h.acc]; exact hs
    have ht' : t < a.acc.length := by rw [h.acc]; exact ht
    unfold blkS
    change a.acc.getD s false = a.acc.getD t false at h0
    simp only [List.getD_eq_getElem?_getD, List.getElem?_map, List.getElem?_eq_getElem hs', List.getElem?_eq_getElem ht', Option.map_some, Option.getD_some] at h0 ⊢
    rw [h0]
  | j + 1, s, t, hs, ht, hw => by
    refine (blkS_eq_iff hs ht).2 ?_
    have hs1 := (h.rows _ (gd_memA (d := []) hs)).1
    have ht1 := (h.rows _ (gd_memA (d := []) ht)).1
    unfold keyB
    rw [blkS_lang h j s t hs ht hw]
    congr 1
    apply List.ext_getElem (by rw [List.length_map, List.length_map, hs1, ht1])
    intro k p q
    simp only [List.length_map] at p q
    have hk : k < a.cuts.length := by omega
    simp only [List.getElem_map]
    have e1 : ((a.next.getD s [])[k]).toNat = rowA a s k := by unfold rowA; rw [List.getD_eq_getElem?_getD (l := a.next.getD s []), List.getElem?_eq_getElem p]; rfl
    have e2 : ((a.next.getD t [])[k]).toNat = rowA a t k := by unfold rowA; rw [List.getD_eq_getElem?_getD (l := a.next.getD t []), List.getElem?_eq_getElem q]; rfl
    rw [e1, e2]
    have hc : 0 ≤ a.cuts.getD k 0 ∧ a.cuts.getD k 0 ≤ 255 := ⟨h.nonneg _ (gd_memA hk), h.top _ (gd_memA hk)⟩
    have st : ∀ u, stepA a u (a.cuts.getD k 0) = rowA a u k := fun u => by unfold stepA rowA; rw [cls_cut h.inc hk]
    refine blkS_lang h j _ _ (rowA_lt h hs hk) (rowA_lt h ht hk) fun w hw2 => ?_
    have := hw (a.cuts.getD k 0 :: w) (fun c hc2 => by
      rcases List.mem_cons.1 hc2 with h3 | h3
      · subst h3; exact hc
      · exact hw2 c h3)
    rw [runA_cons, runA_cons, st, st] at this
    exact this
end Auto
end Go.Proofs.YtjclbjdkkdijbaaGreat
end
section
open Go.RowKit
namespace Go.Proofs.YtjclbjdkkdijbaaGreat
open L
namespace Auto
/-- Bytes. -/
def Byt (w : List Int) : Prop := ∀ c ∈ w, 0 ≤ c ∧ c ≤ 255
theorem Byt.nil : Byt [] := fun _ h => by cases h
theorem Byt.cons {c : Int} {w : List Int} (hc : 0 ≤ c ∧ c ≤ 255) (hw : Byt w) : Byt (c :: w) := fun d hd => by
  rcases List.mem_cons.1 hd with h | h
  · subst h; exact hc
  · exact hw d h
theorem Byt.app {u w : List Int} (hu : Byt u) (hw : Byt w) : Byt (u ++ w) := fun d hd => (List.mem_append.1 hd).elim (hu d) (hw d)
/-- Two states from which the same strings lead to acceptance. -/
def sameL (a : Au) (s t : Nat) : Prop := ∀ w, Byt w → a.acc.getD (runA a s w) false = a.acc.getD (runA a t w) false
section
variable {a : Au} {s t u : Nat}
theorem sameL.refl (a : Au) (s : Nat) : sameL a s s := fun _ _ => rfl
theorem sameL.symm (h : sameL a s t) : sameL a t s := fun w hw => (h w hw).symm
theorem sameL.trans (h : sameL a s t) (g : sameL a t u) : sameL a s u := fun w hw => (h w hw).trans (g w hw)
theorem sameL.acc (h : sameL a s t) : a.acc.getD s false = a.acc.getD t false := h [] .nil
theorem sameL.step (h : sameL a s t) {c : Int} (hc : 0 ≤ c ∧ c ≤ 255) : sameL a (stepA a s c) (stepA a t c) := fun w hw => h (c :: w) (.cons hc hw)
theorem stepA_cut (h : Ok a) {k : Nat} (hk : k < a.cuts.length) (u : Nat) : stepA a u (a.cuts.getD k 0) = rowA a u k := by unfold stepA rowA; rw [cls_cut h.inc hk]
theorem stepA_cls (a : Au) (u : Nat) (c : Int) : stepA a u c = rowA a u (cls a.cuts c) := rfl
theorem cut_byte (h : Ok a) {k : Nat} (hk : k < a.cuts.length) : 0 ≤ a.cuts.getD k 0 ∧ a.cuts.getD k 0 ≤ 255 := ⟨h.nonneg _ (gd_memA hk), h.top _ (gd_memA hk)⟩
theorem sameL.row (h : Ok a) (hs : sameL a s t) {k : Nat} (hk : k < a.cuts.length) : sameL a (rowA a s k) (rowA a t k) := by
  have := hs.step (cut_byte h hk)
  rwa [stepA_cut h hk, stepA_cut h hk] at this
theorem runA_app (a : Au) (s : Nat) (u w : List Int) : runA a s (u ++ w) = runA a (runA a s u) w := by unfold runA; rw [List.foldl_append]
theorem step_lt (h : Ok a) (hs : s < a.next.length) {c : Int} (hc : 0 ≤ c) : stepA a s c < a.next.length := h.step hs hc
theorem cls_lt (h : Ok a) {c : Int} (hc : 0 ≤ c) : cls a.cuts c < a.cuts.length := (cut_of h.inc h.mem0 hc).1
/-- Blocks that are divided no further keep the strings. -/
theorem Stb.same (h : Ok a) {bl : List Nat} (hb : Stb a bl) : ∀ (w : List Int) (s t : Nat), s < a.next.length → t < a.next.length → bl.getD s 0 = bl.getD t 0 → Byt w → a.acc.getD (runA a s w) false = a.acc.getD (runA a t w) false
  | [], s, t, hs, ht, e, _ => hb.acc s t hs ht e
  | c :: w, s, t, hs, ht, e, hw => by
    have hc := hw c (by simp)
    rw [runA_cons, runA_cons]
    exact Stb.same h hb w _ _ (step_lt h hs hc.1) (step_lt h ht hc.1) (hb.next s t hs ht e _ (cls_lt h hc.1)) fun d hd => hw d (by simp [hd])
end
/-- Blocks as the reference divides them: each state has the least state of its block. -/
def aliB (a : Au) (of : List Nat) (s t : Nat) : Bool := decide (of.getD s 0 = of.getD t 0) && decide (a.acc.getD s false = a.acc.getD t false) && (List.range a.cuts.length).all fun k => decide (of.getD (rowA a s k) 0 = of.getD (rowA a t k) 0)
def leastB (a : Au) (of : List Nat) (s : Nat) : Nat := (List.range a.next.length).findIdx fun t => aliB a of s t
def nowO (a : Au) (of : List Nat) : List Nat := (List.range a.next.length).map (leastB a of)
def ofS (a : Au) : Nat → List Nat
  | 0 => List.replicate a.next.length 0
  | j + 1 => nowO a (ofS a j)
section
variable {a : Au} {of : List Nat} {s t u j : Nat}
theorem ali_iff : aliB a of s t = true ↔ of.getD s 0 = of.getD t 0 ∧ a.acc.getD s false = a.acc.getD t false ∧ ∀ k, k < a.cuts.length → of.getD (rowA a s k) 0 = of.getD (rowA a t k) 0 := by
  unfold aliB
  rw [Bool.and_eq_true, Bool.and_eq_true, decide_eq_true_eq, decide_eq_true_eq, List.all_eq_true, and_assoc]
  simp only [List.mem_range, decide_eq_true_eq]
theorem ali_refl (a : Au) (of : List Nat) (s : Nat) : aliB a of s s = true := ali_iff.2 ⟨rfl, rfl, fun _ _ => rfl⟩
theorem ali_symm (h : aliB a of s t = true) : aliB a of t s = true := by
  obtain ⟨h1, h2, h3⟩ := ali_iff.1 h
  exact ali_iff.2 ⟨h1.symm, h2.symm, fun k hk => (h3 k hk).symm⟩
theorem ali_trans (h : aliB a of s t = true) (g : aliB a of t u = true) : aliB a of s u = true := by
  obtain ⟨h1, h2, h3⟩ := ali_iff.1 h
  obtain ⟨g1, g2, g3⟩ := ali_iff.1 g
  exact ali_iff.2 ⟨h1.trans g1, h2.trans g2, fun k hk => (h3 k hk).trans (g3 k hk)⟩
theorem range_find {p : Nat → Bool} {n s : Nat} (hs : s < n) (hp : p s = true) : (List.range n).findIdx p ≤ s ∧ p ((List.range n).findIdx p) = true ∧ ∀ t, t < (List.range n).findIdx p → p t = false := by
  have hl : (List.range n).findIdx p < (List.range n).length := List.findIdx_lt_length_of_exists ⟨s, List.mem_range.2 hs, hp⟩
  have h1 := List.findIdx_getElem (w := hl)
  rw [List.getElem_range] at h1
  have h3 : ∀ t, t < (List.range n).findIdx p → p t = false := fun t ht => by
    have := List.not_of_lt_findIdx ht
    rwa [List.getElem_range] at this
  refine ⟨?_, h1, h3⟩
  rcases Nat.lt_or_ge s ((List.range n).findIdx p) with h | h
  · have := h3 s h
    rw [hp] at this
    cases this
  · exact h
theorem leastB_spec (hs : s < a.next.length) : leastB a of s ≤ s ∧ aliB a of s (leastB a of s) = true ∧ ∀ t, t < leastB a of s → aliB a of s t = false := range_find hs (ali_refl a of s)
theorem now_at (hs : s < a.next.length) : (nowO a of).getD s 0 = leastB a of s := by
  unfold nowO
  rw [List.getD_eq_getElem?_getD, List.getElem?_map, List.getElem?_range hs]
  rfl
theorem least_eq (hs : s < a.next.length) (ht : t < a.next.length) : leastB a of s = leastB a of t ↔ aliB a of s t = true := by
  constructor
  · intro h
    exact ali_trans (leastB_spec hs).2.1 (h ▸ ali_symm (leastB_spec (of := of) ht).2.1)
  · intro h
    unfold leastB
    congr 1
    funext x
    exact Bool.eq_iff_iff.2 ⟨fun g => ali_trans (ali_symm h) g, fun g => ali_trans h g⟩
theorem ofS_len (a : Au) : ∀ j, (ofS a j).length = a.next.length
  | 0 => by simp [ofS]
  | j + 1 => by simp [ofS, nowO]
/-- What each division keeps: each state has the least state of its block. -/
theorem ofS_least (a : Au) : ∀ j s, s < a.next.length → (ofS a j).getD s 0 ≤ s ∧ (ofS a j).getD ((ofS a j).getD s 0) 0 = (ofS a j).getD s 0 ∧ ∀ t, t < a.next.length → (ofS a j).getD t 0 = (ofS a j).getD s 0 → (ofS a j).getD s 0 ≤ t
  | 0, s, hs => by
    have e : ∀ t, (ofS a 0).getD t 0 = 0 := fun t => by
      unfold ofS
      rw [List.getD_eq_getElem?_getD, List.getElem?_replicate]
      split <;> rfl
    rw [e, e]
    exact ⟨Nat.zero_le _, rfl, fun _ _ _ => Nat.zero_le _⟩
  | j + 1, s, hs => by
    have l1 := leastB_spec (of := ofS a j) hs
    have hl : leastB a (ofS a j) s < a.next.length := by omega
    show (nowO a (ofS a j)).getD s 0 ≤ s ∧ (nowO a (ofS a j)).getD ((nowO a (ofS a j)).getD s 0) 0 = (nowO a (ofS a j)).getD s 0 ∧ _
    rw [now_at hs, now_at hl]
    refine ⟨l1.1, (least_eq hl hs).2 (ali_symm l1.2.1), fun t ht h => ?_⟩
    change (nowO a (ofS a j)).getD t 0 = (nowO a (ofS a j)).getD s 0 at h
    rw [now_at ht, now_at hs] at h
    show (nowO a (ofS a j)).getD s 0 ≤ t
    rw [now_at hs, ← h]
    exact (leastB_spec ht).1
/-- A state that stands for its block keeps standing for one. -/
theorem ofS_fix (hs : s < a.next.length) (h : (ofS a j).getD s 0 = s) : (ofS a (j + 1)).getD s 0 = s := by
  show (nowO a (ofS a j)).getD s 0 = s
  rw [now_at hs]
  have l1 := leastB_spec (of := ofS a j) hs
  have h2 := (ofS_least a j s hs).2.2 _ (by omega) (ali_iff.1 l1.2.1).1.symm
  rw [h] at h2
  omega
/-- How many states stand for their block. -/
def cntO (a : Au) (j : Nat) : Nat := (List.range a.next.length).countP fun s => decide ((ofS a j).getD s 0 = s)
theorem cntO_le (a : Au) (j : Nat) : cntO a j ≤ a.next.length := by
  have := List.countP_le_length (p := fun s => decide ((ofS a j).getD s 0 = s)) (l := List.range a.next.length)
  simpa [cntO] using this
theorem countP_eq {p q : Nat → Bool} : ∀ (l : List Nat), (∀ x ∈ l, p x = true → q x = true) → l.countP p ≤ l.countP q ∧ (l.countP p = l.countP q → ∀ x ∈ l, q x = true → p x = true)
  | [], _ => ⟨Nat.le_refl _, fun _ x hx => by cases hx⟩
  | y :: l, h => by
    obtain ⟨h1, h2⟩ := countP_eq l fun x hx => h x (by simp [hx])
    have hy := h y (by simp)
    rw [List.countP_cons, List.countP_cons]
    by_cases hp : p y = true
    · rw [if_pos hp, if_pos (hy hp)]
      refine ⟨by omega, fun e x hx hq => ?_⟩
      rcases List.mem_cons.1 hx with rfl | hx
      · exact hp
      · exact h2 (by omega) x hx hq
    · rw [if_neg hp]
      by_cases hq : q y = true
      · rw [if_pos hq]
        exact ⟨by omega, fun e => by omega⟩
      · rw [if_neg hq]
        refine ⟨by omega, fun e x hx hqx => ?_⟩
        rcases List.mem_cons.1 hx with rfl | hx
        · exact absurd hqx hq
        · exact h2 (by omega) x hx hqx
/-- The number of blocks does not fall; where it stays, nothing changed. -/
theorem cntO_up (a : Au) (j : Nat) : cntO a j ≤ cntO a (j + 1) ∧ (cntO a j = cntO a (j + 1) → ofS a (j + 1) = ofS a j) := by
  obtain ⟨h1, h2⟩ := countP_eq (p := fun s => decide ((ofS a j).getD s 0 = s)) (q := fun s => decide ((ofS a (j + 1)).getD s 0 = s)) (List.range a.next.length) fun s hs h => by
    simp only [decide_eq_true_eq] at h ⊢
    exact ofS_fix (List.mem_range.1 hs) h
  refine ⟨h1, fun e => ?_⟩
  have h3 := h2 e
  apply List.ext_getElem (by rw [ofS_len, ofS_len])
  intro s p q
  rw [ofS_len] at p
  have e1 : (ofS a (j + 1)).getD s 0 = (ofS a (j + 1))[s] := by rw [List.getD_eq_getElem?_getD, List.getElem?_eq_getElem]; rfl
  have e2 : (ofS a j).getD s 0 = (ofS a j)[s] := by rw [List.getD_eq_getElem?_getD, List.getElem?_eq_getElem]; rfl
  rw [← e1, ← e2]
  have l1 := leastB_spec (of := ofS a j) p
  have e3 : (ofS a (j + 1)).getD s 0 = leastB a (ofS a j) s := now_at p
  have l2 := ofS_least a (j + 1) s p
  rw [e3] at l2 ⊢
  have l3 := h3 (leastB a (ofS a j) s) (List.mem_range.2 (by omega)) (by simpa using l2.2.1)
  simp only [decide_eq_true_eq] at l3
  rw [← l3]
  exact (ali_iff.1 l1.2.1).1.symm
theorem ofS_stays (h : ofS a (j + 1) = ofS a j) : ∀ d, ofS a (j + d) = ofS a j
  | 0 => rfl
  | d + 1 => by
    have ih := ofS_stays h d
    show nowO a (ofS a (j + d)) = _
    rw [ih]
    exact h
theorem cntO_grow (a : Au) : ∀ j, (∃ i, i < j ∧ ofS a (i + 1) = ofS a i) ∨ j ≤ cntO a j
  | 0 => .inr (Nat.zero_le _)
  | j + 1 => by
    rcases cntO_grow a j with ⟨i, h1, h2⟩ | h
    · exact .inl ⟨i, by omega, h2⟩
    · obtain ⟨h1, h2⟩ := cntO_up a j
      by_cases e : cntO a j = cntO a (j + 1)
      · exact .inl ⟨j, by omega, h2 e⟩
      · exact .inr (by omega)
/-- The state that stands for a state's block in the end. -/
def rep (a : Au) (s : Nat) : Nat := (ofS a 257).getD s 0
theorem ofS_end (hf : a.next.length ≤ 256) : ofS a 258 = ofS a 257 := by
  rcases cntO_grow a 257 with ⟨i, h1, h2⟩ | h
  · have e1 := ofS_stays h2 (257 - i)
    have e2 := ofS_stays h2 (258 - i)
    rw [show i + (257 - i) = 257 by omega] at e1
    rw [show i + (258 - i) = 258 by omega] at e2
    rw [e1, e2]
  · have := cntO_le a 257
    omega
/-- Wherever dividing ends, it is the same. -/
theorem rep_at (hf : a.next.length ≤ 256) (h : ofS a (j + 1) = ofS a j) (s : Nat) : (ofS a j).getD s 0 = rep a s := by
  have e1 := ofS_stays h (257 : Nat)
  have e2 := ofS_stays (ofS_end hf) j
  rw [Nat.add_comm] at e2
  unfold rep
  rw [← e1, e2]
theorem fix_ali (h : ofS a (j + 1) = ofS a j) (hs : s < a.next.length) (ht : t < a.next.length) : (ofS a j).getD s 0 = (ofS a j).getD t 0 ↔ aliB a (ofS a j) s t = true := by
  rw [← least_eq hs ht, ← now_at hs, ← now_at ht]
  show _ ↔ (ofS a (j + 1)).getD s 0 = (ofS a (j + 1)).getD t 0
  rw [h]
theorem fix_same (hok : Ok a) (h : ofS a (j + 1) = ofS a j) : ∀ (w : List Int) (s t : Nat), s < a.next.length → t < a.next.length → (ofS a j).getD s 0 = (ofS a j).getD t 0 → Byt w → a.acc.getD (runA a s w) false = a.acc.getD (runA a t w) false
  | [], s, t, hs, ht, e, _ => (ali_iff.1 ((fix_ali h hs ht).1 e)).2.1
  | c :: w, s, t, hs, ht, e, hw => by
    have hc := hw c (by simp)
    rw [runA_cons, runA_cons]
    exact fix_same hok h w _ _ (step_lt hok hs hc.1) (step_lt hok ht hc.1) ((ali_iff.1 ((fix_ali h hs ht).1 e)).2.2 _ (cls_lt hok hc.1)) fun d hd => hw d (by simp [hd])
theorem same_ofS (hok : Ok a) : ∀ j s t, s < a.next.length → t < a.next.length → sameL a s t → (ofS a j).getD s 0 = (ofS a j).getD t 0
  | 0, s, t, hs, ht, _ => by
    unfold ofS
    rw [List.getD_eq_getElem?_getD, List.getD_eq_getElem?_getD, List.getElem?_replicate, List.getElem?_replicate, if_pos hs, if_pos ht]
  | j + 1, s, t, hs, ht, h => by
    show (nowO a (ofS a j)).getD s 0 = (nowO a (ofS a j)).getD t 0
    rw [now_at hs, now_at ht]
    exact (least_eq hs ht).2 (ali_iff.2 ⟨same_ofS hok j s t hs ht h, h.acc, fun k hk => same_ofS hok j _ _ (rowA_lt hok hs hk) (rowA_lt hok ht hk) (h.row hok hk)⟩)
/-- Two states stand in one block exactly if the same strings lead from both to acceptance. -/
theorem rep_eq (hok : Ok a) (hs : s < a.next.length) (ht : t < a.next.length) : rep a s = rep a t ↔ sameL a s t :=
  ⟨fun e w hw => fix_same hok (ofS_end hok.few) w s t hs ht e hw, fun h => same_ofS hok _ s t hs ht h⟩
theorem rep_le (hs : s < a.next.length) : rep a s ≤ s := (ofS_least a 257 s hs).1
theorem rep_lt (hs : s < a.next.length) : rep a s < a.next.length := Nat.lt_of_le_of_lt (rep_le hs) hs
theorem rep_rep (hs : s < a.next.length) : rep a (rep a s) = rep a s := (ofS_least a 257 s hs).2.1
theorem rep_same (hok : Ok a) (hs : s < a.next.length) : sameL a (rep a s) s := (rep_eq hok (rep_lt hs) hs).1 (rep_rep hs)
end
attribute [irreducible] rep
end Auto
end Go.Proofs.YtjclbjdkkdijbaaGreat
end
section
open Go.RowKit
namespace Go.Proofs.YtjclbjdkkdijbaaGreat
open L
namespace Auto
section
variable {α : Type} [DecidableEq α]
theorem scanMem (f : Nat → α) (l : List α) : ∀ (k : Nat) (x : α), x ∈ (scan f k l).1 → x ∈ l ∨ ∃ j, j < k ∧ f j = x
  | 0, x, h => .inl h
  | k + 1, x, h => by
    have e : (scan f (k + 1) l).1 = adds (scan f k l).1 (f k) := rfl
    rw [e] at h
    have old : x ∈ (scan f k l).1 → x ∈ l ∨ ∃ j, j < k + 1 ∧ f j = x := fun h => by
      rcases scanMem f l k x h with h | ⟨j, h1, h2⟩
      · exact .inl h
      · exact .inr ⟨j, by omega, h2⟩
    unfold adds at h
    split at h
    · exact old h
    · rcases List.mem_append.1 h with h | h
      · exact old h
      · simp at h
        exact .inr ⟨k, by omega, h.symm⟩
/-- All states keep what the first one has and each step keeps. -/
theorem upTo_all {P : α → Prop} {first : α} {m : Nat} {nx : α → Nat → α} (h0 : P first) (hn : ∀ x, P x → ∀ j, j < m → P (nx x j)) : ∀ i, ∀ x ∈ (upTo first m nx i).1, P x
  | 0, x, hx => by simp [upTo] at hx; subst hx; exact h0
  | i + 1, x, hx => by
    have ih := upTo_all h0 hn i
    rw [upTo] at hx
    cases hs : (upTo first m nx i).1[i]? with
    | none => rw [hs] at hx; exact ih x hx
    | some s =>
      rw [hs] at hx
      rcases scanMem _ _ _ _ hx with h | ⟨j, h1, rfl⟩
      · exact ih x h
      · exact hn s (ih s (List.mem_of_getElem? hs)) j h1
theorem upTo_head (first : α) (m : Nat) (nx : α → Nat → α) (i : Nat) : (upTo first m nx i).1[0]? = some first := pre_get (upTo_mono first m nx (Nat.zero_le i)) rfl
end
def nxM (a : Au) (x k : Nat) : Nat := rep a (rowA a x k)
def nxY (a : Au) (x c : Nat) : Nat := rep a (stepA a x c)
/-- The states that stand for blocks, in the order in which they are reached. -/
def repU (a : Au) (i : Nat) : List Nat × List (List Nat) := upTo (rep a 0) a.cuts.length (nxM a) i
section
variable {a b : Au} {s x k : Nat} {c : Int}
/-- Byte by byte the same states are reached in the same order. -/
theorem bytes_list (h : Ok a) : ∀ i, (upTo (rep a 0) 256 (nxY a) i).1 = (repU a i).1
  | 0 => rfl
  | i + 1 => by
    have ih := bytes_list h i
    unfold repU at *
    rw [upTo, upTo, ih]
    cases hs : (upTo (rep a 0) a.cuts.length (nxM a) i).1[i]? with
    | none => exact ih
    | some s =>
      simp only
      rw [scan_fst, scan_fst]
      have h1 := addAll_bel h.inc h.mem0 h.nonneg (nxM a s) (upTo (rep a 0) a.cuts.length (nxM a) i).1 256
      have h2 : bel a.cuts 256 = a.cuts.length := List.countP_eq_length.2 fun x hx => by
        have := h.top x hx
        simp only [decide_eq_true_eq]
        omega
      rw [h2] at h1
      exact h1
theorem repU_P (h : Ok a) (i : Nat) : ∀ x ∈ (repU a i).1, x < a.next.length ∧ rep a x = x :=
  upTo_all (P := fun x => x < a.next.length ∧ rep a x = x) ⟨rep_lt h.some_, rep_rep h.some_⟩ (fun x hx j hj => ⟨rep_lt (rowA_lt h hx.1 hj), rep_rep (rowA_lt h hx.1 hj)⟩) i
theorem repU_len (h : Ok a) (i : Nat) : (repU a i).1.length ≤ a.next.length := nodup_lt _ _ (upTo_nodup _ _ _ i) fun x hx => (repU_P h i x hx).1
theorem repU_tab (h : Ok a) : (repU a 256).2 = (repU a 256).1.map (fun x => (List.range a.cuts.length).map fun j => place (repU a 256).1 (nxM a x j)) ∧ ∀ x ∈ (repU a 256).1, ∀ j, j < a.cuts.length → nxM a x j ∈ (repU a 256).1 := by
  have h1 := upTo_tab (rep a 0) a.cuts.length (nxM a) 256
  have h2 := repU_len h 256
  have h3 := h.few
  unfold repU at *
  rw [List.take_of_length_le (by omega)] at h1
  exact h1
theorem repU_head (a : Au) (i : Nat) : (repU a i).1[0]? = some (rep a 0) := upTo_head _ _ _ _
theorem repU_stays (a : Au) {i : Nat} (h : (repU a i).1.length ≤ i) (h2 : i ≤ 256) : repU a 256 = repU a i := by
  have := upTo_done (rep a 0) a.cuts.length (nxM a) (i := i) h (256 - i)
  rw [show i + (256 - i) = 256 by omega] at this
  exact this
theorem repU_def (a : Au) (i : Nat) : repU a i = upTo (rep a 0) a.cuts.length (nxM a) i := rfl
attribute [irreducible] repU
/-- The numbered states as an automaton. -/
def preA (a : Au) : Au := ⟨a.cuts, (repU a 256).2.map (fun r => r.map Int.ofNat), (repU a 256).1.map fun s => a.acc.getD s false⟩
theorem pre_next (h : Ok a) : (preA a).next = (repU a 256).1.map fun x => (List.range a.cuts.length).map fun j => ((place (repU a 256).1 (nxM a x j) : Nat) : Int) := by
  unfold preA
  simp only
  rw [(repU_tab h).1, List.map_map]
  refine List.map_congr_left fun x _ => ?_
  simp only [Function.comp_apply, List.map_map]
  rfl
theorem pre_len (h : Ok a) : (preA a).next.length = (repU a 256).1.length := by rw [pre_next h, List.length_map]
theorem pre_row (h : Ok a) (hs : (repU a 256).1[s]? = some x) (hk : k < a.cuts.length) : rowA (preA a) s k = place (repU a 256).1 (nxM a x k) := by
  unfold rowA
  rw [pre_next h, List.getD_eq_getElem?_getD, List.getD_eq_getElem?_getD, List.getElem?_map, hs]
  simp only [Option.map_some, Option.getD_some, List.getElem?_map]
  rw [List.getElem?_range hk]
  simp
theorem pre_step (h : Ok a) (hs : (repU a 256).1[s]? = some x) (hc : 0 ≤ c) : stepA (preA a) s c = place (repU a 256).1 (rep a (stepA a x c)) := pre_row h hs (cls_lt h hc)
theorem step_mem (h : Ok a) (hx : x ∈ (repU a 256).1) (hc : 0 ≤ c) : rep a (stepA a x c) ∈ (repU a 256).1 := (repU_tab h).2 x hx _ (cls_lt h hc)
theorem pre_ok (h : Ok a) : Ok (preA a) := by
  have hl := repU_len h 256
  have hf := h.few
  refine ⟨by rw [pre_len h]; omega, ?_, by rw [pre_len h]; simp [preA], h.zero, h.inc, h.top, fun l hl => ?_⟩
  · rw [pre_len h]
    exact (List.getElem?_eq_some_iff.1 (repU_head a 256)).1
  · rw [pre_next h] at hl
    obtain ⟨x, hx, rfl⟩ := List.mem_map.1 hl
    refine ⟨by simp [preA], fun s hs => ?_⟩
    obtain ⟨j, hj, rfl⟩ := List.mem_map.1 hs
    have := place_lt.2 ((repU_tab h).2 x hx j (List.mem_range.1 hj))
    rw [pre_len h]
    omega
/-- Does a class differ from the one before it? -/
def begK (T : List (List Int)) (k : Nat) : Bool := decide (k = 0) || T.any fun r => decide (r.getD k 0 ≠ r.getD (k - 1) 0)
def keptK (b : Au) : List Nat := (List.range b.cuts.length).filter (begK b.next)
/-- An automaton without the cuts at which nothing begins. -/
def mrgA (b : Au) : Au := ⟨(keptK b).map fun k => b.cuts.getD k 0, b.next.map fun r => (keptK b).map fun k => r.getD k 0, b.acc⟩
theorem kept_iff : k ∈ keptK b ↔ k < b.cuts.length ∧ begK b.next k = true := by unfold keptK; rw [List.mem_filter, List.mem_range]
theorem mrg_cut {y : Int} : y ∈ (mrgA b).cuts ↔ ∃ k, k < b.cuts.length ∧ begK b.next k = true ∧ b.cuts.getD k 0 = y := by
  unfold mrgA
  rw [List.mem_map]
  simp only [kept_iff, and_assoc]
theorem cuts_lt (h : Ok b) {i j : Nat} (hij : i < j) (hj : j < b.cuts.length) : b.cuts.getD i 0 < b.cuts.getD j 0 := by
  rw [List.getD_eq_getElem?_getD, List.getD_eq_getElem?_getD, List.getElem?_eq_getElem (by omega), List.getElem?_eq_getElem hj]
  exact List.pairwise_iff_getElem.1 h.inc i j _ _ hij
theorem kept_inc (b : Au) : (keptK b).Pairwise (· < ·) := List.Pairwise.filter _ List.pairwise_lt_range
theorem mrg_inc (h : Ok b) : (mrgA b).cuts.Pairwise (· < ·) := by
  unfold mrgA
  rw [List.pairwise_map]
  exact (kept_inc b).imp_of_mem fun _ hj hij => cuts_lt h hij (kept_iff.1 hj).1
theorem cut0 (h : Ok b) : 0 < b.cuts.length ∧ b.cuts.getD 0 0 = 0 := by
  have h0 := h.zero
  cases hc : b.cuts with
  | nil => rw [hc] at h0; simp at h0
  | cons y l => rw [hc] at h0; simpa using h0
theorem mrg_mem0 (h : Ok b) : (0 : Int) ∈ (mrgA b).cuts := mrg_cut.2 ⟨0, (cut0 h).1, rfl, (cut0 h).2⟩
theorem inc_first {l : List Int} (h : l.Pairwise (· < ·)) (h0 : (0 : Int) ∈ l) (hz : ∀ y ∈ l, 0 ≤ y) : l.getD 0 1 = 0 := by
  cases l with
  | nil => cases h0
  | cons y l =>
    rcases List.mem_cons.1 h0 with e | e
    · simp [← e]
    · have := (List.pairwise_cons.1 h).1 0 e
      have := hz y (by simp)
      omega
theorem mrg_ok (h : Ok b) : Ok (mrgA b) := by
  refine ⟨by simpa [mrgA] using h.few, by simpa [mrgA] using h.some_, by simpa [mrgA] using h.acc, ?_, mrg_inc h, fun y hy => ?_, fun l hl => ?_⟩
  · refine inc_first (mrg_inc h) (mrg_mem0 h) fun y hy => ?_
    obtain ⟨k, h1, _, rfl⟩ := mrg_cut.1 hy
    exact (cut_byte h h1).1
  · obtain ⟨k, h1, _, rfl⟩ := mrg_cut.1 hy
    exact (cut_byte h h1).2
  · unfold mrgA at hl
    obtain ⟨r, hr, rfl⟩ := List.mem_map.1 hl
    refine ⟨by simp [mrgA], fun s hs => ?_⟩
    obtain ⟨k, hk, rfl⟩ := List.mem_map.1 hs
    have h1 := h.rows r hr
    have h2 := h1.2 _ (gd_memA (d := 0) (by rw [h1.1]; exact (kept_iff.1 hk).1))
    simpa [mrgA] using h2
theorem begK_false {T : List (List Int)} {k : Nat} (h : begK T k = false) : k ≠ 0 ∧ ∀ r ∈ T, r.getD k 0 = r.getD (k - 1) 0 := by
  unfold begK at h
  rw [Bool.or_eq_false_iff, decide_eq_false_iff_not, List.any_eq_false] at h
  refine ⟨h.1, fun r hr => ?_⟩
  have := h.2 r hr
  simpa using this
/-- Merging keeps each step. -/
theorem mrg_step (h : Ok b) (hs : s < b.next.length) (hc : 0 ≤ c) : stepA (mrgA b) s c = stepA b s c := by
  obtain ⟨hlt, h1, h2⟩ := cut_of (mrg_inc h) (mrg_mem0 h) hc
  obtain ⟨hK, g1, g2⟩ := cut_of h.inc h.mem0 hc
  have hlt2 : cls (mrgA b).cuts c < (keptK b).length := by
    have e : (mrgA b).cuts.length = (keptK b).length := by simp [mrgA]
    omega
  have hcut : (mrgA b).cuts[cls (mrgA b).cuts c] = b.cuts.getD (keptK b)[cls (mrgA b).cuts c] 0 := by simp [mrgA]
  have hkm := kept_iff.1 (List.getElem_mem hlt2)
  have hrow : ((mrgA b).next.getD s []).getD (cls (mrgA b).cuts c) 0 = (b.next.getD s []).getD (keptK b)[cls (mrgA b).cuts c] 0 := by
    have e : (mrgA b).next = b.next.map fun r => (keptK b).map fun k => r.getD k 0 := rfl
    rw [e, List.getD_eq_getElem?_getD (l := b.next.map _), List.getElem?_map, List.getElem?_eq_getElem hs, List.getD_eq_getElem?_getD (l := b.next), List.getElem?_eq_getElem hs]
    simp only [Option.map_some, Option.getD_some]
    rw [List.getD_eq_getElem?_getD, List.getElem?_map, List.getElem?_eq_getElem hlt2]
    rfl
  rw [hcut] at h1 h2
  have hst : stepA (mrgA b) s c = (((mrgA b).next.getD s []).getD (cls (mrgA b).cuts c) 0).toNat := rfl
  rw [hst, hrow]
  generalize (keptK b)[cls (mrgA b).cuts c] = k at *
  have hgK : b.cuts[cls b.cuts c] = b.cuts.getD (cls b.cuts c) 0 := by rw [List.getD_eq_getElem?_getD, List.getElem?_eq_getElem hK]; rfl
  rw [hgK] at g1 g2
  have hrn : b.next.getD s [] ∈ b.next := gd_memA hs
  show _ = ((b.next.getD s []).getD (cls b.cuts c) 0).toNat
  generalize cls b.cuts c = K at *
  generalize b.next.getD s [] = r at *
  have hkK : k ≤ K := by
    rcases Nat.lt_or_ge K k with h3 | h3
    · have h4 := cuts_lt h h3 hkm.1
      have h5 := g2 _ (gd_memA (d := 0) hkm.1) h1
      omega
    · exact h3
  have hd : ∀ d, k + d ≤ K → r.getD (k + d) 0 = r.getD k 0 := by
    intro d
    induction d with
    | zero => intro _; rfl
    | succ d ih =>
      intro hd
      have hlen : k + (d + 1) < b.cuts.length := by omega
      have hb : begK b.next (k + (d + 1)) = false := by
        rw [← Bool.not_eq_true]
        intro ht
        have h3 : b.cuts.getD (k + (d + 1)) 0 ≤ c := by
          rcases Nat.lt_or_ge (k + (d + 1)) K with h4 | h4
          · have := cuts_lt h h4 hK
            omega
          · have : k + (d + 1) = K := by omega
            rw [this]; exact g1
        have h5 := h2 _ (mrg_cut.2 ⟨_, hlen, ht, rfl⟩) h3
        have h6 := cuts_lt h (show k < k + (d + 1) by omega) hlen
        omega
      have := (begK_false hb).2 r hrn
      rw [this]
      exact ih (by omega)
  have := hd (K - k) (by omega)
  rw [show k + (K - k) = K by omega] at this
  rw [this]
theorem mrg_len (b : Au) : (mrgA b).next.length = b.next.length := by simp [mrgA]
theorem mrg_run (h : Ok b) : ∀ (w : List Int) (s : Nat), s < b.next.length → Byt w → runA (mrgA b) s w = runA b s w
  | [], _, _, _ => rfl
  | c :: w, s, hs, hw => by
    have hc := hw c (by simp)
    rw [runA_cons, runA_cons, mrg_step h hs hc.1]
    exact mrg_run h w _ (step_lt h hs hc.1) fun d hd => hw d (by simp [hd])
theorem cls_before (h : Ok b) (hk : k + 1 < b.cuts.length) : cls b.cuts (b.cuts.getD (k + 1) 0 - 1) = k := by
  have e : b.cuts.countP (fun y => decide (y ≤ b.cuts.getD (k + 1) 0 - 1)) = k + 1 := by
    refine countP_take h.inc (by omega) (fun i h1 h2 => ?_) fun h2 => ?_
    · have h3 := cuts_lt h h1 hk
      rw [List.getD_eq_getElem?_getD, List.getElem?_eq_getElem h2] at h3
      simp only [Option.getD_some] at h3
      omega
    · rw [List.getD_eq_getElem?_getD, List.getElem?_eq_getElem h2]
      simp only [Option.getD_some]
      omega
  unfold cls
  rw [e]
  rfl
/-- The kept cuts are the bytes at which a step changes. -/
theorem mrg_cut_byte (h : Ok b) : c ∈ (mrgA b).cuts ↔ (0 ≤ c ∧ c ≤ 255) ∧ (c = 0 ∨ ∃ s, s < b.next.length ∧ stepA b s c ≠ stepA b s (c - 1)) := by
  rw [mrg_cut]
  constructor
  · rintro ⟨k, hk, hb, rfl⟩
    refine ⟨cut_byte h hk, ?_⟩
    cases k with
    | zero => exact .inl (cut0 h).2
    | succ k =>
      right
      unfold begK at hb
      rw [Bool.or_eq_true, decide_eq_true_eq, List.any_eq_true] at hb
      rcases hb with hb | ⟨r, hr, hd⟩
      · cases hb
      · obtain ⟨s, hs, rfl⟩ := List.getElem_of_mem hr
        simp only [Nat.add_sub_cancel, decide_eq_true_eq] at hd
        refine ⟨s, hs, fun e => hd ?_⟩
        rw [stepA_cut h hk, stepA_cls, cls_before h hk] at e
        unfold rowA at e
        rw [List.getD_eq_getElem?_getD (l := b.next), List.getElem?_eq_getElem hs] at e
        simp only [Option.getD_some] at e
        have hrow := h.rows _ hr
        have p1 := hrow.2 _ (gd_memA (d := 0) (by omega : k + 1 < b.next[s].length))
        have p2 := hrow.2 _ (gd_memA (d := 0) (by omega : k < b.next[s].length))
        omega
  · rintro ⟨hc, hd⟩
    rcases hd with rfl | ⟨s, hs, hne⟩
    · exact ⟨0, (cut0 h).1, rfl, (cut0 h).2⟩
    · have hmem : c ∈ b.cuts := by
        apply Classical.byContradiction
        intro hn
        apply hne
        unfold stepA cls
        have e : b.cuts.countP (fun y => decide (y ≤ c)) = b.cuts.countP (fun y => decide (y ≤ c - 1)) := List.countP_congr fun y hy => by
          have : y ≠ c := fun e => hn (e ▸ hy)
          simp only [decide_eq_true_eq]
          omega
        rw [e]
      obtain ⟨k, hk, rfl⟩ := List.getElem_of_mem hmem
      have hg : b.cuts.getD k 0 = b.cuts[k] := by rw [List.getD_eq_getElem?_getD, List.getElem?_eq_getElem hk]; rfl
      refine ⟨k, hk, ?_, hg⟩
      cases k with
      | zero => rfl
      | succ k =>
        rw [← hg, stepA_cut h hk, stepA_cls, cls_before h hk] at hne
        unfold begK
        rw [Bool.or_eq_true, List.any_eq_true]
        refine .inr ⟨b.next[s], List.getElem_mem hs, ?_⟩
        simp only [Nat.add_sub_cancel, decide_eq_true_eq]
        intro e
        apply hne
        unfold rowA
        rw [List.getD_eq_getElem?_getD (l := b.next), List.getElem?_eq_getElem hs]
        simp only [Option.getD_some]
        rw [e]
theorem mrg_next (h : Ok b) : (mrgA b).next = (List.range b.next.length).map fun s => (mrgA b).cuts.map fun c => ((stepA b s c : Nat) : Int) := by
  apply List.ext_getElem (by simp [mrgA])
  intro s p q
  have hs : s < b.next.length := by simpa [mrgA] using p
  simp only [List.getElem_map, List.getElem_range]
  have e1 : (mrgA b).next[s] = (keptK b).map fun k => b.next[s].getD k 0 := by simp [mrgA]
  have e2 : (mrgA b).cuts = (keptK b).map fun k => b.cuts.getD k 0 := rfl
  rw [e1, e2, List.map_map]
  refine List.map_congr_left fun k hk => ?_
  have hk2 := (kept_iff.1 hk).1
  simp only [Function.comp_apply]
  rw [stepA_cut h hk2]
  unfold rowA
  rw [List.getD_eq_getElem?_getD (l := b.next), List.getElem?_eq_getElem hs]
  simp only [Option.getD_some]
  have hrow := h.rows _ (List.getElem_mem hs)
  have p1 := hrow.2 _ (gd_memA (d := 0) (by omega : k < b.next[s].length))
  omega
/-- Two automata with the same steps are merged to the same one. -/
theorem mrg_ext {b' : Au} (h : Ok b) (h' : Ok b') (hl : b.next.length = b'.next.length) (ha : b.acc = b'.acc) (hs : ∀ s, s < b.next.length → ∀ c, 0 ≤ c → c ≤ 255 → stepA b s c = stepA b' s c) : mrgA b = mrgA b' := by
  have hcut : (mrgA b).cuts = (mrgA b').cuts := by
    refine inc_unique (mrg_inc h) (mrg_inc h') fun c => ?_
    rw [mrg_cut_byte h, mrg_cut_byte h', ← hl]
    refine and_congr_right fun hc => ?_
    by_cases h0 : c = 0
    · simp [h0]
    refine or_congr Iff.rfl <| exists_congr fun s => and_congr_right fun hs2 => ?_
    rw [hs s hs2 c hc.1 hc.2, hs s hs2 (c - 1) (by omega) (by omega)]
  have hnext : (mrgA b).next = (mrgA b').next := by
    rw [mrg_next h, mrg_next h', ← hl, ← hcut]
    refine List.map_congr_left fun s hs2 => List.map_congr_left fun c hc => ?_
    have := ((mrg_cut_byte h).1 hc).1
    rw [hs s (List.mem_range.1 hs2) c this.1 this.2]
  have hacc : (mrgA b).acc = (mrgA b').acc := ha
  cases hb : mrgA b with
  | mk x1 x2 x3 =>
    cases hb' : mrgA b' with
    | mk y1 y2 y3 =>
      rw [hb, hb'] at hcut hnext hacc
      simp only at hcut hnext hacc
      rw [hcut, hnext, hacc]
/-- The least automaton. -/
def minA (a : Au) : Au := mrgA (preA a)
theorem min_ok (h : Ok a) : Ok (minA a) := mrg_ok (pre_ok h)
theorem min_len (h : Ok a) : (minA a).next.length ≤ a.next.length := by
  unfold minA
  rw [mrg_len, pre_len h]
  exact repU_len h 256
theorem pre_acc {y : Nat} (hs : (repU a 256).1[s]? = some y) : (preA a).acc.getD s false = a.acc.getD y false := by
  unfold preA
  rw [List.getD_eq_getElem?_getD, List.getElem?_map, hs]
  rfl
theorem place_at {S : List Nat} (h : x ∈ S) : S[place S x]? = some x := by
  have h1 := place_lt.2 h
  rw [List.getElem?_eq_getElem h1, place_get h1]
theorem pre_run (h : Ok a) : ∀ (w : List Int) (s x t : Nat), (repU a 256).1[s]? = some x → t < a.next.length → sameL a x t → Byt w → ∃ y, (repU a 256).1[runA (preA a) s w]? = some y ∧ sameL a y (runA a t w)
  | [], s, x, t, hs, ht, hx, _ => ⟨x, hs, hx⟩
  | c :: w, s, x, t, hs, ht, hx, hw => by
    have hc := hw c (by simp)
    have hxm := List.mem_of_getElem? hs
    have hxl := (repU_P h 256 x hxm).1
    rw [runA_cons, runA_cons, pre_step h hs hc.1]
    refine pre_run h w _ _ _ (place_at (step_mem h hxm hc.1)) (step_lt h ht hc.1) ?_ fun d hd => hw d (by simp [hd])
    exact (rep_same h (step_lt h hxl hc.1)).trans (hx.step hc)
/-- The least automaton accepts the same strings. -/
theorem min_lang (h : Ok a) {w : List Int} (hw : Byt w) : (minA a).acc.getD (runA (minA a) 0 w) false = a.acc.getD (runA a 0 w) false := by
  have hp := pre_ok h
  have e : runA (minA a) 0 w = runA (preA a) 0 w := mrg_run hp w 0 hp.some_ hw
  rw [e]
  obtain ⟨y, h1, h2⟩ := pre_run h w 0 (rep a 0) 0 (repU_head a 256) h.some_ (rep_same h h.some_) hw
  have e2 : (minA a).acc = (preA a).acc := rfl
  rw [e2, pre_acc h1]
  exact h2.acc
/-- Automata that accept the same strings have the same least one. -/
theorem min_canon (h : Ok a) (h' : Ok b) (hl : ∀ w, Byt w → a.acc.getD (runA a 0 w) false = b.acc.getD (runA b 0 w) false) : minA a = minA b := by
  have hrun : ∀ {a : Au}, Ok a → ∀ {u}, Byt u → runA a 0 u < a.next.length := fun h u hu => h.run u h.some_ fun c hc => (hu c hc).1
  have hR : ∀ x y x' y' : Nat, (∃ u, Byt u ∧ x = rep a (runA a 0 u) ∧ y = rep b (runA b 0 u)) → (∃ u, Byt u ∧ x' = rep a (runA a 0 u) ∧ y' = rep b (runA b 0 u)) → (x = x' ↔ y = y') := by
    rintro x y x' y' ⟨u, hu, rfl, rfl⟩ ⟨v, hv, rfl, rfl⟩
    rw [rep_eq h (hrun h hu) (hrun h hv), rep_eq h' (hrun h' hu) (hrun h' hv)]
    refine forall_congr' fun w => forall_congr' fun hw => ?_
    rw [← runA_app, ← runA_app, ← runA_app, ← runA_app, hl _ (hu.app hw), hl _ (hv.app hw)]
  have hst : ∀ x y : Nat, (∃ u, Byt u ∧ x = rep a (runA a 0 u) ∧ y = rep b (runA b 0 u)) → ∀ c : Int, 0 ≤ c → c ≤ 255 → ∃ u, Byt u ∧ rep a (stepA a x c) = rep a (runA a 0 u) ∧ rep b (stepA b y c) = rep b (runA b 0 u) := by
    rintro x y ⟨u, hu, rfl, rfl⟩ c h0 h1
    refine ⟨u ++ [c], hu.app (.cons ⟨h0, h1⟩ .nil), ?_, ?_⟩
    · rw [runA_snoc]
      exact (rep_eq h (step_lt h (rep_lt (hrun h hu)) h0) (step_lt h (hrun h hu) h0)).2 ((rep_same h (hrun h hu)).step ⟨h0, h1⟩)
    · rw [runA_snoc]
      exact (rep_eq h' (step_lt h' (rep_lt (hrun h' hu)) h0) (step_lt h' (hrun h' hu) h0)).2 ((rep_same h' (hrun h' hu)).step ⟨h0, h1⟩)
  have hRl := (Rl.upTo (R := fun x y : Nat => ∃ u, Byt u ∧ x = rep a (runA a 0 u) ∧ y = rep b (runA b 0 u)) (m := 256) (first := rep a 0) (first' := rep b 0) (nx := nxY a) (nx' := nxY b) ⟨[], .nil, rfl, rfl⟩ hR (fun x y hxy j hj => hst x y hxy j (by omega) (by omega)) 256).1
  rw [bytes_list h, bytes_list h'] at hRl
  have get : ∀ s, s < (repU a 256).1.length → ∃ x y, (repU a 256).1[s]? = some x ∧ (repU b 256).1[s]? = some y ∧ ∃ u, Byt u ∧ x = rep a (runA a 0 u) ∧ y = rep b (runA b 0 u) := fun s hs => by
    have hs' : s < (repU b 256).1.length := by rw [← hRl.1]; exact hs
    exact ⟨_, _, List.getElem?_eq_getElem hs, List.getElem?_eq_getElem hs', hRl.2 s _ _ (List.getElem?_eq_getElem hs) (List.getElem?_eq_getElem hs')⟩
  refine mrg_ext (pre_ok h) (pre_ok h') (by rw [pre_len h, pre_len h', hRl.1]) ?_ fun s hs c h0 h1 => ?_
  · apply List.ext_getElem (by simp [preA, hRl.1])
    intro s p q
    have hs : s < (repU a 256).1.length := by simpa [preA] using p
    obtain ⟨x, y, hx, hy, u, hu, rfl, rfl⟩ := get s hs
    have e1 := pre_acc (a := a) hx
    have e2 := pre_acc (a := b) hy
    rw [List.getD_eq_getElem?_getD, List.getElem?_eq_getElem p] at e1
    rw [List.getD_eq_getElem?_getD, List.getElem?_eq_getElem q] at e2
    simp only [Option.getD_some] at e1 e2
    rw [e1, e2, (rep_same h (hrun h hu)).acc, (rep_same h' (hrun h' hu)).acc]
    exact hl u hu
  · rw [pre_len h] at hs
    obtain ⟨x, y, hx, hy, hxy⟩ := get s hs
    rw [pre_step h hx h0, pre_step h' hy h0]
    exact hRl.place hR (hst x y hxy c h0 h1)
/-- The least automaton of a least one is itself. -/
theorem min_min (h : Ok a) : minA (minA a) = minA a := min_canon (min_ok h) h fun _ hw => min_lang h hw
/-- What the program numbers by its blocks. -/
theorem min_prog (h : Ok a) {bl : List Nat} (hb : Stb a bl) (hl : ∀ s t, s < a.next.length → t < a.next.length → sameL a s t → bl.getD s 0 = bl.getD t 0) {S : List Nat} {T : List (List Nat)} (hu : upToK (fun s => bl.getD s 0) 0 a.cuts.length (rowA a) S.length = (S, T)) : preA a = ⟨a.cuts, T.map (fun r => r.map Int.ofNat), S.map fun s => a.acc.getD s false⟩ := by
  have hpl : ∀ {x}, x < a.next.length → place bl (bl.getD x 0) < a.next.length ∧ bl.getD x 0 = bl.getD (place bl (bl.getD x 0)) 0 := fun {x} hx => by
    have hm : bl.getD x 0 ∈ bl := gd_memA (by rw [hb.len]; exact hx)
    have hp := place_lt.2 hm
    refine ⟨by rw [← hb.len]; exact hp, ?_⟩
    have h3 := place_at hm
    rw [List.getD_eq_getElem?_getD (i := place bl (bl.getD x 0)), h3]
    rfl
  obtain ⟨k1, k2, k3⟩ := upToK_keys (P := fun x => x < a.next.length) (key := fun s => bl.getD s 0) (first := 0) (m := a.cuts.length) (nx := rowA a) (nk := fun q j => bl.getD (rowA a (place bl q) j) 0) h.some_ (fun x hx j hj => ⟨rowA_lt h hx hj, hb.next x _ hx (hpl hx).1 (hpl hx).2 j hj⟩) S.length
  obtain ⟨r1, r2⟩ := Rl.upTo (R := fun q y : Nat => ∃ s, s < a.next.length ∧ q = bl.getD s 0 ∧ y = rep a s) (m := a.cuts.length) (first := bl.getD 0 0) (first' := rep a 0) (nx := fun q j => bl.getD (rowA a (place bl q) j) 0) (nx' := nxM a) ⟨0, h.some_, rfl, rfl⟩ (by
    rintro x y x' y' ⟨s, hs, rfl, rfl⟩ ⟨t, ht, rfl, rfl⟩
    rw [rep_eq h hs ht]
    exact ⟨fun e w hw => Stb.same h hb w s t hs ht e hw, hl s t hs ht⟩) (by
    rintro x y ⟨s, hs, rfl, rfl⟩ j hj
    refine ⟨rowA a s j, rowA_lt h hs hj, (hb.next s _ hs (hpl hs).1 (hpl hs).2 j hj).symm, ?_⟩
    unfold nxM
    exact (rep_eq h (rowA_lt h (rep_lt hs) hj) (rowA_lt h hs hj)).2 ((rep_same h hs).row h hj)) S.length
  rw [hu] at k1 k2 k3
  simp only at k1 k2 k3
  rw [← repU_def] at r1 r2
  rw [← k2] at r1
  rw [← k3] at r2
  have hlen : (repU a S.length).1.length = S.length := by rw [← r1.1, List.length_map]
  have h256 : S.length ≤ 256 := by
    have := repU_len h S.length
    have := h.few
    omega
  have he : repU a 256 = repU a S.length := repU_stays a (by omega) h256
  unfold preA
  rw [he, ← r2]
  congr 1
  apply List.ext_getElem (by simp [hlen])
  intro i p q
  simp only [List.length_map] at p q
  simp only [List.getElem_map]
  obtain ⟨s, hs, e1, e2⟩ := r1.2 i _ _ (by rw [List.getElem?_map, List.getElem?_eq_getElem q]; rfl) (List.getElem?_eq_getElem p)
  rw [e2, (rep_same h hs).acc]
  exact hb.acc s _ hs (k1 _ (List.getElem_mem q)) e1.symm
end
end Auto
end Go.Proofs.YtjclbjdkkdijbaaGreat
end
