/- Automata as plain data: the least word (breadth first). No program is named. Conditions: none. -/
import Derived.Test.YtjclbjdkkdijbaaGreatAutoP
set_option linter.unusedVariables false
set_option linter.unusedSimpArgs false
set_option linter.unusedSectionVars false
open Go.RowKit
namespace Go.Proofs.YtjclbjdkkdijbaaGreat
open L
namespace Auto
abbrev Qu := List (Nat × List Int)
def addQ (q : Qu) (t : Nat) (w : List Int) : Qu := if t ∈ q.map (·.1) then q else q ++ [(t, w)]
/-- The states that come next, class by class, each with its word, unless it was there. -/
def scanQ (row : Nat → Nat) (cut : Nat → Int) (w : List Int) : Nat → Qu → Qu
  | 0, q => q
  | k + 1, q => addQ (scanQ row cut w k q) (row k) (w ++ [cut k])
def rowA (a : Au) (s k : Nat) : Nat := ((a.next.getD s []).getD k 0).toNat
/-- The queue after so many states. -/
def bfsQ (a : Au) : Nat → Qu
  | 0 => [(0, [])]
  | i + 1 => match (bfsQ a i)[i]? with
    | some e => scanQ (rowA a e.1) (fun k => a.cuts.getD k 0) e.2 a.cuts.length (bfsQ a i)
    | none => bfsQ a i
/-- What Least finds. -/
def leastA (a : Au) : Option (List Int) := ((bfsQ a 256).find? fun e => a.acc.getD e.1 false).map (·.2)
theorem addQ_ext (q : Qu) (t : Nat) (w : List Int) : ∃ r, addQ q t w = q ++ r ∧ ∀ e ∈ r, e = (t, w) := by
  unfold addQ
  split
  · exact ⟨[], by simp, by simp⟩
  · exact ⟨[(t, w)], rfl, by simp⟩
theorem addQ_mem (q : Qu) (t : Nat) (w : List Int) : ∃ e ∈ addQ q t w, e.1 = t ∧ (e ∈ q ∨ e = (t, w)) := by
  unfold addQ
  split
  · rename_i h
    obtain ⟨e, he, h2⟩ := List.mem_map.1 h
    exact ⟨e, he, h2, .inl he⟩
  · exact ⟨(t, w), by simp, rfl, .inr rfl⟩
theorem scanQ_ext (row : Nat → Nat) (cut : Nat → Int) (w : List Int) : ∀ (k : Nat) (q : Qu), ∃ r, scanQ row cut w k q = q ++ r ∧ ∀ e ∈ r, ∃ j, j < k ∧ e = (row j, w ++ [cut j])
  | 0, q => ⟨[], by simp [scanQ], by simp⟩
  | k + 1, q => by
    obtain ⟨r, h1, h2⟩ := scanQ_ext row cut w k q
    obtain ⟨r', h3, h4⟩ := addQ_ext (scanQ row cut w k q) (row k) (w ++ [cut k])
    refine ⟨r ++ r', by rw [scanQ, h3, h1, List.append_assoc], fun e he => ?_⟩
    rcases List.mem_append.1 he with he | he
    · obtain ⟨j, hj, h5⟩ := h2 e he
      exact ⟨j, by omega, h5⟩
    · exact ⟨k, by omega, h4 e he⟩
theorem scanQ_mem (row : Nat → Nat) (cut : Nat → Int) (w : List Int) : ∀ (k : Nat) (q : Qu) (j : Nat), j < k → ∃ e ∈ scanQ row cut w k q, e.1 = row j ∧ (e ∈ q ∨ e.2.length = w.length + 1)
  | 0, q, j, h => by omega
  | k + 1, q, j, h => by
    rw [scanQ]
    rcases Nat.lt_or_ge j k with hj | hj
    · obtain ⟨e, he, h1, h2⟩ := scanQ_mem row cut w k q j hj
      obtain ⟨r, h3, _⟩ := addQ_ext (scanQ row cut w k q) (row k) (w ++ [cut k])
      exact ⟨e, by rw [h3]; exact List.mem_append_left _ he, h1, h2⟩
    · obtain rfl : j = k := by omega
      obtain ⟨e, he, h1, h2⟩ := addQ_mem (scanQ row cut w j q) (row j) (w ++ [cut j])
      refine ⟨e, he, h1, ?_⟩
      rcases h2 with h2 | h2
      · obtain ⟨r, h3, h4⟩ := scanQ_ext row cut w j q
        rw [h3] at h2
        rcases List.mem_append.1 h2 with h2 | h2
        · exact .inl h2
        · obtain ⟨i, _, h5⟩ := h4 e h2
          right; rw [h5]; simp
      · right; rw [h2]; simp
/-- What the queue keeps. -/
structure Bf (a : Au) (i : Nat) (q : Qu) : Prop where
  head : ∃ q', q = (0, []) :: q'
  inc : ∀ (j j' : Nat) (e e' : Nat × List Int), q[j]? = some e → q[j']? = some e' → j ≤ j' → e.2.length ≤ e'.2.length
  near : ∀ (c : Nat × List Int), q[i]? = some c → ∀ e ∈ q, e.2.length ≤ c.2.length + 1
  next : ∀ (p : Nat) (c : Nat × List Int), p < i → q[p]? = some c → ∀ k, k < a.cuts.length → ∃ e ∈ q, e.1 = rowA a c.1 k ∧ e.2.length ≤ c.2.length + 1
theorem bf (a : Au) : ∀ i, Bf a i (bfsQ a i)
  | 0 => by
    refine ⟨⟨[], rfl⟩, fun j j' e e' h1 h2 _ => ?_, fun c hc e he => ?_, fun p c hp => by omega⟩
    · unfold bfsQ at h1 h2
      have m1 := List.mem_of_getElem? h1
      have m2 := List.mem_of_getElem? h2
      simp only [List.mem_singleton] at m1 m2
      rw [m1, m2]
      exact Nat.le_refl _
    · unfold bfsQ at he
      simp only [List.mem_singleton] at he
      rw [he]
      simp
  | i + 1 => by
    have H := bf a i
    rw [bfsQ]
    cases hs : (bfsQ a i)[i]? with
    | none =>
      simp only
      have hl := List.getElem?_eq_none_iff.1 hs
      refine ⟨H.head, H.inc, fun c hc => ?_, fun p c hp hc k hk => ?_⟩
      · have := (List.getElem?_eq_some_iff.1 hc).1
        omega
      · have := (List.getElem?_eq_some_iff.1 hc).1
        exact H.next p c (by omega) hc k hk
    | some s =>
      simp only
      have hil := (List.getElem?_eq_some_iff.1 hs).1
      obtain ⟨r, hr, hrm⟩ := scanQ_ext (rowA a s.1) (fun k => a.cuts.getD k 0) s.2 a.cuts.length (bfsQ a i)
      have hmem := scanQ_mem (rowA a s.1) (fun k => a.cuts.getD k 0) s.2 a.cuts.length (bfsQ a i)
      have hrl : ∀ e ∈ r, e.2.length = s.2.length + 1 := fun e he => by
        obtain ⟨j, _, h⟩ := hrm e he
        rw [h]; simp
      rw [hr] at hmem ⊢
      have hinc : ∀ (j j' : Nat) (e e' : Nat × List Int), (bfsQ a i ++ r)[j]? = some e → (bfsQ a i ++ r)[j']? = some e' → j ≤ j' → e.2.length ≤ e'.2.length := fun j j' e e' h1 h2 hj => by
        rcases Nat.lt_or_ge j' (bfsQ a i).length with h3 | h3
        · rw [List.getElem?_append_left h3] at h2
          rw [List.getElem?_append_left (by omega)] at h1
          exact H.inc j j' e e' h1 h2 hj
        · rw [List.getElem?_append_right h3] at h2
          have m2 := hrl _ (List.mem_of_getElem? h2)
          rcases Nat.lt_or_ge j (bfsQ a i).length with h4 | h4
          · rw [List.getElem?_append_left h4] at h1
            have := H.near s hs e (List.mem_of_getElem? h1)
            omega
          · rw [List.getElem?_append_right h4] at h1
            have := hrl _ (List.mem_of_getElem? h1)
            omega
      have hs' : (bfsQ a i ++ r)[i]? = some s := by rw [List.getElem?_append_left hil]; exact hs
      have hall : ∀ e ∈ bfsQ a i ++ r, e.2.length ≤ s.2.length + 1 := fun e he => by
        rcases List.mem_append.1 he with he | he
        · exact H.near s hs e he
        · have := hrl e he; omega
      refine ⟨?_, hinc, fun c hc e he => ?_, fun p c hp hc k hk => ?_⟩
      · obtain ⟨q', hq⟩ := H.head
        exact ⟨q' ++ r, by rw [hq]; rfl⟩
      · have h1 := hinc i (i + 1) s c hs' hc (by omega)
        have h2 := hall e he
        omega
      · rcases Nat.lt_or_ge p i with h1 | h1
        · rw [List.getElem?_append_left (by omega)] at hc
          obtain ⟨e, he, h2, h3⟩ := H.next p c h1 hc k hk
          exact ⟨e, List.mem_append_left _ he, h2, h3⟩
        · obtain rfl : p = i := by omega
          rw [hs'] at hc
          cases hc
          obtain ⟨e, he, h2, _⟩ := hmem k hk
          exact ⟨e, he, h2, hall e he⟩
theorem addQ_nodup {q : Qu} {t : Nat} {w : List Int} (h : (q.map (·.1)).Nodup) : ((addQ q t w).map (·.1)).Nodup := by
  unfold addQ
  split
  · exact h
  · rename_i hx
    rw [List.map_append]
    exact List.nodup_append.2 ⟨h, by simp, fun a ha b hb e => by simp at hb; subst hb; exact hx (e ▸ ha)⟩
theorem scanQ_nodup (row : Nat → Nat) (cut : Nat → Int) (w : List Int) {q : Qu} (h : (q.map (·.1)).Nodup) : ∀ k, ((scanQ row cut w k q).map (·.1)).Nodup
  | 0 => h
  | k + 1 => addQ_nodup (scanQ_nodup row cut w h k)
theorem bf_nodup (a : Au) : ∀ i, ((bfsQ a i).map (·.1)).Nodup
  | 0 => by simp [bfsQ]
  | i + 1 => by
    rw [bfsQ]
    split
    · exact scanQ_nodup _ _ _ (bf_nodup a i) _
    · exact bf_nodup a i
theorem cls_cut {cs : List Int} (hs : cs.Pairwise (· < ·)) {k : Nat} (hk : k < cs.length) : cls cs (cs.getD k 0) = k := by
  rw [List.getD_eq_getElem?_getD, List.getElem?_eq_getElem hk, Option.getD_some]
  have h1 := (cnt_iff (c := cs[k]) hs hk).1 (Int.le_refl _)
  have h2 : cs.countP (fun x => decide (x ≤ cs[k])) ≤ k + 1 := by
    refine Nat.le_of_not_lt fun h => ?_
    have hl : cs.countP (fun x => decide (x ≤ cs[k])) ≤ cs.length := List.countP_le_length
    have h3 := (cnt_iff (c := cs[k]) hs (i := k + 1) (by omega)).2 h
    have h4 := List.pairwise_iff_getElem.1 hs k (k + 1) hk (by omega) (by omega)
    omega
  unfold cls
  omega
theorem runA_snoc (a : Au) (s : Nat) (w : List Int) (c : Int) : runA a s (w ++ [c]) = stepA a (runA a s w) c := by
  unfold runA
  rw [List.foldl_append]
  rfl
/-- Each state stands with a word that leads to it. -/
theorem bf_run {a : Au} (ha : Ok a) : ∀ i, ∀ e ∈ bfsQ a i, e.1 < a.next.length ∧ runA a 0 e.2 = e.1 ∧ ∀ c ∈ e.2, c ∈ a.cuts
  | 0, e, he => by
    unfold bfsQ at he
    simp only [List.mem_singleton] at he
    rw [he]
    exact ⟨ha.some_, rfl, by simp⟩
  | i + 1, e, he => by
    rw [bfsQ] at he
    cases hs : (bfsQ a i)[i]? with
    | none => rw [hs] at he; exact bf_run ha i e he
    | some s =>
      rw [hs] at he
      simp only at he
      obtain ⟨r, hr, hrm⟩ := scanQ_ext (rowA a s.1) (fun k => a.cuts.getD k 0) s.2 a.cuts.length (bfsQ a i)
      rw [hr] at he
      rcases List.mem_append.1 he with he | he
      · exact bf_run ha i e he
      · obtain ⟨j, hj, h⟩ := hrm e he
        obtain ⟨h1, h2, h3⟩ := bf_run ha i s (List.mem_of_getElem? hs)
        have hc : a.cuts.getD j 0 ∈ a.cuts := by
          rw [List.getD_eq_getElem?_getD, List.getElem?_eq_getElem hj]
          exact List.getElem_mem _
        have hst : stepA a s.1 (a.cuts.getD j 0) = rowA a s.1 j := by unfold stepA rowA; rw [cls_cut ha.inc hj]
        have h0 : 0 ≤ a.cuts.getD j 0 := by
          rw [List.getD_eq_getElem?_getD, List.getElem?_eq_getElem hj, Option.getD_some]
          have hz := ha.zero
          rw [List.getD_eq_getElem?_getD, List.getElem?_eq_getElem (show 0 < a.cuts.length by omega), Option.getD_some] at hz
          rcases Nat.eq_zero_or_pos j with h | h
          · subst h; omega
          · have := List.pairwise_iff_getElem.1 ha.inc 0 j (by omega) hj h
            omega
        rw [h]
        refine ⟨?_, ?_, fun c hc' => ?_⟩
        · have := ha.step h1 h0
          show rowA a s.1 j < _
          rw [← hst]
          exact this
        · show runA a 0 (s.2 ++ [a.cuts.getD j 0]) = rowA a s.1 j
          rw [runA_snoc, h2, hst]
        · rcases List.mem_append.1 hc' with h4 | h4
          · exact h3 c h4
          · rw [List.mem_singleton] at h4; rw [h4]; exact hc
theorem nodup_lt : ∀ (n : Nat) (l : List Nat), l.Nodup → (∀ x ∈ l, x < n) → l.length ≤ n
  | 0, l, _, h => by
    cases l with
    | nil => simp
    | cons x l => have := h x (by simp); omega
  | n + 1, l, hn, h => by
    have h1 := nodup_lt n (l.erase n) (hn.erase _) (fun x hx => by
      have hm := (hn.mem_erase_iff).1 hx
      have := h x hm.2
      omega)
    have h2 := List.length_erase (a := n) (l := l)
    split at h2 <;> omega
theorem bf_len {a : Au} (ha : Ok a) (i : Nat) : (bfsQ a i).length ≤ 256 := by
  have h1 := bf_nodup a i
  have h2 : ((bfsQ a i).map (·.1)).length ≤ a.next.length := nodup_lt _ _ h1 (fun x hx => by
    obtain ⟨e, he, rfl⟩ := List.mem_map.1 hx
    exact (bf_run ha i e he).1)
  have := ha.few
  rw [List.length_map] at h2
  omega
/-- Breadth first: no state is reached by fewer bytes. -/
theorem bf_reach {a : Au} (ha : Ok a) : ∀ (n t : Nat), fwd a 0 n t → ∃ e ∈ bfsQ a 256, e.1 = t ∧ e.2.length ≤ n
  | 0, t, h => by
    have h : t = 0 := h
    obtain ⟨q', hq⟩ := (bf a 256).head
    exact ⟨(0, []), by rw [hq]; simp, h.symm, by simp⟩
  | n + 1, t, h => by
    obtain ⟨u, hu, h1, h2⟩ := h
    obtain ⟨e, he, h3, h4⟩ := bf_reach ha n u h1
    obtain ⟨p, hp, rfl⟩ := List.getElem_of_mem he
    have hl := bf_len ha 256
    have hm : a.next.getD u [] ∈ a.next := by rw [List.getD_eq_getElem?_getD, List.getElem?_eq_getElem hu]; exact List.getElem_mem _
    have hrl := (ha.rows _ hm).1
    obtain ⟨k, hk, h5⟩ := List.getElem_of_mem h2
    obtain ⟨e', he', h6, h7⟩ := (bf a 256).next p _ (by omega) (List.getElem?_eq_getElem hp) k (by omega)
    refine ⟨e', he', ?_, by omega⟩
    rw [h6, h3]
    unfold rowA
    rw [List.getD_eq_getElem?_getD (l := a.next.getD u []), List.getElem?_eq_getElem hk, h5]
    simp
theorem fwd_run {a : Au} (ha : Ok a) (s : Nat) (hs : s < a.next.length) : ∀ (w v : List Int), (∀ c ∈ w, 0 ≤ c) → (∀ c ∈ v, 0 ≤ c) → fwd a s v.length (runA a s v) → fwd a s (v.length + w.length) (runA a s (v ++ w))
  | [], v, _, _, h => by simpa using h
  | c :: w, v, hw, hv, h => by
    have hc := hw c (by simp)
    have hr := ha.run v hs hv
    obtain ⟨hlt, _, _⟩ := cut_of ha.inc ha.mem0 hc
    have hm : a.next.getD (runA a s v) [] ∈ a.next := by rw [List.getD_eq_getElem?_getD, List.getElem?_eq_getElem hr]; exact List.getElem_mem _
    obtain ⟨hr1, hr2⟩ := ha.rows _ hm
    have hstep : fwd a s (v ++ [c]).length (runA a s (v ++ [c])) := by
      rw [List.length_append, List.length_singleton, runA_snoc]
      refine ⟨runA a s v, hr, h, ?_⟩
      unfold stepA
      generalize a.next.getD (runA a s v) [] = l at *
      have hx : l.getD (cls a.cuts c) 0 ∈ l := by
        rw [List.getD_eq_getElem?_getD, List.getElem?_eq_getElem (by omega)]
        exact List.getElem_mem _
      rw [Int.toNat_of_nonneg (hr2 _ hx).1]
      exact hx
    have := fwd_run ha s hs w (v ++ [c]) (fun d hd => hw d (by simp [hd])) (fun d hd => by
      rcases List.mem_append.1 hd with hd | hd
      · exact hv d hd
      · rw [List.mem_singleton] at hd; rw [hd]; exact hc) hstep
    rw [List.length_append, List.length_singleton, List.append_assoc] at this
    rw [List.length_cons, show v.length + (w.length + 1) = v.length + 1 + w.length by omega]
    exact this
theorem Ok.nonneg {a : Au} (ha : Ok a) : ∀ c ∈ a.cuts, 0 ≤ c := fun c hc => by
  obtain ⟨j, hj, rfl⟩ := List.getElem_of_mem hc
  have hz := ha.zero
  rw [List.getD_eq_getElem?_getD, List.getElem?_eq_getElem (show 0 < a.cuts.length by omega), Option.getD_some] at hz
  rcases Nat.eq_zero_or_pos j with h | h
  · subst h; omega
  · have := List.pairwise_iff_getElem.1 ha.inc 0 j (by omega) hj h
    omega
/-- The word that Least finds is accepted, and no shorter one is. -/
theorem least_some {a : Au} (ha : Ok a) {w : List Int} (h : leastA a = some w) : a.acc.getD (runA a 0 w) false = true ∧ (∀ c ∈ w, c ∈ a.cuts) ∧ fwd a 0 w.length (runA a 0 w) ∧ ∀ n t, fwd a 0 n t → a.acc.getD t false = true → w.length ≤ n := by
  unfold leastA at h
  cases hf : (bfsQ a 256).find? (fun e => a.acc.getD e.1 false) with
  | none => rw [hf] at h; cases h
  | some e =>
    rw [hf] at h
    simp only [Option.map_some, Option.some.injEq] at h
    subst h
    obtain ⟨h1, xs, ys, h2, h3⟩ := List.find?_eq_some_iff_append.1 hf
    have he : e ∈ bfsQ a 256 := by rw [h2]; simp
    obtain ⟨h4, h5, h6⟩ := bf_run ha 256 e he
    refine ⟨by rw [h5]; exact h1, h6, ?_, fun n t ht hacc => ?_⟩
    · have := fwd_run ha 0 ha.some_ e.2 [] (fun c hc => ha.nonneg c (h6 c hc)) (by simp) rfl
      simpa using this
    · obtain ⟨e', he', h7, h8⟩ := bf_reach ha n t ht
      have hinc := (bf a 256).inc
      clear hf he h4 h5 h6
      generalize bfsQ a 256 = q at *
      obtain ⟨p, hp, rfl⟩ := List.getElem_of_mem he'
      have hpx : xs.length ≤ p := by
        refine Nat.le_of_not_lt fun hlt => ?_
        have hin : q[p] ∈ xs := by
          have : q[p]? = xs[p]? := by rw [h2, List.getElem?_append_left hlt]
          rw [List.getElem?_eq_getElem hp] at this
          exact List.mem_of_getElem? this.symm
        have := h3 _ hin
        rw [h7, hacc] at this
        simp at this
      have hx : q[xs.length]? = some e := by rw [h2]; simp
      have := hinc xs.length p e _ hx (List.getElem?_eq_getElem hp) hpx
      omega
theorem least_none {a : Au} (ha : Ok a) (h : leastA a = none) : ∀ n t, fwd a 0 n t → a.acc.getD t false = false := fun n t ht => by
  obtain ⟨e, he, h1, _⟩ := bf_reach ha n t ht
  unfold leastA at h
  generalize bfsQ a 256 = q at *
  have hf : q.find? (fun e => a.acc.getD e.1 false) = none := by
    cases hf : q.find? (fun e => a.acc.getD e.1 false) with
    | none => rfl
    | some e => rw [hf] at h; simp at h
  have := List.find?_eq_none.1 hf e he
  rw [← h1]
  simpa using this
/-- The plain law of AutoLengths, its first half. -/
theorem len_law {a : Au} (ha : Ok a) (n : Nat) : (∀ w, leastA a = some w → a.acc.getD (runA a 0 w) false = true ∧ (n < w.length → leftN a n 0 = false) ∧ (n = w.length → leftN a n 0 = true)) ∧ (leastA a = none → leftN a n 0 = false ∧ a.acc.getD (runA a 0 []) false = false) := by
  refine ⟨fun w h => ?_, fun h => ?_⟩
  · obtain ⟨h1, h2, h3, h4⟩ := least_some ha h
    refine ⟨h1, fun hn => ?_, fun hn => ?_⟩
    · cases hl : leftN a n 0 with
      | false => rfl
      | true =>
        obtain ⟨t, ht, hacc⟩ := (left_iff ha 0 n).1 hl
        have := h4 n t ht hacc
        omega
    · subst hn
      exact (left_iff ha 0 w.length).2 ⟨_, h3, h1⟩
  · have hno := least_none ha h
    refine ⟨?_, hno 0 0 rfl⟩
    cases hl : leftN a n 0 with
    | false => rfl
    | true =>
      obtain ⟨t, ht, hacc⟩ := (left_iff ha 0 n).1 hl
      rw [hno n t ht] at hacc
      cases hacc
/-- Its second half. -/
theorem left_next (a : Au) (n s : Nat) : leftN a (n + 1) s = (a.next.getD s []).any (fun t => leftN a n t.toNat) := rfl
end Auto
end Go.Proofs.YtjclbjdkkdijbaaGreat
