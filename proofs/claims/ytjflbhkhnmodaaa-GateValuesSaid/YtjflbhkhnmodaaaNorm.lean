/- Plain facts on clauses: the normal form, the order of literals. No program is named. Conditions: none. -/
import Derived.Test.YtjflbhkhnmodaaaLib2
import Derived.Lib.SlicesCompact
import Derived.Lib.Small
set_option linter.unusedVariables false
set_option linter.unusedSimpArgs false
set_option linter.unusedSectionVars false
open Go.RowKit
namespace Go.Proofs.Ytjflbhkhnmodaaa
open L
namespace Cla
/-- The comparison of literals: by variable, then by number. -/
def cfL (x y : Int) : Int := if Lib.compareInt (x.natAbs : Int) (y.natAbs : Int) ≠ 0 then Lib.compareInt (x.natAbs : Int) (y.natAbs : Int) else Lib.compareInt x y
def lt3 (x y : Int) : Prop := x.natAbs < y.natAbs ∨ (x.natAbs = y.natAbs ∧ x < y)
theorem cf_lt (x y : Int) : cfL x y < 0 ↔ lt3 x y := by
  unfold cfL lt3 Lib.compareInt
  by_cases h1 : (x.natAbs : Int) < y.natAbs
  · simp only [if_pos h1]
    constructor
    · intro _; left; omega
    · intro _; simp
  · by_cases h2 : (x.natAbs : Int) > y.natAbs
    · simp only [if_neg h1, if_pos h2]
      constructor
      · intro h; exact absurd h (by simp)
      · intro h; omega
    · simp only [if_neg h1, if_neg h2]
      by_cases h3 : x < y
      · simp only [if_pos h3]
        constructor
        · intro _; right; omega
        · intro _; decide
      · by_cases h4 : x > y
        · simp only [if_neg h3, if_pos h4]
          constructor
          · intro h; exact absurd h (by decide)
          · intro h; omega
        · simp only [if_neg h3, if_neg h4]
          constructor
          · intro h; exact absurd h (by decide)
          · intro h; omega
theorem lt3_irrefl (x : Int) : ¬ lt3 x x := by unfold lt3; omega
theorem lt3_trans {x y z : Int} (h1 : lt3 x y) (h2 : lt3 y z) : lt3 x z := by unfold lt3 at *; omega
theorem lt3_ntrans {x y z : Int} (h1 : ¬ lt3 x y) (h2 : ¬ lt3 y z) : ¬ lt3 x z := by unfold lt3 at *; omega
theorem lt3_total {x y : Int} (h1 : ¬ lt3 x y) (h2 : ¬ lt3 y x) : x = y := by unfold lt3 at *; omega
def leB (x y : Int) : Bool := !decide (cfL y x < 0)
theorem leB_iff (x y : Int) : leB x y = true ↔ ¬ lt3 y x := by simp [leB, cf_lt]
def srt (c : List Int) : List Int := c.mergeSort leB
def norm (c : List Int) : List Int := Lib.compact (srt c)
theorem srt_mem (c : List Int) (x : Int) : x ∈ srt c ↔ x ∈ c := (List.mergeSort_perm c leB).mem_iff
theorem srt_length (c : List Int) : (srt c).length = c.length := (List.mergeSort_perm c leB).length_eq
theorem srt_sorted (c : List Int) : (srt c).Pairwise (fun x y => ¬ lt3 y x) := by
  have := List.pairwise_mergeSort (le := leB) (fun a b c h1 h2 => by rw [leB_iff] at *; exact lt3_ntrans h2 h1) (fun a b => by
    simp only [Bool.or_eq_true, leB_iff]
    by_cases h : lt3 b a
    · right; intro h2; exact lt3_irrefl _ (lt3_trans h h2)
    · left; exact h) c
  exact this.imp fun {a b} h => (leB_iff a b).1 h
theorem compact_mem (s : List Int) (x : Int) : x ∈ Lib.compact s ↔ x ∈ s := by
  have g : ∀ j, j < s.length → s.toArray[j]! = s[j]! := fun j hj => by simp
  constructor
  · intro h
    simp only [Lib.compact, Lib.compactUpTo, List.mem_map, List.mem_filter, List.mem_range] at h
    obtain ⟨j, ⟨hj, _⟩, rfl⟩ := h
    rw [g j hj]
    simp [hj]
  · intro h
    have key : ∀ n, ∀ j, j < n → ∀ hj : j < s.length, s[j] ∈ Lib.compact s := by
      intro n
      induction n with
      | zero => intro j h; omega
      | succ n ih =>
        intro j hjn hj
        by_cases hk : Lib.keeps s.toArray j = true
        · simp only [Lib.compact, Lib.compactUpTo, List.mem_map, List.mem_filter, List.mem_range]
          exact ⟨j, ⟨hj, hk⟩, by rw [g j hj]; simp [hj]⟩
        · simp only [Lib.keeps, decide_eq_true_eq, not_or, Classical.not_not] at hk
          have h1 := ih (j - 1) (by omega) (by omega)
          rw [g j hj, g (j - 1) (by omega)] at hk
          have h2 : s[j]! = s[j] := by simp [hj]
          have h3 : s[j - 1]! = s[j - 1]'(by omega) := by rw [getElem!_pos]
          rw [← h2, hk.2, h3]
          exact h1
    obtain ⟨j, hj, rfl⟩ := List.getElem_of_mem h
    exact key (j + 1) j (by omega) hj
theorem compact_length (s : List Int) : (Lib.compact s).length ≤ s.length := by
  simp only [Lib.compact, Lib.compactUpTo, List.length_map]
  have := List.length_filter_le (Lib.keeps s.toArray) (List.range s.length)
  simpa using this
theorem compact_sorted {s : List Int} (h : s.Pairwise (fun x y => ¬ lt3 y x)) : (Lib.compact s).Pairwise lt3 := by
  unfold Lib.compact Lib.compactUpTo
  rw [List.pairwise_map]
  have h1 : ((List.range s.length).filter (Lib.keeps s.toArray)).Pairwise (fun i j => i < j ∧ j < s.length ∧ Lib.keeps s.toArray j = true) := by
    have h2 := (List.pairwise_lt_range (n := s.length)).filter (Lib.keeps s.toArray)
    refine h2.imp_of_mem ?_
    intro i j _ hj hij
    simp only [List.mem_filter, List.mem_range] at hj
    exact ⟨hij, hj.1, hj.2⟩
  refine h1.imp ?_
  rintro i j ⟨hij, hj, hk⟩
  have g : ∀ m, m < s.length → s.toArray[m]! = s[m]! := fun m hm => by simp
  have gg : ∀ m (hm : m < s.length), s[m]! = s[m] := fun m hm => by simp [hm]
  have hk' : s.toArray[j]! ≠ s.toArray[j - 1]! := by
    simp only [Lib.keeps, decide_eq_true_eq] at hk
    rcases hk with hk | hk
    · omega
    · exact hk
  rw [g j hj, g (j - 1) (by omega), gg j hj, gg (j - 1) (by omega)] at hk'
  rw [g j hj, g i (by omega), gg j hj, gg i (by omega)]
  rw [List.pairwise_iff_getElem] at h
  have h3 := h (j - 1) j (by omega) hj (by omega)
  have h4 : lt3 (s[j - 1]'(by omega)) s[j] := by
    apply Classical.byContradiction
    intro h5
    exact hk' (lt3_total h3 h5)
  by_cases he : i = j - 1
  · subst he; exact h4
  · have h5 := h i (j - 1) (by omega) (by omega) (by omega)
    apply Classical.byContradiction
    intro h6
    have := lt3_ntrans h5 h6
    exact this h4
theorem norm_mem (c : List Int) (x : Int) : x ∈ norm c ↔ x ∈ c := by unfold norm; rw [compact_mem, srt_mem]
theorem norm_sorted (c : List Int) : (norm c).Pairwise lt3 := compact_sorted (srt_sorted c)
theorem norm_length (c : List Int) : (norm c).length ≤ c.length := by
  unfold norm
  have := compact_length (srt c)
  rwa [srt_length] at this
/-- Two neighbours that are opposite. -/
def oppo (l : List Int) : Bool := (List.range l.length).any fun i => decide (0 < i) && (l.getD i 0 == -(l.getD (i - 1) 0))
def oppoUp (l : List Int) (k : Nat) : Bool := (List.range k).any fun i => decide (0 < i) && (l.getD i 0 == -(l.getD (i - 1) 0))
theorem oppoUp_succ (l : List Int) (k : Nat) : oppoUp l (k + 1) = (oppoUp l k || (decide (0 < k) && (l.getD k 0 == -(l.getD (k - 1) 0)))) := by
  simp [oppoUp, List.range_succ]
theorem oppoUp_all (l : List Int) : oppoUp l l.length = oppo l := rfl
def taut (c : List Int) : Bool := c.any fun x => c.contains (-x)
theorem oppo_norm {c : List Int} (hc : ∀ x ∈ c, x ≠ 0) : oppo (norm c) = taut c := by
  rw [Bool.eq_iff_iff]
  unfold oppo taut
  simp only [List.any_eq_true, List.mem_range, Bool.and_eq_true, decide_eq_true_eq, beq_iff_eq, List.contains_iff_mem]
  constructor
  · rintro ⟨i, hi, h0, h⟩
    have e1 : (norm c).getD i 0 = (norm c)[i] := by simp [hi]
    have e2 : (norm c).getD (i - 1) 0 = (norm c)[i - 1]'(by omega) := by
      rw [List.getD_eq_getElem?_getD, List.getElem?_eq_getElem (by omega)]; rfl
    rw [e1, e2] at h
    refine ⟨(norm c)[i - 1]'(by omega), (norm_mem c _).1 (List.getElem_mem _), ?_⟩
    rw [← h]
    exact (norm_mem c _).1 (List.getElem_mem _)
  · rintro ⟨x, hx, hnx⟩
    have hx0 := hc x hx
    have hpos : ∃ p, 0 < p ∧ p ∈ norm c ∧ -p ∈ norm c := by
      by_cases h : 0 < x
      · exact ⟨x, h, (norm_mem c _).2 hx, (norm_mem c _).2 hnx⟩
      · exact ⟨-x, by omega, (norm_mem c _).2 hnx, by rw [Int.neg_neg]; exact (norm_mem c _).2 hx⟩
    obtain ⟨p, hp, h1, h2⟩ := hpos
    obtain ⟨i, hi, he⟩ := List.getElem_of_mem h1
    obtain ⟨j, hj, hf⟩ := List.getElem_of_mem h2
    have hs := norm_sorted c
    rw [List.pairwise_iff_getElem] at hs
    have hji : j < i := by
      apply Classical.byContradiction
      intro h
      rcases Nat.lt_or_ge i j with h3 | h3
      · have := hs i j hi hj h3
        rw [he, hf] at this
        unfold lt3 at this
        omega
      · have : i = j := by omega
        subst this
        rw [he] at hf
        omega
    have hnext : j + 1 = i := by
      apply Classical.byContradiction
      intro h
      have a1 := hs j (j + 1) hj (by omega) (by omega)
      have a2 := hs (j + 1) i (by omega) hi (by omega)
      rw [hf] at a1
      rw [he] at a2
      generalize (norm c)[j + 1]'(by omega) = y at a1 a2
      unfold lt3 at a1 a2
      have hb : y ≠ 0 := by intro hy; subst hy; omega
      have hy : y.natAbs = p.natAbs := by omega
      have : y = p ∨ y = -p := by omega
      rcases this with rfl | rfl <;> omega
    refine ⟨i, hi, by omega, ?_⟩
    have e1 : (norm c).getD i 0 = (norm c)[i] := by simp [hi]
    have e2 : (norm c).getD (i - 1) 0 = (norm c)[j]'(by omega) := by
      have : i - 1 = j := by omega
      rw [this, List.getD_eq_getElem?_getD, List.getElem?_eq_getElem hj]; rfl
    rw [e1, e2, he, hf, Int.neg_neg]
/-- In order of the variables. -/
def Ord (l : List Int) : Prop := l.Pairwise fun x y => x.natAbs < y.natAbs
theorem norm_ord {c : List Int} (h : taut c = false) : Ord (norm c) := by
  have hs := norm_sorted c
  unfold Ord
  refine hs.imp_of_mem ?_
  intro x y hx hy hlt
  rcases hlt with hlt | ⟨he, hlt⟩
  · exact hlt
  · exfalso
    have : y = -x := by omega
    subst this
    have : taut c = true := by
      unfold taut
      rw [List.any_eq_true]
      exact ⟨x, (norm_mem c x).1 hx, by rw [List.contains_iff_mem]; exact (norm_mem c _).1 hy⟩
    rw [h] at this
    cases this
theorem ord_unique : ∀ {l1 l2 : List Int}, Ord l1 → Ord l2 → (∀ x, x ∈ l1 ↔ x ∈ l2) → l1 = l2
  | [], [], _, _, _ => rfl
  | [], y :: l2, _, _, h => by have := (h y).2 (by simp); simp at this
  | x :: l1, [], _, _, h => by have := (h x).1 (by simp); simp at this
  | x :: l1, y :: l2, h1, h2, h => by
    unfold Ord at h1 h2
    rw [List.pairwise_cons] at h1 h2
    have hxy : x = y := by
      have a := (h x).1 (by simp)
      have b := (h y).2 (by simp)
      simp only [List.mem_cons] at a b
      rcases a with a | a
      · exact a
      · rcases b with b | b
        · exact b.symm
        · have := h1.1 y b; have := h2.1 x a; omega
    subst hxy
    rw [ord_unique (l1 := l1) (l2 := l2) h1.2 h2.2]
    intro z
    have hz := h z
    simp only [List.mem_cons] at hz
    constructor
    · intro hm
      rcases hz.1 (.inr hm) with rfl | h3
      · have := h1.1 _ hm; omega
      · exact h3
    · intro hm
      rcases hz.2 (.inr hm) with rfl | h3
      · have := h2.1 _ hm; omega
      · exact h3
/-- The reference's insertion. -/
def putAt (l : List Int) (n : Int) : Nat := (l.takeWhile fun x => decide (x.natAbs < n.natAbs)).length
def put (l : List Int) (n : Int) : List Int := if l[putAt l n]? = some n then l else l.take (putAt l n) ++ n :: l.drop (putAt l n)
theorem put_length (l : List Int) (n : Int) : (put l n).length ≤ l.length + 1 := by
  unfold put
  split
  · omega
  · simp; omega
theorem put_mem (l : List Int) (n x : Int) : x ∈ put l n ↔ x ∈ l ∨ x = n := by
  unfold put
  split
  · rename_i h
    constructor
    · intro h2; exact .inl h2
    · rintro (h2 | rfl)
      · exact h2
      · exact List.mem_of_getElem? h
  · rw [List.mem_append, List.mem_cons]
    constructor
    · rintro (h | rfl | h)
      · exact .inl (List.mem_of_mem_take h)
      · exact .inr rfl
      · exact .inl (List.mem_of_mem_drop h)
    · rintro (h | rfl)
      · rw [← List.take_append_drop (putAt l n) l, List.mem_append] at h
        rcases h with h | h
        · exact .inl h
        · exact .inr (.inr h)
      · exact .inr (.inl rfl)
theorem put_ord : ∀ {l : List Int} {n : Int}, Ord l → (-n) ∉ l → n ≠ 0 → Ord (put l n)
  | [], n, _, _, _ => by simp [put, putAt, Ord]
  | x :: l, n, h, hn, h0 => by
    by_cases hx : x.natAbs < n.natAbs
    · have e : putAt (x :: l) n = putAt l n + 1 := by simp [putAt, hx]
      have e2 : put (x :: l) n = x :: put l n := by
        unfold put
        rw [e, List.getElem?_cons_succ]
        split
        · rfl
        · simp
      rw [e2]
      unfold Ord at h ⊢
      rw [List.pairwise_cons] at h ⊢
      refine ⟨fun y hy => ?_, put_ord h.2 (fun hm => hn (by simp [hm])) h0⟩
      rcases (put_mem l n y).1 hy with hy | rfl
      · exact h.1 y hy
      · exact hx
    · have e : putAt (x :: l) n = 0 := by simp [putAt, hx]
      unfold put
      rw [e]
      split
      · exact h
      · rename_i hne
        simp at hne
        simp only [List.take_zero, List.nil_append, List.drop_zero]
        unfold Ord at h ⊢
        rw [List.pairwise_cons]
        refine ⟨fun y hy => ?_, h⟩
        have hxn : n.natAbs < x.natAbs := by
          have : x ≠ -n := fun he => hn (by simp [he])
          omega
        rw [List.pairwise_cons] at h
        simp only [List.mem_cons] at hy
        rcases hy with rfl | hy
        · exact hxn
        · have := h.1 y hy; omega
def putAll (c : List Int) : List Int := c.foldl put []
theorem putAll_snoc (c : List Int) (x : Int) : putAll (c ++ [x]) = put (putAll c) x := by simp [putAll]
theorem foldl_put_mem (c : List Int) (x : Int) : ∀ l, x ∈ c.foldl put l ↔ x ∈ l ∨ x ∈ c := by
  induction c with
  | nil => intro l; simp
  | cons y c ih =>
    intro l
    rw [List.foldl_cons, ih, put_mem]
    simp only [List.mem_cons]
    constructor
    · rintro ((h | h) | h)
      · exact .inl h
      · exact .inr (.inl h)
      · exact .inr (.inr h)
    · rintro (h | h | h)
      · exact .inl (.inl h)
      · exact .inl (.inr h)
      · exact .inr h
theorem putAll_mem (c : List Int) (x : Int) : x ∈ putAll c ↔ x ∈ c := by unfold putAll; rw [foldl_put_mem]; simp
theorem foldl_put_ord (d : List Int) (h0 : ∀ x ∈ d, x ≠ 0) (ht : taut d = false) : ∀ (c l : List Int), Ord l → (∀ x ∈ l, x ∈ d) → (∀ x ∈ c, x ∈ d) → Ord (c.foldl put l)
  | [], l, h, _, _ => h
  | y :: c, l, h, hl, hc => by
    rw [List.foldl_cons]
    have hy := hc y (by simp)
    refine foldl_put_ord d h0 ht c (put l y) (put_ord h (fun hm => ?_) (h0 y hy)) (fun x hx => ?_) (fun x hx => hc x (by simp [hx]))
    · have : taut d = true := by
        unfold taut
        rw [List.any_eq_true]
        exact ⟨y, hy, by rw [List.contains_iff_mem]; exact hl _ hm⟩
      rw [ht] at this; cases this
    · rcases (put_mem l y x).1 hx with hx | rfl
      · exact hl x hx
      · exact hy
theorem putAll_norm {c : List Int} (h0 : ∀ x ∈ c, x ≠ 0) (ht : taut c = false) : putAll c = norm c :=
  ord_unique (foldl_put_ord c h0 ht c [] List.Pairwise.nil (by simp) (fun x hx => hx)) (norm_ord ht) (fun x => by rw [putAll_mem, norm_mem])
theorem norm_id {c : List Int} (h : Ord c) (h0 : ∀ x ∈ c, x ≠ 0) : norm c = c ∧ taut c = false := by
  have ht : taut c = false := by
    rw [Bool.eq_false_iff]
    intro ht
    unfold taut at ht
    rw [List.any_eq_true] at ht
    obtain ⟨x, hx, hn⟩ := ht
    rw [List.contains_iff_mem] at hn
    obtain ⟨i, hi, he⟩ := List.getElem_of_mem hx
    obtain ⟨j, hj, hf⟩ := List.getElem_of_mem hn
    unfold Ord at h
    rw [List.pairwise_iff_getElem] at h
    have hx0 := h0 x hx
    rcases Nat.lt_trichotomy i j with h1 | h1 | h1
    · have := h i j hi hj h1; rw [he, hf] at this; omega
    · subst h1; omega
    · have := h j i hj hi h1; rw [he, hf] at this; omega
  exact ⟨ord_unique (norm_ord ht) h (fun x => norm_mem c x), ht⟩
/-- The first place at which the variables do not rise. -/
def ordB (l : List Int) : Bool := (List.range l.length).all fun i => decide (i = 0) || decide ((l.getD (i - 1) 0).natAbs < (l.getD i 0).natAbs)
def ordUp (l : List Int) (k : Nat) : Bool := (List.range k).all fun i => decide (i = 0) || decide ((l.getD (i - 1) 0).natAbs < (l.getD i 0).natAbs)
theorem ordUp_succ (l : List Int) (k : Nat) : ordUp l (k + 1) = (ordUp l k && (decide (k = 0) || decide ((l.getD (k - 1) 0).natAbs < (l.getD k 0).natAbs))) := by
  simp [ordUp, List.range_succ]
theorem ordUp_all (l : List Int) : ordUp l l.length = ordB l := rfl
theorem ordB_iff (l : List Int) : ordB l = true ↔ Ord l := by
  have gd : ∀ m (hm : m < l.length), l.getD m 0 = l[m] := fun m hm => by simp [hm]
  unfold ordB Ord
  rw [List.all_eq_true, List.pairwise_iff_getElem]
  constructor
  · intro h i j hi hj hij
    have step : ∀ m (hm : m + 1 < l.length), (l[m]'(by omega)).natAbs < (l[m + 1]).natAbs := by
      intro m hm
      have := h (m + 1) (by simp [hm])
      simp only [Bool.or_eq_true, decide_eq_true_eq] at this
      rcases this with h3 | h3
      · omega
      · rw [Nat.add_sub_cancel, gd m (by omega), gd (m + 1) hm] at h3
        exact h3
    have key : ∀ d, ∀ hd : i + d + 1 < l.length, (l[i]).natAbs < (l[i + d + 1]).natAbs := by
      intro d
      induction d with
      | zero => intro hd; exact step i hd
      | succ d ih => intro hd; exact Nat.lt_trans (ih (by omega)) (step (i + d + 1) (by omega))
    have h4 := key (j - i - 1) (by omega)
    have e : i + (j - i - 1) + 1 = j := by omega
    simp only [e] at h4
    exact h4
  · intro h i hi
    simp only [List.mem_range] at hi
    simp only [Bool.or_eq_true, decide_eq_true_eq]
    by_cases h0 : i = 0
    · exact .inl h0
    · right
      rw [gd i hi, gd (i - 1) (by omega)]
      exact h (i - 1) i (by omega) hi (by omega)
end Cla
end Go.Proofs.Ytjflbhkhnmodaaa
