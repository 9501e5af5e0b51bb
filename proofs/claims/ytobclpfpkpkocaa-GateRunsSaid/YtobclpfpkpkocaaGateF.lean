/- Gates: the clause that forces the output, in plain Lean. No program is named. Conditions: none. -/
import Derived.Test.YtobclpfpkpkocaaGateQ
import Derived.Test.YtobclpfpkpkocaaGateL
import Derived.Test.YtobclpfpkpkocaaChain3
set_option linter.unusedVariables false
set_option linter.unusedSimpArgs false
set_option linter.unusedSectionVars false
open Go.RowKit
namespace Go.Proofs.Ytobclpfpkpkocaa
open L
namespace Gate
open Cla R14
def sg (b : Bool) : Int := if b = true then 4 else -4
def forceB (f : Nat → Bool) (s : Int) (r : List Int) : Bool := r.contains s && r.all (fun n => n == s || (decide (n.natAbs < 4) && !(tv f n)))
theorem rows_forceB {k : Int} (h0 : 0 ≤ k) (h6 : k ≤ 6) (f : Nat → Bool) (bs : List Bool) (hb : ∀ i, i < ninp k → bt bs i = f (i + 1)) :
    (rowsOf k).any (forceB f (sg (gVal k bs))) = true := by
  rcases (by omega : k = 0 ∨ k = 1 ∨ k = 2 ∨ k = 3 ∨ k = 4 ∨ k = 5 ∨ k = 6) with rfl | rfl | rfl | rfl | rfl | rfl | rfl
  · have h1 := hb 0 (by decide)
    cases e1 : f 1 <;> simp [gVal, rowsOf, forceB, sg, tv, h1, e1]
  · have h1 := hb 0 (by decide)
    have h2 := hb 1 (by decide)
    cases e1 : f 1 <;> cases e2 : f 2 <;> simp [gVal, rowsOf, forceB, sg, tv, h1, h2, e1, e2]
  · have h1 := hb 0 (by decide)
    have h2 := hb 1 (by decide)
    cases e1 : f 1 <;> cases e2 : f 2 <;> simp [gVal, rowsOf, forceB, sg, tv, h1, h2, e1, e2]
  · have h1 := hb 0 (by decide)
    have h2 := hb 1 (by decide)
    cases e1 : f 1 <;> cases e2 : f 2 <;> simp [gVal, rowsOf, forceB, sg, tv, h1, h2, e1, e2]
  · have h1 := hb 0 (by decide)
    have h2 := hb 1 (by decide)
    have h3 := hb 2 (by decide)
    cases e1 : f 1 <;> cases e2 : f 2 <;> cases e3 : f 3 <;> simp [gVal, rowsOf, forceB, sg, tv, h1, h2, h3, e1, e2, e3]
  · have h1 := hb 0 (by decide)
    have h2 := hb 1 (by decide)
    have h3 := hb 2 (by decide)
    cases e1 : f 1 <;> cases e2 : f 2 <;> cases e3 : f 3 <;> simp [gVal, rowsOf, forceB, sg, tv, h1, h2, h3, e1, e2, e3]
  · have h1 := hb 0 (by decide)
    have h2 := hb 1 (by decide)
    have h3 := hb 2 (by decide)
    cases e1 : f 1 <;> cases e2 : f 2 <;> cases e3 : f 3 <;> simp [gVal, rowsOf, forceB, sg, tv, h1, h2, h3, e1, e2, e3]
theorem rows_force {k : Int} (h0 : 0 ≤ k) (h6 : k ≤ 6) (f : Nat → Bool) (bs : List Bool) (hb : ∀ i, i < ninp k → bt bs i = f (i + 1)) :
    ∃ r ∈ rowsOf k, sg (gVal k bs) ∈ r ∧ ∀ n ∈ r, n = sg (gVal k bs) ∨ (n.natAbs < 4 ∧ tv f n = false) := by
  have h := rows_forceB h0 h6 f bs hb
  rw [List.any_eq_true] at h
  obtain ⟨r, hr, h⟩ := h
  unfold forceB at h
  rw [Bool.and_eq_true, List.all_eq_true] at h
  refine ⟨r, hr, by simpa using h.1, fun n hn => ?_⟩
  have := h.2 n hn
  simpa using this
theorem chain_sub {a b : List Int} (ha : validErr a = 0) (hb : validErr b = 0) (h : ∀ x ∈ a, x ∈ b) : chainRes b [a] = 0 := by
  have hl : left b a = [] := by
    unfold left
    rw [List.filter_eq_nil_iff]
    intro x hx
    simp [hasB_iff.2 (h x hx)]
  unfold chainRes
  rw [if_neg (by rw [hb]; simp), if_neg (by simp [examErr, ha])]
  unfold chainLoop
  rw [hl]
  rfl
theorem norm_valid {c : List Int} (h : listErr c = 0) (ht : taut c = false) : validErr (norm c) = 0 := by
  obtain ⟨h1, h2⟩ := listErr_lit h
  have hl := norm_length c
  exact validErr_ok.2 ⟨listErr_lits (by omega) (fun x hx => h2 x ((norm_mem c x).1 hx)), norm_ord ht⟩
theorem filter_one {p : Int → Bool} {y : Int} : ∀ {l : List Int}, l.Pairwise (fun a b => a.natAbs < b.natAbs) → y ∈ l → (∀ x ∈ l, p x = true ↔ x = y) → l.filter p = [y]
  | [], _, h, _ => by cases h
  | x :: l, hp, hy, hx => by
    obtain ⟨h1, h2⟩ := List.pairwise_cons.1 hp
    by_cases he : x = y
    · subst he
      rw [List.filter_cons, if_pos ((hx x (by simp)).2 rfl)]
      congr 1
      rw [List.filter_eq_nil_iff]
      intro z hz hpz
      have := (hx z (by simp [hz])).1 hpz
      subst this
      have := h1 z hz
      omega
    · rw [List.filter_cons, if_neg (fun h => he ((hx x (by simp)).1 h))]
      refine filter_one h2 ?_ (fun z hz => hx z (by simp [hz]))
      rcases List.mem_cons.1 hy with rfl | h
      · exact absurd rfl he
      · exact h
/-- The false literal of the variable of a literal. -/
def goalLit (A : List Int) (x : Int) : Int := -(x.natAbs : Int) * A.getD x.natAbs 0
def goalOf (A : List Int) (d : Int) (xs : List Int) : List Int := (4 * d) :: xs.map (goalLit A)
/-- The clause is found. -/
def foundP (A : List Int) (d : Int) (xs : List Int) (c : List Int) : Bool := !(stateRes c A).1 && (decide ((stateRes c A).2.1 = [4 * d]) && decide (chainRes (norm (goalOf A d xs)) [c] = 0))
/-- The facts about an assignment that leaves 4 open. -/
structure Open4 (A : List Int) : Prop where
  len : A.length = 5
  four : A.getD 4 0 = 0
  val : ∀ j, 1 ≤ j → j ≤ 3 → A.getD j 0 = 1 ∨ A.getD j 0 = -1
section
variable {A : List Int} {k : Int} {xs : List Int}
theorem Open4.has (hA : Open4 A) {x : Int} (h1 : 1 ≤ x.natAbs) (h3 : x.natAbs ≤ 3) : Has1 A x := by
  have := hA.val x.natAbs h1 h3
  refine ⟨by omega, ?_⟩
  unfold lval
  split <;> omega
theorem Open4.bad (hA : Open4 A) {x : Int} (h1 : 1 ≤ x.natAbs) (h4 : x.natAbs ≤ 4) : badV A x = false := by
  have hl := hA.len
  have hf := hA.four
  have hv := hA.val x.natAbs h1
  unfold badV
  simp only [Bool.or_eq_false_iff, decide_eq_false_iff_not]
  by_cases h : x.natAbs = 4
  · rw [h, hf]; omega
  · have := hv (by omega)
    omega
theorem goalLit_abs (hA : Open4 A) {x : Int} (h1 : 1 ≤ x.natAbs) (h3 : x.natAbs ≤ 3) : (goalLit A x).natAbs = x.natAbs ∧ isT A (goalLit A x) = false := by
  have hv := hA.val x.natAbs h1 h3
  have hab : (goalLit A x).natAbs = x.natAbs := by
    unfold goalLit
    rw [Int.natAbs_mul]
    rcases hv with h | h <;> rw [h] <;> simp
  refine ⟨hab, ?_⟩
  unfold isT lval
  rw [hab]
  unfold goalLit
  rcases hv with h | h <;> rw [h]
  · rw [if_pos (by omega)]; rfl
  · rw [if_neg (by omega)]; rfl
/-- A false literal of a small variable is the goal's. -/
theorem goalLit_eq (hA : Open4 A) {x y : Int} (h1 : 1 ≤ y.natAbs) (h3 : y.natAbs ≤ 3) (hab : x.natAbs = y.natAbs) (hf : isT A y = false) : goalLit A x = y := by
  have hv := hA.val y.natAbs h1 h3
  unfold goalLit
  rw [hab]
  unfold isT lval at hf
  rcases hv with h | h <;> rw [h] at hf ⊢
  · by_cases h0 : y < 0
    · omega
    · rw [if_neg h0] at hf; simp at hf
  · by_cases h0 : y < 0
    · rw [if_pos h0] at hf; simp at hf
    · omega
theorem goal_ok (hA : Open4 A) {d : Int} (hd : d = 1 ∨ d = -1) (hl : xs.length ≤ 3) (hx : ∀ x ∈ xs, 1 ≤ x.natAbs ∧ x.natAbs ≤ 3) : listErr (goalOf A d xs) = 0 ∧ taut (goalOf A d xs) = false := by
  have hm : ∀ y ∈ goalOf A d xs, y = 4 * d ∨ (1 ≤ y.natAbs ∧ y.natAbs ≤ 3 ∧ isT A y = false) := by
    intro y hy
    rcases List.mem_cons.1 hy with h | h
    · exact .inl h
    · obtain ⟨x, hxm, rfl⟩ := List.mem_map.1 h
      obtain ⟨h1, h3⟩ := hx x hxm
      obtain ⟨ha, hf⟩ := goalLit_abs hA h1 h3
      exact .inr ⟨by omega, by omega, hf⟩
  refine ⟨listErr_lits (by unfold goalOf; simp; omega) (fun y hy => by have := hm y hy; omega), ?_⟩
  unfold taut
  rw [List.any_eq_false]
  intro y hy
  rw [Bool.not_eq_true, Bool.eq_false_iff, ne_eq, List.contains_iff_mem]
  intro hy2
  rcases hm y hy with h | ⟨h1, h3, hf⟩
  · rcases hm (-y) hy2 with h' | ⟨h1', h3', _⟩ <;> omega
  · rcases hm (-y) hy2 with h' | ⟨_, _, hf'⟩
    · omega
    · rw [isT_neg (hA.has h1 h3), hf] at hf'; cases hf'
/-- A clause is found. -/
theorem found_law (hA : Open4 A) (hok : gOk k 4 xs = true) (hx : ∀ x ∈ xs, 1 ≤ x.natAbs ∧ x.natAbs ≤ 3) : (gCl k 4 xs).any (foundP A (runVal k xs A) xs) = true := by
  obtain ⟨⟨k0, k6⟩, _, hle, _⟩ := gOk_iff.1 hok
  have hn3 := ninp_le k
  have hs : sg (gVal k (xs.map (isT A))) = 4 * runVal k xs A := by unfold sg runVal; split <;> rfl
  have hd : runVal k xs A = 1 ∨ runVal k xs A = -1 := by unfold runVal; split <;> simp
  obtain ⟨r, hr, hsr, hrest⟩ := rows_force k0 k6 (fOf A 4 xs) (xs.map (isT A)) (by
    intro i hi
    unfold bt fOf litVar
    rw [if_pos (by omega), List.getD_eq_getElem?_getD, List.getElem?_map, Nat.add_sub_cancel, gd_some (d := 0) (show i < xs.length by omega)]
    rfl)
  rw [hs] at hsr hrest
  generalize runVal k xs A = d at *
  have hrow := (rowsOf_ok k0 k6).1 r hr
  -- the members of the clause
  have hm : ∀ y ∈ r.map (litOf 4 xs), y = 4 * d ∨ (1 ≤ y.natAbs ∧ y.natAbs ≤ 3 ∧ isT A y = false ∧ ∃ x ∈ xs, x.natAbs = y.natAbs) := by
    intro y hy
    obtain ⟨n, hn, rfl⟩ := List.mem_map.1 hy
    rcases hrest n hn with rfl | ⟨h4, hf⟩
    · left
      unfold litOf litVar
      split <;> rw [if_neg (by omega)] <;> omega
    · right
      have hnn : 1 ≤ n.natAbs ∧ n.natAbs ≤ ninp k := by have := hrow.2.2 n hn; omega
      have hv : litVar 4 xs n.natAbs = xs.getD (n.natAbs - 1) 0 := by unfold litVar; rw [if_pos h4]
      have hmem : xs.getD (n.natAbs - 1) 0 ∈ xs := gd_mem (by omega)
      obtain ⟨a1, a3⟩ := hx _ hmem
      have hh : Has1 A (litVar 4 xs n.natAbs) := by rw [hv]; exact hA.has a1 a3
      have hab : (litOf 4 xs n).natAbs = (xs.getD (n.natAbs - 1) 0).natAbs := by unfold litOf; rw [hv]; split <;> omega
      exact ⟨by omega, by omega, by rw [isT_lit hh]; exact hf, _, hmem, hab.symm⟩
  have h4m : 4 * d ∈ r.map (litOf 4 xs) := by
    refine List.mem_map.2 ⟨4 * d, hsr, ?_⟩
    unfold litOf litVar
    split <;> rw [if_neg (by omega)] <;> omega
  have hraw : r.map (litOf 4 xs) ∈ gRaw k 4 xs := List.mem_map.2 ⟨r, hr, rfl⟩
  have hle0 := ((gRaw_ok hok).1 _ hraw).1
  generalize r.map (litOf 4 xs) = c at *
  have ht : taut c = false := by
    unfold taut
    rw [List.any_eq_false]
    intro y hy
    rw [Bool.not_eq_true, Bool.eq_false_iff, ne_eq, List.contains_iff_mem]
    intro hy2
    rcases hm y hy with h | ⟨h1, h3, hf, _⟩
    · rcases hm (-y) hy2 with h' | ⟨h1', h3', _⟩ <;> omega
    · rcases hm (-y) hy2 with h' | ⟨_, _, hf', _⟩
      · omega
      · rw [isT_neg (hA.has h1 h3), hf] at hf'; cases hf'
  refine List.any_eq_true.2 ⟨norm c, ?_, ?_⟩
  · unfold gCl keep
    exact List.mem_map.2 ⟨c, List.mem_filter.2 ⟨hraw, by simp [ht]⟩, rfl⟩
  have hmn : ∀ y ∈ norm c, y = 4 * d ∨ (1 ≤ y.natAbs ∧ y.natAbs ≤ 3 ∧ isT A y = false ∧ ∃ x ∈ xs, x.natAbs = y.natAbs) := fun y hy => hm y ((norm_mem c y).1 hy)
  have hvn := norm_valid hle0 ht
  have hln : listErr (norm c) = 0 := (validErr_ok.1 hvn).1
  have hl4 : lval A (4 * d) = 0 := by
    unfold lval
    have : (4 * d).natAbs = 4 := by omega
    rw [this, hA.four]; simp
  have hst : stateRes (norm c) A = (false, [4 * d], 0) := by
    unfold stateRes
    rw [if_neg (by simpa using hln), if_neg]
    · refine Prod.ext ?_ (Prod.ext ?_ rfl)
      · show (norm c).any (fun x => lval A x == 1) = false
        rw [List.any_eq_false]
        intro y hy
        rcases hmn y hy with rfl | ⟨_, _, hf, _⟩
        · rw [hl4]; simp
        · unfold isT at hf; rw [hf]; simp
      · show (norm c).filter (fun x => lval A x == 0) = [4 * d]
        refine filter_one (norm_ord ht) ((norm_mem c _).2 h4m) (fun y hy => ?_)
        constructor
        · intro h
          rcases hmn y hy with h' | ⟨h1, h3, _, _⟩
          · exact h'
          · have := (hA.has h1 h3).2
            simp at h; omega
        · rintro rfl; rw [hl4]; rfl
    · rw [Bool.not_eq_true, List.any_eq_false]
      intro y hy
      rw [hA.bad (by have := hmn y hy; omega) (by have := hmn y hy; omega)]
      simp
  obtain ⟨g1, g2⟩ := goal_ok hA hd (show xs.length ≤ 3 by omega) hx
  have hch : chainRes (norm (goalOf A d xs)) [norm c] = 0 := by
    refine chain_sub hvn (norm_valid g1 g2) (fun y hy => ?_)
    rw [norm_mem]
    rcases hmn y hy with rfl | ⟨h1, h3, hf, x, hxm, hab⟩
    · simp [goalOf]
    · exact List.mem_cons_of_mem _ (List.mem_map.2 ⟨x, hxm, goalLit_eq hA h1 h3 hab hf⟩)
  unfold foundP
  rw [hst, hch]
  simp
end
end Gate
end Go.Proofs.Ytobclpfpkpkocaa
