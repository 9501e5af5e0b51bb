/- Walks through the laws of learning: LearnForces. Conditions: none. -/
import Derived.Test.YtdhhohnaehdpkaaLearnN
set_option linter.unusedVariables false
set_option linter.unusedSimpArgs false
set_option linter.unusedSectionVars false
open Go.RowKit
namespace Go.Proofs.Ytdhhohnaehdpkaa
open L
namespace Learn
open Trail Cla R01 R14
section
variable {vars : Nat} {es : Es} {L : List (List Int)} {g : Int}
theorem lev_ok {y : Int} (ht : tval vars es y = -1) : levelOf vars es (max y (-y)) = lvl es y ∧ noneOf vars es (max y (-y)) = 0 := by
  have e : max y (-y) = (y.natAbs : Int) := by omega
  obtain ⟨h1, h2, _⟩ := tval_neg ht
  unfold isLit at h1
  simp only [decide_eq_true_eq] at h1
  refine ⟨by rw [e]; exact lvl_eq ht, ?_⟩
  rw [e]
  unfold noneOf
  rw [if_pos (asg_of (by omega) (by omega) h2)]
/-- The last literal of a level. -/
def fz (es : Es) (g : Int) (l : List Int) : Int := l.foldl (fun a y => if lvl es y = g then y else a) 0
theorem fz_snoc (l : List Int) (y : Int) : fz es g (l ++ [y]) = if lvl es y = g then y else fz es g l := by unfold fz; rw [List.foldl_append]; rfl
theorem fz_mem {l : List Int} (h : 0 < many es g l) : fz es g l ∈ l ∧ lvl es (fz es g l) = g := by
  have key : ∀ (l : List Int) (a : Int), (0 < many es g l → l.foldl (fun a y => if lvl es y = g then y else a) a ∈ l ∧ lvl es (l.foldl (fun a y => if lvl es y = g then y else a) a) = g) ∧ (many es g l = 0 → l.foldl (fun a y => if lvl es y = g then y else a) a = a) := by
    intro l
    induction l with
    | nil => exact fun a => ⟨fun h => by simp [many] at h, fun _ => rfl⟩
    | cons x l ih =>
      intro a
      have h1 := many_cons (es := es) (g := g) x l
      simp only [List.foldl_cons]
      by_cases hx : lvl es x = g
      · rw [if_pos hx] at h1 ⊢
        refine ⟨fun _ => ?_, fun h => by omega⟩
        rcases Nat.eq_zero_or_pos (many es g l) with h2 | h2
        · rw [(ih x).2 h2]; exact ⟨by simp, hx⟩
        · have := (ih x).1 h2; exact ⟨by simp [this.1], this.2⟩
      · rw [if_neg hx] at h1 ⊢
        refine ⟨fun h => ?_, fun h => (ih a).2 (by omega)⟩
        have := (ih a).1 (by omega)
        exact ⟨by simp [this.1], this.2⟩
  exact (key l 0).1 h
theorem second_le (d : List Int) : (∀ y ∈ d, lvl es y ≠ g → lvl es y ≤ second es g d) ∧ 0 ≤ second es g d ∧ ((∀ y ∈ d, lvl es y ≤ g) → 0 < g → second es g d < g) ∧ (∀ n : Int, 0 ≤ n → (∀ y ∈ d, lvl es y ≤ n) → second es g d ≤ n) := by
  have key : ∀ (d : List Int) (m : Int), m ≤ d.foldl (fun m x => if lvl es x ≠ g then max m (lvl es x) else m) m ∧ (∀ y ∈ d, lvl es y ≠ g → lvl es y ≤ d.foldl (fun m x => if lvl es x ≠ g then max m (lvl es x) else m) m) ∧ ((∀ y ∈ d, lvl es y ≤ g) → m < g → d.foldl (fun m x => if lvl es x ≠ g then max m (lvl es x) else m) m < g) ∧ (∀ n : Int, m ≤ n → (∀ y ∈ d, lvl es y ≤ n) → d.foldl (fun m x => if lvl es x ≠ g then max m (lvl es x) else m) m ≤ n) := by
    intro d
    induction d with
    | nil => exact fun m => ⟨Int.le_refl _, by simp, fun _ h => h, fun n h _ => h⟩
    | cons x d ih =>
      intro m
      simp only [List.foldl_cons]
      by_cases hx : lvl es x ≠ g
      · rw [if_pos hx]
        obtain ⟨h1, h2, h3, h4⟩ := ih (max m (lvl es x))
        refine ⟨by omega, fun y hy hn => ?_, fun hle hm => h3 (fun y hy => hle y (by simp [hy])) (by have := hle x (by simp); omega), fun n hn hle => h4 n (by have := hle x (by simp); omega) (fun y hy => hle y (by simp [hy]))⟩
        rcases List.mem_cons.1 hy with rfl | hy
        · omega
        · exact h2 y hy hn
      · rw [if_neg hx]
        obtain ⟨h1, h2, h3, h4⟩ := ih m
        refine ⟨h1, fun y hy hn => ?_, fun hle hm => h3 (fun y hy => hle y (by simp [hy])) hm, fun n hn hle => h4 n hn (fun y hy => hle y (by simp [hy]))⟩
        rcases List.mem_cons.1 hy with rfl | hy
        · exact absurd hn hx
        · exact h2 y hy hn
  have := key d 0
  exact ⟨this.2.1, this.1, this.2.2.1, this.2.2.2⟩
theorem undoN_lt {level : Int} {i : Nat} (h : i < undoN es level) : (lev es i : Int) ≤ level := by
  unfold undoN at h
  cases hf : (List.range es.length).find? (fun i => decide (level < (lev es i : Int))) with
  | none =>
    rw [hf] at h
    simp only [Option.getD_none] at h
    have := List.find?_eq_none.1 hf i (List.mem_range.2 h)
    simpa using this
  | some n =>
    rw [hf] at h
    simp only [Option.getD_some] at h
    obtain ⟨h1, fs, bs, h2, h3⟩ := List.find?_eq_some_iff_append.1 hf
    have hmem : i ∈ fs := by
      have hl : (List.range es.length)[fs.length]? = some n := by rw [h2]; simp
      have hn : fs.length = n := by
        have := (List.getElem?_eq_some_iff.1 hl)
        obtain ⟨q1, q2⟩ := this
        simpa using q2
      have hi : (List.range es.length)[i]? = fs[i]? := by rw [h2, List.getElem?_append_left (by omega)]
      have hlt : i < es.length := by
        have := (List.getElem?_eq_some_iff.1 hl).1
        simp at this
        omega
      rw [List.getElem?_range hlt] at hi
      exact List.mem_of_getElem? hi.symm
    have := h3 i hmem
    simpa using this
theorem undoN_lev {level : Int} {m : Nat} (hm : m ≤ es.length) (h : ∀ i, i < m → (lev es i : Int) ≤ level) : m ≤ undoN es level := by
  refine Nat.le_of_not_lt fun hlt => ?_
  unfold undoN at hlt
  cases hf : (List.range es.length).find? (fun i => decide (level < (lev es i : Int))) with
  | none => rw [hf] at hlt; simp at hlt; omega
  | some n =>
    rw [hf] at hlt
    simp only [Option.getD_some] at hlt
    have h1 := List.find?_some hf
    have h2 := h n hlt
    simp at h1
    omega
theorem pos_take_lt {es : Es} {n : Nat} {v : Nat} (h0 : pos es v ≠ 0) (h : pos es v ≤ n) : pos (es.take n) v = pos es v := by
  unfold pos at *
  cases hf : es.findIdx? (fun e => e.1.natAbs == v) with
  | none => rw [hf] at h0; simp at h0
  | some i =>
    rw [hf] at h
    simp only [Option.map_some, Option.getD_some] at h
    obtain ⟨q1, q2, q3⟩ := List.findIdx?_eq_some_iff_getElem.1 hf
    have : (es.take n).findIdx? (fun e => e.1.natAbs == v) = some i := by
      rw [List.findIdx?_eq_some_iff_getElem]
      refine ⟨by rw [List.length_take]; omega, by rw [List.getElem_take]; exact q2, fun j hj => ?_⟩
      rw [List.getElem_take]
      exact q3 j hj
    rw [this]
theorem pos_take_ge {vars : Nat} {es : Es} {n : Nat} {v : Nat} (hw : TWf vars es) (h : n < pos es v) : pos (es.take n) v = 0 := by
  rw [pos_zero]
  intro e he hn
  obtain ⟨j, hj, rfl⟩ := List.getElem_of_mem he
  rw [List.length_take] at hj
  rw [List.getElem_take] at hn
  have h1 := pos_of hw (show j < es.length by omega)
  rw [at_get (by omega), hn] at h1
  omega
/-- What Next finds after going back. -/
theorem next_one {d : List Int} {y0 : Int} (hw : TWf 8 es) (hgd : Good 8 es d) (hg : 0 < g) (hle : ∀ y ∈ d, lvl es y ≤ g) (hm : many es g d = 1) (hy : y0 ∈ d) (hyl : lvl es y0 = g) :
    nextRes 8 (es.take (undoN es (second es g d))) [d] [true] = (y0, 0, 0) := by
  obtain ⟨s1, s2, s3, _⟩ := second_le (es := es) (g := g) d
  have s4 := s3 hle hg
  generalize second es g d = lo at *
  have hlow : ∀ y ∈ d, y ≠ y0 → tval 8 (es.take (undoN es lo)) y = -1 := fun y hyd hn => by
    obtain ⟨h1, h2, h3⟩ := tval_neg (hgd.no y hyd)
    have hlt := (pos_at h2).2
    have hne : lvl es y ≠ g := fun e => by
      have := many_erase (es := es) (g := g) (ord_nodup hgd.ord) hy
      rw [if_pos hyl, hm] at this
      have h4 : 0 < many es g (d.erase y0) := many_pos ((ord_nodup hgd.ord).mem_erase_iff.2 ⟨hn, hyd⟩) e
      omega
    have h4 := s1 y hyd hne
    have h5 : pos es y.natAbs ≤ undoN es lo := undoN_lev (by omega) (fun i hi => by
      have := lev_mono (es := es) (i := i) (j := pos es y.natAbs - 1) (by omega)
      unfold lvl at h4
      omega)
    have h6 := pos_take_lt h2 h5
    unfold tval
    rw [if_pos h1, h6, if_neg h2]
    have h7 : at_ (es.take (undoN es lo)) (pos es y.natAbs - 1) = at_ es (pos es y.natAbs - 1) := by
      unfold at_
      rw [List.getD_eq_getElem?_getD, List.getD_eq_getElem?_getD, List.getElem?_take, if_pos (by omega)]
    rw [h7, h3]
    unfold isLit at h1
    simp only [decide_eq_true_eq] at h1
    rw [if_neg (by omega)]
  have hopen : tval 8 (es.take (undoN es lo)) y0 = 0 := by
    obtain ⟨h1, h2, h3⟩ := tval_neg (hgd.no y0 hy)
    have h4 : undoN es lo < pos es y0.natAbs := by
      refine Nat.lt_of_not_le fun h => ?_
      have := undoN_lt (es := es) (level := lo) (i := pos es y0.natAbs - 1) (by omega)
      unfold lvl at hyl
      omega
    unfold tval
    rw [if_pos h1, pos_take_ge hw h4, if_pos rfl]
  have hlit : ∀ y ∈ d, isLit 8 y = true := fun y hyd => (tval_neg (hgd.no y hyd)).1
  have hcl : clOf 8 (es.take (undoN es lo)) d = some y0 := by
    refine clOf_end ?_ (.inr ?_)
    · rw [List.any_eq_false]
      intro y hyd
      by_cases e : y = y0
      · rw [e, hopen]; simp
      · rw [hlow y hyd e]; simp
    · have e1 : (d.filter fun x => tval 8 (es.take (undoN es lo)) x == 0) = d.filter (fun x => decide (x = y0)) := List.filter_congr fun y hyd => by
        by_cases e : y = y0
        · rw [e, hopen]; simp
        · rw [hlow y hyd e]; simp [e]
      rw [e1]
      refine List.Perm.eq_singleton ((List.perm_ext_iff_of_nodup ((ord_nodup hgd.ord).filter _) (by simp)).2 fun z => ?_)
      rw [List.mem_filter]
      simp only [decide_eq_true_eq, List.mem_singleton]
      exact ⟨fun h => h.2, fun h => ⟨h ▸ hy, h⟩⟩
  rw [next_res (by simp) (fun c hc x hx => by rw [List.mem_singleton] at hc; subst hc; exact hlit x hx)]
  simp only [List.zip_cons_cons, List.zip_nil_right, next_take hcl]
  rfl
end
end Learn
end Go.Proofs.Ytdhhohnaehdpkaa
