/- Learning from a conflict as plain data. No program is named. Conditions: none. Learning as plain data: what the way back needs. Conditions: none. -/
import Derived.Test.YtdhhohnaehdpkaaResolve
import Derived.Test.YtdhhohnaehdpkaaLrnA
import Derived.Test.YtdhhohnaehdpkaaLrnC
set_option linter.unusedVariables false
set_option linter.unusedSimpArgs false
set_option linter.unusedSectionVars false
section
open Go.RowKit
namespace Go.Proofs.Ytdhhohnaehdpkaa
open L R01 R14
namespace Learn
open Cla Trail
/-- The level of a literal that is assigned. -/
def lvl (es : Es) (x : Int) : Int := (lev es (pos es x.natAbs - 1) : Nat)
/-- How many literals are of a level. -/
def many (es : Es) (g : Int) (c : List Int) : Nat := (c.filter fun x => decide (lvl es x = g)).length
/-- The clause that is the reason of an entry. -/
def rsn (L : List (List Int)) (es : Es) (k : Nat) : List Int := L.getD (at_ es k).2.toNat []
/-- Does the reason fit? -/
def Fits (L : List (List Int)) (vars : Nat) (es : Es) (k : Nat) : Prop :=
  0 ≤ (at_ es k).2 ∧ (at_ es k).2 < L.length ∧ validErr (rsn L es k) = 0 ∧ (at_ es k).1 ∈ rsn L es k ∧ ∀ y ∈ rsn L es k, y ≠ (at_ es k).1 → tval vars es y = -1 ∧ pos es y.natAbs ≤ k + 1
/-- Is the entry resolved? -/
def Used (es : Es) (g : Int) (c : List Int) (k : Nat) : Prop := -(at_ es k).1 ∈ c ∧ ((lev es k : Nat) = (0 : Int) ∨ ((lev es k : Nat) : Int) = g ∧ many es g c ≠ 1)
open Classical in
/-- The way back along the trail. -/
noncomputable def go (L : List (List Int)) (vars : Nat) (es : Es) (g : Int) : Nat → List Int → List Int → Int × List Int × List Int
  | 0, c, h => (0, c, h)
  | k + 1, c, h => if Used es g c k then (if Fits L vars es k then go L vars es g k (resL (rsn L es k) c (at_ es k).1) ((at_ es k).2 :: h) else (14, [], [])) else go L vars es g k c h
/-- The greatest level. -/
def top (es : Es) (c : List Int) : Int := c.foldl (fun m x => max m (lvl es x)) 0
/-- The greatest level but one. -/
def second (es : Es) (g : Int) (c : List Int) : Int := c.foldl (fun m x => if lvl es x ≠ g then max m (lvl es x) else m) 0
open Classical in
noncomputable def anL (L : List (List Int)) (vars : Nat) (es : Es) (conflict : Int) : Int × List Int × Int × List Int :=
  if conflict < 0 ∨ (L.length : Int) ≤ conflict then (1, [], 0, []) else
  if validErr (L.getD conflict.toNat []) ≠ 0 then (validErr (L.getD conflict.toNat []), [], 0, []) else
  if ∃ x ∈ L.getD conflict.toNat [], tval vars es x ≠ -1 then (13, [], 0, []) else
  if (go L vars es (top es (L.getD conflict.toNat [])) es.length (L.getD conflict.toNat []) [conflict]).1 ≠ 0 then (14, [], 0, []) else
  (0, (go L vars es (top es (L.getD conflict.toNat [])) es.length (L.getD conflict.toNat []) [conflict]).2.1,
    second es (top es (L.getD conflict.toNat [])) (go L vars es (top es (L.getD conflict.toNat [])) es.length (L.getD conflict.toNat []) [conflict]).2.1,
    (go L vars es (top es (L.getD conflict.toNat [])) es.length (L.getD conflict.toNat []) [conflict]).2.2)
section
variable {vars : Nat} {es : Es} {L : List (List Int)} {g : Int}
theorem tval_neg {x : Int} (h : tval vars es x = -1) : isLit vars x = true ∧ pos es x.natAbs ≠ 0 ∧ (at_ es (pos es x.natAbs - 1)).1 = -x := by
  unfold tval at h
  by_cases h1 : isLit vars x = true
  · rw [if_pos h1] at h
    by_cases h2 : pos es x.natAbs = 0
    · rw [if_pos h2] at h; omega
    · rw [if_neg h2] at h
      by_cases h3 : (at_ es (pos es x.natAbs - 1)).1 = x
      · rw [if_pos h3] at h; omega
      · have := (pos_at h2).1
        exact ⟨h1, h2, by omega⟩
  · rw [if_neg h1] at h; omega
theorem lvl_at (h : TWf vars es) {k : Nat} (hk : k < es.length) : lvl es (at_ es k).1 = (lev es k : Nat) ∧ lvl es (-(at_ es k).1) = (lev es k : Nat) := by
  unfold lvl
  rw [Int.natAbs_neg, pos_of h hk]
  exact ⟨rfl, rfl⟩
/-- A clause all of whose literals are false. -/
structure Good (vars : Nat) (es : Es) (c : List Int) : Prop where
  ok : validErr c = 0
  no : ∀ x ∈ c, tval vars es x = -1
theorem Good.ord {c : List Int} (h : Good vars es c) : Ord c := (validErr_ok.1 h.ok).2
theorem ord_nodup {c : List Int} (h : Ord c) : c.Nodup := h.imp (fun {a b} h e => by subst e; omega)
theorem res_ok {a c : List Int} {x : Int} (ha : validErr a = 0) (hx : x ∈ a) (hc : Good vars es c) (hnx : -x ∈ c) (hfa : ∀ y ∈ a, y ≠ x → tval vars es y = -1) (hv : vars ≤ 65536) :
    resE a c x = 0 ∧ Good vars es (resL a c x) ∧ ∀ y, y ∈ resL a c x ↔ (y ∈ a ∧ y ≠ x) ∨ (y ∈ c ∧ y ≠ -x) := by
  have hr : ∀ y, y ∈ rest2 a c x ↔ (y ∈ a ∧ y ≠ x) ∨ (y ∈ c ∧ y ≠ -x) := fun y => by
    unfold rest2; rw [List.mem_append, wout_mem, wout_mem]
  have hn : ∀ y ∈ rest2 a c x, tval vars es y = -1 := fun y hy => by
    rcases (hr y).1 hy with h | h
    · exact hfa y h.1 h.2
    · exact hc.no y h.1
  have ht : taut (rest2 a c x) = false := by
    cases ht : taut (rest2 a c x) with
    | false => rfl
    | true =>
      unfold taut at ht
      rw [List.any_eq_true] at ht
      obtain ⟨y, hy, h2⟩ := ht
      have h2 : -y ∈ rest2 a c x := List.contains_iff_mem.1 h2
      have t1 := tval_neg (hn y hy)
      have t2 := tval_neg (hn _ h2)
      rw [Int.natAbs_neg] at t2
      have h0 : isLit vars y = true := t1.1
      unfold isLit at h0
      have := t1.2.2
      have := t2.2.2
      simp only [decide_eq_true_eq] at h0
      omega
  have hE : resE a c x = 0 := by
    unfold resE
    rw [if_neg (by rw [ha]; simp), if_neg (by rw [hc.ok]; simp), if_neg, if_neg (by rw [ht]; simp)]
    rintro (h | h)
    · exact hasB_no.1 h hx
    · exact hasB_no.1 h hnx
  have hL : resL a c x = norm (rest2 a c x) := by unfold resL; rw [if_pos hE]
  have hm : ∀ y, y ∈ resL a c x ↔ (y ∈ a ∧ y ≠ x) ∨ (y ∈ c ∧ y ≠ -x) := fun y => by rw [hL, norm_mem, hr]
  have hno : ∀ y ∈ resL a c x, tval vars es y = -1 := fun y hy => hn y ((hr y).2 ((hm y).1 hy))
  have hord : Ord (resL a c x) := by rw [hL]; exact norm_ord ht
  refine ⟨hE, ⟨validErr_ok.2 ⟨?_, hord⟩, hno⟩, hm⟩
  have hl : ∀ y ∈ resL a c x, 1 ≤ y.natAbs ∧ y.natAbs ≤ vars := fun y hy => by
    have h0 := (tval_neg (hno y hy)).1
    unfold isLit at h0
    simp only [decide_eq_true_eq] at h0
    omega
  have hlen : (resL a c x).length ≤ vars := by
    have := nodup_le vars ((resL a c x).map Int.natAbs) (List.pairwise_map.2 (hord.imp (fun {a b} h => by omega))) (fun z hz => by
      obtain ⟨y, hy, rfl⟩ := List.mem_map.1 hz
      exact hl y hy)
    simpa using this
  unfold listErr
  rw [if_neg (by omega), if_pos]
  rw [List.all_eq_true]
  intro y hy
  have := hl y hy
  unfold isL
  simp
  omega
theorem many_same {c c' : List Int} (h1 : c.Nodup) (h2 : c'.Nodup) (h : ∀ y, y ∈ c ↔ y ∈ c') : many es g c = many es g c' :=
  (((List.perm_ext_iff_of_nodup h1 h2).2 h).filter _).length_eq
theorem many_cons (x : Int) (c : List Int) : many es g (x :: c) = many es g c + if lvl es x = g then 1 else 0 := by
  unfold many
  by_cases h : lvl es x = g <;> simp [h]
theorem many_pos {c : List Int} {x : Int} (hx : x ∈ c) (h : lvl es x = g) : 0 < many es g c := by
  unfold many
  exact List.length_pos_of_mem (List.mem_filter.2 ⟨hx, by simpa using h⟩)
theorem many_zero {c : List Int} (h : many es g c = 0) {x : Int} (hx : x ∈ c) : lvl es x ≠ g := fun e => by have := many_pos hx e; omega
/-- Behind the last one that is resolved nothing changes. -/
theorem go_stop (hw : TWf vars es) {c h : List Int} (h0 : many es 0 c = 0) (h1 : many es g c ≤ 1) : ∀ k, k ≤ es.length → go L vars es g k c h = (0, c, h)
  | 0, _ => rfl
  | k + 1, hk => by
    have hn : ¬ Used es g c k := by
      rintro ⟨hx, hu⟩
      have hl := (lvl_at hw (show k < es.length by omega)).2
      rcases hu with hu | ⟨hu, hm⟩
      · exact many_zero h0 hx (hl.trans hu)
      · have := many_pos (g := g) hx (hl.trans hu)
        omega
    rw [go, if_neg hn]
    exact go_stop hw h0 h1 k (by omega)
end
end Learn
end Go.Proofs.Ytdhhohnaehdpkaa
end
section
open Go.RowKit
namespace Go.Proofs.Ytdhhohnaehdpkaa
open L R01 R14
namespace Learn
open Cla Trail
section
variable {vars : Nat} {es : Es} {L : List (List Int)} {g : Int}
theorem asg_of {v : Nat} (h0 : v ≠ 0) (hv : v ≤ vars) (hp : pos es v ≠ 0) : assigned vars es (v : Int) = true := by
  unfold assigned tval isLit
  simp only [Int.natAbs_natCast]
  rw [if_pos (by simp; omega), if_neg hp]
  by_cases h : (at_ es (pos es v - 1)).1 = (v : Int)
  · rw [if_pos h]; simp; omega
  · rw [if_neg h]; simp; omega
theorem lvl_eq {y : Int} (h : tval vars es y = -1) : levelOf vars es (y.natAbs : Int) = lvl es y := by
  obtain ⟨h1, h2, _⟩ := tval_neg h
  unfold isLit at h1
  simp only [decide_eq_true_eq] at h1
  unfold levelOf lvl
  rw [if_pos (asg_of (by omega) (by omega) h2), Int.natAbs_natCast]
theorem lvl_x (hw : TWf vars es) {k : Nat} (hk : k < es.length) : levelOf vars es ((at_ es k).1.natAbs : Int) = (lev es k : Nat) ∧ reasonOf vars es ((at_ es k).1.natAbs : Int) = (at_ es k).2 := by
  have hp := pos_of hw hk
  have hl := hw.lit _ (at_mem hk)
  unfold levelOf reasonOf
  rw [if_pos (asg_of (by omega) (by omega) (by omega)), if_pos (asg_of (by omega) (by omega) (by omega)), Int.natAbs_natCast, hp]
  exact ⟨rfl, rfl⟩
theorem isLit_x (hw : TWf vars es) {k : Nat} (hk : k < es.length) : isLit vars (at_ es k).1 = true := by
  have hl := hw.lit _ (at_mem hk)
  unfold isLit
  simp only [decide_eq_true_eq]
  omega
theorem bef_iff (hw : TWf vars es) {k : Nat} (hk : k < es.length) {y : Int} (hy : y.natAbs ≠ (at_ es k).1.natAbs) : befB vars es (at_ es k).1 y = true ↔ tval vars es y = -1 ∧ pos es y.natAbs ≤ k + 1 := by
  unfold befB place
  rw [pos_of hw hk]
  simp only [decide_eq_true_eq]
  constructor
  · rintro ⟨h1, h2⟩
    have := (tval_neg h1).2.1
    exact ⟨h1, by omega⟩
  · rintro ⟨h1, h2⟩
    have h3 := (tval_neg h1).2.1
    refine ⟨h1, ?_⟩
    have h4 : pos es y.natAbs ≠ k + 1 := fun e => by
      have := (pos_at (es := es) (v := y.natAbs) h3).1
      rw [e] at this
      exact hy (by simpa using this.symm)
    omega
theorem fit_iff (hw : TWf vars es) {k : Nat} (hk : k < es.length) : FitP L vars es (at_ es k).1 (at_ es k).2 ↔ Fits L vars es k := by
  unfold FitP Fits rsn
  constructor
  · rintro ⟨h1, h2, h3, h4, h5⟩
    refine ⟨h1, h2, h3, h4, fun y hy hn => (bef_iff hw hk ?_).1 (h5 y hy hn)⟩
    intro e
    have ho := (validErr_ok.1 h3).2
    exact hn (ord_inj ho hy h4 e)
  · rintro ⟨h1, h2, h3, h4, h5⟩
    refine ⟨h1, h2, h3, h4, fun y hy hn => (bef_iff hw hk ?_).2 (h5 y hy hn)⟩
    intro e
    have ho := (validErr_ok.1 h3).2
    exact hn (ord_inj ho hy h4 e)
where
  ord_inj {c : List Int} (ho : Ord c) {a b : Int} (ha : a ∈ c) (hb : b ∈ c) (e : a.natAbs = b.natAbs) : a = b := by
    obtain ⟨i, hi, rfl⟩ := List.getElem_of_mem ha
    obtain ⟨j, hj, rfl⟩ := List.getElem_of_mem hb
    have h := List.pairwise_iff_getElem.1 ho
    rcases Nat.lt_trichotomy i j with hij | hij | hij
    · have := h i j hi hj hij; omega
    · subst hij; rfl
    · have := h j i hj hi hij; omega
theorem many_erase {c : List Int} {x : Int} (hn : c.Nodup) (hx : x ∈ c) : many es g c = many es g (c.erase x) + if lvl es x = g then 1 else 0 := by
  rw [← many_cons]
  refine many_same hn ?_ (fun y => ?_)
  · exact List.nodup_cons.2 ⟨fun h => (hn.mem_erase_iff.1 h).1 rfl, hn.erase x⟩
  · constructor
    · intro h
      by_cases e : y = x
      · subst e; exact List.mem_cons_self
      · exact List.mem_cons_of_mem _ (hn.mem_erase_iff.2 ⟨e, h⟩)
    · intro h
      rcases List.mem_cons.1 h with rfl | h
      · exact hx
      · exact List.mem_of_mem_erase h
theorem many_le (c : List Int) : many es g c ≤ c.length := List.length_filter_le _ _
/-- One entry that is resolved. -/
theorem go_used {c : List Int} {k : Nat} (hu : Used es g c k) (hf : Fits L vars es k) {h : List Int} : go L vars es g (k + 1) c h = go L vars es g k (resL (rsn L es k) c (at_ es k).1) ((at_ es k).2 :: h) := by
  rw [go, if_pos hu, if_pos hf]
theorem go_bad {c : List Int} {k : Nat} (hu : Used es g c k) (hf : ¬ Fits L vars es k) {h : List Int} : go L vars es g (k + 1) c h = (14, [], []) := by
  rw [go, if_pos hu, if_neg hf]
theorem go_skip {c : List Int} {k : Nat} (hu : ¬ Used es g c k) {h : List Int} : go L vars es g (k + 1) c h = go L vars es g k c h := by
  rw [go, if_neg hu]
end
end Learn
end Go.Proofs.Ytdhhohnaehdpkaa
end
