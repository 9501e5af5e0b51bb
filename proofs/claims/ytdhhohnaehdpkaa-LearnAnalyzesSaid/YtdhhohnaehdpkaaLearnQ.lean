/- The laws of learning in plain words: after a search the way back ends well. No program is named. Conditions: none. -/
import Derived.Test.YtdhhohnaehdpkaaLearnM
import Derived.Test.YtdhhohnaehdpkaaLearnV
import Derived.Test.YtdhhohnaehdpkaaChain
set_option linter.unusedVariables false
set_option linter.unusedSimpArgs false
set_option linter.unusedSectionVars false
open Go.RowKit
namespace Go.Proofs.Ytdhhohnaehdpkaa
open L R01 R14
namespace Learn
open Cla Trail
def cOf (L : List (List Int)) (r : Int) : List Int := L.getD r.toNat []
section
variable {vars : Nat} {es : Es} {L : List (List Int)} {g : Int}
theorem decs_take_le (es : Es) {i j : Nat} (h : i ≤ j) : decs (es.take i) ≤ decs (es.take j) := by
  unfold decs
  exact ((List.take_sublist_take_left h).filter _).length_le
theorem lev_mono {i j : Nat} (h : i ≤ j) : lev es i ≤ lev es j := by
  unfold lev
  exact decs_take_le es (by omega)
theorem lev_dec {k : Nat} (hk : k < es.length) (h : (at_ es k).2 < 0) : lev es k = decs (es.take k) + 1 := by
  have e : es.take (k + 1) = es.take k ++ [at_ es k] := by
    rw [List.take_add_one, List.getElem?_eq_getElem hk, at_get hk]
    rfl
  unfold lev decs
  rw [e, List.filter_append, List.length_append]
  simp [h]
theorem ordI {c : List Int} (ho : Cla.Ord c) {a b : Int} (ha : a ∈ c) (hb : b ∈ c) (e : a.natAbs = b.natAbs) : a = b := by
  obtain ⟨i, hi, rfl⟩ := List.getElem_of_mem ha
  obtain ⟨j, hj, rfl⟩ := List.getElem_of_mem hb
  have h := List.pairwise_iff_getElem.1 ho
  rcases Nat.lt_trichotomy i j with hij | hij | hij
  · have := h i j hi hj hij; omega
  · subst hij; rfl
  · have := h j i hj hi hij; omega
theorem many_pos' {c : List Int} (h : 0 < many es g c) : ∃ y ∈ c, lvl es y = g := by
  unfold many at h
  obtain ⟨y, hy⟩ := List.exists_mem_of_length_pos h
  have := List.mem_filter.1 hy
  exact ⟨y, this.1, by simpa using this.2⟩
theorem many_eq {c c' : List Int} (h1 : c.Nodup) (h2 : c'.Nodup) (h : ∀ z, lvl es z = g → (z ∈ c ↔ z ∈ c')) : many es g c = many es g c' := by
  unfold many
  refine ((List.perm_ext_iff_of_nodup (h1.filter _) (h2.filter _)).2 fun z => ?_).length_eq
  rw [List.mem_filter, List.mem_filter]
  constructor
  · rintro ⟨a, b⟩; exact ⟨(h z (by simpa using b)).1 a, b⟩
  · rintro ⟨a, b⟩; exact ⟨(h z (by simpa using b)).2 a, b⟩
theorem foldl_top (c : List Int) : ∀ m : Int, m ≤ c.foldl (fun m x => max m (lvl es x)) m ∧ (∀ x ∈ c, lvl es x ≤ c.foldl (fun m x => max m (lvl es x)) m) ∧ (c.foldl (fun m x => max m (lvl es x)) m = m ∨ ∃ x ∈ c, c.foldl (fun m x => max m (lvl es x)) m = lvl es x) := by
  induction c with
  | nil => exact fun m => ⟨Int.le_refl _, by simp, .inl rfl⟩
  | cons x c ih =>
    intro m
    obtain ⟨h1, h2, h3⟩ := ih (max m (lvl es x))
    simp only [List.foldl_cons]
    refine ⟨by omega, fun y hy => ?_, ?_⟩
    · rcases List.mem_cons.1 hy with rfl | hy
      · omega
      · exact h2 y hy
    · rcases h3 with h3 | ⟨y, hy, h3⟩
      · rcases Int.le_total m (lvl es x) with h | h
        · exact .inr ⟨x, by simp, by rw [h3]; omega⟩
        · left; rw [h3]; omega
      · exact .inr ⟨y, by simp [hy], h3⟩
/-- What the way back keeps. -/
structure Iv (L : List (List Int)) (vars : Nat) (es : Es) (g : Int) (k : Nat) (c h : List Int) : Prop where
  good : Good vars es c
  le : ∀ y ∈ c, lvl es y ≤ g
  hi : ∀ y ∈ c, k < pos es y.natAbs → lvl es y ≠ 0 ∧ (lvl es y = g → many es g c = 1)
  one : 0 < g → 0 < many es g c
  rng : ∀ r ∈ h, 0 ≤ r ∧ r < L.length ∧ validErr (cOf L r) = 0
  chain : ∀ no : List Int, (∀ y ∈ c, y ∈ no) → (∀ y ∈ no, tval vars es y = -1 ∧ (pos es y.natAbs ≤ k ∨ y ∈ c)) → chainLoop no (h.map (cOf L)) = 0
  sem : ∀ t : Int → Bool, (∀ y, y ≠ 0 → t (-y) = !t y) → (∀ r ∈ h, (cOf L r).any t = true) → c.any t = true
theorem tneg_x (hw : TWf vars es) {k : Nat} (hk : k < es.length) {y : Int} (ht : tval vars es y = -1) (hp : pos es y.natAbs = k + 1) : y = -(at_ es k).1 := by
  have := (tval_neg ht).2.2
  rw [hp] at this
  simp only [Nat.add_sub_cancel] at this
  omega
theorem x_true (hw : TWf vars es) {k : Nat} (hk : k < es.length) : tval vars es (at_ es k).1 = 1 := by
  unfold tval
  rw [if_pos (isLit_x hw hk), pos_of hw hk, if_neg (by omega), if_pos (by simp)]
theorem Iv.skip (hw : TWf vars es) {k : Nat} (hk : k < es.length) {c h : List Int} (H : Iv L vars es g (k + 1) c h) (hu : ¬ Used es g c k) : Iv L vars es g k c h := by
  refine ⟨H.good, H.le, fun y hy hp => ?_, H.one, H.rng, fun no h1 h2 => H.chain no h1 (fun y hy => ⟨(h2 y hy).1, ?_⟩), H.sem⟩
  · rcases (by omega : k + 1 < pos es y.natAbs ∨ pos es y.natAbs = k + 1) with h1 | h1
    · exact H.hi y hy h1
    · have e := tneg_x hw hk (H.good.no y hy) h1
      have hl := (lvl_at hw hk).2
      rw [← e] at hl
      rw [hl]
      refine ⟨fun h0 => hu ⟨e ▸ hy, .inl h0⟩, fun hg => ?_⟩
      exact Classical.byContradiction fun hm => hu ⟨e ▸ hy, .inr ⟨hg, hm⟩⟩
  · rcases (h2 y hy).2 with h3 | h3
    · left; omega
    · exact .inr h3
theorem pos_at_x (hw : TWf vars es) {k : Nat} (hk : k < es.length) : lvl es (at_ es k).1 = (lev es k : Nat) ∧ pos es (at_ es k).1.natAbs = k + 1 := ⟨(lvl_at hw hk).1, pos_of hw hk⟩
/-- The other literal of the greatest level. -/
theorem Iv.other (hw : TWf vars es) {k : Nat} (hk : k < es.length) {c h : List Int} (H : Iv L vars es g (k + 1) c h) (hx : -(at_ es k).1 ∈ c) (hl : ((lev es k : Nat) : Int) = g) (hm : many es g c ≠ 1) (hg : 0 < g) : ∃ z ∈ c, z ≠ -(at_ es k).1 ∧ lvl es z = g := by
  have h1 := H.one hg
  have h2 := many_erase (es := es) (g := g) (ord_nodup H.good.ord) hx
  rw [if_pos ((lvl_at hw hk).2.trans hl)] at h2
  obtain ⟨z, hz, hzl⟩ := many_pos' (es := es) (g := g) (c := c.erase (-(at_ es k).1)) (by omega)
  have := (ord_nodup H.good.ord).mem_erase_iff.1 hz
  exact ⟨z, this.2, this.1, hzl⟩
theorem pos_ne (hw : TWf vars es) {k : Nat} (hk : k < es.length) {y : Int} (ht : tval vars es y = -1) (hn : y ≠ -(at_ es k).1) : pos es y.natAbs ≠ k + 1 := fun h => hn (tneg_x hw hk ht h)
theorem Iv.reason (hm : Mv L vars es) {k : Nat} (hk : k < es.length) {c h : List Int} (H : Iv L vars es g (k + 1) c h) (hu : Used es g c k) : Fits L vars es k := by
  refine hm.fits k hk (Classical.byContradiction fun hn => ?_)
  have hd := lev_dec hk (show (at_ es k).2 < 0 by omega)
  obtain ⟨hx, h0 | ⟨hg, hm1⟩⟩ := hu
  · omega
  · obtain ⟨z, hz, hzn, hzl⟩ := H.other hm.wf hk hx hg hm1 (by omega)
    have hzt := H.good.no z hz
    have h1 : ¬ k + 1 < pos es z.natAbs := fun h => hm1 ((H.hi z hz h).2 hzl)
    have h2 := pos_ne hm.wf hk hzt hzn
    have h3 := (tval_neg hzt).2.1
    unfold lvl at hzl
    have h4 : lev es (pos es z.natAbs - 1) ≤ decs (es.take k) := by
      unfold lev
      exact decs_take_le es (by omega)
    omega
theorem Iv.use (hw : TWf vars es) {k : Nat} (hk : k < es.length) {c h : List Int} (hv : vars ≤ 65536) (H : Iv L vars es g (k + 1) c h) (hu : Used es g c k) (hf : Fits L vars es k) :
    Iv L vars es g k (resL (rsn L es k) c (at_ es k).1) ((at_ es k).2 :: h) := by
  obtain ⟨hE, hG, hM⟩ := res_ok hf.2.2.1 hf.2.2.2.1 H.good hu.1 (fun y hy hn => (hf.2.2.2.2 y hy hn).1) hv
  have hxm := hf.2.2.2.1
  have ho := (validErr_ok.1 hf.2.2.1).2
  have hx0 : (at_ es k).1 ≠ 0 := by have := (hw.lit _ (at_mem hk)).1; omega
  have hln := (lvl_at hw hk).2
  have hlk : ((lev es k : Nat) : Int) ≤ g := by rw [← hln]; exact H.le _ hu.1
  have hnx : -(at_ es k).1 ∉ rsn L es k := fun hm => by
    have := ordI ho hm hxm (by omega)
    omega
  -- the literals of the reason
  have hr : ∀ y ∈ rsn L es k, y ≠ (at_ es k).1 → tval vars es y = -1 ∧ pos es y.natAbs ≤ k ∧ lvl es y ≤ (lev es k : Nat) := fun y hy hn => by
    obtain ⟨h1, h2⟩ := hf.2.2.2.2 y hy hn
    have h3 := pos_ne hw hk h1 (fun e => hnx (e ▸ hy))
    refine ⟨h1, by omega, ?_⟩
    unfold lvl
    have := lev_mono (es := es) (i := pos es y.natAbs - 1) (j := k) (by omega)
    omega
  have hnd := ord_nodup H.good.ord
  have hnd2 := ord_nodup hG.ord
  have hsame : ((lev es k : Nat) : Int) ≠ g → many es g c = many es g (resL (rsn L es k) c (at_ es k).1) := fun hne => many_eq hnd hnd2 fun z hz => by
    rw [hM z]
    constructor
    · intro h1
      exact .inr ⟨h1, fun e => hne (by rw [← hln, ← e]; exact hz)⟩
    · rintro (⟨h1, h2⟩ | h1)
      · have := (hr z h1 h2).2.2
        omega
      · exact h1.1
  refine ⟨hG, fun y hy => ?_, fun y hy hp => ?_, fun hg => ?_, fun r hr' => ?_, fun no h1 h2 => ?_, fun t ht hh => ?_⟩
  · rcases (hM y).1 hy with ⟨h1, h2⟩ | h1
    · have := (hr y h1 h2).2.2; omega
    · exact H.le y h1.1
  · rcases (hM y).1 hy with ⟨h1, h2⟩ | ⟨h1, h2⟩
    · have := (hr y h1 h2).2.1; omega
    · have h3 := pos_ne hw hk (H.good.no y h1) h2
      obtain ⟨h4, h5⟩ := H.hi y h1 (by omega)
      refine ⟨h4, fun hg => ?_⟩
      have h6 := h5 hg
      rcases hu.2 with h7 | ⟨_, h7⟩
      · rw [← hsame (by omega)]; exact h6
      · exact absurd h6 h7
  · by_cases hne : ((lev es k : Nat) : Int) = g
    · have hm1 : many es g c ≠ 1 := by
        rcases hu.2 with h7 | h7
        · omega
        · exact h7.2
      obtain ⟨z, hz, hzn, hzl⟩ := H.other hw hk hu.1 hne hm1 hg
      exact many_pos ((hM z).2 (.inr ⟨hz, hzn⟩)) hzl
    · rw [← hsame hne]; exact H.one hg
  · rcases List.mem_cons.1 hr' with rfl | hr'
    · exact ⟨hf.1, hf.2.1, hf.2.2.1⟩
    · exact H.rng r hr'
  · have hl : left no (rsn L es k) = [(at_ es k).1] := by
      unfold left
      have hx : hasB no (at_ es k).1 = false := hasB_no.2 (fun hm => by
        have := (h2 _ hm).1
        rw [x_true hw hk] at this
        omega)
      have hyes : ∀ y ∈ rsn L es k, y ≠ (at_ es k).1 → hasB no y = true := fun y hy hn => hasB_iff.2 (h1 y ((hM y).2 (.inl ⟨hy, hn⟩)))
      have e1 : (rsn L es k).filter (fun y => !hasB no y) = (rsn L es k).filter (fun y => decide (y = (at_ es k).1)) := by
        refine List.filter_congr fun y hy => ?_
        by_cases e : y = (at_ es k).1
        · rw [e, hx]; simp
        · rw [hyes y hy e]; simp [e]
      rw [e1]
      have hnr := ord_nodup ho
      refine List.Perm.eq_singleton ((List.perm_ext_iff_of_nodup (hnr.filter _) (by simp)).2 fun z => ?_)
      rw [List.mem_filter]
      simp only [decide_eq_true_eq, List.mem_singleton]
      exact ⟨fun h => h.2, fun h => ⟨h ▸ hxm, h⟩⟩
    have hno : hasB no (-(at_ es k).1) = false := hasB_no.2 (fun hm => by
      have hp := (h2 _ hm).2
      rw [Int.natAbs_neg, pos_of hw hk] at hp
      rcases hp with hp | hp
      · omega
      · rcases (hM _).1 hp with h3 | h3
        · exact hnx h3.1
        · exact h3.2 rfl)
    show chainLoop no (cOf L (at_ es k).2 :: h.map (cOf L)) = 0
    rw [chainLoop, show left no (cOf L (at_ es k).2) = [(at_ es k).1] from hl]
    simp only
    rw [if_neg (by rw [hno]; simp)]
    refine H.chain _ (fun y hy => ?_) (fun y hy => ?_)
    · by_cases e : y = -(at_ es k).1
      · rw [e]; simp
      · exact List.mem_append_left _ (h1 y ((hM y).2 (.inr ⟨hy, e⟩)))
    · rcases List.mem_append.1 hy with hy | hy
      · refine ⟨(h2 y hy).1, ?_⟩
        rcases (h2 y hy).2 with h3 | h3
        · left; omega
        · rcases (hM y).1 h3 with h4 | h4
          · left; have := (hr y h4.1 h4.2).2.1; omega
          · exact .inr h4.1
      · rw [List.mem_singleton] at hy
        rw [hy]
        exact ⟨H.good.no _ hu.1, .inr hu.1⟩
  · have hc := H.sem t ht (fun r hr' => hh r (by simp [hr']))
    have ha := hh (at_ es k).2 (by simp)
    rw [List.any_eq_true] at hc ha ⊢
    obtain ⟨y, hy, hyt⟩ := ha
    by_cases e : y = (at_ es k).1
    · obtain ⟨z, hz, hzt⟩ := hc
      have hzn : z ≠ -(at_ es k).1 := fun e2 => by
        have := ht (at_ es k).1 hx0
        rw [← e2, hzt, ← e, hyt] at this
        cases this
      exact ⟨z, (hM z).2 (.inr ⟨hz, hzn⟩), hzt⟩
    · exact ⟨y, (hM y).2 (.inl ⟨hy, e⟩), hyt⟩
theorem go_run (hm : Mv L vars es) (hv : vars ≤ 65536) : ∀ (n : Nat) (c h : List Int), n ≤ es.length → Iv L vars es g n c h → ∃ d hs, go L vars es g n c h = (0, d, hs) ∧ Iv L vars es g 0 d hs
  | 0, c, h, _, H => ⟨c, h, rfl, H⟩
  | n + 1, c, h, hn, H => by
    by_cases hu : Used es g c n
    · have hf := H.reason hm (by omega) hu
      rw [go_used hu hf]
      exact go_run hm hv n _ _ (by omega) (H.use hm.wf (by omega) hv hu hf)
    · rw [go_skip hu]
      exact go_run hm hv n _ _ (by omega) (H.skip hm.wf (by omega) hu)
end
/-- What is learnt from the conflict of a search. -/
structure Lrn (L : List (List Int)) (vars : Nat) (es : Es) (cf : Int) (g : Int) (d hs : List Int) : Prop where
  res : anL L vars es cf = (0, d, second es g d, hs)
  top : g = top es (cOf L cf)
  good : Good vars es d
  lvls : ∀ y ∈ d, 1 ≤ lvl es y ∧ lvl es y ≤ g
  one : 0 < g → many es g d = 1
  none_ : g = 0 → d = []
  rng : ∀ r ∈ hs, 0 ≤ r ∧ r < L.length ∧ validErr (cOf L r) = 0
  chain : chainLoop d (hs.map (cOf L)) = 0
  sem : ∀ t : Int → Bool, (∀ y, y ≠ 0 → t (-y) = !t y) → (∀ r ∈ hs, (cOf L r).any t = true) → d.any t = true
  len : hs.length ≤ es.length + 1
theorem learnt {vars : Nat} {es : Es} {L : List (List Int)} {cf : Int} (hm : Mv L vars es) (hv : vars ≤ 65536) (h0 : 0 ≤ cf) (h1 : cf < L.length) (hok : validErr (cOf L cf) = 0) (hf : ∀ x ∈ cOf L cf, tval vars es x = -1) :
    ∃ g d hs, 0 ≤ g ∧ Lrn L vars es cf g d hs := by
  obtain ⟨k, rfl⟩ := Int.eq_ofNat_of_zero_le h0
  have e0 : L.getD k [] = cOf L k := by unfold cOf; rw [Int.toNat_natCast]
  have ha := anL_in (L := L) (vars := vars) (es := es) (k := k) (by omega)
  rw [e0] at ha
  generalize hc : cOf L k = c at *
  have hgd : Good vars es c := ⟨hok, hf⟩
  obtain ⟨t1, t2, t3⟩ := foldl_top (es := es) c 0
  have hI : Iv L vars es (top es c) es.length c [(k : Int)] := by
    refine ⟨hgd, t2, fun y hy hp => ?_, fun hg => ?_, fun r hr => ?_, fun no h1 h2 => ?_, fun t ht hh => ?_⟩
    · have := pos_le es y.natAbs; omega
    · rcases t3 with t3 | ⟨x, hx, t3⟩
      · have : top es c = 0 := t3
        omega
      · exact many_pos hx t3.symm
    · rw [List.mem_singleton] at hr
      rw [hr, hc]
      exact ⟨h0, h1, hok⟩
    · show chainLoop no [cOf L k] = 0
      have hl : left no (cOf L k) = [] := by
        unfold left
        rw [List.filter_eq_nil_iff]
        intro y hy
        rw [hc] at hy
        rw [hasB_iff.2 (h1 y hy)]
        simp
      rw [chainLoop, hl]
      rfl
    · have := hh (k : Int) (by simp)
      rwa [hc] at this
  obtain ⟨d, hs, hgo, H⟩ := go_run hm hv es.length c [(k : Int)] (Nat.le_refl _) hI
  have hp : ∀ y ∈ d, 0 < pos es y.natAbs := fun y hy => Nat.pos_of_ne_zero (tval_neg (H.good.no y hy)).2.1
  have hlv : ∀ y ∈ d, 1 ≤ lvl es y ∧ lvl es y ≤ top es c := fun y hy => by
    have := (H.hi y hy (hp y hy)).1
    have := lvl_nn es y
    exact ⟨by omega, H.le y hy⟩
  refine ⟨top es c, d, hs, t1, ?_, rfl.trans (by rw [hc]), H.good, hlv, fun hg => ?_, fun hg => ?_, H.rng, H.chain d (fun y hy => hy) (fun y hy => ⟨H.good.no y hy, .inr hy⟩), H.sem, by
    have := go_len (L := L) (vars := vars) (es := es) (g := top es c) es.length c [(k : Int)]
    rw [hgo] at this
    simpa using this⟩
  · rw [ha, if_neg (by rw [hok]; simp), if_neg, hgo]
    · rfl
    · rintro ⟨x, hx, hn⟩
      exact hn (hf x hx)
  · obtain ⟨y, hy, hyl⟩ := many_pos' (H.one hg)
    exact (H.hi y hy (hp y hy)).2 hyl
  · cases d with
    | nil => rfl
    | cons y d =>
      have := hlv y (by simp)
      omega
end Learn
end Go.Proofs.Ytdhhohnaehdpkaa
