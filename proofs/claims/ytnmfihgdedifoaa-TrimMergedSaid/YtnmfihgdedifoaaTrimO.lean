/- Walks through the reference of package trim: Spoilt. Conditions: none. -/
import Derived.Test.YtnmfihgdedifoaaTrimN
set_option linter.unusedVariables false
set_option linter.unusedSimpArgs false
set_option linter.unusedSectionVars false
open Go.RowKit
namespace Go.Proofs.Ytnmfihgdedifoaa
open L R01
namespace Trim
theorem ownsRow_setK {w : World} {e : TypeId} {k g n cap i : Nat} {xs : List Value} (h : w.ownsRow 0 e k (.slice (some ⟨g, 0, none⟩) n cap) n xs) (u : Value) : (w.setCell ⟨g, i, none⟩ u).ownsRow 0 e k (.slice (some ⟨g, 0, none⟩) n cap) n (xs.set i u) := by
  refine ⟨by rw [List.length_set]; exact h.1, ?_⟩
  rcases h.2 with ⟨h1, _⟩ | ⟨g', cap', cur, hv, hb, hg, hnc, hcm, hcs, htake⟩
  · cases h1
  · simp only [Value.slice.injEq, Option.some.injEq, Addr.mk.injEq, and_true] at hv
    obtain ⟨rfl, _, rfl⟩ := hv
    have hB : Blk w g cur.toList e := by unfold Blk; rw [hg]
    have hS := hB.set i u
    refine .inr ⟨g, cap, (cur.toList.set i u).toArray, rfl, hb, hS, hnc, hcm, by simpa using hcs, ?_⟩
    simp only [List.toList_toArray]
    rw [← htake, List.take_set]
theorem ownsRow_free {w : World} {e : TypeId} {k g n cap : Nat} {xs : List Value} (h : w.ownsRow 0 e k (.slice (some ⟨g, 0, none⟩) n cap) n xs) (i : Nat) : w.frozen? ⟨g, i, none⟩ = false := by
  rcases h.2 with ⟨h1, _⟩ | ⟨g', cap', cur, hv, hb, hg, hnc, hcm, hcs, htake⟩
  · cases h1
  · simp only [Value.slice.injEq, Option.some.injEq, Addr.mk.injEq, and_true] at hv
    obtain ⟨rfl, _, rfl⟩ := hv
    have hB : Blk w g cur.toList e := by unfold Blk; rw [hg]
    exact hB.free i
theorem ownsRow_cell {w : World} {e : TypeId} {k g n cap : Nat} {xs : List Value} (h : w.ownsRow 0 e k (.slice (some ⟨g, 0, none⟩) n cap) n xs) {i : Nat} {v : Value} (hi : xs[i]? = some v) : w.cell? ⟨g, i, none⟩ = some v := by
  have := h.cells (g := g) rfl i v hi
  rwa [addr_add, Nat.zero_add] at this
theorem rows_set {f : Nat → List Value} {k i j : Nat} {u : Value} (hf : ∀ i, (f i).length = k) (hj : j < k) {n : Nat} (hi : i < n) : (rows n f).set (i * k + j) u = rows n (fun m => if m = i then (f i).set j u else f m) := by
  have hf' : ∀ m, ((fun m => if m = i then (f i).set j u else f m) m).length = k := fun m => by
    by_cases h : m = i
    · simp [h, hf]
    · simp [h, hf]
  apply List.ext_getElem?
  intro q
  have hk : 0 < k := by omega
  by_cases hq : q < n * k
  · have hqi : q / k < n := (Nat.div_lt_iff_lt_mul hk).2 hq
    have hqj : q % k < k := Nat.mod_lt _ hk
    have e : q = q / k * k + q % k := by rw [Nat.mul_comm]; exact (Nat.div_add_mod q k).symm
    have hA := rows_get hf' (j := q % k) hqj (n := n) hqi
    rw [← e] at hA
    have hC := rows_get hf (j := q % k) hqj (n := n) hqi
    rw [← e] at hC
    rw [List.getElem?_set, hA]
    by_cases h1 : i * k + j = q
    · have h2 : q / k = i := by rw [← h1, Nat.mul_comm, Nat.mul_add_div hk, Nat.div_eq_of_lt hj, Nat.add_zero]
      have h3 : q % k = j := by rw [← h1, Nat.mul_comm, Nat.mul_add_mod, Nat.mod_eq_of_lt hj]
      rw [if_pos h1, if_pos (by rw [rows_length hf, h1]; exact hq)]
      show some u = (if q / k = i then (f i).set j u else f (q / k))[q % k]?
      rw [if_pos h2, h3, List.getElem?_set]
      simp [hf, hj]
    · rw [if_neg h1]
      rw [hC]
      show (f (q / k))[q % k]? = (if q / k = i then (f i).set j u else f (q / k))[q % k]?
      by_cases h2 : q / k = i
      · rw [if_pos h2, h2, List.getElem?_set]
        have : j ≠ q % k := fun h => h1 (by rw [h, ← h2]; exact e.symm)
        rw [if_neg this]
      · rw [if_neg h2]
  · rw [List.getElem?_eq_none (by rw [List.length_set, rows_length hf]; omega), List.getElem?_eq_none (by rw [rows_length hf']; omega)]
/-- One cell of one step stored. -/
theorem stL_setCell {W : World} {g cap : Nat} {l : List StepD} {f : Nat → List Value} (h1 : W.ownsRow 0 56 7 (.slice (some ⟨g, 0, none⟩) l.length cap) l.length (rows l.length f)) (h2 : ∀ i, (f i).length = 7) (h3 : ∀ (i : Nat) (s : StepD), l[i]? = some s → StR W s (f i))
    {i j : Nat} {u : Value} {st : StepD} (hi : i < l.length) (hj : j < 7) (hs : StR W st ((f i).set j u)) : StL (W.setCell ⟨g, i * 7 + j, none⟩ u) (.slice (some ⟨g, 0, none⟩) l.length cap) (l.set i st) := by
  have us : Upd [g] W (W.setCell ⟨g, i * 7 + j, none⟩ u) := (Upd.refl _ W).set (.inl (by simp)) _
  have hT : Off W [g] [3] := fun b hb => ⟨56, row_kind h1 (by simp at hb; subst hb; rfl), by decide⟩
  have hr := ownsRow_setK (i := i * 7 + j) h1 u
  rw [rows_set h2 hj hi] at hr
  refine ⟨fun m => if m = i then (f i).set j u else f m, ?_, fun m => ?_, fun m s hm => ?_⟩
  · rw [List.length_set]; exact hr
  · by_cases h : m = i
    · simp [h, h2]
    · simp [h, h2]
  · rw [List.getElem?_set] at hm
    by_cases h : i = m
    · subst h
      rw [if_pos rfl, if_pos hi] at hm
      cases hm
      show StR _ st (if i = i then (f i).set j u else f i)
      rw [if_pos rfl]
      exact hs.kd hT (by simp) us
    · rw [if_neg h] at hm
      show StR _ s (if m = i then (f i).set j u else f m)
      rw [if_neg (fun e => h e.symm)]
      exact (h3 m s hm).kd hT (by simp) us
/-- Bounds of a proof's parts. -/
def SmB (B : Nat) (p : PrfD) : Prop := p.steps.length ≤ 1000 ∧ ∀ (k : Nat) (st : StepD), p.steps[k]? = some st → st.params.length ≤ B ∧ st.lits.length ≤ B ∧ st.hints.length ≤ B ∧ st.name.size ≤ B
/-- A proof under way in Spoilt. -/
structure SpO (w : World) (n g cap : Nat) (vl : Value) (L : List LemD) (l : List StepD) (W : World) : Prop where
  box : Blk W (w.heap.size + 2) [vl, .slice (some ⟨g, 0, none⟩) n cap] 30
  res : Blk W (w.heap.size + 1) [.slice none 0 0, .slice none 0 0] 30
  lem : LmL W vl L
  st : StL W (.slice (some ⟨g, 0, none⟩) n cap) l
  fresh : w.heap.size + 2 < g
  u : Upd [] w W
theorem stC_one (s : StepD) (a b c : Value) (ha : a.oneCell' = true) (hb : b.oneCell' = true) (hc : c.oneCell' = true) : ∀ u ∈ stC s a b c, u.oneCell' = true := by
  intro u hu
  simp only [stC, List.mem_cons, List.not_mem_nil, or_false] at hu
  rcases hu with rfl | rfl | rfl | rfl | rfl | rfl | rfl <;> first | rfl | assumption
theorem rowI_one {w : World} {v : Value} {xs : List Int} (h : RowI w v xs) : v.oneCell' = true := by
  obtain ⟨a, c, rfl, _⟩ := h.cells
  rfl
theorem rows_oneC {w : World} {l : List StepD} {f : Nat → List Value} (h3 : ∀ (i : Nat) (s : StepD), l[i]? = some s → StR w s (f i)) : ∀ u ∈ rows l.length f, u.oneCell' = true := by
  intro u hu
  unfold rows at hu
  obtain ⟨i, hi, hu⟩ := List.mem_flatMap.1 hu
  have hi' := List.mem_range.1 hi
  obtain ⟨vp, vl, vh, e, hF⟩ := h3 i _ (List.getElem?_eq_getElem hi')
  rw [e] at hu
  exact stC_one _ _ _ _ (rowI_one hF.1) (rowI_one hF.2.1) (rowI_one hF.2.2.1) u hu
theorem ints_oneT (l : List Int) : ∀ u ∈ ints l, u.oneCell' = true := by
  intro u hu
  obtain ⟨x, _, rfl⟩ := List.mem_map.1 hu
  simp [Value.oneCell']
theorem SpO.put {w W : World} {g cap : Nat} {vl : Value} {L : List LemD} {l : List StepD} (h : SpO w l.length g cap vl L l W) (hL : LmL w vl L) {i j : Nat} {u : Value} {st st' : StepD} (hi : l[i]? = some st) (hj : j < 7)
    (hs : ∀ vp vl vh, StF W st vp vl vh → StR W st' ((stC st vp vl vh).set j u)) : SpO w l.length g cap vl L (l.set i st') (W.setCell ⟨g, i * 7 + j, none⟩ u) := by
  obtain ⟨f, s1, s2, s3⟩ := h.st
  have hil := (List.getElem?_eq_some_iff.1 hi).1
  obtain ⟨vp, vl2, vh, e, hF⟩ := s3 i st hi
  have us : Upd [g] W (W.setCell ⟨g, i * 7 + j, none⟩ u) := (Upd.refl _ W).set (.inl (by simp)) _
  have hu := h.u.fresh us (fun k hk => .inr (by simp at hk; have := h.fresh; omega))
  have hg := h.fresh
  exact ⟨h.box.upd us (by simp; omega), h.res.upd us (by simp; omega), hL.ext hu, stL_setCell s1 s2 s3 hil hj (by rw [e]; exact hs _ _ _ hF), h.fresh, hu⟩
theorem SpO.free {w W : World} {g cap : Nat} {vl : Value} {L : List LemD} {l : List StepD} (h : SpO w l.length g cap vl L l W) (i : Nat) : W.frozen? ⟨g, i, none⟩ = false := by
  obtain ⟨f, s1, s2, s3⟩ := h.st
  exact ownsRow_free s1 i
theorem SpO.ext {w W W' : World} {n g cap : Nat} {vl : Value} {L : List LemD} {l : List StepD} (h : SpO w n g cap vl L l W) (u : Upd [] W W') : SpO w n g cap vl L l W' :=
  ⟨h.box.upd u (by simp), h.res.upd u (by simp), h.lem.ext u, h.st.ext u, h.fresh, h.u.step u⟩
theorem smB_set {B : Nat} {p : PrfD} {L : List LemD} {i : Nat} {st : StepD} (h : SmB B p) (h1 : st.params.length ≤ B + 1 ∧ st.lits.length ≤ B + 1 ∧ st.hints.length ≤ B + 1 ∧ st.name.size ≤ B + 1) : SmB (B + 1) ⟨L, p.steps.set i st⟩ := by
  refine ⟨by rw [List.length_set]; exact h.1, fun k s hk => ?_⟩
  rw [List.getElem?_set] at hk
  by_cases e : i = k
  · subst e
    rw [if_pos rfl] at hk
    split at hk
    · cases hk; exact h1
    · cases hk
  · rw [if_neg e] at hk
    have := h.2 k s hk
    omega
section
variable {w : World}
set_option maxRecDepth 100000 in
set_option maxHeartbeats 8000000 in
theorem Spoilt_calls {v : Value} {p : PrfD} {B : Nat} {at_ how by_ : Int} (h : PrL w v p) (hB : SmB B p) (hB2 : B ≤ 1000) (ha : IsI64 at_) (hh : IsI64 how) (hb : IsI64 by_) :
    Calls Try.prog 30 #[v, .int .i64 at_, .int .i64 how, .int .i64 by_] w fun e w' => ∃ v' p', e = .returned v' ∧ PrL w' v' p' ∧ SmB (B + 1) p' ∧ (p'.lemmas = p.lemmas ∨ p'.lemmas = []) ∧ Upd [] w w' := by
  obtain ⟨vl, vs, rfl, hL, hS⟩ := h
  obtain ⟨al, cl, rfl, ql, rl⟩ := hL.form
  obtain ⟨a2, c2, rfl, qs, rs, hat⟩ := hS.at_
  obtain ⟨f, h1, h2, h3⟩ := hS
  have hn1000 : p.steps.length ≤ 1000 := hB.1
  have hz1 : (w.alloc (.cells #[.slice al p.lemmas.length cl, .slice a2 p.steps.length c2] 30)).heap.size = w.heap.size + 1 := by simp
  have b1 := Blk.new w [.slice al p.lemmas.length cl, .slice a2 p.steps.length c2] 30
  have b2 := Blk.new (w.alloc (.cells #[.slice al p.lemmas.length cl, .slice a2 p.steps.length c2] 30)) [.slice none 0 0, .slice none 0 0] 30
  rw [hz1] at b2
  have u1 := (Upd.refl [] w).alloc (.cells #[.slice al p.lemmas.length cl, .slice a2 p.steps.length c2] 30)
  have e1 : ∃ w1, w1 = w.alloc (.cells #[.slice al p.lemmas.length cl, .slice a2 p.steps.length c2] 30) := ⟨_, rfl⟩
  obtain ⟨w1, hw1⟩ := e1
  rw [← hw1] at hz1 b1 b2 u1
  have b1' := b1.alloc (.cells #[.slice none 0 0, .slice none 0 0] 30)
  have u2 := u1.alloc (.cells #[.slice none 0 0, .slice none 0 0] 30)
  have hz2 : (w1.alloc (.cells #[.slice none 0 0, .slice none 0 0] 30)).heap.size = w.heap.size + 2 := by simp; omega
  obtain ⟨w2, hw2⟩ : ∃ w2, w2 = w1.alloc (.cells #[.slice none 0 0, .slice none 0 0] 30) := ⟨_, rfl⟩
  rw [← hw2] at b2 b1' u2 hz2
  have b3 := Blk.new w2 [.slice al p.lemmas.length cl, .slice none 0 0] 30
  have b2' := b2.alloc (.cells #[.slice al p.lemmas.length cl, .slice none 0 0] 30)
  have b1'' := b1'.alloc (.cells #[.slice al p.lemmas.length cl, .slice none 0 0] 30)
  have u3 := u2.alloc (.cells #[.slice al p.lemmas.length cl, .slice none 0 0] 30)
  rw [hz2] at b3
  have c0 := b1'.cell (i := 0) rfl
  have c1 := b1''.cell (i := 1) rfl
  have x0 := b3.cell (i := 0) rfl
  have x1 := b3.cell (i := 1) rfl
  have hsl : SL _ 7 (.slice a2 p.steps.length c2) p.steps.length (rows p.steps.length f) := (SL.of_owns h1).upd u3 (by simp)
  have HI := Lib.hid (And.intro hsl (And.intro (rows_oneC h3) (And.intro b3 (And.intro b2' (And.intro u3 (And.intro hL (And.intro h2 (And.intro h3 (And.intro hB (And.intro ha (And.intro hh hb)))))))))))
  clear hsl b1 b1' b1'' b2 b2' b3 u1 u2 u3 hL h1 h2 h3 hB ha hh hb hat hz1 hz2
  subst hw2
  subst hw1
  go_enter Try.func30, Try.ntmps30
  go_upto_region 2 with fail
  generalize (((w.alloc (.cells #[.slice al p.lemmas.length cl, .slice a2 p.steps.length c2] 30)).alloc (.cells #[.slice none 0 0, .slice none 0 0] 30)).alloc (.cells #[.slice al p.lemmas.length cl, .slice none 0 0] 30)) = w3 at *
  go_upto_region 3 with (refine wpList_appS rfl _ _ _ rfl 56 7 112 _ Try.underlying28 infoStep rfl (by decide) (.slice none 0 0) 0 [] rfl (World.ownsRow_nil _ _ _ _) (.slice a2 p.steps.length c2) p.steps.length (rows p.steps.length f) rfl HI.out.1 HI.out.2.1 (by unfold maxLen; omega) (by omega) ?_; intro a6 c6 w6 o6 u6 k6; rw [Nat.zero_add] at o6 k6 ⊢; rw [List.nil_append] at o6; have b6 := HI.out.2.2.1.upd u6 (by simp [Value.ownBlock]); have f6 := b6.free 1; have x6 := b6.cell (i := 1) rfl; have H6 := Lib.hid (And.intro b6 (And.intro o6 (And.intro k6 (show Upd [] w3 w6 from u6)))); clear o6 k6 u6 b6)
  have u7 : Upd [w.heap.size + 2] w6 (w6.setCell ⟨w.heap.size + 2, 1, none⟩ (.slice a6 p.steps.length c6)) := (Upd.refl _ w6).set (.inl (by simp)) _
  have hob : Off w6 [w.heap.size + 2] [3, 88, 56, 82] := off_blk H6.out.1 (by decide)
  have hres := (HI.out.2.2.2.1.upd H6.out.2.2.2 (by simp)).upd u7 (by simp)
  have hlem := ((HI.out.2.2.2.2.2.1.ext HI.out.2.2.2.2.1).ext H6.out.2.2.2).kd hob (by simp) (by simp) (by simp) (by simp) u7
  have hst : StL w6 (.slice a6 p.steps.length c6) p.steps := ⟨f, H6.out.2.1, HI.out.2.2.2.2.2.2.1, fun i s hs => ((HI.out.2.2.2.2.2.2.2.1 i s hs).ext HI.out.2.2.2.2.1).ext H6.out.2.2.2⟩
  have hst7 := hst.kd hob (by simp) (by simp) u7
  have hbox := H6.out.1.set 1 (.slice a6 p.steps.length c6)
  have hu := (HI.out.2.2.2.2.1.step H6.out.2.2.2).fresh u7 (fun k hk => .inr (by simp at hk; omega))
  have hz3 := HI.out.2.2.1.lt
  have H7 := Lib.hid (And.intro (show Blk _ (w.heap.size + 2) [.slice al p.lemmas.length cl, .slice a6 p.steps.length c6] 30 from hbox) (And.intro hres (And.intro hlem (And.intro hst7 hu))))
  have hk6 := H6.out.2.2.1
  clear u7 hob hres hlem hst hst7 hbox hu f6 x6 c0 c1 x0 x1
  generalize (w6.setCell ⟨w.heap.size + 2, 1, none⟩ (.slice a6 p.steps.length c6)) = w7 at *
  rcases Nat.eq_zero_or_pos p.steps.length with hn0 | hnp
  · have hb : ((p.steps.length : Int) == 0) = true := by rw [hn0]; rfl
    have y0 := H7.out.1.cell (i := 0) rfl
    have y1 := H7.out.1.cell (i := 1) rfl
    have r0 := H7.out.2.1.cell (i := 0) rfl
    have r1 := H7.out.2.1.cell (i := 1) rfl
    have fr0 := H7.out.2.1.free 0
    have fr1 := H7.out.2.1.free 1
    have us : Upd [w.heap.size + 1] w7 ((w7.setCell ⟨w.heap.size + 1, 0, none⟩ (.slice al p.lemmas.length cl)).setCell ⟨w.heap.size + 1, 1, none⟩ (.slice a6 p.steps.length c6)) := ((Upd.refl _ w7).set (.inl (by simp)) _).set (.inl (by simp)) _
    have BR : Blk _ (w.heap.size + 1) [.slice al p.lemmas.length cl, .slice a6 p.steps.length c6] 30 := (H7.out.2.1.set 0 (.slice al p.lemmas.length cl)).set 1 (.slice a6 p.steps.length c6)
    have hor : Off w7 [w.heap.size + 1] [3, 88, 56, 82] := off_blk H7.out.2.1 (by decide)
    have HX := Lib.hid (And.intro BR (And.intro (H7.out.2.2.1.kd hor (by simp) (by simp) (by simp) (by simp) us) (And.intro (H7.out.2.2.2.1.kd hor (by simp) (by simp) us) (H7.out.2.2.2.2.fresh us (fun k hk => .inr (by simp at hk; omega))))))
    clear us BR hor hn0 hk6
    go_wp2_with fail
    exact ret_rowT rfl rfl HX.out.1 Try.underlying30 (by kernel_rfl) rfl ⟨_, p, rfl, ⟨_, _, rfl, HX.out.2.1, HX.out.2.2.1⟩, ⟨hn1000, fun k st hk => by have h := HI.out.2.2.2.2.2.2.2.2.1.2 k st hk; omega⟩, .inl rfl, HX.out.2.2.2⟩
  · have hb : ((p.steps.length : Int) == 0) = false := beq_eq_false_iff_ne.2 (by omega)
    obtain ⟨g, cg, he, hgl, hgc⟩ := owns_form H6.out.2.1 hnp
    cases he
    have hg3 : w.heap.size + 2 < g := by
      rcases hk6 with hk6 | hk6
      · simp [Value.ownBlock] at hk6
      · simp [Value.ownBlock] at hk6; omega
    clear hk6
    have HO := Lib.hid (show SpO w p.steps.length g c6 (.slice al p.lemmas.length cl) p.lemmas p.steps w7 from ⟨H7.out.1, H7.out.2.1, H7.out.2.2.1, H7.out.2.2.2.1, hg3, H7.out.2.2.2.2⟩)
    have HB := Lib.hid HI.out.2.2.2.2.2.2.2.2
    have HLm := Lib.hid HI.out.2.2.2.2.2.1
    have i0 := around_lo (n := at_) (k := (p.steps.length : Int)) (by omega)
    have i1 := around_hi (n := at_) (k := (p.steps.length : Int)) (by omega)
    have h0 := around_lo (n := how) (k := 5) (by omega)
    have h5 := around_hi (n := how) (k := 5) (by omega)
    have HA1 := Lib.hid (fun w : World => Around_calls at_ (p.steps.length : Int) w HB.out.2.1 (by omega) (by omega))
    have HA2 := Lib.hid (fun w : World => Around_calls how 5 w HB.out.2.2.1 (by omega) (by omega))
    have y0 := H7.out.1.cell (i := 0) rfl
    have y1 := H7.out.1.cell (i := 1) rfl
    clear H6 H7 HI
    generalize around at_ (p.steps.length : Int) = ii at *
    generalize around how 5 = hw at *
    obtain ⟨i, rfl⟩ := Int.eq_ofNat_of_zero_le i0
    have hil : i < p.steps.length := by omega
    clear i0
    go_upto_block 0 with (first | (go_at_call 12; (with_reducible refine (HA1.out _).mono ?_); rintro e _ ⟨rfl, rfl⟩) | (go_at_call 12; (with_reducible refine (HA2.out _).mono ?_); rintro e _ ⟨rfl, rfl⟩))
    go_cut [10] (fun o w' => ∃ (al' : Option Addr) (cl' : Nat) (L' : List LemD) (l' : List StepD), l'.length = p.steps.length ∧ SpO w p.steps.length g c6 (.slice al' L'.length cl') L' l' w' ∧ SmB (B + 1) ⟨L', l'⟩ ∧ (L' = p.lemmas ∨ L' = []))
    case first =>
      have hs' := List.getElem?_eq_getElem hil
      obtain ⟨a9, cap9, he9, _, _, hat⟩ := HO.out.st.at_
      cases he9
      obtain ⟨g9, vp, vl2, vh, hg9, hcell, hF⟩ := hat i _ hs'
      cases hg9
      have hsm := HB.out.1.2 i _ hs'
      generalize p.steps[i] = st at *
      have e0 := hcell 0 _ rfl
      have e1 := hcell 1 _ rfl
      have e6 := hcell 6 _ rfl
      rw [Nat.add_zero] at e0
      have f0 := HO.out.free (i * 7 + 0)
      have f1 := HO.out.free (i * 7 + 1)
      have f6 := HO.out.free (i * 7 + 6)
      rw [Nat.add_zero] at f0
      obtain ⟨ah, ch, rfl, qh, rh, _⟩ := hF.2.2.1.cells
      have HF := Lib.hid (And.intro hs' (And.intro hF hsm))
      clear hat hcell hs' hF
      have hcs : hw = 0 ∨ hw = 1 ∨ hw = 2 ∨ hw = 3 ∨ (hw ≠ 0 ∧ hw ≠ 1 ∧ hw ≠ 2 ∧ hw ≠ 3) := by omega
      rcases hcs with rfl | rfl | rfl | rfl | ⟨q0, q1, q2, q3⟩
      · have HP := Lib.hid (HO.out.put HLm.out (j := 0) (u := .int .i64 by_) (st' := { st with kind := by_ }) HF.out.1 (by omega) (fun vp vl vh h => ⟨vp, vl, vh, rfl, h.1, h.2.1, h.2.2.1, HB.out.2.2.2, h.2.2.2.2⟩))
        have HS := Lib.hid (smB_set (L := p.lemmas) (i := i) (st := { st with kind := by_ }) HB.out.1 (by show st.params.length ≤ B + 1 ∧ st.lits.length ≤ B + 1 ∧ st.hints.length ≤ B + 1 ∧ st.name.size ≤ B + 1; omega))
        go_wp2_with fail
        all_goals go_meet
        all_goals case rel => exact ⟨al, cl, p.lemmas, _, List.length_set, HP.out, HS.out, .inl rfl⟩
      · have HRW := Lib.hid (And.intro HF.out.2.1.2.2.1 (ints_oneT st.hints))
        have hhl : st.hints.length ≤ 1000 := by omega
        have ib0 := around_lo (n := by_) (k := (i : Int) + 2) (by omega)
        have ib1 := around_hi (n := by_) (k := (i : Int) + 2) (by omega)
        have HA3 := Lib.hid (fun w : World => Around_calls by_ ((i : Int) + 2) w HB.out.2.2.2 (by omega) (by omega))
        generalize around by_ ((i : Int) + 2) = hn at *
        clear HA1 HA2
        go_upto_region 13 with (refine wpList_appS rfl _ _ _ rfl 3 1 8 _ Try.underlying22 infoInt rfl (by decide) (.slice none 0 0) 0 [] rfl (World.ownsRow_nil _ _ _ _) (.slice ah st.hints.length ch) st.hints.length (ints st.hints) rfl HRW.out.1.sl HRW.out.2 (by unfold maxLen; omega) (by omega) ?_; intro a8 c8 w8 o8 u8 k8; rw [Nat.zero_add] at o8 k8 ⊢; rw [List.nil_append] at o8; have H8 := Lib.hid (And.intro o8 k8); clear o8 k8; obtain ⟨x8, rfl⟩ := Ext.of (show Upd [] w7 w8 from u8); clear u8)
        refine wp_region_ord 12 1 [0, 1, 2, 3, 4, 5, 6, 10, 11] [1] [0, 1, 2, 3, 4, 5, 6, 7, 8, 9, 10, 11, 12] (fun w' => ∃ x : Ext w7, w' = x.val) (by kernel_rfl) (by kernel_rfl) (Ext.of (x8.upd.drew)) ?_
        repeat (first | (refine wpOrd_load rfl rfl rfl rfl (fun K hK => ?_); go_big_quiet_step (fail); refine wpQuiet_nil ?_; refine hK _ ?_; clear hK K) | (refine wpOrd_free rfl rfl rfl (fun K hK => ?_); go_big_quiet_step (fail); refine wpQuiet_nil ?_; refine hK _ ?_; clear hK K))
        refine wpOrd_fix rfl rfl (fun K hK => ?_)
        go_wp2_with (go_at_call 12; (with_reducible refine (HA3.out _).mono ?_); rintro e _ ⟨rfl, rfl⟩)
        refine ⟨fun _ => Ext.of (x8.upd.drew), ?_⟩
        repeat (first | (refine wpOrd_load rfl rfl rfl rfl (fun K hK => ?_); go_big_quiet_step (fail); refine wpQuiet_nil ?_; refine hK _ ?_; clear hK K) | (refine wpOrd_free rfl rfl rfl (fun K hK => ?_); go_big_quiet_step (fail); refine wpQuiet_nil ?_; refine hK _ ?_; clear hK K))
        refine wpOrd_fix rfl rfl (fun K hK => ?_)
        go_wp2_with fail
        refine ⟨fun _ => Ext.of ((x8.upd.alloc _).drew), ?_⟩
        have B9 := Blk.new x8.val [.int .i64 hn] 3
        have u9 := x8.upd.alloc (.cells #[.int .i64 hn] 3)
        have r9 := ownsRow_updL H8.out.1 ((Upd.refl [] x8.val).alloc (.cells #[.int .i64 hn] 3)) (by simp)
        have hz9 : (x8.val.alloc (.cells #[.int .i64 hn] 3)).heap.size = x8.val.heap.size + 1 := by simp
        generalize x8.val.alloc (.cells #[.int .i64 hn] 3) = w9 at *
        have H9 := Lib.hid (And.intro (show Blk w9.drew x8.val.heap.size _ 3 from B9) (And.intro u9.drew (show w9.drew.ownsRow 0 3 1 (.slice a8 st.hints.length c8) st.hints.length (ints st.hints) from r9)))
        clear B9 u9 r9
        repeat (first | (refine wpOrd_load rfl rfl rfl rfl (fun K hK => ?_); go_big_quiet_step (fail); refine wpQuiet_nil ?_; refine hK _ ?_; clear hK K) | (refine wpOrd_free rfl rfl rfl (fun K hK => ?_); go_big_quiet_step (fail); refine wpQuiet_nil ?_; refine hK _ ?_; clear hK K))
        refine wpOrd_fix rfl rfl (fun K hK => ?_)
        refine wpList_app rfl _ _ _ rfl 3 1 8 _ Try.underlying22 infoInt rfl (by decide) (.slice a8 st.hints.length c8) st.hints.length (ints st.hints) rfl H9.out.2.2 x8.val.heap.size 1 1 [.int .i64 hn] 3 rfl rfl H9.out.1 (by simp [Value.oneCell']) (by omega) (by unfold maxLen; omega) (by omega) ?_
        intro gA cA wA oA uA kA
        simp only [Act.put, List.setIfInBounds_toArray, List.set_cons_zero, List.set_cons_succ]
        have hnew : ∀ b ∈ (Value.slice a8 st.hints.length c8).ownBlock.toList, w7.heap.size ≤ b := fun b hb => by
          rcases H8.out.2 with h | h
          · rw [h] at hb; simp [Value.ownBlock] at hb
          · rw [h] at hb; simp at hb; omega
        have UA : Upd [] w7 wA := H9.out.2.1.fresh uA (fun b hb => .inr (hnew b hb))
        have hr : RowI wA (.slice (some ⟨gA, 0, none⟩) (st.hints.length + 1) cA) (st.hints ++ [hn]) := by
          unfold RowI
          rw [List.length_append, List.length_singleton, ints_append]
          exact oA
        have OA := HO.out.ext UA
        have e6' := UA.some e6 (by simp)
        have f6' := OA.free (i * 7 + 6)
        have HP := Lib.hid (OA.put HLm.out (j := 6) (u := .slice (some ⟨gA, 0, none⟩) (st.hints.length + 1) cA) (st' := { st with hints := st.hints ++ [hn] }) HF.out.1 (by omega) (fun vp vl vh h => ⟨vp, vl, _, rfl, h.1, h.2.1, hr, h.2.2.2.1, h.2.2.2.2.1, h.2.2.2.2.2.1, h.2.2.2.2.2.2.1, h.2.2.2.2.2.2.2.1, fun x hx => by
          rcases List.mem_append.1 hx with hx | hx
          · exact h.2.2.2.2.2.2.2.2.1 x hx
          · simp at hx; subst hx; unfold IsI64; omega, h.2.2.2.2.2.2.2.2.2⟩))
        have HS := Lib.hid (smB_set (L := p.lemmas) (i := i) (st := { st with hints := st.hints ++ [hn] }) HB.out.1 (by show st.params.length ≤ B + 1 ∧ st.lits.length ≤ B + 1 ∧ (st.hints ++ [hn]).length ≤ B + 1 ∧ st.name.size ≤ B + 1; rw [List.length_append, List.length_singleton]; omega))
        have HUA := Lib.hid UA
        clear oA uA kA UA hr OA hnew
        go_wp2_with fail
        refine ⟨fun _ => Ext.of HUA.out, ?_⟩
        obtain ⟨xA, rfl⟩ := Ext.of HUA.out
        repeat (first | (refine wpOrd_load rfl rfl rfl rfl (fun K hK => ?_); go_big_quiet_step (fail); refine wpQuiet_nil ?_; refine hK _ ?_; clear hK K) | (refine wpOrd_free rfl rfl rfl (fun K hK => ?_); go_big_quiet_step (fail); refine wpQuiet_nil ?_; refine hK _ ?_; clear hK K))
        refine wpOrd_fix rfl rfl (fun K hK => ?_)
        go_wp2_with fail
        refine ⟨fun hC => absurd hC (by decide), ?_⟩
        refine wpOrd_nil ?_
        go_wp2_with fail
        all_goals go_meet
        all_goals case rel => exact ⟨al, cl, p.lemmas, _, List.length_set, HP.out, HS.out, .inl rfl⟩
      · have HP := Lib.hid (HO.out.put HLm.out (j := 1) (u := .int .i64 by_) (st' := { st with node := by_ }) HF.out.1 (by omega) (fun vp vl vh h => ⟨vp, vl, vh, rfl, h.1, h.2.1, h.2.2.1, h.2.2.2.1, HB.out.2.2.2, h.2.2.2.2.2⟩))
        have HS := Lib.hid (smB_set (L := p.lemmas) (i := i) (st := { st with node := by_ }) HB.out.1 (by show st.params.length ≤ B + 1 ∧ st.lits.length ≤ B + 1 ∧ st.hints.length ≤ B + 1 ∧ st.name.size ≤ B + 1; omega))
        go_wp2_with fail
        all_goals go_meet
        all_goals case rel => exact ⟨al, cl, p.lemmas, _, List.length_set, HP.out, HS.out, .inl rfl⟩
      · have fb0 := HO.out.box.free 0
        have us : Upd [w.heap.size + 2] w7 (w7.setCell ⟨w.heap.size + 2, 0, none⟩ (.slice none 0 0)) := (Upd.refl _ w7).set (.inl (by simp)) _
        have HP := Lib.hid (show SpO w p.steps.length g c6 (.slice none 0 0) [] p.steps (w7.setCell ⟨w.heap.size + 2, 0, none⟩ (.slice none 0 0)) from
          ⟨HO.out.box.set 0 _, HO.out.res.upd us (by simp), ⟨fun _ => [undef, undef, undef, undef], World.ownsRow_nil _ _ _ _, fun _ => rfl, fun i d hd => by simp at hd⟩, HO.out.st.kd (es := [3, 56]) (off_blk HO.out.box (by decide)) (by simp) (by simp) us, hg3, HO.out.u.fresh us (fun k hk => .inr (by simp at hk; omega))⟩)
        have HS := Lib.hid (show SmB (B + 1) ⟨[], p.steps⟩ from ⟨hn1000, fun k s hk => by have := HB.out.1.2 k s hk; omega⟩)
        clear us
        go_wp2_with fail
        all_goals go_meet
        all_goals case rel => exact ⟨none, 0, [], p.steps, rfl, HP.out, HS.out, .inr rfl⟩
      · have p0 : (hw == 0) = false := beq_eq_false_iff_ne.2 q0
        have p1 : (hw == 1) = false := beq_eq_false_iff_ne.2 q1
        have p2 : (hw == 2) = false := beq_eq_false_iff_ne.2 q2
        have p3 : (hw == 3) = false := beq_eq_false_iff_ne.2 q3
        clear q0 q1 q2 q3
        have ua := (Upd.refl [] w7).alloc (.cells #[.int .i64 by_] 3)
        have BA := Blk.new w7 [.int .i64 by_] 3
        have OA := HO.out.ext ua
        have e6' := ua.some e6 (by simp)
        have f6' := OA.free (i * 7 + 6)
        have HP := Lib.hid (OA.put HLm.out (j := 6) (u := .slice (some ⟨w7.heap.size, 0, none⟩) 1 1) (st' := { st with hints := [by_] }) HF.out.1 (by omega) (fun vp vl vh h => ⟨vp, vl, _, rfl, h.1, h.2.1, rowI_blk (xs := [by_]) BA (by simp), h.2.2.2.1, h.2.2.2.2.1, h.2.2.2.2.2.1, h.2.2.2.2.2.2.1, h.2.2.2.2.2.2.2.1, by simpa using HB.out.2.2.2, h.2.2.2.2.2.2.2.2.2⟩))
        have HS := Lib.hid (smB_set (L := p.lemmas) (i := i) (st := { st with hints := [by_] }) HB.out.1 (by show st.params.length ≤ B + 1 ∧ st.lits.length ≤ B + 1 ∧ [by_].length ≤ B + 1 ∧ st.name.size ≤ B + 1; simp; omega))
        clear ua BA OA
        go_wp2_with fail
        all_goals go_meet
        all_goals case rel => exact ⟨al, cl, p.lemmas, _, List.length_set, HP.out, HS.out, .inl rfl⟩
    case rest =>
      obtain ⟨al', cl', L', l', hl', hO, hS', hL'⟩ := hcut
      have y0 := hO.box.cell (i := 0) rfl
      have y1 := hO.box.cell (i := 1) rfl
      have r0 := hO.res.cell (i := 0) rfl
      have r1 := hO.res.cell (i := 1) rfl
      have fr0 := hO.res.free 0
      have fr1 := hO.res.free 1
      have us : Upd [w.heap.size + 1] wc ((wc.setCell ⟨w.heap.size + 1, 0, none⟩ (.slice al' L'.length cl')).setCell ⟨w.heap.size + 1, 1, none⟩ (.slice (some ⟨g, 0, none⟩) p.steps.length c6)) := ((Upd.refl _ wc).set (.inl (by simp)) _).set (.inl (by simp)) _
      have BR : Blk _ (w.heap.size + 1) [.slice al' L'.length cl', .slice (some ⟨g, 0, none⟩) p.steps.length c6] 30 := (hO.res.set 0 (.slice al' L'.length cl')).set 1 (.slice (some ⟨g, 0, none⟩) p.steps.length c6)
      have hor : Off wc [w.heap.size + 1] [3, 88, 56, 82] := off_blk hO.res (by decide)
      have HX := Lib.hid (And.intro BR (And.intro (hO.lem.kd hor (by simp) (by simp) (by simp) (by simp) us) (And.intro (hO.st.kd hor (by simp) (by simp) us) (And.intro (hO.u.fresh us (fun k hk => .inr (by simp at hk; omega))) (And.intro hS' (And.intro hL' hl'))))))
      clear us BR hor hO hS' hL' hl' HO
      go_wp2_with fail
      exact ret_rowT rfl rfl HX.out.1 Try.underlying30 (by kernel_rfl) rfl ⟨_, ⟨L', l'⟩, rfl, ⟨_, _, rfl, HX.out.2.1, HX.out.2.2.1⟩, HX.out.2.2.2.2.1, HX.out.2.2.2.2.2.1, HX.out.2.2.2.1⟩
end
end Trim
end Go.Proofs.Ytnmfihgdedifoaa
