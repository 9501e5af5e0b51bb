/- Walks through the laws of package trim: TrimKeeps. Conditions: none. -/
import Derived.Test.YtnmfihgdedifoaaTrimTB
import Derived.Test.YtnmfihgdedifoaaTrimM
set_option linter.unusedVariables false
set_option linter.unusedSimpArgs false
set_option linter.unusedSectionVars false
open Go.RowKit
namespace Go.Proofs.Ytnmfihgdedifoaa
open L R01
namespace Trim
theorem pick_names {p : PrfD} {B : Nat} (h : ∀ (k : Nat) (st : StepD), p.steps[k]? = some st → st.name.size ≤ B) {u : Nat → Bool} : ∀ (k : Nat) (st : StepD), (pickP p u).steps[k]? = some st → st.name.size ≤ B := fun m t ht => by
  obtain ⟨k, s, _, _, hs, rfl⟩ := pick_inv ht
  exact h k s hs
theorem sameN_same {w : World} {v v2 : Value} {l : List ByteArray} (h1 : NmL w v l) (h2 : NmL w v2 l) : Calls Try.prog 14 #[v, v2] w fun e w' => e = .returned (.bool true) ∧ Upd [] w w' := by
  have h := sameN_calls h1 h2
  rw [sameN_iff.2 rfl] at h
  exact h
theorem sameI_same {w : World} {v v2 : Value} {l m : List Int} (h1 : RowI w v l) (h2 : RowI w v2 m) (e : l = m) : Calls Try.prog 24 #[v, v2] w fun e w' => e = .returned (.bool true) ∧ Upd [] w w' := by
  have h := SameInts_calls h1.sl h2.sl
  rw [decide_eq_true e] at h
  exact h
/-- A proof in a box. -/
structure Bx (W : World) (s : Nat) (a : Option Addr) (c : Nat) (b : Option Addr) (d : Nat) (p : PrfD) : Prop where
  pr : PrL W (.agg #[.slice a p.lemmas.length c, .slice b p.steps.length d]) p
  bk : Blk W s [.slice a p.lemmas.length c, .slice b p.steps.length d] 30
theorem Bx.ext {W W' : World} {s : Nat} {a : Option Addr} {c : Nat} {b : Option Addr} {d : Nat} {p : PrfD} (h : Bx W s a c b d p) (u : Upd [] W W') : Bx W' s a c b d p := ⟨h.pr.ext' u, h.bk.upd u (by simp)⟩
theorem Bx.mk' {W : World} {a : Option Addr} {c : Nat} {b : Option Addr} {d : Nat} {p : PrfD} (h : PrL W (.agg #[.slice a p.lemmas.length c, .slice b p.steps.length d]) p) : Bx (W.alloc (.cells #[.slice a p.lemmas.length c, .slice b p.steps.length d] 30)) W.heap.size a c b d p :=
  ⟨h.ext' ((Upd.refl [] W).alloc _), Blk.new W [.slice a p.lemmas.length c, .slice b p.steps.length d] 30⟩
/-- What the law asks of a proof without some premises. -/
structure Kp (p q : PrfD) (A : List ByteArray) (u : Nat → Bool) : Prop where
  ok : check q = 0
  few : Few q
  names : ∀ (k : Nat) (st : StepD), q.steps[k]? = some st → st.name.size ≤ 1000
  hit : ∀ i, i < p.steps.length → ∀ R, PremOf p.steps (rests p.steps i) R → R.any (hasN A) = !u i
  len : q.steps.length = cnt u p.steps.length
  at_ : ∀ i s, u i = true → p.steps[i]? = some s → ∃ t, q.steps[cnt u i]? = some t ∧ t.lits = s.lits
  prem : ∀ i, u i = true → i < p.steps.length → ∀ R R', PremOf p.steps (rests p.steps i) R → PremOf q.steps (rests q.steps (cnt u i)) R' → R = R'
theorem kp {p : PrfD} (hwf : Wf p) (hf : Few p) (hn : ∀ (k : Nat) (st : StepD), p.steps[k]? = some st → st.name.size ≤ 1000) (A : List ByteArray) : Kp p (pickP p (keptTo A p.steps p.steps.length)) A (keptTo A p.steps p.steps.length) := by
  have hc : Clo p.steps (keptTo A p.steps p.steps.length) := kept_clo hwf.ok
  have hW := pick_wf hwf hc
  refine ⟨wf_check.2 hW, few_pick hf _, pick_names hn, fun i hi R hR => ?_, pick_len, fun i s hu hs => ⟨_, pick_at hu hs, rfl⟩, fun i hu hi R R' h1 h2 => ?_⟩
  · have h1 : keptTo A p.steps p.steps.length i = true ↔ Free A p.steps i := by rw [kept_iff hwf.ok (Nat.le_refl _)]; exact ⟨fun h => h.2, fun h => ⟨hi, h⟩⟩
    have h2 : R.any (hasN A) = true ↔ ¬ Free A p.steps i := by
      rw [List.any_eq_true]
      constructor
      · rintro ⟨x, hx, hh⟩ hF
        obtain ⟨k, st, hs, hb, hk, rfl⟩ := (prem_iff hwf.ok hR x).1 hx
        rw [hF k st hb hs hk] at hh; cases hh
      · intro hF
        apply Classical.byContradiction
        intro hno
        refine hF (fun k st hb hs hk => ?_)
        cases hq : hasN A st.name with
        | false => rfl
        | true => exact (hno ⟨st.name, (prem_iff hwf.ok hR st.name).2 ⟨k, st, hs, hb, hk, rfl⟩, hq⟩).elim
    cases hu : keptTo A p.steps p.steps.length i with
    | true =>
      cases ha : R.any (hasN A) with
      | false => rfl
      | true => exact (h2.1 ha (h1.1 hu)).elim
    | false =>
      cases ha : R.any (hasN A) with
      | true => rfl
      | false =>
        have : Free A p.steps i := Classical.byContradiction fun hF => by rw [h2.2 hF] at ha; cases ha
        rw [h1.2 this] at hu; cases hu
  · exact prem_same hwf.ok hW.ok h1 h2 (fun x => pick_name hwf.ok hc hu hi x)
/-- The two lists of names, appended, and the box that is made in between. -/
structure ApS (w0 : World) (v : Value) (xs : List ByteArray) (bx : Option Nat) (W : World) : Prop where
  nm : NmL W v xs
  u : Upd [] w0 W
  fresh : ∀ g, v.ownBlock = some g → w0.heap.size ≤ g
  bx : ∀ b, bx = some b → Blk W b [.slice none 0 0, .slice none 0 0] 30 ∧ w0.heap.size ≤ b ∧ v.ownBlock ≠ some b
section
variable {w0 W W' : World} {v v' : Value} {xs ys : List ByteArray} {bx : Option Nat}
theorem ApS.start (w0 : World) : ApS w0 (.slice none 0 0) [] none w0 := ⟨World.ownsRow_nil _ _ _ _, Upd.refl _ _, fun g hg => by simp [Value.ownBlock] at hg, fun b hb => by cases hb⟩
theorem ApS.build (h : ApS w0 v [] bx W) : ApS w0 (.slice (some ⟨W.heap.size, 0, none⟩) 0 0) [] bx (W.alloc (.cells #[] 9)) :=
  ⟨owns_blk (cs := strs []) (Blk.new W [] 9) (by simp [strs]) (by unfold maxLen; omega), h.u.alloc _, fun g hg => by simp [Value.ownBlock] at hg; have := h.u.size; omega,
    fun b hb => by
      obtain ⟨h1, h2, h3⟩ := h.bx b hb
      refine ⟨h1.upd ((Upd.refl [] W).alloc _) (by simp), h2, ?_⟩
      have := h1.lt
      simp [Value.ownBlock]; omega⟩
theorem ApS.box (h : ApS w0 v xs none W) : ApS w0 v xs (some W.heap.size) (W.alloc (.cells #[.slice none 0 0, .slice none 0 0] 30)) :=
  ⟨h.nm.ext ((Upd.refl [] W).alloc _), h.u.alloc _, h.fresh, fun b hb => by
    cases hb
    refine ⟨Blk.new W [.slice none 0 0, .slice none 0 0] 30, h.u.size, fun hv => ?_⟩
    rcases h.nm.2 with ⟨h2, _⟩ | ⟨g, cap, cur, h2, _, hg, _⟩
    · rw [h2] at hv; simp [Value.ownBlock] at hv
    · rw [h2] at hv; simp [Value.ownBlock] at hv
      have := (Array.getElem?_eq_some_iff.1 hg).1; omega⟩
theorem ApS.call (h : ApS w0 v xs bx W) (u : Upd [] W W') : ApS w0 v xs bx W' :=
  ⟨h.nm.ext u, h.u.step u, h.fresh, fun b hb => ⟨(h.bx b hb).1.upd u (by simp), (h.bx b hb).2⟩⟩
theorem ApS.app (h : ApS w0 v xs bx W) (o : W'.ownsRow 0 9 1 v' ys.length (strs ys)) (u : Upd v.ownBlock.toList W W') (k : v'.ownBlock = v.ownBlock ∨ v'.ownBlock = some W.heap.size) : ApS w0 v' ys bx W' :=
  ⟨o, h.u.fresh u (fun b hb => .inr (h.fresh b (by simpa using hb))), fun g hg => by
    rcases k with k | k
    · exact h.fresh g (by rw [← k]; exact hg)
    · rw [k] at hg; cases hg; exact h.u.size,
    fun b hb => by
      obtain ⟨h1, h2, h3⟩ := h.bx b hb
      refine ⟨h1.upd u (by simpa using h3), h2, ?_⟩
      rcases k with k | k
      · rw [k]; exact h3
      · rw [k]; have := h1.lt; simp; omega⟩
theorem ApS.store {ob : Nat} {x y : Value} {r : PrfD} (h : ApS w0 v xs (some ob) W) (hP : PrL W (.agg #[x, y]) r) :
    PrL ((W.setCell ⟨ob, 0, none⟩ x).setCell ⟨ob, 1, none⟩ y) (.agg #[x, y]) r ∧ Blk ((W.setCell ⟨ob, 0, none⟩ x).setCell ⟨ob, 1, none⟩ y) ob [x, y] 30 ∧ Upd [] w0 ((W.setCell ⟨ob, 0, none⟩ x).setCell ⟨ob, 1, none⟩ y) := by
  obtain ⟨h1, h2, h3⟩ := h.bx ob rfl
  have uS : Upd [ob] W ((W.setCell ⟨ob, 0, none⟩ x).setCell ⟨ob, 1, none⟩ y) := ((Upd.refl _ W).set (.inl (by simp)) _).set (.inl (by simp)) _
  have hoff : Off W [ob] [3, 88, 56, 82] := off_blk h1 (by decide)
  exact ⟨hP.kd hoff (by simp) (by simp) (by simp) (by simp) uS, (h1.set 0 _).set 1 _, h.u.fresh uS (fun b hb => .inr (by simp at hb; omega))⟩
end
section
variable {w : World}
set_option maxRecDepth 100000 in
set_option maxHeartbeats 16000000 in
theorem TrimKeeps_calls {v vg vm : Value} {l gl ml : List Int} (h : SL w 1 v l.length (ints l)) (hx : ∀ x ∈ l, IsI64 x) (hg : SL w 1 vg gl.length (ints gl)) (hgx : ∀ x ∈ gl, IsI64 x) (hm : SL w 1 vm ml.length (ints ml)) (hmx : ∀ x ∈ ml, IsI64 x) :
    Calls Try.prog 6 #[v, vg, vm] w fun e w' => e = .returned (.bool true) ∧ Upd [] w w' := by
  obtain ⟨a, cap, rfl, _⟩ := SL.form h
  obtain ⟨ag, capg, rfl, _⟩ := SL.form hg
  obtain ⟨am, capm, rfl, _⟩ := SL.form hm
  have HS := Lib.hid (SomeP_calls (most := 14) hx h (by omega) (by omega))
  have HNA := Lib.hid (fun (W : World) (u : Upd [] w W) => names_calls (hg.upd u (by simp)) hgx)
  have HNB := Lib.hid (fun (W : World) (u : Upd [] w W) => names_calls (hm.upd u (by simp)) hmx)
  clear hx h hg hgx hm hmx
  go_enter Try.func6, Try.ntmps6
  go_upto_region 2 with (go_at_call 25; (with_reducible refine HS.out.mono ?_); rintro e w1 ⟨v1, p, rfl, hp1, hm1, u1⟩; obtain ⟨a1, c1, b1, d1, rfl⟩ := hp1.form)
  have hwf := hm1.wf
  have hfew := hm1.fewP
  have hns : ∀ (k : Nat) (st : StepD), p.steps[k]? = some st → st.name.size ≤ 1000 := fun k st hk => by have := (hm1.smB.2 k st hk).2.2.2; omega
  have hn : p.steps.length ≤ 14 := by have := hm1.len; omega
  have H1 := Lib.hid (And.intro (Bx.mk' hp1) (u1.step ((Upd.refl [] w1).alloc (.cells #[.slice a1 p.lemmas.length c1, .slice b1 p.steps.length d1] 30))))
  have HPL := Lib.hid (And.intro hwf (And.intro hfew hns))
  clear hp1 u1 HS hm1 hwf hfew hns
  generalize hs1 : w1.heap.size = s1 at *
  generalize (w1.alloc (.cells #[.slice a1 p.lemmas.length c1, .slice b1 p.steps.length d1] 30)) = w2 at *
  clear hs1
  go_upto_region 3 with (go_at_call 18; (with_reducible refine (HNA.out _ H1.out.2).mono ?_); rintro e w3 ⟨A, aA, cA, rfl, hA1, hA2, hOA, u3⟩)
  have H3 := Lib.hid (And.intro (H1.out.1.ext u3) (And.intro (H1.out.2.step u3) (show NmL w3 (.slice aA A.length cA) A from hOA.1)))
  clear u3 hOA HNA H1
  have HA2 := Lib.hid hA2
  clear hA2
  go_upto_region 4 with (go_at_call 18; (with_reducible refine (HNB.out _ H3.out.2.1).mono ?_); rintro e w4 ⟨B, aB, cB, rfl, hB1, hB2, hOB, u4⟩)
  have H4 := Lib.hid (And.intro (H3.out.1.ext u4) (And.intro (H3.out.2.1.step u4) (And.intro (H3.out.2.2.ext u4) (show NmL w4 (.slice aB B.length cB) B from hOB.1))))
  clear u4 hOB HNB H3
  have HB2 := Lib.hid hB2
  clear hB2
  have p0 := H4.out.1.bk.cell (i := 0) rfl
  have p1 := H4.out.1.bk.cell (i := 1) rfl
  have HK := Lib.hid (kp HPL.out.1 HPL.out.2.1 HPL.out.2.2 A)
  have HKA := Lib.hid (Kept_good H4.out.1.pr (wf_check.2 HPL.out.1) HPL.out.2.1 H4.out.2.2.1 (fun x hx => by have := HA2.out x hx; omega) (by omega) HPL.out.2.2)
  have HKK := Lib.hid (kept_kept HPL.out.1 A B)
  generalize hu : keptTo A p.steps p.steps.length = u at *
  generalize pickP p u = q at *
  clear hu
  have HTL : (tabI p.steps.length (stepNo u)).length = p.steps.length := tabI_length _ _
  go_upto_region 5 with (go_at_call 20; (with_reducible refine HKA.out.mono ?_); rintro e w5 ⟨v5, g5, rfl, hP5, hR5, u5⟩; obtain ⟨a5, c5, b5, d5, rfl⟩ := hP5.form)
  have ua := (Upd.refl [] w5).alloc (.cells #[.slice a5 q.lemmas.length c5, .slice b5 q.steps.length d5] 30)
  have H6 := Lib.hid (And.intro (H4.out.1.ext (u5.step ua)) (And.intro (Bx.mk' hP5) (And.intro (H4.out.2.1.step (u5.step ua)) (And.intro (H4.out.2.2.1.ext (u5.step ua)) (And.intro (H4.out.2.2.2.ext (u5.step ua)) (hR5.ext ua))))))
  clear ua u5 hP5 hR5 HKA H4 p0 p1
  generalize hs5 : w5.heap.size = s5 at *
  generalize (w5.alloc (.cells #[.slice a5 q.lemmas.length c5, .slice b5 q.steps.length d5] 30)) = w6 at *
  clear hs5
  have q0 := H6.out.2.1.bk.cell (i := 0) rfl
  have q1 := H6.out.2.1.bk.cell (i := 1) rfl
  have HKB := Lib.hid (Kept_good H6.out.2.1.pr HK.out.ok HK.out.few H6.out.2.2.2.2.1 (fun x hx => by have := HB2.out x hx; omega) (by omega) HK.out.names)
  generalize hr : pickP q (keptTo B q.steps q.steps.length) = r at *
  clear hr
  go_upto_region 6 with (go_at_call 20; (with_reducible refine HKB.out.mono ?_); rintro e w7 ⟨v7, g7, rfl, hP7, hR7, u7⟩; obtain ⟨a7', c7', b7', d7', rfl⟩ := hP7.form)
  have ua := (Upd.refl [] w7).alloc (.cells #[.slice a7' r.lemmas.length c7', .slice b7' r.steps.length d7'] 30)
  have H8 := Lib.hid (And.intro (H6.out.1.ext (u7.step ua)) (And.intro (H6.out.2.1.ext (u7.step ua)) (And.intro (Bx.mk' hP7) (And.intro (H6.out.2.2.2.1.ext (u7.step ua)) (And.intro (H6.out.2.2.2.2.1.ext (u7.step ua)) (And.intro (H6.out.2.2.2.2.2.ext (u7.step ua)) (H6.out.2.2.1.step (u7.step ua))))))))
  clear ua u7 hP7 hR7 HKB H6 q0 q1
  generalize hs7 : w7.heap.size = s7 at *
  generalize (w7.alloc (.cells #[.slice a7' r.lemmas.length c7', .slice b7' r.steps.length d7'] 30)) = w8 at *
  clear hs7
  go_cut [16, 17, 18] (fun x y e w' => ∃ (s9 : Nat) (a9 : Option Addr) (c9 : Nat) (b9 : Option Addr) (d9 : Nat) (t9 : Value), x = .pointer (some ⟨s9, 0, none⟩) ∧ y = t9 ∧ e = .int .i64 0 ∧ Bx w' s9 a9 c9 b9 d9 r ∧ Upd [] w8 w')
  case first =>
    have p0 := (H8.out.1.bk.drew).cell (i := 0) rfl
    have p1 := (H8.out.1.bk.drew).cell (i := 1) rfl
    have HZ := Lib.hid (And.intro (H8.out.1.ext ((Upd.refl [] w8).drew)) (And.intro (H8.out.2.2.2.1.ext ((Upd.refl [] w8).drew)) (And.intro (H8.out.2.2.2.2.1.ext ((Upd.refl [] w8).drew)) ((Upd.refl [] w8).drew))))
    have HK3 := Lib.hid (fun (W : World) (u : Upd [] w8.drew W) (vn : Value) (hn : NmL W vn (A ++ B)) => show Calls Try.prog 20 #[.agg #[.slice a1 p.lemmas.length c1, .slice b1 p.steps.length d1], vn] W fun e w' => ∃ (v' : Value) (gs : Nat), e = .returned (.tuple #[v', .slice (some ⟨gs, 0, none⟩) p.steps.length p.steps.length, .int .i64 0]) ∧ PrL w' v' r ∧ Upd [] W w' from by
      have h := Kept_good (HZ.out.1.ext u).pr (wf_check.2 HPL.out.1) HPL.out.2.1 hn (fun x hx => by
        rw [List.mem_append] at hx
        rcases hx with hx | hx
        · have := HA2.out x hx; omega
        · have := HB2.out x hx; omega) (by rw [List.length_append]; omega) HPL.out.2.2
      rw [← HKK.out] at h
      refine h.mono ?_
      rintro e w' ⟨v', gs, h1, h2, _, h4⟩
      exact ⟨v', gs, h1, h2, h4⟩)
    refine wp_region_wa 15 12 (fun w' => ∃ x : Ext w8.drew, w' = x.val) (by kernel_rfl) (by kernel_rfl) (Ext.of (Upd.refl _ _)) ?_
    have HU := Lib.hid HZ.out.2.2.2
    generalize w8.drew = z0 at *
    have S0 := ApS.start z0
    clear H8 HPL
    (refine WA.load 0 15 rfl rfl (by kernel_rfl) (by kernel_rfl) (fun K hK => ?_); go_big_quiet_step (fail); refine wpQuiet_nil ?_; refine hK _ ?_; clear hK K)
    (refine WA.free 2 rfl rfl (by kernel_rfl) (fun K hK => ?_); go_big_quiet_step (fail); refine wpQuiet_nil ?_; refine hK _ ?_; clear hK K); (refine WA.free 4 rfl rfl (by kernel_rfl) (fun K hK => ?_); go_big_quiet_step (fail); refine wpQuiet_nil ?_; refine hK _ ?_; clear hK K)
    refine WA.two 1 11 (by kernel_rfl) (Do_.mk rfl (fun K hK => ?_)) (Do_.mk rfl (fun K hK => ?_))
    · go_wp2_with fail
      have S1 := ApS.build S0
      generalize hgb : Array.size (World.heap z0) = gb at *
      generalize World.alloc z0 (.cells #[] 9) = z1 at *
      clear S0 hgb
      refine WA.keep (Ext.of S1.u) ?_
      refine WA.two 3 11 (by kernel_rfl) (Do_.mk rfl (fun K hK => ?_)) (Do_.mk rfl (fun K hK => ?_))
      · go_wp2_with (refine wpList_appS rfl _ _ _ rfl 9 1 16 _ Try.underlying35 infoStr rfl (by decide) (.slice (some ⟨gb, 0, none⟩) 0 0) 0 [] rfl S1.nm (.slice aA A.length cA) A.length (strs A) rfl ((HZ.out.2.1.ext S1.u).sl') (strs_one _) (by unfold maxLen; omega) (by omega) ?_; intro a6 c6 z2 o6 u6 k6; rw [Nat.zero_add] at o6 k6 ⊢; rw [List.nil_append] at o6)
        have S2 := ApS.app (ys := A) S1 o6 u6 k6
        clear S1 o6 u6 k6
        refine WA.keep (Ext.of S2.u) ?_
        refine WA.two 5 11 (by kernel_rfl) (Do_.mk rfl (fun K hK => ?_)) (Do_.mk rfl (fun K hK => ?_))
        · go_wp2_with (refine wpList_appS rfl _ _ _ rfl 9 1 16 _ Try.underlying35 infoStr rfl (by decide) (.slice a6 A.length c6) A.length (strs A) rfl S2.nm (.slice aB B.length cB) B.length (strs B) rfl ((HZ.out.2.2.1.ext S2.u).sl') (strs_one _) (by unfold maxLen; omega) (by omega) ?_; intro a7 c7 z3 o7 u7 k7)
          have S3 := ApS.app (ys := A ++ B) S2 (by rw [List.length_append, strs_append]; exact o7) u7 k7
          clear S2 o7 u7 k7
          refine WA.keep (Ext.of S3.u) ?_
          refine WA.two 6 11 (by kernel_rfl) (Do_.mk rfl (fun K hK => ?_)) (Do_.mk rfl (fun K hK => ?_))
          · go_wp2_with (go_at_call 20; (with_reducible refine (HK3.out _ S3.u _ S3.nm).mono ?_); rintro e z4 ⟨v9, g9, rfl, hP9, u9⟩; obtain ⟨a9, c9, b9, d9, rfl⟩ := hP9.form)
            have S4 := ApS.call S3 u9
            clear S3 u9
            refine WA.keep (Ext.of S4.u) ?_
            (refine WA.free 7 rfl rfl (by kernel_rfl) (fun K hK => ?_); go_big_quiet_step (fail); refine wpQuiet_nil ?_; refine hK _ ?_; clear hK K); (refine WA.free 8 rfl rfl (by kernel_rfl) (fun K hK => ?_); go_big_quiet_step (fail); refine wpQuiet_nil ?_; refine hK _ ?_; clear hK K); (refine WA.free 9 rfl rfl (by kernel_rfl) (fun K hK => ?_); go_big_quiet_step (fail); refine wpQuiet_nil ?_; refine hK _ ?_; clear hK K); (refine WA.free 10 rfl rfl (by kernel_rfl) (fun K hK => ?_); go_big_quiet_step (fail); refine wpQuiet_nil ?_; refine hK _ ?_; clear hK K)
            refine WA.one 11 (by kernel_rfl) (Do_.mk rfl (fun K hK => ?_))
            go_wp2_with fail
            have S5 := ApS.box S4
            replace hP9 := hP9.ext' ((Upd.refl [] z4).alloc (.cells #[.slice none 0 0, .slice none 0 0] 30))
            generalize hob : Array.size (World.heap z4) = ob at *
            generalize World.alloc z4 (.cells #[.slice none 0 0, .slice none 0 0] 30) = z5 at *
            clear S4 hob
            refine WA.keep (Ext.of S5.u) ?_
            have HE := Lib.hid (And.intro hP9 S5)
            have y0 := (HE.out.2.bx ob rfl).1.cell (i := 0) rfl
            have y1 := (HE.out.2.bx ob rfl).1.cell (i := 1) rfl
            have yf0 := (HE.out.2.bx ob rfl).1.free 0
            have yf1 := (HE.out.2.bx ob rfl).1.free 1
            clear S5 hP9
            refine WA.one 12 (by kernel_rfl) (Do_.mk rfl (fun K hK => ?_))
            go_wp2_with fail
            refine WA.past (by kernel_rfl) ?_
            have HG := Lib.hid (ApS.store HE.out.2 HE.out.1)
            generalize ((z5.setCell ⟨ob, 0, none⟩ (.slice a9 r.lemmas.length c9)).setCell ⟨ob, 1, none⟩ (.slice b9 r.steps.length d9)) = wG at *
            clear y0 y1 yf0 yf1 HE
            (refine WA.free 13 rfl rfl (by kernel_rfl) (fun K hK => ?_); go_big_quiet_step (fail); refine wpQuiet_nil ?_; refine hK _ ?_; clear hK K); (refine WA.free 14 rfl rfl (by kernel_rfl) (fun K hK => ?_); go_big_quiet_step (fail); refine wpQuiet_nil ?_; refine hK _ ?_; clear hK K)
            refine WA.nil (by kernel_rfl) ?_
            go_wp2_with fail
            go_meet
            case rel => exact ⟨ob, a9, c9, b9, d9, _, rfl, rfl, rfl, ⟨HG.out.1, HG.out.2.1⟩, HU.out.step HG.out.2.2⟩
          · go_wp2_with fail
            have S4 := ApS.box S3

            generalize hob : Array.size (World.heap z3) = ob at *
            generalize World.alloc z3 (.cells #[.slice none 0 0, .slice none 0 0] 30) = z4 at *
            clear S3 hob
            refine WA.keep (Ext.of S4.u) ?_
            refine WA.one 6 (by kernel_rfl) (Do_.mk rfl (fun K hK => ?_))
            go_wp2_with (go_at_call 20; (with_reducible refine (HK3.out _ S4.u _ S4.nm).mono ?_); rintro e z5 ⟨v9, g9, rfl, hP9, u9⟩; obtain ⟨a9, c9, b9, d9, rfl⟩ := hP9.form)
            have S5 := ApS.call S4 u9
            clear S4 u9
            refine WA.keep (Ext.of S5.u) ?_
            (refine WA.free 7 rfl rfl (by kernel_rfl) (fun K hK => ?_); go_big_quiet_step (fail); refine wpQuiet_nil ?_; refine hK _ ?_; clear hK K); (refine WA.free 8 rfl rfl (by kernel_rfl) (fun K hK => ?_); go_big_quiet_step (fail); refine wpQuiet_nil ?_; refine hK _ ?_; clear hK K); (refine WA.free 9 rfl rfl (by kernel_rfl) (fun K hK => ?_); go_big_quiet_step (fail); refine wpQuiet_nil ?_; refine hK _ ?_; clear hK K); (refine WA.free 10 rfl rfl (by kernel_rfl) (fun K hK => ?_); go_big_quiet_step (fail); refine wpQuiet_nil ?_; refine hK _ ?_; clear hK K)
            have HE := Lib.hid (And.intro hP9 S5)
            have y0 := (HE.out.2.bx ob rfl).1.cell (i := 0) rfl
            have y1 := (HE.out.2.bx ob rfl).1.cell (i := 1) rfl
            have yf0 := (HE.out.2.bx ob rfl).1.free 0
            have yf1 := (HE.out.2.bx ob rfl).1.free 1
            clear S5 hP9
            refine WA.one 12 (by kernel_rfl) (Do_.mk rfl (fun K hK => ?_))
            go_wp2_with fail
            refine WA.past (by kernel_rfl) ?_
            have HG := Lib.hid (ApS.store HE.out.2 HE.out.1)
            generalize ((z5.setCell ⟨ob, 0, none⟩ (.slice a9 r.lemmas.length c9)).setCell ⟨ob, 1, none⟩ (.slice b9 r.steps.length d9)) = wG at *
            clear y0 y1 yf0 yf1 HE
            (refine WA.free 13 rfl rfl (by kernel_rfl) (fun K hK => ?_); go_big_quiet_step (fail); refine wpQuiet_nil ?_; refine hK _ ?_; clear hK K); (refine WA.free 14 rfl rfl (by kernel_rfl) (fun K hK => ?_); go_big_quiet_step (fail); refine wpQuiet_nil ?_; refine hK _ ?_; clear hK K)
            refine WA.nil (by kernel_rfl) ?_
            go_wp2_with fail
            go_meet
            case rel => exact ⟨ob, a9, c9, b9, d9, _, rfl, rfl, rfl, ⟨HG.out.1, HG.out.2.1⟩, HU.out.step HG.out.2.2⟩
        · go_wp2_with fail
          have S3 := ApS.box S2

          generalize hob : Array.size (World.heap z2) = ob at *
          generalize World.alloc z2 (.cells #[.slice none 0 0, .slice none 0 0] 30) = z3 at *
          clear S2 hob
          refine WA.keep (Ext.of S3.u) ?_
          refine WA.one 5 (by kernel_rfl) (Do_.mk rfl (fun K hK => ?_))
          go_wp2_with (refine wpList_appS rfl _ _ _ rfl 9 1 16 _ Try.underlying35 infoStr rfl (by decide) (.slice a6 A.length c6) A.length (strs A) rfl S3.nm (.slice aB B.length cB) B.length (strs B) rfl ((HZ.out.2.2.1.ext S3.u).sl') (strs_one _) (by unfold maxLen; omega) (by omega) ?_; intro a7 c7 z4 o7 u7 k7)
          have S4 := ApS.app (ys := A ++ B) S3 (by rw [List.length_append, strs_append]; exact o7) u7 k7
          clear S3 o7 u7 k7
          refine WA.keep (Ext.of S4.u) ?_
          refine WA.one 6 (by kernel_rfl) (Do_.mk rfl (fun K hK => ?_))
          go_wp2_with (go_at_call 20; (with_reducible refine (HK3.out _ S4.u _ S4.nm).mono ?_); rintro e z5 ⟨v9, g9, rfl, hP9, u9⟩; obtain ⟨a9, c9, b9, d9, rfl⟩ := hP9.form)
          have S5 := ApS.call S4 u9
          clear S4 u9
          refine WA.keep (Ext.of S5.u) ?_
          (refine WA.free 7 rfl rfl (by kernel_rfl) (fun K hK => ?_); go_big_quiet_step (fail); refine wpQuiet_nil ?_; refine hK _ ?_; clear hK K); (refine WA.free 8 rfl rfl (by kernel_rfl) (fun K hK => ?_); go_big_quiet_step (fail); refine wpQuiet_nil ?_; refine hK _ ?_; clear hK K); (refine WA.free 9 rfl rfl (by kernel_rfl) (fun K hK => ?_); go_big_quiet_step (fail); refine wpQuiet_nil ?_; refine hK _ ?_; clear hK K); (refine WA.free 10 rfl rfl (by kernel_rfl) (fun K hK => ?_); go_big_quiet_step (fail); refine wpQuiet_nil ?_; refine hK _ ?_; clear hK K)
          have HE := Lib.hid (And.intro hP9 S5)
          have y0 := (HE.out.2.bx ob rfl).1.cell (i := 0) rfl
          have y1 := (HE.out.2.bx ob rfl).1.cell (i := 1) rfl
          have yf0 := (HE.out.2.bx ob rfl).1.free 0
          have yf1 := (HE.out.2.bx ob rfl).1.free 1
          clear S5 hP9
          refine WA.one 12 (by kernel_rfl) (Do_.mk rfl (fun K hK => ?_))
          go_wp2_with fail
          refine WA.past (by kernel_rfl) ?_
          have HG := Lib.hid (ApS.store HE.out.2 HE.out.1)
          generalize ((z5.setCell ⟨ob, 0, none⟩ (.slice a9 r.lemmas.length c9)).setCell ⟨ob, 1, none⟩ (.slice b9 r.steps.length d9)) = wG at *
          clear y0 y1 yf0 yf1 HE
          (refine WA.free 13 rfl rfl (by kernel_rfl) (fun K hK => ?_); go_big_quiet_step (fail); refine wpQuiet_nil ?_; refine hK _ ?_; clear hK K); (refine WA.free 14 rfl rfl (by kernel_rfl) (fun K hK => ?_); go_big_quiet_step (fail); refine wpQuiet_nil ?_; refine hK _ ?_; clear hK K)
          refine WA.nil (by kernel_rfl) ?_
          go_wp2_with fail
          go_meet
          case rel => exact ⟨ob, a9, c9, b9, d9, _, rfl, rfl, rfl, ⟨HG.out.1, HG.out.2.1⟩, HU.out.step HG.out.2.2⟩
      · go_wp2_with fail
        have S2 := ApS.box S1

        generalize hob : Array.size (World.heap z1) = ob at *
        generalize World.alloc z1 (.cells #[.slice none 0 0, .slice none 0 0] 30) = z2 at *
        clear S1 hob
        refine WA.keep (Ext.of S2.u) ?_
        refine WA.one 3 (by kernel_rfl) (Do_.mk rfl (fun K hK => ?_))
        go_wp2_with (refine wpList_appS rfl _ _ _ rfl 9 1 16 _ Try.underlying35 infoStr rfl (by decide) (.slice (some ⟨gb, 0, none⟩) 0 0) 0 [] rfl S2.nm (.slice aA A.length cA) A.length (strs A) rfl ((HZ.out.2.1.ext S2.u).sl') (strs_one _) (by unfold maxLen; omega) (by omega) ?_; intro a6 c6 z3 o6 u6 k6; rw [Nat.zero_add] at o6 k6 ⊢; rw [List.nil_append] at o6)
        have S3 := ApS.app (ys := A) S2 o6 u6 k6
        clear S2 o6 u6 k6
        refine WA.keep (Ext.of S3.u) ?_
        refine WA.one 5 (by kernel_rfl) (Do_.mk rfl (fun K hK => ?_))
        go_wp2_with (refine wpList_appS rfl _ _ _ rfl 9 1 16 _ Try.underlying35 infoStr rfl (by decide) (.slice a6 A.length c6) A.length (strs A) rfl S3.nm (.slice aB B.length cB) B.length (strs B) rfl ((HZ.out.2.2.1.ext S3.u).sl') (strs_one _) (by unfold maxLen; omega) (by omega) ?_; intro a7 c7 z4 o7 u7 k7)
        have S4 := ApS.app (ys := A ++ B) S3 (by rw [List.length_append, strs_append]; exact o7) u7 k7
        clear S3 o7 u7 k7
        refine WA.keep (Ext.of S4.u) ?_
        refine WA.one 6 (by kernel_rfl) (Do_.mk rfl (fun K hK => ?_))
        go_wp2_with (go_at_call 20; (with_reducible refine (HK3.out _ S4.u _ S4.nm).mono ?_); rintro e z5 ⟨v9, g9, rfl, hP9, u9⟩; obtain ⟨a9, c9, b9, d9, rfl⟩ := hP9.form)
        have S5 := ApS.call S4 u9
        clear S4 u9
        refine WA.keep (Ext.of S5.u) ?_
        (refine WA.free 7 rfl rfl (by kernel_rfl) (fun K hK => ?_); go_big_quiet_step (fail); refine wpQuiet_nil ?_; refine hK _ ?_; clear hK K); (refine WA.free 8 rfl rfl (by kernel_rfl) (fun K hK => ?_); go_big_quiet_step (fail); refine wpQuiet_nil ?_; refine hK _ ?_; clear hK K); (refine WA.free 9 rfl rfl (by kernel_rfl) (fun K hK => ?_); go_big_quiet_step (fail); refine wpQuiet_nil ?_; refine hK _ ?_; clear hK K); (refine WA.free 10 rfl rfl (by kernel_rfl) (fun K hK => ?_); go_big_quiet_step (fail); refine wpQuiet_nil ?_; refine hK _ ?_; clear hK K)
        have HE := Lib.hid (And.intro hP9 S5)
        have y0 := (HE.out.2.bx ob rfl).1.cell (i := 0) rfl
        have y1 := (HE.out.2.bx ob rfl).1.cell (i := 1) rfl
        have yf0 := (HE.out.2.bx ob rfl).1.free 0
        have yf1 := (HE.out.2.bx ob rfl).1.free 1
        clear S5 hP9
        refine WA.one 12 (by kernel_rfl) (Do_.mk rfl (fun K hK => ?_))
        go_wp2_with fail
        refine WA.past (by kernel_rfl) ?_
        have HG := Lib.hid (ApS.store HE.out.2 HE.out.1)
        generalize ((z5.setCell ⟨ob, 0, none⟩ (.slice a9 r.lemmas.length c9)).setCell ⟨ob, 1, none⟩ (.slice b9 r.steps.length d9)) = wG at *
        clear y0 y1 yf0 yf1 HE
        (refine WA.free 13 rfl rfl (by kernel_rfl) (fun K hK => ?_); go_big_quiet_step (fail); refine wpQuiet_nil ?_; refine hK _ ?_; clear hK K); (refine WA.free 14 rfl rfl (by kernel_rfl) (fun K hK => ?_); go_big_quiet_step (fail); refine wpQuiet_nil ?_; refine hK _ ?_; clear hK K)
        refine WA.nil (by kernel_rfl) ?_
        go_wp2_with fail
        go_meet
        case rel => exact ⟨ob, a9, c9, b9, d9, _, rfl, rfl, rfl, ⟨HG.out.1, HG.out.2.1⟩, HU.out.step HG.out.2.2⟩
    · go_wp2_with fail
      have S1 := ApS.box S0

      generalize hob : Array.size (World.heap z0) = ob at *
      generalize World.alloc z0 (.cells #[.slice none 0 0, .slice none 0 0] 30) = z1 at *
      clear S0 hob
      refine WA.keep (Ext.of S1.u) ?_
      refine WA.one 1 (by kernel_rfl) (Do_.mk rfl (fun K hK => ?_))
      go_wp2_with fail
      have S2 := ApS.build S1
      generalize hgb : Array.size (World.heap z1) = gb at *
      generalize World.alloc z1 (.cells #[] 9) = z2 at *
      clear S1 hgb
      refine WA.keep (Ext.of S2.u) ?_
      refine WA.one 3 (by kernel_rfl) (Do_.mk rfl (fun K hK => ?_))
      go_wp2_with (refine wpList_appS rfl _ _ _ rfl 9 1 16 _ Try.underlying35 infoStr rfl (by decide) (.slice (some ⟨gb, 0, none⟩) 0 0) 0 [] rfl S2.nm (.slice aA A.length cA) A.length (strs A) rfl ((HZ.out.2.1.ext S2.u).sl') (strs_one _) (by unfold maxLen; omega) (by omega) ?_; intro a6 c6 z3 o6 u6 k6; rw [Nat.zero_add] at o6 k6 ⊢; rw [List.nil_append] at o6)
      have S3 := ApS.app (ys := A) S2 o6 u6 k6
      clear S2 o6 u6 k6
      refine WA.keep (Ext.of S3.u) ?_
      refine WA.one 5 (by kernel_rfl) (Do_.mk rfl (fun K hK => ?_))
      go_wp2_with (refine wpList_appS rfl _ _ _ rfl 9 1 16 _ Try.underlying35 infoStr rfl (by decide) (.slice a6 A.length c6) A.length (strs A) rfl S3.nm (.slice aB B.length cB) B.length (strs B) rfl ((HZ.out.2.2.1.ext S3.u).sl') (strs_one _) (by unfold maxLen; omega) (by omega) ?_; intro a7 c7 z4 o7 u7 k7)
      have S4 := ApS.app (ys := A ++ B) S3 (by rw [List.length_append, strs_append]; exact o7) u7 k7
      clear S3 o7 u7 k7
      refine WA.keep (Ext.of S4.u) ?_
      refine WA.one 6 (by kernel_rfl) (Do_.mk rfl (fun K hK => ?_))
      go_wp2_with (go_at_call 20; (with_reducible refine (HK3.out _ S4.u _ S4.nm).mono ?_); rintro e z5 ⟨v9, g9, rfl, hP9, u9⟩; obtain ⟨a9, c9, b9, d9, rfl⟩ := hP9.form)
      have S5 := ApS.call S4 u9
      clear S4 u9
      refine WA.keep (Ext.of S5.u) ?_
      (refine WA.free 7 rfl rfl (by kernel_rfl) (fun K hK => ?_); go_big_quiet_step (fail); refine wpQuiet_nil ?_; refine hK _ ?_; clear hK K); (refine WA.free 8 rfl rfl (by kernel_rfl) (fun K hK => ?_); go_big_quiet_step (fail); refine wpQuiet_nil ?_; refine hK _ ?_; clear hK K); (refine WA.free 9 rfl rfl (by kernel_rfl) (fun K hK => ?_); go_big_quiet_step (fail); refine wpQuiet_nil ?_; refine hK _ ?_; clear hK K); (refine WA.free 10 rfl rfl (by kernel_rfl) (fun K hK => ?_); go_big_quiet_step (fail); refine wpQuiet_nil ?_; refine hK _ ?_; clear hK K)
      have HE := Lib.hid (And.intro hP9 S5)
      have y0 := (HE.out.2.bx ob rfl).1.cell (i := 0) rfl
      have y1 := (HE.out.2.bx ob rfl).1.cell (i := 1) rfl
      have yf0 := (HE.out.2.bx ob rfl).1.free 0
      have yf1 := (HE.out.2.bx ob rfl).1.free 1
      clear S5 hP9
      refine WA.one 12 (by kernel_rfl) (Do_.mk rfl (fun K hK => ?_))
      go_wp2_with fail
      refine WA.past (by kernel_rfl) ?_
      have HG := Lib.hid (ApS.store HE.out.2 HE.out.1)
      generalize ((z5.setCell ⟨ob, 0, none⟩ (.slice a9 r.lemmas.length c9)).setCell ⟨ob, 1, none⟩ (.slice b9 r.steps.length d9)) = wG at *
      clear y0 y1 yf0 yf1 HE
      (refine WA.free 13 rfl rfl (by kernel_rfl) (fun K hK => ?_); go_big_quiet_step (fail); refine wpQuiet_nil ?_; refine hK _ ?_; clear hK K); (refine WA.free 14 rfl rfl (by kernel_rfl) (fun K hK => ?_); go_big_quiet_step (fail); refine wpQuiet_nil ?_; refine hK _ ?_; clear hK K)
      refine WA.nil (by kernel_rfl) ?_
      go_wp2_with fail
      go_meet
      case rel => exact ⟨ob, a9, c9, b9, d9, _, rfl, rfl, rfl, ⟨HG.out.1, HG.out.2.1⟩, HU.out.step HG.out.2.2⟩
  case rest =>
  obtain ⟨s9, a9, c9, b9, d9, t9, rfl, rfl, rfl, hB9, u9⟩ := hcut
  have H9 := Lib.hid (And.intro (H8.out.1.ext u9) (And.intro (H8.out.2.1.ext u9) (And.intro (H8.out.2.2.1.ext u9) (And.intro (H8.out.2.2.2.1.ext u9) (And.intro (H8.out.2.2.2.2.2.1.ext u9) (And.intro (H8.out.2.2.2.2.2.2.step u9) hB9))))))
  clear H8 hB9 u9
  have p0 := H9.out.1.bk.cell (i := 0) rfl
  have p1 := H9.out.1.bk.cell (i := 1) rfl
  have r0 := H9.out.2.2.1.bk.cell (i := 0) rfl
  have r1 := H9.out.2.2.1.bk.cell (i := 1) rfl
  have z0 := H9.out.2.2.2.2.2.2.bk.cell (i := 0) rfl
  have z1 := H9.out.2.2.2.2.2.2.bk.cell (i := 1) rfl
  have HSM := Lib.hid (by
    have h := same_calls H9.out.2.2.1.pr H9.out.2.2.2.2.2.2.pr
    rw [samePr_true rfl] at h
    exact h)
  go_upto_region 9 with (go_at_call 22; (with_reducible refine HSM.out.mono ?_); rintro e w10 ⟨rfl, u10⟩)
  have H10 := Lib.hid (And.intro (H9.out.1.ext u10) (And.intro (H9.out.2.1.ext u10) (And.intro (H9.out.2.2.2.1.ext u10) (And.intro (H9.out.2.2.2.2.1.ext u10) (H9.out.2.2.2.2.2.1.step u10)))))
  clear p0 p1 r0 r1 z0 z1 HSM u10 H9
  go_wp2_with fail
  go_loopw [19, 20] (fun x i wr => ∃ k : Nat, i = .int .i64 k ∧ k ≤ p.steps.length ∧ x = .int .i64 (cnt u k : Nat) ∧ Upd [] w10 wr) (fun _ i _ => p.steps.length - (intOf i).toNat)
  case atStart => exact ⟨0, rfl, Nat.zero_le _, rfl, Upd.refl _ _⟩
  case round =>
    obtain ⟨wo, rfl⟩ : ∃ wo : World, wo = wr := ⟨_, rfl⟩
    obtain ⟨k, rfl, hk, rfl, hU⟩ := hrel
    have HU := Lib.hid hU
    by_cases hlt : k < p.steps.length
    · have hki : (k : Int) < p.steps.length := by omega
      have HP := Lib.hid (Prem_good (H10.out.1.ext hU).pr (wf_check.2 HPL.out.1) hlt)
      have p0 := (H10.out.1.ext hU).bk.cell (i := 0) rfl
      have p1 := (H10.out.1.ext hU).bk.cell (i := 1) rfl
      clear hU
      go_upto_region 14 with (go_at_call 13; (with_reducible refine HP.out.mono ?_); rintro e w11 ⟨v11, R, rfl, hN, hPR, u11⟩; obtain ⟨aR, cR, rfl, qR, rR, hRc⟩ := hN.cells)
      have hU11 := HU.out.step u11
      have H11 := Lib.hid (And.intro hN (And.intro hPR (And.intro hRc hU11)))
      have HHT := Lib.hid (HK.out.hit k hlt R hPR)
      have HHA := Lib.hid (fun s => has_calls (H10.out.2.2.1.ext hU11) s)
      clear p0 p1 hN hPR hRc u11 HP
      go_wp2_with fail
      go_loopw [23, 24] (fun b i wr => ∃ m : Nat, i = .int .i64 m ∧ m ≤ R.length ∧ b = .bool ((R.take m).any (hasN A)) ∧ wr = w11) (fun _ i _ => R.length - (intOf i).toNat)
      case atStart => exact ⟨0, rfl, Nat.zero_le _, rfl, rfl⟩
      case round =>
        obtain ⟨m, rfl, hm, rfl, hw⟩ := hrel
        obtain rfl : w11 = wr := hw.symm
        by_cases hlm : m < R.length
        · have hmi : (m : Int) < R.length := by omega
          have hg := List.getElem?_eq_getElem hlm
          obtain ⟨gR, rfl, d0⟩ := H11.out.2.2.1 m _ hg
          have HT := Lib.hid (show (R.take (m + 1)).any (hasN A) = ((R.take m).any (hasN A) || hasN A R[m]) by rw [List.take_add_one, hg, List.any_append]; simp)
          generalize R[m] = y at *
          clear hg
          cases hb : (R.take m).any (hasN A) with
          | true =>
            rw [hb] at HT
            clear hb
            go_wp2_with fail
            exact ⟨⟨m + 1, by go_num, by omega, by rw [HT.out]; rfl, by first | trivial | rfl⟩, by simp [intOf]; omega⟩
          | false =>
            rw [hb] at HT
            clear hb
            go_wp2_with (go_at_call 26; refine (HHA.out _).mono ?_; rintro e _ ⟨rfl, rfl⟩)
            exact ⟨⟨m + 1, by go_num, by omega, by rw [HT.out]; simp, by first | trivial | rfl⟩, by simp [intOf]; omega⟩
        · have hmi : ¬ (m : Int) < R.length := by omega
          have hmn : R.take m = R := List.take_of_length_le (by omega)
          rw [hmn, HHT.out]
          have hcl := cnt_le u k
          obtain ⟨_, _, he, _, _, hnc⟩ := (H10.out.2.2.2.1.ext H11.out.2.2.2).cells
          have he2 := (Value.slice.inj he).1
          subst he2
          clear he
          have hgx := tabI_get (f := stepNo u) hlt
          obtain ⟨_, he, dn⟩ := hnc k _ (by simpa using hgx)
          cases he
          clear hmn hnc hgx hlm
          cases huk : u k with
          | false =>
            have hst : stepNo u k = -1 := by unfold stepNo; rw [huk]; rfl
            have HC := Lib.hid (show cnt u (k + 1) = cnt u k by rw [cnt, huk]; simp)
            rw [hst] at dn
            clear huk hst
            go_wp2_with fail
            exact ⟨⟨k + 1, by go_num, by omega, by rw [HC.out], H11.out.2.2.2⟩, by simp [intOf]; omega⟩
          | true =>
            have hst : stepNo u k = (cnt u k : Nat) := by unfold stepNo; rw [huk]; rfl
            have hs' := List.getElem?_eq_getElem hlt
            have HC := Lib.hid (And.intro (show cnt u (k + 1) = cnt u k + 1 by rw [cnt, huk]; simp) (And.intro (HK.out.prem k huk hlt R) (HK.out.at_ k _ huk hs')))
            have hml : cnt u k < q.steps.length := by rw [HK.out.len]; exact cnt_lt hlt huk
            have hmi2 : ¬ ((cnt u k : Nat) : Int) ≥ q.steps.length := by omega
            have hmi3 : ¬ q.steps.length ≤ cnt u k := by omega
            have hmi4 : ¬ (q.steps.length : Int) ≤ ((cnt u k : Nat) : Int) := by omega
            rw [hst] at dn
            clear huk hst
            generalize cnt u k = n0 at *
            have q0 := (H10.out.2.1.ext H11.out.2.2.2).bk.cell (i := 0) rfl
            have q1 := (H10.out.2.1.ext H11.out.2.2.2).bk.cell (i := 1) rfl
            have HPQ := Lib.hid (fun (W : World) (x : Upd [] w11 W) => Prem_good ((H10.out.2.1.ext (H11.out.2.2.2.step x)).pr) HK.out.ok hml)
            go_upto_region 22 with fail
            refine wp_region_ord 5 1 [0, 1, 2, 3, 4, 6, 7, 8, 9, 10] [0, 4] [0, 1, 2, 3, 4, 5, 6, 7, 8, 9, 10] (fun w' => ∃ x : Ext w11, w' = x.val) (by kernel_rfl) (by kernel_rfl) (Ext.of ((Upd.refl _ _).drew)) ?_
            repeat (first | (refine wpOrd_load rfl rfl rfl rfl (fun K hK => ?_); go_big_quiet_step (fail); refine wpQuiet_nil ?_; refine hK _ ?_; clear hK K) | (refine wpOrd_free rfl rfl rfl (fun K hK => ?_); go_big_quiet_step (fail); refine wpQuiet_nil ?_; refine hK _ ?_; clear hK K))
            refine wpOrd_fix rfl rfl (fun K hK => ?_)
            go_wp2_with (go_at_call 13; (with_reducible refine (HPQ.out _ ((Upd.refl _ w11).drew)).mono ?_); rintro e w12 ⟨v12, R2, rfl, hN2, hP2, u12⟩; obtain ⟨aR2, cR2, rfl, _⟩ := hN2.cells)
            have hRR := HC.out.2.1 R2 H11.out.2.1 hP2
            subst hRR
            have U12 : Upd [] w11 w12 := ((Upd.refl _ w11).drew).step u12
            have H12 := Lib.hid (And.intro (H11.out.1.ext U12) (And.intro hN2 (And.intro (H11.out.2.2.2.step U12) (U12.some dn (by simp)))))
            refine ⟨fun hC => absurd hC (by decide), ?_⟩
            repeat (first | (refine wpOrd_load rfl rfl rfl rfl (fun K hK => ?_); go_big_quiet_step (fail); refine wpQuiet_nil ?_; refine hK _ ?_; clear hK K) | (refine wpOrd_free rfl rfl rfl (fun K hK => ?_); go_big_quiet_step (fail); refine wpQuiet_nil ?_; refine hK _ ?_; clear hK K))
            refine wpOrd_nil ?_
            clear hN2 hP2 u12 U12 q0 q1 dn HPQ
            have p1 := (H10.out.1.ext H12.out.2.2.1).bk.cell (i := 1) rfl
            have q1 := (H10.out.2.1.ext H12.out.2.2.1).bk.cell (i := 1) rfl
            have dn := H12.out.2.2.2
            obtain ⟨_, _, ep, _, hSp⟩ := (H10.out.1.ext H12.out.2.2.1).pr
            obtain ⟨_, _, eq, _, hSq⟩ := (H10.out.2.1.ext H12.out.2.2.1).pr
            cases ep
            cases eq
            obtain ⟨_, _, ep, _, _, hatp⟩ := hSp.at_
            obtain ⟨_, _, eq, _, _, hatq⟩ := hSq.at_
            cases ep
            cases eq
            obtain ⟨sq, hsq, hlits⟩ := HC.out.2.2
            obtain ⟨gp, vp1, vp2, vp3, rfl, hcp, hFp⟩ := hatp _ _ hs'
            obtain ⟨gq, vq1, vq2, vq3, rfl, hcq, hFq⟩ := hatq _ _ hsq
            generalize p.steps[k]'(by omega) = sp at *
            have lp := hcp 5 _ rfl
            have lq := hcq 5 _ rfl
            have hLP := hFp.2.1
            have hLQ := hFq.2.1
            obtain ⟨ap, cp, rfl, _⟩ := hLP.cells
            obtain ⟨aq, cq, rfl, _⟩ := hLQ.cells
            have HLL := Lib.hid (And.intro hLP (And.intro hLQ hlits))
            clear hLP hLQ hlits hFp hFq hcp hcq hsq hs' hatp hatq hSp hSq
            go_upto_region 23 with fail
            refine wp_region_ord 45 1 [0, 1, 2, 3, 4, 5, 6, 7, 8, 9, 10, 11, 12, 14, 15, 16, 17, 18, 19, 20, 21, 22, 23, 24, 25, 26, 27, 28, 29, 30, 31, 32, 33, 34, 35, 36, 37, 38, 39, 40, 41, 43, 44] [6, 20, 22, 28, 32, 34, 38, 41] [0, 1, 2, 3, 4, 5, 6, 7, 8, 9, 10, 11, 12, 13, 14, 15, 16, 17, 18, 19, 20, 21, 22, 23, 24, 25, 26, 27, 28, 29, 30, 31, 32, 33, 34, 35, 36, 37, 38, 39, 40, 41, 42, 43, 44] (fun w' => ∃ x : Ext w12, w' = x.val) (by kernel_rfl) (by kernel_rfl) (Ext.of ((Upd.refl _ _).drew)) ?_
            repeat (first | (refine wpOrd_load rfl rfl rfl rfl (fun K hK => ?_); go_big_quiet_step (fail); refine wpQuiet_nil ?_; refine hK _ ?_; clear hK K) | (refine wpOrd_free rfl rfl rfl (fun K hK => ?_); go_big_quiet_step (fail); refine wpQuiet_nil ?_; refine hK _ ?_; clear hK K))
            refine wpOrd_fix rfl rfl (fun K hK => ?_)
            have ud : Upd [] w12 w12.drew := (Upd.refl _ w12).drew
            have HSN := Lib.hid (sameN_same (H12.out.1.ext ud) (H12.out.2.1.ext ud))
            clear ud
            go_wp2_with (go_at_call 14; (with_reducible refine HSN.out.mono ?_); rintro e w13 ⟨rfl, u13⟩)
            have U13 : Upd [] w12 w13 := ((Upd.refl _ w12).drew).step u13
            refine ⟨fun _ => Ext.of U13, ?_⟩
            have H13 := Lib.hid U13
            clear u13 U13 HSN
            repeat (first | (refine wpOrd_load rfl rfl rfl rfl (fun K hK => ?_); go_big_quiet_step (fail); refine wpQuiet_nil ?_; refine hK _ ?_; clear hK K) | (refine wpOrd_free rfl rfl rfl (fun K hK => ?_); go_big_quiet_step (fail); refine wpQuiet_nil ?_; refine hK _ ?_; clear hK K))
            refine wpOrd_fix rfl rfl (fun K hK => ?_)
            have HSI := Lib.hid (sameI_same (HLL.out.1.ext H13.out) (HLL.out.2.1.ext H13.out) HLL.out.2.2.symm)
            go_wp2_with (go_at_call 24; (with_reducible refine HSI.out.mono ?_); rintro e w14 ⟨rfl, u14⟩)
            have U14 : Upd [] w12 w14 := H13.out.step u14
            refine ⟨fun _ => Ext.of U14, ?_⟩
            have H14 := Lib.hid U14
            clear u14 U14 HSI
            repeat (first | (refine wpOrd_load rfl rfl rfl rfl (fun K hK => ?_); go_big_quiet_step (fail); refine wpQuiet_nil ?_; refine hK _ ?_; clear hK K) | (refine wpOrd_free rfl rfl rfl (fun K hK => ?_); go_big_quiet_step (fail); refine wpQuiet_nil ?_; refine hK _ ?_; clear hK K))
            refine wpOrd_nil ?_
            go_wp2_with fail
            exact ⟨⟨k + 1, by go_num, by omega, by rw [HC.out.1]; go_num, H12.out.2.2.1.step H14.out⟩, by simp [intOf]; omega⟩
    · have hki : ¬ (k : Int) < p.steps.length := by omega
      have hkn : k = p.steps.length := by omega
      have q1 := (H10.out.2.1.ext hU).bk.cell (i := 1) rfl
      have HL := Lib.hid (lives_calls (w := wo))
      have he : (((cnt u k : Nat) : Int) == (q.steps.length : Int)) = true := by rw [beq_iff_eq, hkn, HK.out.len]
      clear hkn hlt hU
      go_wp2_with (go_at_call 17; (with_reducible refine HL.out.mono ?_); rintro e w15 ⟨rfl, u15⟩)
      go_ret
      exact ⟨rfl, (H10.out.2.2.2.2.step HU.out).step u15⟩
end
end Trim
end Go.Proofs.Ytnmfihgdedifoaa
