/- Walks through package trim: Trim. Conditions: none. -/
import Derived.Test.YtnmfihgdedifoaaTrimR
set_option linter.unusedVariables false
set_option linter.unusedSimpArgs false
set_option linter.unusedSectionVars false
open Go.RowKit
namespace Go.Proofs.Ytnmfihgdedifoaa
open L R01
namespace Trim
/-- The bounds of a proof that the walks ask for. -/
structure Few (p : PrfD) : Prop where
  nl : p.lemmas.length ≤ 1000000
  hints : ∀ (k : Nat) (st : StepD), p.steps[k]? = some st → st.hints.length ≤ 1000000
theorem PrL.form {w : World} {v : Value} {p : PrfD} (h : PrL w v p) : ∃ al cl a2 c2, v = .agg #[.slice al p.lemmas.length cl, .slice a2 p.steps.length c2] := by
  obtain ⟨vl, vs, rfl, hL, hS⟩ := h
  obtain ⟨al, cl, rfl, _⟩ := hL.form
  obtain ⟨a2, c2, rfl, _⟩ := hS.at_
  exact ⟨al, cl, a2, c2, rfl⟩
theorem PrL.kd {w w' : World} {v : Value} {p : PrfD} {T : List Nat} {es : List TypeId} (h : PrL w v p) (hT : Off w T es) (he : 3 ∈ es) (he2 : 88 ∈ es) (he3 : 56 ∈ es) (he4 : 82 ∈ es) (u : Upd T w w') : PrL w' v p := by
  obtain ⟨vl, vs, e, h1, h2⟩ := h
  exact ⟨vl, vs, e, h1.kd hT he he2 he3 he4 u, h2.kd hT he he3 u⟩
theorem PrL.same {w : World} {a b : Value} {p : PrfD} (h : PrL w (.agg #[a, b]) p) : PrL w (.agg #[a, b]) p := h
section
variable {w : World}
set_option maxRecDepth 100000 in
set_option maxHeartbeats 4000000 in
theorem Trim_bad {v : Value} {p : PrfD} (h : PrL w v p) (hc : check p ≠ 0) :
    Calls Try.prog 19 #[v] w fun e w' => e = .returned (.tuple #[.agg #[.slice none 0 0, .slice none 0 0], .int .i64 (check p)]) ∧ Upd [] w w' := by
  obtain ⟨vl, vs, rfl, hL, hS⟩ := h
  obtain ⟨al, cl, rfl, ql, rl⟩ := hL.form
  obtain ⟨a2, c2, rfl, qs, rs, _⟩ := hS.at_
  have HV := Lib.hid (fun (w' : World) (u : Upd [] w w') => valid_calls (w := w') (p := p) ⟨_, _, rfl, hL.ext u, hS.ext u⟩)
  have hb : (check p != 0) = true := by simpa using hc
  generalize check p = z at *
  clear hL hS hc
  have b1 := (Blk.new w [.slice al p.lemmas.length cl, .slice a2 p.steps.length c2] 30).alloc (.cells #[.slice none 0 0, .slice none 0 0] 30)
  have b2 := Blk.new (w.alloc (.cells #[.slice al p.lemmas.length cl, .slice a2 p.steps.length c2] 30)) [.slice none 0 0, .slice none 0 0] 30
  have u2 := ((Upd.refl [] w).alloc (.cells #[.slice al p.lemmas.length cl, .slice a2 p.steps.length c2] 30)).alloc (.cells #[.slice none 0 0, .slice none 0 0] 30)
  rw [show (w.alloc (.cells #[.slice al p.lemmas.length cl, .slice a2 p.steps.length c2] 30)).heap.size = w.heap.size + 1 by simp] at b2
  have c0 := b1.cell (i := 0) rfl
  have c1 := b1.cell (i := 1) rfl
  go_enter Try.func19, Try.ntmps19
  go_upto_region 2 with (go_at_call 31; (with_reducible refine (HV.out _ u2).mono ?_); rintro e _ ⟨rfl, u3⟩; obtain ⟨x3, rfl⟩ := Ext.of u3)
  have B2 := b2.upd x3.upd (by simp)
  have r0 := B2.cell (i := 0) rfl
  have r1 := B2.cell (i := 1) rfl
  have fr0 := B2.free 0
  have fr1 := B2.free 1
  have us : Upd [w.heap.size + 1] x3.val ((x3.val.setCell ⟨w.heap.size + 1, 0, none⟩ (.slice none 0 0)).setCell ⟨w.heap.size + 1, 1, none⟩ (.slice none 0 0)) := ((Upd.refl _ x3.val).set (.inl (by simp)) _).set (.inl (by simp)) _
  have HX := Lib.hid (And.intro (show Blk _ (w.heap.size + 1) [.slice none 0 0, .slice none 0 0] 30 from (B2.set 0 (.slice none 0 0)).set 1 (.slice none 0 0)) ((u2.step x3.upd).fresh us (fun b hb => .inr (by simp at hb; omega))))
  clear us B2
  go_wp2_with fail
  exact ret_row_tmp rfl rfl HX.out.1 Try.underlying30 (by kernel_rfl) rfl rfl ⟨rfl, HX.out.2⟩
set_option maxRecDepth 100000 in
set_option maxHeartbeats 8000000 in
theorem Trim_good {v : Value} {p : PrfD} (h : PrL w v p) (hc : check p = 0) (hf : Few p) :
    Calls Try.prog 19 #[v] w fun e w' => ∃ v', e = .returned (.tuple #[v', .int .i64 0]) ∧ PrL w' v' (pickP p (lastOn p.steps)) ∧ Upd [] w w' := by
  have hwf := wf_check.1 hc
  obtain ⟨vl, vs, rfl, hL, hS⟩ := h
  obtain ⟨al, cl, rfl, ql, rl⟩ := hL.form
  obtain ⟨a2, c2, rfl, qs, rs, _⟩ := hS.at_
  have HV := Lib.hid (fun (w' : World) (u : Upd [] w w') => show Calls Try.prog 31 #[.agg #[.slice al p.lemmas.length cl, .slice a2 p.steps.length c2]] w' fun e w'' => e = .returned (.int .i64 0) ∧ Upd [] w' w'' from by
    have h := valid_calls (w := w') (p := p) ⟨_, _, rfl, hL.ext u, hS.ext u⟩
    rw [hc] at h; exact h)
  have HU := Lib.hid (fun (w' : World) (u : Upd [] w w') => uses_calls (hS.ext u) hwf.len hwf.hints)
  have HPK := Lib.hid (fun (w' : World) (u : Upd [] w w') (gu : Nat) (hu : Blk w' gu (bools (tab p.steps.length (lastOn p.steps))) 4) => pick_calls (w := w') (p := p) (v := .agg #[.slice al p.lemmas.length cl, .slice a2 p.steps.length c2]) ⟨_, _, rfl, hL.ext u, hS.ext u⟩ hwf hf.nl hf.hints hu)
  clear hL hS hc hwf
  have hb : ((0 : Int) != 0) = false := rfl
  have b1 := (Blk.new w [.slice al p.lemmas.length cl, .slice a2 p.steps.length c2] 30).alloc (.cells #[.slice none 0 0, .slice none 0 0] 30)
  have b2 := Blk.new (w.alloc (.cells #[.slice al p.lemmas.length cl, .slice a2 p.steps.length c2] 30)) [.slice none 0 0, .slice none 0 0] 30
  have u2 := ((Upd.refl [] w).alloc (.cells #[.slice al p.lemmas.length cl, .slice a2 p.steps.length c2] 30)).alloc (.cells #[.slice none 0 0, .slice none 0 0] 30)
  rw [show (w.alloc (.cells #[.slice al p.lemmas.length cl, .slice a2 p.steps.length c2] 30)).heap.size = w.heap.size + 1 by simp] at b2
  have c0 := b1.cell (i := 0) rfl
  have c1 := b1.cell (i := 1) rfl
  go_enter Try.func19, Try.ntmps19
  go_upto_region 4 with (go_at_call 31; (with_reducible refine (HV.out _ u2).mono ?_); rintro e _ ⟨rfl, u3⟩; obtain ⟨x3, rfl⟩ := Ext.of u3)
  have B1 := b1.upd x3.upd (by simp)
  have B2 := b2.upd x3.upd (by simp)
  have U3 := u2.step x3.upd
  clear b1 b2 u2 u3 c0 c1 HV
  generalize x3.val = w3 at *
  have c0 := B1.cell (i := 0) rfl
  have c1 := B1.cell (i := 1) rfl
  have H3 := Lib.hid (And.intro (show Blk w3.drew (w.heap.size + 1) [.slice none 0 0, .slice none 0 0] 30 from B2) U3.drew)
  clear B1 B2 U3 x3
  refine wp_region_wa 11 9 (fun w' => ∃ x : Ext w3, w' = x.val) (by kernel_rfl) (by kernel_rfl) (Ext.of ((Upd.refl _ _).drew)) ?_
  (refine WA.load 0 11 rfl rfl (by kernel_rfl) (by kernel_rfl) (fun K hK => ?_); go_big_quiet_step (fail); refine wpQuiet_nil ?_; refine hK _ ?_; clear hK K)
  (refine WA.free 1 rfl rfl (by kernel_rfl) (fun K hK => ?_); go_big_quiet_step (fail); refine wpQuiet_nil ?_; refine hK _ ?_; clear hK K)
  (refine WA.load 2 11 rfl rfl (by kernel_rfl) (by kernel_rfl) (fun K hK => ?_); go_big_quiet_step (fail); refine wpQuiet_nil ?_; refine hK _ ?_; clear hK K)
  refine WA.two 3 8 (by kernel_rfl) (Do_.mk rfl (fun K hK => ?_)) (Do_.mk rfl (fun K hK => ?_))
  · go_wp2_with (go_at_call 32; refine (HU.out _ H3.out.2).mono ?_; rintro e w5 ⟨gu, rfl, hBu, hgu, uU⟩)
    have U5 : Upd [] w3 w5 := ((Upd.refl _ w3).drew).step uU
    refine WA.keep (Ext.of (U5)) ?_
    have HA := Lib.hid (And.intro hBu (And.intro (show Upd [] w w5 from H3.out.2.step uU) (H3.out.1.upd uU (by simp))))
    have HA5 := Lib.hid U5
    clear hBu uU hgu U5
    refine WA.two 4 8 (by kernel_rfl) (Do_.mk rfl (fun K hK => ?_)) (Do_.mk rfl (fun K hK => ?_))
    · go_wp2_with (go_at_call 37; refine (HPK.out _ HA.out.2.1 _ HA.out.1).mono ?_; rintro e w6 ⟨vl', vs', gs, rfl, hPr, _, _, uP⟩)
      obtain ⟨al', cl', as', cs', he⟩ := hPr.form
      simp only [Value.agg.injEq, Array.mk.injEq, List.cons.injEq, and_true] at he
      obtain ⟨rfl, rfl⟩ := he
      refine WA.keep (Ext.of (HA5.out.step uP)) ?_
      have HB := Lib.hid (And.intro hPr (And.intro (HA.out.2.1.step uP) (And.intro (HA.out.2.2.upd uP (by simp)) (HA5.out.step uP))))
      clear hPr uP
      (refine WA.free 5 rfl rfl (by kernel_rfl) (fun K hK => ?_); go_big_quiet_step (fail); refine wpQuiet_nil ?_; refine hK _ ?_; clear hK K); (refine WA.free 6 rfl rfl (by kernel_rfl) (fun K hK => ?_); go_big_quiet_step (fail); refine wpQuiet_nil ?_; refine hK _ ?_; clear hK K); (refine WA.free 7 rfl rfl (by kernel_rfl) (fun K hK => ?_); go_big_quiet_step (fail); refine wpQuiet_nil ?_; refine hK _ ?_; clear hK K)
      refine WA.one 8 (by kernel_rfl) (Do_.mk rfl (fun K hK => ?_))
      go_wp2_with fail
      have BO := Blk.new (w6) [.slice none 0 0, .slice none 0 0] 30
      have uO := (Upd.refl [] (w6)).alloc (.cells #[.slice none 0 0, .slice none 0 0] 30)
      generalize hob : Array.size (World.heap (w6)) = ob at *
      generalize World.alloc (w6) (.cells #[.slice none 0 0, .slice none 0 0] 30) = w7 at *
      refine WA.keep (Ext.of (HB.out.2.2.2.step uO)) ?_
      have hobw : w.heap.size + 1 < ob := by have := HB.out.2.2.1.lt; omega
      clear hob
      have HE := Lib.hid (And.intro ((show PrL w6 (.agg #[.slice al' (pickP p (lastOn p.steps)).lemmas.length cl', .slice as' (pickP p (lastOn p.steps)).steps.length cs']) (pickP p (lastOn p.steps)) from HB.out.1).kd (T := []) (es := [3, 88, 56, 82]) (off_nil _ _) (by simp) (by simp) (by simp) (by simp) uO) (And.intro (BO) (And.intro (HB.out.2.2.1.upd uO (by simp)) (HB.out.2.1.step uO))))
      have y0 := HE.out.2.1.cell (i := 0) rfl
      have y1 := HE.out.2.1.cell (i := 1) rfl
      have yf0 := HE.out.2.1.free 0
      have yf1 := HE.out.2.1.free 1
      clear BO uO HB
      generalize hpk : (pickP p (lastOn p.steps)) = pk at *
      have HPQ := Lib.hid hpk
      clear hpk
      refine WA.one 9 (by kernel_rfl) (Do_.mk rfl (fun K hK => ?_))
      have uS : Upd [ob] w7 ((w7.setCell ⟨ob, 0, none⟩ (.slice al' pk.lemmas.length cl')).setCell ⟨ob, 1, none⟩ (.slice as' pk.steps.length cs')) := ((Upd.refl _ w7).set (.inl (by simp)) _).set (.inl (by simp)) _
      have BS : Blk ((w7.setCell ⟨ob, 0, none⟩ (.slice al' pk.lemmas.length cl')).setCell ⟨ob, 1, none⟩ (.slice as' pk.steps.length cs')) ob [.slice al' pk.lemmas.length cl', .slice as' pk.steps.length cs'] 30 := (HE.out.2.1.set 0 _).set 1 _
      have hoff : Off w7 [ob] [3, 88, 56, 82] := off_blk HE.out.2.1 (by decide)
      have HG := Lib.hid (And.intro (HE.out.1.kd hoff (by simp) (by simp) (by simp) (by simp) uS) (And.intro BS (And.intro (HE.out.2.2.1.upd uS (by simp; omega)) (HE.out.2.2.2.fresh uS (fun b hb => .inr (by simp at hb; omega))))))
      clear uS BS hoff HE
      go_wp2_with fail
      refine WA.past (by kernel_rfl) ?_
      generalize ((w7.setCell ⟨ob, 0, none⟩ (.slice al' pk.lemmas.length cl')).setCell ⟨ob, 1, none⟩ (.slice as' pk.steps.length cs')) = wG at *
      clear y0 y1 yf0 yf1
      have y0 := HG.out.2.1.cell (i := 0) rfl
      have y1 := HG.out.2.1.cell (i := 1) rfl
      have r0 := HG.out.2.2.1.cell (i := 0) rfl
      have r1 := HG.out.2.2.1.cell (i := 1) rfl
      have fr0 := HG.out.2.2.1.free 0
      have fr1 := HG.out.2.2.1.free 1
      have uR : Upd [w.heap.size + 1] wG ((wG.setCell ⟨w.heap.size + 1, 0, none⟩ (.slice al' pk.lemmas.length cl')).setCell ⟨w.heap.size + 1, 1, none⟩ (.slice as' pk.steps.length cs')) := ((Upd.refl _ wG).set (.inl (by simp)) _).set (.inl (by simp)) _
      have BR : Blk ((wG.setCell ⟨w.heap.size + 1, 0, none⟩ (.slice al' pk.lemmas.length cl')).setCell ⟨w.heap.size + 1, 1, none⟩ (.slice as' pk.steps.length cs')) (w.heap.size + 1) [.slice al' pk.lemmas.length cl', .slice as' pk.steps.length cs'] 30 := (HG.out.2.2.1.set 0 _).set 1 _
      have hoff : Off wG [w.heap.size + 1] [3, 88, 56, 82] := off_blk HG.out.2.2.1 (by decide)
      have HX := Lib.hid (And.intro BR (And.intro (HG.out.1.kd hoff (by simp) (by simp) (by simp) (by simp) uR) (HG.out.2.2.2.fresh uR (fun b hb => .inr (by simp at hb; omega)))))
      clear uR BR hoff HG
      (refine WA.free 10 rfl rfl (by kernel_rfl) (fun K hK => ?_); go_big_quiet_step (fail); refine wpQuiet_nil ?_; refine hK _ ?_; clear hK K)
      refine WA.nil (by kernel_rfl) ?_
      go_wp2_with fail
      exact ret_row_tmp rfl rfl HX.out.1 Try.underlying30 (by kernel_rfl) rfl rfl ⟨_, rfl, by rw [HPQ.out]; exact HX.out.2.1, HX.out.2.2⟩
    · go_wp2_with fail
      have BO := Blk.new (w5) [.slice none 0 0, .slice none 0 0] 30
      have uO := (Upd.refl [] (w5)).alloc (.cells #[.slice none 0 0, .slice none 0 0] 30)
      generalize hob : Array.size (World.heap (w5)) = ob at *
      generalize World.alloc (w5) (.cells #[.slice none 0 0, .slice none 0 0] 30) = w6 at *
      refine WA.keep (Ext.of (HA5.out.step uO)) ?_
      have hobw : w.heap.size + 1 < ob := by have := HA.out.2.2.lt; omega
      clear hob
      have HC := Lib.hid (And.intro BO (And.intro (HA.out.2.1.step uO) (And.intro (HA.out.2.2.upd uO (by simp)) (And.intro (HA.out.1.upd uO (by simp)) (HA5.out.step uO)))))
      clear BO uO
      refine WA.one 4 (by kernel_rfl) (Do_.mk rfl (fun K hK => ?_))
      go_wp2_with (go_at_call 37; refine (HPK.out _ HC.out.2.1 _ HC.out.2.2.2.1).mono ?_; rintro e w7 ⟨vl', vs', gs, rfl, hPr, _, _, uP⟩)
      obtain ⟨al', cl', as', cs', he⟩ := hPr.form
      simp only [Value.agg.injEq, Array.mk.injEq, List.cons.injEq, and_true] at he
      obtain ⟨rfl, rfl⟩ := he
      refine WA.keep (Ext.of (HC.out.2.2.2.2.step uP)) ?_
      have HB := Lib.hid (And.intro hPr uP)
      clear hPr uP
      (refine WA.free 5 rfl rfl (by kernel_rfl) (fun K hK => ?_); go_big_quiet_step (fail); refine wpQuiet_nil ?_; refine hK _ ?_; clear hK K); (refine WA.free 6 rfl rfl (by kernel_rfl) (fun K hK => ?_); go_big_quiet_step (fail); refine wpQuiet_nil ?_; refine hK _ ?_; clear hK K); (refine WA.free 7 rfl rfl (by kernel_rfl) (fun K hK => ?_); go_big_quiet_step (fail); refine wpQuiet_nil ?_; refine hK _ ?_; clear hK K)
      have HE := Lib.hid (And.intro (HB.out.1) (And.intro (HC.out.1.upd HB.out.2 (by simp)) (And.intro (HC.out.2.2.1.upd HB.out.2 (by simp)) (HC.out.2.1.step HB.out.2))))
      have y0 := HE.out.2.1.cell (i := 0) rfl
      have y1 := HE.out.2.1.cell (i := 1) rfl
      have yf0 := HE.out.2.1.free 0
      have yf1 := HE.out.2.1.free 1
      clear HB HC
      generalize hpk : (pickP p (lastOn p.steps)) = pk at *
      have HPQ := Lib.hid hpk
      clear hpk
      refine WA.one 9 (by kernel_rfl) (Do_.mk rfl (fun K hK => ?_))
      have uS : Upd [ob] w7 ((w7.setCell ⟨ob, 0, none⟩ (.slice al' pk.lemmas.length cl')).setCell ⟨ob, 1, none⟩ (.slice as' pk.steps.length cs')) := ((Upd.refl _ w7).set (.inl (by simp)) _).set (.inl (by simp)) _
      have BS : Blk ((w7.setCell ⟨ob, 0, none⟩ (.slice al' pk.lemmas.length cl')).setCell ⟨ob, 1, none⟩ (.slice as' pk.steps.length cs')) ob [.slice al' pk.lemmas.length cl', .slice as' pk.steps.length cs'] 30 := (HE.out.2.1.set 0 _).set 1 _
      have hoff : Off w7 [ob] [3, 88, 56, 82] := off_blk HE.out.2.1 (by decide)
      have HG := Lib.hid (And.intro (HE.out.1.kd hoff (by simp) (by simp) (by simp) (by simp) uS) (And.intro BS (And.intro (HE.out.2.2.1.upd uS (by simp; omega)) (HE.out.2.2.2.fresh uS (fun b hb => .inr (by simp at hb; omega))))))
      clear uS BS hoff HE
      go_wp2_with fail
      refine WA.past (by kernel_rfl) ?_
      generalize ((w7.setCell ⟨ob, 0, none⟩ (.slice al' pk.lemmas.length cl')).setCell ⟨ob, 1, none⟩ (.slice as' pk.steps.length cs')) = wG at *
      clear y0 y1 yf0 yf1
      have y0 := HG.out.2.1.cell (i := 0) rfl
      have y1 := HG.out.2.1.cell (i := 1) rfl
      have r0 := HG.out.2.2.1.cell (i := 0) rfl
      have r1 := HG.out.2.2.1.cell (i := 1) rfl
      have fr0 := HG.out.2.2.1.free 0
      have fr1 := HG.out.2.2.1.free 1
      have uR : Upd [w.heap.size + 1] wG ((wG.setCell ⟨w.heap.size + 1, 0, none⟩ (.slice al' pk.lemmas.length cl')).setCell ⟨w.heap.size + 1, 1, none⟩ (.slice as' pk.steps.length cs')) := ((Upd.refl _ wG).set (.inl (by simp)) _).set (.inl (by simp)) _
      have BR : Blk ((wG.setCell ⟨w.heap.size + 1, 0, none⟩ (.slice al' pk.lemmas.length cl')).setCell ⟨w.heap.size + 1, 1, none⟩ (.slice as' pk.steps.length cs')) (w.heap.size + 1) [.slice al' pk.lemmas.length cl', .slice as' pk.steps.length cs'] 30 := (HG.out.2.2.1.set 0 _).set 1 _
      have hoff : Off wG [w.heap.size + 1] [3, 88, 56, 82] := off_blk HG.out.2.2.1 (by decide)
      have HX := Lib.hid (And.intro BR (And.intro (HG.out.1.kd hoff (by simp) (by simp) (by simp) (by simp) uR) (HG.out.2.2.2.fresh uR (fun b hb => .inr (by simp at hb; omega)))))
      clear uR BR hoff HG
      (refine WA.free 10 rfl rfl (by kernel_rfl) (fun K hK => ?_); go_big_quiet_step (fail); refine wpQuiet_nil ?_; refine hK _ ?_; clear hK K)
      refine WA.nil (by kernel_rfl) ?_
      go_wp2_with fail
      exact ret_row_tmp rfl rfl HX.out.1 Try.underlying30 (by kernel_rfl) rfl rfl ⟨_, rfl, by rw [HPQ.out]; exact HX.out.2.1, HX.out.2.2⟩
  · go_wp2_with fail
    have BO := Blk.new (w3) [.slice none 0 0, .slice none 0 0] 30
    have uO := (Upd.refl [] (w3)).alloc (.cells #[.slice none 0 0, .slice none 0 0] 30)
    generalize hob : Array.size (World.heap (w3)) = ob at *
    generalize World.alloc (w3) (.cells #[.slice none 0 0, .slice none 0 0] 30) = w5 at *
    refine WA.keep (Ext.of ((uO.drew))) ?_
    have hobw : w.heap.size + 1 < ob := by have := (show Blk w3 (w.heap.size + 1) _ 30 from H3.out.1).lt; omega
    clear hob
    have HC := Lib.hid (And.intro (show Blk w5.drew ob _ 30 from BO) (And.intro (show Upd [] w w5.drew from ((⟨H3.out.2.os, H3.out.2.tape, H3.out.2.output, H3.out.2.size, H3.out.2.block⟩ : Upd [] w w3).step uO).drew) (And.intro (show Blk w5.drew (w.heap.size + 1) [.slice none 0 0, .slice none 0 0] 30 from (show Blk w5 (w.heap.size + 1) [.slice none 0 0, .slice none 0 0] 30 from (show Blk w3 (w.heap.size + 1) [.slice none 0 0, .slice none 0 0] 30 from H3.out.1).upd uO (by simp))) (uO.drew))))
    clear BO uO
    refine WA.one 3 (by kernel_rfl) (Do_.mk rfl (fun K hK => ?_))
    go_wp2_with (go_at_call 32; refine (HU.out _ HC.out.2.1).mono ?_; rintro e w6 ⟨gu, rfl, hBu, hgu, uU⟩)
    refine WA.keep (Ext.of (HC.out.2.2.2.step uU)) ?_
    have HA := Lib.hid (And.intro hBu (And.intro (HC.out.2.1.step uU) (And.intro (HC.out.2.2.1.upd uU (by simp)) (And.intro (HC.out.1.upd uU (by simp)) (HC.out.2.2.2.step uU)))))
    clear hBu uU hgu HC
    refine WA.one 4 (by kernel_rfl) (Do_.mk rfl (fun K hK => ?_))
    go_wp2_with (go_at_call 37; refine (HPK.out _ HA.out.2.1 _ HA.out.1).mono ?_; rintro e w7 ⟨vl', vs', gs, rfl, hPr, _, _, uP⟩)
    obtain ⟨al', cl', as', cs', he⟩ := hPr.form
    simp only [Value.agg.injEq, Array.mk.injEq, List.cons.injEq, and_true] at he
    obtain ⟨rfl, rfl⟩ := he
    refine WA.keep (Ext.of (HA.out.2.2.2.2.step uP)) ?_
    have HB := Lib.hid (And.intro hPr uP)
    clear hPr uP
    (refine WA.free 5 rfl rfl (by kernel_rfl) (fun K hK => ?_); go_big_quiet_step (fail); refine wpQuiet_nil ?_; refine hK _ ?_; clear hK K); (refine WA.free 6 rfl rfl (by kernel_rfl) (fun K hK => ?_); go_big_quiet_step (fail); refine wpQuiet_nil ?_; refine hK _ ?_; clear hK K); (refine WA.free 7 rfl rfl (by kernel_rfl) (fun K hK => ?_); go_big_quiet_step (fail); refine wpQuiet_nil ?_; refine hK _ ?_; clear hK K)
    have HE := Lib.hid (And.intro (HB.out.1) (And.intro (HA.out.2.2.2.1.upd HB.out.2 (by simp)) (And.intro (HA.out.2.2.1.upd HB.out.2 (by simp)) (HA.out.2.1.step HB.out.2))))
    have y0 := HE.out.2.1.cell (i := 0) rfl
    have y1 := HE.out.2.1.cell (i := 1) rfl
    have yf0 := HE.out.2.1.free 0
    have yf1 := HE.out.2.1.free 1
    clear HB HA
    generalize hpk : (pickP p (lastOn p.steps)) = pk at *
    have HPQ := Lib.hid hpk
    clear hpk
    refine WA.one 9 (by kernel_rfl) (Do_.mk rfl (fun K hK => ?_))
    have uS : Upd [ob] w7 ((w7.setCell ⟨ob, 0, none⟩ (.slice al' pk.lemmas.length cl')).setCell ⟨ob, 1, none⟩ (.slice as' pk.steps.length cs')) := ((Upd.refl _ w7).set (.inl (by simp)) _).set (.inl (by simp)) _
    have BS : Blk ((w7.setCell ⟨ob, 0, none⟩ (.slice al' pk.lemmas.length cl')).setCell ⟨ob, 1, none⟩ (.slice as' pk.steps.length cs')) ob [.slice al' pk.lemmas.length cl', .slice as' pk.steps.length cs'] 30 := (HE.out.2.1.set 0 _).set 1 _
    have hoff : Off w7 [ob] [3, 88, 56, 82] := off_blk HE.out.2.1 (by decide)
    have HG := Lib.hid (And.intro (HE.out.1.kd hoff (by simp) (by simp) (by simp) (by simp) uS) (And.intro BS (And.intro (HE.out.2.2.1.upd uS (by simp; omega)) (HE.out.2.2.2.fresh uS (fun b hb => .inr (by simp at hb; omega))))))
    clear uS BS hoff HE
    go_wp2_with fail
    refine WA.past (by kernel_rfl) ?_
    generalize ((w7.setCell ⟨ob, 0, none⟩ (.slice al' pk.lemmas.length cl')).setCell ⟨ob, 1, none⟩ (.slice as' pk.steps.length cs')) = wG at *
    clear y0 y1 yf0 yf1
    have y0 := HG.out.2.1.cell (i := 0) rfl
    have y1 := HG.out.2.1.cell (i := 1) rfl
    have r0 := HG.out.2.2.1.cell (i := 0) rfl
    have r1 := HG.out.2.2.1.cell (i := 1) rfl
    have fr0 := HG.out.2.2.1.free 0
    have fr1 := HG.out.2.2.1.free 1
    have uR : Upd [w.heap.size + 1] wG ((wG.setCell ⟨w.heap.size + 1, 0, none⟩ (.slice al' pk.lemmas.length cl')).setCell ⟨w.heap.size + 1, 1, none⟩ (.slice as' pk.steps.length cs')) := ((Upd.refl _ wG).set (.inl (by simp)) _).set (.inl (by simp)) _
    have BR : Blk ((wG.setCell ⟨w.heap.size + 1, 0, none⟩ (.slice al' pk.lemmas.length cl')).setCell ⟨w.heap.size + 1, 1, none⟩ (.slice as' pk.steps.length cs')) (w.heap.size + 1) [.slice al' pk.lemmas.length cl', .slice as' pk.steps.length cs'] 30 := (HG.out.2.2.1.set 0 _).set 1 _
    have hoff : Off wG [w.heap.size + 1] [3, 88, 56, 82] := off_blk HG.out.2.2.1 (by decide)
    have HX := Lib.hid (And.intro BR (And.intro (HG.out.1.kd hoff (by simp) (by simp) (by simp) (by simp) uR) (HG.out.2.2.2.fresh uR (fun b hb => .inr (by simp at hb; omega)))))
    clear uR BR hoff HG
    (refine WA.free 10 rfl rfl (by kernel_rfl) (fun K hK => ?_); go_big_quiet_step (fail); refine wpQuiet_nil ?_; refine hK _ ?_; clear hK K)
    refine WA.nil (by kernel_rfl) ?_
    go_wp2_with fail
    exact ret_row_tmp rfl rfl HX.out.1 Try.underlying30 (by kernel_rfl) rfl rfl ⟨_, rfl, by rw [HPQ.out]; exact HX.out.2.1, HX.out.2.2⟩
end
end Trim
end Go.Proofs.Ytnmfihgdedifoaa
