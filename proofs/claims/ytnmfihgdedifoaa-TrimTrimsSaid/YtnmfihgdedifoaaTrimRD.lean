/- Walks through the reference of package trim: Trim. Conditions: none. -/
import Derived.Test.YtnmfihgdedifoaaTrimRB
import Derived.Test.YtnmfihgdedifoaaTrimT
set_option linter.unusedVariables false
set_option linter.unusedSimpArgs false
set_option linter.unusedSectionVars false
open Go.RowKit
namespace Go.Proofs.Ytnmfihgdedifoaa
open L R01
namespace Trim
theorem sl_new {w : World} {g n : Nat} {e : TypeId} {cs : List Value} (hb : Blk w g cs e) (hn : cs.length = n) (hm : n ≤ maxLen) : SL w 1 (.slice (some ⟨g, 0, none⟩) n n) n cs :=
  SL.of_blk (pad := []) (by simpa using hb) (by omega) (Nat.le_refl _) hm
section
variable {w : World}
set_option maxRecDepth 100000 in
set_option maxHeartbeats 8000000 in
theorem RTrim_calls {v : Value} {p : PrfD} (h : PrL w v p) (hwf : Wf p) (hf : Few p) :
    Calls Try.prog 23 #[v] w fun e w' => ∃ v', e = .returned v' ∧ PrL w' v' (pickP p (lastOn p.steps)) ∧ Upd [] w w' := by
  obtain ⟨vl, vs, rfl, hL, hS⟩ := h
  obtain ⟨al, cl, rfl, ql, rl⟩ := hL.form
  obtain ⟨a2, c2, rfl, qs, rs, _⟩ := hS.at_
  have hlen := hwf.len
  have HU := Lib.hid (fun (w' : World) (u : Upd [] w w') => rests_calls (w := w') (p := p) (v := .agg #[.slice al p.lemmas.length cl, .slice a2 p.steps.length c2]) ⟨_, _, rfl, hL.ext u, hS.ext u⟩ hwf (show IsI64 ((p.steps.length : Int) - 1) by unfold IsI64; omega))
  have HPK := Lib.hid (fun (w' : World) (u : Upd [] w w') (gu : Nat) (hu : Blk w' gu (bools (tab p.steps.length (lastOn p.steps))) 4) => rpick_calls (w := w') (p := p) (v := .agg #[.slice al p.lemmas.length cl, .slice a2 p.steps.length c2]) (vk := .slice (some ⟨gu, 0, none⟩) p.steps.length p.steps.length) ⟨_, _, rfl, hL.ext u, hS.ext u⟩ hwf hf.nl hf.hints (sl_new hu (by unfold bools tab; simp) (by unfold maxLen; omega)))
  clear hL hS hwf
  have b1 := (Blk.new w [.slice al p.lemmas.length cl, .slice a2 p.steps.length c2] 30).alloc (.cells #[.slice none 0 0, .slice none 0 0] 30)
  have b2 := Blk.new (w.alloc (.cells #[.slice al p.lemmas.length cl, .slice a2 p.steps.length c2] 30)) [.slice none 0 0, .slice none 0 0] 30
  have u2 := ((Upd.refl [] w).alloc (.cells #[.slice al p.lemmas.length cl, .slice a2 p.steps.length c2] 30)).alloc (.cells #[.slice none 0 0, .slice none 0 0] 30)
  rw [show (w.alloc (.cells #[.slice al p.lemmas.length cl, .slice a2 p.steps.length c2] 30)).heap.size = w.heap.size + 1 by simp] at b2
  have c0 := b1.cell (i := 0) rfl
  have c1 := b1.cell (i := 1) rfl
  go_enter Try.func23, Try.ntmps23
  go_upto_region 1 with fail
  have H3 := Lib.hid (And.intro b2 (And.intro u2 b1))
  clear b1 b2
  generalize ((w.alloc (.cells #[.slice al p.lemmas.length cl, .slice a2 p.steps.length c2] 30)).alloc (.cells #[.slice none 0 0, .slice none 0 0] 30)) = w3 at *
  have H3 := Lib.hid (And.intro (show Blk w3.drew (w.heap.size + 1) [.slice none 0 0, .slice none 0 0] 30 from H3.out.1) u2.drew)
  clear u2
  refine wp_region_wa 14 12 (fun w' => ∃ x : Ext w3, w' = x.val) (by kernel_rfl) (by kernel_rfl) (Ext.of ((Upd.refl _ _).drew)) ?_
  (refine WA.load 0 14 rfl rfl (by kernel_rfl) (by kernel_rfl) (fun K hK => ?_); go_big_quiet_step (fail); refine wpQuiet_nil ?_; refine hK _ ?_; clear hK K)
  (refine WA.load 1 14 rfl rfl (by kernel_rfl) (by kernel_rfl) (fun K hK => ?_); go_big_quiet_step (fail); refine wpQuiet_nil ?_; refine hK _ ?_; clear hK K)
  (refine WA.free 2 rfl rfl (by kernel_rfl) (fun K hK => ?_); go_big_quiet_step (fail); refine wpQuiet_nil ?_; refine hK _ ?_; clear hK K)
  (refine WA.load 3 14 rfl rfl (by kernel_rfl) (by kernel_rfl) (fun K hK => ?_); go_big_quiet_step (fail); refine wpQuiet_nil ?_; refine hK _ ?_; clear hK K)
  (refine WA.free 4 rfl rfl (by kernel_rfl) (fun K hK => ?_); go_big_quiet_step (fail); refine wpQuiet_nil ?_; refine hK _ ?_; clear hK K); (refine WA.free 5 rfl rfl (by kernel_rfl) (fun K hK => ?_); go_big_quiet_step (fail); refine wpQuiet_nil ?_; refine hK _ ?_; clear hK K)
  refine WA.two 6 11 (by kernel_rfl) (Do_.mk rfl (fun K hK => ?_)) (Do_.mk rfl (fun K hK => ?_))
  · go_wp2_with (go_at_call 16; refine (HU.out _ H3.out.2).mono ?_; rintro e w5 ⟨gu, rfl, hBu, hgu, uU⟩; change Blk w5 gu (bools (tab p.steps.length (lastOn p.steps))) 4 at hBu)
    have U5 : Upd [] w3 w5 := ((Upd.refl _ w3).drew).step uU
    refine WA.keep (Ext.of (U5)) ?_
    have HA := Lib.hid (And.intro hBu (And.intro (show Upd [] w w5 from H3.out.2.step uU) (H3.out.1.upd uU (by simp))))
    have HA5 := Lib.hid U5
    clear hBu uU hgu U5
    refine WA.two 7 11 (by kernel_rfl) (Do_.mk rfl (fun K hK => ?_)) (Do_.mk rfl (fun K hK => ?_))
    · go_wp2_with (go_at_call 38; refine (HPK.out _ HA.out.2.1 _ HA.out.1).mono ?_; rintro e w6 ⟨vl', vs', agn, cgn, rfl, hPr, _, uP⟩)
      obtain ⟨al', cl', as', cs', he⟩ := hPr.form
      simp only [Value.agg.injEq, Array.mk.injEq, List.cons.injEq, and_true] at he
      obtain ⟨rfl, rfl⟩ := he
      refine WA.keep (Ext.of (HA5.out.step uP)) ?_
      have HB := Lib.hid (And.intro hPr (And.intro (HA.out.2.1.step uP) (And.intro (HA.out.2.2.upd uP (by simp)) (HA5.out.step uP))))
      clear hPr uP
      (refine WA.free 8 rfl rfl (by kernel_rfl) (fun K hK => ?_); go_big_quiet_step (fail); refine wpQuiet_nil ?_; refine hK _ ?_; clear hK K); (refine WA.free 9 rfl rfl (by kernel_rfl) (fun K hK => ?_); go_big_quiet_step (fail); refine wpQuiet_nil ?_; refine hK _ ?_; clear hK K); (refine WA.free 10 rfl rfl (by kernel_rfl) (fun K hK => ?_); go_big_quiet_step (fail); refine wpQuiet_nil ?_; refine hK _ ?_; clear hK K)
      refine WA.one 11 (by kernel_rfl) (Do_.mk rfl (fun K hK => ?_))
      go_wp2_with fail
      have BO := Blk.new (w6) [.slice none 0 0, .slice none 0 0] 30
      have uO := (Upd.refl [] (w6)).alloc (.cells #[.slice none 0 0, .slice none 0 0] 30)
      generalize hob : Array.size (World.heap (w6)) = ob at *
      generalize World.alloc (w6) (.cells #[.slice none 0 0, .slice none 0 0] 30) = w7 at *
      refine WA.keep (Ext.of (HB.out.2.2.2.step uO)) ?_
      have hobw : w.heap.size + 1 < ob := by have := HB.out.2.2.1.lt; omega
      clear hob
      have HE := Lib.hid (And.intro ((show PrL w6 (.agg #[.slice al' (pickP p (lastOn p.steps)).lemmas.length cl', .slice as' (pickP p (lastOn p.steps)).steps.length cs']) (pickP p (lastOn p.steps)) from HB.out.1).kd (T := []) (es := [3, 88, 56, 82]) (off_nil _ _) (by simp) (by simp) (by simp) (by simp) uO) (And.intro (BO) (And.intro (HB.out.2.2.1.upd uO (by simp)) (HB.out.2.1.step uO))))
      have y0 := HE.out.2.1.cell (i := 0) rfl
      have y1 := HE.out.2.1.cell (i := 1) rfl
      have yf0 := HE.out.2.1.free 0
      have yf1 := HE.out.2.1.free 1
      clear BO uO HB
      generalize hpk : (pickP p (lastOn p.steps)) = pk at *
      have HPQ := Lib.hid hpk
      clear hpk
      refine WA.one 12 (by kernel_rfl) (Do_.mk rfl (fun K hK => ?_))
      have uS : Upd [ob] w7 ((w7.setCell ⟨ob, 0, none⟩ (.slice al' pk.lemmas.length cl')).setCell ⟨ob, 1, none⟩ (.slice as' pk.steps.length cs')) := ((Upd.refl _ w7).set (.inl (by simp)) _).set (.inl (by simp)) _
      have BS : Blk ((w7.setCell ⟨ob, 0, none⟩ (.slice al' pk.lemmas.length cl')).setCell ⟨ob, 1, none⟩ (.slice as' pk.steps.length cs')) ob [.slice al' pk.lemmas.length cl', .slice as' pk.steps.length cs'] 30 := (HE.out.2.1.set 0 _).set 1 _
      have hoff : Off w7 [ob] [3, 88, 56, 82] := off_blk HE.out.2.1 (by decide)
      have HG := Lib.hid (And.intro (HE.out.1.kd hoff (by simp) (by simp) (by simp) (by simp) uS) (And.intro BS (And.intro (HE.out.2.2.1.upd uS (by simp; omega)) (HE.out.2.2.2.fresh uS (fun b hb => .inr (by simp at hb; omega))))))
      clear uS BS hoff HE
      go_wp2_with fail
      refine WA.past (by kernel_rfl) ?_
      generalize ((w7.setCell ⟨ob, 0, none⟩ (.slice al' pk.lemmas.length cl')).setCell ⟨ob, 1, none⟩ (.slice as' pk.steps.length cs')) = wG at *
      clear y0 y1 yf0 yf1
      have y0 := HG.out.2.1.cell (i := 0) rfl
      have y1 := HG.out.2.1.cell (i := 1) rfl
      have r0 := HG.out.2.2.1.cell (i := 0) rfl
      have r1 := HG.out.2.2.1.cell (i := 1) rfl
      have fr0 := HG.out.2.2.1.free 0
      have fr1 := HG.out.2.2.1.free 1
      have uR : Upd [w.heap.size + 1] wG ((wG.setCell ⟨w.heap.size + 1, 0, none⟩ (.slice al' pk.lemmas.length cl')).setCell ⟨w.heap.size + 1, 1, none⟩ (.slice as' pk.steps.length cs')) := ((Upd.refl _ wG).set (.inl (by simp)) _).set (.inl (by simp)) _
      have BR : Blk ((wG.setCell ⟨w.heap.size + 1, 0, none⟩ (.slice al' pk.lemmas.length cl')).setCell ⟨w.heap.size + 1, 1, none⟩ (.slice as' pk.steps.length cs')) (w.heap.size + 1) [.slice al' pk.lemmas.length cl', .slice as' pk.steps.length cs'] 30 := (HG.out.2.2.1.set 0 _).set 1 _
      have hoff : Off wG [w.heap.size + 1] [3, 88, 56, 82] := off_blk HG.out.2.2.1 (by decide)
      have HX := Lib.hid (And.intro BR (And.intro (HG.out.1.kd hoff (by simp) (by simp) (by simp) (by simp) uR) (HG.out.2.2.2.fresh uR (fun b hb => .inr (by simp at hb; omega)))))
      clear uR BR hoff HG
      (refine WA.free 13 rfl rfl (by kernel_rfl) (fun K hK => ?_); go_big_quiet_step (fail); refine wpQuiet_nil ?_; refine hK _ ?_; clear hK K)
      refine WA.nil (by kernel_rfl) ?_
      go_wp2_with fail
      exact ret_rowT rfl rfl HX.out.1 Try.underlying30 (by kernel_rfl) rfl ⟨_, rfl, by rw [HPQ.out]; exact HX.out.2.1, HX.out.2.2⟩
    · go_wp2_with fail
      have BO := Blk.new (w5) [.slice none 0 0, .slice none 0 0] 30
      have uO := (Upd.refl [] (w5)).alloc (.cells #[.slice none 0 0, .slice none 0 0] 30)
      generalize hob : Array.size (World.heap (w5)) = ob at *
      generalize World.alloc (w5) (.cells #[.slice none 0 0, .slice none 0 0] 30) = w6 at *
      refine WA.keep (Ext.of (HA5.out.step uO)) ?_
      have hobw : w.heap.size + 1 < ob := by have := HA.out.2.2.lt; omega
      clear hob
      have HC := Lib.hid (And.intro BO (And.intro (HA.out.2.1.step uO) (And.intro (HA.out.2.2.upd uO (by simp)) (And.intro (HA.out.1.upd uO (by simp)) (HA5.out.step uO)))))
      clear BO uO
      refine WA.one 7 (by kernel_rfl) (Do_.mk rfl (fun K hK => ?_))
      go_wp2_with (go_at_call 38; refine (HPK.out _ HC.out.2.1 _ HC.out.2.2.2.1).mono ?_; rintro e w7 ⟨vl', vs', agn, cgn, rfl, hPr, _, uP⟩)
      obtain ⟨al', cl', as', cs', he⟩ := hPr.form
      simp only [Value.agg.injEq, Array.mk.injEq, List.cons.injEq, and_true] at he
      obtain ⟨rfl, rfl⟩ := he
      refine WA.keep (Ext.of (HC.out.2.2.2.2.step uP)) ?_
      have HB := Lib.hid (And.intro hPr uP)
      clear hPr uP
      (refine WA.free 8 rfl rfl (by kernel_rfl) (fun K hK => ?_); go_big_quiet_step (fail); refine wpQuiet_nil ?_; refine hK _ ?_; clear hK K); (refine WA.free 9 rfl rfl (by kernel_rfl) (fun K hK => ?_); go_big_quiet_step (fail); refine wpQuiet_nil ?_; refine hK _ ?_; clear hK K); (refine WA.free 10 rfl rfl (by kernel_rfl) (fun K hK => ?_); go_big_quiet_step (fail); refine wpQuiet_nil ?_; refine hK _ ?_; clear hK K)
      have HE := Lib.hid (And.intro (HB.out.1) (And.intro (HC.out.1.upd HB.out.2 (by simp)) (And.intro (HC.out.2.2.1.upd HB.out.2 (by simp)) (HC.out.2.1.step HB.out.2))))
      have y0 := HE.out.2.1.cell (i := 0) rfl
      have y1 := HE.out.2.1.cell (i := 1) rfl
      have yf0 := HE.out.2.1.free 0
      have yf1 := HE.out.2.1.free 1
      clear HB HC
      generalize hpk : (pickP p (lastOn p.steps)) = pk at *
      have HPQ := Lib.hid hpk
      clear hpk
      refine WA.one 12 (by kernel_rfl) (Do_.mk rfl (fun K hK => ?_))
      have uS : Upd [ob] w7 ((w7.setCell ⟨ob, 0, none⟩ (.slice al' pk.lemmas.length cl')).setCell ⟨ob, 1, none⟩ (.slice as' pk.steps.length cs')) := ((Upd.refl _ w7).set (.inl (by simp)) _).set (.inl (by simp)) _
      have BS : Blk ((w7.setCell ⟨ob, 0, none⟩ (.slice al' pk.lemmas.length cl')).setCell ⟨ob, 1, none⟩ (.slice as' pk.steps.length cs')) ob [.slice al' pk.lemmas.length cl', .slice as' pk.steps.length cs'] 30 := (HE.out.2.1.set 0 _).set 1 _
      have hoff : Off w7 [ob] [3, 88, 56, 82] := off_blk HE.out.2.1 (by decide)
      have HG := Lib.hid (And.intro (HE.out.1.kd hoff (by simp) (by simp) (by simp) (by simp) uS) (And.intro BS (And.intro (HE.out.2.2.1.upd uS (by simp; omega)) (HE.out.2.2.2.fresh uS (fun b hb => .inr (by simp at hb; omega))))))
      clear uS BS hoff HE
      go_wp2_with fail
      refine WA.past (by kernel_rfl) ?_
      generalize ((w7.setCell ⟨ob, 0, none⟩ (.slice al' pk.lemmas.length cl')).setCell ⟨ob, 1, none⟩ (.slice as' pk.steps.length cs')) = wG at *
      clear y0 y1 yf0 yf1
      have y0 := HG.out.2.1.cell (i := 0) rfl
      have y1 := HG.out.2.1.cell (i := 1) rfl
      have r0 := HG.out.2.2.1.cell (i := 0) rfl
      have r1 := HG.out.2.2.1.cell (i := 1) rfl
      have fr0 := HG.out.2.2.1.free 0
      have fr1 := HG.out.2.2.1.free 1
      have uR : Upd [w.heap.size + 1] wG ((wG.setCell ⟨w.heap.size + 1, 0, none⟩ (.slice al' pk.lemmas.length cl')).setCell ⟨w.heap.size + 1, 1, none⟩ (.slice as' pk.steps.length cs')) := ((Upd.refl _ wG).set (.inl (by simp)) _).set (.inl (by simp)) _
      have BR : Blk ((wG.setCell ⟨w.heap.size + 1, 0, none⟩ (.slice al' pk.lemmas.length cl')).setCell ⟨w.heap.size + 1, 1, none⟩ (.slice as' pk.steps.length cs')) (w.heap.size + 1) [.slice al' pk.lemmas.length cl', .slice as' pk.steps.length cs'] 30 := (HG.out.2.2.1.set 0 _).set 1 _
      have hoff : Off wG [w.heap.size + 1] [3, 88, 56, 82] := off_blk HG.out.2.2.1 (by decide)
      have HX := Lib.hid (And.intro BR (And.intro (HG.out.1.kd hoff (by simp) (by simp) (by simp) (by simp) uR) (HG.out.2.2.2.fresh uR (fun b hb => .inr (by simp at hb; omega)))))
      clear uR BR hoff HG
      (refine WA.free 13 rfl rfl (by kernel_rfl) (fun K hK => ?_); go_big_quiet_step (fail); refine wpQuiet_nil ?_; refine hK _ ?_; clear hK K)
      refine WA.nil (by kernel_rfl) ?_
      go_wp2_with fail
      exact ret_rowT rfl rfl HX.out.1 Try.underlying30 (by kernel_rfl) rfl ⟨_, rfl, by rw [HPQ.out]; exact HX.out.2.1, HX.out.2.2⟩
  · go_wp2_with fail
    have BO := Blk.new (w3) [.slice none 0 0, .slice none 0 0] 30
    have uO := (Upd.refl [] (w3)).alloc (.cells #[.slice none 0 0, .slice none 0 0] 30)
    generalize hob : Array.size (World.heap (w3)) = ob at *
    generalize World.alloc (w3) (.cells #[.slice none 0 0, .slice none 0 0] 30) = w5 at *
    refine WA.keep (Ext.of ((uO.drew))) ?_
    have hobw : w.heap.size + 1 < ob := by have := (show Blk w3 (w.heap.size + 1) _ 30 from H3.out.1).lt; omega
    clear hob
    have HC := Lib.hid (And.intro (show Blk w5.drew ob _ 30 from BO) (And.intro (show Upd [] w w5.drew from ((⟨H3.out.2.os, H3.out.2.tape, H3.out.2.output, H3.out.2.size, H3.out.2.block⟩ : Upd [] w w3).step uO).drew) (And.intro (show Blk w5.drew (w.heap.size + 1) [.slice none 0 0, .slice none 0 0] 30 from (show Blk w5 (w.heap.size + 1) [.slice none 0 0, .slice none 0 0] 30 from (show Blk w3 (w.heap.size + 1) [.slice none 0 0, .slice none 0 0] 30 from H3.out.1).upd uO (by simp))) (uO.drew))))
    clear BO uO
    refine WA.one 6 (by kernel_rfl) (Do_.mk rfl (fun K hK => ?_))
    go_wp2_with (go_at_call 16; refine (HU.out _ HC.out.2.1).mono ?_; rintro e w6 ⟨gu, rfl, hBu, hgu, uU⟩; change Blk w6 gu (bools (tab p.steps.length (lastOn p.steps))) 4 at hBu)
    refine WA.keep (Ext.of (HC.out.2.2.2.step uU)) ?_
    have HA := Lib.hid (And.intro hBu (And.intro (HC.out.2.1.step uU) (And.intro (HC.out.2.2.1.upd uU (by simp)) (And.intro (HC.out.1.upd uU (by simp)) (HC.out.2.2.2.step uU)))))
    clear hBu uU hgu HC
    refine WA.one 7 (by kernel_rfl) (Do_.mk rfl (fun K hK => ?_))
    go_wp2_with (go_at_call 38; refine (HPK.out _ HA.out.2.1 _ HA.out.1).mono ?_; rintro e w7 ⟨vl', vs', agn, cgn, rfl, hPr, _, uP⟩)
    obtain ⟨al', cl', as', cs', he⟩ := hPr.form
    simp only [Value.agg.injEq, Array.mk.injEq, List.cons.injEq, and_true] at he
    obtain ⟨rfl, rfl⟩ := he
    refine WA.keep (Ext.of (HA.out.2.2.2.2.step uP)) ?_
    have HB := Lib.hid (And.intro hPr uP)
    clear hPr uP
    (refine WA.free 8 rfl rfl (by kernel_rfl) (fun K hK => ?_); go_big_quiet_step (fail); refine wpQuiet_nil ?_; refine hK _ ?_; clear hK K); (refine WA.free 9 rfl rfl (by kernel_rfl) (fun K hK => ?_); go_big_quiet_step (fail); refine wpQuiet_nil ?_; refine hK _ ?_; clear hK K); (refine WA.free 10 rfl rfl (by kernel_rfl) (fun K hK => ?_); go_big_quiet_step (fail); refine wpQuiet_nil ?_; refine hK _ ?_; clear hK K)
    have HE := Lib.hid (And.intro (HB.out.1) (And.intro (HA.out.2.2.2.1.upd HB.out.2 (by simp)) (And.intro (HA.out.2.2.1.upd HB.out.2 (by simp)) (HA.out.2.1.step HB.out.2))))
    have y0 := HE.out.2.1.cell (i := 0) rfl
    have y1 := HE.out.2.1.cell (i := 1) rfl
    have yf0 := HE.out.2.1.free 0
    have yf1 := HE.out.2.1.free 1
    clear HB HA
    generalize hpk : (pickP p (lastOn p.steps)) = pk at *
    have HPQ := Lib.hid hpk
    clear hpk
    refine WA.one 12 (by kernel_rfl) (Do_.mk rfl (fun K hK => ?_))
    have uS : Upd [ob] w7 ((w7.setCell ⟨ob, 0, none⟩ (.slice al' pk.lemmas.length cl')).setCell ⟨ob, 1, none⟩ (.slice as' pk.steps.length cs')) := ((Upd.refl _ w7).set (.inl (by simp)) _).set (.inl (by simp)) _
    have BS : Blk ((w7.setCell ⟨ob, 0, none⟩ (.slice al' pk.lemmas.length cl')).setCell ⟨ob, 1, none⟩ (.slice as' pk.steps.length cs')) ob [.slice al' pk.lemmas.length cl', .slice as' pk.steps.length cs'] 30 := (HE.out.2.1.set 0 _).set 1 _
    have hoff : Off w7 [ob] [3, 88, 56, 82] := off_blk HE.out.2.1 (by decide)
    have HG := Lib.hid (And.intro (HE.out.1.kd hoff (by simp) (by simp) (by simp) (by simp) uS) (And.intro BS (And.intro (HE.out.2.2.1.upd uS (by simp; omega)) (HE.out.2.2.2.fresh uS (fun b hb => .inr (by simp at hb; omega))))))
    clear uS BS hoff HE
    go_wp2_with fail
    refine WA.past (by kernel_rfl) ?_
    generalize ((w7.setCell ⟨ob, 0, none⟩ (.slice al' pk.lemmas.length cl')).setCell ⟨ob, 1, none⟩ (.slice as' pk.steps.length cs')) = wG at *
    clear y0 y1 yf0 yf1
    have y0 := HG.out.2.1.cell (i := 0) rfl
    have y1 := HG.out.2.1.cell (i := 1) rfl
    have r0 := HG.out.2.2.1.cell (i := 0) rfl
    have r1 := HG.out.2.2.1.cell (i := 1) rfl
    have fr0 := HG.out.2.2.1.free 0
    have fr1 := HG.out.2.2.1.free 1
    have uR : Upd [w.heap.size + 1] wG ((wG.setCell ⟨w.heap.size + 1, 0, none⟩ (.slice al' pk.lemmas.length cl')).setCell ⟨w.heap.size + 1, 1, none⟩ (.slice as' pk.steps.length cs')) := ((Upd.refl _ wG).set (.inl (by simp)) _).set (.inl (by simp)) _
    have BR : Blk ((wG.setCell ⟨w.heap.size + 1, 0, none⟩ (.slice al' pk.lemmas.length cl')).setCell ⟨w.heap.size + 1, 1, none⟩ (.slice as' pk.steps.length cs')) (w.heap.size + 1) [.slice al' pk.lemmas.length cl', .slice as' pk.steps.length cs'] 30 := (HG.out.2.2.1.set 0 _).set 1 _
    have hoff : Off wG [w.heap.size + 1] [3, 88, 56, 82] := off_blk HG.out.2.2.1 (by decide)
    have HX := Lib.hid (And.intro BR (And.intro (HG.out.1.kd hoff (by simp) (by simp) (by simp) (by simp) uR) (HG.out.2.2.2.fresh uR (fun b hb => .inr (by simp at hb; omega)))))
    clear uR BR hoff HG
    (refine WA.free 13 rfl rfl (by kernel_rfl) (fun K hK => ?_); go_big_quiet_step (fail); refine wpQuiet_nil ?_; refine hK _ ?_; clear hK K)
    refine WA.nil (by kernel_rfl) ?_
    go_wp2_with fail
    exact ret_rowT rfl rfl HX.out.1 Try.underlying30 (by kernel_rfl) rfl ⟨_, rfl, by rw [HPQ.out]; exact HX.out.2.1, HX.out.2.2⟩
end
end Trim
end Go.Proofs.Ytnmfihgdedifoaa
