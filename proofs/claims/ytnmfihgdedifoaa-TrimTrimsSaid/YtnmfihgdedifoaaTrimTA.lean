/- Walks through the laws of package trim: TrimTrims. Conditions: none. -/
import Derived.Test.YtnmfihgdedifoaaTrimV
import Derived.Test.YtnmfihgdedifoaaTrimZ
import Derived.Test.YtnmfihgdedifoaaTrimRE
set_option linter.unusedVariables false
set_option linter.unusedSimpArgs false
set_option linter.unusedSectionVars false
open Go.RowKit
namespace Go.Proofs.Ytnmfihgdedifoaa
open L R01
namespace Trim
section
variable {w : World}
set_option maxRecDepth 100000 in
set_option maxHeartbeats 16000000 in
theorem TrimTrims_calls {v vg : Value} {l gl : List Int} {at_ how by_ : Int} (h : SL w 1 v l.length (ints l)) (hx : ∀ x ∈ l, IsI64 x) (hg : SL w 1 vg gl.length (ints gl)) (hgx : ∀ x ∈ gl, IsI64 x) (ha : IsI64 at_) (hh : IsI64 how) (hb : IsI64 by_) :
    Calls Try.prog 4 #[v, vg, .int .i64 at_, .int .i64 how, .int .i64 by_] w fun e w' => e = .returned (.bool true) ∧ Upd [] w w' := by
  obtain ⟨a, cap, rfl, _⟩ := SL.form h
  obtain ⟨ag, capg, rfl, _⟩ := SL.form hg
  have HS := Lib.hid (some_calls hx h ha hh hb)
  have HN := Lib.hid (fun (W : World) (u : Upd [] w W) => names_calls (hg.upd u (by simp)) hgx)
  clear hx h ha hh hb hg hgx
  go_enter Try.func4, Try.ntmps4
  go_upto_region 3 with (first | (go_at_call 9; (with_reducible refine HS.out.mono ?_); rintro e w0 ⟨v1, ps, rfl, hps, u0⟩; obtain ⟨g, rfl, hat, hsm⟩ := hps) | (go_at_call 18; (with_reducible refine (HN.out _ u0).mono ?_); rintro e w1 ⟨R, aR, cR, rfl, hR1, hR2, hO, u1⟩))
  have H1 := Lib.hid (And.intro ((show AllP w0 (.slice (some ⟨g, 0, none⟩) 4 4) ps from ⟨g, rfl, hat, hsm⟩).ext u1) (And.intro hsm (And.intro (u0.step u1) (And.intro (show NmL w1 (.slice aR R.length cR) R from hO.1) (And.intro hR1 hR2)))))
  clear hat hsm u0 u1 hR1 hR2 hO HS HN
  go_wp2_with fail
  go_loopw [13] (fun i wr => ∃ k : Nat, i = .int .i64 k ∧ k ≤ 4 ∧ Upd [] w1 wr) (fun i _ => 4 - (intOf i).toNat)
  case atStart => exact ⟨0, rfl, by omega, Upd.refl _ _⟩
  case round =>
    obtain ⟨wo, rfl⟩ : ∃ wo : World, wo = wr := ⟨_, rfl⟩
    obtain ⟨i, rfl, hi, hu⟩ := hrel
    have HU := Lib.hid hu
    by_cases hlt : i < 4
    · have hki : (i : Int) < 4 := by omega
      obtain ⟨g', he, hat, _⟩ := H1.out.1.ext hu
      cases he
      obtain ⟨al, cl, a2, c2, e1, e2, hP⟩ := hat i hlt
      have hsm := H1.out.2.1 i
      generalize ps i = p at *
      have HP := Lib.hid (And.intro hP (And.intro hsm (H1.out.2.2.2.1.ext hu)))
      have HCK := Lib.hid (check_calls hP)
      clear hat hP hsm hu
      by_cases hc : check p = 0
      · have hwf := wf_check.1 hc
        have hfew := HP.out.2.1.few
        rw [hc] at HCK
        have HTR := Lib.hid (fun (W : World) (u : Upd [] wo W) => Trim_good (HP.out.1.ext' u) hc hfew)
        have HKP := Lib.hid (fun (W : World) (u : Upd [] wo W) => Kept_good (HP.out.1.ext' u) hc hfew (HP.out.2.2.ext u) (fun x hx => by have := H1.out.2.2.2.2.2 x hx; omega) (by have := H1.out.2.2.2.2.1; omega) (fun k st hk => by have := (HP.out.2.1.1.2 k st hk).2.2.2; omega))
        have HRT := Lib.hid (fun (W : World) (u : Upd [] wo W) => RTrim_calls (HP.out.1.ext' u) hwf hfew)
        have HRK := Lib.hid (fun (W : World) (u : Upd [] wo W) => RKept_calls (HP.out.1.ext' u) hwf hfew (HP.out.2.2.ext u))
        have hn := HP.out.2.1.1.1
        generalize pickP p (lastOn p.steps) = pt at *
        generalize pickP p (keptTo R p.steps p.steps.length) = pq at *
        have hTL : (tabI p.steps.length (stepNo (keptTo R p.steps p.steps.length))).length = p.steps.length := tabI_length _ _
        generalize tabI p.steps.length (stepNo (keptTo R p.steps p.steps.length)) = tn at *
        have HTL := Lib.hid hTL
        clear hc hwf hfew hTL
        go_upto_region 7 with (go_at_call 10; (with_reducible refine HCK.out.mono ?_); rintro e w2 ⟨rfl, u2⟩)
        have y1 := u2.some e1 (by simp)
        have y2 := u2.some e2 (by simp)
        go_upto_region 8 with (go_at_call 19; (with_reducible refine (HTR.out _ u2).mono ?_); rintro e w3 ⟨v3, rfl, hP3, u3⟩; obtain ⟨a3, c3, b3, d3, rfl⟩ := hP3.form)
        have ua := (Upd.refl [] w3).alloc (.cells #[.slice a3 pt.lemmas.length c3, .slice b3 pt.steps.length d3] 30)
        have H3 := Lib.hid (And.intro (hP3.ext' ua) (And.intro (Blk.new w3 [.slice a3 pt.lemmas.length c3, .slice b3 pt.steps.length d3] 30) ((u2.step u3).step ua)))
        clear ua u2 u3 hP3 y1 y2 HCK HTR
        generalize hs3 : w3.heap.size = s3 at *
        generalize (w3.alloc (.cells #[.slice a3 pt.lemmas.length c3, .slice b3 pt.steps.length d3] 30)) = w4 at *
        have y1 := H3.out.2.2.some e1 (by simp)
        have y2 := H3.out.2.2.some e2 (by simp)
        clear hs3
        go_upto_region 9 with (go_at_call 20; (with_reducible refine (HKP.out _ H3.out.2.2).mono ?_); rintro e w5 ⟨v5, g5, rfl, hP5, hR5, u5⟩; obtain ⟨a5, c5, b5, d5, rfl⟩ := hP5.form)
        have ua := (Upd.refl [] w5).alloc (.cells #[.slice a5 pq.lemmas.length c5, .slice b5 pq.steps.length d5] 30)
        have H5 := Lib.hid (And.intro (hP5.ext' ua) (And.intro (Blk.new w5 [.slice a5 pq.lemmas.length c5, .slice b5 pq.steps.length d5] 30) (And.intro ((H3.out.2.2.step u5).step ua) (And.intro (H3.out.1.ext' (u5.step ua)) (And.intro (H3.out.2.1.upd (u5.step ua) (by simp)) (hR5.ext ua))))))
        clear ua u5 hP5 hR5 y1 y2 HKP H3
        generalize hs5 : w5.heap.size = s5 at *
        generalize (w5.alloc (.cells #[.slice a5 pq.lemmas.length c5, .slice b5 pq.steps.length d5] 30)) = w6 at *
        have y1 := H5.out.2.2.1.some e1 (by simp)
        have y2 := H5.out.2.2.1.some e2 (by simp)
        clear hs5
        go_upto_region 14 with fail
        go_upto_region 15 with (go_at_call 21; (with_reducible refine (HRK.out _ H5.out.2.2.1).mono ?_); rintro e w7 ⟨v7, a8, c8, rfl, hP7, hR7, u7⟩; obtain ⟨a7, c7, b7, d7, rfl⟩ := hP7.form)
        have ua := (Upd.refl [] w7).alloc (.cells #[.slice a7 pq.lemmas.length c7, .slice b7 pq.steps.length d7] 30)
        have H7 := Lib.hid (And.intro (hP7.ext' ua) (And.intro (Blk.new w7 [.slice a7 pq.lemmas.length c7, .slice b7 pq.steps.length d7] 30) (And.intro ((H5.out.2.2.1.step u7).step ua) (And.intro (H5.out.2.2.2.1.ext' (u7.step ua)) (And.intro (H5.out.2.2.2.2.1.upd (u7.step ua) (by simp)) (And.intro (hR7.ext ua) (And.intro (H5.out.1.ext' (u7.step ua)) (And.intro (H5.out.2.1.upd (u7.step ua) (by simp)) (H5.out.2.2.2.2.2.ext (u7.step ua))))))))))
        clear ua u7 hP7 hR7 y1 y2 HRK H5
        generalize hs7 : w7.heap.size = s7 at *
        generalize (w7.alloc (.cells #[.slice a7 pq.lemmas.length c7, .slice b7 pq.steps.length d7] 30)) = w8 at *
        clear hs7
        have y1 := H7.out.2.2.1.some e1 (by simp)
        have y2 := H7.out.2.2.1.some e2 (by simp)
        have t0 := H7.out.2.2.2.2.1.cell (i := 0) rfl
        have t1 := H7.out.2.2.2.2.1.cell (i := 1) rfl
        have q0 := H7.out.2.2.2.2.2.2.2.1.cell (i := 0) rfl
        have q1 := H7.out.2.2.2.2.2.2.2.1.cell (i := 1) rfl
        have r0 := H7.out.2.1.cell (i := 0) rfl
        have r1 := H7.out.2.1.cell (i := 1) rfl
        refine wp_region_ord 11 4 [0, 1, 2, 3, 4, 7, 8, 9, 10, 12, 13, 14, 15, 16, 18, 19] [0, 4, 9, 10] [0, 1, 2, 3, 4, 5, 6, 7, 8, 9, 10, 11, 12, 13, 14, 15, 16, 17, 18, 19] (fun w' => ∃ x : Ext w8, w' = x.val) (by kernel_rfl) (by kernel_rfl) (Ext.of ((Upd.refl _ _).drew)) ?_
        repeat (first | (refine wpOrd_load rfl rfl rfl rfl (fun K hK => ?_); go_big_quiet_step (fail); refine wpQuiet_nil ?_; refine hK _ ?_; clear hK K) | (refine wpOrd_free rfl rfl rfl (fun K hK => ?_); go_big_quiet_step (fail); refine wpQuiet_nil ?_; refine hK _ ?_; clear hK K))
        refine wpOrd_fix rfl rfl (fun K hK => ?_)
        go_wp2_with (go_at_call 23; (with_reducible refine (HRT.out _ (H7.out.2.2.1.drew)).mono ?_); rintro e w9 ⟨v9, rfl, hP9, u9⟩; obtain ⟨a9, c9, b9, d9, rfl⟩ := hP9.form)
        have U9 : Upd [] w8 w9 := ((Upd.refl _ w8).drew).step u9
        refine ⟨fun _ => Ext.of U9, ?_⟩
        have HSA := Lib.hid (by
          have h := same_calls (H7.out.2.2.2.1.ext' U9) hP9
          rw [samePr_true rfl] at h
          exact h)
        have H9 := Lib.hid U9
        clear hP9 u9 U9 HRT
        repeat (first | (refine wpOrd_load rfl rfl rfl rfl (fun K hK => ?_); go_big_quiet_step (fail); refine wpQuiet_nil ?_; refine hK _ ?_; clear hK K) | (refine wpOrd_free rfl rfl rfl (fun K hK => ?_); go_big_quiet_step (fail); refine wpQuiet_nil ?_; refine hK _ ?_; clear hK K))
        refine wpOrd_fix rfl rfl (fun K hK => ?_)
        go_wp2_with (go_at_call 22; (with_reducible refine HSA.out.mono ?_); rintro e w10 ⟨rfl, u10⟩)
        have U10 : Upd [] w8 w10 := H9.out.step u10
        refine ⟨fun _ => Ext.of U10, ?_⟩
        have HSB := Lib.hid (by
          have h := same_calls (H7.out.2.2.2.2.2.2.1.ext' U10) (H7.out.1.ext' U10)
          rw [samePr_true rfl] at h
          exact h)
        have H10 := Lib.hid U10
        clear u10 U10 HSA H9
        repeat (first | (refine wpOrd_load rfl rfl rfl rfl (fun K hK => ?_); go_big_quiet_step (fail); refine wpQuiet_nil ?_; refine hK _ ?_; clear hK K) | (refine wpOrd_free rfl rfl rfl (fun K hK => ?_); go_big_quiet_step (fail); refine wpQuiet_nil ?_; refine hK _ ?_; clear hK K))
        refine wpOrd_fix rfl rfl (fun K hK => ?_)
        go_wp2_with (go_at_call 22; (with_reducible refine HSB.out.mono ?_); rintro e w11 ⟨rfl, u11⟩)
        have U11 : Upd [] w8 w11 := H10.out.step u11
        have HSC := Lib.hid (by
          have h1 := (H7.out.2.2.2.2.2.2.2.2.ext U11).sl
          have h2 := (H7.out.2.2.2.2.2.1.ext U11).sl
          have h := SameInts_calls h1 h2
          rw [decide_eq_true rfl] at h
          exact h)
        have H11 := Lib.hid U11
        clear u11 U11 HSB H10
        refine ⟨fun hC => absurd hC (by decide), ?_⟩
        repeat (first | (refine wpOrd_load rfl rfl rfl rfl (fun K hK => ?_); go_big_quiet_step (fail); refine wpQuiet_nil ?_; refine hK _ ?_; clear hK K) | (refine wpOrd_free rfl rfl rfl (fun K hK => ?_); go_big_quiet_step (fail); refine wpQuiet_nil ?_; refine hK _ ?_; clear hK K))
        refine wpOrd_fix rfl rfl (fun K hK => ?_)
        go_wp2_with (go_at_call 24; (with_reducible refine HSC.out.mono ?_); rintro e w12 ⟨rfl, u12⟩)
        refine ⟨fun hC => absurd hC (by decide), ?_⟩
        repeat (first | (refine wpOrd_load rfl rfl rfl rfl (fun K hK => ?_); go_big_quiet_step (fail); refine wpQuiet_nil ?_; refine hK _ ?_; clear hK K) | (refine wpOrd_free rfl rfl rfl (fun K hK => ?_); go_big_quiet_step (fail); refine wpQuiet_nil ?_; refine hK _ ?_; clear hK K))
        refine wpOrd_nil ?_
        go_wp2_with fail
        exact ⟨⟨i + 1, by go_num, by omega, HU.out.step (H7.out.2.2.1.step (H11.out.step u12))⟩, by simp [intOf]; omega⟩
      · have hb1 : (check p != check p) = false := by simp
        have hb2 : (check p != 0) = true := by simpa using hc
        have HTR := Lib.hid (fun (W : World) (u : Upd [] wo W) => Trim_bad (HP.out.1.ext' u) hc)
        have HKP := Lib.hid (fun (W : World) (u : Upd [] wo W) => Kept_bad (vg := .slice aR R.length cR) (HP.out.1.ext' u) hc)
        generalize check p = z at *
        clear hc
        go_upto_region 7 with (go_at_call 10; (with_reducible refine HCK.out.mono ?_); rintro e w2 ⟨rfl, u2⟩)
        have y1 := u2.some e1 (by simp)
        have y2 := u2.some e2 (by simp)
        go_upto_region 8 with (go_at_call 19; (with_reducible refine (HTR.out _ u2).mono ?_); rintro e w3 ⟨rfl, u3⟩)
        have ua := (Upd.refl [] w3).alloc (.cells #[.slice none 0 0, .slice none 0 0] 30)
        have H3 := Lib.hid (And.intro (Blk.new w3 [.slice none 0 0, .slice none 0 0] 30) ((u2.step u3).step ua))
        clear ua u2 u3 y1 y2 HCK HTR
        generalize hs3 : w3.heap.size = s3 at *
        generalize (w3.alloc (.cells #[.slice none 0 0, .slice none 0 0] 30)) = w4 at *
        have y1 := H3.out.2.some e1 (by simp)
        have y2 := H3.out.2.some e2 (by simp)
        clear hs3
        go_upto_region 9 with (go_at_call 20; (with_reducible refine (HKP.out _ H3.out.2).mono ?_); rintro e w5 ⟨rfl, u5⟩)
        have ua := (Upd.refl [] w5).alloc (.cells #[.slice none 0 0, .slice none 0 0] 30)
        have H5 := Lib.hid (And.intro (Blk.new w5 [.slice none 0 0, .slice none 0 0] 30) (And.intro ((H3.out.2.step u5).step ua) (H3.out.1.upd (u5.step ua) (by simp))))
        clear ua u5 y1 y2 HKP H3
        generalize hs5 : w5.heap.size = s5 at *
        generalize (w5.alloc (.cells #[.slice none 0 0, .slice none 0 0] 30)) = w6 at *
        clear hs5
        have t0 := H5.out.2.2.cell (i := 0) rfl
        have t1 := H5.out.2.2.cell (i := 1) rfl
        have q0 := H5.out.1.cell (i := 0) rfl
        have q1 := H5.out.1.cell (i := 1) rfl
        go_wp2_with fail
        exact ⟨⟨i + 1, by go_num, by omega, HU.out.step H5.out.2.1⟩, by simp [intOf]; omega⟩
    · have hki : ¬ (i : Int) < 4 := by omega
      have HL := Lib.hid (lives_calls (w := wo))
      clear hu
      go_wp2_with (go_at_call 17; (with_reducible refine HL.out.mono ?_); rintro e w9 ⟨rfl, u9⟩)
      go_ret
      exact ⟨rfl, (H1.out.2.2.1.step HU.out).step u9⟩
end
end Trim
end Go.Proofs.Ytnmfihgdedifoaa
