/- Walks through the laws of package trim: TrimUses. Conditions: none. -/
import Derived.Test.YtnmfihgdedifoaaTrimV
set_option linter.unusedVariables false
set_option linter.unusedSimpArgs false
set_option linter.unusedSectionVars false
open Go.RowKit
namespace Go.Proofs.Ytnmfihgdedifoaa
open L R01
namespace Trim
section
variable {w : World}
set_option maxRecDepth 100000 in
set_option maxHeartbeats 16000000 in
theorem TrimUses_calls {v : Value} {l : List Int} {at_ how by_ step : Int} (h : SL w 1 v l.length (ints l)) (hx : ∀ x ∈ l, IsI64 x) (ha : IsI64 at_) (hh : IsI64 how) (hb : IsI64 by_) (hst : IsI64 step) :
    Calls Try.prog 3 #[v, .int .i64 at_, .int .i64 how, .int .i64 by_, .int .i64 step] w fun e w' => e = .returned (.bool true) ∧ Upd [] w w' := by
  obtain ⟨a, cap, rfl, _⟩ := SL.form h
  have HS := Lib.hid (some_calls hx h ha hh hb)
  have HST := Lib.hid hst
  clear hx h ha hh hb hst
  go_enter Try.func3, Try.ntmps3
  go_wp2_with (go_at_call 9; (with_reducible refine HS.out.mono ?_); rintro e w1 ⟨v1, ps, rfl, hps, u1⟩; obtain ⟨g, rfl, hat, hsm⟩ := hps; have H1 := Lib.hid (And.intro (show AllP w1 (.slice (some ⟨g, 0, none⟩) 4 4) ps from ⟨g, rfl, hat, hsm⟩) (And.intro hsm u1)); clear hat hsm u1)
  go_loopw [12] (fun i wr => ∃ k : Nat, i = .int .i64 k ∧ k ≤ 4 ∧ Upd [] w1 wr) (fun i _ => 4 - (intOf i).toNat)
  case atStart => exact ⟨0, rfl, by omega, Upd.refl _ _⟩
  case round =>
    obtain ⟨wo, rfl⟩ : ∃ wo : World, wo = wr := ⟨_, rfl⟩
    obtain ⟨i, rfl, hi, hu⟩ := hrel
    have HU := Lib.hid hu
    by_cases hlt : i < 4
    · have hki : (i : Int) < 4 := by omega
      obtain ⟨g', he, hat, _⟩ := H1.out.1.ext hu
      cases he
      obtain ⟨al, cl, a2, c2, e1, e2, hP⟩ := hat i hlt
      have hsm := H1.out.2.1 i
      generalize ps i = p at *
      have HP := Lib.hid (And.intro hP hsm)
      have HCK := Lib.hid (check_calls hP)
      clear hat hP hsm hu
      by_cases hc : check p = 0
      · have hwf := wf_check.1 hc
        have hn := HP.out.2.1.1
        rw [hc] at HCK
        have HUG := Lib.hid (fun (W : World) (u : Upd [] wo W) => Uses_good (HP.out.1.ext' u) hc)
        have HCW := Lib.hid (And.intro hc hwf)
        clear hc hwf
        go_upto_region 7 with (first | (go_at_call 10; (with_reducible refine HCK.out.mono ?_); rintro e w2 ⟨rfl, u2⟩; have y1 := u2.some e1 (by simp); have y2 := u2.some e2 (by simp)) | (go_at_call 11; (with_reducible refine (HUG.out _ u2).mono ?_); rintro e w3 ⟨gu, rfl, hBu, _, u3⟩))
        have U3 : Upd [] wo w3 := u2.step u3
        have y1 := U3.some e1 (by simp)
        have y2 := U3.some e2 (by simp)
        have av0 := around_lo (n := step) (k := (p.steps.length : Int) + 1) (by omega)
        have av1 := around_hi (n := step) (k := (p.steps.length : Int) + 1) (by omega)
        have HAR := Lib.hid (fun w : World => Around_calls step ((p.steps.length : Int) + 1) w HST.out (by omega) (by omega))
        generalize around step ((p.steps.length : Int) + 1) = av at *
        have hin : ∀ x ∈ [step, -1, (p.steps.length : Int), (p.steps.length : Int) - 1, av], IsI64 x := fun x hx => by
          simp at hx
          rcases hx with rfl | rfl | rfl | rfl | rfl
          · exact HST.out
          all_goals unfold IsI64; omega
        have ua := (Upd.refl [] w3).alloc (.cells #[.int .i64 step, .int .i64 (-1), .int .i64 p.steps.length, .int .i64 ((p.steps.length : Int) - 1), .int .i64 av] 3)
        have HB5 := Lib.hid (And.intro (Blk.new w3 (ints [step, -1, (p.steps.length : Int), (p.steps.length : Int) - 1, av]) 3) (And.intro (show Upd [] wo (w3.alloc (.cells (ints [step, -1, (p.steps.length : Int), (p.steps.length : Int) - 1, av]).toArray 3)) from U3.step ua) (And.intro (show Blk (w3.alloc (.cells (ints [step, -1, (p.steps.length : Int), (p.steps.length : Int) - 1, av]).toArray 3)) gu (bools (tab p.steps.length (lastOn p.steps))) 4 from hBu.upd ua (by simp)) hin)))
        clear u2 u3 U3 ua HUG HCK hBu hin
        go_upto_region 11 with (go_at_call 12; (with_reducible refine (HAR.out _).mono ?_); rintro e _ ⟨rfl, rfl⟩)
        generalize hs5 : w3.heap.size = s5 at *
        change Code.wp _ _ _ _ (w3.alloc (.cells (ints [step, -1, (p.steps.length : Int), (p.steps.length : Int) - 1, av]).toArray 3))
        generalize (w3.alloc (.cells (ints [step, -1, (p.steps.length : Int), (p.steps.length : Int) - 1, av]).toArray 3)) = w4 at *
        clear hs5 y1 y2
        go_wp2_with fail
        go_loopw [18] (fun i wr => ∃ k : Nat, i = .int .i64 k ∧ k ≤ 5 ∧ Upd [] w4 wr) (fun i _ => 5 - (intOf i).toNat)
        case atStart => exact ⟨0, rfl, by omega, Upd.refl _ _⟩
        case round =>
          obtain ⟨wi, rfl⟩ : ∃ wi : World, wi = wr := ⟨_, rfl⟩
          obtain ⟨k, rfl, hk, hu⟩ := hrel
          have HUi := Lib.hid (And.intro hu (HB5.out.2.1.step hu))
          have y1 := HUi.out.2.some e1 (by simp)
          have y2 := HUi.out.2.some e2 (by simp)
          by_cases hlt2 : k < 5
          · have hk5 : (k : Int) < 5 := by omega
            have hlk : k < [step, -1, (p.steps.length : Int), (p.steps.length : Int) - 1, av].length := hlt2
            have d5 := (HB5.out.1.upd hu (by simp)).cell (i := k) (ints_get (List.getElem?_eq_getElem hlk))
            have hs64 := HB5.out.2.2.2 _ (List.getElem_mem hlk)
            generalize [step, -1, (p.steps.length : Int), (p.steps.length : Int) - 1, av][k] = s at *
            clear hu hlk
            by_cases hin : 0 ≤ s ∧ s < (p.steps.length : Int)
            · obtain ⟨hs0, hs1⟩ := hin
              obtain ⟨sn, rfl⟩ := Int.eq_ofNat_of_zero_le hs0
              have hsn : sn < p.steps.length := by omega
              have HS64 := Lib.hid hs64
              clear hs64
              have HPG := Lib.hid (Prem_good (HP.out.1.ext' (HUi.out.2.step ((Upd.refl _ wi).drew))) HCW.out.1 hsn)
              go_wp2_with fail
              refine wp_region_ord 8 1 [0, 1, 2, 3, 4, 5, 6, 7, 9, 10, 11, 12, 13] [3, 7] [0, 1, 2, 3, 4, 5, 6, 7, 8, 9, 10, 11, 12, 13] (fun w' => ∃ x : Ext wi, w' = x.val) (by kernel_rfl) (by kernel_rfl) (Ext.of ((Upd.refl _ _).drew)) ?_
              repeat (first | (refine wpOrd_load rfl rfl rfl rfl (fun K hK => ?_); go_big_quiet_step (fail); refine wpQuiet_nil ?_; refine hK _ ?_; clear hK K) | (refine wpOrd_free rfl rfl rfl (fun K hK => ?_); go_big_quiet_step (fail); refine wpQuiet_nil ?_; refine hK _ ?_; clear hK K))
              refine wpOrd_fix rfl rfl (fun K hK => ?_)
              go_wp2_with (go_at_call 13; (with_reducible refine HPG.out.mono ?_); rintro e w5 ⟨v5, R5, rfl, hN5, hP5, u5⟩)
              obtain ⟨a5, c5, rfl, _⟩ := hN5.cells
              have U5 : Upd [] wi w5 := ((Upd.refl _ wi).drew).step u5
              have H5 := Lib.hid (And.intro hN5 (And.intro hP5 U5))
              have z1 := U5.some y1 (by simp)
              have z2 := U5.some y2 (by simp)
              have z5 := U5.some d5 (by simp)
              clear hN5 hP5 u5 U5 HPG
              refine ⟨fun hC => absurd hC (by decide), ?_⟩
              repeat (first | (refine wpOrd_load rfl rfl rfl rfl (fun K hK => ?_); go_big_quiet_step (fail); refine wpQuiet_nil ?_; refine hK _ ?_; clear hK K) | (refine wpOrd_free rfl rfl rfl (fun K hK => ?_); go_big_quiet_step (fail); refine wpQuiet_nil ?_; refine hK _ ?_; clear hK K))
              refine wpOrd_nil ?_
              have HRP := Lib.hid (RPrem_calls (HP.out.1.ext' ((HUi.out.2.step H5.out.2.2).step ((Upd.refl _ w5).drew))) HCW.out.2 HS64.out)
              go_wp2_with fail
              refine wp_region_ord 12 1 [0, 1, 2, 3, 4, 5, 6, 7, 8, 9, 10, 11, 14, 15] [7, 11] [0, 1, 2, 3, 4, 5, 6, 7, 8, 9, 10, 11, 12, 13, 14, 15] (fun w' => ∃ x : Ext w5, w' = x.val) (by kernel_rfl) (by kernel_rfl) (Ext.of ((Upd.refl _ _).drew)) ?_
              repeat (first | (refine wpOrd_load rfl rfl rfl rfl (fun K hK => ?_); go_big_quiet_step (fail); refine wpQuiet_nil ?_; refine hK _ ?_; clear hK K) | (refine wpOrd_free rfl rfl rfl (fun K hK => ?_); go_big_quiet_step (fail); refine wpQuiet_nil ?_; refine hK _ ?_; clear hK K))
              refine wpOrd_fix rfl rfl (fun K hK => ?_)
              go_wp2_with (go_at_call 15; (with_reducible refine HRP.out.mono ?_); rintro e w6 ⟨v6, R6, rfl, hN6, hP6, u6⟩)
              have hRR : R5 = R6 := H5.out.2.1.eq ⟨hP6.1, fun x => (hP6.2 x).trans (asserted_congr (fun j _ => by
                have h := congrFun (rests_len (l := p.steps) hsn) j
                rw [← h]
                congr 1
                funext m
                by_cases e : m = sn
                · subst e; simp
                · have e2 : ¬ (m : Int) = (sn : Int) := by omega
                  simp [e, e2]) x)⟩
              subst hRR
              obtain ⟨a6, c6, rfl, _⟩ := hN6.cells
              have HSN := Lib.hid (by
                have h := sameN_calls (H5.out.1.ext (((Upd.refl _ w5).drew).step u6)) hN6
                rw [sameN_iff.2 rfl] at h
                exact h)
              have U6 : Upd [] w4 w6 := (HUi.out.1.step H5.out.2.2).step (((Upd.refl _ w5).drew).step u6)
              clear hN6 hP6 u6 HRP
              refine ⟨fun hC => absurd hC (by decide), ?_⟩
              repeat (first | (refine wpOrd_load rfl rfl rfl rfl (fun K hK => ?_); go_big_quiet_step (fail); refine wpQuiet_nil ?_; refine hK _ ?_; clear hK K) | (refine wpOrd_free rfl rfl rfl (fun K hK => ?_); go_big_quiet_step (fail); refine wpQuiet_nil ?_; refine hK _ ?_; clear hK K))
              refine wpOrd_fix rfl rfl (fun K hK => ?_)
              go_wp2_with (go_at_call 14; (with_reducible refine HSN.out.mono ?_); rintro e w7 ⟨rfl, u7⟩)
              refine ⟨fun hC => absurd hC (by decide), ?_⟩
              repeat (first | (refine wpOrd_load rfl rfl rfl rfl (fun K hK => ?_); go_big_quiet_step (fail); refine wpQuiet_nil ?_; refine hK _ ?_; clear hK K) | (refine wpOrd_free rfl rfl rfl (fun K hK => ?_); go_big_quiet_step (fail); refine wpQuiet_nil ?_; refine hK _ ?_; clear hK K))
              refine wpOrd_nil ?_
              go_wp2_with fail
              exact ⟨⟨k + 1, by go_num, by omega, U6.step u7⟩, by simp [intOf]; omega⟩
            · have hcs : s < 0 ∨ (0 ≤ s ∧ (p.steps.length : Int) ≤ s) := by omega
              have hor : s < 0 ∨ (p.steps.length : Int) ≤ s := by omega
              have HPQ := Lib.hid (fun (x : Ext wi) => Prem_none (HP.out.1.ext' (HUi.out.2.step x.upd)) HCW.out.1 hor)
              clear hor hin hs64
              rcases hcs with hcs | ⟨hcs1, hcs2⟩
              all_goals
                go_wp2_with fail
                refine wp_region_qx (by kernel_rfl) (by kernel_rfl) ?_
                repeat (go_big_quiet_step (((go_at_call 13; exact qx (HPQ.out _)))))
                refine wpQuiet_nil ?_
                intro x
                go_wp2_with fail
                exact ⟨⟨k + 1, by go_num, by omega, HUi.out.1.step (by assumption : Ext wi).upd⟩, by simp [intOf]; omega⟩
          · have hk5 : ¬ (k : Int) < 5 := by omega
            have HRS := Lib.hid (rests_calls (HP.out.1.ext' HUi.out.2) HCW.out.2 (show IsI64 ((p.steps.length : Int) - 1) by unfold IsI64; omega))
            clear hu hlt2 hk
            go_wp2_with (go_at_call 16; (with_reducible refine HRS.out.mono ?_); rintro e w6 ⟨go_, rfl, hBo, _, u6⟩)
            have U6 := HUi.out.2.step u6
            have H6 := Lib.hid (And.intro (show Blk w6 go_ (bools (tab p.steps.length (lastOn p.steps))) 4 from hBo) (And.intro (HB5.out.2.2.1.upd (HUi.out.1.step u6) (by simp)) U6))
            clear hBo u6 U6 HRS
            go_loopw [22] (fun i wr => ∃ k : Nat, i = .int .i64 k ∧ k ≤ p.steps.length ∧ Upd [] w6 wr) (fun i _ => p.steps.length - (intOf i).toNat)
            case atStart => exact ⟨0, rfl, by omega, Upd.refl _ _⟩
            case round =>
              obtain ⟨wj, rfl⟩ : ∃ wj : World, wj = wr := ⟨_, rfl⟩
              obtain ⟨m, rfl, hm, hu⟩ := hrel
              have HUj := Lib.hid hu
              by_cases hlt3 : m < p.steps.length
              · have hmi : (m : Int) < p.steps.length := by omega
                have q1 := (H6.out.1.upd hu (by simp)).cell (i := m) (bools_get (tab_get (u := lastOn p.steps) hlt3))
                have q2 := (H6.out.2.1.upd hu (by simp)).cell (i := m) (bools_get (tab_get (u := lastOn p.steps) hlt3))
                clear hu
                cases hb : lastOn p.steps m with
                | true =>
                  rw [hb] at q1 q2
                  clear hb
                  go_wp2_with fail
                  refine wp_region_qx (by kernel_rfl) (by kernel_rfl) ?_
                  repeat (go_big_quiet_step ((fail)))
                  refine wpQuiet_nil ?_
                  intro x
                  go_wp2_with fail
                  exact ⟨⟨m + 1, by go_num, by omega, HUj.out.step (by assumption : Ext wj).upd⟩, by simp [intOf]; omega⟩
                | false =>
                  rw [hb] at q1 q2
                  clear hb
                  go_wp2_with fail
                  refine wp_region_qx (by kernel_rfl) (by kernel_rfl) ?_
                  repeat (go_big_quiet_step ((fail)))
                  refine wpQuiet_nil ?_
                  intro x
                  go_wp2_with fail
                  exact ⟨⟨m + 1, by go_num, by omega, HUj.out.step (by assumption : Ext wj).upd⟩, by simp [intOf]; omega⟩
              · have hmi : ¬ (m : Int) < p.steps.length := by omega
                clear hu
                go_wp2_with fail
                exact ⟨⟨i + 1, by go_num, by omega, HU.out.step (H6.out.2.2.step HUj.out)⟩, by simp [intOf]; omega⟩
      · have hb1 : (check p != check p) = false := by simp
        have hb2 : (check p != 0) = true := by simpa using hc
        have HUB := Lib.hid (fun (W : World) (u : Upd [] wo W) => Uses_bad (HP.out.1.ext' u) hc)
        have HPB := Lib.hid (fun (s : Int) (x : Ext wo) => Prem_bad (s := s) (HP.out.1.ext' x.upd) hc)
        generalize check p = z at *
        clear hc
        have e1' := e1
        go_upto_region 7 with (first | (go_at_call 10; (with_reducible refine HCK.out.mono ?_); rintro e w2 ⟨rfl, u2⟩; have y1 := u2.some e1 (by simp); have y2 := u2.some e2 (by simp)) | (go_at_call 11; (with_reducible refine (HUB.out _ u2).mono ?_); rintro e w3 ⟨rfl, u3⟩))
        have U3 : Upd [] wo w3 := u2.step u3
        have y1 := U3.some e1 (by simp)
        have y2 := U3.some e2 (by simp)
        have H3 := Lib.hid U3
        have hn := HP.out.2.1.1
        have av0 := around_lo (n := step) (k := (p.steps.length : Int) + 1) (by omega)
        have av1 := around_hi (n := step) (k := (p.steps.length : Int) + 1) (by omega)
        have HAR := Lib.hid (fun w : World => Around_calls step ((p.steps.length : Int) + 1) w HST.out (by omega) (by omega))
        generalize around step ((p.steps.length : Int) + 1) = av at *
        have ua := (Upd.refl [] w3).alloc (.cells #[.int .i64 step, .int .i64 (-1), .int .i64 p.steps.length, .int .i64 ((p.steps.length : Int) - 1), .int .i64 av] 3)
        have HB5 := Lib.hid (And.intro (Blk.new w3 (ints [step, -1, (p.steps.length : Int), (p.steps.length : Int) - 1, av]) 3) (show Upd [] wo (w3.alloc (.cells (ints [step, -1, (p.steps.length : Int), (p.steps.length : Int) - 1, av]).toArray 3)) from U3.step ua))
        clear u2 u3 U3 ua HUB HCK e1'
        go_upto_region 11 with (go_at_call 12; (with_reducible refine (HAR.out _).mono ?_); rintro e _ ⟨rfl, rfl⟩)
        generalize hs5 : w3.heap.size = s5 at *
        change Code.wp _ _ _ _ (w3.alloc (.cells (ints [step, -1, (p.steps.length : Int), (p.steps.length : Int) - 1, av]).toArray 3))
        generalize (w3.alloc (.cells (ints [step, -1, (p.steps.length : Int), (p.steps.length : Int) - 1, av]).toArray 3)) = w4 at *
        clear hs5 y1 y2 H3
        go_wp2_with fail
        go_loopw [18] (fun i wr => ∃ k : Nat, i = .int .i64 k ∧ k ≤ 5 ∧ Upd [] w4 wr) (fun i _ => 5 - (intOf i).toNat)
        case atStart => exact ⟨0, rfl, by omega, Upd.refl _ _⟩
        case round =>
          obtain ⟨wi, rfl⟩ : ∃ wi : World, wi = wr := ⟨_, rfl⟩
          obtain ⟨k, rfl, hk, hu⟩ := hrel
          have HUi := Lib.hid (And.intro hu (HB5.out.2.step hu))
          by_cases hlt2 : k < 5
          · have hk5 : (k : Int) < 5 := by omega
            have y1 := HUi.out.2.some e1 (by simp)
            have y2 := HUi.out.2.some e2 (by simp)
            have hlk : k < [step, -1, (p.steps.length : Int), (p.steps.length : Int) - 1, av].length := hlt2
            have d5 := (HB5.out.1.upd hu (by simp)).cell (i := k) (ints_get (List.getElem?_eq_getElem hlk))
            generalize [step, -1, (p.steps.length : Int), (p.steps.length : Int) - 1, av][k] = s at *
            have HPQ := Lib.hid (fun (x : Ext wi) => HPB.out s ⟨x.val, HUi.out.2.step x.upd⟩)
            clear hu hlk
            go_wp2_with fail
            refine wp_region_qx (by kernel_rfl) (by kernel_rfl) ?_
            repeat (go_big_quiet_step (((go_at_call 13; exact qx (HPQ.out _)))))
            refine wpQuiet_nil ?_
            intro x
            go_wp2_with fail
            exact ⟨⟨k + 1, by go_num, by omega, HUi.out.1.step (by assumption : Ext wi).upd⟩, by simp [intOf]; omega⟩
          · have hk5 : ¬ (k : Int) < 5 := by omega
            clear hu
            go_wp2_with fail
            exact ⟨⟨i + 1, by go_num, by omega, HU.out.step HUi.out.2⟩, by simp [intOf]; omega⟩
    · have hki : ¬ (i : Int) < 4 := by omega
      have HL := Lib.hid (lives_calls (w := wo))
      clear hu
      go_wp2_with (go_at_call 17; (with_reducible refine HL.out.mono ?_); rintro e w9 ⟨rfl, u9⟩)
      go_ret
      exact ⟨rfl, (H1.out.2.2.step HU.out).step u9⟩
end
end Trim
end Go.Proofs.Ytnmfihgdedifoaa
