/- Walks through the laws of clauses: ClauseResolves. Conditions: none. -/
import Derived.Test.YtgdpbhbdeaifbaaLives14
import Derived.Test.YtgdpbhbdeaifbaaRef14c
set_option linter.unusedVariables false
set_option linter.unusedSimpArgs false
set_option linter.unusedSectionVars false
open Go.RowKit
namespace Go.Proofs.Ytgdpbhbdeaifbaa
open L
namespace Law
open R01 R14 Cla
section
variable {w : World}
set_option maxRecDepth 100000 in
set_option maxHeartbeats 8000000 in
theorem ClauseResolves_calls {lv : Value} {xs : List Int} (hx : ∀ x ∈ xs, IsI64 x) (hl : SL w 1 lv xs.length (ints xs)) (n pv : Int) (hn : IsI64 n) :
    Calls Try.prog 5 #[lv, .int .i64 n, .int .i64 pv] w fun e w' => e = .returned (.bool true) ∧ Upd [] w w' := by
  have HX := Lib.hid (And.intro hx hl)
  clear hx hl
  go_enter Try.func5, Try.ntmps5
  go_wp2_with fail
  refine (Lists_calls HX.out.1 HX.out.2 n hn).mono ?_
  rintro e w1 ⟨v1, Ls, rfl, hcl, hln, hel, hu1⟩
  obtain ⟨a, cap, rfl, hc1, hc2, hcc⟩ := hcl.form
  have HL := Lib.hid (And.intro hcc hu1)
  have hLn : Ls.length ≤ 9 := by omega
  clear hcl hln hel hu1 hcc HX
  go_wp2_with fail
  go_loopw [8] (fun i wr => ∃ k : Nat, k ≤ Ls.length ∧ i = .int .i64 k ∧ Upd [] w1 wr) (fun i _ => Ls.length - (intOf i).toNat)
  case atStart => exact ⟨0, Nat.zero_le _, rfl, Upd.refl _ _⟩
  case round =>
    obtain ⟨i, hi, rfl, hu⟩ := hrel
    have HU := Lib.hid hu
    clear hu
    by_cases hlt : i < Ls.length
    · obtain ⟨wo, rfl⟩ : ∃ wo : World, wo = wr := ⟨_, rfl⟩
      go_wp2_with fail
      go_loopw [9] (fun k wr => ∃ j : Nat, j ≤ Ls.length ∧ k = .int .i64 j ∧ Upd [] w1 wr) (fun k _ => Ls.length - (intOf k).toNat)
      case atStart => exact ⟨0, Nat.zero_le _, rfl, HU.out⟩
      case round =>
        clear HU
        obtain ⟨w2, rfl⟩ : ∃ w2 : World, w2 = wr := ⟨_, rfl⟩
        obtain ⟨j, hj, rfl, hu⟩ := hrel
        by_cases hltj : j < Ls.length
        · obtain ⟨g, off, ay, capy, rfl, e1, hsl, _, _⟩ := (HL.out.1 i hlt).upd hu
          obtain ⟨g', off', az, capz, he, e2, hsl2, _, _⟩ := (HL.out.1 j hltj).upd hu
          cases he
          have H0 := Lib.hid (And.intro hu (And.intro hsl hsl2))
          generalize Ls.getD i [] = c at *
          generalize Ls.getD j [] = d at *
          clear hu hsl hsl2
          go_wp2_with fail
          refine wp_region_qx (by kernel_rfl) (by kernel_rfl) ?_
          repeat (go_big_quiet_step (((go_at_call 23; exact qx (Subs_calls (H0.out.2.1.upd (Ext.upd _) (by simp)) (H0.out.2.2.upd (Ext.upd _) (by simp)))))))
          refine wpQuiet_nil ?_
          intro x
          have e1' := x.upd.some e1 (by simp)
          have e2' := x.upd.some e2 (by simp)
          have H1 := Lib.hid (And.intro (H0.out.1.step x.upd) (And.intro (H0.out.2.1.upd x.upd (by simp)) (H0.out.2.2.upd x.upd (by simp))))
          clear e1 e2 H0
          generalize x.val = w3 at *
          clear x
          go_wp2_with fail
          refine wp_region_qx (by kernel_rfl) (by kernel_rfl) ?_
          repeat (go_big_quiet_step (((go_at_call 24; exact qs (RSubs_calls (H1.out.2.1.upd (Ext.upd _) (by simp)) (H1.out.2.2.upd (Ext.upd _) (by simp)))))))
          refine wpQuiet_nil ?_
          intro x
          have e1 := x.upd.some e1' (by simp)
          have e2 := x.upd.some e2' (by simp)
          have H2 := Lib.hid (And.intro (H1.out.1.step x.upd) (And.intro (H1.out.2.1.upd x.upd (by simp)) (H1.out.2.2.upd x.upd (by simp))))
          clear e1' e2' H1
          generalize x.val = w4 at *
          clear x
          have hb1 : (subsB c d != subsB c d) = false := by simp
          have hb2 : (subsE c d != subsE c d) = false := by simp
          generalize subsB c d = sb at *
          generalize subsE c d = se at *
          have HE := Lib.hid (And.intro e1 (And.intro e2 H2.out))
          clear e1 e2 H2
          go_wp2_with fail
          clear hb1 hb2
          go_loopw [14] (fun p wr => ∃ q : Int, -5 ≤ q ∧ q ≤ 7 ∧ p = .int .i64 q ∧ Upd [] w4 wr) (fun p _ => (7 - intOf p).toNat)
          case atStart => exact ⟨-5, by omega, by omega, rfl, Upd.refl _ _⟩
          case round =>
            obtain ⟨q, hq1, hq2, rfl, hu⟩ := hrel
            have e1 := hu.some HE.out.1 (by simp)
            have e2 := hu.some HE.out.2.1 (by simp)
            have H5 := Lib.hid (And.intro hu (And.intro (HE.out.2.2.2.1.upd hu (by simp)) (HE.out.2.2.2.2.upd hu (by simp))))
            by_cases hq : q ≤ 6
            · clear hu
              obtain ⟨w5, rfl⟩ : ∃ w5 : World, w5 = wr := ⟨_, rfl⟩
              go_upto_if 73 with fail
              go_cut [15] (fun t w' => w' = w5 ∧ ∃ y : Int, t = .int .i64 y)
              case first =>
                by_cases h6 : q = 6
                · have hb : (q == 6) = true := by simpa using h6
                  clear h6
                  go_wp2_with fail
                  go_meet
                  case rel => exact ⟨rfl, _, rfl⟩
                · have hb : (q == 6) = false := by simpa using h6
                  clear h6
                  go_wp2_with fail
                  go_meet
                  case rel => exact ⟨rfl, _, rfl⟩
              case rest =>
              obtain ⟨rfl, y, rfl⟩ := hcut
              go_wp2_with fail
              refine wp_region_ord 9 1 [0, 1, 2, 3, 4, 5, 6, 7, 8, 10, 11, 12, 13, 14] [3, 7] [0, 1, 2, 3, 4, 5, 6, 7, 8, 9, 10, 11, 12, 13, 14] (fun w' => ∃ x : Ext wc, w' = x.val) (by kernel_rfl) (by kernel_rfl) (Ext.of (by iterate 25 (first | exact Upd.refl _ _ | assumption | refine Upd.alloc ?_ _ | refine Upd.drew ?_ | refine Upd.drewN ?_ _ | refine Upd.dl ?_ | refine Upd.step ?_ (Ext.upd _) | refine Upd.nil ?_ | skip))) ?_
              repeat (first | (refine wpOrd_load rfl rfl rfl rfl (fun K hK => ?_); go_big_quiet_step (fail); refine wpQuiet_nil ?_; refine hK _ ?_; clear hK K) | (refine wpOrd_free rfl rfl rfl (fun K hK => ?_); go_big_quiet_step (fail); refine wpQuiet_nil ?_; refine hK _ ?_; clear hK K))
              refine wpOrd_fix rfl rfl (fun K hK => ?_)
              go_wp2_with (go_at_call 25; refine (Resolve_calls (H5.out.2.1.upd (S := []) (by iterate 25 (first | exact Upd.refl _ _ | assumption | refine Upd.alloc ?_ _ | refine Upd.drew ?_ | refine Upd.drewN ?_ _ | refine Upd.dl ?_ | refine Upd.step ?_ (Ext.upd _) | refine Upd.nil ?_ | skip)) (by simp)) (H5.out.2.2.upd (S := []) (by iterate 25 (first | exact Upd.refl _ _ | assumption | refine Upd.alloc ?_ _ | refine Upd.drew ?_ | refine Upd.drewN ?_ _ | refine Upd.dl ?_ | refine Upd.step ?_ (Ext.upd _) | refine Upd.nil ?_ | skip)) (by simp)) y).mono ?_; rintro e w6 ⟨v6, rfl, s6, u6⟩)
              have H6 := Lib.hid (And.intro s6 (show Upd [] wc w6 from Upd.step (by iterate 25 (first | exact Upd.refl _ _ | assumption | refine Upd.alloc ?_ _ | refine Upd.drew ?_ | refine Upd.drewN ?_ _ | refine Upd.dl ?_ | refine Upd.step ?_ (Ext.upd _) | refine Upd.nil ?_ | skip)) u6))
              have e1' := H6.out.2.some e1 (by simp)
              have e2' := H6.out.2.some e2 (by simp)
              clear s6 u6
              refine ⟨fun hC => absurd hC (by decide), ?_⟩
              repeat (first | (refine wpOrd_load rfl rfl rfl rfl (fun K hK => ?_); go_big_quiet_step (fail); refine wpQuiet_nil ?_; refine hK _ ?_; clear hK K) | (refine wpOrd_free rfl rfl rfl (fun K hK => ?_); go_big_quiet_step (fail); refine wpQuiet_nil ?_; refine hK _ ?_; clear hK K))
              refine wpOrd_nil ?_
              have H7 := Lib.hid (And.intro (H5.out.1.step H6.out.2) (And.intro (H5.out.2.1.upd H6.out.2 (by simp)) (And.intro (H5.out.2.2.upd H6.out.2 (by simp)) H6.out.1)))
              clear e1 e2 H5 H6
              go_wp2_with fail
              refine wp_region_ord 9 1 [0, 1, 2, 3, 4, 5, 6, 7, 8, 10, 11, 12, 13, 14] [3, 7] [0, 1, 2, 3, 4, 5, 6, 7, 8, 9, 10, 11, 12, 13, 14] (fun w' => ∃ x : Ext w6, w' = x.val) (by kernel_rfl) (by kernel_rfl) (Ext.of (by iterate 25 (first | exact Upd.refl _ _ | assumption | refine Upd.alloc ?_ _ | refine Upd.drew ?_ | refine Upd.drewN ?_ _ | refine Upd.dl ?_ | refine Upd.step ?_ (Ext.upd _) | refine Upd.nil ?_ | skip))) ?_
              repeat (first | (refine wpOrd_load rfl rfl rfl rfl (fun K hK => ?_); go_big_quiet_step (fail); refine wpQuiet_nil ?_; refine hK _ ?_; clear hK K) | (refine wpOrd_free rfl rfl rfl (fun K hK => ?_); go_big_quiet_step (fail); refine wpQuiet_nil ?_; refine hK _ ?_; clear hK K))
              refine wpOrd_fix rfl rfl (fun K hK => ?_)
              go_wp2_with (go_at_call 26; refine (RResolve_calls (H7.out.2.1.upd (S := []) (by iterate 25 (first | exact Upd.refl _ _ | assumption | refine Upd.alloc ?_ _ | refine Upd.drew ?_ | refine Upd.drewN ?_ _ | refine Upd.dl ?_ | refine Upd.step ?_ (Ext.upd _) | refine Upd.nil ?_ | skip)) (by simp)) (H7.out.2.2.1.upd (S := []) (by iterate 25 (first | exact Upd.refl _ _ | assumption | refine Upd.alloc ?_ _ | refine Upd.drew ?_ | refine Upd.drewN ?_ _ | refine Upd.dl ?_ | refine Upd.step ?_ (Ext.upd _) | refine Upd.nil ?_ | skip)) (by simp)) y).mono ?_; rintro e w7 ⟨v7, rfl, s7, u7⟩)
              have U7 := show Upd [] w6 w7 from Upd.step (by iterate 25 (first | exact Upd.refl _ _ | assumption | refine Upd.alloc ?_ _ | refine Upd.drew ?_ | refine Upd.drewN ?_ _ | refine Upd.dl ?_ | refine Upd.step ?_ (Ext.upd _) | refine Upd.nil ?_ | skip)) u7
              have H8 := Lib.hid (And.intro (SameInts_calls (H7.out.2.2.2.upd U7 (by simp)) s7) (H7.out.1.step U7))
              clear s7 u7 U7 e1' e2'
              refine ⟨fun hC => absurd hC (by decide), ?_⟩
              repeat (first | (refine wpOrd_load rfl rfl rfl rfl (fun K hK => ?_); go_big_quiet_step (fail); refine wpQuiet_nil ?_; refine hK _ ?_; clear hK K) | (refine wpOrd_free rfl rfl rfl (fun K hK => ?_); go_big_quiet_step (fail); refine wpQuiet_nil ?_; refine hK _ ?_; clear hK K))
              refine wpOrd_nil ?_
              have hb3 : (resE c d y != resE c d y) = false := by simp
              generalize resE c d y = re at *
              generalize resL c d y = rl at *
              go_wp2_with fail
              have hss := H8.out.1
              simp only [decide_true] at hss
              refine hss.mono ?_
              rintro e w8 ⟨rfl, u8⟩
              clear hb3
              go_wp2_with fail
              exact ⟨⟨q + 1, by omega, by omega, by go_num, H8.out.2.step u8⟩, by simp [intOf]; omega⟩
            · clear e1 e2
              have HF := Lib.hid (HE.out.2.2.1.step hu)
              clear hu
              go_wp2_with fail
              exact ⟨⟨j + 1, by omega, by go_num, HF.out⟩, by simp [intOf]; omega⟩
        · have HF := Lib.hid hu
          clear hu
          go_wp2_with fail
          exact ⟨⟨i + 1, by omega, by go_num, HF.out⟩, by simp [intOf]; omega⟩
    · go_wp2_with fail
      refine (lives_calls).mono ?_
      rintro e w4 ⟨rfl, u4⟩
      go_wp2_with fail
      go_ret
      exact ⟨rfl, (HL.out.2.step HU.out).step u4⟩
end
end Law
end Go.Proofs.Ytgdpbhbdeaifbaa
