/- Two disks compared: the law's same. Conditions: none. -/
import Derived.Test.YtnljjkmmnkldcaaDiskOpD
set_option linter.unusedVariables false
set_option linter.unusedSimpArgs false
set_option linter.unusedSectionVars false
open Go.RowKit
namespace Go.Proofs.Ytnljjkmmnkldcaa
open L
namespace Disk
open Wire R01
theorem readS_off {s : DS} {i : Nat} (hi : i < 64) (h : s.off = true) : readS s (i : Int) = ([], 23) := by
  have h1 : isF (i : Int) = true := isF_iff.2 ⟨by omega, by omega⟩
  unfold readS; rw [if_neg (by rw [h1]; simp), if_pos h]
theorem readS_on {s : DS} {i : Nat} (hi : i < 64) (h : s.off = false) : readS s (i : Int) = (s.B i, 0) := by
  have h1 : isF (i : Int) = true := isF_iff.2 ⟨by omega, by omega⟩
  unfold readS; rw [if_neg (by rw [h1]; simp), if_neg (by rw [h]; simp), Int.toNat_natCast]
section
variable {w w' w0 : World} {p q : Nat} {s : DS}
set_option maxRecDepth 100000 in
set_option maxHeartbeats 8000000 in
theorem same_calls (h : Pair w0 p q s w) : Calls Try.prog 26 #[.pointer (some ⟨p, 0, none⟩), .pointer (some ⟨q, 0, none⟩)] w fun e w' => e = .returned (.bool true) ∧ Upd [] w w' := by
  obtain ⟨S, T, h1, h2, h3, _, _⟩ := h.ex
  clear h
  have HU1 := Lib.hid (fun (w' : World) (hu : Upd [] w w') => Used_calls (h1.quiet hu))
  have HU2 := Lib.hid (fun (w' : World) (hu : Upd [] w w') => RUsed_calls (h2.quiet hu))
  have HON := Lib.hid (fun (w' : World) (hu : Upd [] w w') => On_calls (h1.quiet hu))
  have HF1 := Lib.hid (fun (w' : World) (hu : Upd [] w w') => Files_calls (h1.quiet hu))
  have HF2 := Lib.hid (fun (w' : World) (hu : Upd [] w w') => RFiles_calls (h2.quiet hu))
  have HRD := Lib.hid (fun (w' : World) (hu : Upd [] w w') (i : Nat) (hi : i < 4) => Read_calls (h1.quiet hu) (f := (i : Int)) ⟨by omega, by omega⟩)
  have HRF := Lib.hid (fun (i : Nat) (hi : i < 4) => readS_off (s := s) (i := i) (by omega))
  have HRN := Lib.hid (fun (i : Nat) (hi : i < 4) => readS_on (s := s) (i := i) (by omega))
  have hu64 := h1.ok.used
  have hr64 := h1.ok.room
  obtain ⟨bB, bF, V, b1, b2, b3, _, _, _, _, _, _, b10, _⟩ := h2.ex
  have HQ := Lib.hid (And.intro b1 (And.intro b2 b10))
  have c3 := b1.cell (i := 3) rfl
  have c1 := b1.cell (i := 1) rfl
  have hlt := b1.lt
  clear b1 b2 b3 b10 h1 h2 h3
  obtain ⟨o, ho⟩ : ∃ o, o = s.off := ⟨_, rfl⟩
  rw [← ho] at HON HQ c3 HRF HRN
  have HBL := Lib.hid (show ∀ i, (s.B i).length ≤ (s.B i).length from fun _ => Nat.le_refl _)
  generalize used s = us at *
  have huI : (us : Int) ≤ 16777216 := by omega
  clear ho hu64 hr64
  have ho2 : ((!o) == o) = false := by cases o <;> rfl
  go_enter Try.func26, Try.ntmps26
  go_wp2_with fail
  refine wp_region_ord 16 4 [0, 2, 4, 5, 6, 8, 9, 10, 11, 12, 13, 14, 15, 17, 20, 21] [11] [0, 2, 1, 3, 4, 5, 6, 8, 9, 10, 11, 7, 12, 13, 14, 15, 17, 16, 18, 19, 20, 21] (fun w' => ∃ x : Ext w, w' = x.val) (by kernel_rfl) (by kernel_rfl) (Ext.of (by iterate 25 (first | exact Upd.refl _ _ | assumption | refine Upd.alloc ?_ _ | refine Upd.drew ?_ | refine Upd.drewN ?_ _ | refine Upd.dl ?_ | refine Upd.step ?_ (Ext.upd _) | refine Upd.nil ?_ | skip))) ?_
  repeat (first | (refine wpOrd_load rfl rfl rfl rfl (fun K hK => ?_); go_big_quiet_step (fail); refine wpQuiet_nil ?_; refine hK _ ?_; clear hK K) | (refine wpOrd_free rfl rfl rfl (fun K hK => ?_); go_big_quiet_step (fail); refine wpQuiet_nil ?_; refine hK _ ?_; clear hK K))
  refine wpOrd_fix rfl rfl (fun K hK => ?_)
  go_wp2_with (go_at_call 21; refine (HU1.out _ (by iterate 25 (first | exact Upd.refl _ _ | assumption | refine Upd.alloc ?_ _ | refine Upd.drew ?_ | refine Upd.drewN ?_ _ | refine Upd.dl ?_ | refine Upd.step ?_ (Ext.upd _) | refine Upd.nil ?_ | skip))).mono ?_; rintro e w1 ⟨rfl, u1⟩)
  have U1 : Upd [] w w1 := Upd.step (by iterate 25 (first | exact Upd.refl _ _ | assumption | refine Upd.alloc ?_ _ | refine Upd.drew ?_ | refine Upd.drewN ?_ _ | refine Upd.dl ?_ | refine Upd.step ?_ (Ext.upd _) | refine Upd.nil ?_ | skip)) u1
  have HW1 := Lib.hid U1
  clear u1 U1
  refine ⟨fun _ => Ext.of HW1.out, ?_⟩
  repeat (first | (refine wpOrd_load rfl rfl rfl rfl (fun K hK => ?_); go_big_quiet_step (fail); refine wpQuiet_nil ?_; refine hK _ ?_; clear hK K) | (refine wpOrd_free rfl rfl rfl (fun K hK => ?_); go_big_quiet_step (fail); refine wpQuiet_nil ?_; refine hK _ ?_; clear hK K))
  refine wpOrd_fix rfl rfl (fun K hK => ?_)
  go_wp2_with (go_at_call 47; refine (HU2.out _ HW1.out).mono ?_; rintro e _ ⟨rfl, rfl⟩)
  refine ⟨fun _ => Ext.of HW1.out, ?_⟩
  repeat (first | (refine wpOrd_load rfl rfl rfl rfl (fun K hK => ?_); go_big_quiet_step (fail); refine wpQuiet_nil ?_; refine hK _ ?_; clear hK K) | (refine wpOrd_free rfl rfl rfl (fun K hK => ?_); go_big_quiet_step (fail); refine wpQuiet_nil ?_; refine hK _ ?_; clear hK K))
  refine wpOrd_fix rfl rfl (fun K hK => ?_)
  go_wp2_with (go_at_call 29; refine (HON.out _ HW1.out).mono ?_; rintro e _ ⟨rfl, rfl⟩)
  refine ⟨fun _ => Ext.of HW1.out, ?_⟩
  repeat (first | (refine wpOrd_load rfl rfl rfl rfl (fun K hK => ?_); go_big_quiet_step (fail); refine wpQuiet_nil ?_; refine hK _ ?_; clear hK K) | (refine wpOrd_free rfl rfl rfl (fun K hK => ?_); go_big_quiet_step (fail); refine wpQuiet_nil ?_; refine hK _ ?_; clear hK K))
  refine wpOrd_fix rfl rfl (fun K hK => ?_)
  go_wp2_with (go_at_call 39; refine (HF1.out _ HW1.out).mono ?_; rintro e w2 ⟨v2, rfl, o2, u2⟩)
  have HW2 := Lib.hid (And.intro o2 (HW1.out.step u2))
  clear o2 u2
  refine ⟨fun hC => absurd hC (by decide), ?_⟩
  repeat (first | (refine wpOrd_load rfl rfl rfl rfl (fun K hK => ?_); go_big_quiet_step (fail); refine wpQuiet_nil ?_; refine hK _ ?_; clear hK K) | (refine wpOrd_free rfl rfl rfl (fun K hK => ?_); go_big_quiet_step (fail); refine wpQuiet_nil ?_; refine hK _ ?_; clear hK K))
  refine wpOrd_fix rfl rfl (fun K hK => ?_)
  go_wp2_with (go_at_call 49; refine (HF2.out _ HW2.out.2).mono ?_; rintro e w3 ⟨v3, rfl, o3, u3⟩)
  have HS := Lib.hid (show Calls Try.prog 48 #[v2, v3] w3 (fun e w' => e = .returned (.bool true) ∧ Upd [] w3 w') from (SameInts_calls (w := w3) (xs := (filesS s).map Int.ofNat) (ys := (filesS s).map Int.ofNat) (by rw [List.length_map]; exact (HW2.out.1.upd u3 (by simp)).sl) (by rw [List.length_map]; exact o3.sl)).mono (fun e w' h => by simpa using h))
  have HW3 := Lib.hid (HW2.out.2.step u3)
  clear o3 u3
  refine ⟨fun hC => absurd hC (by decide), ?_⟩
  repeat (first | (refine wpOrd_load rfl rfl rfl rfl (fun K hK => ?_); go_big_quiet_step (fail); refine wpQuiet_nil ?_; refine hK _ ?_; clear hK K) | (refine wpOrd_free rfl rfl rfl (fun K hK => ?_); go_big_quiet_step (fail); refine wpQuiet_nil ?_; refine hK _ ?_; clear hK K))
  refine wpOrd_fix rfl rfl (fun K hK => ?_)
  go_wp2_with (go_at_call 48; refine HS.out.mono ?_; rintro e w4 ⟨rfl, u4⟩)
  have HW4 := Lib.hid (HW3.out.step u4)
  clear u4 HS
  refine ⟨fun hC => absurd hC (by decide), ?_⟩
  repeat (first | (refine wpOrd_load rfl rfl rfl rfl (fun K hK => ?_); go_big_quiet_step (fail); refine wpQuiet_nil ?_; refine hK _ ?_; clear hK K) | (refine wpOrd_free rfl rfl rfl (fun K hK => ?_); go_big_quiet_step (fail); refine wpQuiet_nil ?_; refine hK _ ?_; clear hK K))
  refine wpOrd_nil ?_
  go_wp2_with fail
  have d3 := HW4.out.some c3 (by simp)
  clear ho2 HON
  generalize (!o) = no
  go_loopw [5] (fun i wr => ∃ k : Nat, i = .int .i64 k ∧ k ≤ 4 ∧ Upd [] w wr) (fun i _ => 4 - (intOf i).toNat)
  case atStart => exact ⟨0, rfl, by omega, HW4.out⟩
  case round =>
    obtain ⟨wo, rfl⟩ : ∃ wo : World, wo = wr := ⟨_, rfl⟩
    obtain ⟨k, rfl, hk, hu⟩ := hrel
    clear d3
    by_cases hlt : k < 4
    · have HR := Lib.hid (HRD.out _ hu k hlt)
      have hrf := HRF.out k hlt
      have hrn := HRN.out k hlt
      have HVk := Lib.hid (HQ.out.2.2 k (by omega))
      have HCk := Lib.hid (HQ.out.2.1.cell (vl_get V (show k < 64 by omega)))
      cases o with
      | true =>
        rw [hrf rfl] at HR
        clear hrf hrn
        go_upto_region 7 with (go_at_call 17; refine HR.out.mono ?_; rintro e w5 ⟨v5, rfl, o5, u5⟩; obtain ⟨_, a5, c5, rfl, _⟩ := SL.of_owns o5.row)
        have U5 := hu.step u5
        have d3 := U5.some c3 (by simp)
        go_wp2_with fail
        go_roundw
        case rel => exact ⟨k + 1, by go_num, by omega, U5⟩
        case measure => simp [intOf]; omega
      | false =>
        rw [hrn rfl] at HR
        clear hrf hrn
        obtain ⟨_, aV, cV, hV, _⟩ := SL.of_owns HVk.out.1
        have e0 := HCk.out
        rw [hV] at e0
        go_upto_region 7 with (go_at_call 17; refine HR.out.mono ?_; rintro e w5 ⟨v5, rfl, o5, u5⟩; obtain ⟨_, a5, c5, rfl, _⟩ := SL.of_owns o5.row)
        have U5 := hu.step u5
        have d3 := U5.some c3 (by simp)
        have d1 := U5.some c1 (by simp)
        have d0 := U5.some e0 (by simp)
        have HB := Lib.hid (show Calls Try.prog 18 #[.slice a5 (s.B k).length c5, .slice aV (s.B k).length cV] w5 (fun e w' => e = .returned (.bool true) ∧ Upd [] w5 w') from (SameBytes_calls (w := w5) (xs := s.B k) (ys := s.B k) o5.sl (by rw [← hV]; exact (SL.of_owns HVk.out.1).upd U5 (by simp))).mono (fun e w' h => by simpa using h))
        have HU5 := Lib.hid U5
        have HO5 := Lib.hid o5
        clear U5 o5 u5 e0 hu hV
        go_wp2_with (go_at_call 18; refine HB.out.mono ?_; rintro e w6 ⟨rfl, u6⟩)
        go_roundw
        case rel => exact ⟨k + 1, by go_num, by omega, HU5.out.step u6⟩
        case measure => simp [intOf]; omega
    · have hk4 : k = 4 := by omega
      subst hk4
      go_wp2_with fail
      go_ret
      exact ⟨rfl, hu⟩
end
end Disk
end Go.Proofs.Ytnljjkmmnkldcaa
