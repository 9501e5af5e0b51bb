/- Walks through the laws of gates: GateValues, the kinds that there are not. Conditions: none. -/
import Derived.Test.YtjflbhkhnmodaaaGateZa
set_option linter.unusedVariables false
set_option linter.unusedSimpArgs false
set_option linter.unusedSectionVars false
open Go.RowKit
namespace Go.Proofs.Ytjflbhkhnmodaaa
open L
namespace Gate
open Cla R14 R01
attribute [-go_sem] sliced
set_option maxRecDepth 100000 in
set_option maxHeartbeats 16000000 in
theorem gz48 (w : World) (kind more : Int) (hk : IsI64 kind) (hm : IsI64 more) : RowKit.Hid (gz w kind more hk hm).1.2.2 := by
  refine Lib.hid ?_
  dsimp only [gz, cut3, cut1]
  unhygienic intros
  have hk7' : k = 7 := by omega
  subst hk7'
  rw [show ((7 : Nat) : Int) = 7 from rfl]
  have HW := Lib.hid hu
  clear hu
  have hq0 := around_lo (n := kind) (k := 1073741824) (by omega)
  have hq1 := around_hi (n := kind) (k := 1073741824) (by omega)
  have hp0 := around_lo (n := more) (k := 1073741824) (by omega)
  have hp1 := around_hi (n := more) (k := 1073741824) (by omega)
  have HAQ := Lib.hid (fun (w : World) => Around_calls kind 1073741824 w hk (by omega) (by omega))
  have HAP := Lib.hid (fun (w : World) => Around_calls more 1073741824 w hm (by omega) (by omega))
  generalize around kind 1073741824 = q at *
  generalize around more 1073741824 = p at *
  have HVB := Lib.hid (fun (w : World) (g : Nat) (h : Blk w g (bools [false, false]) 4) => Value_bad (k := 7 + q) (n := 2) h rfl (by unfold maxLen; omega) (by unfold vOk kOk; simp; omega))
  go_upto_region 48 with fail
  go_cut [39, 40] (fun x e w' => x = .bool false ∧ e = .int .i64 1 ∧ Upd [] wk w')
  case first => as_aux_lemma =>
    go_wp2_with fail
    refine wp_region_wa 10 10 (fun _ => True) (by kernel_rfl) (by kernel_rfl) trivial ?_
    (refine WA.free 0 rfl rfl (by kernel_rfl) (fun K hK => ?_); go_big_quiet_step (fail); refine wpQuiet_nil ?_; refine hK _ ?_; clear hK K)
    refine WA.two 1 3 (by kernel_rfl) (Do_.mk rfl (fun K hK => ?_)) (Do_.mk rfl (fun K hK => ?_))
    · go_wp2_with (go_at_call 7; refine (HAQ.out _).mono ?_; rintro e _ ⟨rfl, rfl⟩)
      refine WA.keep trivial ?_
      (refine WA.free 2 rfl rfl (by kernel_rfl) (fun K hK => ?_); go_big_quiet_step (fail); refine wpQuiet_nil ?_; refine hK _ ?_; clear hK K)
      refine WA.one 3 (by kernel_rfl) (Do_.mk rfl (fun K hK => ?_))
      refine wpList_mk rfl _ _ _ rfl 4 1 1 _ Try.underlying23 infoBool rfl (by decide) _ _ _ _ 2 rfl rfl rfl rfl (by omega) (by omega) ?_
      simp only [Act.put, List.setIfInBounds_toArray, List.set_cons_zero, List.set_cons_succ]
      rw [rows_false]
      have NB := Blk.new wk.drew (bools (List.replicate 2 false)) 4
      have UB := ((Upd.refl [] wk).drew).alloc (.cells (bools (List.replicate 2 false)).toArray 4)
      generalize wk.drew.alloc (.cells (bools (List.replicate 2 false)).toArray 4) = wB at *
      generalize wk.drew.heap.size = gB at *
      go_wp2_with fail
      refine WA.keep trivial ?_
      refine WA.one 4 (by kernel_rfl) (Do_.mk rfl (fun K hK => ?_))
      go_wp2_with (go_at_call 5; refine (HVB.out _ _ NB).mono ?_; rintro e wC ⟨rfl, uC⟩)
      have HC := Lib.hid (UB.step uC)
      clear uC UB NB
      refine WA.keep trivial ?_
      (refine WA.free 5 rfl rfl (by kernel_rfl) (fun K hK => ?_); go_big_quiet_step (fail); refine wpQuiet_nil ?_; refine hK _ ?_; clear hK K); (refine WA.free 6 rfl rfl (by kernel_rfl) (fun K hK => ?_); go_big_quiet_step (fail); refine wpQuiet_nil ?_; refine hK _ ?_; clear hK K); (refine WA.free 7 rfl rfl (by kernel_rfl) (fun K hK => ?_); go_big_quiet_step (fail); refine wpQuiet_nil ?_; refine hK _ ?_; clear hK K); (refine WA.free 8 rfl rfl (by kernel_rfl) (fun K hK => ?_); go_big_quiet_step (fail); refine wpQuiet_nil ?_; refine hK _ ?_; clear hK K); (refine WA.free 9 rfl rfl (by kernel_rfl) (fun K hK => ?_); go_big_quiet_step (fail); refine wpQuiet_nil ?_; refine hK _ ?_; clear hK K)
      refine WA.nil (by kernel_rfl) ?_
      go_wp2_with fail
      go_meet
      case rel => exact ⟨rfl, rfl, HC.out⟩
    · refine wpList_mk rfl _ _ _ rfl 4 1 1 _ Try.underlying23 infoBool rfl (by decide) _ _ _ _ 2 rfl rfl rfl rfl (by omega) (by omega) ?_
      simp only [Act.put, List.setIfInBounds_toArray, List.set_cons_zero, List.set_cons_succ]
      rw [rows_false]
      have NB := Blk.new wk.drew (bools (List.replicate 2 false)) 4
      have UB := ((Upd.refl [] wk).drew).alloc (.cells (bools (List.replicate 2 false)).toArray 4)
      generalize wk.drew.alloc (.cells (bools (List.replicate 2 false)).toArray 4) = wB at *
      generalize wk.drew.heap.size = gB at *
      go_wp2_with fail
      refine WA.keep trivial ?_
      refine WA.one 1 (by kernel_rfl) (Do_.mk rfl (fun K hK => ?_))
      go_wp2_with (go_at_call 7; refine (HAQ.out _).mono ?_; rintro e _ ⟨rfl, rfl⟩)
      refine WA.keep trivial ?_
      (refine WA.free 2 rfl rfl (by kernel_rfl) (fun K hK => ?_); go_big_quiet_step (fail); refine wpQuiet_nil ?_; refine hK _ ?_; clear hK K)
      refine WA.one 4 (by kernel_rfl) (Do_.mk rfl (fun K hK => ?_))
      go_wp2_with (go_at_call 5; refine (HVB.out _ _ NB).mono ?_; rintro e wC ⟨rfl, uC⟩)
      have HC := Lib.hid (UB.step uC)
      clear uC UB NB
      refine WA.keep trivial ?_
      (refine WA.free 5 rfl rfl (by kernel_rfl) (fun K hK => ?_); go_big_quiet_step (fail); refine wpQuiet_nil ?_; refine hK _ ?_; clear hK K); (refine WA.free 6 rfl rfl (by kernel_rfl) (fun K hK => ?_); go_big_quiet_step (fail); refine wpQuiet_nil ?_; refine hK _ ?_; clear hK K); (refine WA.free 7 rfl rfl (by kernel_rfl) (fun K hK => ?_); go_big_quiet_step (fail); refine wpQuiet_nil ?_; refine hK _ ?_; clear hK K); (refine WA.free 8 rfl rfl (by kernel_rfl) (fun K hK => ?_); go_big_quiet_step (fail); refine wpQuiet_nil ?_; refine hK _ ?_; clear hK K); (refine WA.free 9 rfl rfl (by kernel_rfl) (fun K hK => ?_); go_big_quiet_step (fail); refine wpQuiet_nil ?_; refine hK _ ?_; clear hK K)
      refine WA.nil (by kernel_rfl) ?_
      go_wp2_with fail
      go_meet
      case rel => exact ⟨rfl, rfl, HC.out⟩
  case rest =>
  obtain ⟨rfl, rfl, uF⟩ := hcut
  obtain ⟨wF, rfl⟩ : ∃ wo : World, wo = wc := ⟨_, rfl⟩
  have HW2 := Lib.hid (HW.out.step uF)
  clear uF HVB HW
  have HW := HW2
  clear HW2
  have HVB := Lib.hid (fun (w : World) (g : Nat) (h : Blk w g (bools [false, false]) 4) => Value_bad (k := -1 - p) (n := 2) h rfl (by unfold maxLen; omega) (by unfold vOk kOk; simp; omega))
  go_upto_region 49 with fail
  go_cut [41, 42] (fun x e w' => x = .bool false ∧ e = .int .i64 1 ∧ Upd [] wF w')
  case first => as_aux_lemma =>
    go_wp2_with fail
    refine wp_region_wa 10 10 (fun _ => True) (by kernel_rfl) (by kernel_rfl) trivial ?_
    (refine WA.free 0 rfl rfl (by kernel_rfl) (fun K hK => ?_); go_big_quiet_step (fail); refine wpQuiet_nil ?_; refine hK _ ?_; clear hK K)
    refine WA.two 1 3 (by kernel_rfl) (Do_.mk rfl (fun K hK => ?_)) (Do_.mk rfl (fun K hK => ?_))
    · go_wp2_with (go_at_call 7; refine (HAP.out _).mono ?_; rintro e _ ⟨rfl, rfl⟩)
      refine WA.keep trivial ?_
      (refine WA.free 2 rfl rfl (by kernel_rfl) (fun K hK => ?_); go_big_quiet_step (fail); refine wpQuiet_nil ?_; refine hK _ ?_; clear hK K)
      refine WA.one 3 (by kernel_rfl) (Do_.mk rfl (fun K hK => ?_))
      refine wpList_mk rfl _ _ _ rfl 4 1 1 _ Try.underlying23 infoBool rfl (by decide) _ _ _ _ 2 rfl rfl rfl rfl (by omega) (by omega) ?_
      simp only [Act.put, List.setIfInBounds_toArray, List.set_cons_zero, List.set_cons_succ]
      rw [rows_false]
      have NB := Blk.new wF.drew (bools (List.replicate 2 false)) 4
      have UB := ((Upd.refl [] wF).drew).alloc (.cells (bools (List.replicate 2 false)).toArray 4)
      generalize wF.drew.alloc (.cells (bools (List.replicate 2 false)).toArray 4) = wB at *
      generalize wF.drew.heap.size = gB at *
      go_wp2_with fail
      refine WA.keep trivial ?_
      refine WA.one 4 (by kernel_rfl) (Do_.mk rfl (fun K hK => ?_))
      go_wp2_with (go_at_call 5; refine (HVB.out _ _ NB).mono ?_; rintro e wC ⟨rfl, uC⟩)
      have HC := Lib.hid (UB.step uC)
      clear uC UB NB
      refine WA.keep trivial ?_
      (refine WA.free 5 rfl rfl (by kernel_rfl) (fun K hK => ?_); go_big_quiet_step (fail); refine wpQuiet_nil ?_; refine hK _ ?_; clear hK K); (refine WA.free 6 rfl rfl (by kernel_rfl) (fun K hK => ?_); go_big_quiet_step (fail); refine wpQuiet_nil ?_; refine hK _ ?_; clear hK K); (refine WA.free 7 rfl rfl (by kernel_rfl) (fun K hK => ?_); go_big_quiet_step (fail); refine wpQuiet_nil ?_; refine hK _ ?_; clear hK K); (refine WA.free 8 rfl rfl (by kernel_rfl) (fun K hK => ?_); go_big_quiet_step (fail); refine wpQuiet_nil ?_; refine hK _ ?_; clear hK K); (refine WA.free 9 rfl rfl (by kernel_rfl) (fun K hK => ?_); go_big_quiet_step (fail); refine wpQuiet_nil ?_; refine hK _ ?_; clear hK K)
      refine WA.nil (by kernel_rfl) ?_
      go_wp2_with fail
      go_meet
      case rel => exact ⟨rfl, rfl, HC.out⟩
    · refine wpList_mk rfl _ _ _ rfl 4 1 1 _ Try.underlying23 infoBool rfl (by decide) _ _ _ _ 2 rfl rfl rfl rfl (by omega) (by omega) ?_
      simp only [Act.put, List.setIfInBounds_toArray, List.set_cons_zero, List.set_cons_succ]
      rw [rows_false]
      have NB := Blk.new wF.drew (bools (List.replicate 2 false)) 4
      have UB := ((Upd.refl [] wF).drew).alloc (.cells (bools (List.replicate 2 false)).toArray 4)
      generalize wF.drew.alloc (.cells (bools (List.replicate 2 false)).toArray 4) = wB at *
      generalize wF.drew.heap.size = gB at *
      go_wp2_with fail
      refine WA.keep trivial ?_
      refine WA.one 1 (by kernel_rfl) (Do_.mk rfl (fun K hK => ?_))
      go_wp2_with (go_at_call 7; refine (HAP.out _).mono ?_; rintro e _ ⟨rfl, rfl⟩)
      refine WA.keep trivial ?_
      (refine WA.free 2 rfl rfl (by kernel_rfl) (fun K hK => ?_); go_big_quiet_step (fail); refine wpQuiet_nil ?_; refine hK _ ?_; clear hK K)
      refine WA.one 4 (by kernel_rfl) (Do_.mk rfl (fun K hK => ?_))
      go_wp2_with (go_at_call 5; refine (HVB.out _ _ NB).mono ?_; rintro e wC ⟨rfl, uC⟩)
      have HC := Lib.hid (UB.step uC)
      clear uC UB NB
      refine WA.keep trivial ?_
      (refine WA.free 5 rfl rfl (by kernel_rfl) (fun K hK => ?_); go_big_quiet_step (fail); refine wpQuiet_nil ?_; refine hK _ ?_; clear hK K); (refine WA.free 6 rfl rfl (by kernel_rfl) (fun K hK => ?_); go_big_quiet_step (fail); refine wpQuiet_nil ?_; refine hK _ ?_; clear hK K); (refine WA.free 7 rfl rfl (by kernel_rfl) (fun K hK => ?_); go_big_quiet_step (fail); refine wpQuiet_nil ?_; refine hK _ ?_; clear hK K); (refine WA.free 8 rfl rfl (by kernel_rfl) (fun K hK => ?_); go_big_quiet_step (fail); refine wpQuiet_nil ?_; refine hK _ ?_; clear hK K); (refine WA.free 9 rfl rfl (by kernel_rfl) (fun K hK => ?_); go_big_quiet_step (fail); refine wpQuiet_nil ?_; refine hK _ ?_; clear hK K)
      refine WA.nil (by kernel_rfl) ?_
      go_wp2_with fail
      go_meet
      case rel => exact ⟨rfl, rfl, HC.out⟩
  case rest =>
  obtain ⟨rfl, rfl, uF⟩ := hcut
  obtain ⟨wG, rfl⟩ : ∃ wo : World, wo = wc := ⟨_, rfl⟩
  have HW2 := Lib.hid (HW.out.step uF)
  clear uF HVB HW
  have HW := HW2
  clear HW2
  go_wp2_with fail
  refine (lives_calls).mono ?_
  rintro e w4 ⟨rfl, u4⟩
  go_wp2_with fail
  go_ret
  exact ⟨rfl, HW.out.step u4⟩
end Gate
end Go.Proofs.Ytjflbhkhnmodaaa
