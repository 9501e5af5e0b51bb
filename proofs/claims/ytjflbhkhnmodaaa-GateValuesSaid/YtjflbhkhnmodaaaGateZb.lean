/- Walks through the laws of gates: GateValues, the rules of negation and the eight values. Conditions: none. -/
import Derived.Test.YtjflbhkhnmodaaaGateZa
set_option linter.unusedVariables false
set_option linter.unusedSimpArgs false
set_option linter.unusedSectionVars false
open Go.RowKit
namespace Go.Proofs.Ytjflbhkhnmodaaa
open L
namespace Gate
open Cla R14 R01
attribute [-go_sem] sliced
set_option maxRecDepth 100000 in
set_option maxHeartbeats 16000000 in
def gzb (w : World) (kind more : Int) (hk : IsI64 kind) (hm : IsI64 more) : { T : Prop // RowKit.Hid T → RowKit.Hid (gz w kind more hk hm).1.1 } :=
  cut1 _ (by
  intro K1
  refine Lib.hid ?_
  dsimp -zeta only [gz, cut3]
  unhygienic intros
  go_upto_region 18 with fail
  go_cut [13, 14] (fun x e w' => x = .bool (gVal 1 [b0, b1]) ∧ e = .int .i64 0 ∧ Upd [] w7 w')
  case first => as_aux_lemma =>
    have e0 := H7.out.some HE.out.1 (by simp)
    have e1 := H7.out.some HE.out.2.1 (by simp)
    have e2 := H7.out.some HE.out.2.2.1 (by simp)
    go_wp2_with fail
    refine wp_region_ord 6 1 [0, 1, 2, 3, 4, 5, 8, 9, 10, 11, 12] [2, 5] [0, 1, 2, 3, 4, 5, 6, 7, 8, 9, 10, 11, 12] (fun w' => ∃ x : Ext w7, w' = x.val) (by kernel_rfl) (by kernel_rfl) (Ext.of (by iterate 25 (first | exact Upd.refl _ _ | assumption | refine Upd.alloc ?_ _ | refine Upd.drew ?_ | refine Upd.drewN ?_ _ | refine Upd.dl ?_ | refine Upd.step ?_ (Ext.upd _) | refine Upd.nil ?_ | skip))) ?_
    repeat (first | (refine wpOrd_load rfl rfl rfl rfl (fun K hK => ?_); go_big_quiet_step (fail); refine wpQuiet_nil ?_; refine hK _ ?_; clear hK K) | (refine wpOrd_free rfl rfl rfl (fun K hK => ?_); go_big_quiet_step (fail); refine wpQuiet_nil ?_; refine hK _ ?_; clear hK K))
    refine wpOrd_fix rfl rfl (fun K hK => ?_)
    go_wp2_with fail
    have NB : Blk (w7.alloc (.cells #[.bool b0, .bool b1] 4)).drew w7.heap.size (bools [b0, b1]) 4 := Blk.new w7 [.bool b0, .bool b1] 4
    have UB := ((Upd.refl [] w7).alloc (.cells #[.bool b0, .bool b1] 4)).drew
    have HVB := Lib.hid (Value_lit (k := 1) (n := 2) NB rfl rfl rfl)
    have HUB := Lib.hid UB
    clear NB UB
    generalize (w7.alloc (.cells #[.bool b0, .bool b1] 4)).drew = waa at *
    generalize w7.heap.size = gaa at *
    refine ⟨fun _ => Ext.of HUB.out, ?_⟩
    repeat (first | (refine wpOrd_load rfl rfl rfl rfl (fun K hK => ?_); go_big_quiet_step (fail); refine wpQuiet_nil ?_; refine hK _ ?_; clear hK K) | (refine wpOrd_free rfl rfl rfl (fun K hK => ?_); go_big_quiet_step (fail); refine wpQuiet_nil ?_; refine hK _ ?_; clear hK K))
    refine wpOrd_fix rfl rfl (fun K hK => ?_)
    go_wp2_with (go_at_call 5; refine HVB.out.mono ?_; rintro e wza ⟨rfl, uB⟩)
    have HUC := Lib.hid (HUB.out.step uB)
    clear uB HVB HUB e0 e1 e2
    refine ⟨fun hC => absurd hC (by decide), ?_⟩
    repeat (first | (refine wpOrd_load rfl rfl rfl rfl (fun K hK => ?_); go_big_quiet_step (fail); refine wpQuiet_nil ?_; refine hK _ ?_; clear hK K) | (refine wpOrd_free rfl rfl rfl (fun K hK => ?_); go_big_quiet_step (fail); refine wpQuiet_nil ?_; refine hK _ ?_; clear hK K))
    refine wpOrd_nil ?_
    go_wp2_with fail
    go_meet
    case rel => exact ⟨rfl, rfl, HUC.out⟩
  case rest =>
  obtain ⟨rfl, rfl, uB⟩ := hcut
  obtain ⟨wza, rfl⟩ : ∃ wo : World, wo = wc := ⟨_, rfl⟩
  have H8 := Lib.hid (H7.out.step uB)
  clear uB H7
  have H7 := H8
  clear H8
  generalize hva : gVal 1 [b0, b1] = va at *
  have HVa := Lib.hid hva
  clear hva
  go_upto_region 19 with fail
  go_cut [15, 16] (fun x e w' => x = .bool (gVal 2 [!b0, !b1]) ∧ e = .int .i64 0 ∧ Upd [] wza w')
  case first => as_aux_lemma =>
    have e0 := H7.out.some HE.out.1 (by simp)
    have e1 := H7.out.some HE.out.2.1 (by simp)
    have e2 := H7.out.some HE.out.2.2.1 (by simp)
    go_wp2_with fail
    refine wp_region_ord 8 2 [0, 1, 2, 3, 4, 5, 6, 7, 10, 11, 12, 13, 14] [2, 6] [0, 1, 2, 3, 4, 5, 6, 7, 8, 9, 10, 11, 12, 13, 14] (fun w' => ∃ x : Ext wza, w' = x.val) (by kernel_rfl) (by kernel_rfl) (Ext.of (by iterate 25 (first | exact Upd.refl _ _ | assumption | refine Upd.alloc ?_ _ | refine Upd.drew ?_ | refine Upd.drewN ?_ _ | refine Upd.dl ?_ | refine Upd.step ?_ (Ext.upd _) | refine Upd.nil ?_ | skip))) ?_
    repeat (first | (refine wpOrd_load rfl rfl rfl rfl (fun K hK => ?_); go_big_quiet_step (fail); refine wpQuiet_nil ?_; refine hK _ ?_; clear hK K) | (refine wpOrd_free rfl rfl rfl (fun K hK => ?_); go_big_quiet_step (fail); refine wpQuiet_nil ?_; refine hK _ ?_; clear hK K))
    refine wpOrd_fix rfl rfl (fun K hK => ?_)
    go_wp2_with fail
    have NB : Blk (wza.alloc (.cells #[.bool (!b0), .bool (!b1)] 4)).drew wza.heap.size (bools [!b0, !b1]) 4 := Blk.new wza [.bool (!b0), .bool (!b1)] 4
    have UB := ((Upd.refl [] wza).alloc (.cells #[.bool (!b0), .bool (!b1)] 4)).drew
    have HVB := Lib.hid (Value_lit (k := 2) (n := 2) NB rfl rfl rfl)
    have HUB := Lib.hid UB
    clear NB UB
    generalize (wza.alloc (.cells #[.bool (!b0), .bool (!b1)] 4)).drew = wao at *
    generalize wza.heap.size = gao at *
    refine ⟨fun _ => Ext.of HUB.out, ?_⟩
    repeat (first | (refine wpOrd_load rfl rfl rfl rfl (fun K hK => ?_); go_big_quiet_step (fail); refine wpQuiet_nil ?_; refine hK _ ?_; clear hK K) | (refine wpOrd_free rfl rfl rfl (fun K hK => ?_); go_big_quiet_step (fail); refine wpQuiet_nil ?_; refine hK _ ?_; clear hK K))
    refine wpOrd_fix rfl rfl (fun K hK => ?_)
    go_wp2_with (go_at_call 5; refine HVB.out.mono ?_; rintro e wzo ⟨rfl, uB⟩)
    have HUC := Lib.hid (HUB.out.step uB)
    clear uB HVB HUB e0 e1 e2
    refine ⟨fun hC => absurd hC (by decide), ?_⟩
    repeat (first | (refine wpOrd_load rfl rfl rfl rfl (fun K hK => ?_); go_big_quiet_step (fail); refine wpQuiet_nil ?_; refine hK _ ?_; clear hK K) | (refine wpOrd_free rfl rfl rfl (fun K hK => ?_); go_big_quiet_step (fail); refine wpQuiet_nil ?_; refine hK _ ?_; clear hK K))
    refine wpOrd_nil ?_
    go_wp2_with fail
    go_meet
    case rel => exact ⟨rfl, rfl, HUC.out⟩
  case rest =>
  obtain ⟨rfl, rfl, uB⟩ := hcut
  obtain ⟨wzo, rfl⟩ : ∃ wo : World, wo = wc := ⟨_, rfl⟩
  have H8 := Lib.hid (H7.out.step uB)
  clear uB H7
  have H7 := H8
  clear H8
  generalize hvo : gVal 2 [!b0, !b1] = vo at *
  have HVo := Lib.hid hvo
  clear hvo
  go_upto_region 20 with fail
  go_cut [17, 18] (fun x e w' => x = .bool (gVal 3 [b0, b1]) ∧ e = .int .i64 0 ∧ Upd [] wzo w')
  case first => as_aux_lemma =>
    have e0 := H7.out.some HE.out.1 (by simp)
    have e1 := H7.out.some HE.out.2.1 (by simp)
    have e2 := H7.out.some HE.out.2.2.1 (by simp)
    go_wp2_with fail
    refine wp_region_ord 6 1 [0, 1, 2, 3, 4, 5, 8, 9, 10, 11, 12] [2, 5] [0, 1, 2, 3, 4, 5, 6, 7, 8, 9, 10, 11, 12] (fun w' => ∃ x : Ext wzo, w' = x.val) (by kernel_rfl) (by kernel_rfl) (Ext.of (by iterate 25 (first | exact Upd.refl _ _ | assumption | refine Upd.alloc ?_ _ | refine Upd.drew ?_ | refine Upd.drewN ?_ _ | refine Upd.dl ?_ | refine Upd.step ?_ (Ext.upd _) | refine Upd.nil ?_ | skip))) ?_
    repeat (first | (refine wpOrd_load rfl rfl rfl rfl (fun K hK => ?_); go_big_quiet_step (fail); refine wpQuiet_nil ?_; refine hK _ ?_; clear hK K) | (refine wpOrd_free rfl rfl rfl (fun K hK => ?_); go_big_quiet_step (fail); refine wpQuiet_nil ?_; refine hK _ ?_; clear hK K))
    refine wpOrd_fix rfl rfl (fun K hK => ?_)
    go_wp2_with fail
    have NB : Blk (wzo.alloc (.cells #[.bool b0, .bool b1] 4)).drew wzo.heap.size (bools [b0, b1]) 4 := Blk.new wzo [.bool b0, .bool b1] 4
    have UB := ((Upd.refl [] wzo).alloc (.cells #[.bool b0, .bool b1] 4)).drew
    have HVB := Lib.hid (Value_lit (k := 3) (n := 2) NB rfl rfl rfl)
    have HUB := Lib.hid UB
    clear NB UB
    generalize (wzo.alloc (.cells #[.bool b0, .bool b1] 4)).drew = wap at *
    generalize wzo.heap.size = gap at *
    refine ⟨fun _ => Ext.of HUB.out, ?_⟩
    repeat (first | (refine wpOrd_load rfl rfl rfl rfl (fun K hK => ?_); go_big_quiet_step (fail); refine wpQuiet_nil ?_; refine hK _ ?_; clear hK K) | (refine wpOrd_free rfl rfl rfl (fun K hK => ?_); go_big_quiet_step (fail); refine wpQuiet_nil ?_; refine hK _ ?_; clear hK K))
    refine wpOrd_fix rfl rfl (fun K hK => ?_)
    go_wp2_with (go_at_call 5; refine HVB.out.mono ?_; rintro e wzp ⟨rfl, uB⟩)
    have HUC := Lib.hid (HUB.out.step uB)
    clear uB HVB HUB e0 e1 e2
    refine ⟨fun hC => absurd hC (by decide), ?_⟩
    repeat (first | (refine wpOrd_load rfl rfl rfl rfl (fun K hK => ?_); go_big_quiet_step (fail); refine wpQuiet_nil ?_; refine hK _ ?_; clear hK K) | (refine wpOrd_free rfl rfl rfl (fun K hK => ?_); go_big_quiet_step (fail); refine wpQuiet_nil ?_; refine hK _ ?_; clear hK K))
    refine wpOrd_nil ?_
    go_wp2_with fail
    go_meet
    case rel => exact ⟨rfl, rfl, HUC.out⟩
  case rest =>
  obtain ⟨rfl, rfl, uB⟩ := hcut
  obtain ⟨wzp, rfl⟩ : ∃ wo : World, wo = wc := ⟨_, rfl⟩
  have H8 := Lib.hid (H7.out.step uB)
  clear uB H7
  have H7 := H8
  clear H8
  generalize hvp : gVal 3 [b0, b1] = vp at *
  have HVp := Lib.hid hvp
  clear hvp
  go_upto_region 21 with fail
  go_cut [19, 20] (fun x e w' => x = .bool (gVal 3 [!b0, b1]) ∧ e = .int .i64 0 ∧ Upd [] wzp w')
  case first => as_aux_lemma =>
    have e0 := H7.out.some HE.out.1 (by simp)
    have e1 := H7.out.some HE.out.2.1 (by simp)
    have e2 := H7.out.some HE.out.2.2.1 (by simp)
    go_wp2_with fail
    refine wp_region_ord 7 2 [0, 1, 2, 3, 4, 5, 6, 9, 10, 11, 12, 13] [2, 6] [0, 1, 2, 3, 4, 5, 6, 7, 8, 9, 10, 11, 12, 13] (fun w' => ∃ x : Ext wzp, w' = x.val) (by kernel_rfl) (by kernel_rfl) (Ext.of (by iterate 25 (first | exact Upd.refl _ _ | assumption | refine Upd.alloc ?_ _ | refine Upd.drew ?_ | refine Upd.drewN ?_ _ | refine Upd.dl ?_ | refine Upd.step ?_ (Ext.upd _) | refine Upd.nil ?_ | skip))) ?_
    repeat (first | (refine wpOrd_load rfl rfl rfl rfl (fun K hK => ?_); go_big_quiet_step (fail); refine wpQuiet_nil ?_; refine hK _ ?_; clear hK K) | (refine wpOrd_free rfl rfl rfl (fun K hK => ?_); go_big_quiet_step (fail); refine wpQuiet_nil ?_; refine hK _ ?_; clear hK K))
    refine wpOrd_fix rfl rfl (fun K hK => ?_)
    go_wp2_with fail
    have NB : Blk (wzp.alloc (.cells #[.bool (!b0), .bool b1] 4)).drew wzp.heap.size (bools [!b0, b1]) 4 := Blk.new wzp [.bool (!b0), .bool b1] 4
    have UB := ((Upd.refl [] wzp).alloc (.cells #[.bool (!b0), .bool b1] 4)).drew
    have HVB := Lib.hid (Value_lit (k := 3) (n := 2) NB rfl rfl rfl)
    have HUB := Lib.hid UB
    clear NB UB
    generalize (wzp.alloc (.cells #[.bool (!b0), .bool b1] 4)).drew = waq at *
    generalize wzp.heap.size = gaq at *
    refine ⟨fun _ => Ext.of HUB.out, ?_⟩
    repeat (first | (refine wpOrd_load rfl rfl rfl rfl (fun K hK => ?_); go_big_quiet_step (fail); refine wpQuiet_nil ?_; refine hK _ ?_; clear hK K) | (refine wpOrd_free rfl rfl rfl (fun K hK => ?_); go_big_quiet_step (fail); refine wpQuiet_nil ?_; refine hK _ ?_; clear hK K))
    refine wpOrd_fix rfl rfl (fun K hK => ?_)
    go_wp2_with (go_at_call 5; refine HVB.out.mono ?_; rintro e wzq ⟨rfl, uB⟩)
    have HUC := Lib.hid (HUB.out.step uB)
    clear uB HVB HUB e0 e1 e2
    refine ⟨fun hC => absurd hC (by decide), ?_⟩
    repeat (first | (refine wpOrd_load rfl rfl rfl rfl (fun K hK => ?_); go_big_quiet_step (fail); refine wpQuiet_nil ?_; refine hK _ ?_; clear hK K) | (refine wpOrd_free rfl rfl rfl (fun K hK => ?_); go_big_quiet_step (fail); refine wpQuiet_nil ?_; refine hK _ ?_; clear hK K))
    refine wpOrd_nil ?_
    go_wp2_with fail
    go_meet
    case rel => exact ⟨rfl, rfl, HUC.out⟩
  case rest =>
  obtain ⟨rfl, rfl, uB⟩ := hcut
  obtain ⟨wzq, rfl⟩ : ∃ wo : World, wo = wc := ⟨_, rfl⟩
  have H8 := Lib.hid (H7.out.step uB)
  clear uB H7
  have H7 := H8
  clear H8
  generalize hvq : gVal 3 [!b0, b1] = vq at *
  have HVq := Lib.hid hvq
  clear hvq
  go_upto_region 22 with fail
  go_cut [21, 22] (fun x e w' => x = .bool (gVal 4 [!b0, b1, b2]) ∧ e = .int .i64 0 ∧ Upd [] wzq w')
  case first => as_aux_lemma =>
    have e0 := H7.out.some HE.out.1 (by simp)
    have e1 := H7.out.some HE.out.2.1 (by simp)
    have e2 := H7.out.some HE.out.2.2.1 (by simp)
    go_wp2_with fail
    refine wp_region_ord 10 2 [0, 1, 2, 3, 4, 5, 6, 7, 8, 9, 12, 13, 14, 15, 16] [2, 6, 9] [0, 1, 2, 3, 4, 5, 6, 7, 8, 9, 10, 11, 12, 13, 14, 15, 16] (fun w' => ∃ x : Ext wzq, w' = x.val) (by kernel_rfl) (by kernel_rfl) (Ext.of (by iterate 25 (first | exact Upd.refl _ _ | assumption | refine Upd.alloc ?_ _ | refine Upd.drew ?_ | refine Upd.drewN ?_ _ | refine Upd.dl ?_ | refine Upd.step ?_ (Ext.upd _) | refine Upd.nil ?_ | skip))) ?_
    repeat (first | (refine wpOrd_load rfl rfl rfl rfl (fun K hK => ?_); go_big_quiet_step (fail); refine wpQuiet_nil ?_; refine hK _ ?_; clear hK K) | (refine wpOrd_free rfl rfl rfl (fun K hK => ?_); go_big_quiet_step (fail); refine wpQuiet_nil ?_; refine hK _ ?_; clear hK K))
    refine wpOrd_fix rfl rfl (fun K hK => ?_)
    go_wp2_with fail
    have NB : Blk (wzq.alloc (.cells #[.bool (!b0), .bool b1, .bool b2] 4)).drew wzq.heap.size (bools [!b0, b1, b2]) 4 := Blk.new wzq [.bool (!b0), .bool b1, .bool b2] 4
    have UB := ((Upd.refl [] wzq).alloc (.cells #[.bool (!b0), .bool b1, .bool b2] 4)).drew
    have HVB := Lib.hid (Value_lit (k := 4) (n := 3) NB rfl rfl rfl)
    have HUB := Lib.hid UB
    clear NB UB
    generalize (wzq.alloc (.cells #[.bool (!b0), .bool b1, .bool b2] 4)).drew = war at *
    generalize wzq.heap.size = gar at *
    refine ⟨fun _ => Ext.of HUB.out, ?_⟩
    repeat (first | (refine wpOrd_load rfl rfl rfl rfl (fun K hK => ?_); go_big_quiet_step (fail); refine wpQuiet_nil ?_; refine hK _ ?_; clear hK K) | (refine wpOrd_free rfl rfl rfl (fun K hK => ?_); go_big_quiet_step (fail); refine wpQuiet_nil ?_; refine hK _ ?_; clear hK K))
    refine wpOrd_fix rfl rfl (fun K hK => ?_)
    go_wp2_with (go_at_call 5; refine HVB.out.mono ?_; rintro e wzr ⟨rfl, uB⟩)
    have HUC := Lib.hid (HUB.out.step uB)
    clear uB HVB HUB e0 e1 e2
    refine ⟨fun hC => absurd hC (by decide), ?_⟩
    repeat (first | (refine wpOrd_load rfl rfl rfl rfl (fun K hK => ?_); go_big_quiet_step (fail); refine wpQuiet_nil ?_; refine hK _ ?_; clear hK K) | (refine wpOrd_free rfl rfl rfl (fun K hK => ?_); go_big_quiet_step (fail); refine wpQuiet_nil ?_; refine hK _ ?_; clear hK K))
    refine wpOrd_nil ?_
    go_wp2_with fail
    go_meet
    case rel => exact ⟨rfl, rfl, HUC.out⟩
  case rest =>
  obtain ⟨rfl, rfl, uB⟩ := hcut
  obtain ⟨wzr, rfl⟩ : ∃ wo : World, wo = wc := ⟨_, rfl⟩
  have H8 := Lib.hid (H7.out.step uB)
  clear uB H7
  have H7 := H8
  clear H8
  generalize hvr : gVal 4 [!b0, b1, b2] = vr at *
  have HVr := Lib.hid hvr
  clear hvr
  go_upto_region 23 with fail
  go_cut [23, 24] (fun x e w' => x = .bool (gVal 4 [b0, b2, b1]) ∧ e = .int .i64 0 ∧ Upd [] wzr w')
  case first => as_aux_lemma =>
    have e0 := H7.out.some HE.out.1 (by simp)
    have e1 := H7.out.some HE.out.2.1 (by simp)
    have e2 := H7.out.some HE.out.2.2.1 (by simp)
    go_wp2_with fail
    refine wp_region_ord 9 1 [0, 1, 2, 3, 4, 5, 6, 7, 8, 11, 12, 13, 14, 15] [2, 5, 8] [0, 1, 2, 3, 4, 5, 6, 7, 8, 9, 10, 11, 12, 13, 14, 15] (fun w' => ∃ x : Ext wzr, w' = x.val) (by kernel_rfl) (by kernel_rfl) (Ext.of (by iterate 25 (first | exact Upd.refl _ _ | assumption | refine Upd.alloc ?_ _ | refine Upd.drew ?_ | refine Upd.drewN ?_ _ | refine Upd.dl ?_ | refine Upd.step ?_ (Ext.upd _) | refine Upd.nil ?_ | skip))) ?_
    repeat (first | (refine wpOrd_load rfl rfl rfl rfl (fun K hK => ?_); go_big_quiet_step (fail); refine wpQuiet_nil ?_; refine hK _ ?_; clear hK K) | (refine wpOrd_free rfl rfl rfl (fun K hK => ?_); go_big_quiet_step (fail); refine wpQuiet_nil ?_; refine hK _ ?_; clear hK K))
    refine wpOrd_fix rfl rfl (fun K hK => ?_)
    go_wp2_with fail
    have NB : Blk (wzr.alloc (.cells #[.bool b0, .bool b2, .bool b1] 4)).drew wzr.heap.size (bools [b0, b2, b1]) 4 := Blk.new wzr [.bool b0, .bool b2, .bool b1] 4
    have UB := ((Upd.refl [] wzr).alloc (.cells #[.bool b0, .bool b2, .bool b1] 4)).drew
    have HVB := Lib.hid (Value_lit (k := 4) (n := 3) NB rfl rfl rfl)
    have HUB := Lib.hid UB
    clear NB UB
    generalize (wzr.alloc (.cells #[.bool b0, .bool b2, .bool b1] 4)).drew = was at *
    generalize wzr.heap.size = gas at *
    refine ⟨fun _ => Ext.of HUB.out, ?_⟩
    repeat (first | (refine wpOrd_load rfl rfl rfl rfl (fun K hK => ?_); go_big_quiet_step (fail); refine wpQuiet_nil ?_; refine hK _ ?_; clear hK K) | (refine wpOrd_free rfl rfl rfl (fun K hK => ?_); go_big_quiet_step (fail); refine wpQuiet_nil ?_; refine hK _ ?_; clear hK K))
    refine wpOrd_fix rfl rfl (fun K hK => ?_)
    go_wp2_with (go_at_call 5; refine HVB.out.mono ?_; rintro e wzs ⟨rfl, uB⟩)
    have HUC := Lib.hid (HUB.out.step uB)
    clear uB HVB HUB e0 e1 e2
    refine ⟨fun hC => absurd hC (by decide), ?_⟩
    repeat (first | (refine wpOrd_load rfl rfl rfl rfl (fun K hK => ?_); go_big_quiet_step (fail); refine wpQuiet_nil ?_; refine hK _ ?_; clear hK K) | (refine wpOrd_free rfl rfl rfl (fun K hK => ?_); go_big_quiet_step (fail); refine wpQuiet_nil ?_; refine hK _ ?_; clear hK K))
    refine wpOrd_nil ?_
    go_wp2_with fail
    go_meet
    case rel => exact ⟨rfl, rfl, HUC.out⟩
  case rest =>
  obtain ⟨rfl, rfl, uB⟩ := hcut
  obtain ⟨wzs, rfl⟩ : ∃ wo : World, wo = wc := ⟨_, rfl⟩
  have H8 := Lib.hid (H7.out.step uB)
  clear uB H7
  have H7 := H8
  clear H8
  generalize hvs : gVal 4 [b0, b2, b1] = vs at *
  have HVs := Lib.hid hvs
  clear hvs
  go_upto_region 24 with fail
  go_cut [25, 26] (fun x e w' => x = .bool (gVal 5 [b2, b0, b1]) ∧ e = .int .i64 0 ∧ Upd [] wzs w')
  case first => as_aux_lemma =>
    have e0 := H7.out.some HE.out.1 (by simp)
    have e1 := H7.out.some HE.out.2.1 (by simp)
    have e2 := H7.out.some HE.out.2.2.1 (by simp)
    go_wp2_with fail
    refine wp_region_ord 9 1 [0, 1, 2, 3, 4, 5, 6, 7, 8, 11, 12, 13, 14, 15] [2, 5, 8] [0, 1, 2, 3, 4, 5, 6, 7, 8, 9, 10, 11, 12, 13, 14, 15] (fun w' => ∃ x : Ext wzs, w' = x.val) (by kernel_rfl) (by kernel_rfl) (Ext.of (by iterate 25 (first | exact Upd.refl _ _ | assumption | refine Upd.alloc ?_ _ | refine Upd.drew ?_ | refine Upd.drewN ?_ _ | refine Upd.dl ?_ | refine Upd.step ?_ (Ext.upd _) | refine Upd.nil ?_ | skip))) ?_
    repeat (first | (refine wpOrd_load rfl rfl rfl rfl (fun K hK => ?_); go_big_quiet_step (fail); refine wpQuiet_nil ?_; refine hK _ ?_; clear hK K) | (refine wpOrd_free rfl rfl rfl (fun K hK => ?_); go_big_quiet_step (fail); refine wpQuiet_nil ?_; refine hK _ ?_; clear hK K))
    refine wpOrd_fix rfl rfl (fun K hK => ?_)
    go_wp2_with fail
    have NB : Blk (wzs.alloc (.cells #[.bool b2, .bool b0, .bool b1] 4)).drew wzs.heap.size (bools [b2, b0, b1]) 4 := Blk.new wzs [.bool b2, .bool b0, .bool b1] 4
    have UB := ((Upd.refl [] wzs).alloc (.cells #[.bool b2, .bool b0, .bool b1] 4)).drew
    have HVB := Lib.hid (Value_lit (k := 5) (n := 3) NB rfl rfl rfl)
    have HUB := Lib.hid UB
    clear NB UB
    generalize (wzs.alloc (.cells #[.bool b2, .bool b0, .bool b1] 4)).drew = wau at *
    generalize wzs.heap.size = gau at *
    refine ⟨fun _ => Ext.of HUB.out, ?_⟩
    repeat (first | (refine wpOrd_load rfl rfl rfl rfl (fun K hK => ?_); go_big_quiet_step (fail); refine wpQuiet_nil ?_; refine hK _ ?_; clear hK K) | (refine wpOrd_free rfl rfl rfl (fun K hK => ?_); go_big_quiet_step (fail); refine wpQuiet_nil ?_; refine hK _ ?_; clear hK K))
    refine wpOrd_fix rfl rfl (fun K hK => ?_)
    go_wp2_with (go_at_call 5; refine HVB.out.mono ?_; rintro e wzu ⟨rfl, uB⟩)
    have HUC := Lib.hid (HUB.out.step uB)
    clear uB HVB HUB e0 e1 e2
    refine ⟨fun hC => absurd hC (by decide), ?_⟩
    repeat (first | (refine wpOrd_load rfl rfl rfl rfl (fun K hK => ?_); go_big_quiet_step (fail); refine wpQuiet_nil ?_; refine hK _ ?_; clear hK K) | (refine wpOrd_free rfl rfl rfl (fun K hK => ?_); go_big_quiet_step (fail); refine wpQuiet_nil ?_; refine hK _ ?_; clear hK K))
    refine wpOrd_nil ?_
    go_wp2_with fail
    go_meet
    case rel => exact ⟨rfl, rfl, HUC.out⟩
  case rest =>
  obtain ⟨rfl, rfl, uB⟩ := hcut
  obtain ⟨wzu, rfl⟩ : ∃ wo : World, wo = wc := ⟨_, rfl⟩
  have H8 := Lib.hid (H7.out.step uB)
  clear uB H7
  have H7 := H8
  clear H8
  generalize hvu : gVal 5 [b2, b0, b1] = vu at *
  have HVu := Lib.hid hvu
  clear hvu
  go_upto_region 25 with fail
  go_cut [27, 28] (fun x e w' => x = .bool (gVal 6 [b1, b2, b0]) ∧ e = .int .i64 0 ∧ Upd [] wzu w')
  case first => as_aux_lemma =>
    have e0 := H7.out.some HE.out.1 (by simp)
    have e1 := H7.out.some HE.out.2.1 (by simp)
    have e2 := H7.out.some HE.out.2.2.1 (by simp)
    go_wp2_with fail
    refine wp_region_ord 9 1 [0, 1, 2, 3, 4, 5, 6, 7, 8, 11, 12, 13, 14, 15] [2, 5, 8] [0, 1, 2, 3, 4, 5, 6, 7, 8, 9, 10, 11, 12, 13, 14, 15] (fun w' => ∃ x : Ext wzu, w' = x.val) (by kernel_rfl) (by kernel_rfl) (Ext.of (by iterate 25 (first | exact Upd.refl _ _ | assumption | refine Upd.alloc ?_ _ | refine Upd.drew ?_ | refine Upd.drewN ?_ _ | refine Upd.dl ?_ | refine Upd.step ?_ (Ext.upd _) | refine Upd.nil ?_ | skip))) ?_
    repeat (first | (refine wpOrd_load rfl rfl rfl rfl (fun K hK => ?_); go_big_quiet_step (fail); refine wpQuiet_nil ?_; refine hK _ ?_; clear hK K) | (refine wpOrd_free rfl rfl rfl (fun K hK => ?_); go_big_quiet_step (fail); refine wpQuiet_nil ?_; refine hK _ ?_; clear hK K))
    refine wpOrd_fix rfl rfl (fun K hK => ?_)
    go_wp2_with fail
    have NB : Blk (wzu.alloc (.cells #[.bool b1, .bool b2, .bool b0] 4)).drew wzu.heap.size (bools [b1, b2, b0]) 4 := Blk.new wzu [.bool b1, .bool b2, .bool b0] 4
    have UB := ((Upd.refl [] wzu).alloc (.cells #[.bool b1, .bool b2, .bool b0] 4)).drew
    have HVB := Lib.hid (Value_lit (k := 6) (n := 3) NB rfl rfl rfl)
    have HUB := Lib.hid UB
    clear NB UB
    generalize (wzu.alloc (.cells #[.bool b1, .bool b2, .bool b0] 4)).drew = way at *
    generalize wzu.heap.size = gay at *
    refine ⟨fun _ => Ext.of HUB.out, ?_⟩
    repeat (first | (refine wpOrd_load rfl rfl rfl rfl (fun K hK => ?_); go_big_quiet_step (fail); refine wpQuiet_nil ?_; refine hK _ ?_; clear hK K) | (refine wpOrd_free rfl rfl rfl (fun K hK => ?_); go_big_quiet_step (fail); refine wpQuiet_nil ?_; refine hK _ ?_; clear hK K))
    refine wpOrd_fix rfl rfl (fun K hK => ?_)
    go_wp2_with (go_at_call 5; refine HVB.out.mono ?_; rintro e wzy ⟨rfl, uB⟩)
    have HUC := Lib.hid (HUB.out.step uB)
    clear uB HVB HUB e0 e1 e2
    refine ⟨fun hC => absurd hC (by decide), ?_⟩
    repeat (first | (refine wpOrd_load rfl rfl rfl rfl (fun K hK => ?_); go_big_quiet_step (fail); refine wpQuiet_nil ?_; refine hK _ ?_; clear hK K) | (refine wpOrd_free rfl rfl rfl (fun K hK => ?_); go_big_quiet_step (fail); refine wpQuiet_nil ?_; refine hK _ ?_; clear hK K))
    refine wpOrd_nil ?_
    go_wp2_with fail
    go_meet
    case rel => exact ⟨rfl, rfl, HUC.out⟩
  case rest =>
  obtain ⟨rfl, rfl, uB⟩ := hcut
  obtain ⟨wzy, rfl⟩ : ∃ wo : World, wo = wc := ⟨_, rfl⟩
  have H8 := Lib.hid (H7.out.step uB)
  clear uB H7
  have H7 := H8
  clear H8
  generalize hvy : gVal 6 [b1, b2, b0] = vy at *
  have HVy := Lib.hid hvy
  clear hvy
  rename_i yy1 yy2 yy3 yy4 yy5 yy6 yy7 yy8 yy9 yy10 yy11 yy12 yy13 yy14 yy15 yy16 yy17 yy18 yy19 yy20 yy21 yy22 yy23 yy24 yy25 yy26 yy27 yy28 yy29 yy30 yy31 yy32 yy33 yy34 yy35 yy36 yy37 yy38 yy39 yy40 yy41 yy42 yy43 yy44 yy45 yy46 yy47 yy48 yy49 yy50 yy51 yy52 yy53 yy54 yy55 yy56 yy57 yy58 yy59 yy60 yy61 yy62 yy63 yy64 yy65 yy66 yy67 yy68 yy69 yy70 yy71 yy72 yy73 yy74 yy75 yy76 yy77 yy78 yy79 yy80 yy81 yy82 yy83 yy84 yy85 yy86 yy87 yy88 yy89 yy90 yy91 yy92 yy93 yy94 yy95 yy96 yy97 yy98 yy99 yy100 yy101 yy102 yy103 yy104 yy105 yy106 yy107 yy108 yy109 yy110 yy111 yy112 yy113 yy114 yy115 yy116 yy117 yy118 yy119 yy120 yy121 yy122 yy123 yy124 yy125 yy126 yy127 yy128 yy129 yy130 yy131 yy132 yy133 yy134 yy135 yy136 yy137 yy138 yy139 yy140 yy141 yy142 yy143 yy144 yy145 yy146 yy147 yy148 yy149 yy150 yy151 yy152 yy153 yy154 yy155 yy156 yy157 yy158 yy159 yy160 yy161 yy162 yy163 yy164 yy165 yy166 yy167 yy168 yy169 yy170 yy171 yy172 yy173 yy174 yy175 yy176 yy177 yy178 yy179 yy180 yy181 yy182 yy183 yy184 yy185 yy186 yy187 yy188 yy189 yy190 yy191 yy192 yy193 yy194 yy195 yy196 yy197 yy198 yy199 yy200 yy201 yy202 yy203 yy204 yy205 yy206 yy207 yy208 yy209 yy210 yy211 yy212 yy213 yy214 yy215 yy216 yy217 yy218 yy219 yy220 yy221 yy222 yy223 yy224 yy225 yy226 yy227 yy228 yy229 yy230 yy231 yy232 yy233 yy234 yy235 yy236 yy237 yy238 yy239 yy240 yy241 yy242 yy243 yy244 yy245 yy246 yy247 yy248 yy249 yy250 yy251 yy252 yy253 yy254 yy255 yy256 yy257 yy258 yy259 yy260 yy261 yy262 yy263 yy264 yy265 yy266 yy267 yy268 yy269 yy270 yy271 yy272 yy273 yy274 yy275 yy276 yy277 yy278 yy279 yy280 yy281 yy282 yy283 yy284 yy285 yy286 yy287 yy288 yy289 yy290 yy291 yy292 yy293 yy294 yy295 yy296 yy297 yy298 yy299 yy300 yy301 yy302 yy303 yy304 yy305 yy306 yy307 yy308 yy309 yy310 yy311 yy312 yy313 yy314 yy315 yy316 yy317 yy318 yy319 yy320 yy321 yy322 yy323 yy324 yy325 yy326 yy327 yy328 yy329 yy330 yy331 yy332 yy333 yy334 yy335 yy336 yy337 yy338 yy339 yy340 yy341 yy342 yy343 yy344 yy345 yy346 yy347 yy348 yy349 yy350 yy351 yy352 yy353 yy354 yy355 yy356 yy357 yy358 yy359 yy360 yy361 yy362 yy363 yy364 yy365 yy366 yy367 yy368 yy369 yy370 yy371 yy372 yy373 yy374 yy375 yy376 yy377 yy378 yy379 yy380 yy381 yy382 yy383 yy384 yy385 yy386 yy387 yy388 yy389 yy390 yy391 yy392 yy393 yy394 yy395 yy396 yy397 yy398 yy399 yy400 yy401 yy402 yy403 yy404 yy405 yy406 yy407 yy408 yy409 yy410 yy411 yy412 yy413 yy414 yy415 yy416 yy417 yy418 yy419 yy420 yy421 yy422 yy423 yy424 yy425 yy426 yy427 yy428 yy429 yy430 yy431 yy432 yy433 yy434 yy435 yy436 yy437 yy438 yy439 yy440 yy441 yy442 yy443 yy444 yy445 yy446 yy447 yy448 yy449 yy450 yy451 yy452 yy453 yy454 yy455 yy456 yy457 yy458 yy459 yy460 yy461 yy462 yy463 yy464 yy465 yy466 yy467 yy468 yy469 yy470 yy471 yy472 yy473 yy474 yy475 yy476 yy477 yy478 yy479 yy480 yy481 yy482 yy483 yy484 yy485 yy486 yy487 yy488 yy489 yy490 yy491 yy492 yy493 yy494 yy495 yy496 yy497 yy498 yy499 yy500 yy501 yy502 yy503 yy504 yy505 yy506 yy507 yy508 yy509 yy510 yy511 yy512 yy513 yy514 yy515 yy516 yy517 yy518 yy519 yy520 yy521 yy522 yy523 yy524 yy525 yy526 yy527 yy528 yy529 yy530 yy531 yy532 yy533 yy534 yy535 yy536 yy537 yy538 yy539 yy540 yy541 yy542 yy543 yy544 yy545 yy546 yy547 yy548 yy549 yy550 yy551 yy552 yy553 yy554 yy555 yy556 yy557 yy558 yy559 yy560 yy561 yy562 yy563 yy564 yy565 yy566 yy567 yy568 yy569 yy570 yy571 yy572 yy573 yy574 yy575 yy576 yy577 yy578 yy579 yy580 yy581 yy582 yy583 yy584 yy585 yy586 yy587 yy588 yy589 yy590 yy591 yy592 yy593 yy594 yy595 yy596 yy597 yy598 yy599 yy600 yy601 yy602 yy603 yy604 yy605 yy606 yy607 yy608 yy609 yy610 yy611 yy612 yy613 yy614 yy615 yy616 yy617 yy618 yy619 yy620 yy621 yy622 yy623 yy624 yy625 yy626 yy627 yy628 yy629 yy630 yy631 yy632 yy633 yy634 yy635 yy636 yy637 yy638 yy639 yy640 yy641 yy642 yy643 yy644 yy645 yy646 yy647 yy648 yy649 yy650 yy651 yy652 yy653 yy654 yy655 yy656 yy657 yy658 yy659 yy660 yy661 yy662 yy663 yy664 yy665 yy666 yy667 yy668 yy669 yy670 yy671 yy672 yy673 yy674 yy675 yy676 yy677 yy678 yy679 yy680 yy681 yy682 yy683 yy684 yy685 yy686 yy687 yy688 yy689 yy690 yy691 yy692 yy693 yy694 yy695 yy696 yy697 yy698 yy699 yy700 yy701 yy702 yy703 yy704 yy705 yy706 yy707 yy708 yy709 yy710 yy711 yy712 yy713 yy714 yy715 yy716 yy717 yy718 yy719 yy720 yy721 yy722 yy723 yy724 yy725 yy726 yy727 yy728 yy729 yy730 yy731 yy732 yy733 yy734 yy735 yy736 yy737 yy738 yy739 yy740 yy741 yy742 yy743 yy744 yy745 yy746 yy747 yy748 yy749 yy750 yy751 yy752 yy753 yy754 yy755 yy756 yy757 yy758 yy759 yy760 yy761 yy762 yy763 yy764 yy765 yy766 yy767 yy768 yy769 yy770 yy771 yy772 yy773 yy774 yy775 yy776 yy777 yy778 yy779 yy780 yy781 yy782 yy783 yy784 yy785 yy786 yy787 yy788 yy789 yy790 yy791 yy792 yy793 yy794 yy795 yy796 yy797 yy798 yy799 yy800 yy801 yy802 yy803 yy804 yy805 yy806 yy807 yy808 yy809 yy810 yy811 yy812 yy813 yy814 yy815 yy816 yy817 yy818 yy819 yy820 yy821 yy822 yy823 yy824 yy825 yy826 yy827 yy828 yy829 yy830 yy831 yy832 yy833 yy834 yy835 yy836 yy837 yy838 yy839 yy840 yy841 yy842 yy843 yy844 yy845 yy846 yy847 yy848 yy849 yy850 yy851 yy852 yy853 yy854 yy855 yy856 yy857 yy858 yy859 yy860 yy861 yy862 yy863 yy864 yy865 yy866 yy867 yy868 yy869 yy870 yy871 yy872 yy873 yy874 yy875 yy876 yy877 yy878 yy879 yy880 yy881 yy882 yy883 yy884 yy885 yy886 yy887 yy888 yy889 yy890 yy891 yy892 yy893 yy894 yy895 yy896 yy897 yy898 yy899 yy900 yy901 yy902 yy903 yy904 yy905 yy906 yy907 yy908 yy909 yy910 yy911 yy912 yy913 yy914 yy915 yy916 yy917 yy918 yy919 yy920 yy921 yy922 yy923 yy924 yy925 yy926 yy927 yy928 yy929 yy930 yy931 yy932 yy933 yy934 yy935 yy936 yy937 yy938 yy939 yy940 yy941 yy942 yy943 yy944 yy945 yy946 yy947 yy948 yy949 yy950 yy951 yy952 yy953 yy954 yy955 yy956 yy957 yy958 yy959 yy960 yy961 yy962 yy963 yy964 yy965 yy966 yy967 yy968 yy969 yy970 yy971 yy972 yy973 yy974 yy975 yy976 yy977 yy978 yy979 yy980 yy981 yy982 yy983 yy984 yy985 yy986 yy987 yy988 yy989 yy990 yy991 yy992 yy993 yy994 yy995 yy996 yy997 yy998 yy999 yy1000 yy1001 yy1002 yy1003 yy1004 yy1005 yy1006 yy1007 yy1008 yy1009 yy1010 yy1011 yy1012 yy1013 yy1014 yy1015 yy1016 yy1017 yy1018 yy1019 yy1020 yy1021 yy1022 yy1023 yy1024 yy1025 yy1026 yy1027 yy1028 yy1029 yy1030 yy1031 yy1032 yy1033 yy1034 yy1035 yy1036 yy1037 yy1038 yy1039 yy1040 yy1041 yy1042 yy1043 yy1044 yy1045 yy1046 yy1047 yy1048 yy1049 yy1050 yy1051 yy1052 yy1053 yy1054 yy1055 yy1056 yy1057 yy1058 yy1059 yy1060 yy1061 yy1062 yy1063 yy1064 yy1065 yy1066 yy1067 yy1068 yy1069 yy1070 yy1071 yy1072 yy1073 yy1074 yy1075 yy1076 yy1077 yy1078 yy1079 yy1080 yy1081 yy1082 yy1083 yy1084 yy1085 yy1086 yy1087 yy1088 yy1089 yy1090 yy1091 yy1092 yy1093 yy1094 yy1095 yy1096 yy1097 yy1098 yy1099 yy1100 yy1101 yy1102 yy1103 yy1104 yy1105 yy1106 yy1107 yy1108 yy1109 yy1110 yy1111 yy1112 yy1113 yy1114 yy1115 yy1116 yy1117 yy1118 yy1119 yy1120 yy1121 yy1122 yy1123 yy1124 yy1125 yy1126 yy1127 yy1128 yy1129 yy1130 yy1131 yy1132 yy1133 yy1134 yy1135 yy1136 yy1137 yy1138 yy1139 yy1140 yy1141 yy1142 yy1143 yy1144 yy1145 yy1146 yy1147 yy1148 yy1149 yy1150 yy1151 yy1152 yy1153 yy1154 yy1155 yy1156 yy1157 yy1158 yy1159 yy1160 yy1161 yy1162 yy1163 yy1164 yy1165 yy1166 yy1167 yy1168 yy1169 yy1170 yy1171 yy1172 yy1173 yy1174 yy1175 yy1176 yy1177 yy1178 yy1179 yy1180 yy1181 yy1182 yy1183 yy1184 yy1185 yy1186 yy1187 yy1188 yy1189 yy1190 yy1191 yy1192 yy1193 yy1194 yy1195 yy1196 yy1197 yy1198 yy1199 yy1200 yy1201 yy1202 yy1203 yy1204 yy1205 yy1206 yy1207 yy1208 yy1209 yy1210 yy1211 yy1212 yy1213 yy1214 yy1215 yy1216 yy1217 yy1218 yy1219 yy1220 yy1221 yy1222 yy1223 yy1224 yy1225 yy1226 yy1227 yy1228 yy1229 yy1230 yy1231 yy1232 yy1233 yy1234 yy1235 yy1236 yy1237 yy1238 yy1239 yy1240 yy1241 yy1242 yy1243 yy1244 yy1245 yy1246 yy1247 yy1248 yy1249 yy1250 yy1251 yy1252 yy1253 yy1254 yy1255 yy1256 yy1257 yy1258 yy1259 yy1260 yy1261 yy1262 yy1263 yy1264 yy1265 yy1266 yy1267 yy1268 yy1269 yy1270 yy1271 yy1272 yy1273 yy1274 yy1275 yy1276 yy1277 yy1278 yy1279 yy1280 yy1281 yy1282 yy1283 yy1284 yy1285 yy1286 yy1287 yy1288 yy1289 yy1290 yy1291 yy1292 yy1293 yy1294 yy1295 yy1296 yy1297 yy1298 yy1299 yy1300 yy1301 yy1302 yy1303 yy1304 yy1305 yy1306 yy1307 yy1308 yy1309 yy1310 yy1311 yy1312 yy1313 yy1314 yy1315 yy1316 yy1317 yy1318 yy1319 yy1320 yy1321 yy1322 yy1323 yy1324 yy1325 yy1326 yy1327 yy1328 yy1329 yy1330 yy1331 yy1332 yy1333 yy1334 yy1335 yy1336 yy1337 yy1338 yy1339 yy1340 yy1341 yy1342 yy1343 yy1344 yy1345 yy1346 yy1347 yy1348 yy1349 yy1350 yy1351 yy1352 yy1353 yy1354 yy1355 yy1356 yy1357 yy1358 yy1359 yy1360 yy1361 yy1362 yy1363 yy1364 yy1365 yy1366 yy1367 yy1368 yy1369 yy1370 yy1371 yy1372 yy1373 yy1374 yy1375 yy1376 yy1377 yy1378 yy1379 yy1380 yy1381 yy1382 yy1383 yy1384 yy1385 yy1386 yy1387 yy1388 yy1389 yy1390 yy1391 yy1392 yy1393 yy1394 yy1395 yy1396 yy1397 yy1398 yy1399 yy1400 yy1401 yy1402 yy1403 yy1404 yy1405 yy1406 yy1407 yy1408 yy1409 yy1410 yy1411 yy1412 yy1413 yy1414 yy1415 yy1416 yy1417 yy1418 yy1419 yy1420 yy1421 yy1422 yy1423 yy1424 yy1425 yy1426 yy1427 yy1428 yy1429 yy1430 yy1431 yy1432 yy1433 yy1434 yy1435 yy1436 yy1437 yy1438 yy1439 yy1440 yy1441 yy1442 yy1443 yy1444 yy1445 yy1446 yy1447 yy1448 yy1449 yy1450 yy1451 yy1452 yy1453 yy1454 yy1455 yy1456 yy1457 yy1458 yy1459 yy1460 yy1461 yy1462 yy1463 yy1464 yy1465 yy1466 yy1467 yy1468 yy1469 yy1470 yy1471 yy1472 yy1473 yy1474 yy1475 yy1476 yy1477 yy1478 yy1479 yy1480 yy1481 yy1482 yy1483 yy1484 yy1485 yy1486 yy1487 yy1488 yy1489 yy1490 yy1491 yy1492 yy1493 yy1494 yy1495 yy1496 yy1497 yy1498 yy1499 yy1500 yy1501 yy1502 yy1503 yy1504 yy1505 yy1506 yy1507 yy1508 yy1509 yy1510 yy1511 yy1512 yy1513 yy1514 yy1515 yy1516 yy1517 yy1518 yy1519 yy1520 yy1521 yy1522 yy1523 yy1524 yy1525 yy1526 yy1527 yy1528 yy1529 yy1530 yy1531 yy1532 yy1533 yy1534 yy1535 yy1536 yy1537 yy1538 yy1539 yy1540 yy1541 yy1542 yy1543 yy1544 yy1545 yy1546 yy1547 yy1548 yy1549 yy1550 yy1551 yy1552 yy1553 yy1554 yy1555 yy1556 yy1557 yy1558 yy1559 yy1560 yy1561 yy1562 yy1563 yy1564 yy1565 yy1566 yy1567 yy1568 yy1569 yy1570 yy1571 yy1572 yy1573 yy1574 yy1575 yy1576 yy1577 yy1578 yy1579 yy1580 yy1581 yy1582 yy1583 yy1584 yy1585 yy1586 yy1587 yy1588 yy1589 yy1590 yy1591 yy1592 yy1593 yy1594 yy1595 yy1596 yy1597 yy1598 yy1599 yy1600 yy1601 yy1602 yy1603 yy1604 yy1605 yy1606 yy1607 yy1608 yy1609 yy1610 yy1611 yy1612 yy1613 yy1614 yy1615 yy1616 yy1617 yy1618 yy1619 yy1620 yy1621 yy1622 yy1623 yy1624 yy1625 yy1626 yy1627 yy1628 yy1629 yy1630 yy1631 yy1632 yy1633 yy1634 yy1635 yy1636 yy1637 yy1638 yy1639 yy1640 yy1641 yy1642 yy1643 yy1644 yy1645 yy1646 yy1647 yy1648 yy1649 yy1650 yy1651 yy1652 yy1653 yy1654 yy1655 yy1656 yy1657 yy1658 yy1659 yy1660 yy1661 yy1662 yy1663 yy1664 yy1665 yy1666 yy1667 yy1668 yy1669 yy1670 yy1671 yy1672 yy1673 yy1674 yy1675 yy1676 yy1677 yy1678 yy1679 yy1680 yy1681 yy1682 yy1683 yy1684 yy1685 yy1686 yy1687 yy1688 yy1689 yy1690 yy1691 yy1692 yy1693 yy1694 yy1695 yy1696 yy1697 yy1698 yy1699 yy1700 yy1701 yy1702 yy1703 yy1704 yy1705 yy1706 yy1707 yy1708 yy1709 yy1710 yy1711 yy1712 yy1713 yy1714 yy1715 yy1716 yy1717 yy1718 yy1719 yy1720 yy1721 yy1722 yy1723 yy1724 yy1725 yy1726 yy1727 yy1728 yy1729 yy1730 yy1731 yy1732 yy1733 yy1734 yy1735 yy1736 yy1737 yy1738 yy1739 yy1740 yy1741 yy1742 yy1743 yy1744 yy1745 yy1746 yy1747 yy1748 yy1749 yy1750 yy1751 yy1752 yy1753 yy1754 yy1755 yy1756 yy1757 yy1758 yy1759 yy1760 yy1761 yy1762 yy1763 yy1764 yy1765 yy1766 yy1767 yy1768 yy1769 yy1770 yy1771 yy1772 yy1773 yy1774 yy1775 yy1776 yy1777 yy1778 yy1779 yy1780 yy1781 yy1782 yy1783 yy1784 yy1785 yy1786 yy1787 yy1788 yy1789 yy1790 yy1791 yy1792 yy1793 yy1794 yy1795 yy1796 yy1797 yy1798 yy1799 yy1800 yy1801 yy1802 yy1803 yy1804 yy1805 yy1806 yy1807 yy1808 yy1809 yy1810 yy1811 yy1812 yy1813 yy1814 yy1815 yy1816 yy1817 yy1818 yy1819 yy1820 yy1821 yy1822 yy1823 yy1824 yy1825 yy1826 yy1827 yy1828 yy1829 yy1830 yy1831 yy1832 yy1833 yy1834 yy1835 yy1836 yy1837 yy1838 yy1839 yy1840 yy1841 yy1842 yy1843 yy1844 yy1845 yy1846 yy1847 yy1848 yy1849 yy1850
  revert x1 x2 x3 x4 u6 u7 x5 x6 x7 x8 x9 x10 x11 x12 x13 x14 x15 x16 x17 x18 x19 x20 x21 x22 x23 x24 x25 x26 x27 x28 x29 x30 x31 u35 u36 u37 u38 u43 u44 u45 u46 u47 u48 x32 x33 x34 x35 x36 x37 x38 x39 x40 x41 x42 x43 x44 x45 x46 x47 x48 x49 x50 x51 x52 x53 x54 x55 x56 x57 x58 x59 x60 x61 x62 x63 x64 x65 x66 x67 x68 x69 x70 x71 x72 x73 x74 x75 x76 x77 x78 x79 x80 x81 x82 x83 x84 x85 x86 x87 x88 x89 x90 x91 x92 x93 x94 x95 x96 x97 x98 x99 x100 x101 x102 x103 x104 x105 x106 x107 x108 x109 x110 x111 x112 x113 x114 x115 x116 x117 x118 x119 x120 x121 x122 x123 x124 x125 x126 x127 x128 x129 x130 x131 x132 x133 x134 x135 x136 x137 x138 x139 x140 x141 x142 x143 x144 x145 x146 x147 x148 x149 x150 x151 x152 x153 x154 x155 x156 x157 x158 x159 x160 x161 x162 x163 x164 x165 x166 x167 x168 x169 x170 x171 x172 x173 x174 x175 x176 x177 x178 x179 x180 x181 x182 x183 x184 x185 x186 x187 x188 x189 x190 x191 x192 x193 x194 x195 x196 x197 x198 x199 x200 x201 x202 x203 x204 x205 x206 x207 x208 x209 x210 x211 x212 x213 x214 x215 x216 x217 x218 x219 x220 x221 x222 x223 x224 x225 x226 x227 x228 x229 x230 x231 x232 x233 x234 x235 x236 x237 x238 x239 x240 x241 x242 x243 x244 x245 x246 x247 x248 x249 x250 x251 x252 x253 x254 x255 x256 x257 x258 x259 x260 x261 x262 u280 u281 u282 u283 u284 u285 u286 u287 u288 u289 u290 u291 u292 u293 u294 u295 u296 u297 u298 u299 u300 u301 wk k hk7 hlk HU hlk' x263 x264 x265 w2 HU2 x266 x267 nn hn3 hn1 HNN u4 u8 u9 u10 u11 u12 u13 u14 u15 u16 u17 u18 u19 u20 u21 u22 u23 u24 u25 u26 u27 u28 u29 u30 u31 u32 u33 u34 yy1 yy2 yy3 yy4 x268 x269 x270 x271 x272 x273 x274 x275 x276 x277 x278 x279 x280 x281 x282 x283 x284 x285 x286 x287 x288 yy5 yy6 yy7 yy8 yy9 yy10 yy11 yy12 yy13 yy14 yy15 yy16 yy17 yy18 yy19 yy20 yy21 yy22 yy23 yy24 yy25 yy26 yy27 yy28 yy29 yy30 yy31 yy32 yy33 yy34 yy35 yy36 yy37 yy38 yy39 yy40 yy41 yy42 yy43 yy44 yy45 yy46 yy47 yy48 yy49 yy50 yy51 yy52 yy53 yy54 yy55 yy56 yy57 yy58 yy59 yy60 yy61 yy62 yy63 yy64 yy65 yy66 yy67 yy68 yy69 yy70 yy71 yy72 yy73 yy74 yy75 yy76 yy77 yy78 yy79 yy80 yy81 yy82 yy83 yy84 yy85 yy86 yy87 yy88 yy89 yy90 yy91 yy92 yy93 yy94 yy95 yy96 yy97 yy98 yy99 yy100 yy101 yy102 yy103 yy104 yy105 yy106 yy107 yy108 yy109 yy110 yy111 yy112 yy113 yy114 yy115 yy116 yy117 yy118 yy119 yy120 yy121 yy122 yy123 yy124 yy125 yy126 yy127 yy128 yy129 yy130 yy131 yy132 yy133 yy134 yy135 yy136 yy137 yy138 yy139 yy140 yy141 yy142 yy143 yy144 yy145 yy146 yy147 yy148 yy149 yy150 yy151 yy152 yy153 yy154 yy155 yy156 yy157 yy158 yy159 yy160 yy161 yy162 yy163 yy164 yy165 yy166 yy167 yy168 yy169 yy170 yy171 yy172 yy173 yy174 yy175 yy176 yy177 yy178 yy179 yy180 yy181 yy182 yy183 yy184 yy185 yy186 yy187 yy188 yy189 yy190 yy191 yy192 yy193 yy194 yy195 yy196 yy197 yy198 yy199 yy200 yy201 yy202 yy203 yy204 yy205 yy206 yy207 yy208 yy209 yy210 wo m hm8 hlm HM hlm' x289 x290 x291 x292 wr yy211 yy212 yy213 yy214 yy215 yy216 yy217 yy218 yy219 yy220 yy221 yy222 yy223 yy224 yy225 yy226 yy227 yy228 yy229 yy230 yy231 hv hlv b0 b1 b2 co hco1 hco2 cp hcp1 hcp2 go oo x293 gp op x294 HE HB x295 x296 x297 w6 vx HVX w7 hbx hbx2 yy232 yy233 yy234 yy235 yy236 yy237 yy238 yy239 yy240 yy241 yy242 yy243 yy244 yy245 yy246 yy247 yy248 yy249 yy250 yy251 yy252 yy253 yy254 yy255 yy256 yy257 yy258 yy259 yy260 yy261 yy262 yy263 yy264 yy265 yy266 yy267 yy268 yy269 yy270 yy271 yy272 yy273 yy274 yy275 yy276 yy277 yy278 yy279 yy280 yy281 yy282 yy283 yy284 yy285 yy286 yy287 yy288 yy289 yy290 yy291 yy292 yy293 yy294 yy295 yy296 yy297 yy298 yy299 yy300 yy301 yy302 yy303 yy304 yy305 yy306 yy307 yy308 yy309 yy310 yy311 yy312 yy313 yy314 yy315 yy316 yy317 yy318 yy319 yy320 yy321 yy322 yy323 yy324 yy325 yy326 yy327 yy328 yy329 yy330 yy331 yy332 yy333 yy334 yy335 yy336 yy337 yy338 yy339 yy340 yy341 yy342 yy343 yy344 yy345 yy346 yy347 yy348 yy349 yy350 yy351 yy352 yy353 yy354 yy355 yy356 yy357 yy358 yy359 yy360 yy361 yy362 yy363 yy364 yy365 yy366 yy367 yy368 yy369 yy370 yy371 yy372 yy373 yy374 yy375 yy376 yy377 yy378 yy379 yy380 yy381 yy382 yy383 yy384 yy385 yy386 yy387 yy388 yy389 yy390 yy391 yy392 yy393 yy394 yy395 yy396 yy397 yy398 yy399 yy400 yy401 yy402 yy403 yy404 yy405 yy406 yy407 yy408 yy409 yy410 yy411 yy412 yy413 yy414 yy415 yy416 yy417 yy418 yy419 yy420 yy421 yy422 yy423 yy424 yy425 yy426 yy427 yy428 yy429 yy430 yy431 yy432 yy433 yy434 yy435 yy436 yy437 yy438 yy439 yy440 yy441 yy442 yy443 yy444 yy445 yy446 yy447 yy448 yy449 yy450 yy451 yy452 yy453 yy454 yy455 yy456 yy457 yy458 yy459 yy460 yy461 yy462 wza va HVa yy463 yy464 yy465 yy466 yy467 yy468 yy469 yy470 yy471 yy472 yy473 yy474 yy475 yy476 yy477 yy478 yy479 yy480 yy481 yy482 yy483 yy484 yy485 yy486 yy487 yy488 yy489 yy490 yy491 yy492 yy493 yy494 yy495 yy496 yy497 yy498 yy499 yy500 yy501 yy502 yy503 yy504 yy505 yy506 yy507 yy508 yy509 yy510 yy511 yy512 yy513 yy514 yy515 yy516 yy517 yy518 yy519 yy520 yy521 yy522 yy523 yy524 yy525 yy526 yy527 yy528 yy529 yy530 yy531 yy532 yy533 yy534 yy535 yy536 yy537 yy538 yy539 yy540 yy541 yy542 yy543 yy544 yy545 yy546 yy547 yy548 yy549 yy550 yy551 yy552 yy553 yy554 yy555 yy556 yy557 yy558 yy559 yy560 yy561 yy562 yy563 yy564 yy565 yy566 yy567 yy568 yy569 yy570 yy571 yy572 yy573 yy574 yy575 yy576 yy577 yy578 yy579 yy580 yy581 yy582 yy583 yy584 yy585 yy586 yy587 yy588 yy589 yy590 yy591 yy592 yy593 yy594 yy595 yy596 yy597 yy598 yy599 yy600 yy601 yy602 yy603 yy604 yy605 yy606 yy607 yy608 yy609 yy610 yy611 yy612 yy613 yy614 yy615 yy616 yy617 yy618 yy619 yy620 yy621 yy622 yy623 yy624 yy625 yy626 yy627 yy628 yy629 yy630 yy631 yy632 yy633 yy634 yy635 yy636 yy637 yy638 yy639 yy640 yy641 yy642 yy643 yy644 yy645 yy646 yy647 yy648 yy649 yy650 yy651 yy652 yy653 yy654 yy655 yy656 yy657 yy658 yy659 yy660 yy661 yy662 yy663 yy664 yy665 yy666 yy667 yy668 yy669 yy670 yy671 yy672 yy673 yy674 yy675 yy676 yy677 yy678 yy679 yy680 yy681 yy682 yy683 yy684 yy685 yy686 yy687 yy688 yy689 yy690 yy691 yy692 yy693 wzo vo HVo yy694 yy695 yy696 yy697 yy698 yy699 yy700 yy701 yy702 yy703 yy704 yy705 yy706 yy707 yy708 yy709 yy710 yy711 yy712 yy713 yy714 yy715 yy716 yy717 yy718 yy719 yy720 yy721 yy722 yy723 yy724 yy725 yy726 yy727 yy728 yy729 yy730 yy731 yy732 yy733 yy734 yy735 yy736 yy737 yy738 yy739 yy740 yy741 yy742 yy743 yy744 yy745 yy746 yy747 yy748 yy749 yy750 yy751 yy752 yy753 yy754 yy755 yy756 yy757 yy758 yy759 yy760 yy761 yy762 yy763 yy764 yy765 yy766 yy767 yy768 yy769 yy770 yy771 yy772 yy773 yy774 yy775 yy776 yy777 yy778 yy779 yy780 yy781 yy782 yy783 yy784 yy785 yy786 yy787 yy788 yy789 yy790 yy791 yy792 yy793 yy794 yy795 yy796 yy797 yy798 yy799 yy800 yy801 yy802 yy803 yy804 yy805 yy806 yy807 yy808 yy809 yy810 yy811 yy812 yy813 yy814 yy815 yy816 yy817 yy818 yy819 yy820 yy821 yy822 yy823 yy824 yy825 yy826 yy827 yy828 yy829 yy830 yy831 yy832 yy833 yy834 yy835 yy836 yy837 yy838 yy839 yy840 yy841 yy842 yy843 yy844 yy845 yy846 yy847 yy848 yy849 yy850 yy851 yy852 yy853 yy854 yy855 yy856 yy857 yy858 yy859 yy860 yy861 yy862 yy863 yy864 yy865 yy866 yy867 yy868 yy869 yy870 yy871 yy872 yy873 yy874 yy875 yy876 yy877 yy878 yy879 yy880 yy881 yy882 yy883 yy884 yy885 yy886 yy887 yy888 yy889 yy890 yy891 yy892 yy893 yy894 yy895 yy896 yy897 yy898 yy899 yy900 yy901 yy902 yy903 yy904 yy905 yy906 yy907 yy908 yy909 yy910 yy911 yy912 yy913 yy914 yy915 yy916 yy917 yy918 yy919 yy920 yy921 yy922 yy923 yy924 wzp vp HVp yy925 yy926 yy927 yy928 yy929 yy930 yy931 yy932 yy933 yy934 yy935 yy936 yy937 yy938 yy939 yy940 yy941 yy942 yy943 yy944 yy945 yy946 yy947 yy948 yy949 yy950 yy951 yy952 yy953 yy954 yy955 yy956 yy957 yy958 yy959 yy960 yy961 yy962 yy963 yy964 yy965 yy966 yy967 yy968 yy969 yy970 yy971 yy972 yy973 yy974 yy975 yy976 yy977 yy978 yy979 yy980 yy981 yy982 yy983 yy984 yy985 yy986 yy987 yy988 yy989 yy990 yy991 yy992 yy993 yy994 yy995 yy996 yy997 yy998 yy999 yy1000 yy1001 yy1002 yy1003 yy1004 yy1005 yy1006 yy1007 yy1008 yy1009 yy1010 yy1011 yy1012 yy1013 yy1014 yy1015 yy1016 yy1017 yy1018 yy1019 yy1020 yy1021 yy1022 yy1023 yy1024 yy1025 yy1026 yy1027 yy1028 yy1029 yy1030 yy1031 yy1032 yy1033 yy1034 yy1035 yy1036 yy1037 yy1038 yy1039 yy1040 yy1041 yy1042 yy1043 yy1044 yy1045 yy1046 yy1047 yy1048 yy1049 yy1050 yy1051 yy1052 yy1053 yy1054 yy1055 yy1056 yy1057 yy1058 yy1059 yy1060 yy1061 yy1062 yy1063 yy1064 yy1065 yy1066 yy1067 yy1068 yy1069 yy1070 yy1071 yy1072 yy1073 yy1074 yy1075 yy1076 yy1077 yy1078 yy1079 yy1080 yy1081 yy1082 yy1083 yy1084 yy1085 yy1086 yy1087 yy1088 yy1089 yy1090 yy1091 yy1092 yy1093 yy1094 yy1095 yy1096 yy1097 yy1098 yy1099 yy1100 yy1101 yy1102 yy1103 yy1104 yy1105 yy1106 yy1107 yy1108 yy1109 yy1110 yy1111 yy1112 yy1113 yy1114 yy1115 yy1116 yy1117 yy1118 yy1119 yy1120 yy1121 yy1122 yy1123 yy1124 yy1125 yy1126 yy1127 yy1128 yy1129 yy1130 yy1131 yy1132 yy1133 yy1134 yy1135 yy1136 yy1137 yy1138 yy1139 yy1140 yy1141 yy1142 yy1143 yy1144 yy1145 yy1146 yy1147 yy1148 yy1149 yy1150 yy1151 yy1152 yy1153 yy1154 yy1155 wzq vq HVq yy1156 yy1157 yy1158 yy1159 yy1160 yy1161 yy1162 yy1163 yy1164 yy1165 yy1166 yy1167 yy1168 yy1169 yy1170 yy1171 yy1172 yy1173 yy1174 yy1175 yy1176 yy1177 yy1178 yy1179 yy1180 yy1181 yy1182 yy1183 yy1184 yy1185 yy1186 yy1187 yy1188 yy1189 yy1190 yy1191 yy1192 yy1193 yy1194 yy1195 yy1196 yy1197 yy1198 yy1199 yy1200 yy1201 yy1202 yy1203 yy1204 yy1205 yy1206 yy1207 yy1208 yy1209 yy1210 yy1211 yy1212 yy1213 yy1214 yy1215 yy1216 yy1217 yy1218 yy1219 yy1220 yy1221 yy1222 yy1223 yy1224 yy1225 yy1226 yy1227 yy1228 yy1229 yy1230 yy1231 yy1232 yy1233 yy1234 yy1235 yy1236 yy1237 yy1238 yy1239 yy1240 yy1241 yy1242 yy1243 yy1244 yy1245 yy1246 yy1247 yy1248 yy1249 yy1250 yy1251 yy1252 yy1253 yy1254 yy1255 yy1256 yy1257 yy1258 yy1259 yy1260 yy1261 yy1262 yy1263 yy1264 yy1265 yy1266 yy1267 yy1268 yy1269 yy1270 yy1271 yy1272 yy1273 yy1274 yy1275 yy1276 yy1277 yy1278 yy1279 yy1280 yy1281 yy1282 yy1283 yy1284 yy1285 yy1286 yy1287 yy1288 yy1289 yy1290 yy1291 yy1292 yy1293 yy1294 yy1295 yy1296 yy1297 yy1298 yy1299 yy1300 yy1301 yy1302 yy1303 yy1304 yy1305 yy1306 yy1307 yy1308 yy1309 yy1310 yy1311 yy1312 yy1313 yy1314 yy1315 yy1316 yy1317 yy1318 yy1319 yy1320 yy1321 yy1322 yy1323 yy1324 yy1325 yy1326 yy1327 yy1328 yy1329 yy1330 yy1331 yy1332 yy1333 yy1334 yy1335 yy1336 yy1337 yy1338 yy1339 yy1340 yy1341 yy1342 yy1343 yy1344 yy1345 yy1346 yy1347 yy1348 yy1349 yy1350 yy1351 yy1352 yy1353 yy1354 yy1355 yy1356 yy1357 yy1358 yy1359 yy1360 yy1361 yy1362 yy1363 yy1364 yy1365 yy1366 yy1367 yy1368 yy1369 yy1370 yy1371 yy1372 yy1373 yy1374 yy1375 yy1376 yy1377 yy1378 yy1379 yy1380 yy1381 yy1382 yy1383 yy1384 yy1385 yy1386 wzr vr HVr yy1387 yy1388 yy1389 yy1390 yy1391 yy1392 yy1393 yy1394 yy1395 yy1396 yy1397 yy1398 yy1399 yy1400 yy1401 yy1402 yy1403 yy1404 yy1405 yy1406 yy1407 yy1408 yy1409 yy1410 yy1411 yy1412 yy1413 yy1414 yy1415 yy1416 yy1417 yy1418 yy1419 yy1420 yy1421 yy1422 yy1423 yy1424 yy1425 yy1426 yy1427 yy1428 yy1429 yy1430 yy1431 yy1432 yy1433 yy1434 yy1435 yy1436 yy1437 yy1438 yy1439 yy1440 yy1441 yy1442 yy1443 yy1444 yy1445 yy1446 yy1447 yy1448 yy1449 yy1450 yy1451 yy1452 yy1453 yy1454 yy1455 yy1456 yy1457 yy1458 yy1459 yy1460 yy1461 yy1462 yy1463 yy1464 yy1465 yy1466 yy1467 yy1468 yy1469 yy1470 yy1471 yy1472 yy1473 yy1474 yy1475 yy1476 yy1477 yy1478 yy1479 yy1480 yy1481 yy1482 yy1483 yy1484 yy1485 yy1486 yy1487 yy1488 yy1489 yy1490 yy1491 yy1492 yy1493 yy1494 yy1495 yy1496 yy1497 yy1498 yy1499 yy1500 yy1501 yy1502 yy1503 yy1504 yy1505 yy1506 yy1507 yy1508 yy1509 yy1510 yy1511 yy1512 yy1513 yy1514 yy1515 yy1516 yy1517 yy1518 yy1519 yy1520 yy1521 yy1522 yy1523 yy1524 yy1525 yy1526 yy1527 yy1528 yy1529 yy1530 yy1531 yy1532 yy1533 yy1534 yy1535 yy1536 yy1537 yy1538 yy1539 yy1540 yy1541 yy1542 yy1543 yy1544 yy1545 yy1546 yy1547 yy1548 yy1549 yy1550 yy1551 yy1552 yy1553 yy1554 yy1555 yy1556 yy1557 yy1558 yy1559 yy1560 yy1561 yy1562 yy1563 yy1564 yy1565 yy1566 yy1567 yy1568 yy1569 yy1570 yy1571 yy1572 yy1573 yy1574 yy1575 yy1576 yy1577 yy1578 yy1579 yy1580 yy1581 yy1582 yy1583 yy1584 yy1585 yy1586 yy1587 yy1588 yy1589 yy1590 yy1591 yy1592 yy1593 yy1594 yy1595 yy1596 yy1597 yy1598 yy1599 yy1600 yy1601 yy1602 yy1603 yy1604 yy1605 yy1606 yy1607 yy1608 yy1609 yy1610 yy1611 yy1612 yy1613 yy1614 yy1615 yy1616 yy1617 wzs vs HVs yy1618 yy1619 yy1620 yy1621 yy1622 yy1623 yy1624 yy1625 yy1626 yy1627 yy1628 yy1629 yy1630 yy1631 yy1632 yy1633 yy1634 yy1635 yy1636 yy1637 yy1638 yy1639 yy1640 yy1641 yy1642 yy1643 yy1644 yy1645 yy1646 yy1647 yy1648 yy1649 yy1650 yy1651 yy1652 yy1653 yy1654 yy1655 yy1656 yy1657 yy1658 yy1659 yy1660 yy1661 yy1662 yy1663 yy1664 yy1665 yy1666 yy1667 yy1668 yy1669 yy1670 yy1671 yy1672 yy1673 yy1674 yy1675 yy1676 yy1677 yy1678 yy1679 yy1680 yy1681 yy1682 yy1683 yy1684 yy1685 yy1686 yy1687 yy1688 yy1689 yy1690 yy1691 yy1692 yy1693 yy1694 yy1695 yy1696 yy1697 yy1698 yy1699 yy1700 yy1701 yy1702 yy1703 yy1704 yy1705 yy1706 yy1707 yy1708 yy1709 yy1710 yy1711 yy1712 yy1713 yy1714 yy1715 yy1716 yy1717 yy1718 yy1719 yy1720 yy1721 yy1722 yy1723 yy1724 yy1725 yy1726 yy1727 yy1728 yy1729 yy1730 yy1731 yy1732 yy1733 yy1734 yy1735 yy1736 yy1737 yy1738 yy1739 yy1740 yy1741 yy1742 yy1743 yy1744 yy1745 yy1746 yy1747 yy1748 yy1749 yy1750 yy1751 yy1752 yy1753 yy1754 yy1755 yy1756 yy1757 yy1758 yy1759 yy1760 yy1761 yy1762 yy1763 yy1764 yy1765 yy1766 yy1767 yy1768 yy1769 yy1770 yy1771 yy1772 yy1773 yy1774 yy1775 yy1776 yy1777 yy1778 yy1779 yy1780 yy1781 yy1782 yy1783 yy1784 yy1785 yy1786 yy1787 yy1788 yy1789 yy1790 yy1791 yy1792 yy1793 yy1794 yy1795 yy1796 yy1797 yy1798 yy1799 yy1800 yy1801 yy1802 yy1803 yy1804 yy1805 yy1806 yy1807 yy1808 yy1809 yy1810 yy1811 yy1812 yy1813 yy1814 yy1815 yy1816 yy1817 yy1818 yy1819 yy1820 yy1821 yy1822 yy1823 yy1824 yy1825 yy1826 yy1827 yy1828 yy1829 yy1830 yy1831 yy1832 yy1833 yy1834 yy1835 yy1836 yy1837 yy1838 yy1839 yy1840 yy1841 yy1842 yy1843 yy1844 yy1845 yy1846 yy1847 yy1848 wzu vu HVu yy1849 yy1850 u49 u50 u51 u52 u53 u54 u55 u56 u57 u58 u59 u60 u61 u62 u63 u64 u65 u66 u67 u68 u69 u70 u71 u72 u73 u74 u75 u76 u77 u78 u79 u80 u81 u82 u83 u84 u85 u86 u87 u88 u89 u90 u91 u92 u93 u94 u95 u96 u97 u98 u99 u100 u101 u102 u103 u104 u105 u106 u107 u108 u109 u110 u111 u112 u113 u114 u115 u116 u117 u118 u119 u120 u121 u122 u123 u124 u125 u126 u127 u128 u129 u130 u131 u132 u133 u134 u135 u136 u137 u138 u139 u140 u141 u142 u143 u144 u145 u146 u147 u148 u149 u150 u151 u152 u153 u154 u155 u156 u157 u158 u159 u160 u161 u162 u163 u164 u165 u166 u167 u168 u169 u170 u171 u172 u173 u174 u175 u176 u177 u178 u179 u180 u181 u182 u183 u184 u185 u186 u187 u188 u189 u190 u191 u192 u193 u194 u195 u196 u197 u198 u199 u200 u201 u202 u203 u204 u205 u206 u207 u208 u209 u210 u211 u212 u213 u214 u215 u216 u217 u218 u219 u220 u221 u222 u223 u224 u225 u226 u227 u228 u229 u230 u231 u232 u233 u234 u235 u236 u237 u238 u239 u240 u241 u242 u243 u244 u245 u246 u247 u248 u249 u250 u251 u252 u253 u254 u255 u256 u257 u258 u259 u260 u261 u262 u263 u264 u265 u266 u267 u268 u269 u270 u271 u272 u273 u274 u275 u276 u277 u278 u279 wzy H7 vy HVy
  exact K1.out)
end Gate
end Go.Proofs.Ytjflbhkhnmodaaa
