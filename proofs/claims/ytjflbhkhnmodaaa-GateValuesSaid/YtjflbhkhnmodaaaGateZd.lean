/- Walks through the laws of gates: GateValues, the wrong numbers of inputs. Conditions: none. -/
import Derived.Test.YtjflbhkhnmodaaaGateZa
set_option linter.unusedVariables false
set_option linter.unusedSimpArgs false
set_option linter.unusedSectionVars false
open Go.RowKit
namespace Go.Proofs.Ytjflbhkhnmodaaa
open L
namespace Gate
open Cla R14 R01
attribute [-go_sem] sliced
set_option maxRecDepth 100000 in
set_option maxHeartbeats 16000000 in
theorem gz44 (w : World) (kind more : Int) (hk : IsI64 kind) (hm : IsI64 more) : RowKit.Hid (gz w kind more hk hm).1.2.1 := by
  refine Lib.hid ?_
  dsimp only [gz, cut3, cut1]
  unhygienic intros
  have hm8' : m = 8 := by omega
  subst hm8'
  rw [show ((8 : Nat) : Int) = 8 from rfl]
  have HM := Lib.hid (HU2.out.step hu)
  clear hu
  go_upto_region 44 with fail
  go_cut [35, 36] (fun x e w' => x = .bool false ∧ e = .int .i64 1 ∧ Upd [] wo w')
  case first => as_aux_lemma =>
    refine wp_region_lit ?_
    refine wpList_cutH 3 (fun K hK => ?_)
    simp only [List.take_succ_cons, List.take_zero]
    go_wp2_with fail
    refine Halt_.intro ?_; try simp only [List.drop_succ_cons, List.drop_zero]
    refine wpList_mk rfl _ _ _ rfl 4 1 1 _ Try.underlying23 infoBool rfl (by decide) _ _ _ _ (nn + 1) rfl rfl (by omega) (by omega) (by omega) (by omega) ?_
    simp only [Act.put, List.setIfInBounds_toArray, List.set_cons_zero, List.set_cons_succ]
    rw [rows_false]
    have NB := Blk.new wo (bools (List.replicate (nn + 1) false)) 4
    have UB := (Upd.refl [] wo).alloc (.cells (bools (List.replicate (nn + 1) false)).toArray 4)
    have HVB := Lib.hid (Value_bad (k := (k : Int)) NB List.length_replicate (by unfold maxLen; omega) (by unfold vOk; rw [← HNN.out]; simp))
    have HUB := Lib.hid UB
    clear NB UB
    generalize wo.alloc (.cells (bools (List.replicate (nn + 1) false)).toArray 4) = wB at *
    generalize wo.heap.size = gB at *
    go_wp2_with (go_at_call 5; refine HVB.out.mono ?_; rintro e wX ⟨rfl, uC⟩)
    have HX := Lib.hid (HUB.out.step uC)
    clear uC HUB HVB
    go_wp2_with fail
    go_meet
    case rel => exact ⟨rfl, rfl, HX.out⟩
  case rest =>
  obtain ⟨rfl, rfl, uC⟩ := hcut
  obtain ⟨wC, rfl⟩ : ∃ wx : World, wx = wc := ⟨_, rfl⟩
  have HC := Lib.hid (HM.out.step uC)
  clear uC HM
  go_upto_region 45 with fail
  go_cut [37, 38] (fun x e w' => x = .bool false ∧ e = .int .i64 1 ∧ Upd [] wC w')
  case first => as_aux_lemma =>
    refine wp_region_lit ?_
    refine wpList_cutH 3 (fun K hK => ?_)
    simp only [List.take_succ_cons, List.take_zero]
    go_wp2_with fail
    refine Halt_.intro ?_; try simp only [List.drop_succ_cons, List.drop_zero]
    refine wpList_mk rfl _ _ _ rfl 4 1 1 _ Try.underlying23 infoBool rfl (by decide) _ _ _ _ (nn - 1) rfl rfl (by omega) (by omega) (by omega) (by omega) ?_
    simp only [Act.put, List.setIfInBounds_toArray, List.set_cons_zero, List.set_cons_succ]
    rw [rows_false]
    have NB := Blk.new wC (bools (List.replicate (nn - 1) false)) 4
    have UB := (Upd.refl [] wC).alloc (.cells (bools (List.replicate (nn - 1) false)).toArray 4)
    have HVB := Lib.hid (Value_bad (k := (k : Int)) NB List.length_replicate (by unfold maxLen; omega) (by unfold vOk; rw [← HNN.out]; simp; omega))
    have HUB := Lib.hid UB
    clear NB UB
    generalize wC.alloc (.cells (bools (List.replicate (nn - 1) false)).toArray 4) = wB at *
    generalize wC.heap.size = gB at *
    go_wp2_with (go_at_call 5; refine HVB.out.mono ?_; rintro e wX ⟨rfl, uC⟩)
    have HX := Lib.hid (HUB.out.step uC)
    clear uC HUB HVB
    go_wp2_with fail
    go_meet
    case rel => exact ⟨rfl, rfl, HX.out⟩
  case rest =>
  obtain ⟨rfl, rfl, uC⟩ := hcut
  obtain ⟨wE, rfl⟩ : ∃ wx : World, wx = wc := ⟨_, rfl⟩
  have HF := Lib.hid (HC.out.step uC)
  clear uC HC
  go_wp2_with fail
  exact ⟨⟨k + 1, by go_num, by omega, HF.out⟩, by simp [intOf]; omega⟩
end Gate
end Go.Proofs.Ytjflbhkhnmodaaa
