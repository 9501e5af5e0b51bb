/- Walks through the reference of package trim: equal nodes. Conditions: none. -/
import Derived.Test.YtnmfihgdedifoaaTrimG
set_option linter.unusedVariables false
set_option linter.unusedSimpArgs false
set_option linter.unusedSectionVars false
open Go.RowKit
namespace Go.Proofs.Ytnmfihgdedifoaa
open L R01
namespace Trim
def sameNo (a b : NodeD) : Bool := (a.op == b.op) && ((a.n == b.n) && ((a.m == b.m) && ((a.u == b.u) && ((a.text.toList == b.text.toList) && ((a.sk == b.sk && (a.sn == b.sn && a.si == b.si)) && decide (a.kids = b.kids))))))
theorem sameNo_iff {a b : NodeD} : sameNo a b = true ↔ a = b := by
  obtain ⟨_, _, _, _, _, _, _, _, _⟩ := a
  obtain ⟨_, _, _, _, _, _, _, _, _⟩ := b
  simp [sameNo, tl_eq]
  grind
section
variable {w : World}
set_option maxRecDepth 100000 in
set_option maxHeartbeats 8000000 in
theorem sameNo_calls {a b : NodeD} {k1 k2 : Value} (ha : RowI w k1 a.kids) (hb : RowI w k2 b.kids) :
    Calls Try.prog 52 #[.agg (noC a k1).toArray, .agg (noC b k2).toArray] w fun e w' => e = .returned (.bool (sameNo a b)) ∧ Upd [] w w' := by
  obtain ⟨ap, cp, rfl, _⟩ := ha.cells
  obtain ⟨bp, dp, rfl, _⟩ := hb.cells
  have HP := Lib.hid (fun (w' : World) (u : Upd [] w w') => SameInts_calls (ha.ext u).sl (hb.ext u).sl)
  clear ha hb
  unfold noC
  rcases Classical.em (a.op = b.op) with e0 | e0
  case inr =>
    have b0 : (a.op == b.op) = false := by simpa using e0
    have HR := Lib.hid (show sameNo a b = false by unfold sameNo; rw [b0]; simp)
    clear e0
    go_enter Try.func52, Try.ntmps52
    go_wp2_with fail
    go_ret
    rw [HR.out]
    exact ⟨rfl, (by iterate 25 (first | exact Upd.refl _ _ | assumption | refine Upd.alloc ?_ _ | refine Upd.drew ?_ | refine Upd.drewN ?_ _ | refine Upd.dl ?_ | refine Upd.step ?_ (Ext.upd _) | refine Upd.nil ?_ | skip))⟩
  have b0 : (a.op == b.op) = true := by simpa using e0
  clear e0
  rcases Classical.em (a.n = b.n) with e1 | e1
  case inr =>
    have b1 : (a.n == b.n) = false := by simpa using e1
    have HR := Lib.hid (show sameNo a b = false by unfold sameNo; rw [b0, b1]; simp)
    clear e1
    go_enter Try.func52, Try.ntmps52
    go_wp2_with fail
    go_ret
    rw [HR.out]
    exact ⟨rfl, (by iterate 25 (first | exact Upd.refl _ _ | assumption | refine Upd.alloc ?_ _ | refine Upd.drew ?_ | refine Upd.drewN ?_ _ | refine Upd.dl ?_ | refine Upd.step ?_ (Ext.upd _) | refine Upd.nil ?_ | skip))⟩
  have b1 : (a.n == b.n) = true := by simpa using e1
  clear e1
  rcases Classical.em (a.m = b.m) with e2 | e2
  case inr =>
    have b2 : (a.m == b.m) = false := by simpa using e2
    have HR := Lib.hid (show sameNo a b = false by unfold sameNo; rw [b0, b1, b2]; simp)
    clear e2
    go_enter Try.func52, Try.ntmps52
    go_wp2_with fail
    go_ret
    rw [HR.out]
    exact ⟨rfl, (by iterate 25 (first | exact Upd.refl _ _ | assumption | refine Upd.alloc ?_ _ | refine Upd.drew ?_ | refine Upd.drewN ?_ _ | refine Upd.dl ?_ | refine Upd.step ?_ (Ext.upd _) | refine Upd.nil ?_ | skip))⟩
  have b2 : (a.m == b.m) = true := by simpa using e2
  clear e2
  rcases Classical.em (a.u = b.u) with e3 | e3
  case inr =>
    have b3 : (a.u == b.u) = false := by simpa using e3
    have HR := Lib.hid (show sameNo a b = false by unfold sameNo; rw [b0, b1, b2, b3]; simp)
    clear e3
    go_enter Try.func52, Try.ntmps52
    go_wp2_with fail
    go_ret
    rw [HR.out]
    exact ⟨rfl, (by iterate 25 (first | exact Upd.refl _ _ | assumption | refine Upd.alloc ?_ _ | refine Upd.drew ?_ | refine Upd.drewN ?_ _ | refine Upd.dl ?_ | refine Upd.step ?_ (Ext.upd _) | refine Upd.nil ?_ | skip))⟩
  have b3 : (a.u == b.u) = true := by simpa using e3
  clear e3
  rcases Classical.em (a.text = b.text) with e4 | e4
  case inr =>
    have b4 : (a.text.toList == b.text.toList) = false := tl_ne e4
    have HR := Lib.hid (show sameNo a b = false by unfold sameNo; rw [b0, b1, b2, b3, b4]; simp)
    clear e4
    go_enter Try.func52, Try.ntmps52
    go_wp2_with fail
    go_ret
    rw [HR.out]
    exact ⟨rfl, (by iterate 25 (first | exact Upd.refl _ _ | assumption | refine Upd.alloc ?_ _ | refine Upd.drew ?_ | refine Upd.drewN ?_ _ | refine Upd.dl ?_ | refine Upd.step ?_ (Ext.upd _) | refine Upd.nil ?_ | skip))⟩
  have b4 : (a.text.toList == b.text.toList) = true := by rw [e4]; exact tl_refl _
  clear e4
  rcases Classical.em (a.sk = b.sk) with e | e
  case inr =>
    have HR := Lib.hid (show sameNo a b = false by unfold sameNo; rw [b0, b1, b2, b3, b4, show (a.sk == b.sk) = false by simpa using e]; simp)
    go_enter Try.func52, Try.ntmps52
    go_wp2_with fail
    go_ret
    rw [HR.out]
    exact ⟨rfl, (by iterate 25 (first | exact Upd.refl _ _ | assumption | refine Upd.alloc ?_ _ | refine Upd.drew ?_ | refine Upd.drewN ?_ _ | refine Upd.dl ?_ | refine Upd.step ?_ (Ext.upd _) | refine Upd.nil ?_ | skip))⟩
  have f0 : (a.sk == b.sk) = true := by simpa using e
  have g0 := eq_true e
  clear e
  rcases Classical.em (a.sn = b.sn) with e | e
  case inr =>
    have HR := Lib.hid (show sameNo a b = false by unfold sameNo; rw [b0, b1, b2, b3, b4, f0, show (a.sn == b.sn) = false by simpa using e]; simp)
    go_enter Try.func52, Try.ntmps52
    go_wp2_with fail
    go_ret
    rw [HR.out]
    exact ⟨rfl, (by iterate 25 (first | exact Upd.refl _ _ | assumption | refine Upd.alloc ?_ _ | refine Upd.drew ?_ | refine Upd.drewN ?_ _ | refine Upd.dl ?_ | refine Upd.step ?_ (Ext.upd _) | refine Upd.nil ?_ | skip))⟩
  have f1 : (a.sn == b.sn) = true := by simpa using e
  have g1 := eq_true e
  clear e
  rcases Classical.em (a.si = b.si) with e | e
  case inr =>
    have HR := Lib.hid (show sameNo a b = false by unfold sameNo; rw [b0, b1, b2, b3, b4, f0, f1, show (a.si == b.si) = false by simpa using e]; simp)
    go_enter Try.func52, Try.ntmps52
    go_wp2_with fail
    go_ret
    rw [HR.out]
    exact ⟨rfl, (by iterate 25 (first | exact Upd.refl _ _ | assumption | refine Upd.alloc ?_ _ | refine Upd.drew ?_ | refine Upd.drewN ?_ _ | refine Upd.dl ?_ | refine Upd.step ?_ (Ext.upd _) | refine Upd.nil ?_ | skip))⟩
  have f2 : (a.si == b.si) = true := by simpa using e
  have g2 := eq_true e
  clear e
  have HR := Lib.hid (show sameNo a b = decide (a.kids = b.kids) by unfold sameNo; rw [b0, b1, b2, b3, b4, f0, f1, f2]; simp)
  clear f0 f1 f2
  generalize decide (a.kids = b.kids) = z at *
  go_enter Try.func52, Try.ntmps52
  go_wp2_with (go_at_call 24; (with_reducible refine (HP.out _ (by iterate 25 (first | exact Upd.refl _ _ | assumption | refine Upd.alloc ?_ _ | refine Upd.drew ?_ | refine Upd.drewN ?_ _ | refine Upd.dl ?_ | refine Upd.step ?_ (Ext.upd _) | refine Upd.nil ?_ | skip))).mono ?_); rintro e _ ⟨rfl, u3⟩; obtain ⟨x3, rfl⟩ := Ext.of u3)
  go_ret
  rw [HR.out]
  exact ⟨rfl, (by iterate 25 (first | exact Upd.refl _ _ | assumption | refine Upd.alloc ?_ _ | refine Upd.drew ?_ | refine Upd.drewN ?_ _ | refine Upd.dl ?_ | refine Upd.step ?_ (Ext.upd _) | refine Upd.nil ?_ | skip))⟩
end
end Trim
end Go.Proofs.Ytnmfihgdedifoaa
