/- Walks through the reference of package trim: equal steps. Conditions: none. -/
import Derived.Test.YtnmfihgdedifoaaTrimB
import Derived.Test.YtnmfihgdedifoaaTrimD
import Derived.Test.YtnmfihgdedifoaaSame
set_option linter.unusedVariables false
set_option linter.unusedSimpArgs false
set_option linter.unusedSectionVars false
open Go.RowKit
namespace Go.Proofs.Ytnmfihgdedifoaa
open L R01
namespace Trim
def sameSt (a b : StepD) : Bool := (a.kind == b.kind) && ((a.node == b.node) && ((a.rule == b.rule) && ((a.name.toList == b.name.toList) && (decide (a.params = b.params) && (decide (a.lits = b.lits) && decide (a.hints = b.hints))))))
theorem sameSt_iff {a b : StepD} : sameSt a b = true ↔ a = b := by
  obtain ⟨_, _, _, _, _, _, _⟩ := a
  obtain ⟨_, _, _, _, _, _, _⟩ := b
  simp [sameSt, tl_eq]
  grind
section
variable {w : World}
set_option maxRecDepth 100000 in
set_option maxHeartbeats 8000000 in
theorem sameSt_calls {a b : StepD} {p1 l1 h1 p2 l2 h2 : Value} (ha : StF w a p1 l1 h1) (hb : StF w b p2 l2 h2) :
    Calls Try.prog 29 #[.agg (stC a p1 l1 h1).toArray, .agg (stC b p2 l2 h2).toArray] w fun e w' => e = .returned (.bool (sameSt a b)) ∧ Upd [] w w' := by
  obtain ⟨ap, cp, rfl, _⟩ := ha.1.cells
  obtain ⟨al, cl, rfl, _⟩ := ha.2.1.cells
  obtain ⟨ah, ch, rfl, _⟩ := ha.2.2.1.cells
  obtain ⟨bp, dp, rfl, _⟩ := hb.1.cells
  obtain ⟨bl, dl, rfl, _⟩ := hb.2.1.cells
  obtain ⟨bh, dh, rfl, _⟩ := hb.2.2.1.cells
  have HP := Lib.hid (fun (w' : World) (u : Upd [] w w') => SameInts_calls (ha.1.ext u).sl (hb.1.ext u).sl)
  have HL := Lib.hid (fun (w' : World) (u : Upd [] w w') => SameInts_calls (ha.2.1.ext u).sl (hb.2.1.ext u).sl)
  have HH := Lib.hid (fun (w' : World) (u : Upd [] w w') => SameInts_calls (ha.2.2.1.ext u).sl (hb.2.2.1.ext u).sl)
  clear ha hb
  have c1 := Blk.new w (stC a (.slice ap a.params.length cp) (.slice al a.lits.length cl) (.slice ah a.hints.length ch)) 56
  have u1 : Upd [] w (w.alloc (.cells (stC a (.slice ap a.params.length cp) (.slice al a.lits.length cl) (.slice ah a.hints.length ch)).toArray 56)) := (Upd.refl _ _).alloc _
  unfold stC
  rcases Classical.em (a.kind = b.kind) with e0 | e0
  case inr =>
    have b0 : (a.kind == b.kind) = false := by simpa using e0
    have HR := Lib.hid (show sameSt a b = false by unfold sameSt; rw [b0]; simp)
    clear e0
    go_enter Try.func29, Try.ntmps29
    go_wp2_with fail
    go_ret
    rw [HR.out]
    exact ⟨rfl, (by iterate 25 (first | exact Upd.refl _ _ | assumption | refine Upd.alloc ?_ _ | refine Upd.drew ?_ | refine Upd.drewN ?_ _ | refine Upd.dl ?_ | refine Upd.step ?_ (Ext.upd _) | refine Upd.nil ?_ | skip))⟩
  have b0 : (a.kind == b.kind) = true := by simpa using e0
  clear e0
  rcases Classical.em (a.node = b.node) with e1 | e1
  case inr =>
    have b1 : (a.node == b.node) = false := by simpa using e1
    have HR := Lib.hid (show sameSt a b = false by unfold sameSt; rw [b0, b1]; simp)
    clear e1
    go_enter Try.func29, Try.ntmps29
    go_wp2_with fail
    go_ret
    rw [HR.out]
    exact ⟨rfl, (by iterate 25 (first | exact Upd.refl _ _ | assumption | refine Upd.alloc ?_ _ | refine Upd.drew ?_ | refine Upd.drewN ?_ _ | refine Upd.dl ?_ | refine Upd.step ?_ (Ext.upd _) | refine Upd.nil ?_ | skip))⟩
  have b1 : (a.node == b.node) = true := by simpa using e1
  clear e1
  rcases Classical.em (a.rule = b.rule) with e2 | e2
  case inr =>
    have b2 : (a.rule == b.rule) = false := by simpa using e2
    have HR := Lib.hid (show sameSt a b = false by unfold sameSt; rw [b0, b1, b2]; simp)
    clear e2
    go_enter Try.func29, Try.ntmps29
    go_wp2_with fail
    go_ret
    rw [HR.out]
    exact ⟨rfl, (by iterate 25 (first | exact Upd.refl _ _ | assumption | refine Upd.alloc ?_ _ | refine Upd.drew ?_ | refine Upd.drewN ?_ _ | refine Upd.dl ?_ | refine Upd.step ?_ (Ext.upd _) | refine Upd.nil ?_ | skip))⟩
  have b2 : (a.rule == b.rule) = true := by simpa using e2
  clear e2
  rcases Classical.em (a.name = b.name) with e3 | e3
  case inr =>
    have b3 : (a.name.toList == b.name.toList) = false := tl_ne e3
    have HR := Lib.hid (show sameSt a b = false by unfold sameSt; rw [b0, b1, b2, b3]; simp)
    clear e3
    go_enter Try.func29, Try.ntmps29
    go_wp2_with fail
    go_ret
    rw [HR.out]
    exact ⟨rfl, (by iterate 25 (first | exact Upd.refl _ _ | assumption | refine Upd.alloc ?_ _ | refine Upd.drew ?_ | refine Upd.drewN ?_ _ | refine Upd.dl ?_ | refine Upd.step ?_ (Ext.upd _) | refine Upd.nil ?_ | skip))⟩
  have b3 : (a.name.toList == b.name.toList) = true := by rw [e3]; exact tl_refl _
  clear e3
  rcases Classical.em (a.params = b.params) with e | e
  case inr =>
    have KP := Lib.hid (fun (w' : World) (u : Upd [] w w') => by
      have h := HP.out w' u
      rw [show decide (a.params = b.params) = false from decide_eq_false e] at h
      exact h)
    have HR := Lib.hid (show sameSt a b = false by unfold sameSt; rw [b0, b1, b2, b3, decide_eq_false e]; simp)
    clear e
    go_enter Try.func29, Try.ntmps29
    go_wp2_with (first | (go_at_call 24; (with_reducible refine (KP.out _ (by iterate 25 (first | exact Upd.refl _ _ | assumption | refine Upd.alloc ?_ _ | refine Upd.drew ?_ | refine Upd.drewN ?_ _ | refine Upd.dl ?_ | refine Upd.step ?_ (Ext.upd _) | refine Upd.nil ?_ | skip))).mono ?_); rintro e _ ⟨rfl, u3⟩; obtain ⟨x3, rfl⟩ := Ext.of u3))
    go_ret
    rw [HR.out]
    exact ⟨rfl, (by iterate 25 (first | exact Upd.refl _ _ | assumption | refine Upd.alloc ?_ _ | refine Upd.drew ?_ | refine Upd.drewN ?_ _ | refine Upd.dl ?_ | refine Upd.step ?_ (Ext.upd _) | refine Upd.nil ?_ | skip))⟩
  have KP := Lib.hid (fun (w' : World) (u : Upd [] w w') => by
    have h := HP.out w' u
    rw [show decide (a.params = b.params) = true from decide_eq_true e] at h
    exact h)
  have p4 := decide_eq_true e
  clear e
  rcases Classical.em (a.lits = b.lits) with e | e
  case inr =>
    have KL := Lib.hid (fun (w' : World) (u : Upd [] w w') => by
      have h := HL.out w' u
      rw [show decide (a.lits = b.lits) = false from decide_eq_false e] at h
      exact h)
    have HR := Lib.hid (show sameSt a b = false by unfold sameSt; rw [b0, b1, b2, b3, p4, decide_eq_false e]; simp)
    clear e
    go_enter Try.func29, Try.ntmps29
    go_wp2_with (first | (go_at_call 24; (with_reducible refine (KP.out _ (by iterate 25 (first | exact Upd.refl _ _ | assumption | refine Upd.alloc ?_ _ | refine Upd.drew ?_ | refine Upd.drewN ?_ _ | refine Upd.dl ?_ | refine Upd.step ?_ (Ext.upd _) | refine Upd.nil ?_ | skip))).mono ?_); rintro e _ ⟨rfl, u3⟩; obtain ⟨x3, rfl⟩ := Ext.of u3) | (go_at_call 24; (with_reducible refine (KL.out _ (by iterate 25 (first | exact Upd.refl _ _ | assumption | refine Upd.alloc ?_ _ | refine Upd.drew ?_ | refine Upd.drewN ?_ _ | refine Upd.dl ?_ | refine Upd.step ?_ (Ext.upd _) | refine Upd.nil ?_ | skip))).mono ?_); rintro e _ ⟨rfl, u4⟩; obtain ⟨x4, rfl⟩ := Ext.of u4))
    go_ret
    rw [HR.out]
    exact ⟨rfl, (by iterate 25 (first | exact Upd.refl _ _ | assumption | refine Upd.alloc ?_ _ | refine Upd.drew ?_ | refine Upd.drewN ?_ _ | refine Upd.dl ?_ | refine Upd.step ?_ (Ext.upd _) | refine Upd.nil ?_ | skip))⟩
  have KL := Lib.hid (fun (w' : World) (u : Upd [] w w') => by
    have h := HL.out w' u
    rw [show decide (a.lits = b.lits) = true from decide_eq_true e] at h
    exact h)
  have p5 := decide_eq_true e
  clear e
  have HR := Lib.hid (show sameSt a b = decide (a.hints = b.hints) by unfold sameSt; rw [b0, b1, b2, b3, p4, p5]; simp)
  clear p4 p5
  generalize decide (a.hints = b.hints) = z at *
  go_enter Try.func29, Try.ntmps29
  go_wp2_with (first | (go_at_call 24; (with_reducible refine (KP.out _ (by iterate 25 (first | exact Upd.refl _ _ | assumption | refine Upd.alloc ?_ _ | refine Upd.drew ?_ | refine Upd.drewN ?_ _ | refine Upd.dl ?_ | refine Upd.step ?_ (Ext.upd _) | refine Upd.nil ?_ | skip))).mono ?_); rintro e _ ⟨rfl, u3⟩; obtain ⟨x3, rfl⟩ := Ext.of u3) | (go_at_call 24; (with_reducible refine (KL.out _ (by iterate 25 (first | exact Upd.refl _ _ | assumption | refine Upd.alloc ?_ _ | refine Upd.drew ?_ | refine Upd.drewN ?_ _ | refine Upd.dl ?_ | refine Upd.step ?_ (Ext.upd _) | refine Upd.nil ?_ | skip))).mono ?_); rintro e _ ⟨rfl, u4⟩; obtain ⟨x4, rfl⟩ := Ext.of u4) | (go_at_call 24; (with_reducible refine (HH.out _ (by iterate 25 (first | exact Upd.refl _ _ | assumption | refine Upd.alloc ?_ _ | refine Upd.drew ?_ | refine Upd.drewN ?_ _ | refine Upd.dl ?_ | refine Upd.step ?_ (Ext.upd _) | refine Upd.nil ?_ | skip))).mono ?_); rintro e _ ⟨rfl, u5⟩; obtain ⟨x5, rfl⟩ := Ext.of u5))
  go_ret
  rw [HR.out]
  exact ⟨rfl, (by iterate 25 (first | exact Upd.refl _ _ | assumption | refine Upd.alloc ?_ _ | refine Upd.drew ?_ | refine Upd.drewN ?_ _ | refine Upd.dl ?_ | refine Upd.step ?_ (Ext.upd _) | refine Upd.nil ?_ | skip))⟩
end
end Trim
end Go.Proofs.Ytnmfihgdedifoaa
