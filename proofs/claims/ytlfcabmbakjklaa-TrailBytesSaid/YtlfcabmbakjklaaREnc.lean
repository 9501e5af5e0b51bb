/- Walks through the reference of trails: Encode. Conditions: none. -/
import Derived.Test.YtlfcabmbakjklaaRef02
import Derived.Test.YtlfcabmbakjklaaEnc
import Derived.Test.YtlfcabmbakjklaaLawB
set_option linter.unusedVariables false
set_option linter.unusedSimpArgs false
set_option linter.unusedSectionVars false
open Go.RowKit
namespace Go.Proofs.Ytlfcabmbakjklaa
open L
namespace Ref
open Trail Wire R02
/-- A world in which four cells hold what they held. -/
def Four (p0 p1 p2 p3 : Addr) (v0 v1 v2 v3 : Value) : Type := { w : World // w.cell? p0 = some v0 ∧ w.cell? p1 = some v1 ∧ w.cell? p2 = some v2 ∧ w.cell? p3 = some v3 }
section
variable {p0 p1 p2 p3 : Addr} {v0 v1 v2 v3 : Value}
theorem Four.c0 (x : Four p0 p1 p2 p3 v0 v1 v2 v3) : x.val.cell? p0 = some v0 := x.property.1
theorem Four.c1 (x : Four p0 p1 p2 p3 v0 v1 v2 v3) : x.val.cell? p1 = some v1 := x.property.2.1
theorem Four.c2 (x : Four p0 p1 p2 p3 v0 v1 v2 v3) : x.val.cell? p2 = some v2 := x.property.2.2.1
theorem Four.c3 (x : Four p0 p1 p2 p3 v0 v1 v2 v3) : x.val.cell? p3 = some v3 := x.property.2.2.2
attribute [go_sem] Four.c0 Four.c1 Four.c2 Four.c3
theorem Four.of {w : World} (h0 : w.cell? p0 = some v0) (h1 : w.cell? p1 = some v1) (h2 : w.cell? p2 = some v2) (h3 : w.cell? p3 = some v3) : ∃ x : Four p0 p1 p2 p3 v0 v1 v2 v3, w = x.val := ⟨⟨w, h0, h1, h2, h3⟩, rfl⟩
end
section
variable {w : World} {b vars : Nat} {es : Es} {S : List Nat}
set_option maxRecDepth 100000 in
set_option maxHeartbeats 4000000 in
theorem Encode_calls (h : Rf w b vars es S) : Calls Try.prog 41 #[.pointer (some ⟨b, 0, none⟩)] w (BytT (eb vars es) w) := by
  have hv := h.wf.max
  have hlen := h.wf.len
  have hwf := h.wf
  obtain ⟨a1, c1, a2, c2, a3, c3, m0, m1, m2, m3, sl, mc⟩ := Law.Rf.cells h
  obtain ⟨_, _, he, hq1, hr1, _, hs1⟩ := sl.val
  cases he
  unfold maxLen at hr1
  have HS := Lib.hid (And.intro hwf (And.intro hs1 mc))
  clear h sl mc m3 hs1 hwf
  go_enter Try.func41, Try.ntmps41
  go_wp2_with fail
  refine wp_region_ord 10 2 [0, 1, 2, 3, 5, 6, 7, 8, 9, 12] [3, 8] [0, 1, 2, 3, 5, 6, 7, 8, 9, 4, 10, 11, 12] (fun w' => ∃ x : Ext w, w' = x.val) (by kernel_rfl) (by kernel_rfl) (Ext.of (by iterate 25 (first | exact Upd.refl _ _ | assumption | refine Upd.alloc ?_ _ | refine Upd.drew ?_ | refine Upd.drewN ?_ _ | refine Upd.dl ?_ | refine Upd.step ?_ (Ext.upd _) | refine Upd.nil ?_ | skip))) ?_
  repeat (first | (refine wpOrd_load rfl rfl rfl rfl (fun K hK => ?_); go_big_quiet_step (fail); refine wpQuiet_nil ?_; refine hK _ ?_; clear hK K) | (refine wpOrd_free rfl rfl rfl (fun K hK => ?_); go_big_quiet_step (fail); refine wpQuiet_nil ?_; refine hK _ ?_; clear hK K))
  refine wpOrd_fix rfl rfl (fun K hK => ?_)
  go_wp2_with (go_at_call 65; refine (R02.Int_calls vars (by unfold IsI64; omega)).mono ?_; rintro e w1 ⟨ap, cp, rfl, op⟩)
  have H1 := Lib.hid (op.base (w := w) (by iterate 25 (first | exact Upd.refl _ _ | assumption | refine Upd.alloc ?_ _ | refine Upd.drew ?_ | refine Upd.drewN ?_ _ | refine Upd.dl ?_ | refine Upd.step ?_ (Ext.upd _) | refine Upd.nil ?_ | skip)))
  have U1 : Upd [] w w1 := Upd.step (by iterate 25 (first | exact Upd.refl _ _ | assumption | refine Upd.alloc ?_ _ | refine Upd.drew ?_ | refine Upd.drewN ?_ _ | refine Upd.dl ?_ | refine Upd.step ?_ (Ext.upd _) | refine Upd.nil ?_ | skip)) op.u
  clear op
  refine ⟨fun _ => Ext.of U1, ?_⟩
  repeat (first | (refine wpOrd_load rfl rfl rfl rfl (fun K hK => ?_); go_big_quiet_step (fail); refine wpQuiet_nil ?_; refine hK _ ?_; clear hK K) | (refine wpOrd_free rfl rfl rfl (fun K hK => ?_); go_big_quiet_step (fail); refine wpQuiet_nil ?_; refine hK _ ?_; clear hK K))
  refine wpOrd_fix rfl rfl (fun K hK => ?_)
  go_wp2_with (go_at_call 65; refine (R02.Int_calls es.length (by unfold IsI64; omega)).mono ?_; rintro e w2 ⟨ap2, cp2, rfl, op2⟩)
  have H2 := Lib.hid (And.intro op2.sl (H1.out.quiet (show Upd [] w1 w2 from Upd.step (by iterate 25 (first | exact Upd.refl _ _ | assumption | refine Upd.alloc ?_ _ | refine Upd.drew ?_ | refine Upd.drewN ?_ _ | refine Upd.dl ?_ | refine Upd.step ?_ (Ext.upd _) | refine Upd.nil ?_ | skip)) op2.u)))
  clear op2
  refine ⟨fun hC => absurd hC (by decide), ?_⟩
  repeat (first | (refine wpOrd_load rfl rfl rfl rfl (fun K hK => ?_); go_big_quiet_step (fail); refine wpQuiet_nil ?_; refine hK _ ?_; clear hK K) | (refine wpOrd_free rfl rfl rfl (fun K hK => ?_); go_big_quiet_step (fail); refine wpQuiet_nil ?_; refine hK _ ?_; clear hK K))
  refine wpOrd_fix rfl rfl (fun K hK => ?_)
  have hb1 := ib_length vars
  have hb2 := ib_length es.length
  go_wp2_with (refine wpList_appS rfl _ _ _ rfl 5 1 1 _ Try.underlying62 infoByte rfl (by decide) _ _ _ rfl H2.out.2.row _ _ _ rfl H2.out.1 (byts_one _) (by unfold maxLen; omega) (by omega) ?_; intro a4 cap4 w4 o4 u4 k4; simp only [Act.put, List.setIfInBounds_toArray, List.set_cons_zero, List.set_cons_succ])
  have H4 := Lib.hid (H2.out.2.app o4 u4 k4)
  clear o4 u4 k4
  refine ⟨fun hC => absurd hC (by decide), ?_⟩
  repeat (first | (refine wpOrd_load rfl rfl rfl rfl (fun K hK => ?_); go_big_quiet_step (fail); refine wpQuiet_nil ?_; refine hK _ ?_; clear hK K) | (refine wpOrd_free rfl rfl rfl (fun K hK => ?_); go_big_quiet_step (fail); refine wpQuiet_nil ?_; refine hK _ ?_; clear hK K))
  refine wpOrd_nil ?_
  have hl0 := hb1
  rw [← List.length_append] at H4
  go_wp2_with fail
  go_loopw [3, 4] (fun o i wr => ∃ k : Nat, i = .int .i64 k ∧ k ≤ es.length ∧ OwnB w o ((ib vars ++ ib es.length) ++ (es.take k).flatMap fun e => ib e.1 ++ ib e.2) wr) (fun _ i _ => es.length - (intOf i).toNat)
  case atStart => exact ⟨0, rfl, Nat.zero_le _, by simpa using H4.out⟩
  case round =>
    clear H4
    obtain ⟨k, rfl, hk, ho⟩ := hrel
    have hpl : ((ib vars ++ ib es.length) ++ (es.take k).flatMap fun e => ib e.1 ++ ib e.2).length ≤ 20 + 20 * es.length := by
      have h3 := flat_len (es.take k)
      have h4 : (es.take k).length ≤ es.length := by rw [List.length_take]; omega
      simp only [List.length_append] at hl0 ⊢
      omega
    have HE : k = es.length → (ib vars ++ ib es.length) ++ ((es.take k).flatMap fun e => ib e.1 ++ ib e.2) = eb vars es := fun h => by rw [h, List.take_length]; rfl
    have HS2 : ∀ x : Int × Int, es[k]? = some x → (es.take (k + 1)).flatMap (fun e => ib e.1 ++ ib e.2) = (es.take k).flatMap (fun e => ib e.1 ++ ib e.2) ++ (ib x.1 ++ ib x.2) := fun x hx => by
      rw [List.take_add_one, hx, List.flatMap_append]; simp
    obtain ⟨ao, co, rfl, _⟩ := ho.form
    generalize hpre : ((ib vars ++ ib es.length) ++ (es.take k).flatMap fun e => ib e.1 ++ ib e.2) = pre at *
    have HP := Lib.hid hpre
    have HO := Lib.hid ho
    have HEE := Lib.hid (And.intro HE HS2)
    have hu := ho.u
    clear hpre ho HE HS2
    by_cases hlt : k < es.length
    · have hx : es[k]? = some (at_ es k) := by
        unfold at_; rw [List.getD_eq_getElem?_getD, List.getElem?_eq_getElem hlt]; rfl
      have hlk := lits_at hlt
      obtain ⟨⟨g2, rfl, hc2⟩, _⟩ := HS.out.2.2 (by omega)
      obtain ⟨g1, o1, rfl, hc1⟩ : ∃ g1 o1, a1 = some ⟨g1, o1, none⟩ ∧ ∀ j u, (ints (lits es))[j]? = some u → w.cell? ⟨g1, o1 + j, none⟩ = some u := by
        rcases HS.out.2.1 with h | h
        · omega
        · exact h
      have z1 := hc1 k _ (ints_get hlk)
      have z2 := hc2 k hlt
      have hr := HS.out.1.rsn _ (at_mem hlt)
      have hl := HS.out.1.lit _ (at_mem hlt)
      generalize at_ es k = xr at *
      obtain ⟨x, r⟩ := xr
      simp only at z1 z2 hr hl
      have HX := Lib.hid hx
      have HM := Lib.hid (And.intro m1 (And.intro z1 (And.intro m2 z2)))
      have y1 := hu.some m1 (by simp)
      have y2 := hu.some z1 (by simp)
      have y3 := hu.some m2 (by simp)
      have y4 := hu.some z2 (by simp)
      have hmk := fun (w' : World) (h : Upd [] w w') => Four.of (h.some HM.out.1 (by simp)) (h.some HM.out.2.1 (by simp)) (h.some HM.out.2.2.1 (by simp)) (h.some HM.out.2.2.2 (by simp))
      have ne : Nonempty (Four ⟨b, 1, none⟩ ⟨g1, o1 + k, none⟩ ⟨b, 2, none⟩ ⟨g2, k, none⟩ (.slice (some ⟨g1, o1, none⟩) es.length c1) (.int .i64 x) (.slice (some ⟨g2, 0, none⟩) es.length c2) (.int .i64 r)) := ⟨⟨wr, y1, y2, y3, y4⟩⟩
      have HMK := Lib.hid hmk
      clear hc1 hc2 z1 z2 hx hlk m0 m1 m2 hmk
      go_upto_region 5 with fail
      refine wp_region_ord 20 1 [0, 1, 2, 3, 4, 5, 6, 7, 10, 11, 12, 13, 14, 15, 16, 19] [4, 7, 13, 16] [0, 1, 2, 3, 4, 5, 6, 7, 10, 11, 12, 13, 14, 15, 16, 8, 9, 17, 18, 19] (fun w' => ∃ x_ : Four ⟨b, 1, none⟩ ⟨g1, o1 + k, none⟩ ⟨b, 2, none⟩ ⟨g2, k, none⟩ (.slice (some ⟨g1, o1, none⟩) es.length c1) (.int .i64 x) (.slice (some ⟨g2, 0, none⟩) es.length c2) (.int .i64 r), w' = x_.val) (by kernel_rfl) (by kernel_rfl) (HMK.out _ hu.drew) ?_
      clear y1 y2 y3 y4
      repeat (first | (refine wpOrd_load rfl rfl rfl rfl (fun K hK => ?_); go_big_quiet_step (fail); refine wpQuiet_nil ?_; refine hK _ ?_; clear hK K) | (refine wpOrd_free rfl rfl rfl (fun K hK => ?_); go_big_quiet_step (fail); refine wpQuiet_nil ?_; refine hK _ ?_; clear hK K))
      refine wpOrd_fix rfl rfl (fun K hK => ?_)
      go_wp2_with (go_at_call 65; refine (R02.Int_calls x (by unfold IsI64; omega)).mono ?_; rintro e w5 ⟨a5, cp5, rfl, op5⟩)
      have H5 := Lib.hid (And.intro op5.sl (HO.out.quiet (show Upd [] wr w5 from Upd.step (by iterate 25 (first | exact Upd.refl _ _ | assumption | refine Upd.alloc ?_ _ | refine Upd.drew ?_ | refine Upd.drewN ?_ _ | refine Upd.dl ?_ | refine Upd.step ?_ (Ext.upd _) | refine Upd.nil ?_ | skip)) op5.u)))
      have hb5 := ib_length x
      clear op5
      refine ⟨fun _ => HMK.out _ H5.out.2.u, ?_⟩
      repeat (first | (refine wpOrd_load rfl rfl rfl rfl (fun K hK => ?_); go_big_quiet_step (fail); refine wpQuiet_nil ?_; refine hK _ ?_; clear hK K) | (refine wpOrd_free rfl rfl rfl (fun K hK => ?_); go_big_quiet_step (fail); refine wpQuiet_nil ?_; refine hK _ ?_; clear hK K))
      refine wpOrd_fix rfl rfl (fun K hK => ?_)
      go_wp2_with (refine wpList_appS rfl _ _ _ rfl 5 1 1 _ Try.underlying62 infoByte rfl (by decide) _ _ _ rfl H5.out.2.row _ _ _ rfl H5.out.1 (byts_one _) (by unfold maxLen; omega) (by omega) ?_; intro a6 cap6 w6 o6 u6 k6; simp only [Act.put, List.setIfInBounds_toArray, List.set_cons_zero, List.set_cons_succ])
      have H6 := Lib.hid (H5.out.2.app o6 u6 k6)
      clear o6 u6 k6
      refine ⟨fun _ => HMK.out _ H6.out.u, ?_⟩
      repeat (first | (refine wpOrd_load rfl rfl rfl rfl (fun K hK => ?_); go_big_quiet_step (fail); refine wpQuiet_nil ?_; refine hK _ ?_; clear hK K) | (refine wpOrd_free rfl rfl rfl (fun K hK => ?_); go_big_quiet_step (fail); refine wpQuiet_nil ?_; refine hK _ ?_; clear hK K))
      refine wpOrd_fix rfl rfl (fun K hK => ?_)
      go_wp2_with (go_at_call 65; refine (R02.Int_calls r (by unfold IsI64; omega)).mono ?_; rintro e w7 ⟨a7, cp7, rfl, op7⟩)
      have H7 := Lib.hid (And.intro op7.sl (H6.out.quiet op7.u))
      have hb7 := ib_length r
      clear op7
      refine ⟨fun _ => HMK.out _ H7.out.2.u, ?_⟩
      repeat (first | (refine wpOrd_load rfl rfl rfl rfl (fun K hK => ?_); go_big_quiet_step (fail); refine wpQuiet_nil ?_; refine hK _ ?_; clear hK K) | (refine wpOrd_free rfl rfl rfl (fun K hK => ?_); go_big_quiet_step (fail); refine wpQuiet_nil ?_; refine hK _ ?_; clear hK K))
      refine wpOrd_fix rfl rfl (fun K hK => ?_)
      go_wp2_with (refine wpList_appS rfl _ _ _ rfl 5 1 1 _ Try.underlying62 infoByte rfl (by decide) _ _ _ rfl H7.out.2.row _ _ _ rfl H7.out.1 (byts_one _) (by simp only [List.length_append]; unfold maxLen; omega) (by simp only [List.length_append]; omega) ?_; intro a8 cap8 w8 o8 u8 k8; simp only [Act.put, List.setIfInBounds_toArray, List.set_cons_zero, List.set_cons_succ])
      have H8 := Lib.hid (H7.out.2.app o8 u8 k8)
      clear o8 u8 k8
      refine ⟨fun _ => HMK.out _ H8.out.u, ?_⟩
      repeat (first | (refine wpOrd_load rfl rfl rfl rfl (fun K hK => ?_); go_big_quiet_step (fail); refine wpQuiet_nil ?_; refine hK _ ?_; clear hK K) | (refine wpOrd_free rfl rfl rfl (fun K hK => ?_); go_big_quiet_step (fail); refine wpQuiet_nil ?_; refine hK _ ?_; clear hK K))
      refine wpOrd_nil ?_
      go_wp2_with fail
      refine ⟨⟨k + 1, by go_num, by omega, ?_⟩, by simp [intOf]; omega⟩
      rw [HEE.out.2 _ HX.out, ← List.append_assoc, HP.out, ← List.append_assoc]
      exact H8.out
    · have hke : k = es.length := by omega
      have hpe : pre = eb vars es := HEE.out.1 hke
      subst hpe
      have y1 := hu.some m1 (by simp)
      clear hke hpl
      go_wp2_with fail
      go_ret
      exact ⟨ao, co, rfl, HO.out⟩
end
end Ref
end Go.Proofs.Ytlfcabmbakjklaa
