/- Walks through package learn: fits and its closure. Conditions: none. Walks through package learn: fits. Conditions: none. -/
import Derived.Test.YtdhhohnaehdpkaaLrnA
import Derived.Test.YtdhhohnaehdpkaaVal
import Derived.Test.YtdhhohnaehdpkaaLists
set_option linter.unusedVariables false
set_option linter.unusedSimpArgs false
set_option linter.unusedSectionVars false
section
open Go.RowKit
namespace Go.Proofs.Ytdhhohnaehdpkaa
open L
namespace Learn
open Trail
/-- Is a literal false, and ahead of another one on the trail? -/
def befB (vars : Nat) (es : Es) (x y : Int) : Bool := decide (tval vars es y = -1 ∧ place es y.natAbs < place es x.natAbs)
section
variable {w : World} {ab b mb vars gP : Nat} {es : Es} {now : Int} {S : List Nat} {vl vlits vh : Value} {g : Int} {C : Int → Bool} {tp bt : Int}
set_option maxRecDepth 100000 in
set_option maxHeartbeats 4000000 in
theorem bef_calls (h : An w ab b mb vars es now S vl vlits (.slice (some ⟨gP, 0, none⟩) (vars + 1) (vars + 1)) vh g C tp bt) (hP : Blk w gP (ints (tabI (vars + 1) (place es))) 3) {b1 b2 : Nat} {x y : Int}
    (k1 : w.cell? ⟨b1, 0, none⟩ = some (.pointer (some ⟨ab, 0, none⟩))) (k2 : w.cell? ⟨b2, 0, none⟩ = some (.int .i64 x)) (hx : isLit vars x = true) (hy : -9223372036854775808 < y ∧ y ≤ 9223372036854775807) :
    Calls Try.prog 83 #[.int .i64 y, .pointer (some ⟨b1, 0, none⟩), .pointer (some ⟨b2, 0, none⟩)] w fun e w' => e = .returned (.bool (befB vars es x y)) ∧ Upd [] w w' := by
  have hv := h.tr.wf.max
  have c1 := h.box.cell (i := 1) rfl
  have c3 := h.box.cell (i := 3) rfl
  have HV := Lib.hid (fun (W : World) (u : Upd [] w W) => Trail.Value_calls (h.tr.upd u (by simp)) y)
  have hx2 := hx
  simp only [isLit, decide_eq_true_eq] at hx2
  have HX := Lib.hid (fun (W : World) => lvar_calls x W ⟨by omega, by omega⟩)
  have HY := Lib.hid (fun (W : World) => lvar_calls y W hy)
  have HP := Lib.hid hP
  clear h hx hP
  by_cases ht : tval vars es y = -1
  · have e1 : (tval vars es y == -1) = true := beq_iff_eq.2 ht
    have hyl : isLit vars y = true := by
      cases hq : isLit vars y with
      | true => rfl
      | false => unfold tval at ht; rw [hq] at ht; simp at ht
    simp only [isLit, decide_eq_true_eq] at hyl
    have HB := Lib.hid (show befB vars es x y = decide (place es y.natAbs < place es x.natAbs) by unfold befB; simp [ht])
    have hy1 : y.natAbs < vars + 1 := by omega
    have hx1 : x.natAbs < vars + 1 := by omega
    have hy3 : (y.natAbs : Int) < (vars : Int) + 1 := by omega
    have hx3 : (x.natAbs : Int) < (vars : Int) + 1 := by omega
    have d1 := HP.out.cell (i := y.natAbs) (ints_get (tabI_get (f := fun v => place es v) hy1))
    have d2 := HP.out.cell (i := x.natAbs) (ints_get (tabI_get (f := fun v => place es v) hx1))
    rw [HB.out]
    generalize tval vars es y = tv at *
    generalize place es y.natAbs = py at *
    generalize place es x.natAbs = px at *
    generalize y.natAbs = ny at *
    generalize x.natAbs = nx at *
    clear ht hyl
    go_enter Try.func83, Try.ntmps83
    go_upto_region 1 with fail
    refine wp_region_ord 27 1 [0, 1, 2, 3, 4, 6, 7, 8, 9, 10, 11, 12, 16, 17, 18, 19, 20, 14, 15, 22, 23, 24, 25, 26] [0, 3, 8, 11, 16, 19, 20, 15, 23] [0, 1, 2, 3, 4, 5, 6, 7, 8, 9, 10, 11, 12, 16, 17, 18, 19, 20, 13, 14, 15, 21, 22, 23, 24, 25, 26] (fun w' => ∃ x : Ext w, w' = x.val) (by kernel_rfl) (by kernel_rfl) (Ext.of ((Upd.refl _ _).drew)) ?_
    repeat (first | (refine wpOrd_load rfl rfl rfl rfl (fun K hK => ?_); go_big_quiet_step (fail); refine wpQuiet_nil ?_; refine hK _ ?_; clear hK K) | (refine wpOrd_free rfl rfl rfl (fun K hK => ?_); go_big_quiet_step (fail); refine wpQuiet_nil ?_; refine hK _ ?_; clear hK K))
    refine wpOrd_fix rfl rfl (fun K hK => ?_)
    go_wp2_with (go_at_call 29; (with_reducible refine (HV.out _ ((Upd.refl _ w).drew)).mono ?_); rintro e w2 ⟨rfl, u2⟩)
    have U2 : Upd [] w w2 := ((Upd.refl _ w).drew).step u2
    refine ⟨fun _ => Ext.of U2, ?_⟩
    repeat (first | (refine wpOrd_load rfl rfl rfl rfl (fun K hK => ?_); go_big_quiet_step (fail); refine wpQuiet_nil ?_; refine hK _ ?_; clear hK K) | (refine wpOrd_free rfl rfl rfl (fun K hK => ?_); go_big_quiet_step (fail); refine wpQuiet_nil ?_; refine hK _ ?_; clear hK K))
    refine wpOrd_fix rfl rfl (fun K hK => ?_)
    go_wp2_with (go_at_call 66; first | (refine (HY.out _).mono ?_; rintro e _ ⟨rfl, rfl⟩) | (refine (HX.out _).mono ?_; rintro e _ ⟨rfl, rfl⟩))
    refine ⟨fun _ => Ext.of U2, ?_⟩
    repeat (first | (refine wpOrd_load rfl rfl rfl rfl (fun K hK => ?_); go_big_quiet_step (fail); refine wpQuiet_nil ?_; refine hK _ ?_; clear hK K) | (refine wpOrd_free rfl rfl rfl (fun K hK => ?_); go_big_quiet_step (fail); refine wpQuiet_nil ?_; refine hK _ ?_; clear hK K))
    refine wpOrd_fix rfl rfl (fun K hK => ?_)
    go_wp2_with (go_at_call 66; first | (refine (HX.out _).mono ?_; rintro e _ ⟨rfl, rfl⟩) | (refine (HY.out _).mono ?_; rintro e _ ⟨rfl, rfl⟩))
    refine ⟨fun _ => Ext.of U2, ?_⟩
    repeat (first | (refine wpOrd_load rfl rfl rfl rfl (fun K hK => ?_); go_big_quiet_step (fail); refine wpQuiet_nil ?_; refine hK _ ?_; clear hK K) | (refine wpOrd_free rfl rfl rfl (fun K hK => ?_); go_big_quiet_step (fail); refine wpQuiet_nil ?_; refine hK _ ?_; clear hK K))
    refine wpOrd_nil ?_
    go_wp2_with fail
    go_ret
    exact ⟨rfl, U2⟩
  · have e1 : (tval vars es y == -1) = false := beq_eq_false_iff_ne.2 ht
    have HB := Lib.hid (show befB vars es x y = false by unfold befB; simp [ht])
    rw [HB.out]
    generalize tval vars es y = tv at *
    clear ht
    go_enter Try.func83, Try.ntmps83
    go_upto_region 1 with fail
    refine wp_region_ord 27 1 [0, 1, 2, 3, 4, 6, 7, 8, 9, 10, 11, 12, 16, 17, 18, 19, 20, 14, 15, 22, 23, 24, 25, 26] [0, 3, 8, 11, 16, 19, 20, 15, 23] [0, 1, 2, 3, 4, 5, 6, 7, 8, 9, 10, 11, 12, 16, 17, 18, 19, 20, 13, 14, 15, 21, 22, 23, 24, 25, 26] (fun w' => ∃ x : Ext w, w' = x.val) (by kernel_rfl) (by kernel_rfl) (Ext.of ((Upd.refl _ _).drew)) ?_
    repeat (first | (refine wpOrd_load rfl rfl rfl rfl (fun K hK => ?_); go_big_quiet_step (fail); refine wpQuiet_nil ?_; refine hK _ ?_; clear hK K) | (refine wpOrd_free rfl rfl rfl (fun K hK => ?_); go_big_quiet_step (fail); refine wpQuiet_nil ?_; refine hK _ ?_; clear hK K))
    refine wpOrd_fix rfl rfl (fun K hK => ?_)
    go_wp2_with (go_at_call 29; (with_reducible refine (HV.out _ ((Upd.refl _ w).drew)).mono ?_); rintro e w2 ⟨rfl, u2⟩)
    have U2 : Upd [] w w2 := ((Upd.refl _ w).drew).step u2
    refine ⟨fun _ => Ext.of U2, ?_⟩
    repeat (first | (refine wpOrd_load rfl rfl rfl rfl (fun K hK => ?_); go_big_quiet_step (fail); refine wpQuiet_nil ?_; refine hK _ ?_; clear hK K) | (refine wpOrd_free rfl rfl rfl (fun K hK => ?_); go_big_quiet_step (fail); refine wpQuiet_nil ?_; refine hK _ ?_; clear hK K))
    refine wpOrd_fix rfl rfl (fun K hK => ?_)
    go_wp2_with fail
    refine ⟨fun _ => Ext.of U2, ?_⟩
    repeat (first | (refine wpOrd_load rfl rfl rfl rfl (fun K hK => ?_); go_big_quiet_step (fail); refine wpQuiet_nil ?_; refine hK _ ?_; clear hK K) | (refine wpOrd_free rfl rfl rfl (fun K hK => ?_); go_big_quiet_step (fail); refine wpQuiet_nil ?_; refine hK _ ?_; clear hK K))
    refine wpOrd_fix rfl rfl (fun K hK => ?_)
    go_wp2_with fail
    refine ⟨fun _ => Ext.of U2, ?_⟩
    repeat (first | (refine wpOrd_load rfl rfl rfl rfl (fun K hK => ?_); go_big_quiet_step (fail); refine wpQuiet_nil ?_; refine hK _ ?_; clear hK K) | (refine wpOrd_free rfl rfl rfl (fun K hK => ?_); go_big_quiet_step (fail); refine wpQuiet_nil ?_; refine hK _ ?_; clear hK K))
    refine wpOrd_nil ?_
    go_wp2_with fail
    go_ret
    exact ⟨rfl, U2⟩
end
end Learn
end Go.Proofs.Ytdhhohnaehdpkaa
end
section
open Go.RowKit
namespace Go.Proofs.Ytdhhohnaehdpkaa
open L
namespace Learn
open Trail Cla R01
/-- Does a clause with a number fit as the reason of a literal? -/
def FitP (L : List (List Int)) (vars : Nat) (es : Es) (x r : Int) : Prop :=
  0 ≤ r ∧ r < L.length ∧ validErr (L.getD r.toNat []) = 0 ∧ x ∈ L.getD r.toNat [] ∧ ∀ y ∈ L.getD r.toNat [], y ≠ x → befB vars es x y = true
noncomputable def fitB (L : List (List Int)) (vars : Nat) (es : Es) (x r : Int) : Bool := @decide (FitP L vars es x r) (Classical.propDecidable _)
theorem fitB_true {L : List (List Int)} {vars : Nat} {es : Es} {x r : Int} (h : FitP L vars es x r) : fitB L vars es x r = true := by unfold fitB; exact @decide_eq_true _ (Classical.propDecidable _) h
theorem fitB_false {L : List (List Int)} {vars : Nat} {es : Es} {x r : Int} (h : ¬ FitP L vars es x r) : fitB L vars es x r = false := by unfold fitB; exact @decide_eq_false _ (Classical.propDecidable _) h
section
variable {w : World} {ab b mb vars gP : Nat} {es : Es} {now : Int} {S : List Nat} {vlits vh : Value} {g : Int} {C : Int → Bool} {tp bt : Int}
set_option maxRecDepth 100000 in
set_option maxHeartbeats 4000000 in
theorem fits_calls {aL : Option Addr} {cL : Nat} {L : List (List Int)} (h : An w ab b mb vars es now S (.slice aL L.length cL) vlits (.slice (some ⟨gP, 0, none⟩) (vars + 1) (vars + 1)) vh g C tp bt) (hL : CL w (.slice aL L.length cL) L) (hP : Blk w gP (ints (tabI (vars + 1) (place es))) 3) {x r : Int}
    (hx : isLit vars x = true) (hr : IsI64 r) :
    Calls Try.prog 69 #[.pointer (some ⟨ab, 0, none⟩), .int .i64 x, .int .i64 r] w fun e w' => e = .returned (.bool (fitB L vars es x r)) ∧ Upd [] w w' := by
  have B1 := (Blk.new w [.pointer (some ⟨ab, 0, none⟩)] 70).alloc (.cells #[.int .i64 x] 3)
  have B2 := Blk.new (w.alloc (.cells #[.pointer (some ⟨ab, 0, none⟩)] 70)) [.int .i64 x] 3
  rw [show (w.alloc (.cells #[.pointer (some ⟨ab, 0, none⟩)] 70)).heap.size = w.heap.size + 1 by simp] at B2
  have u2 := ((Upd.refl [] w).alloc (.cells #[.pointer (some ⟨ab, 0, none⟩)] 70)).alloc (.cells #[.int .i64 x] 3)
  have H2 := Lib.hid (And.intro B1 (And.intro B2 (And.intro (h.ext u2) (And.intro (hL.upd u2) (And.intro (hP.upd u2 (by simp)) u2)))))
  have HXL := Lib.hid hx
  clear B1 B2 u2 h hL hP hx
  go_enter Try.func69, Try.ntmps69
  go_upto_region 1 with fail
  generalize (w.alloc (.cells #[.pointer (some ⟨ab, 0, none⟩)] 70)).alloc (.cells #[.int .i64 x] 3) = w2 at *
  have c0 := H2.out.2.2.1.box.cell (i := 0) rfl
  have k1 := H2.out.1.cell (i := 0) rfl
  have k2 := H2.out.2.1.cell (i := 0) rfl
  by_cases h1 : r < 0
  · have HF := Lib.hid (fitB_false (L := L) (vars := vars) (es := es) (x := x) (r := r) (fun h => by have := h.1; omega))
    go_wp2_with fail
    go_ret
    exact ⟨by rw [HF.out]; rfl, H2.out.2.2.2.2.2⟩
  · by_cases h2 : r ≥ (L.length : Int)
    · have HF := Lib.hid (fitB_false (L := L) (vars := vars) (es := es) (x := x) (r := r) (fun h => by have := h.2.1; omega))
      go_wp2_with fail
      go_ret
      exact ⟨by rw [HF.out]; rfl, H2.out.2.2.2.2.2⟩
    · obtain ⟨rn, rfl⟩ := Int.eq_ofNat_of_zero_le (show 0 ≤ r by omega)
      have hrn : rn < L.length := by omega
      obtain ⟨_, _, he, _, _, hat⟩ := H2.out.2.2.2.1.form
      cases he
      obtain ⟨gl, off, ay, capy, rfl, hcell, hsl, hq, hr2⟩ := hat rn hrn
      have hFD : fitB L vars es x rn = @decide (validErr (L.getD rn []) = 0 ∧ x ∈ L.getD rn [] ∧ ∀ y ∈ L.getD rn [], y ≠ x → befB vars es x y = true) (Classical.propDecidable _) := by
        unfold fitB FitP
        rw [Int.toNat_natCast]
        congr 1
        apply propext
        constructor
        · exact fun h => h.2.2
        · exact fun h => ⟨by omega, by omega, h⟩
      have HFD := Lib.hid hFD
      have HVL := Lib.hid (Valid_calls hsl)
      clear hat hFD
      generalize L.getD rn [] = c at *
      by_cases hv : validErr c = 0
      · have hb : (validErr c != 0) = false := by rw [hv]; rfl
        have hFE : fitB L vars es x rn = @decide (x ∈ c ∧ ∀ y ∈ c, y ≠ x → befB vars es x y = true) (Classical.propDecidable _) := by
          rw [HFD.out]
          congr 1
          apply propext
          exact ⟨fun h => h.2, fun h => ⟨hv, h⟩⟩
        have HFE := Lib.hid hFE
        have HLT := Lib.hid (listErr_lit (validErr_ok.1 hv).1).2
        have hcl := (listErr_lit (validErr_ok.1 hv).1).1
        rw [hv] at HVL
        clear hv hb HFD hFE
        go_upto_region 5 with (go_at_call 35; (with_reducible refine HVL.out.mono ?_); rintro e w3 ⟨rfl, u3⟩; have c0' := u3.some c0 (by simp); have k1' := u3.some k1 (by simp); have hcell' := u3.some hcell (by simp))
        have H3 := Lib.hid (And.intro (H2.out.1.upd u3 (by simp)) (And.intro (H2.out.2.1.upd u3 (by simp)) (And.intro (H2.out.2.2.1.ext u3) (And.intro (H2.out.2.2.2.2.1.upd u3 (by simp)) (And.intro (H2.out.2.2.2.2.2.step u3) (hsl.upd u3 (by simp)))))))
        have hcell3 := u3.some hcell (by simp)
        clear c0 k1 k2 hcell c0' k1' hcell' H2 HVL hsl u3
        have c0 := H3.out.2.2.1.box.cell (i := 0) rfl
        have k1 := H3.out.1.cell (i := 0) rfl
        obtain ⟨_, _, he, _, _, hcc⟩ := SL.form H3.out.2.2.2.2.2
        cases he
        have HCC := Lib.hid hcc
        clear hcc
        go_wp2_with fail
        go_loopw [8, 42] (fun b i wr => ∃ k : Nat, i = .int .i64 k ∧ k ≤ c.length ∧ b = .bool (decide (x ∈ c.take k)) ∧ (∀ y ∈ c.take k, y ≠ x → befB vars es x y = true) ∧ Upd [] w3 wr) (fun _ i _ => c.length - (numOf i).toNat)
        case atStart => exact ⟨0, rfl, Nat.zero_le _, by simp, by simp, Upd.refl _ _⟩
        case round =>
          obtain ⟨wo, rfl⟩ : ∃ wo : World, wo = wr := ⟨_, rfl⟩
          obtain ⟨k, rfl, hk, rfl, hy, hU⟩ := hrel
          have HU := Lib.hid (And.intro hy hU)
          clear hy
          have k2 := hU.some (H3.out.2.1.cell (i := 0) rfl) (by simp)
          by_cases hlt : k < c.length
          · have hki : (k : Int) < c.length := by omega
            obtain ⟨gy, oy, rfl, kc⟩ := HCC.out (by omega)
            have e1 := hU.some (kc k _ (ints_get (List.getElem?_eq_getElem hlt))) (by simp)
            have hyl := HLT.out _ (List.getElem_mem hlt)
            have HTK := Lib.hid (show c.take (k + 1) = c.take k ++ [c[k]] by rw [List.take_add_one, List.getElem?_eq_getElem hlt]; rfl)
            have HMM := Lib.hid (List.getElem_mem hlt)
            clear kc
            generalize c[k] = y at *
            by_cases hyx : y = x
            · have e2 : (y == x) = true := beq_iff_eq.2 hyx
              have HN := Lib.hid (show true = decide (x ∈ c.take (k + 1)) ∧ ∀ z ∈ c.take (k + 1), z ≠ x → befB vars es x z = true by
                rw [HTK.out]
                refine ⟨by simp [hyx], fun z hz hzx => ?_⟩
                rcases List.mem_append.1 hz with hz | hz
                · exact HU.out.1 z hz hzx
                · rw [List.mem_singleton] at hz; exact absurd (hz.trans hyx) hzx)
              clear hyx hU
              go_wp2_with fail
              exact ⟨⟨k + 1, by go_num, by omega, by rw [← HN.out.1], HN.out.2, HU.out.2⟩, by simp [numOf]; omega⟩
            · have e2 : (y == x) = false := beq_eq_false_iff_ne.2 hyx
              have HBF := Lib.hid (bef_calls (H3.out.2.2.1.ext hU) (H3.out.2.2.2.1.upd hU (by simp)) (hU.some k1 (by simp)) k2 HXL.out ⟨by omega, by omega⟩ (y := y))
              cases hbf : befB vars es x y with
              | true =>
                rw [hbf] at HBF
                have HN := Lib.hid (show decide (x ∈ c.take k) = decide (x ∈ c.take (k + 1)) ∧ ∀ z ∈ c.take (k + 1), z ≠ x → befB vars es x z = true by
                  rw [HTK.out]
                  refine ⟨by simp [Ne.symm hyx], fun z hz hzx => ?_⟩
                  rcases List.mem_append.1 hz with hz | hz
                  · exact HU.out.1 z hz hzx
                  · rw [List.mem_singleton] at hz; subst hz; exact hbf)
                clear hyx hbf hU
                go_wp2_with (go_at_call 83; (with_reducible refine HBF.out.mono ?_); rintro e w5 ⟨rfl, u5⟩)
                exact ⟨⟨k + 1, by go_num, by omega, by rw [← HN.out.1], HN.out.2, HU.out.2.step u5⟩, by simp [numOf]; omega⟩
              | false =>
                rw [hbf] at HBF
                have HF := Lib.hid (show fitB L vars es x rn = false by
                  rw [HFE.out]
                  exact @decide_eq_false _ (Classical.propDecidable _) (fun h => by have := h.2 y HMM.out hyx; rw [hbf] at this; cases this))
                clear hyx hbf hU
                go_wp2_with (go_at_call 83; (with_reducible refine HBF.out.mono ?_); rintro e w5 ⟨rfl, u5⟩)
                go_ret
                exact ⟨by rw [HF.out]; rfl, H3.out.2.2.2.2.1.step (HU.out.2.step u5)⟩
          · have hki : ¬ (k : Int) < c.length := by omega
            have HF := Lib.hid (show decide (x ∈ c.take k) = fitB L vars es x rn by
              have hkn : c.take k = c := List.take_of_length_le (by omega)
              have hall := HU.out.1
              rw [hkn] at hall ⊢
              rw [HFE.out]
              by_cases hm : x ∈ c
              · rw [decide_eq_true hm]; exact (@decide_eq_true _ (Classical.propDecidable _) ⟨hm, hall⟩).symm
              · rw [decide_eq_false hm]; exact (@decide_eq_false _ (Classical.propDecidable _) (fun h => hm h.1)).symm)
            rw [HF.out]
            clear hlt hU
            go_wp2_with fail
            go_ret
            exact ⟨rfl, H3.out.2.2.2.2.1.step HU.out.2⟩
      · have hb : (validErr c != 0) = true := by simpa using hv
        have HF := Lib.hid (show fitB L vars es x rn = false by rw [HFD.out]; exact @decide_eq_false _ (Classical.propDecidable _) (fun h => hv h.1))
        generalize validErr c = z at *
        clear hv
        go_wp2_with (go_at_call 35; (with_reducible refine HVL.out.mono ?_); rintro e w3 ⟨rfl, u3⟩)
        go_ret
        exact ⟨by rw [HF.out]; rfl, H2.out.2.2.2.2.2.step u3⟩
end
end Learn
end Go.Proofs.Ytdhhohnaehdpkaa
end
