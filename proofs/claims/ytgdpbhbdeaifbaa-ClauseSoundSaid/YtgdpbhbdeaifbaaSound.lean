/- Walks through the laws of clauses: ClauseSound. Conditions: none. -/
import Derived.Test.YtgdpbhbdeaifbaaSoundM
set_option linter.unusedVariables false
set_option linter.unusedSimpArgs false
set_option linter.unusedSectionVars false
open Go.RowKit
namespace Go.Proofs.Ytgdpbhbdeaifbaa
open L
namespace Law
open R01 R14 Cla
attribute [-go_sem] sliced
theorem asg_bd {v : Nat} {t : List Int} (h : Asg v t) : ∀ y ∈ t, -9223372036854775808 < y ∧ y ≤ 9223372036854775807 := by
  intro x hx
  obtain ⟨i, hi, rfl⟩ := List.getElem_of_mem hx
  have e : t.getD i 0 = t[i] := by rw [List.getD_eq_getElem?_getD, List.getElem?_eq_getElem hi]; rfl
  rw [← e]
  by_cases h0 : i = 0
  · subst h0; rw [h.2.1]; omega
  · have := h.2.2 i (by omega) (by have := h.1; omega)
    omega
theorem few_lit {v : Nat} {c t : List Int} (h : Few v c) (hv : v ≤ 100) (ht : Asg v t) : ∀ x ∈ c, LitR x ∧ x.natAbs < t.length := fun x hx => by
  have := h x hx
  have := ht.1
  exact ⟨⟨by omega, by omega⟩, by omega⟩
def fineB (hs : List (List Int)) (t : List Int) (m : Nat) : Bool := (hs.take m).all fun h => trueB h t
theorem fineB_succ {hs : List (List Int)} {t : List Int} {m : Nat} (h : m < hs.length) : fineB hs t (m + 1) = (fineB hs t m && trueB (hs.getD m []) t) := by
  unfold fineB
  rw [List.take_add_one, gd_some (d := []) h]
  simp
theorem fineB_all {hs : List (List Int)} {t : List Int} {m : Nat} (h : hs.length ≤ m) (ht : fineB hs t m = true) : ∀ c ∈ hs, trueB c t = true := by
  unfold fineB at ht
  rw [List.take_of_length_le h, List.all_eq_true] at ht
  exact ht
section
variable {w : World}
set_option maxRecDepth 100000 in
set_option maxHeartbeats 8000000 in
theorem ClauseSound_calls {lv : Value} {xs : List Int} (hx : ∀ x ∈ xs, IsI64 x) (hl : SL w 1 lv xs.length (ints xs)) (n : Int) (hn : IsI64 n) :
    Calls Try.prog 8 #[lv, .int .i64 n] w fun e w' => e = .returned (.bool true) ∧ Upd [] w w' := by
  have HX := Lib.hid (And.intro hx hl)
  clear hx hl
  go_enter Try.func8, Try.ntmps8
  go_wp2_with fail
  refine (Hints_calls HX.out.1 HX.out.2 4 (by omega) (by omega)).mono ?_
  rintro e w1 ⟨v1, H, rfl, hcl, hHn, hel, hu1⟩
  obtain ⟨a, cap, rfl, hc1, hc2, hcc⟩ := hcl.form
  have HG := Lib.hid (show ∀ c ∈ H, Good 4 c from hel)
  have H1 := Lib.hid (And.intro hcl hu1)
  clear hcl hel hu1 hcc HX
  go_wp2_with fail
  refine (All_calls 4 (by omega)).mono ?_
  rintro e w2 ⟨v2, T, rfl, hT, hTl, hTA, u2⟩
  obtain ⟨at_, ct, rfl, hq1, hq2, hct⟩ := hT.form
  have H2 := Lib.hid (And.intro (H1.out.1.upd u2) (And.intro (H1.out.2.step u2) (And.intro hT hTA)))
  have hTl16 : T.length ≤ 16 := hTl
  clear hT hTl hTA u2 hct H1
  go_wp2_with fail
  go_loopw [7] (fun k wr => ∃ j : Nat, j ≤ 3 ∧ k = .int .i64 j ∧ Upd [] w2 wr) (fun k _ => 3 - (intOf k).toNat)
  case atStart => exact ⟨0, by omega, rfl, Upd.refl _ _⟩
  case round =>
    obtain ⟨k, hk, rfl, hu⟩ := hrel
    have HU := Lib.hid hu
    clear hu
    by_cases hlt : k < 3
    · obtain ⟨wo, rfl⟩ : ∃ wo : World, wo = wr := ⟨_, rfl⟩
      have hk0 : (k : Int) + 1 ≠ 0 := by omega
      go_upto_region 7 with (go_at_call 31; refine (SomeO_calls _ (1 + (k : Int)) (isI64_wrap _) (by omega)).mono ?_; rintro e w3 ⟨v3, c, rfl, o3, x3, l3, r3⟩; obtain ⟨ac, pc, he3, hl3, hf3⟩ := o3.form; subst he3; clear hl3 hf3; have HC := Lib.hid (And.intro (show Good (1 + (k : Int)) c from ⟨x3, l3, r3⟩) (And.intro o3.sl o3.u)); clear o3 x3 l3 r3)
      have hGc : Few 4 c := good_few HC.out.1 (by omega)
      have H3 := Lib.hid (And.intro HC.out.2.1 (And.intro (HU.out.step HC.out.2.2) hGc))
      clear hGc HU
      go_wp2_with fail
      go_loopw [9] (fun i wr => ∃ j : Nat, j ≤ H.length + 1 ∧ i = .int .i64 j ∧ Upd [] w3 wr) (fun i _ => H.length + 1 - (intOf i).toNat)
      case atStart => exact ⟨0, by omega, rfl, Upd.refl _ _⟩
      case round =>
        obtain ⟨i, hi, rfl, hu⟩ := hrel
        have HU := Lib.hid hu
        clear hu
        by_cases hlti : i ≤ H.length
        · have hch := Chain_calls (H3.out.1.upd HU.out (by simp)) (CL.from_ ((H2.out.1.upd H3.out.2.1).upd HU.out) hlti) (by rw [List.length_drop]; omega)
          have HCH := Lib.hid hch
          clear hch
          obtain ⟨w4, rfl⟩ : ∃ w4 : World, w4 = wr := ⟨_, rfl⟩
          go_wp2_with fail
          refine HCH.out.mono ?_
          rintro e w5 ⟨rfl, u5⟩
          have H5 := Lib.hid (HU.out.step u5)
          clear u5 HU HCH
          by_cases hcr : chainRes c (H.drop i) = 0
          · have HR := Lib.hid hcr
            rw [hcr]
            clear hcr
            go_wp2_with fail
            go_loopw [10] (fun k wr => ∃ j : Nat, j ≤ T.length ∧ k = .int .i64 j ∧ Upd [] w3 wr) (fun k _ => T.length - (intOf k).toNat)
            case atStart => exact ⟨0, by omega, rfl, H5.out⟩
            case round =>
              clear H5
              obtain ⟨j, hj, rfl, hu⟩ := hrel
              have HU := Lib.hid hu
              clear hu
              by_cases hltj : j < T.length
              · obtain ⟨_, _, he, _, _, hct⟩ := H2.out.2.2.1.form
                cases he
                obtain ⟨g, off, ay, capy, rfl, e1, hsl, _, _⟩ := (hct j hltj).upd (H3.out.2.1.step HU.out)
                have hta := H2.out.2.2.2 _ (gd_memA (d := []) hltj)
                have HT := Lib.hid (And.intro hsl hta)
                generalize T.getD j [] = t at *
                clear hct hsl hta
                have ec := HU.out
                obtain ⟨w6, rfl⟩ : ∃ w6 : World, w6 = wr := ⟨_, rfl⟩
                clear ec
                go_wp2_with fail
                go_loopw [11, 12] (fun f m wr => ∃ q : Nat, i ≤ q ∧ q ≤ H.length ∧ m = .int .i64 q ∧ f = .bool (fineB (H.drop i) t (q - i)) ∧ Upd [] w6 wr) (fun _ m _ => H.length - (intOf m).toNat)
                case atStart => exact ⟨i, by omega, by omega, rfl, by simp [fineB], Upd.refl _ _⟩
                case round =>
                  obtain ⟨q, hqi, hq, rfl, rfl, hu⟩ := hrel
                  have e2 := hu.some e1 (by simp)
                  have HV := Lib.hid (And.intro hu (HT.out.1.upd hu (by simp)))
                  clear hu
                  obtain ⟨w7, rfl⟩ : ∃ w7 : World, w7 = wr := ⟨_, rfl⟩
                  by_cases hltq : q < H.length
                  · obtain ⟨_, _, he, _, _, hcc⟩ := H2.out.1.form
                    cases he
                    obtain ⟨gh, offh, az, capz, rfl, e3, hslh, _, _⟩ := (hcc q hltq).upd (((H3.out.2.1).step HU.out).step HV.out.1)
                    have hfs : fineB (H.drop i) t (q + 1 - i) = (fineB (H.drop i) t (q - i) && trueB (H.getD q []) t) := by
                      rw [show q + 1 - i = (q - i) + 1 by omega, fineB_succ (by rw [List.length_drop]; omega)]
                      congr 2
                      rw [List.getD_eq_getElem?_getD, List.getD_eq_getElem?_getD, List.getElem?_drop, show i + (q - i) = q by omega]
                    have hgh := HG.out _ (gd_memA (d := []) hltq)
                    have HW := Lib.hid (And.intro hfs (And.intro hslh (good_few (v := 4) hgh (by omega))))
                    generalize H.getD q [] = d at *
                    clear hfs hslh hgh hcc
                    generalize hfb : fineB (H.drop i) t (q - i) = fb at *
                    have HFB := Lib.hid hfb
                    clear hfb
                    cases fb with
                    | true =>
                      have htd : (true && trueB d t) = trueB d t := Bool.true_and _
                      have HTD := Lib.hid htd
                      clear htd
                      go_wp2_with fail
                      refine wp_region_qx (by kernel_rfl) (by kernel_rfl) ?_
                      repeat (go_big_quiet_step (((go_at_call 32; exact qs (True_calls (HW.out.2.1.upd (Ext.upd _) (by simp)) (HV.out.2.upd (Ext.upd _) (by simp)) (few_lit HW.out.2.2 (by omega) HT.out.2) (asg_bd HT.out.2))))))
                      refine wpQuiet_nil ?_
                      intro x
                      go_wp2_with fail
                      exact ⟨⟨q + 1, by omega, by omega, by go_num, by rw [HW.out.1, HTD.out], HV.out.1.step x.upd⟩, by simp [intOf]; omega⟩
                    | false =>
                      go_wp2_with fail
                      refine wp_region_qx (by kernel_rfl) (by kernel_rfl) ?_
                      repeat (go_big_quiet_step ((fail)))
                      refine wpQuiet_nil ?_
                      intro x
                      go_wp2_with fail
                      exact ⟨⟨q + 1, by omega, by omega, by go_num, by rw [HW.out.1]; rfl, HV.out.1.step (Ext.upd _)⟩, by simp [intOf]; omega⟩
                  · have HFA := Lib.hid (fun (h : fineB (H.drop i) t (q - i) = true) => chain_sound HT.out.2 H3.out.2.2 (fun h hh => good_few (HG.out h (List.mem_of_mem_drop hh)) (by omega)) HR.out (fineB_all (by rw [List.length_drop]; omega) h))
                    cases hfb : fineB (H.drop i) t (q - i) with
                    | true =>
                      have htc := HFA.out hfb
                      have hcall := True_calls (w := w7) ((H3.out.1.upd HU.out (by simp)).upd HV.out.1 (by simp)) HV.out.2 (few_lit H3.out.2.2 (by omega) HT.out.2) (asg_bd HT.out.2)
                      rw [htc] at hcall
                      have HCL := Lib.hid hcall
                      clear hcall htc hfb
                      go_wp2_with (go_at_call 32; refine HCL.out.mono ?_; rintro e w' ⟨rfl, rfl⟩)
                      exact ⟨⟨j + 1, by omega, by go_num, HU.out.step HV.out.1⟩, by simp [intOf]; omega⟩
                    | false =>
                      clear hfb
                      go_wp2_with fail
                      exact ⟨⟨j + 1, by omega, by go_num, HU.out.step HV.out.1⟩, by simp [intOf]; omega⟩
              · go_wp2_with fail
                exact ⟨⟨i + 1, by omega, by go_num, HU.out⟩, by simp [intOf]; omega⟩
          · have hb : (chainRes c (H.drop i) != 0) = true := by simpa using hcr
            clear hcr
            generalize chainRes c (H.drop i) = cr at *
            go_wp2_with fail
            exact ⟨⟨i + 1, by omega, by go_num, H5.out⟩, by simp [intOf]; omega⟩
        · go_wp2_with fail
          exact ⟨⟨k + 1, by omega, by go_num, H3.out.2.1.step HU.out⟩, by simp [intOf]; omega⟩
    · have HU2 := Lib.hid (H2.out.2.1.step HU.out)
      obtain ⟨wq, rfl⟩ : ∃ wq : World, wq = wr := ⟨_, rfl⟩
      go_wp2_with fail
      go_loopw [13] (fun k wr => ∃ j : Nat, j ≤ H.length ∧ k = .int .i64 j ∧ Upd [] w2 wr) (fun k _ => H.length - (intOf k).toNat)
      case atStart => exact ⟨0, by omega, rfl, HU.out⟩
      case round =>
        clear HU HU2
        obtain ⟨i, hi, rfl, hu⟩ := hrel
        have HU := Lib.hid hu
        clear hu
        by_cases hlti : i < H.length
        · obtain ⟨w3, rfl⟩ : ∃ w3 : World, w3 = wr := ⟨_, rfl⟩
          go_wp2_with fail
          go_loopw [14] (fun k wr => ∃ j : Nat, j ≤ H.length ∧ k = .int .i64 j ∧ Upd [] w2 wr) (fun k _ => H.length - (intOf k).toNat)
          case atStart => exact ⟨0, by omega, rfl, HU.out⟩
          case round =>
            clear HU
            obtain ⟨k2, hk2, rfl, hu⟩ := hrel
            have HU := Lib.hid hu
            clear hu
            by_cases hltk : k2 < H.length
            · obtain ⟨w4, rfl⟩ : ∃ w4 : World, w4 = wr := ⟨_, rfl⟩
              obtain ⟨_, _, he, _, _, hcc⟩ := H2.out.1.form
              cases he
              obtain ⟨g, off, ay, capy, rfl, e1, hsl, _, _⟩ := (hcc i hlti).upd HU.out
              obtain ⟨g', off', az, capz, he, e2, hsl2, _, _⟩ := (hcc k2 hltk).upd HU.out
              cases he
              have HCD := Lib.hid (And.intro (HG.out _ (gd_memA (d := []) hlti)) (And.intro (HG.out _ (gd_memA (d := []) hltk)) (And.intro hsl (And.intro hsl2 (And.intro e1 e2)))))
              generalize H.getD i [] = c at *
              generalize H.getD k2 [] = d at *
              clear hcc hsl hsl2 e1 e2
              go_wp2_with fail
              go_loopw [15] (fun p wr => ∃ q : Int, 1 ≤ q ∧ q ≤ 5 ∧ p = .int .i64 q ∧ Upd [] w4 wr) (fun p _ => (5 - intOf p).toNat)
              case atStart => exact ⟨1, by omega, by omega, rfl, Upd.refl _ _⟩
              case round =>
                obtain ⟨q, hq1, hq2, rfl, hu⟩ := hrel
                by_cases hq : q ≤ 4
                · obtain ⟨w5, rfl⟩ : ∃ w5 : World, w5 = wr := ⟨_, rfl⟩
                  have e1 := hu.some HCD.out.2.2.2.2.1 (by simp)
                  have e2 := hu.some HCD.out.2.2.2.2.2 (by simp)
                  have H5 := Lib.hid (And.intro hu (And.intro (HCD.out.2.2.1.upd hu (by simp)) (HCD.out.2.2.2.1.upd hu (by simp))))
                  clear hu
                  go_wp2_with fail
                  refine wp_region_ord 9 1 [0, 1, 2, 3, 4, 5, 6, 7, 8, 10, 11, 12, 13, 14] [3, 7] [0, 1, 2, 3, 4, 5, 6, 7, 8, 9, 10, 11, 12, 13, 14] (fun w' => ∃ x : Ext w5, w' = x.val) (by kernel_rfl) (by kernel_rfl) (Ext.of (by iterate 25 (first | exact Upd.refl _ _ | assumption | refine Upd.alloc ?_ _ | refine Upd.drew ?_ | refine Upd.drewN ?_ _ | refine Upd.dl ?_ | refine Upd.step ?_ (Ext.upd _) | refine Upd.nil ?_ | skip))) ?_
                  repeat (first | (refine wpOrd_load rfl rfl rfl rfl (fun K hK => ?_); go_big_quiet_step (fail); refine wpQuiet_nil ?_; refine hK _ ?_; clear hK K) | (refine wpOrd_free rfl rfl rfl (fun K hK => ?_); go_big_quiet_step (fail); refine wpQuiet_nil ?_; refine hK _ ?_; clear hK K))
                  refine wpOrd_fix rfl rfl (fun K hK => ?_)
                  go_wp2_with (go_at_call 25; refine (Resolve_calls (H5.out.2.1.upd (S := []) (by iterate 25 (first | exact Upd.refl _ _ | assumption | refine Upd.alloc ?_ _ | refine Upd.drew ?_ | refine Upd.drewN ?_ _ | refine Upd.dl ?_ | refine Upd.step ?_ (Ext.upd _) | refine Upd.nil ?_ | skip)) (by simp)) (H5.out.2.2.upd (S := []) (by iterate 25 (first | exact Upd.refl _ _ | assumption | refine Upd.alloc ?_ _ | refine Upd.drew ?_ | refine Upd.drewN ?_ _ | refine Upd.dl ?_ | refine Upd.step ?_ (Ext.upd _) | refine Upd.nil ?_ | skip)) (by simp)) q).mono ?_; rintro e w6 ⟨v6, rfl, s6, u6⟩)
                  have H6 := Lib.hid (And.intro s6 (show Upd [] w5 w6 from Upd.step (by iterate 25 (first | exact Upd.refl _ _ | assumption | refine Upd.alloc ?_ _ | refine Upd.drew ?_ | refine Upd.drewN ?_ _ | refine Upd.dl ?_ | refine Upd.step ?_ (Ext.upd _) | refine Upd.nil ?_ | skip)) u6))
                  clear s6 u6 e1 e2
                  refine ⟨fun hC => absurd hC (by decide), ?_⟩
                  repeat (first | (refine wpOrd_load rfl rfl rfl rfl (fun K hK => ?_); go_big_quiet_step (fail); refine wpQuiet_nil ?_; refine hK _ ?_; clear hK K) | (refine wpOrd_free rfl rfl rfl (fun K hK => ?_); go_big_quiet_step (fail); refine wpQuiet_nil ?_; refine hK _ ?_; clear hK K))
                  refine wpOrd_nil ?_
                  have H7 := Lib.hid (H5.out.1.step H6.out.2)
                  by_cases hre : resE c d q = 0
                  · have hgr := resolve_good (vars := 4) (by omega) HCD.out.1 HCD.out.2.1 hre
                    have HRS := Lib.hid (fun (t : List Int) (ht : Asg 4 t) => resolve_sound ht (good_few (v := 4) HCD.out.1 (by omega)) hre (b := d))
                    rw [hre]
                    have HR := Lib.hid (And.intro H6.out.1 (And.intro hgr (And.intro (valid_good hgr (by omega)) (good_few (v := 4) hgr (by omega)))))
                    have hr4 : (resL c d q).length ≤ 4 := hgr.2.1
                    clear hre hgr H6 H5
                    generalize resL c d q = r at *
                    obtain ⟨a6, c6, rfl, _, _, _⟩ := SL.elems HR.out.1
                    go_wp2_with fail
                    go_loopw [18] (fun k wr => ∃ j : Nat, j ≤ T.length ∧ k = .int .i64 j ∧ Upd [] w6 wr) (fun k _ => T.length - (intOf k).toNat)
                    case atStart => exact ⟨0, by omega, rfl, Upd.refl _ _⟩
                    case round =>
                      obtain ⟨j, hj, rfl, hu⟩ := hrel
                      by_cases hltj : j < T.length
                      · obtain ⟨w7, rfl⟩ : ∃ w7 : World, w7 = wr := ⟨_, rfl⟩
                        have HV := Lib.hid hu
                        have hvc := Valid_calls (HR.out.1.upd hu (by simp))
                        rw [HR.out.2.2.1] at hvc
                        have HVC := Lib.hid hvc
                        clear hu hvc
                        have hr4b : ¬ (4 : Int) < r.length := by omega
                        go_wp2_with fail
                        refine HVC.out.mono ?_
                        rintro e w8 ⟨rfl, u8⟩
                        have H8 := Lib.hid (HV.out.step u8)
                        clear u8 HVC HV
                        obtain ⟨_, _, he, _, _, hct⟩ := H2.out.2.2.1.form
                        cases he
                        have U28 := ((HU.out.step H7.out).step H8.out)
                        obtain ⟨gt, offt, at2, capt, rfl, e1, hsl, _, _⟩ := (hct j hltj).upd U28
                        have hta := H2.out.2.2.2 _ (gd_memA (d := []) hltj)
                        have HT := Lib.hid (And.intro hsl hta)
                        generalize T.getD j [] = t at *
                        clear hct hsl hta U28
                        go_wp2_with fail
                        refine (State_calls (HR.out.1.upd H8.out (by simp)) HT.out.1 (asg_i64 HT.out.2)).mono ?_
                        rintro e w9 ⟨v9, rfl, o9⟩
                        rw [state_asg HR.out.2.2.2 (by omega) (by omega) HT.out.2] at o9 ⊢
                        obtain ⟨a9, c9, he9, hl9, hf9⟩ := o9.form
                        subst he9
                        clear hl9 hf9
                        have e1' := o9.u.some e1 (by simp)
                        have U79 := (H7.out.step H8.out).step o9.u
                        have e2' := U79.some HCD.out.2.2.2.2.1 (by simp)
                        have e3' := U79.some HCD.out.2.2.2.2.2 (by simp)
                        have H9 := Lib.hid (And.intro (H8.out.step o9.u) (And.intro (HT.out.1.upd o9.u (by simp)) (And.intro (HCD.out.2.2.1.upd U79 (by simp)) (HCD.out.2.2.2.1.upd U79 (by simp)))))
                        have hrs := HRS.out t HT.out.2
                        clear o9 e1 U79
                        simp only [List.length_nil]
                        have HQC := Lib.hid (fun (x : Ext w9) => True_calls (H9.out.2.2.1.upd (Ext.upd x) (by simp)) (H9.out.2.1.upd (Ext.upd x) (by simp)) (few_lit (good_few (v := 4) HCD.out.1 (by omega)) (by omega) HT.out.2) (asg_bd HT.out.2))
                        have HQD := Lib.hid (fun (x : Ext w9) => True_calls (H9.out.2.2.2.upd (Ext.upd x) (by simp)) (H9.out.2.1.upd (Ext.upd x) (by simp)) (few_lit (good_few (v := 4) HCD.out.2.1 (by omega)) (by omega) HT.out.2) (asg_bd HT.out.2))
                        have HJ := Lib.hid (fun (wz : World) (u : Upd [] w9 wz) => (show Upd [] w6 wz from H9.out.1.step u))
                        generalize hbr : trueB r t = br at *
                        generalize hbc : trueB c t = bc at *
                        generalize hbd : trueB d t = bd at *
                        clear hbr hbc hbd
                        cases br with
                        | true =>
                          clear hrs
                          go_wp2_with fail
                          refine wp_region_qx (by kernel_rfl) (by kernel_rfl) ?_
                          repeat (go_big_quiet_step ((fail)))
                          refine wpQuiet_nil ?_
                          intro x
                          go_wp2_with fail
                          exact ⟨⟨j + 1, by omega, by go_num, HJ.out _ (Ext.upd _)⟩, by simp [intOf]; omega⟩
                        | false =>
                          cases bc with
                          | false =>
                            clear hrs
                            go_wp2_with fail
                            refine wp_region_qx (by kernel_rfl) (by kernel_rfl) ?_
                            repeat (go_big_quiet_step (((go_at_call 32; exact qs (HQC.out _)))))
                            refine wpQuiet_nil ?_
                            intro x
                            go_wp2_with fail
                            exact ⟨⟨j + 1, by omega, by go_num, HJ.out _ (Ext.upd _)⟩, by simp [intOf]; omega⟩
                          | true =>
                            cases bd with
                            | true => exact absurd (hrs rfl rfl) (by simp)
                            | false =>
                              clear hrs
                              go_wp2_with fail
                              refine wp_region_qx (by kernel_rfl) (by kernel_rfl) ?_
                              repeat (go_big_quiet_step ((first | (go_at_call 32; with_reducible exact qs (HQC.out _)) | (go_at_call 32; with_reducible exact qs (HQD.out _)))))
                              refine wpQuiet_nil ?_
                              intro x
                              go_wp2_with fail
                              exact ⟨⟨j + 1, by omega, by go_num, HJ.out _ (Ext.upd _)⟩, by simp [intOf]; omega⟩
                      · have HF := Lib.hid ((H7.out).step hu)
                        clear hu
                        go_wp2_with fail
                        exact ⟨⟨q + 1, by omega, by omega, by go_num, HF.out⟩, by simp [intOf]; omega⟩
                  · have hb : (resE c d q != 0) = true := by simpa using hre
                    clear hre
                    generalize resE c d q = re at *
                    go_wp2_with fail
                    exact ⟨⟨q + 1, by omega, by omega, by go_num, H7.out⟩, by simp [intOf]; omega⟩
                · have HF := Lib.hid (HU.out.step hu)
                  clear hu
                  go_wp2_with fail
                  exact ⟨⟨k2 + 1, by omega, by go_num, HF.out⟩, by simp [intOf]; omega⟩
            · go_wp2_with fail
              exact ⟨⟨i + 1, by omega, by go_num, HU.out⟩, by simp [intOf]; omega⟩
        · go_wp2_with fail
          refine (lives_calls).mono ?_
          rintro e w4 ⟨rfl, u4⟩
          go_wp2_with fail
          go_ret
          exact ⟨rfl, (H2.out.2.1.step HU.out).step u4⟩
end
end Law
end Go.Proofs.Ytgdpbhbdeaifbaa
