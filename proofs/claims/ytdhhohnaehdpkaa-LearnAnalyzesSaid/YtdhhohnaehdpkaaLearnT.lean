/- Walks through the reference of learning: level, fits. Conditions: none. -/
import Derived.Test.YtdhhohnaehdpkaaLrnE
import Derived.Test.YtdhhohnaehdpkaaRefA
import Derived.Test.YtdhhohnaehdpkaaRef14c
set_option linter.unusedVariables false
set_option linter.unusedSimpArgs false
set_option linter.unusedSectionVars false
open Go.RowKit
namespace Go.Proofs.Ytdhhohnaehdpkaa
open L
namespace Ref
open Trail
theorem Rf.ext {w : World} {b vars : Nat} {es : Es} {S : List Nat} (h : Rf w b vars es S) {w' : World} (u : Upd [] w w') : Rf w' b vars es S := h.upd u (by simp)
theorem Rf.rows {w : World} {b vars : Nat} {es : Es} {S : List Nat} (h : Rf w b vars es S) : ∃ al cl ar cr av cv, w.cell? ⟨b, 1, none⟩ = some (.slice al es.length cl) ∧ w.cell? ⟨b, 2, none⟩ = some (.slice ar es.length cr) ∧ w.cell? ⟨b, 3, none⟩ = some (.slice av es.length cv) ∧
    ∀ k, k < es.length → ∃ gl gr gv, al = some ⟨gl, 0, none⟩ ∧ ar = some ⟨gr, 0, none⟩ ∧ av = some ⟨gv, 0, none⟩ ∧ w.cell? ⟨gl, k, none⟩ = some (.int .i64 (at_ es k).1) ∧ w.cell? ⟨gr, k, none⟩ = some (.int .i64 (at_ es k).2) ∧ w.cell? ⟨gv, k, none⟩ = some (.int .i64 (lev es k : Nat)) := by
  obtain ⟨h0, lv, rv, vv, rfl, h1, h2, h3, h4, h5⟩ := h
  have l1 : (lits es).length = es.length := by simp [lits]
  have l2 : (rsns es).length = es.length := by simp [rsns]
  have l3 : (levs es).length = es.length := by simp [levs]
  rw [← l1] at h2
  rw [← l2] at h3
  rw [← l3] at h4
  obtain ⟨al, cl, rfl, _, _, k1⟩ := own_form h2
  obtain ⟨ar, cr, rfl, _, _, k2⟩ := own_form h3
  obtain ⟨av, cv, rfl, _, _, k3⟩ := own_form h4
  rw [l1] at h1 k1
  rw [l2] at h1 k2
  rw [l3] at h1 k3
  refine ⟨al, cl, ar, cr, av, cv, h1.cell (i := 1) rfl, h1.cell (i := 2) rfl, h1.cell (i := 3) rfl, fun k hk => ?_⟩
  obtain ⟨gl, rfl, q1⟩ := k1 (by omega)
  obtain ⟨gr, rfl, q2⟩ := k2 (by omega)
  obtain ⟨gv, rfl, q3⟩ := k3 (by omega)
  refine ⟨gl, gr, gv, rfl, rfl, rfl, q1 k _ (lits_at hk), q2 k _ ?_, q3 k _ ?_⟩
  · unfold rsns at_; rw [List.getElem?_map, List.getD_eq_getElem?_getD, List.getElem?_eq_getElem hk]; simp
  · unfold levs; rw [List.getElem?_map, List.getElem?_range hk]; rfl
end Ref
namespace Learn
open Trail Ref Cla R01
section
variable {w : World} {b vars : Nat} {es : Es} {S : List Nat}
set_option maxRecDepth 100000 in
set_option maxHeartbeats 4000000 in
theorem RLevel_calls (h : Rf w b vars es S) {x : Int} (hx : IsI64 x) (hp : pos es x.natAbs ≠ 0) : Calls Try.prog 44 #[.pointer (some ⟨b, 0, none⟩), .int .i64 x] w fun e w' => e = .returned (.int .i64 (lvl es x)) ∧ Upd [] w w' := by
  have hl := (pos_at hp).2
  obtain ⟨al, cl, ar, cr, av, cv, c1, c2, c3, hrow⟩ := h.rows
  obtain ⟨gl, gr, gv, rfl, rfl, rfl, k1, k2, k3⟩ := hrow _ hl
  have HF := Lib.hid (fun (W : World) (u : Upd [] w W) => Find_calls (h.ext u) x hx)
  have hf : findI es x = ((pos es x.natAbs - 1 : Nat) : Int) := by unfold findI; omega
  rw [hf] at HF
  have HV := Lib.hid (show lvl es x = (lev es (pos es x.natAbs - 1) : Nat) from rfl)
  rw [HV.out]
  generalize lev es (pos es x.natAbs - 1) = l at *
  generalize pos es x.natAbs - 1 = k at *
  have hki : (k : Int) < es.length := by omega
  clear h hrow hp hx hf HV c1 c2 k1 k2
  go_enter Try.func44, Try.ntmps44
  go_upto_region 1 with fail
  refine wp_region_qx (by kernel_rfl) (by kernel_rfl) ?_
  repeat (go_big_quiet_step (((go_at_call 56; with_reducible exact qs (HF.out _ (Ext.upd _))))))
  refine wpQuiet_nil ?_
  intro x
  go_wp2_with fail
  go_ret
  exact ⟨rfl, x.upd⟩
open Classical in
noncomputable def fitsB (L : List (List Int)) (vars : Nat) (es : Es) (k : Nat) : Bool := decide (Fits L vars es k)
open Classical in
theorem fitsB_true {L : List (List Int)} {k : Nat} (h : Fits L vars es k) : fitsB L vars es k = true := by unfold fitsB; exact decide_eq_true h
open Classical in
theorem fitsB_false {L : List (List Int)} {k : Nat} (h : ¬ Fits L vars es k) : fitsB L vars es k = false := by unfold fitsB; exact decide_eq_false h
set_option maxRecDepth 100000 in
set_option maxHeartbeats 8000000 in
theorem RFits_calls {aL : Option Addr} {cL : Nat} {L : List (List Int)} (h : Rf w b vars es S) (hL : CL w (.slice aL L.length cL) L) {k : Nat} (hk : k < es.length) :
    Calls Try.prog 45 #[.slice aL L.length cL, .pointer (some ⟨b, 0, none⟩), .int .i64 k] w fun e w' => e = .returned (.bool (fitsB L vars es k)) ∧ Upd [] w w' := by
  have hw := h.wf
  have hlen := hw.len
  have hvm := hw.max
  have hrr := hw.rsn _ (at_mem hk)
  obtain ⟨al, cl, ar, cr, av, cv, c1, c2, c3, hrow⟩ := h.rows
  obtain ⟨gl, gr, gv, rfl, rfl, rfl, k1, k2, k3⟩ := hrow _ hk
  have hki : (k : Int) < es.length := by omega
  have HH := Lib.hid (And.intro h (And.intro hL hw))
  have HX := Lib.hid (show rsn L es k = L.getD (at_ es k).2.toNat [] from rfl)
  have HFt := Lib.hid (fun h => fitsB_true (L := L) (vars := vars) (es := es) (k := k) h)
  have HFf := Lib.hid (fun h => fitsB_false (L := L) (vars := vars) (es := es) (k := k) h)
  have HFd := Lib.hid (show Fits L vars es k ↔ (0 ≤ (at_ es k).2 ∧ (at_ es k).2 < L.length ∧ validErr (rsn L es k) = 0 ∧ (at_ es k).1 ∈ rsn L es k ∧ ∀ y ∈ rsn L es k, y ≠ (at_ es k).1 → tval vars es y = -1 ∧ pos es y.natAbs ≤ k + 1) from Iff.rfl)
  have hF := hL.form
  obtain ⟨_, _, he, _, _, hat⟩ := hF
  cases he
  have hat : ∀ k, k < L.length → CellAt w aL k (L.getD k []) := hat
  clear h hL hrow hw
  generalize fitsB L vars es k = fb at *
  generalize rsn L es k = rc at *
  generalize (at_ es k).1 = y at *
  generalize (at_ es k).2 = r at *
  by_cases h1 : r < 0
  · have HF := Lib.hid (HFf.out (fun h => by have := (HFd.out.1 h).1; omega))
    clear hat
    go_enter Try.func45, Try.ntmps45
    go_upto_region 2 with fail
    refine wp_region_qx (by kernel_rfl) (by kernel_rfl) ?_
    repeat (go_big_quiet_step ((fail)))
    refine wpQuiet_nil ?_
    intro x
    go_wp2_with fail
    go_ret
    exact ⟨by rw [HF.out]; rfl, Ext.upd _⟩
  · by_cases h2 : r ≥ (L.length : Int)
    · have HF := Lib.hid (HFf.out (fun h => by have := (HFd.out.1 h).2.1; omega))
      clear hat
      go_enter Try.func45, Try.ntmps45
      go_upto_region 2 with fail
      refine wp_region_qx (by kernel_rfl) (by kernel_rfl) ?_
      repeat (go_big_quiet_step ((fail)))
      refine wpQuiet_nil ?_
      intro x
      go_wp2_with fail
      go_ret
      exact ⟨by rw [HF.out]; rfl, Ext.upd _⟩
    · obtain ⟨rn, rfl⟩ := Int.eq_ofNat_of_zero_le (show 0 ≤ r by omega)
      have hrn : rn < L.length := by omega
      obtain ⟨g2, off, ay, capy, rfl, hcell, hsl, hq, hr2⟩ := hat rn hrn
      have hrc : L.getD rn [] = rc := by rw [HX.out, Int.toNat_natCast]
      rw [hrc] at hcell hsl hq
      have HVL := Lib.hid (fun (W : World) (u : Upd [] w W) => RValid_calls (hsl.upd u (by simp)))
      have HHL := Lib.hid (fun (W : World) (u : Upd [] w W) => Cla.Has_calls (hsl.upd u (by simp)) y)
      obtain ⟨_, _, he, _, _, hcc⟩ := SL.form hsl
      cases he
      have HCC := Lib.hid hcc
      clear hat HX hrc hcc hsl
      by_cases hv : validErr rc = 0
      · rw [hv] at HVL
        by_cases hm : y ∈ rc
        · have hmb : hasB rc y = true := hasB_iff.2 hm
          rw [hmb] at HHL
          have HM := Lib.hid (And.intro hv hm)
          have HLT := Lib.hid (listErr_lit (validErr_ok.1 hv).1).2
          have hcl := (listErr_lit (validErr_ok.1 hv).1).1
          clear hv hm hmb
          go_enter Try.func45, Try.ntmps45
          go_upto_region 2 with fail
          refine wp_region_qx (by kernel_rfl) (by kernel_rfl) ?_
          repeat (go_big_quiet_step (((first | (go_at_call 42; with_reducible exact qx (HVL.out _ (Ext.upd _))) | (go_at_call 19; with_reducible exact qs (HHL.out _ (Ext.upd _)))))))
          refine wpQuiet_nil ?_
          intro x
          have hUx : Upd [] w x.val := x.upd
          obtain ⟨wd, hwd⟩ : ∃ wd : World, wd = x.val := ⟨_, rfl⟩
          rw [← hwd] at hUx ⊢
          have HUX := Lib.hid hUx
          clear hwd x hUx HVL HHL
          go_wp2_with fail
          go_loopw [8] (fun i wr => ∃ j : Nat, i = .int .i64 j ∧ j ≤ rc.length ∧ (∀ z ∈ rc.take j, z ≠ y → tval vars es z = -1 ∧ pos es z.natAbs ≤ k + 1) ∧ Upd [] w wr) (fun i _ => rc.length - (numOf i).toNat)
          case atStart => exact ⟨0, rfl, Nat.zero_le _, by simp, HUX.out⟩
          case round =>
            obtain ⟨wo, rfl⟩ : ∃ wo : World, wo = wr := ⟨_, rfl⟩
            obtain ⟨j, rfl, hj, hy, hU⟩ := hrel
            have HU := Lib.hid (And.intro hy hU)
            have hc2 := hU.some hcell (by simp)
            have d1 := hU.some c1 (by simp)
            have l1 := hU.some k1 (by simp)
            clear hy hU
            by_cases hlt : j < rc.length
            · have hji : (j : Int) < rc.length := by omega
              obtain ⟨gy, oy, rfl, kc⟩ := HCC.out (by omega)
              have e1 := HU.out.2.some (kc j _ (ints_get (List.getElem?_eq_getElem hlt))) (by simp)
              have hzl := HLT.out _ (List.getElem_mem hlt)
              have HTK := Lib.hid (show rc.take (j + 1) = rc.take j ++ [rc[j]] by rw [List.take_add_one, List.getElem?_eq_getElem hlt]; rfl)
              have HMM := Lib.hid (List.getElem_mem hlt)
              clear kc
              generalize rc[j] = z at *
              have HR := Lib.hid (HH.out.1.ext HU.out.2)
              have hzI : IsI64 z := ⟨by omega, by omega⟩
              by_cases hzy : z = y
              · have e2 : (z == y) = true := beq_iff_eq.2 hzy
                have HN := Lib.hid (show ∀ u ∈ rc.take (j + 1), u ≠ y → tval vars es u = -1 ∧ pos es u.natAbs ≤ k + 1 by
                  rw [HTK.out]
                  intro u hu hn
                  rcases List.mem_append.1 hu with hu | hu
                  · exact HU.out.1 u hu hn
                  · rw [List.mem_singleton] at hu; exact absurd (hu.trans hzy) hn)
                clear hzy HFt HFf HFd HTK HMM
                go_wp2_with fail
                exact ⟨⟨j + 1, by go_num, by omega, HN.out, HU.out.2⟩, by simp [numOf]; omega⟩
              · have e2 : (z == y) = false := beq_eq_false_iff_ne.2 hzy
                have HV := Lib.hid (Ref.Value_calls HR.out z hzI)
                have HFi := Lib.hid (Find_calls HR.out z hzI)
                by_cases ht : tval vars es z = -1
                · have e3 : (tval vars es z != -1) = false := by rw [ht]; rfl
                  by_cases hp : findI es z > (k : Int)
                  · have hfx : ¬ (tval vars es z = -1 ∧ pos es z.natAbs ≤ k + 1) := fun h => by have := h.2; unfold findI at hp; omega
                    have HF := Lib.hid (HFf.out (fun h => hfx ((HFd.out.1 h).2.2.2.2 z HMM.out hzy)))
                    clear hzy HTK HFt HFf HFd hfx
                    generalize tval vars es z = tv at *
                    generalize findI es z = fi at *
                    clear ht
                    go_wp2_with (first | (go_at_call 43; (with_reducible refine HV.out.mono ?_); rintro e w5 ⟨rfl, rfl⟩) | (go_at_call 56; (with_reducible refine HFi.out.mono ?_); rintro e w5 ⟨rfl, rfl⟩))
                    go_ret
                    exact ⟨by rw [HF.out]; rfl, HU.out.2⟩
                  · have hfx : tval vars es z = -1 ∧ pos es z.natAbs ≤ k + 1 := ⟨ht, by unfold findI at hp; omega⟩
                    have HN := Lib.hid (show ∀ u ∈ rc.take (j + 1), u ≠ y → tval vars es u = -1 ∧ pos es u.natAbs ≤ k + 1 by
                      rw [HTK.out]
                      intro u hu hn
                      rcases List.mem_append.1 hu with hu | hu
                      · exact HU.out.1 u hu hn
                      · rw [List.mem_singleton] at hu; subst hu; exact hfx)
                    clear hzy HTK HFt HFf HFd hfx HMM
                    generalize tval vars es z = tv at *
                    generalize findI es z = fi at *
                    clear ht
                    go_wp2_with (first | (go_at_call 43; (with_reducible refine HV.out.mono ?_); rintro e w5 ⟨rfl, rfl⟩) | (go_at_call 56; (with_reducible refine HFi.out.mono ?_); rintro e w5 ⟨rfl, rfl⟩))
                    exact ⟨⟨j + 1, by go_num, by omega, HN.out, HU.out.2⟩, by simp [numOf]; omega⟩
                · have e3 : (tval vars es z != -1) = true := by simpa using ht
                  have HF := Lib.hid (HFf.out (fun h => ht ((HFd.out.1 h).2.2.2.2 z HMM.out hzy).1))
                  clear hzy HTK HFt HFf HFd HMM
                  generalize tval vars es z = tv at *
                  clear ht
                  go_wp2_with (first | (go_at_call 43; (with_reducible refine HV.out.mono ?_); rintro e w5 ⟨rfl, rfl⟩))
                  go_ret
                  exact ⟨by rw [HF.out]; rfl, HU.out.2⟩
            · have hji : ¬ (j : Int) < rc.length := by omega
              have HF := Lib.hid (HFt.out (HFd.out.2 ⟨by omega, by omega, HM.out.1, HM.out.2, by
                have := HU.out.1
                rwa [List.take_of_length_le (by omega)] at this⟩))
              clear hlt HFt HFf HFd
              go_wp2_with fail
              go_ret
              exact ⟨by rw [HF.out]; rfl, HU.out.2⟩
        · have hmb : hasB rc y = false := by
            cases hb : hasB rc y with
            | false => rfl
            | true => exact absurd (hasB_iff.1 hb) hm
          rw [hmb] at HHL
          have HF := Lib.hid (HFf.out (fun h => hm (HFd.out.1 h).2.2.2.1))
          clear hv hm hmb
          go_enter Try.func45, Try.ntmps45
          go_upto_region 2 with fail
          refine wp_region_qx (by kernel_rfl) (by kernel_rfl) ?_
          repeat (go_big_quiet_step (((first | (go_at_call 42; with_reducible exact qx (HVL.out _ (Ext.upd _))) | (go_at_call 19; with_reducible exact qs (HHL.out _ (Ext.upd _)))))))
          refine wpQuiet_nil ?_
          intro x
          go_wp2_with fail
          go_ret
          exact ⟨by rw [HF.out]; rfl, Ext.upd _⟩
      · have hb : (validErr rc != 0) = true := by simpa using hv
        have HF := Lib.hid (HFf.out (fun h => hv (HFd.out.1 h).2.2.1))
        generalize validErr rc = z at *
        clear hv
        go_enter Try.func45, Try.ntmps45
        go_upto_region 2 with fail
        refine wp_region_qx (by kernel_rfl) (by kernel_rfl) ?_
        repeat (go_big_quiet_step (((first | (go_at_call 42; with_reducible exact qx (HVL.out _ (Ext.upd _))) | (go_at_call 19; with_reducible exact qs (HHL.out _ (Ext.upd _)))))))
        refine wpQuiet_nil ?_
        intro x
        go_wp2_with fail
        go_ret
        exact ⟨by rw [HF.out]; rfl, Ext.upd _⟩
end
end Learn
end Go.Proofs.Ytdhhohnaehdpkaa
