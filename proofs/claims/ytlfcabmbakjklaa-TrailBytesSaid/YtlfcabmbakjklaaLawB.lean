/- Walks through the laws of trails: like. Conditions: none. -/
import Derived.Test.YtlfcabmbakjklaaLawA
import Derived.Test.YtlfcabmbakjklaaSame
set_option linter.unusedVariables false
set_option linter.unusedSimpArgs false
set_option linter.unusedSectionVars false
open Go.RowKit
namespace Go.Proofs.Ytlfcabmbakjklaa
open L
namespace Law
open Trail Ref R01
section
variable {w : World} {b mb vars : Nat} {es : Es} {S S2 : List Nat}
theorem Rf.cells (h : Rf w b vars es S) : ∃ a1 c1 a2 c2 a3 c3, w.cell? ⟨b, 0, none⟩ = some (.int .i64 vars) ∧ w.cell? ⟨b, 1, none⟩ = some (.slice a1 es.length c1) ∧ w.cell? ⟨b, 2, none⟩ = some (.slice a2 es.length c2) ∧
    w.cell? ⟨b, 3, none⟩ = some (.slice a3 es.length c3) ∧ SL w 1 (.slice a1 es.length c1) es.length (ints (lits es)) ∧
    (0 < es.length → (∃ g, a2 = some ⟨g, 0, none⟩ ∧ ∀ i, i < es.length → w.cell? ⟨g, i, none⟩ = some (.int .i64 (at_ es i).2)) ∧ (∃ g, a3 = some ⟨g, 0, none⟩ ∧ ∀ i, i < es.length → w.cell? ⟨g, i, none⟩ = some (.int .i64 (lev es i)))) := by
  obtain ⟨h0, lv, rv, vv, hS, B, O1, O2, O3, n1, n2, n3⟩ := h
  have hl1 : (lits es).length = es.length := by simp [lits]
  have hl2 : (rsns es).length = es.length := by simp [rsns]
  have hl3 : (levs es).length = es.length := by simp [levs]
  have s1 := SL.of_owns O1
  obtain ⟨a1, c1, rfl, _, _, _⟩ := own_form (hl1 ▸ O1)
  obtain ⟨a2, c2, rfl, _, _, k2⟩ := own_form (hl2 ▸ O2)
  obtain ⟨a3, c3, rfl, _, _, k3⟩ := own_form (hl3 ▸ O3)
  rw [hl1, hl2, hl3] at B
  rw [hl1] at s1
  rw [hl2] at k2
  rw [hl3] at k3
  refine ⟨a1, c1, a2, c2, a3, c3, B.cell rfl, B.cell rfl, B.cell rfl, B.cell rfl, s1, fun hn => ⟨?_, ?_⟩⟩
  · obtain ⟨g, hg, hc⟩ := k2 hn
    refine ⟨g, hg, fun i hi => hc i _ ?_⟩
    unfold rsns at_; rw [List.getElem?_map, List.getD_eq_getElem?_getD, List.getElem?_eq_getElem hi]; simp
  · obtain ⟨g, hg, hc⟩ := k3 hn
    refine ⟨g, hg, fun i hi => hc i _ ?_⟩
    unfold levs; rw [List.getElem?_map, List.getElem?_range hi]; rfl
set_option maxRecDepth 100000 in
set_option maxHeartbeats 2000000 in
theorem like_calls (h : Tr w b vars es (decs es) S) (m : Rf w mb vars es S2) :
    Calls Try.prog 14 #[.pointer (some ⟨b, 0, none⟩), .pointer (some ⟨mb, 0, none⟩)] w fun e w' => e = .returned (.bool true) ∧ Upd [] w w' := by
  have hv := h.wf.max
  have hlen := h.wf.len
  have hd := decs_le es
  obtain ⟨a1, c1, a2, c2, a3, c3, m0, m1, m2, m3, sl, mc⟩ := Rf.cells m
  have hll : (lits es).length = es.length := by simp [lits]
  go_enter Try.func14, Try.ntmps14
  go_wp2_with fail
  refine wp_region_ord 24 1 [0, 2, 3, 4, 5, 6, 7, 8, 10, 12, 13, 14, 15, 17, 18, 19, 20, 22, 23] [5, 20] [0, 2, 3, 4, 5, 1, 6, 7, 8, 10, 9, 11, 12, 13, 14, 15, 17, 18, 19, 20, 16, 21, 22, 23] (fun w' => ∃ x : Ext w, w' = x.val) (by kernel_rfl) (by kernel_rfl) (Ext.of (by iterate 25 (first | exact Upd.refl _ _ | assumption | refine Upd.alloc ?_ _ | refine Upd.drew ?_ | refine Upd.drewN ?_ _ | refine Upd.dl ?_ | refine Upd.step ?_ (Ext.upd _) | refine Upd.nil ?_ | skip))) ?_
  repeat (first | (refine wpOrd_load rfl rfl rfl rfl (fun K hK => ?_); go_big_quiet_step (fail); refine wpQuiet_nil ?_; refine hK _ ?_; clear hK K) | (refine wpOrd_free rfl rfl rfl (fun K hK => ?_); go_big_quiet_step (fail); refine wpQuiet_nil ?_; refine hK _ ?_; clear hK K))
  refine wpOrd_fix rfl rfl (fun K hK => ?_)
  go_wp2_with (go_at_call 27; refine (Vars_calls (h.upd (T := []) (by iterate 25 (first | exact Upd.refl _ _ | assumption | refine Upd.alloc ?_ _ | refine Upd.drew ?_ | refine Upd.drewN ?_ _ | refine Upd.dl ?_ | refine Upd.step ?_ (Ext.upd _) | refine Upd.nil ?_ | skip)) (by simp))).mono ?_; rintro e w' ⟨rfl, rfl⟩)
  refine ⟨fun _ => Ext.of (by iterate 25 (first | exact Upd.refl _ _ | assumption | refine Upd.alloc ?_ _ | refine Upd.drew ?_ | refine Upd.drewN ?_ _ | refine Upd.dl ?_ | refine Upd.step ?_ (Ext.upd _) | refine Upd.nil ?_ | skip)), ?_⟩
  repeat (first | (refine wpOrd_load rfl rfl rfl rfl (fun K hK => ?_); go_big_quiet_step (fail); refine wpQuiet_nil ?_; refine hK _ ?_; clear hK K) | (refine wpOrd_free rfl rfl rfl (fun K hK => ?_); go_big_quiet_step (fail); refine wpQuiet_nil ?_; refine hK _ ?_; clear hK K))
  refine wpOrd_fix rfl rfl (fun K hK => ?_)
  go_wp2_with (go_at_call 28; refine (Trail.Now_calls (h.upd (T := []) (by iterate 25 (first | exact Upd.refl _ _ | assumption | refine Upd.alloc ?_ _ | refine Upd.drew ?_ | refine Upd.drewN ?_ _ | refine Upd.dl ?_ | refine Upd.step ?_ (Ext.upd _) | refine Upd.nil ?_ | skip)) (by simp))).mono ?_; rintro e w' ⟨rfl, rfl⟩)
  refine ⟨fun _ => Ext.of (by iterate 25 (first | exact Upd.refl _ _ | assumption | refine Upd.alloc ?_ _ | refine Upd.drew ?_ | refine Upd.drewN ?_ _ | refine Upd.dl ?_ | refine Upd.step ?_ (Ext.upd _) | refine Upd.nil ?_ | skip)), ?_⟩
  repeat (first | (refine wpOrd_load rfl rfl rfl rfl (fun K hK => ?_); go_big_quiet_step (fail); refine wpQuiet_nil ?_; refine hK _ ?_; clear hK K) | (refine wpOrd_free rfl rfl rfl (fun K hK => ?_); go_big_quiet_step (fail); refine wpQuiet_nil ?_; refine hK _ ?_; clear hK K))
  refine wpOrd_fix rfl rfl (fun K hK => ?_)
  go_wp2_with (go_at_call 46; refine (Ref.Now_calls (m.upd (T := []) (by iterate 25 (first | exact Upd.refl _ _ | assumption | refine Upd.alloc ?_ _ | refine Upd.drew ?_ | refine Upd.drewN ?_ _ | refine Upd.dl ?_ | refine Upd.step ?_ (Ext.upd _) | refine Upd.nil ?_ | skip)) (by simp))).mono ?_; rintro e w' ⟨rfl, rfl⟩)
  refine ⟨fun _ => Ext.of (by iterate 25 (first | exact Upd.refl _ _ | assumption | refine Upd.alloc ?_ _ | refine Upd.drew ?_ | refine Upd.drewN ?_ _ | refine Upd.dl ?_ | refine Upd.step ?_ (Ext.upd _) | refine Upd.nil ?_ | skip)), ?_⟩
  repeat (first | (refine wpOrd_load rfl rfl rfl rfl (fun K hK => ?_); go_big_quiet_step (fail); refine wpQuiet_nil ?_; refine hK _ ?_; clear hK K) | (refine wpOrd_free rfl rfl rfl (fun K hK => ?_); go_big_quiet_step (fail); refine wpQuiet_nil ?_; refine hK _ ?_; clear hK K))
  refine wpOrd_fix rfl rfl (fun K hK => ?_)
  go_wp2_with (go_at_call 23; refine (Lits_calls (h.upd (T := []) (by iterate 25 (first | exact Upd.refl _ _ | assumption | refine Upd.alloc ?_ _ | refine Upd.drew ?_ | refine Upd.drewN ?_ _ | refine Upd.dl ?_ | refine Upd.step ?_ (Ext.upd _) | refine Upd.nil ?_ | skip)) (by simp))).mono ?_; rintro e w1 ⟨g, rfl, hg, hb, hu⟩)
  have hu1 : Upd [] w w1 := Upd.step (by iterate 25 (first | exact Upd.refl _ _ | assumption | refine Upd.alloc ?_ _ | refine Upd.drew ?_ | refine Upd.drewN ?_ _ | refine Upd.dl ?_ | refine Upd.step ?_ (Ext.upd _) | refine Upd.nil ?_ | skip)) hu
  have s1 : SL w1 1 (.slice (some ⟨g, 0, none⟩) es.length es.length) (lits es).length (ints (lits es)) := by
    rw [hll]; exact SL.of_blk (pad := []) (by simpa using hb) (by rw [ints_length, hll]; omega) (Nat.le_refl _) (by unfold maxLen; omega)
  have s2 : SL w1 1 (.slice a1 es.length c1) (lits es).length (ints (lits es)) := by
    rw [hll]; exact sl.upd hu1 (by simp)
  refine ⟨fun _ => Ext.of hu1, ?_⟩
  subst hg
  repeat (first | (refine wpOrd_load rfl rfl rfl rfl (fun K hK => ?_); go_big_quiet_step (fail); refine wpQuiet_nil ?_; refine hK _ ?_; clear hK K) | (refine wpOrd_free rfl rfl rfl (fun K hK => ?_); go_big_quiet_step (fail); refine wpQuiet_nil ?_; refine hK _ ?_; clear hK K))
  refine wpOrd_fix rfl rfl (fun K hK => ?_)
  go_wp2_with (go_at_call 31; refine (SameInts_calls s1 s2).mono ?_; rintro e w2 ⟨rfl, hu2⟩)
  have hu3 := hu1.step hu2
  refine ⟨fun _ => Ext.of hu3, ?_⟩
  repeat (first | (refine wpOrd_load rfl rfl rfl rfl (fun K hK => ?_); go_big_quiet_step (fail); refine wpQuiet_nil ?_; refine hK _ ?_; clear hK K) | (refine wpOrd_free rfl rfl rfl (fun K hK => ?_); go_big_quiet_step (fail); refine wpQuiet_nil ?_; refine hK _ ?_; clear hK K))
  refine wpOrd_nil ?_
  replace h := h.upd hu3 (by simp)
  replace m := m.upd hu3 (by simp)
  have HM := Lib.hid (And.intro m hll)
  clear m0 m1 m2 m3 sl mc s1 s2 hu hu1 hu2 hb hll
  go_wp2_with fail
  obtain ⟨mn, hmn⟩ : ∃ mn : Nat, (vars ≤ 12 ∧ mn = vars ∨ 12 < vars ∧ mn = 12) := by
    by_cases hx : vars ≤ 12
    · exact ⟨vars, .inl ⟨hx, rfl⟩⟩
    · exact ⟨12, .inr ⟨by omega, rfl⟩⟩
  have HMN := Lib.hid hmn
  have hmn1 : mn ≤ 12 := by omega
  clear hmn
  go_loopw [5] (fun i wr => ∃ v : Int, -1 ≤ v ∧ v ≤ mn + 2 ∧ i = .int .i64 v ∧ Upd [] w2 wr) (fun i _ => (mn + 2 - intOf i).toNat)
  case atStart => exact ⟨-1, by omega, by omega, rfl, Upd.refl _ _⟩
  case round =>
    obtain ⟨v, hv1, hv2, rfl, hu⟩ := hrel
    have hu0 := hu
    have hr := h.upd hu (by simp)
    have mr := HM.out.1.upd hu (by simp)
    obtain ⟨a1, c1, a2, c2, a3, c3, m0, _, m2, m3, _, mc⟩ := Rf.cells mr
    have HVB := Lib.hid hv2
    by_cases hlt : v ≤ mn + 1
    · have hlt2 : (vars ≤ 12 ∧ v ≤ (vars : Int) + 1) ∨ (12 < vars ∧ v ≤ 13) := by have := HMN.out; omega
      by_cases ha : assigned vars es v = true
      · obtain ⟨p, hp, hpl, g1, g2, _⟩ := assigned_pos ha
        have HT := Lib.hid (And.intro (show levelOf vars es v = lev es p by simp [levelOf, ha, hp]) (And.intro (show reasonOf vars es v = (at_ es p).2 by simp [reasonOf, ha, hp]) (And.intro (show noneOf vars es v = 0 by simp [noneOf, ha]) (show findI es v = p by unfold findI; rw [hp]; omega))))
        obtain ⟨⟨ga, rfl, k2⟩, ⟨gb, rfl, k3⟩⟩ := mc (by omega)
        have d2 := k2 p hpl
        have d3 := k3 p hpl
        clear k2 k3 mc hp ha
        generalize (at_ es p).2 = y at *
        generalize lev es p = z at *
        generalize es.length = n at *
        rcases hlt2 with ⟨hl1, hl2⟩ | ⟨hl1, hl2⟩
        all_goals
          go_wp2_with (first | (go_at_call 47; refine (Find_calls (mr.upd (T := []) (by iterate 25 (first | exact Upd.refl _ _ | assumption | refine Upd.alloc ?_ _ | refine Upd.drew ?_ | refine Upd.drewN ?_ _ | refine Upd.dl ?_ | refine Upd.step ?_ (Ext.upd _) | refine Upd.nil ?_ | skip)) (by simp)) _ ⟨by omega, by omega⟩).mono ?_; rintro e w' ⟨rfl, rfl⟩; rw [HT.out.2.2.2]) | (go_at_call 25; refine (Level_calls (hr.upd (T := []) (by iterate 25 (first | exact Upd.refl _ _ | assumption | refine Upd.alloc ?_ _ | refine Upd.drew ?_ | refine Upd.drewN ?_ _ | refine Upd.dl ?_ | refine Upd.step ?_ (Ext.upd _) | refine Upd.nil ?_ | skip)) (by simp)) _).mono ?_; rintro e w' ⟨rfl, hu⟩; rw [HT.out.1, HT.out.2.2.1]; obtain ⟨x, rfl⟩ := Ext.of hu) | (go_at_call 26; refine (Reason_calls (hr.upd (T := []) (by iterate 25 (first | exact Upd.refl _ _ | assumption | refine Upd.alloc ?_ _ | refine Upd.drew ?_ | refine Upd.drewN ?_ _ | refine Upd.dl ?_ | refine Upd.step ?_ (Ext.upd _) | refine Upd.nil ?_ | skip)) (by simp)) _).mono ?_; rintro e w' ⟨rfl, hu⟩; rw [HT.out.2.1, HT.out.2.2.1]; obtain ⟨x, rfl⟩ := Ext.of hu) | (go_at_call 16; refine (Trail.Value_calls (hr.upd (T := []) (by iterate 25 (first | exact Upd.refl _ _ | assumption | refine Upd.alloc ?_ _ | refine Upd.drew ?_ | refine Upd.drewN ?_ _ | refine Upd.dl ?_ | refine Upd.step ?_ (Ext.upd _) | refine Upd.nil ?_ | skip)) (by simp)) _).mono ?_; rintro e _ ⟨rfl, hu⟩; obtain ⟨x, rfl⟩ := Ext.of hu) | (go_at_call 17; refine (Ref.Value_calls (mr.upd (T := []) (by iterate 25 (first | exact Upd.refl _ _ | assumption | refine Upd.alloc ?_ _ | refine Upd.drew ?_ | refine Upd.drewN ?_ _ | refine Upd.dl ?_ | refine Upd.step ?_ (Ext.upd _) | refine Upd.nil ?_ | skip)) (by simp)) _ ⟨by omega, by omega⟩).mono ?_; rintro e w' ⟨rfl, rfl⟩))
          exact ⟨⟨v + 1, by omega, by omega, rfl, hu0.trans (by iterate 25 (first | exact Upd.refl _ _ | assumption | refine Upd.alloc ?_ _ | refine Upd.drew ?_ | refine Upd.drewN ?_ _ | refine Upd.dl ?_ | refine Upd.step ?_ (Ext.upd _) | refine Upd.nil ?_ | skip))⟩, by simp [intOf]; omega⟩
      · have hfi : 1 ≤ v → v ≤ vars → findI es v = -1 := by
          intro h1 h2
          have : pos es v.natAbs = 0 := by
            by_cases hp : pos es v.natAbs = 0
            · exact hp
            · exact absurd (by simp only [assigned, Bool.and_eq_true, decide_eq_true_eq, bne_iff_ne, ne_eq, tval]; rw [if_pos (by simp [isLit]; omega), if_neg hp]; exact ⟨by omega, by split <;> omega⟩) ha
          unfold findI; omega
        have HT := Lib.hid (And.intro (show levelOf vars es v = 0 by simp [levelOf, ha]) (And.intro (show reasonOf vars es v = 0 by simp [reasonOf, ha]) (And.intro (show noneOf vars es v = 7 by simp [noneOf, ha]) hfi)))
        clear mc ha hfi
        by_cases hin : 1 ≤ v ∧ v ≤ vars
        · obtain ⟨hin1, hin2⟩ := hin
          rcases hlt2 with ⟨hl1, hl2⟩ | ⟨hl1, hl2⟩
          all_goals
            go_wp2_with (first | (go_at_call 47; refine (Find_calls (mr.upd (T := []) (by iterate 25 (first | exact Upd.refl _ _ | assumption | refine Upd.alloc ?_ _ | refine Upd.drew ?_ | refine Upd.drewN ?_ _ | refine Upd.dl ?_ | refine Upd.step ?_ (Ext.upd _) | refine Upd.nil ?_ | skip)) (by simp)) _ ⟨by omega, by omega⟩).mono ?_; rintro e w' ⟨rfl, rfl⟩; rw [HT.out.2.2.2 hin1 hin2]) | (go_at_call 25; refine (Level_calls (hr.upd (T := []) (by iterate 25 (first | exact Upd.refl _ _ | assumption | refine Upd.alloc ?_ _ | refine Upd.drew ?_ | refine Upd.drewN ?_ _ | refine Upd.dl ?_ | refine Upd.step ?_ (Ext.upd _) | refine Upd.nil ?_ | skip)) (by simp)) _).mono ?_; rintro e w' ⟨rfl, hu⟩; rw [HT.out.1, HT.out.2.2.1]; obtain ⟨x, rfl⟩ := Ext.of hu) | (go_at_call 26; refine (Reason_calls (hr.upd (T := []) (by iterate 25 (first | exact Upd.refl _ _ | assumption | refine Upd.alloc ?_ _ | refine Upd.drew ?_ | refine Upd.drewN ?_ _ | refine Upd.dl ?_ | refine Upd.step ?_ (Ext.upd _) | refine Upd.nil ?_ | skip)) (by simp)) _).mono ?_; rintro e w' ⟨rfl, hu⟩; rw [HT.out.2.1, HT.out.2.2.1]; obtain ⟨x, rfl⟩ := Ext.of hu) | (go_at_call 16; refine (Trail.Value_calls (hr.upd (T := []) (by iterate 25 (first | exact Upd.refl _ _ | assumption | refine Upd.alloc ?_ _ | refine Upd.drew ?_ | refine Upd.drewN ?_ _ | refine Upd.dl ?_ | refine Upd.step ?_ (Ext.upd _) | refine Upd.nil ?_ | skip)) (by simp)) _).mono ?_; rintro e _ ⟨rfl, hu⟩; obtain ⟨x, rfl⟩ := Ext.of hu) | (go_at_call 17; refine (Ref.Value_calls (mr.upd (T := []) (by iterate 25 (first | exact Upd.refl _ _ | assumption | refine Upd.alloc ?_ _ | refine Upd.drew ?_ | refine Upd.drewN ?_ _ | refine Upd.dl ?_ | refine Upd.step ?_ (Ext.upd _) | refine Upd.nil ?_ | skip)) (by simp)) _ ⟨by omega, by omega⟩).mono ?_; rintro e w' ⟨rfl, rfl⟩))
            exact ⟨⟨v + 1, by omega, by omega, rfl, hu0.trans (by iterate 25 (first | exact Upd.refl _ _ | assumption | refine Upd.alloc ?_ _ | refine Upd.drew ?_ | refine Upd.drewN ?_ _ | refine Upd.dl ?_ | refine Upd.step ?_ (Ext.upd _) | refine Upd.nil ?_ | skip))⟩, by simp [intOf]; omega⟩
        · have hout : v < 1 ∨ (vars : Int) < v := by omega
          have hfm : findI es v < 9223372036854775807 ∧ -2 < findI es v := by have := pos_le es v.natAbs; unfold findI; omega
          clear hin
          generalize findI es v = fi at *
          rcases hout with hout | hout <;> rcases hlt2 with ⟨hl1, hl2⟩ | ⟨hl1, hl2⟩ <;> (first | (exfalso; omega) | skip)
          all_goals
            skip
            all_goals
              go_wp2_with (first | (go_at_call 47; refine (Find_calls (mr.upd (T := []) (by iterate 25 (first | exact Upd.refl _ _ | assumption | refine Upd.alloc ?_ _ | refine Upd.drew ?_ | refine Upd.drewN ?_ _ | refine Upd.dl ?_ | refine Upd.step ?_ (Ext.upd _) | refine Upd.nil ?_ | skip)) (by simp)) _ ⟨by omega, by omega⟩).mono ?_; rintro e w' ⟨rfl, rfl⟩) | (go_at_call 25; refine (Level_calls (hr.upd (T := []) (by iterate 25 (first | exact Upd.refl _ _ | assumption | refine Upd.alloc ?_ _ | refine Upd.drew ?_ | refine Upd.drewN ?_ _ | refine Upd.dl ?_ | refine Upd.step ?_ (Ext.upd _) | refine Upd.nil ?_ | skip)) (by simp)) _).mono ?_; rintro e w' ⟨rfl, hu⟩; rw [HT.out.1, HT.out.2.2.1]; obtain ⟨x, rfl⟩ := Ext.of hu) | (go_at_call 26; refine (Reason_calls (hr.upd (T := []) (by iterate 25 (first | exact Upd.refl _ _ | assumption | refine Upd.alloc ?_ _ | refine Upd.drew ?_ | refine Upd.drewN ?_ _ | refine Upd.dl ?_ | refine Upd.step ?_ (Ext.upd _) | refine Upd.nil ?_ | skip)) (by simp)) _).mono ?_; rintro e w' ⟨rfl, hu⟩; rw [HT.out.2.1, HT.out.2.2.1]; obtain ⟨x, rfl⟩ := Ext.of hu) | (go_at_call 16; refine (Trail.Value_calls (hr.upd (T := []) (by iterate 25 (first | exact Upd.refl _ _ | assumption | refine Upd.alloc ?_ _ | refine Upd.drew ?_ | refine Upd.drewN ?_ _ | refine Upd.dl ?_ | refine Upd.step ?_ (Ext.upd _) | refine Upd.nil ?_ | skip)) (by simp)) _).mono ?_; rintro e _ ⟨rfl, hu⟩; obtain ⟨x, rfl⟩ := Ext.of hu) | (go_at_call 17; refine (Ref.Value_calls (mr.upd (T := []) (by iterate 25 (first | exact Upd.refl _ _ | assumption | refine Upd.alloc ?_ _ | refine Upd.drew ?_ | refine Upd.drewN ?_ _ | refine Upd.dl ?_ | refine Upd.step ?_ (Ext.upd _) | refine Upd.nil ?_ | skip)) (by simp)) _ ⟨by omega, by omega⟩).mono ?_; rintro e w' ⟨rfl, rfl⟩))
              exact ⟨⟨v + 1, by omega, by omega, rfl, hu0.trans (by iterate 25 (first | exact Upd.refl _ _ | assumption | refine Upd.alloc ?_ _ | refine Upd.drew ?_ | refine Upd.drewN ?_ _ | refine Upd.dl ?_ | refine Upd.step ?_ (Ext.upd _) | refine Upd.nil ?_ | skip))⟩, by simp [intOf]; omega⟩
    · have hge : (vars ≤ 12 ∧ (vars : Int) + 1 < v) ∨ (12 < vars ∧ 13 < v) := by have := HMN.out; omega
      clear mc
      rcases hge with ⟨hl1, hl2⟩ | ⟨hl1, hl2⟩
      all_goals
        go_wp2_with fail
        go_ret
        exact ⟨rfl, (hu3.trans hu).trans (by iterate 25 (first | exact Upd.refl _ _ | assumption | refine Upd.alloc ?_ _ | refine Upd.drew ?_ | refine Upd.drewN ?_ _ | refine Upd.dl ?_ | refine Upd.step ?_ (Ext.upd _) | refine Upd.nil ?_ | skip))⟩
end
end Law
end Go.Proofs.Ytlfcabmbakjklaa
