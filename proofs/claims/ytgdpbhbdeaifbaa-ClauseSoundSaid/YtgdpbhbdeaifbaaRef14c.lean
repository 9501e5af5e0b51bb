/- Walks through the reference of clauses: Resolve, State. Conditions: none. -/
import Derived.Test.YtgdpbhbdeaifbaaResolve
set_option linter.unusedVariables false
set_option linter.unusedSimpArgs false
set_option linter.unusedSectionVars false
open Go.RowKit
namespace Go.Proofs.Ytgdpbhbdeaifbaa
open L
namespace Cla
open R01 R14
section
variable {w : World}
set_option maxRecDepth 100000 in
set_option maxHeartbeats 4000000 in
theorem RResolve_calls {v1 v2 : Value} {a b : List Int} (h1 : SL w 1 v1 a.length (ints a)) (h2 : SL w 1 v2 b.length (ints b)) (x : Int) :
    Calls Try.prog 26 #[v1, v2, .int .i64 x] w (PairE (resL a b x) (resE a b x) w) := by
  obtain ⟨aa, capa, rfl, _, _, _⟩ := SL.elems h1
  obtain ⟨ab, capb, rfl, _, _, _⟩ := SL.elems h2
  have HV1 := Lib.hid (RValid_calls h1)
  have HV2 := Lib.hid (fun (w' : World) (hu : Upd [] w w') => RValid_calls (h2.upd hu (by simp)))
  have HB := Lib.hid (And.intro h1 h2)
  clear h1 h2
  by_cases hv1 : validErr a = 0
  · have HZ1 := Lib.hid hv1
    by_cases hv2 : validErr b = 0
    · have HZ2 := Lib.hid hv2
      have HV := Lib.hid (And.intro (valid_lit hv1) (valid_lit hv2))
      have hal := (valid_lit hv1).1
      have hbl := (valid_lit hv2).1
      have hR : resE a b x = if hasB a x = false ∨ hasB b (-x) = false then 7 else if taut (rest2 a b x) = true then 13 else 0 := by
        unfold resE; rw [if_neg (by rw [hv1]; simp), if_neg (by rw [hv2]; simp)]
      have HR := Lib.hid hR
      clear hv1 hv2 hR
      cases hx1 : hasB a x with
      | false =>
        have HF := Lib.hid (show resE a b x = 7 by rw [HR.out, if_pos (.inl hx1)])
        have HX := Lib.hid hx1
        clear hx1
        go_enter Try.func26, Try.ntmps26
        go_wp2_with fail
        refine HV1.out.mono ?_
        rintro e w1 ⟨rfl, hu1⟩
        rw [HZ1.out]
        go_wp2_with fail
        refine (HV2.out w1 hu1).mono ?_
        rintro e w2 ⟨rfl, hu2⟩
        rw [HZ2.out]
        have HU := Lib.hid (hu1.step hu2)
        have HC1 := Lib.hid (Has_calls (HB.out.1.upd HU.out (by simp)) x)
        rw [HX.out] at HC1
        clear hu1 hu2
        go_wp2_with (go_at_call 41; refine HC1.out.mono ?_; rintro e w' ⟨rfl, rfl⟩)
        go_ret2
        exact ret_nil HF.out (by decide) HU.out
      | true =>
        obtain ⟨hxr0, hxr1, hxr2⟩ := HV.out.1.2 x (hasB_iff.1 hx1)
        have HX := Lib.hid (And.intro hx1 hxr0)
        clear hxr0
        cases hx2 : hasB b (-x) with
        | false =>
          have HF := Lib.hid (show resE a b x = 7 by rw [HR.out, if_pos (.inr hx2)])
          have HX2 := Lib.hid hx2
          clear hx1 hx2
          go_enter Try.func26, Try.ntmps26
          go_wp2_with fail
          refine HV1.out.mono ?_
          rintro e w1 ⟨rfl, hu1⟩
          rw [HZ1.out]
          go_wp2_with fail
          refine (HV2.out w1 hu1).mono ?_
          rintro e w2 ⟨rfl, hu2⟩
          rw [HZ2.out]
          have HU := Lib.hid (hu1.step hu2)
          have HC1 := Lib.hid (Has_calls (HB.out.1.upd HU.out (by simp)) x)
          have HC2 := Lib.hid (Has_calls (HB.out.2.upd HU.out (by simp)) (-x))
          rw [HX.out.1] at HC1
          rw [HX2.out] at HC2
          clear hu1 hu2
          go_wp2_with (first | (go_at_call 41; (with_reducible refine HC1.out.mono ?_); rintro e w' ⟨rfl, rfl⟩) | (go_at_call 41; (with_reducible refine HC2.out.mono ?_); rintro e w' ⟨rfl, rfl⟩))
          go_ret2
          exact ret_nil HF.out (by decide) HU.out
        | true =>
          have HF := Lib.hid (show resE a b x = if taut (rest2 a b x) = true then 13 else 0 by rw [HR.out, if_neg (by rw [hx1, hx2]; simp)])
          have HX2 := Lib.hid hx2
          clear hx1 hx2 HR
          go_enter Try.func26, Try.ntmps26
          go_wp2_with fail
          refine HV1.out.mono ?_
          rintro e w1 ⟨rfl, hu1⟩
          rw [HZ1.out]
          go_wp2_with fail
          refine (HV2.out w1 hu1).mono ?_
          rintro e w2 ⟨rfl, hu2⟩
          rw [HZ2.out]
          have HU := Lib.hid (hu1.step hu2)
          have HC1 := Lib.hid (Has_calls (HB.out.1.upd HU.out (by simp)) x)
          have HC2 := Lib.hid (Has_calls (HB.out.2.upd HU.out (by simp)) (-x))
          rw [HX.out.1] at HC1
          rw [HX2.out] at HC2
          clear hu1 hu2
          go_upto_region 9 with (first | (go_at_call 41; (with_reducible refine HC1.out.mono ?_); rintro e w' ⟨rfl, rfl⟩) | (go_at_call 41; (with_reducible refine HC2.out.mono ?_); rintro e w' ⟨rfl, rfl⟩))
          clear HC1 HC2
          refine wp_region_lit ?_
          refine wpList_cutH 3 (fun K hK => ?_)
          simp only [List.take_succ_cons, List.take_zero]
          go_wp2_with fail
          refine (Without_calls (HB.out.1.upd HU.out (by simp)) (by omega) x).mono ?_
          rintro e w3 ⟨a3, c3, rfl, o3⟩
          have H3 := Lib.hid (And.intro o3 (HU.out.step o3.u))
          clear o3
          go_wp2_with fail
          refine Halt_.intro ?_; try simp only [List.drop_succ_cons, List.drop_zero]
          refine wpList_cutH 4 (fun K hK => ?_)
          simp only [List.take_succ_cons, List.take_zero]
          go_wp2_with fail
          refine (Without_calls (HB.out.2.upd H3.out.2 (by simp)) (by omega) (-x)).mono ?_
          rintro e w4 ⟨a4, c4, rfl, o4⟩
          have H4 := Lib.hid (And.intro (H3.out.1.quiet o4.u) (And.intro o4.sl (H3.out.2.step o4.u)))
          clear o4
          go_wp2_with fail
          refine Halt_.intro ?_; try simp only [List.drop_succ_cons, List.drop_zero]
          have hl1 := wout_length a x
          have hl2 := wout_length b (-x)
          refine wpList_appS rfl _ _ _ rfl 3 1 8 _ Try.underlying22 infoInt rfl (by decide) (.slice a3 (wout a x).length c3) _ _ rfl H4.out.1.row _ _ _ rfl H4.out.2.1 (ints_one _) (by unfold maxLen; omega) (by omega) ?_
          intro a5 c5 w5 o5 u5 k5
          simp only [Act.put, List.setIfInBounds_toArray, List.set_cons_zero, List.set_cons_succ]
          have e5 : ints (wout a x) ++ ints (wout b (-x)) = ints (rest2 a b x) := by simp [rest2, ints]
          have l5 : (wout a x).length + (wout b (-x)).length = (rest2 a b x).length := by simp [rest2]
          rw [e5, l5] at o5
          rw [l5]
          have U5 : Upd [] w w5 := (H4.out.2.2).fresh u5 (fun j hj => .inr (by have := H4.out.1.fresh j (by simpa using hj); have := HU.out.size; omega))
          have hrl : ∀ y ∈ rest2 a b x, y ≠ 0 ∧ LitR y := fun y hy => by
            rcases List.mem_append.1 hy with hy | hy
            · exact HV.out.1.2 y (wout_mem.1 hy).1
            · exact HV.out.2.2 y (wout_mem.1 hy).1
          have H5 := Lib.hid (And.intro (RNormal_calls (SL.of_owns o5) (by omega) hrl) U5)
          clear o5 u5 k5 e5 l5 U5 hrl H3 H4
          go_wp2_with fail
          refine H5.out.1.mono ?_
          rintro e w6 ⟨v6, rfl, hs6, hu6⟩
          cases ht : taut (rest2 a b x) with
          | true =>
            rw [ht] at HF
            have HF2 := Lib.hid (show resE a b x = 13 from HF.out)
            have HTB := Lib.hid (show tautB (rest2 a b x) = true from ht)
            rw [HTB.out]
            clear ht hs6
            go_wp2_with fail
            go_ret2
            exact ret_nil HF2.out (by decide) (H5.out.2.step hu6)
          | false =>
            rw [ht] at HF
            have HF2 := Lib.hid (show resE a b x = 0 from HF.out)
            have HL := Lib.hid (show resL a b x = nrm (rest2 a b x) by unfold resL nrm; rw [if_pos HF2.out, ht]; simp)
            have HTB := Lib.hid (show tautB (rest2 a b x) = false from ht)
            rw [HTB.out]
            obtain ⟨a6, c6, rfl, _, _, _⟩ := SL.elems hs6
            have HS := Lib.hid (And.intro hs6 hu6)
            clear ht hs6 hu6
            go_wp2_with fail
            go_ret2
            exact ⟨.slice a6 (nrm (rest2 a b x)).length c6, by rw [HF2.out]; rfl, by rw [HL.out]; exact HS.out.1, H5.out.2.step HS.out.2⟩
    · have HF := Lib.hid (show resE a b x = validErr b by unfold resE; rw [if_neg (by rw [hv1]; simp), if_pos hv2])
      have hb : (validErr b != 0) = true := by simpa using hv2
      have HN := Lib.hid hv2
      clear hv1 hv2
      generalize validErr b = er at *
      go_enter Try.func26, Try.ntmps26
      go_wp2_with fail
      refine HV1.out.mono ?_
      rintro e w1 ⟨rfl, hu1⟩
      rw [HZ1.out]
      go_wp2_with fail
      refine (HV2.out w1 hu1).mono ?_
      rintro e w2 ⟨rfl, hu2⟩
      go_wp2_with fail
      go_ret2
      exact ret_nil HF.out HN.out (hu1.step hu2)
  · have HF := Lib.hid (show resE a b x = validErr a by unfold resE; rw [if_pos hv1])
    have hb : (validErr a != 0) = true := by simpa using hv1
    have HN := Lib.hid hv1
    clear hv1
    generalize validErr a = er at *
    go_enter Try.func26, Try.ntmps26
    go_wp2_with fail
    refine HV1.out.mono ?_
    rintro e w1 ⟨rfl, hu1⟩
    go_wp2_with fail
    go_ret2
    exact ret_nil HF.out HN.out hu1
theorem badV_iff {a : List Int} {x : Int} : badV a x = true ↔ a.length ≤ x.natAbs ∨ a.getD x.natAbs 0 < -1 ∨ 1 < a.getD x.natAbs 0 := by
  simp [badV, or_assoc]
set_option maxRecDepth 100000 in
set_option maxHeartbeats 4000000 in
theorem RState_calls {cv av : Value} {c a : List Int} (hc : SL w 1 cv c.length (ints c)) (ha : SL w 1 av a.length (ints a)) (hi : ∀ x ∈ a, IsI64 x) :
    Calls Try.prog 29 #[cv, av] w (StateT w (stateRes c a)) := by
  have HL := Lib.hid (RList_calls hc)
  obtain ⟨ac, capc, rfl, q1, r1, kc⟩ := SL.elems hc
  have HA := Lib.hid ha
  obtain ⟨aa, capa, rfl, q2, r2, ka⟩ := SL.elems ha
  have HC := Lib.hid (And.intro kc ka)
  clear hc ha kc ka
  by_cases hle : listErr c = 0
  · have HLE := Lib.hid hle
    have HRR := Lib.hid (show stateRes c a = if c.any (badV a) = true then (false, [], 5) else (c.any (fun x => lval a x == 1), c.filter (fun x => lval a x == 0), 0) by unfold stateRes; rw [if_neg (by rw [hle]; simp)])
    obtain ⟨hcl, hlit⟩ := listErr_lit hle
    have HLIT := Lib.hid hlit
    clear hle hlit
    go_enter Try.func29, Try.ntmps29
    go_wp2_with fail
    refine HL.out.mono ?_
    rintro e _ ⟨rfl, rfl⟩
    rw [HLE.out]
    go_wp2_with fail
    go_loop [8] (fun i => ∃ k : Nat, k ≤ c.length ∧ i = .int .i64 k ∧ ∀ x ∈ c.take k, badV a x = false) (fun i => c.length - (intOf i).toNat)
    case atStart => exact ⟨0, Nat.zero_le _, rfl, by simp⟩
    case round =>
      obtain ⟨k, hk, rfl, hlo⟩ := hrel
      have HLO := Lib.hid hlo
      clear hlo
      by_cases hlt : k < c.length
      · obtain ⟨g, off, rfl, k1⟩ := HC.out.1 (by omega)
        have e1 := k1 k _ (ints_gd hlt)
        obtain ⟨_, hx1, hx2⟩ := HLIT.out _ (gd_mem hlt)
        have hmem := gd_mem hlt
        clear k1
        generalize hgx : c.getD k 0 = x at *
        have HG := Lib.hid (And.intro hgx hmem)
        clear hgx hmem
        cases hb : badV a x with
        | true =>
          have HE := Lib.hid (show stateRes c a = (false, [], 5) by
            rw [HRR.out, if_pos]
            rw [List.any_eq_true]
            exact ⟨x, HG.out.2, hb⟩)
          have hb' := badV_iff.1 hb
          clear hb
          by_cases hr : a.length ≤ x.natAbs
          · have hr2 : (a.length : Int) ≤ x.natAbs := by omega
            clear hb'
            go_wp2_with (go_at_call 45; refine (Var_calls _ _ (by omega) (by omega)).mono ?_; rintro e w' ⟨rfl, rfl⟩)
            go_ret3
            rw [HE.out]
            exact ⟨_, rfl, Own.nil w⟩
          · have hr3 : x.natAbs < a.length := by omega
            have hr2 : ¬ (a.length : Int) ≤ x.natAbs := by omega
            obtain ⟨g2, off2, rfl, k2⟩ := HC.out.2 (by omega)
            have e2 := k2 x.natAbs _ (ints_gd hr3)
            clear k2
            generalize a.getD x.natAbs 0 = y at *
            rcases (by omega : y < -1 ∨ (¬ y < -1 ∧ 1 < y)) with hy | ⟨hy, hy2⟩
            · clear hb'
              go_wp2_with (go_at_call 45; refine (Var_calls _ _ (by omega) (by omega)).mono ?_; rintro e w' ⟨rfl, rfl⟩)
              go_ret3
              rw [HE.out]
              exact ⟨_, rfl, Own.nil w⟩
            · clear hb'
              go_wp2_with (go_at_call 45; refine (Var_calls _ _ (by omega) (by omega)).mono ?_; rintro e w' ⟨rfl, rfl⟩)
              go_ret3
              rw [HE.out]
              exact ⟨_, rfl, Own.nil w⟩
        | false =>
          have hb' : ¬ (a.length ≤ x.natAbs ∨ a.getD x.natAbs 0 < -1 ∨ 1 < a.getD x.natAbs 0) := fun h => by rw [badV_iff.2 h] at hb; cases hb
          have hr3 : x.natAbs < a.length := by omega
          have hr2 : ¬ (a.length : Int) ≤ x.natAbs := by omega
          obtain ⟨g2, off2, rfl, k2⟩ := HC.out.2 (by omega)
          have e2 := k2 x.natAbs _ (ints_gd hr3)
          have hy1 : ¬ a.getD x.natAbs 0 < -1 := by omega
          have hy2 : ¬ 1 < a.getD x.natAbs 0 := by omega
          have HB := Lib.hid hb
          clear k2 hb' hb
          generalize a.getD x.natAbs 0 = y at *
          go_wp2_with (go_at_call 45; refine (Var_calls _ _ (by omega) (by omega)).mono ?_; rintro e w' ⟨rfl, rfl⟩)
          refine ⟨⟨k + 1, by omega, by go_num, ?_⟩, by simp [intOf]; omega⟩
          rw [List.take_add_one, gd_some (d := 0) hlt, HG.out.1]
          intro z hz
          rcases List.mem_append.1 hz with hz | hz
          · exact HLO.out z hz
          · simp at hz; subst hz; exact HB.out
      · have HNB := Lib.hid (show ∀ x ∈ c, badV a x = false by
          have := HLO.out
          rwa [List.take_of_length_le (by omega)] at this)
        have HE := Lib.hid (show stateRes c a = (c.any (fun x => lval a x == 1), c.filter (fun x => lval a x == 0), 0) by
          rw [HRR.out, if_neg]
          intro h
          rw [List.any_eq_true] at h
          obtain ⟨x, hx, hb⟩ := h
          rw [HNB.out x hx] at hb; cases hb)
        go_wp2_with fail
        clear hk hlt HLO HRR
        go_loopw [10, 11, 12] (fun t o i wr => ∃ k : Nat, k ≤ c.length ∧ i = .int .i64 k ∧ t = .bool ((c.take k).any fun x => lval a x == 1) ∧ Own w o ((c.take k).filter fun x => lval a x == 0) wr) (fun _ _ i _ => c.length - (intOf i).toNat)
        case atStart => exact ⟨0, Nat.zero_le _, rfl, by simp, Own.nil w⟩
        case round =>
          obtain ⟨k, hk, rfl, rfl, ho⟩ := hrel
          by_cases hlt : k < c.length
          · obtain ⟨g, off, rfl, k1⟩ := HC.out.1 (by omega)
            have e1 := ho.u.some (k1 k _ (ints_gd hlt)) (by simp)
            obtain ⟨_, hx1, hx2⟩ := HLIT.out _ (gd_mem hlt)
            have hb := HNB.out _ (gd_mem hlt)
            have hfl : ((c.take k).filter fun x => lval a x == 0).length ≤ c.length := Nat.le_trans (List.length_filter_le _ _) (by rw [List.length_take]; omega)
            have hts : c.take (k + 1) = c.take k ++ [c.getD k 0] := by rw [List.take_add_one, gd_some (d := 0) hlt]; rfl
            clear k1
            generalize c.getD k 0 = x at *
            have hb' : ¬ (a.length ≤ x.natAbs ∨ a.getD x.natAbs 0 < -1 ∨ 1 < a.getD x.natAbs 0) := fun h => by rw [badV_iff.2 h] at hb; cases hb
            have HV := Lib.hid (Value_calls (HA.out.upd ho.u (by simp)) x (by omega) (by omega) (by omega))
            have hlv : lval a x = 0 ∨ lval a x = 1 ∨ lval a x = -1 := by unfold lval; split <;> omega
            have HT := Lib.hid (show ((c.take (k + 1)).any fun x => lval a x == 1) = (((c.take k).any fun x => lval a x == 1) || lval a x == 1) by rw [hts, List.any_append]; simp)
            have HF := Lib.hid (show ((c.take (k + 1)).filter fun x => lval a x == 0) = ((c.take k).filter fun x => lval a x == 0) ++ (if lval a x = 0 then [x] else []) by
              rw [hts, List.filter_append]
              by_cases h0 : lval a x = 0 <;> simp [h0])
            have HO := Lib.hid ho
            clear hb hb' hts ho
            generalize hfe : ((c.take k).filter fun x => lval a x == 0) = fs at *
            generalize hte : ((c.take k).any fun x => lval a x == 1) = tb at *
            have HFT := Lib.hid (And.intro hfe hte)
            clear hfe hte
            generalize lval a x = y at *
            rcases hlv with hy | hy | hy
            · subst hy
              cases tb <;>
              · go_wp2_with (first | (go_at_call 50; refine HV.out.mono ?_; rintro e w' ⟨rfl, rfl⟩) | (refine wpList_push rfl rfl _ _ _ _ rfl rfl rfl 3 1 8 _ Try.underlying22 infoInt rfl (by decide) (by decide) (.int .i64 x) [.int .i64 x] rfl rfl rfl (ints_one [x]) _ _ _ HO.out.row rfl rfl (by unfold maxLen; omega) (by omega) ?_; intro g4 cap4 w4 o4 u4 k4))
                have N4 := HO.out.push o4 u4 k4
                refine ⟨⟨k + 1, by omega, by go_num, ?_, ?_⟩, by simp [intOf]; omega⟩
                · rw [HT.out]; rfl
                · rw [HF.out]; simpa using N4
            · subst hy
              cases tb <;>
              · go_wp2_with (go_at_call 50; refine HV.out.mono ?_; rintro e w' ⟨rfl, rfl⟩)
                refine ⟨⟨k + 1, by omega, by go_num, ?_, ?_⟩, by simp [intOf]; omega⟩
                · rw [HT.out]; rfl
                · rw [HF.out]; simpa using HO.out
            · subst hy
              cases tb <;>
              · go_wp2_with (go_at_call 50; refine HV.out.mono ?_; rintro e w' ⟨rfl, rfl⟩)
                refine ⟨⟨k + 1, by omega, by go_num, ?_, ?_⟩, by simp [intOf]; omega⟩
                · rw [HT.out]; rfl
                · rw [HF.out]; simpa using HO.out
          · have hkc : c.take k = c := List.take_of_length_le (by omega)
            rw [hkc] at ho ⊢
            obtain ⟨ao, co, rfl, _, _⟩ := ho.form
            have HO := Lib.hid ho
            clear ho hkc
            go_wp2_with fail
            go_ret3
            rw [HE.out]
            exact ⟨_, rfl, HO.out⟩
  · have HR := Lib.hid (show stateRes c a = (false, [], listErr c) by simp [stateRes, hle])
    generalize listErr c = er at *
    have hb : (er != 0) = true := by simpa using hle
    clear hle
    go_enter Try.func29, Try.ntmps29
    go_wp2_with fail
    refine HL.out.mono ?_
    rintro e _ ⟨rfl, rfl⟩
    go_wp2_with fail
    go_ret3
    rw [HR.out]
    exact ⟨_, rfl, Own.nil w⟩
end
end Cla
end Go.Proofs.Ytgdpbhbdeaifbaa
