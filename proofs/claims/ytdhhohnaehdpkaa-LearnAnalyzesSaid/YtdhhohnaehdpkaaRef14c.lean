/- Walks through the reference of clauses: Resolve, State. Conditions: none. -/
import Derived.Test.YtdhhohnaehdpkaaResolve
set_option linter.unusedVariables false
set_option linter.unusedSimpArgs false
set_option linter.unusedSectionVars false
open Go.RowKit
namespace Go.Proofs.Ytdhhohnaehdpkaa
open L
namespace Cla
open R01 R14
section
variable {w : World}
set_option maxRecDepth 100000 in
set_option maxHeartbeats 4000000 in
theorem RResolve_calls {v1 v2 : Value} {a b : List Int} (h1 : SL w 1 v1 a.length (ints a)) (h2 : SL w 1 v2 b.length (ints b)) (x : Int) :
    Calls Try.prog 46 #[v1, v2, .int .i64 x] w (PairE (resL a b x) (resE a b x) w) := by
  obtain ⟨aa, capa, rfl, _, _, _⟩ := SL.elems h1
  obtain ⟨ab, capb, rfl, _, _, _⟩ := SL.elems h2
  have HV1 := Lib.hid (RValid_calls h1)
  have HV2 := Lib.hid (fun (w' : World) (hu : Upd [] w w') => RValid_calls (h2.upd hu (by simp)))
  have HB := Lib.hid (And.intro h1 h2)
  clear h1 h2
  by_cases hv1 : validErr a = 0
  · have HZ1 := Lib.hid hv1
    by_cases hv2 : validErr b = 0
    · have HZ2 := Lib.hid hv2
      have HV := Lib.hid (And.intro (valid_lit hv1) (valid_lit hv2))
      have hal := (valid_lit hv1).1
      have hbl := (valid_lit hv2).1
      have hR : resE a b x = if hasB a x = false ∨ hasB b (-x) = false then 7 else if taut (rest2 a b x) = true then 13 else 0 := by
        unfold resE; rw [if_neg (by rw [hv1]; simp), if_neg (by rw [hv2]; simp)]
      have HR := Lib.hid hR
      clear hv1 hv2 hR
      cases hx1 : hasB a x with
      | false =>
        have HF := Lib.hid (show resE a b x = 7 by rw [HR.out, if_pos (.inl hx1)])
        have HX := Lib.hid hx1
        clear hx1
        go_enter Try.func46, Try.ntmps46
        go_wp2_with fail
        refine HV1.out.mono ?_
        rintro e w1 ⟨rfl, hu1⟩
        rw [HZ1.out]
        go_wp2_with fail
        refine (HV2.out w1 hu1).mono ?_
        rintro e w2 ⟨rfl, hu2⟩
        rw [HZ2.out]
        have HU := Lib.hid (hu1.step hu2)
        have HC1 := Lib.hid (Has_calls (HB.out.1.upd HU.out (by simp)) x)
        rw [HX.out] at HC1
        clear hu1 hu2
        go_wp2_with (go_at_call 19; refine HC1.out.mono ?_; rintro e w' ⟨rfl, rfl⟩)
        go_ret2
        exact ret_nil HF.out (by decide) HU.out
      | true =>
        obtain ⟨hxr0, hxr1, hxr2⟩ := HV.out.1.2 x (hasB_iff.1 hx1)
        have HX := Lib.hid (And.intro hx1 hxr0)
        clear hxr0
        cases hx2 : hasB b (-x) with
        | false =>
          have HF := Lib.hid (show resE a b x = 7 by rw [HR.out, if_pos (.inr hx2)])
          have HX2 := Lib.hid hx2
          clear hx1 hx2
          go_enter Try.func46, Try.ntmps46
          go_wp2_with fail
          refine HV1.out.mono ?_
          rintro e w1 ⟨rfl, hu1⟩
          rw [HZ1.out]
          go_wp2_with fail
          refine (HV2.out w1 hu1).mono ?_
          rintro e w2 ⟨rfl, hu2⟩
          rw [HZ2.out]
          have HU := Lib.hid (hu1.step hu2)
          have HC1 := Lib.hid (Has_calls (HB.out.1.upd HU.out (by simp)) x)
          have HC2 := Lib.hid (Has_calls (HB.out.2.upd HU.out (by simp)) (-x))
          rw [HX.out.1] at HC1
          rw [HX2.out] at HC2
          clear hu1 hu2
          go_wp2_with (first | (go_at_call 19; (with_reducible refine HC1.out.mono ?_); rintro e w' ⟨rfl, rfl⟩) | (go_at_call 19; (with_reducible refine HC2.out.mono ?_); rintro e w' ⟨rfl, rfl⟩))
          go_ret2
          exact ret_nil HF.out (by decide) HU.out
        | true =>
          have HF := Lib.hid (show resE a b x = if taut (rest2 a b x) = true then 13 else 0 by rw [HR.out, if_neg (by rw [hx1, hx2]; simp)])
          have HX2 := Lib.hid hx2
          clear hx1 hx2 HR
          go_enter Try.func46, Try.ntmps46
          go_wp2_with fail
          refine HV1.out.mono ?_
          rintro e w1 ⟨rfl, hu1⟩
          rw [HZ1.out]
          go_wp2_with fail
          refine (HV2.out w1 hu1).mono ?_
          rintro e w2 ⟨rfl, hu2⟩
          rw [HZ2.out]
          have HU := Lib.hid (hu1.step hu2)
          have HC1 := Lib.hid (Has_calls (HB.out.1.upd HU.out (by simp)) x)
          have HC2 := Lib.hid (Has_calls (HB.out.2.upd HU.out (by simp)) (-x))
          rw [HX.out.1] at HC1
          rw [HX2.out] at HC2
          clear hu1 hu2
          go_upto_region 9 with (first | (go_at_call 19; (with_reducible refine HC1.out.mono ?_); rintro e w' ⟨rfl, rfl⟩) | (go_at_call 19; (with_reducible refine HC2.out.mono ?_); rintro e w' ⟨rfl, rfl⟩))
          clear HC1 HC2
          refine wp_region_lit ?_
          refine wpList_cutH 3 (fun K hK => ?_)
          simp only [List.take_succ_cons, List.take_zero]
          go_wp2_with fail
          refine (Without_calls (HB.out.1.upd HU.out (by simp)) (by omega) x).mono ?_
          rintro e w3 ⟨a3, c3, rfl, o3⟩
          have H3 := Lib.hid (And.intro o3 (HU.out.step o3.u))
          clear o3
          go_wp2_with fail
          refine Halt_.intro ?_; try simp only [List.drop_succ_cons, List.drop_zero]
          refine wpList_cutH 4 (fun K hK => ?_)
          simp only [List.take_succ_cons, List.take_zero]
          go_wp2_with fail
          refine (Without_calls (HB.out.2.upd H3.out.2 (by simp)) (by omega) (-x)).mono ?_
          rintro e w4 ⟨a4, c4, rfl, o4⟩
          have H4 := Lib.hid (And.intro (H3.out.1.quiet o4.u) (And.intro o4.sl (H3.out.2.step o4.u)))
          clear o4
          go_wp2_with fail
          refine Halt_.intro ?_; try simp only [List.drop_succ_cons, List.drop_zero]
          have hl1 := wout_length a x
          have hl2 := wout_length b (-x)
          refine wpList_appS rfl _ _ _ rfl 3 1 8 _ Try.underlying22 infoInt rfl (by decide) (.slice a3 (wout a x).length c3) _ _ rfl H4.out.1.row _ _ _ rfl H4.out.2.1 (ints_one _) (by unfold maxLen; omega) (by omega) ?_
          intro a5 c5 w5 o5 u5 k5
          simp only [Act.put, List.setIfInBounds_toArray, List.set_cons_zero, List.set_cons_succ]
          have e5 : ints (wout a x) ++ ints (wout b (-x)) = ints (rest2 a b x) := by simp [rest2, ints]
          have l5 : (wout a x).length + (wout b (-x)).length = (rest2 a b x).length := by simp [rest2]
          rw [e5, l5] at o5
          rw [l5]
          have U5 : Upd [] w w5 := (H4.out.2.2).fresh u5 (fun j hj => .inr (by have := H4.out.1.fresh j (by simpa using hj); have := HU.out.size; omega))
          have hrl : ∀ y ∈ rest2 a b x, y ≠ 0 ∧ LitR y := fun y hy => by
            rcases List.mem_append.1 hy with hy | hy
            · exact HV.out.1.2 y (wout_mem.1 hy).1
            · exact HV.out.2.2 y (wout_mem.1 hy).1
          have H5 := Lib.hid (And.intro (RNormal_calls (SL.of_owns o5) (by omega) hrl) U5)
          clear o5 u5 k5 e5 l5 U5 hrl H3 H4
          go_wp2_with fail
          refine H5.out.1.mono ?_
          rintro e w6 ⟨v6, rfl, hs6, hu6⟩
          cases ht : taut (rest2 a b x) with
          | true =>
            rw [ht] at HF
            have HF2 := Lib.hid (show resE a b x = 13 from HF.out)
            have HTB := Lib.hid (show tautB (rest2 a b x) = true from ht)
            rw [HTB.out]
            clear ht hs6
            go_wp2_with fail
            go_ret2
            exact ret_nil HF2.out (by decide) (H5.out.2.step hu6)
          | false =>
            rw [ht] at HF
            have HF2 := Lib.hid (show resE a b x = 0 from HF.out)
            have HL := Lib.hid (show resL a b x = nrm (rest2 a b x) by unfold resL nrm; rw [if_pos HF2.out, ht]; simp)
            have HTB := Lib.hid (show tautB (rest2 a b x) = false from ht)
            rw [HTB.out]
            obtain ⟨a6, c6, rfl, _, _, _⟩ := SL.elems hs6
            have HS := Lib.hid (And.intro hs6 hu6)
            clear ht hs6 hu6
            go_wp2_with fail
            go_ret2
            exact ⟨.slice a6 (nrm (rest2 a b x)).length c6, by rw [HF2.out]; rfl, by rw [HL.out]; exact HS.out.1, H5.out.2.step HS.out.2⟩
    · have HF := Lib.hid (show resE a b x = validErr b by unfold resE; rw [if_neg (by rw [hv1]; simp), if_pos hv2])
      have hb : (validErr b != 0) = true := by simpa using hv2
      have HN := Lib.hid hv2
      clear hv1 hv2
      generalize validErr b = er at *
      go_enter Try.func46, Try.ntmps46
      go_wp2_with fail
      refine HV1.out.mono ?_
      rintro e w1 ⟨rfl, hu1⟩
      rw [HZ1.out]
      go_wp2_with fail
      refine (HV2.out w1 hu1).mono ?_
      rintro e w2 ⟨rfl, hu2⟩
      go_wp2_with fail
      go_ret2
      exact ret_nil HF.out HN.out (hu1.step hu2)
  · have HF := Lib.hid (show resE a b x = validErr a by unfold resE; rw [if_pos hv1])
    have hb : (validErr a != 0) = true := by simpa using hv1
    have HN := Lib.hid hv1
    clear hv1
    generalize validErr a = er at *
    go_enter Try.func46, Try.ntmps46
    go_wp2_with fail
    refine HV1.out.mono ?_
    rintro e w1 ⟨rfl, hu1⟩
    go_wp2_with fail
    go_ret2
    exact ret_nil HF.out HN.out hu1
theorem badV_iff {a : List Int} {x : Int} : badV a x = true ↔ a.length ≤ x.natAbs ∨ a.getD x.natAbs 0 < -1 ∨ 1 < a.getD x.natAbs 0 := by
  simp [badV, or_assoc]
end
end Cla
end Go.Proofs.Ytdhhohnaehdpkaa
