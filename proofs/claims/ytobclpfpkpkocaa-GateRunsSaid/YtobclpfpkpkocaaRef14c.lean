/- Walks through the reference of clauses: Resolve, State. Conditions: none. -/
import Derived.Test.YtobclpfpkpkocaaResolve
set_option linter.unusedVariables false
set_option linter.unusedSimpArgs false
set_option linter.unusedSectionVars false
open Go.RowKit
namespace Go.Proofs.Ytobclpfpkpkocaa
open L
namespace Cla
open R01 R14
section
variable {w : World}
theorem badV_iff {a : List Int} {x : Int} : badV a x = true ↔ a.length ≤ x.natAbs ∨ a.getD x.natAbs 0 < -1 ∨ 1 < a.getD x.natAbs 0 := by
  simp [badV, or_assoc]
set_option maxRecDepth 100000 in
set_option maxHeartbeats 4000000 in
theorem RState_calls {cv av : Value} {c a : List Int} (hc : SL w 1 cv c.length (ints c)) (ha : SL w 1 av a.length (ints a)) (hi : ∀ x ∈ a, IsI64 x) :
    Calls Try.prog 47 #[cv, av] w (StateT w (stateRes c a)) := by
  have HL := Lib.hid (RList_calls hc)
  obtain ⟨ac, capc, rfl, q1, r1, kc⟩ := SL.elems hc
  have HA := Lib.hid ha
  obtain ⟨aa, capa, rfl, q2, r2, ka⟩ := SL.elems ha
  have HC := Lib.hid (And.intro kc ka)
  clear hc ha kc ka
  by_cases hle : listErr c = 0
  · have HLE := Lib.hid hle
    have HRR := Lib.hid (show stateRes c a = if c.any (badV a) = true then (false, [], 5) else (c.any (fun x => lval a x == 1), c.filter (fun x => lval a x == 0), 0) by unfold stateRes; rw [if_neg (by rw [hle]; simp)])
    obtain ⟨hcl, hlit⟩ := listErr_lit hle
    have HLIT := Lib.hid hlit
    clear hle hlit
    go_enter Try.func47, Try.ntmps47
    go_wp2_with fail
    refine HL.out.mono ?_
    rintro e _ ⟨rfl, rfl⟩
    rw [HLE.out]
    go_wp2_with fail
    go_loop [8] (fun i => ∃ k : Nat, k ≤ c.length ∧ i = .int .i64 k ∧ ∀ x ∈ c.take k, badV a x = false) (fun i => c.length - (intOf i).toNat)
    case atStart => exact ⟨0, Nat.zero_le _, rfl, by simp⟩
    case round =>
      obtain ⟨k, hk, rfl, hlo⟩ := hrel
      have HLO := Lib.hid hlo
      clear hlo
      by_cases hlt : k < c.length
      · obtain ⟨g, off, rfl, k1⟩ := HC.out.1 (by omega)
        have e1 := k1 k _ (ints_gd hlt)
        obtain ⟨_, hx1, hx2⟩ := HLIT.out _ (gd_mem hlt)
        have hmem := gd_mem hlt
        clear k1
        generalize hgx : c.getD k 0 = x at *
        have HG := Lib.hid (And.intro hgx hmem)
        clear hgx hmem
        cases hb : badV a x with
        | true =>
          have HE := Lib.hid (show stateRes c a = (false, [], 5) by
            rw [HRR.out, if_pos]
            rw [List.any_eq_true]
            exact ⟨x, HG.out.2, hb⟩)
          have hb' := badV_iff.1 hb
          clear hb
          by_cases hr : a.length ≤ x.natAbs
          · have hr2 : (a.length : Int) ≤ x.natAbs := by omega
            clear hb'
            go_wp2_with (go_at_call 35; refine (Var_calls _ _ (by omega) (by omega)).mono ?_; rintro e w' ⟨rfl, rfl⟩)
            go_ret3
            rw [HE.out]
            exact ⟨_, rfl, Own.nil w⟩
          · have hr3 : x.natAbs < a.length := by omega
            have hr2 : ¬ (a.length : Int) ≤ x.natAbs := by omega
            obtain ⟨g2, off2, rfl, k2⟩ := HC.out.2 (by omega)
            have e2 := k2 x.natAbs _ (ints_gd hr3)
            clear k2
            generalize a.getD x.natAbs 0 = y at *
            rcases (by omega : y < -1 ∨ (¬ y < -1 ∧ 1 < y)) with hy | ⟨hy, hy2⟩
            · clear hb'
              go_wp2_with (go_at_call 35; refine (Var_calls _ _ (by omega) (by omega)).mono ?_; rintro e w' ⟨rfl, rfl⟩)
              go_ret3
              rw [HE.out]
              exact ⟨_, rfl, Own.nil w⟩
            · clear hb'
              go_wp2_with (go_at_call 35; refine (Var_calls _ _ (by omega) (by omega)).mono ?_; rintro e w' ⟨rfl, rfl⟩)
              go_ret3
              rw [HE.out]
              exact ⟨_, rfl, Own.nil w⟩
        | false =>
          have hb' : ¬ (a.length ≤ x.natAbs ∨ a.getD x.natAbs 0 < -1 ∨ 1 < a.getD x.natAbs 0) := fun h => by rw [badV_iff.2 h] at hb; cases hb
          have hr3 : x.natAbs < a.length := by omega
          have hr2 : ¬ (a.length : Int) ≤ x.natAbs := by omega
          obtain ⟨g2, off2, rfl, k2⟩ := HC.out.2 (by omega)
          have e2 := k2 x.natAbs _ (ints_gd hr3)
          have hy1 : ¬ a.getD x.natAbs 0 < -1 := by omega
          have hy2 : ¬ 1 < a.getD x.natAbs 0 := by omega
          have HB := Lib.hid hb
          clear k2 hb' hb
          generalize a.getD x.natAbs 0 = y at *
          go_wp2_with (go_at_call 35; refine (Var_calls _ _ (by omega) (by omega)).mono ?_; rintro e w' ⟨rfl, rfl⟩)
          refine ⟨⟨k + 1, by omega, by go_num, ?_⟩, by simp [intOf]; omega⟩
          rw [List.take_add_one, gd_some (d := 0) hlt, HG.out.1]
          intro z hz
          rcases List.mem_append.1 hz with hz | hz
          · exact HLO.out z hz
          · simp at hz; subst hz; exact HB.out
      · have HNB := Lib.hid (show ∀ x ∈ c, badV a x = false by
          have := HLO.out
          rwa [List.take_of_length_le (by omega)] at this)
        have HE := Lib.hid (show stateRes c a = (c.any (fun x => lval a x == 1), c.filter (fun x => lval a x == 0), 0) by
          rw [HRR.out, if_neg]
          intro h
          rw [List.any_eq_true] at h
          obtain ⟨x, hx, hb⟩ := h
          rw [HNB.out x hx] at hb; cases hb)
        go_wp2_with fail
        clear hk hlt HLO HRR
        go_loopw [10, 11, 12] (fun t o i wr => ∃ k : Nat, k ≤ c.length ∧ i = .int .i64 k ∧ t = .bool ((c.take k).any fun x => lval a x == 1) ∧ Own w o ((c.take k).filter fun x => lval a x == 0) wr) (fun _ _ i _ => c.length - (intOf i).toNat)
        case atStart => exact ⟨0, Nat.zero_le _, rfl, by simp, Own.nil w⟩
        case round =>
          obtain ⟨k, hk, rfl, rfl, ho⟩ := hrel
          by_cases hlt : k < c.length
          · obtain ⟨g, off, rfl, k1⟩ := HC.out.1 (by omega)
            have e1 := ho.u.some (k1 k _ (ints_gd hlt)) (by simp)
            obtain ⟨_, hx1, hx2⟩ := HLIT.out _ (gd_mem hlt)
            have hb := HNB.out _ (gd_mem hlt)
            have hfl : ((c.take k).filter fun x => lval a x == 0).length ≤ c.length := Nat.le_trans (List.length_filter_le _ _) (by rw [List.length_take]; omega)
            have hts : c.take (k + 1) = c.take k ++ [c.getD k 0] := by rw [List.take_add_one, gd_some (d := 0) hlt]; rfl
            clear k1
            generalize c.getD k 0 = x at *
            have hb' : ¬ (a.length ≤ x.natAbs ∨ a.getD x.natAbs 0 < -1 ∨ 1 < a.getD x.natAbs 0) := fun h => by rw [badV_iff.2 h] at hb; cases hb
            have HV := Lib.hid (Value_calls (HA.out.upd ho.u (by simp)) x (by omega) (by omega) (by omega))
            have hlv : lval a x = 0 ∨ lval a x = 1 ∨ lval a x = -1 := by unfold lval; split <;> omega
            have HT := Lib.hid (show ((c.take (k + 1)).any fun x => lval a x == 1) = (((c.take k).any fun x => lval a x == 1) || lval a x == 1) by rw [hts, List.any_append]; simp)
            have HF := Lib.hid (show ((c.take (k + 1)).filter fun x => lval a x == 0) = ((c.take k).filter fun x => lval a x == 0) ++ (if lval a x = 0 then [x] else []) by
              rw [hts, List.filter_append]
              by_cases h0 : lval a x = 0 <;> simp [h0])
            have HO := Lib.hid ho
            clear hb hb' hts ho
            generalize hfe : ((c.take k).filter fun x => lval a x == 0) = fs at *
            generalize hte : ((c.take k).any fun x => lval a x == 1) = tb at *
            have HFT := Lib.hid (And.intro hfe hte)
            clear hfe hte
            generalize lval a x = y at *
            rcases hlv with hy | hy | hy
            · subst hy
              cases tb <;>
              · go_wp2_with (first | (go_at_call 48; refine HV.out.mono ?_; rintro e w' ⟨rfl, rfl⟩) | (refine wpList_push rfl rfl _ _ _ _ rfl rfl rfl 3 1 8 _ Try.underlying22 infoInt rfl (by decide) (by decide) (.int .i64 x) [.int .i64 x] rfl rfl rfl (ints_one [x]) _ _ _ HO.out.row rfl rfl (by unfold maxLen; omega) (by omega) ?_; intro g4 cap4 w4 o4 u4 k4))
                have N4 := HO.out.push o4 u4 k4
                refine ⟨⟨k + 1, by omega, by go_num, ?_, ?_⟩, by simp [intOf]; omega⟩
                · rw [HT.out]; rfl
                · rw [HF.out]; simpa using N4
            · subst hy
              cases tb <;>
              · go_wp2_with (go_at_call 48; refine HV.out.mono ?_; rintro e w' ⟨rfl, rfl⟩)
                refine ⟨⟨k + 1, by omega, by go_num, ?_, ?_⟩, by simp [intOf]; omega⟩
                · rw [HT.out]; rfl
                · rw [HF.out]; simpa using HO.out
            · subst hy
              cases tb <;>
              · go_wp2_with (go_at_call 48; refine HV.out.mono ?_; rintro e w' ⟨rfl, rfl⟩)
                refine ⟨⟨k + 1, by omega, by go_num, ?_, ?_⟩, by simp [intOf]; omega⟩
                · rw [HT.out]; rfl
                · rw [HF.out]; simpa using HO.out
          · have hkc : c.take k = c := List.take_of_length_le (by omega)
            rw [hkc] at ho ⊢
            obtain ⟨ao, co, rfl, _, _⟩ := ho.form
            have HO := Lib.hid ho
            clear ho hkc
            go_wp2_with fail
            go_ret3
            rw [HE.out]
            exact ⟨_, rfl, HO.out⟩
  · have HR := Lib.hid (show stateRes c a = (false, [], listErr c) by simp [stateRes, hle])
    generalize listErr c = er at *
    have hb : (er != 0) = true := by simpa using hle
    clear hle
    go_enter Try.func47, Try.ntmps47
    go_wp2_with fail
    refine HL.out.mono ?_
    rintro e _ ⟨rfl, rfl⟩
    go_wp2_with fail
    go_ret3
    rw [HR.out]
    exact ⟨_, rfl, Own.nil w⟩
end
end Cla
end Go.Proofs.Ytobclpfpkpkocaa
