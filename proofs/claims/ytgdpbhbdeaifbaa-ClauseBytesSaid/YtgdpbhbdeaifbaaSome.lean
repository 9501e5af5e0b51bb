/- Walks through the reference of clauses: Some, Var. Conditions: none. -/
import Derived.Test.YtgdpbhbdeaifbaaOwn
set_option linter.unusedVariables false
set_option linter.unusedSimpArgs false
set_option linter.unusedSectionVars false
open Go.RowKit
namespace Go.Proofs.Ytgdpbhbdeaifbaa
open L
namespace R14
open R01
section
variable {w : World}
def SomeT (vars : Int) (w : World) (e : Ending) (w' : World) : Prop :=
  ∃ v xs, e = .returned v ∧ Own w v xs w' ∧ (∀ x ∈ xs, 1 ≤ x.natAbs ∧ (x.natAbs : Int) ≤ vars) ∧ xs.length ≤ vars.toNat
theorem Var_calls (n : Int) (w : World) (hn : -9223372036854775808 < n) (h2 : n ≤ 9223372036854775807) : Calls Try.prog 45 #[.int .i64 n] w fun e w' => e = .returned (.int .i64 (n.natAbs : Int)) ∧ w = w' := by
  by_cases h : n < 0
  · go_enter Try.func45, Try.ntmps45
    go_wp2_with fail
    go_ret
    exact ⟨ret_int (by omega), rfl⟩
  · go_enter Try.func45, Try.ntmps45
    go_wp2_with fail
    go_ret
    exact ⟨ret_int (by omega), rfl⟩
set_option maxHeartbeats 1000000 in
theorem Some_calls (n vars : Int) (hn : IsI64 n) (hv : vars ≤ 1000) : Calls Try.prog 31 #[.int .i64 n, .int .i64 vars] w (SomeT vars w) := by
  have ha0 := around_lo (n := n) (k := 1048576) (by omega)
  have ha1 := around_hi (n := n) (k := 1048576) (by omega)
  go_enter Try.func31, Try.ntmps31
  go_wp2_with fail
  refine (Around_calls n 1048576 _ hn (by omega) (by omega)).mono ?_
  rintro e _ ⟨rfl, rfl⟩
  generalize around n 1048576 = q at *
  go_wp2_with fail
  go_loopw [5, 6, 7] (fun k o v wr => ∃ (kk vv : Int) (xs : List Int), k = .int .i64 kk ∧ 0 ≤ kk ∧ kk ≤ 1048576 ∧ v = .int .i64 vv ∧ 1 ≤ vv ∧ vv ≤ 1001 ∧ (vv ≤ vars + 1 ∨ vv = 1) ∧ Own w o xs wr ∧ (∀ x ∈ xs, 1 ≤ x.natAbs ∧ (x.natAbs : Int) < vv) ∧ (xs.length : Int) < vv) (fun _ _ v _ => (vars + 1 - intOf v).toNat)
  case atStart => exact ⟨q, 1, [], rfl, ha0, by omega, rfl, by omega, by omega, .inr rfl, Own.nil w, by simp, by simp⟩
  case round =>
    obtain ⟨kk, vv, xs, rfl, hk0, hk1, rfl, hv1, hv2, hv3, ho, hx, hl⟩ := hrel
    have HX := Lib.hid hx
    clear hx
    by_cases hlt : vv ≤ vars
    · obtain ⟨a, cap, rfl, _, _⟩ := ho.form
      have HO := Lib.hid ho
      clear ho
      go_upto_block 2 with fail
      go_cut [6] (fun o w' => ∃ xs', Own w o xs' w' ∧ (∀ x ∈ xs', 1 ≤ x.natAbs ∧ (x.natAbs : Int) ≤ vv) ∧ (xs'.length : Int) ≤ vv)
      case first =>
        rcases (by omega : kk % 5 = 0 ∨ kk % 5 = 1 ∨ kk % 5 = 2 ∨ kk % 5 = 3 ∨ kk % 5 = 4) with h5 | h5 | h5 | h5 | h5
        · go_upto_region 9 with fail
          refine wp_region_lit ?_
          refine wpList_cutH 2 (fun K hK => ?_)
          simp only [List.take_succ_cons, List.take_zero]
          go_wp2_with fail
          refine Halt_.intro ?_; try simp only [List.drop_succ_cons, List.drop_zero]
          refine wpList_push rfl rfl _ _ _ _ rfl rfl rfl 3 1 8 _ Try.underlying22 infoInt rfl (by decide) (by decide) (.int .i64 vv) [.int .i64 vv] rfl rfl rfl (ints_one [vv]) _ _ _ HO.out.row rfl rfl (by unfold maxLen; omega) (by omega) ?_
          intro g2 cap2 w2 o2 u2 k2
          simp only [Act.put, List.setIfInBounds_toArray, List.set_cons_zero, List.set_cons_succ]
          have N2 := HO.out.push o2 u2 k2
          clear o2 u2 k2
          go_wp2_with fail
          go_meet
          case rel => exact ⟨_, by simpa using N2, fun y hy => by
            rcases List.mem_append.1 hy with hy | hy
            · have := HX.out y hy; omega
            · simp at hy; omega, by simp; omega⟩
        · go_upto_region 9 with fail
          refine wp_region_lit ?_
          refine wpList_cutH 2 (fun K hK => ?_)
          simp only [List.take_succ_cons, List.take_zero]
          go_wp2_with fail
          refine Halt_.intro ?_; try simp only [List.drop_succ_cons, List.drop_zero]
          refine wpList_push rfl rfl _ _ _ _ rfl rfl rfl 3 1 8 _ Try.underlying22 infoInt rfl (by decide) (by decide) (.int .i64 vv) [.int .i64 vv] rfl rfl rfl (ints_one [vv]) _ _ _ HO.out.row rfl rfl (by unfold maxLen; omega) (by omega) ?_
          intro g2 cap2 w2 o2 u2 k2
          simp only [Act.put, List.setIfInBounds_toArray, List.set_cons_zero, List.set_cons_succ]
          have N2 := HO.out.push o2 u2 k2
          clear o2 u2 k2
          go_wp2_with fail
          go_meet
          case rel => exact ⟨_, by simpa using N2, fun y hy => by
            rcases List.mem_append.1 hy with hy | hy
            · have := HX.out y hy; omega
            · simp at hy; omega, by simp; omega⟩
        · go_upto_region 12 with fail
          refine wp_region_lit ?_
          refine wpList_cutH 3 (fun K hK => ?_)
          simp only [List.take_succ_cons, List.take_zero]
          go_wp2_with fail
          refine Halt_.intro ?_; try simp only [List.drop_succ_cons, List.drop_zero]
          refine wpList_push rfl rfl _ _ _ _ rfl rfl rfl 3 1 8 _ Try.underlying22 infoInt rfl (by decide) (by decide) (.int .i64 (-vv)) [.int .i64 (-vv)] rfl rfl rfl (ints_one [(-vv)]) _ _ _ HO.out.row rfl rfl (by unfold maxLen; omega) (by omega) ?_
          intro g2 cap2 w2 o2 u2 k2
          simp only [Act.put, List.setIfInBounds_toArray, List.set_cons_zero, List.set_cons_succ]
          have N2 := HO.out.push o2 u2 k2
          clear o2 u2 k2
          go_wp2_with fail
          go_meet
          case rel => exact ⟨_, by simpa using N2, fun y hy => by
            rcases List.mem_append.1 hy with hy | hy
            · have := HX.out y hy; omega
            · simp at hy; omega, by simp; omega⟩
        · go_upto_region 12 with fail
          refine wp_region_lit ?_
          refine wpList_cutH 3 (fun K hK => ?_)
          simp only [List.take_succ_cons, List.take_zero]
          go_wp2_with fail
          refine Halt_.intro ?_; try simp only [List.drop_succ_cons, List.drop_zero]
          refine wpList_push rfl rfl _ _ _ _ rfl rfl rfl 3 1 8 _ Try.underlying22 infoInt rfl (by decide) (by decide) (.int .i64 (-vv)) [.int .i64 (-vv)] rfl rfl rfl (ints_one [(-vv)]) _ _ _ HO.out.row rfl rfl (by unfold maxLen; omega) (by omega) ?_
          intro g2 cap2 w2 o2 u2 k2
          simp only [Act.put, List.setIfInBounds_toArray, List.set_cons_zero, List.set_cons_succ]
          have N2 := HO.out.push o2 u2 k2
          clear o2 u2 k2
          go_wp2_with fail
          go_meet
          case rel => exact ⟨_, by simpa using N2, fun y hy => by
            rcases List.mem_append.1 hy with hy | hy
            · have := HX.out y hy; omega
            · simp at hy; omega, by simp; omega⟩
        · go_wp2_with fail
          go_meet
          case rel => exact ⟨xs, HO.out, fun x hx => by have := HX.out x hx; omega, by omega⟩
      case rest =>
        clear HO HX hl
        obtain ⟨xs', ho, hx, hl⟩ := hcut
        obtain ⟨a, cap, rfl, hcap, hform⟩ := ho.form
        have hcap2 := (SL.of_owns ho.row).val
        obtain ⟨a', cap', he, _, hcm, _⟩ := hcap2
        cases he
        unfold maxLen at hcm
        have HO := Lib.hid (And.intro ho hx)
        clear ho hx
        by_cases hd : kk / 3 % 2 = 1 ∧ 0 < xs'.length
        · obtain ⟨hd1, hd2⟩ := hd
          obtain ⟨g, rfl, _⟩ := hform hd2
          have N2 := HO.out.1.drop (n := xs'.length - 1) (by omega)
          have e1 : ((xs'.length : Int) - 1).toNat = xs'.length - 1 := by omega
          clear hform
          go_wp2_with fail
          refine ⟨⟨kk / 3, vv + 1, xs'.take (xs'.length - 1), rfl, by omega, by omega, rfl, by omega, by omega, by omega, N2, fun x hx => ?_, by simp; omega⟩, by simp [intOf]; omega⟩
          have := HO.out.2 x (List.mem_of_mem_take hx)
          omega
        · clear hform
          by_cases hd1 : kk / 3 % 2 = 1
          · have hd2 : ¬ 0 < xs'.length := fun h => hd ⟨hd1, h⟩
            clear hd
            go_wp2_with fail
            refine ⟨⟨kk / 3, vv + 1, xs', rfl, by omega, by omega, rfl, by omega, by omega, by omega, HO.out.1, fun x hx => by have := HO.out.2 x hx; omega, by omega⟩, by simp [intOf]; omega⟩
          · clear hd
            go_wp2_with fail
            refine ⟨⟨kk / 3, vv + 1, xs', rfl, by omega, by omega, rfl, by omega, by omega, by omega, HO.out.1, fun x hx => by have := HO.out.2 x hx; omega, by omega⟩, by simp [intOf]; omega⟩
    · obtain ⟨a, cap, rfl, _, _⟩ := ho.form
      have HO := Lib.hid ho
      clear ho
      go_wp2_with fail
      go_ret
      exact ⟨_, xs, rfl, HO.out, fun x hx => by have := HX.out x hx; omega, by omega⟩
end
end R14
end Go.Proofs.Ytgdpbhbdeaifbaa
