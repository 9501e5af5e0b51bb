/- Walks through the laws of gates: GateValues, the errors, sums and other orders. Conditions: none. -/
import Derived.Test.YtjflbhkhnmodaaaGateZb
set_option linter.unusedVariables false
set_option linter.unusedSimpArgs false
set_option linter.unusedSectionVars false
open Go.RowKit
namespace Go.Proofs.Ytjflbhkhnmodaaa
open L
namespace Gate
open Cla R14 R01
attribute [-go_sem] sliced
set_option maxRecDepth 100000 in
set_option maxHeartbeats 16000000 in
theorem gz26 (w : World) (kind more : Int) (hk : IsI64 kind) (hm : IsI64 more) : RowKit.Hid (gzb w kind more hk hm).1 := by
  refine Lib.hid ?_
  dsimp -zeta only [gzb, cut3, cut1]
  unhygienic intros
  go_wp2_with fail
  have BE := Blk.new wzy [.int .i64 0, .int .i64 0, .int .i64 0, .int .i64 0, .int .i64 0, .int .i64 0, .int .i64 0, .int .i64 0] 26
  have UE := (Upd.refl [] wzy).alloc (.cells #[.int .i64 0, .int .i64 0, .int .i64 0, .int .i64 0, .int .i64 0, .int .i64 0, .int .i64 0, .int .i64 0] 26)
  generalize wzy.alloc (.cells #[.int .i64 0, .int .i64 0, .int .i64 0, .int .i64 0, .int .i64 0, .int .i64 0, .int .i64 0, .int .i64 0] 26) = wE at *
  generalize wzy.heap.size = gE at *
  have HBE := Lib.hid (And.intro BE (H7.out.step UE))
  clear BE UE H7
  go_loopw [30] (fun i wr => ∃ j : Nat, i = .int .i64 j ∧ j ≤ 8 ∧ Upd [] wE wr) (fun i _ => 8 - (intOf i).toNat)
  case atStart => exact ⟨0, rfl, Nat.zero_le _, Upd.refl _ _⟩
  case round => as_aux_lemma =>
    obtain ⟨wj, rfl⟩ : ∃ wk : World, wk = wr := ⟨_, rfl⟩
    obtain ⟨j, rfl, hj8, hu⟩ := hrel
    by_cases hlj : j < 8
    · have hlj' : (j : Int) < 8 := by omega
      have ej : wj.cell? ⟨gE, j, none⟩ = some (.int .i64 0) := hu.some (HBE.out.1.cell (i := j) (by rcases (by omega : j = 0 ∨ j = 1 ∨ j = 2 ∨ j = 3 ∨ j = 4 ∨ j = 5 ∨ j = 6 ∨ j = 7) with rfl | rfl | rfl | rfl | rfl | rfl | rfl | rfl <;> rfl)) (by simp)
      go_wp2_with fail
      exact ⟨⟨j + 1, by go_num, by omega, hu⟩, by simp [intOf]; omega⟩
    · have hj : j = 8 := by omega
      subst hj
      rw [show ((8 : Nat) : Int) = 8 from rfl]
      have HJ := Lib.hid (HBE.out.2.step hu)
      clear hu HBE hlj hj8
      obtain ⟨j0, j1, j2, hj0, hj1, hj2⟩ : ∃ j0 j1 j2 : Int, bi b0 = j0 ∧ bi b1 = j1 ∧ bi b2 = j2 := ⟨_, _, _, rfl, rfl, rfl⟩
      have hr0 : 0 ≤ j0 ∧ j0 ≤ 1 := by have := bi_01 b0; omega
      have hr1 : 0 ≤ j1 ∧ j1 ≤ 1 := by have := bi_01 b1; omega
      have hr2 : 0 ≤ j2 ∧ j2 ≤ 1 := by have := bi_01 b2; omega
      have hsum : bi vu + 2 * bi vy = j0 + j1 + j2 := by rw [← HVu.out, ← HVy.out, ← hj0, ← hj1, ← hj2]; cases b0 <;> cases b1 <;> cases b2 <;> rfl
      have e0 := HJ.out.some HE.out.2.2.2.1 (by simp)
      have e1 := HJ.out.some HE.out.2.2.2.2.1 (by simp)
      have e2 := HJ.out.some HE.out.2.2.2.2.2 (by simp)
      rw [hj0] at e0
      rw [hj1] at e1
      rw [hj2] at e2
      have HPS := Lib.hid (And.intro e0 (And.intro e1 e2))
      have HSU := Lib.hid hsum
      have ht1 : vo = !va := by rw [← HVa.out, ← HVo.out]; cases b0 <;> cases b1 <;> rfl
      have ht2 : vq = !vp := by rw [← HVp.out, ← HVq.out]; cases b0 <;> cases b1 <;> rfl
      have ht3 : vs = vr := by rw [← HVr.out, ← HVs.out]; cases b0 <;> cases b1 <;> cases b2 <;> rfl
      have HT := Lib.hid (And.intro ht1 (And.intro ht2 ht3))
      clear e0 e1 e2 hsum ht1 ht2 ht3 hj0 hj1 hj2
      obtain ⟨hr0, hr0'⟩ := hr0
      obtain ⟨hr1, hr1'⟩ := hr1
      obtain ⟨hr2, hr2'⟩ := hr2
      go_upto_if 216 with fail
      go_cut [31] (fun t w' => t = .int .i64 (bi vu) ∧ w' = wj)
      case first => as_aux_lemma =>
        cases vu
        all_goals
          go_wp2_with fail
          go_meet
          case rel => exact ⟨rfl, rfl⟩
      case rest => as_aux_lemma =>
      obtain ⟨rfl, rfl⟩ := hcut
      have hvu := bi_01 vu
      have hbu0 : 0 ≤ bi vu := by omega
      have hbu1 : bi vu ≤ 1 := by omega
      clear hvu
      go_upto_if 219 with fail
      go_cut [31] (fun t w' => t = .int .i64 (j0 + j1 + j2) ∧ w' = wc)
      case first => as_aux_lemma =>
        have hs := HSU.out
        clear HSU
        cases vy
        all_goals
          generalize bi vu = bu at *
          go_wp2_with fail
          go_meet
          case rel => exact ⟨by rw [← hs]; simp [bi], rfl⟩
      case rest => as_aux_lemma =>
      obtain ⟨rfl, rfl⟩ := hcut
      clear hbu0 hbu1
      obtain ⟨wl, rfl⟩ : ∃ wo : World, wo = wc := ⟨_, rfl⟩
      go_upto_region 37 with fail
      go_cut [249] (fun t w' => t = .bool false ∧ Upd [] wl w')
      case first => as_aux_lemma =>
        obtain ⟨rfl, rfl, rfl⟩ := HT.out
        have e0 := HPS.out.1
        have e1 := HPS.out.2.1
        have e2 := HPS.out.2.2
        go_wp2_with fail
        refine wp_region_ord 28 1 [0, 1, 2, 3, 4, 5, 6, 7, 8, 9, 10, 11, 12, 13, 14, 15, 16, 17, 18, 19, 20, 21, 22, 23, 24, 25, 26, 27] [17, 20, 24] [0, 1, 2, 3, 4, 5, 6, 7, 8, 9, 10, 11, 12, 13, 14, 15, 16, 17, 18, 19, 20, 21, 22, 23, 24, 25, 26, 27] (fun w' => ∃ x : Ext wl, w' = x.val) (by kernel_rfl) (by kernel_rfl) (Ext.of (by iterate 25 (first | exact Upd.refl _ _ | assumption | refine Upd.alloc ?_ _ | refine Upd.drew ?_ | refine Upd.drewN ?_ _ | refine Upd.dl ?_ | refine Upd.step ?_ (Ext.upd _) | refine Upd.nil ?_ | skip))) ?_
        repeat (first | (refine wpOrd_load rfl rfl rfl rfl (fun K hK => ?_); go_big_quiet_step (fail); refine wpQuiet_nil ?_; refine hK _ ?_; clear hK K) | (refine wpOrd_free rfl rfl rfl (fun K hK => ?_); go_big_quiet_step (fail); refine wpQuiet_nil ?_; refine hK _ ?_; clear hK K))
        refine wpOrd_nil ?_
        go_wp2_with fail
        go_meet
        case rel => exact ⟨rfl, (by iterate 25 (first | exact Upd.refl _ _ | assumption | refine Upd.alloc ?_ _ | refine Upd.drew ?_ | refine Upd.drewN ?_ _ | refine Upd.dl ?_ | refine Upd.step ?_ (Ext.upd _) | refine Upd.nil ?_ | skip))⟩
      case rest => as_aux_lemma =>
      obtain ⟨rfl, uD⟩ := hcut
      obtain ⟨wd, rfl⟩ : ∃ wo : World, wo = wc := ⟨_, rfl⟩
      have HD := Lib.hid (HJ.out.step uD)
      clear uD HJ HPS HSU HT hr0 hr0' hr1 hr1' hr2 hr2'
      by_cases hk4 : (k : Int) ≠ 4 ∧ (1 : Int) < nn
      · obtain ⟨hk4, hn2⟩ := hk4
        have hn2' : 2 ≤ nn := by omega
        have hn2i : (2 : Int) ≤ nn := by omega
        have hnco : (nn : Int) ≤ co := by omega
        have e0 := HD.out.some HE.out.1 (by simp)
        have e1 := HD.out.some HE.out.2.1 (by simp)
        have hTN := Lib.hid (turned (k := k) (by omega) (by omega) HNN.out (by omega) b0 b1 b2)
        have SM := SL_part (HB.out.1.upd HD.out (by simp)) hn3 hn2'
        rw [bools_take, bools_drop] at SM
        have HSM := Lib.hid SM
        clear SM
        have hlL : (([b0, b1, b2].take nn).drop 2).length = nn - 2 := by rw [List.length_drop, List.length_take]; simp only [List.length_cons, List.length_nil]; omega
        have HLL := Lib.hid hlL
        clear hlL
        go_upto_region 40 with fail
        go_cut [32] (fun t w' => ∃ at' ct, t = .slice at' nn ct ∧ SL w' 1 (.slice at' nn ct) nn (bools ([b1, b0] ++ ([b0, b1, b2].take nn).drop 2)) ∧ Upd [] wd w')
        case first => as_aux_lemma =>
          go_wp2_with fail
          refine wp_region_ord 6 1 [0, 1, 2, 3, 4, 5, 7, 8, 9, 11] [2, 5] [0, 1, 2, 3, 4, 5, 7, 8, 9, 6, 10, 11] (fun w' => ∃ x : Ext wd, w' = x.val) (by kernel_rfl) (by kernel_rfl) (Ext.of (by iterate 25 (first | exact Upd.refl _ _ | assumption | refine Upd.alloc ?_ _ | refine Upd.drew ?_ | refine Upd.drewN ?_ _ | refine Upd.dl ?_ | refine Upd.step ?_ (Ext.upd _) | refine Upd.nil ?_ | skip))) ?_
          repeat (first | (refine wpOrd_load rfl rfl rfl rfl (fun K hK => ?_); go_big_quiet_step (fail); refine wpQuiet_nil ?_; refine hK _ ?_; clear hK K) | (refine wpOrd_free rfl rfl rfl (fun K hK => ?_); go_big_quiet_step (fail); refine wpQuiet_nil ?_; refine hK _ ?_; clear hK K))
          refine wpOrd_fix rfl rfl (fun K hK => ?_)
          go_wp2_with fail
          have NB : Blk (wd.alloc (.cells #[.bool b1, .bool b0] 4)).drew wd.heap.size (bools [b1, b0]) 4 := Blk.new wd [.bool b1, .bool b0] 4
          have UB := ((Upd.refl [] wd).alloc (.cells #[.bool b1, .bool b0] 4)).drew
          have HBB := Lib.hid (And.intro NB (And.intro UB (HSM.out.upd UB (by simp))))
          clear NB UB
          generalize (wd.alloc (.cells #[.bool b1, .bool b0] 4)).drew = we at *
          generalize hge : wd.heap.size = ge at *
          have HGE := Lib.hid hge
          clear hge
          refine ⟨fun _ => Ext.of HBB.out.2.1, ?_⟩
          repeat (first | (refine wpOrd_load rfl rfl rfl rfl (fun K hK => ?_); go_big_quiet_step (fail); refine wpQuiet_nil ?_; refine hK _ ?_; clear hK K) | (refine wpOrd_free rfl rfl rfl (fun K hK => ?_); go_big_quiet_step (fail); refine wpQuiet_nil ?_; refine hK _ ?_; clear hK K))
          refine wpOrd_fix rfl rfl (fun K hK => ?_)
          refine wpList_appS rfl _ _ _ rfl 4 1 1 _ Try.underlying23 infoBool rfl (by decide) (.slice (some ⟨ge, 0, none⟩) 2 2) 2 (bools [b1, b0]) rfl (owns_blk HBB.out.1 rfl (by unfold maxLen; omega)) _ (nn - 2) _ rfl HBB.out.2.2 (bools_one _) (by unfold maxLen; omega) (by omega) ?_
          intro a4 cap4 w4 o4 u4 k4
          simp only [Act.put, List.setIfInBounds_toArray, List.set_cons_zero, List.set_cons_succ]
          rw [show 2 + (nn - 2) = nn by omega] at o4 ⊢
          have U4 := HBB.out.2.1.fresh u4 (fun j hj => .inr (by simp [Value.ownBlock] at hj; have := HGE.out; omega))
          have HO4 := Lib.hid (And.intro (SL.of_owns o4) U4)
          clear o4 u4 k4 U4
          go_wp2_with fail
          refine ⟨fun hC => absurd hC (by decide), ?_⟩
          repeat (first | (refine wpOrd_load rfl rfl rfl rfl (fun K hK => ?_); go_big_quiet_step (fail); refine wpQuiet_nil ?_; refine hK _ ?_; clear hK K) | (refine wpOrd_free rfl rfl rfl (fun K hK => ?_); go_big_quiet_step (fail); refine wpQuiet_nil ?_; refine hK _ ?_; clear hK K))
          refine wpOrd_nil ?_
          go_wp2_with fail
          go_meet
          case rel => exact ⟨_, _, rfl, by have := HO4.out.1; rw [← show bools [b1, b0] ++ bools (([b0, b1, b2].take nn).drop 2) = bools ([b1, b0] ++ ([b0, b1, b2].take nn).drop 2) by simp [bools]]; exact this, HO4.out.2⟩
        case rest => as_aux_lemma =>
        obtain ⟨at', ct, rfl, sT, uT⟩ := hcut
        have hlT : ([b1, b0] ++ ([b0, b1, b2].take nn).drop 2).length = nn := by rw [List.length_append, HLL.out]; simp only [List.length_cons, List.length_nil]; omega
        have hsT : SL wc 1 (.slice at' nn ct) ([b1, b0] ++ ([b0, b1, b2].take nn).drop 2).length (bools ([b1, b0] ++ ([b0, b1, b2].take nn).drop 2)) := by rw [hlT]; exact sT
        have HVT := Lib.hid (Value_calls (k := (k : Int)) hsT)
        have hvok : vOk (k : Int) ([b1, b0] ++ ([b0, b1, b2].take nn).drop 2).length = true := by unfold vOk kOk; rw [hlT, HNN.out]; simp; omega
        have HVO := Lib.hid hvok
        have HDT := Lib.hid (HD.out.step uT)
        clear sT uT hlT hsT hvok e0 e1
        go_wp2_with fail
        refine HVT.out.mono ?_
        rintro e wv ⟨rfl, uv⟩
        rw [HVO.out, Bool.true_and, if_pos rfl, hTN.out, HVX.out]
        have HUV := Lib.hid (HB.out.2.2.step (HDT.out.step uv))
        clear uv
        go_wp2_with fail
        exact ⟨⟨m + 1, by go_num, by omega, HUV.out⟩, by simp [intOf]; omega⟩
      · have HUV := Lib.hid (HB.out.2.2.step HD.out)
        by_cases hk5 : (k : Int) = 4
        · have hkb : ((k : Int) == 4) = true := by simp [hk5]
          have hkb2 : ((k : Int) != 4) = false := by simp [hk5]
          clear hk5
          go_wp2_with fail
          exact ⟨⟨m + 1, by go_num, by omega, HUV.out⟩, by simp [intOf]; omega⟩
        · have hn2 : ¬ (1 : Int) < nn := by omega
          have hk5' : (k : Int) ≠ 4 := hk5
          go_wp2_with fail
          exact ⟨⟨m + 1, by go_num, by omega, HUV.out⟩, by simp [intOf]; omega⟩
end Gate
end Go.Proofs.Ytjflbhkhnmodaaa
