/- Walks through the laws of gates: GateRuns. Conditions: none. -/
import Derived.Test.YtobclpfpkpkocaaGateLi
import Derived.Test.YtobclpfpkpkocaaGateRR
import Derived.Test.YtobclpfpkpkocaaGateH
import Derived.Test.YtobclpfpkpkocaaGateJ
import Derived.Test.YtobclpfpkpkocaaGateM
set_option linter.unusedVariables false
set_option linter.unusedSimpArgs false
set_option linter.unusedSectionVars false
open Go.RowKit
namespace Go.Proofs.Ytobclpfpkpkocaa
open L
namespace Gate
open Cla R14 R01
section
variable {w : World}
set_option maxRecDepth 100000 in
set_option maxHeartbeats 16000000 in
theorem GateRuns_calls {lv : Value} {xs : List Int} (hx : ∀ x ∈ xs, IsI64 x) (hl : SL w 1 lv xs.length (ints xs)) (m how at' by' : Int) (hm : IsI64 m) (hh : IsI64 how) (ha : IsI64 at') (hb : IsI64 by') :
    Calls Try.prog 6 #[lv, .int .i64 m, .int .i64 how, .int .i64 at', .int .i64 by'] w fun e w' => e = .returned (.bool true) ∧ Upd [] w w' := by
  obtain ⟨a, cap, rfl, q1, r1, _⟩ := SL.elems hl
  have HX := Lib.hid (And.intro hx hl)
  clear hx hl
  go_enter Try.func6, Try.ntmps6
  go_wp2_with fail
  refine (GList_calls HX.out.1 HX.out.2).mono ?_
  rintro e w1 ⟨v1, gs, F, rfl, hO, hg9, hgs⟩
  obtain ⟨cs0, hv0, _⟩ := id hO.ex
  obtain ⟨ag, cg, rfl, hcg, _⟩ := hv0.sl.val
  have HG := Lib.hid (And.intro hO hgs)
  clear hv0 hO hgs
  go_upto_region 3 with fail
  have NA := Blk.new w1 (ints [0]) 3
  have UA := (Upd.refl [] w1).alloc (.cells (ints [0]).toArray 3)
  have hq0 := around_lo (n := m) (k := 1048576) (by omega)
  have hq1 := around_hi (n := m) (k := 1048576) (by omega)
  have HAR := Lib.hid (fun (w : World) => Around_calls m 1048576 w hm (by omega) (by omega))
  generalize around m 1048576 = q at *
  have OA : Own w1 (.slice (some ⟨w1.heap.size, 0, none⟩) 1 1) (asg q 0) (w1.alloc (.cells (ints [0]).toArray 3)) := ⟨owns_blk NA rfl (by unfold maxLen; omega), fun g hg => by simp [Value.ownBlock] at hg; omega, UA⟩
  have HA := Lib.hid OA
  clear NA UA OA
  go_wp2_with fail
  go_loopw [12, 13] (fun o i wr => ∃ v : Nat, i = .int .i64 v ∧ v ≤ 4 + gs.length ∧ Own w1 o (asg q v) wr) (fun _ i _ => 4 + gs.length - (intOf i).toNat)
  case atStart => exact ⟨0, rfl, Nat.zero_le _, HA.out⟩
  case round =>
    clear HA
    obtain ⟨v, rfl, hv, hO⟩ := hrel
    have hal := Lib.hid (asg_len q v)
    have hal4 : (asg q v).length ≤ 14 := by have := hal.out; omega
    obtain ⟨ao, co, rfl, _, _⟩ := hO.form
    have HO2 := Lib.hid hO
    clear hO
    by_cases hlv : v < 4 + gs.length
    · have hlv' : (v : Int) < 4 + gs.length := by omega
      have hs0 := shr_lo hq0 v
      have hs1 := shr_hi hq0 v
      have HS := Lib.hid (asg_snoc q v)
      go_wp2_with (first | (go_at_call 20; refine (HAR.out _).mono ?_; rintro e _ ⟨rfl, rfl⟩) | (refine wpList_push rfl rfl _ _ _ _ rfl rfl rfl 3 1 8 _ Try.underlying22 infoInt rfl (by decide) (by decide) (.int .i64 _) [.int .i64 _] rfl rfl rfl (ints_one [_]) _ _ _ HO2.out.row rfl rfl (by unfold maxLen; omega) (by omega) ?_; intro g4 cap4 w4' o4 u4 k4))
      have N := HO2.out.push o4 u4 k4
      exact ⟨⟨v + 1, by go_num, by omega, by rw [HS.out]; exact N⟩, by simp [intOf]; omega⟩
    · have hve : v = 4 + gs.length := by omega
      have hlv' : ¬ (v : Int) < 4 + gs.length := by omega
      have HAL := Lib.hid (And.intro hal.out (And.intro (asg_i64 q v) (And.intro hve (fun (j : Nat) (h1 : 1 ≤ j) (h2 : j ≤ v) => (asg_get q h1 h2).trans (show sgn q (j - 1) = sgn q (j - 1) from rfl)))))
      have hal5 : 5 ≤ (asg q v).length := by have := hal.out; omega
      clear hve hal
      generalize asg q v = A at *
      have HAO := Lib.hid (And.intro HO2.out.sl (And.intro HO2.out.u (HG.out.1.quiet HO2.out.u)))
      go_upto_region 7 with fail
      refine wp_region_lit ?_
      refine wpList_cutH 2 (fun K hK => ?_)
      simp only [List.take_succ_cons, List.take_zero]
      go_wp2_with fail
      refine Halt_.intro ?_; try simp only [List.drop_succ_cons, List.drop_zero]
      have g0 := owns_none (w := wr) rfl 3
      have u0 := (Upd.refl [] wr).alloc (.cells #[] 3)
      have S0 := HAO.out.1.upd u0 (by simp)
      have hs3 : wr.heap.size < (wr.alloc (.cells #[] 3)).heap.size := by simp
      generalize wr.alloc (.cells #[] 3) = w3 at *
      refine wpList_appS rfl _ _ _ rfl 3 1 8 _ Try.underlying22 infoInt rfl (by decide) (.slice (some ⟨wr.heap.size, 0, none⟩) 0 0) 0 [] rfl (owns_blk g0 rfl (by unfold maxLen; omega)) (.slice ao A.length co) A.length (ints A) rfl S0 (ints_one _) (by unfold maxLen; omega) (by omega) ?_
      intro a4 cap4 w4 o4 u4 k4
      simp only [Act.put, List.setIfInBounds_toArray, List.set_cons_zero, List.set_cons_succ]
      rw [List.nil_append] at o4
      simp only [Nat.zero_add] at o4 u4 k4 ⊢
      have N4 : Own wr (.slice a4 A.length cap4) A w4 := ⟨o4, fun g hg => by rcases k4 with h | h <;> rw [hg] at h <;> simp [Value.ownBlock] at h <;> omega, u0.fresh u4 (fun j hj => .inr (by simp [Value.ownBlock] at hj; omega))⟩
      obtain ⟨gb, rest, rfl, BB, hq1', hq2', hq3', hgb⟩ := own_blk N4 (by omega)
      have H4 := Lib.hid (And.intro N4 BB)
      clear o4 u4 k4 g0 u0 S0 hs3 N4 BB
      have hi0 := around_lo (n := at') (k := A.length) (by omega)
      have hi1 := around_hi (n := at') (k := A.length) (by omega)
      have hj0 := around_lo (n := by') (k := 4) (by omega)
      have hj1 := around_hi (n := by') (k := 4) (by omega)
      have HA1 := Lib.hid (fun (w : World) => Around_calls at' A.length w ha (by omega) (by omega))
      have HA2 := Lib.hid (fun (w : World) => Around_calls by' 4 w hb (by omega) (by omega))
      obtain ⟨i1, hi1e⟩ := Int.eq_ofNat_of_zero_le hi0
      obtain ⟨i2, hi2e⟩ := Int.eq_ofNat_of_zero_le hj0
      rw [hi1e] at HA1
      rw [hi2e] at HA2
      have hi1A : i1 < A.length := by omega
      have hi24 : i2 < 4 := by omega
      clear hi0 hi1 hj0 hj1 hi1e hi2e
      have eo := H4.out.2.cell (i := i1) (by rw [List.getElem?_append_left (by rw [ints_length]; exact hi1A)]; exact ints_gd hi1A)
      have fo := H4.out.2.free i1
      have lo := H4.out.2.lt
      generalize A.getD i1 0 = yo at *
      go_upto_region 8 with fail
      go_cut [14] (fun t w' => t = .slice (some ⟨gb, 0, none⟩) A.length cap4 ∧ ∃ A2 : List Int, A2.length = A.length ∧ (∀ x ∈ A2, IsI64 x) ∧ Blk w' gb (ints A2 ++ rest) 3 ∧ Upd [] wr w')
      case first => as_aux_lemma =>
        have key : ∀ (y : Int) (ob : Obj), IsI64 y → ∃ A2 : List Int, A2.length = A.length ∧ (∀ x ∈ A2, IsI64 x) ∧ Blk ((w4.setCell ⟨gb, i1, none⟩ (.int .i64 y)).alloc ob) gb (ints A2 ++ rest) 3 ∧ Upd [] wr ((w4.setCell ⟨gb, i1, none⟩ (.int .i64 y)).alloc ob) := fun y ob hy => by
          have BS := H4.out.2.set i1 (.int .i64 y)
          rw [List.set_append_left _ _ (by rw [ints_length]; exact hi1A), show (ints A).set i1 (.int .i64 y) = ints (A.set i1 y) by simp [ints, List.map_set]] at BS
          refine ⟨A.set i1 y, List.length_set, fun x hx => ?_, BS.alloc ob, (H4.out.1.u.set (.inr hgb) _).alloc ob⟩
          rcases List.mem_or_eq_of_mem_set hx with h | rfl
          · exact HAL.out.2.1 x h
          · exact hy
        have HKEY := Lib.hid key
        clear key
        rcases (by omega : i2 = 0 ∨ i2 = 1 ∨ i2 = 2 ∨ i2 = 3) with rfl | rfl | rfl | rfl
        all_goals
          go_wp2_with (first | (go_at_call 20; with_reducible refine (HA1.out _).mono ?_; rintro e _ ⟨rfl, rfl⟩) | (go_at_call 20; with_reducible refine (HA2.out _).mono ?_; rintro e _ ⟨rfl, rfl⟩))
          go_meet
          case rel => exact ⟨rfl, HKEY.out _ _ (by first | exact hb | (unfold IsI64; omega))⟩
      case rest =>
      obtain ⟨rfl, A2, hA2, hA2i, B2, u5⟩ := hcut
      have hG5 := HAO.out.2.2.quiet u5
      obtain ⟨cs5, hv5, hr5⟩ := hG5.ex
      have S5 := hv5.sl
      have one5 := rows_one3 hv5.row.1 hr5
      have hl5 := hv5.row.1
      have BL : SL wc 1 (.slice (some ⟨gb, 0, none⟩) A2.length cap4) A2.length (ints A2) := SL.of_blk B2 (by rw [ints_length]; omega) (by omega) hq2'
      rw [hA2] at BL
      have H5 := Lib.hid (And.intro hG5 (And.intro (HAO.out.1.upd u5 (by simp)) (And.intro BL (And.intro hA2i (And.intro hA2 (And.intro hl5 hr5))))))
      clear hG5 hv5 BL B2 u5 hA2i hA2 hl5 hr5 eo fo lo H4 HA1 HA2 hi1A hi24
      have hgs9 : gs.length ≤ 9 := hg9
      have S5H := Lib.hid (And.intro S5 one5)
      clear S5 one5
      go_upto_region 9 with fail
      refine wp_region_lit ?_
      refine wpList_cutH 2 (fun K hK => ?_)
      simp only [List.take_succ_cons, List.take_zero]
      go_wp2_with fail
      refine Halt_.intro ?_; try simp only [List.drop_succ_cons, List.drop_zero]
      have g0 := owns_none (w := wc) rfl 24
      have u0 := (Upd.refl [] wc).alloc (.cells #[] 24)
      have S0 := S5H.out.1.upd u0 (by simp)
      have hs3 : wc.heap.size < (wc.alloc (.cells #[] 24)).heap.size := by simp
      generalize wc.alloc (.cells #[] 24) = w3 at *
      refine wpList_appS rfl _ _ _ rfl 24 3 40 _ Try.underlying27 infoGate rfl (by decide) (.slice (some ⟨wc.heap.size, 0, none⟩) 0 0) 0 [] rfl (owns_blk g0 rfl (by unfold maxLen; omega)) (.slice ag gs.length cg) gs.length cs5 rfl S0 S5H.out.2 (by unfold maxLen; omega) (by omega) ?_
      intro a6 cap6 w6 o6 u6 k6
      simp only [Act.put, List.setIfInBounds_toArray, List.set_cons_zero, List.set_cons_succ]
      rw [List.nil_append] at o6
      simp only [Nat.zero_add] at o6 u6 k6 ⊢
      have N6 : OwnV wc 24 3 (.slice a6 gs.length cap6) gs.length cs5 w6 := ⟨o6, fun g hg => by rcases k6 with h | h <;> rw [hg] at h <;> simp [Value.ownBlock] at h <;> omega⟩
      have U6 : Upd [] wc w6 := u0.fresh u6 (fun j hj => .inr (by simp [Value.ownBlock] at hj; omega))
      have H6 := Lib.hid (And.intro N6 U6)
      clear o6 u6 k6 g0 u0 S0 hs3 N6 U6 S5H
      go_upto_if 75 with fail
      go_cut [16] (fun _ w' => ∃ gs2 : List G, gs2.length = gs.length ∧ GL w' (.slice a6 gs.length cap6) gs2 ∧ Upd [] wc w')
      case first => as_aux_lemma =>
        by_cases hgs : 0 < gs.length
        · have hgs' : (0 : Int) < gs.length := by omega
          have hi0 := around_lo (n := at') (k := gs.length) (by omega)
          have hi1 := around_hi (n := at') (k := gs.length) (by omega)
          have HAk := Lib.hid (fun (w : World) => Around_calls at' gs.length w ha (by omega) (by omega))
          obtain ⟨ik, hik⟩ := Int.eq_ofNat_of_zero_le hi0
          rw [hik] at HAk
          have hikl : ik < gs.length := by omega
          clear hi0 hi1 hik
          obtain ⟨_, hrow⟩ := H6.out.1.row
          rcases hrow with ⟨hr, h0⟩ | ⟨g6, cap', cur, he, _, hcur, hnc, hcm, hcs, htake⟩
          · omega
          cases he
          have BB : Blk w6 g6 (cs5 ++ cur.toList.drop (gs.length * 3)) 24 := by
            unfold Blk
            rw [hcur]
            congr 2
            apply Array.toList_inj.1
            simp only [List.toList_toArray]
            rw [← htake]
            conv => lhs; rw [← List.take_append_drop (gs.length * 3) cur.toList]
          obtain ⟨kk, ys, hg, hok, hin⟩ := HG.out.2 ik hikl
          have hrow := H5.out.2.2.2.2.2.2 ik hikl
          rw [hg] at hrow
          obtain ⟨av, cv, r0, r1', r2, rs, ri, rF⟩ := hrow
          simp only at r0 r1' r2 rs ri rF
          obtain ⟨⟨k0, k6⟩, _, hyl, _⟩ := gOk_iff.1 hok
          have hn3 := ninp_le kk
          have hn1 := ninp_pos k0 k6
          have q0 : (cs5 ++ cur.toList.drop (gs.length * 3))[ik * 3]? = some (.int .i64 kk) := by rw [List.getElem?_append_left (List.getElem?_eq_some_iff.1 r0).1]; exact r0
          have q1 : (cs5 ++ cur.toList.drop (gs.length * 3))[ik * 3 + 1]? = some (.int .i64 (5 + (ik : Int))) := by rw [List.getElem?_append_left (List.getElem?_eq_some_iff.1 r1').1]; exact r1'
          have q2 : (cs5 ++ cur.toList.drop (gs.length * 3))[ik * 3 + 2]? = some (.slice av ys.length cv) := by rw [List.getElem?_append_left (List.getElem?_eq_some_iff.1 r2).1]; exact r2
          have c0 := BB.cell q0
          have c1 := BB.cell q1
          have c2 := BB.cell q2
          have hk64 : IsI64 kk := by unfold IsI64; omega
          have HSP := Lib.hid (Spoilt_callsF (o := 5 + (ik : Int)) (rs.upd H6.out.2 (by simp)) hk64 (by omega) (by omega) ri (by omega) (by omega) how at' by' hh ha hb)
          have HBB := Lib.hid BB
          have hl6 := BB.lt
          have HCN := Lib.hid (And.intro hnc hcm)
          have HF6 := Lib.hid (H6.out.1.fresh g6 rfl)
          clear BB q0 q1 q2 r0 r1' r2 rs ri rF hyl hok hin hg hcur hcs htake hnc hcm hk64
          generalize cur.toList.drop (gs.length * 3) = pad at *
          go_upto_region 12 with (go_at_call 20; refine (HAk.out _).mono ?_; rintro e _ ⟨rfl, rfl⟩)
          go_wp2_with fail
          refine HSP.out.mono ?_
          rintro e w7 ⟨k2, o2, zs, v2, rfl, hk2, ho2, hzs, hs2, u7, hf2⟩
          obtain ⟨az, cz, rfl, _⟩ := SL.elems hs2
          have H7 := Lib.hid (And.intro hs2 (And.intro hzs (And.intro u7 hf2)))
          have B7 := HBB.out.upd u7 (by simp)
          have f0 := B7.free (ik * 3)
          have f1 := B7.free (ik * 3 + 1)
          have f2 := B7.free (ik * 3 + 2)
          have d0 := u7.some c0 (by simp)
          have d1 := u7.some c1 (by simp)
          have d2 := u7.some c2 (by simp)
          have hl7 := B7.lt
          have HB7 := Lib.hid B7
          clear hs2 hzs u7 hf2 B7 c0 c1 c2 HSP HAk hk2 ho2
          go_wp2_with fail
          go_meet
          case rel =>
            have hf6 := HF6.out
            have us : Upd [g6] w7 (((w7.setCell ⟨g6, ik * 3, none⟩ (.int .i64 k2)).setCell ⟨g6, ik * 3 + 1, none⟩ (.int .i64 o2)).setCell ⟨g6, ik * 3 + 2, none⟩ (.slice az zs.length cz)) :=
              (((Upd.refl [g6] w7).set (by simp) _).set (by simp) _).set (by simp) _
            have BF := ((HB7.out.set (ik * 3) (.int .i64 k2)).set (ik * 3 + 1) (.int .i64 o2)).set (ik * 3 + 2) (.slice az zs.length cz)
            have UF := ((H6.out.2.step H7.out.2.2.1).fresh us (fun j hj => .inr (by simp at hj; omega)))
            have S2 := H7.out.1.upd us (fun b hb h => by have := H7.out.2.2.2 b h; simp at hb; omega)
            refine ⟨gs.set ik (k2, o2, zs), by simp, blk_gl BF (by simp) HCN.out.1 (by have := HCN.out.2; unfold maxLen at this; exact this) (fun i hi => ?_), UF⟩
            exact rows_set3 (x := (k2, o2, zs)) H5.out.2.2.2.2.2.1 hikl H5.out.2.2.2.2.2.2 UF S2 H7.out.2.1 i hi
        · have hgs' : ¬ (0 : Int) < gs.length := by omega
          go_wp2_with fail
          go_meet
          case rel =>
            have h0 : gs.length = 0 := by omega
            obtain ⟨a', c', he, q1, q2, _⟩ := H6.out.1.sl.val
            cases he
            exact ⟨gs, rfl, ⟨a6, cap6, rfl, q1, by unfold maxLen at q2; exact q2, fun i hi => by omega⟩, H6.out.2⟩
      case rest =>
      obtain ⟨gs2, hgs2, hGL2, u9⟩ := hcut
      have H9 := Lib.hid (And.intro (H5.out.1.quiet u9) (And.intro (H5.out.2.1.upd u9 (by simp)) (And.intro (H5.out.2.2.1.upd u9 (by simp)) (And.intro hGL2 (And.intro hgs2 (And.intro H5.out.2.2.2.1 H5.out.2.2.2.2.1))))))
      clear hgs2 hGL2 u9 H6 H5
      obtain ⟨wd, rfl⟩ : ∃ wd : World, wd = wc := ⟨_, rfl⟩
      have hi0 := around_lo (n := at') (k := (A.length : Int) + 1) (by omega)
      have hi1 := around_hi (n := at') (k := (A.length : Int) + 1) (by omega)
      have HAm := Lib.hid (fun (w : World) => Around_calls at' ((A.length : Int) + 1) w ha (by omega) (by omega))
      obtain ⟨im, him⟩ := Int.eq_ofNat_of_zero_le hi0
      rw [him] at HAm
      have himl : im ≤ A.length := by omega
      clear hi0 hi1 him
      obtain ⟨a', c', he, hco1, hr⟩ := HO2.out.form
      cases he
      obtain ⟨ga, rfl, _⟩ := hr (by omega)
      clear hr
      go_upto_region 14 with fail
      have B1 := Blk.new wd [.slice ag gs.length cg, .slice a6 gs.length cap6] 27
      have U1 := (Upd.refl [] wd).alloc (.cells #[.slice ag gs.length cg, .slice a6 gs.length cap6] 27)
      generalize wd.alloc (.cells #[.slice ag gs.length cg, .slice a6 gs.length cap6] 27) = wl at *
      generalize wd.heap.size = bl at *
      have H10 := Lib.hid (And.intro B1 U1)
      clear B1 U1
      go_upto_region 15 with (go_at_call 20; refine (HAm.out _).mono ?_; rintro e _ ⟨rfl, rfl⟩)
      have B2 := Blk.new wl [.slice (some ⟨ga, 0, none⟩) A.length co, .slice (some ⟨gb, 0, none⟩) A.length cap4, .slice (some ⟨ga, 0, none⟩) im co] 22
      have U2 := (Upd.refl [] wl).alloc (.cells #[.slice (some ⟨ga, 0, none⟩) A.length co, .slice (some ⟨gb, 0, none⟩) A.length cap4, .slice (some ⟨ga, 0, none⟩) im co] 22)
      generalize wl.alloc (.cells #[.slice (some ⟨ga, 0, none⟩) A.length co, .slice (some ⟨gb, 0, none⟩) A.length cap4, .slice (some ⟨ga, 0, none⟩) im co] 22) = ws at *
      generalize wl.heap.size = bs at *
      have UD := H10.out.2.step U2
      have B1 := H10.out.1.upd U2 (by simp)
      have HP2 := Lib.hid (show ∀ i, i < 2 → ∃ gx, Pick2 ws bl gs.length i gx ∧ (i = 0 → gx = gs) from fun i hi => by
        rcases (by omega : i = 0 ∨ i = 1) with rfl | rfl
        · exact ⟨gs, Pick2.mk' (B1.cell rfl) rfl (H9.out.1.gl.upd UD), fun _ => rfl⟩
        · exact ⟨gs2, Pick2.mk' (B1.cell rfl) H9.out.2.2.2.2.1 (H9.out.2.2.2.1.upd UD), fun h => by omega⟩)
      have HP3 := Lib.hid (show ∀ i, i < 3 → ∃ X, Pick3 ws bs i X ∧ (i = 0 → X = A) from fun i hi => by
        rcases (by omega : i = 0 ∨ i = 1 ∨ i = 2) with rfl | rfl | rfl
        · exact ⟨A, Pick3.mk' (B2.cell rfl) rfl hal4 (H9.out.2.1.upd UD (by simp)) HAL.out.2.1, fun _ => rfl⟩
        · exact ⟨A2, Pick3.mk' (B2.cell rfl) H9.out.2.2.2.2.2.2 hal4 (by have := H9.out.2.2.1.upd UD (by simp); exact this) H9.out.2.2.2.2.2.1, fun h => by omega⟩
        · exact ⟨A.take im, Pick3.mk' (B2.cell rfl) (by rw [List.length_take]; omega) (by omega) ((H9.out.2.1.upd UD (by simp)).take_ himl) (fun x hx => HAL.out.2.1 x (List.mem_of_mem_take hx)), fun h => by omega⟩)
      have HU := Lib.hid (H9.out.1.u.step UD)
      have HFA := Lib.hid (show Full (5 + gs.length) A from ⟨by have := HAL.out; omega, fun j h1 h2 => by
        rw [HAL.out.2.2.2 j h1 (by have := HAL.out; omega)]; exact sgn_pm _ _⟩)
      clear B1 B2 U2 UD H9 H10 HAm
      go_wp2_with fail
      go_loopw [19] (fun i wr => ∃ j : Nat, i = .int .i64 j ∧ j ≤ 6 ∧ Upd [] ws wr) (fun i _ => 6 - (intOf i).toNat)
      case atStart => exact ⟨0, rfl, Nat.zero_le _, Upd.refl _ _⟩
      case round =>
        obtain ⟨wi, rfl⟩ : ∃ wo : World, wo = wr := ⟨_, rfl⟩
        obtain ⟨i, rfl, hi6, hu⟩ := hrel
        by_cases hli : i < 6
        · have hli' : (i : Int) < 6 := by omega
          obtain ⟨gx, hpx, hgx0⟩ := HP2.out (i % 2) (by omega)
          obtain ⟨X, hpX, hX0⟩ := HP3.out (i / 2) (by omega)
          have hp : (i : Int) % 2 = ((i % 2 : Nat) : Int) := by omega
          have hq : (i : Int) / 2 = ((i / 2 : Nat) : Int) := by omega
          obtain ⟨ax, cx, ex, hgl, qx1, qx2, GX⟩ := hpx.upd hu
          obtain ⟨aX, cX, eX, qX1, qX2, hX14, SX, hXi⟩ := hpX.upd hu
          have hp2 : i % 2 < 2 := by omega
          have hq3 : i / 2 < 3 := by omega
          have HI := Lib.hid (show (i = 0 → gx = gs ∧ X = A) ∧ gx.length = gs.length ∧ GL wi (.slice ax gs.length cx) gx ∧ SL wi 1 (.slice aX X.length cX) X.length (ints X) ∧ (∀ x ∈ X, IsI64 x) ∧ Upd [] ws wi from ⟨fun h => ⟨hgx0 (by omega), hX0 (by omega)⟩, hgl, GX, SX, hXi, hu⟩)
          generalize i % 2 = p at *
          generalize i / 2 = q' at *
          clear hgx0 hX0 hpx hpX hgl GX SX hXi hu
          go_wp2_with fail
          go_loopw [20, 21] (fun v k wr => ∃ m : Nat, k = .int .i64 m ∧ m ≤ gs.length ∧ OwnK wi v (gx.take m) wr) (fun _ k _ => gs.length - (intOf k).toNat)
          case atStart => exact ⟨0, rfl, Nat.zero_le _, by simpa using OwnK.nil wi⟩
          case round =>
            obtain ⟨wk, rfl⟩ : ∃ wo : World, wo = wr := ⟨_, rfl⟩
            obtain ⟨mm, rfl, hmm, hO⟩ := hrel
            have ex' := hO.u.some ex (by simp)
            have eX' := hO.u.some eX (by simp)
            obtain ⟨cs0, hv0, _⟩ := id hO.ex
            have hll : (gx.take mm).length = mm := by rw [List.length_take, HI.out.2.1]; omega
            rw [hll] at hv0
            obtain ⟨avv, cvv, rfl, _⟩ := hv0.sl.val
            have HO := Lib.hid (And.intro hO hll)
            clear hO hv0 hll
            by_cases hlm : mm < gs.length
            · have hlm' : (mm : Int) < gs.length := by omega
              obtain ⟨g, off, av, cv, rfl, c0, c1, c2, hs, hyi⟩ := (HI.out.2.2.1.at (show mm < gx.length by have := HI.out.2.1; omega)).upd HO.out.1.u
              have hs0 : ∃ av' cv', wi.cell? ⟨g, off + mm * 3 + 2, none⟩ = some (.slice av' (gx.getD mm (0, 0, [])).2.2.length cv') ∧ SL wi 1 (.slice av' (gx.getD mm (0, 0, [])).2.2.length cv') (gx.getD mm (0, 0, [])).2.2.length (ints (gx.getD mm (0, 0, [])).2.2) := by
                obtain ⟨g', off', ax', cx', e1, _, _, e4, e5, _⟩ := HI.out.2.2.1.at (show mm < gx.length by have := HI.out.2.1; omega)
                cases e1
                exact ⟨ax', cx', e4, e5⟩
              obtain ⟨av', cv', e4, e5⟩ := hs0
              have e4' := HO.out.1.u.some e4 (by simp)
              rw [c2] at e4'
              simp only [Option.some.injEq, Value.slice.injEq, true_and] at e4'
              obtain ⟨rfl, rfl⟩ := e4'
              have HTS := Lib.hid (show gx.take (mm + 1) = gx.take mm ++ [gx.getD mm (0, 0, [])] by rw [List.take_add_one, gd_some (d := ((0, 0, []) : G)) (by have := HI.out.2.1; omega)]; rfl)
              generalize gx.getD mm (0, 0, []) = x at *
              obtain ⟨kx, ox, ys⟩ := x
              simp only at c0 c1 c2 hs hyi e5
              have HY := Lib.hid (And.intro e5 hyi)
              clear hs hyi e4 e5
              go_upto_region 22 with fail
              refine wp_region_lit ?_
              refine wpList_cutH 10 (fun K hK => ?_)
              simp only [List.take_succ_cons, List.take_zero]
              go_wp2_with (go_at_call 11; refine Own_calls.mono ?_; rintro e w6 ⟨rfl, u6⟩; have H6 := Lib.hid (HO.out.1.quiet u6); clear u6)
              refine Halt_.intro ?_; try simp only [List.drop_succ_cons, List.drop_zero]
              obtain ⟨cs, h1, h2⟩ := H6.out.ex
              have HH2 := Lib.hid h2
              rw [HO.out.2] at h1
              refine wpList_push rfl rfl _ _ _ _ rfl rfl rfl 32 3 40 _ Try.underlying54 infoGateK rfl (by decide) (by decide) (.agg #[.int .i64 kx, .int .i64 ox, .slice av ys.length cv]) [.int .i64 kx, .int .i64 ox, .slice av ys.length cv] rfl rfl rfl (by simp [Value.oneCell']) _ _ _ h1.row rfl rfl (by unfold maxLen; omega) (by omega) ?_
              intro g4 cap4' w4' o4 u4 k4
              simp only [Act.put, List.setIfInBounds_toArray, List.set_cons_zero, List.set_cons_succ]
              have N : OwnK wi (.slice (some ⟨g4, 0, none⟩) (mm + 1) cap4') (gx.take (mm + 1)) w4' := by
                have := OwnK.push (x := (kx, ox, ys)) H6.out.u (by rw [HO.out.2]; exact h1) HH2.out HY.out.1 HY.out.2 (by rw [HO.out.2]; exact o4) u4 k4
                rw [HTS.out, show mm + 1 = (gx.take mm ++ [(kx, ox, ys)]).length by rw [List.length_append, HO.out.2]; rfl]
                exact this
              have HN := Lib.hid N
              clear o4 u4 k4 h1 h2 HH2 N
              go_wp2_with fail
              exact ⟨⟨mm + 1, by go_num, by omega, HN.out⟩, by simp [intOf]; omega⟩
            · have hme : mm = gs.length := by omega
              subst hme
              have hlm' : ¬ (gs.length : Int) < gs.length := by omega
              have HGL := Lib.hid (show GL wk (.slice avv gs.length cvv) gx from by
                have := HO.out.1.gl
                rw [List.take_of_length_le (by have := HI.out.2.1; omega)] at this
                exact this)
              have HS5 := Lib.hid (And.intro (HI.out.2.2.2.1.upd HO.out.1.u (by simp)) (HI.out.2.2.2.2.2.step HO.out.1.u))
              have hlX : bs < wk.heap.size := World.block_lt_of_cell? wk _ eX'
              go_upto_region 23 with fail
              refine wp_region_lit ?_
              refine wpList_cutH 6 (fun K hK => ?_)
              simp only [List.take_succ_cons, List.take_zero]
              go_wp2_with fail
              refine Halt_.intro ?_; try simp only [List.drop_succ_cons, List.drop_zero]
              have g0 := owns_none (w := wk) rfl 3
              have u0 := (Upd.refl [] wk).alloc (.cells #[] 3)
              have S0 := HS5.out.1.upd u0 (by simp)
              have hs3 : wk.heap.size < (wk.alloc (.cells #[] 3)).heap.size := by simp
              generalize wk.alloc (.cells #[] 3) = w3 at *
              refine wpList_appS rfl _ _ _ rfl 3 1 8 _ Try.underlying22 infoInt rfl (by decide) (.slice (some ⟨wk.heap.size, 0, none⟩) 0 0) 0 [] rfl (owns_blk g0 rfl (by unfold maxLen; omega)) (.slice aX X.length cX) X.length (ints X) rfl S0 (ints_one _) (by unfold maxLen; omega) (by omega) ?_
              intro a8 cap8 w8 o8 u8 k8
              simp only [Act.put, List.setIfInBounds_toArray, List.set_cons_zero, List.set_cons_succ]
              rw [List.nil_append] at o8
              simp only [Nat.zero_add] at o8 u8 k8 ⊢
              have N8 : Own wk (.slice a8 X.length cap8) X w8 := ⟨o8, fun g hg => by rcases k8 with h | h <;> rw [hg] at h <;> simp [Value.ownBlock] at h <;> omega, u0.fresh u8 (fun j hj => .inr (by simp [Value.ownBlock] at hj; omega))⟩
              have H8 := Lib.hid N8
              clear o8 u8 k8 g0 u0 S0 hs3 N8
              have HRA := Lib.hid (RunA_calls (HGL.out.upd H8.out.u) H8.out.sl HI.out.2.2.2.2.1 (by omega) (by have := HI.out.2.1; omega))
              have HRE := Lib.hid (And.intro (runAll_err (gs := gx) (A := X)) (runAll_i64 (gs := gx) (A := X) HI.out.2.2.2.2.1))
              have HR1 := Lib.hid (show ∀ w', Upd [] w8 w' → Calls Try.prog 24 #[.slice ax gs.length cx, .slice aX X.length cX] w' (RunAT (runAll gx X) w') from fun w' hu' =>
                RunR_calls (HI.out.2.2.1.upd (HO.out.1.u.step (H8.out.u.step hu'))) (HS5.out.1.upd (H8.out.u.step hu') (by simp)) HI.out.2.2.2.2.1 (by omega) (by have := HI.out.2.1; omega))
              have HRL := Lib.hid (show i = 0 → ∃ B, runAll gx X = (B, 0) ∧ Full (5 + gs.length) B ∧ ∀ m, m < gs.length → Holds B (gs.getD m (0, 0, [])) from fun h0 => by
                obtain ⟨rfl, rfl⟩ := HI.out.1 h0
                refine runs_law (fun m hm => ?_) HFA.out
                obtain ⟨k, ys, h1, h2, h3⟩ := HG.out.2 m hm
                rw [h1]
                exact ⟨rfl, h2, h3⟩)
              generalize hrr : runAll gx X = rr at *
              obtain ⟨r1, er⟩ := rr
              simp only at HRE
              have HRR := Lib.hid hrr
              clear hrr
              go_upto_region 24 with fail
              go_wp2_with fail
              refine HRA.out.mono ?_
              intro e w9 hr
              obtain ⟨a9, c9, rfl, s9, u9⟩ := hr.uni HRE.out.1
              have H9 := Lib.hid (And.intro s9 u9)
              clear hr s9 u9 HRA
              simp only
              have ex9 := (HO.out.1.u.step (H8.out.u.step H9.out.2)).some ex (by simp)
              have eX9 := (HO.out.1.u.step (H8.out.u.step H9.out.2)).some eX (by simp)
              clear ex eX ex' eX'
              go_upto_region 25 with fail
              refine wp_region_ord 10 1 [0, 1, 2, 3, 4, 5, 6, 7, 8, 9, 11, 12, 13, 14, 15] [4, 9] [0, 1, 2, 3, 4, 5, 6, 7, 8, 9, 10, 11, 12, 13, 14, 15] (fun w' => ∃ x : Ext w9, w' = x.val) (by kernel_rfl) (by kernel_rfl) (Ext.of (by iterate 25 (first | exact Upd.refl _ _ | assumption | refine Upd.alloc ?_ _ | refine Upd.drew ?_ | refine Upd.drewN ?_ _ | refine Upd.dl ?_ | refine Upd.step ?_ (Ext.upd _) | refine Upd.nil ?_ | skip))) ?_
              repeat (first | (refine wpOrd_load rfl rfl rfl rfl (fun K hK => ?_); go_big_quiet_step (fail); refine wpQuiet_nil ?_; refine hK _ ?_; clear hK K) | (refine wpOrd_free rfl rfl rfl (fun K hK => ?_); go_big_quiet_step (fail); refine wpQuiet_nil ?_; refine hK _ ?_; clear hK K))
              refine wpOrd_fix rfl rfl (fun K hK => ?_)
              go_wp2_with (go_at_call 24; refine (HR1.out _ (H9.out.2.step (show Upd [] w9 _ from (by iterate 25 (first | exact Upd.refl _ _ | assumption | refine Upd.alloc ?_ _ | refine Upd.drew ?_ | refine Upd.drewN ?_ _ | refine Upd.dl ?_ | refine Upd.step ?_ (Ext.upd _) | refine Upd.nil ?_ | skip))))).mono ?_; intro e wA hr; obtain ⟨aA, cA, rfl, sA, uA⟩ := hr.uni HRE.out.1; have HA := Lib.hid (And.intro sA (show Upd [] w9 wA from Upd.step (by iterate 25 (first | exact Upd.refl _ _ | assumption | refine Upd.alloc ?_ _ | refine Upd.drew ?_ | refine Upd.drewN ?_ _ | refine Upd.dl ?_ | refine Upd.step ?_ (Ext.upd _) | refine Upd.nil ?_ | skip)) uA)); clear hr sA uA)
              refine ⟨fun hC => absurd hC (by decide), ?_⟩
              repeat (first | (refine wpOrd_load rfl rfl rfl rfl (fun K hK => ?_); go_big_quiet_step (fail); refine wpQuiet_nil ?_; refine hK _ ?_; clear hK K) | (refine wpOrd_free rfl rfl rfl (fun K hK => ?_); go_big_quiet_step (fail); refine wpQuiet_nil ?_; refine hK _ ?_; clear hK K))
              refine wpOrd_nil ?_
              have U0A := HO.out.1.u.step (H8.out.u.step (H9.out.2.step HA.out.2))
              have eXA := HA.out.2.some eX9 (by simp)
              have HSM1 := Lib.hid (fun (w' : World) (hu : Upd [] wA w') => (SameInts_calls (H9.out.1.upd (HA.out.2.step hu) (by simp)) (HA.out.1.upd hu (by simp))).mono (fun e w2 h => (show e = .returned (.bool true) ∧ Upd [] w' w2 by simpa using h)))
              have HSM2 := Lib.hid (fun (w' : World) (hu : Upd [] wA w') => (SameInts_calls (H8.out.sl.upd (H9.out.2.step (HA.out.2.step hu)) (by simp)) (HI.out.2.2.2.1.upd (U0A.step hu) (by simp))).mono (fun e w2 h => (show e = .returned (.bool true) ∧ Upd [] w' w2 by simpa using h)))
              have HUA := Lib.hid U0A
              have hbA : (er != er) = false := by simp
              clear U0A ex9 eX9
              go_upto_region 26 with fail
              go_cut [188] (fun t w' => t = .bool false ∧ Upd [] wA w')
              case first => as_aux_lemma =>
                by_cases he : er = 0
                · subst he
                  go_wp2_with fail
                  refine (HSM1.out _ (Upd.refl [] wA)).mono ?_
                  rintro e wB ⟨rfl, uB⟩
                  have eXB := uB.some eXA (by simp)
                  have HUB := Lib.hid uB
                  clear uB eXA
                  go_wp2_with fail
                  refine (HSM2.out _ HUB.out).mono ?_
                  rintro e wC ⟨rfl, uC⟩
                  have HUC := Lib.hid (HUB.out.step uC)
                  clear uC eXB
                  go_wp2_with fail
                  go_meet
                  case rel => exact ⟨rfl, HUC.out⟩
                · have hr1 := HRE.out.1 he
                  subst hr1
                  have hb1 : (er != 0) = true := by simpa using he
                  have hb2 : (er == 0) = false := by simpa using he
                  clear he
                  go_wp2_with fail
                  refine (HSM2.out _ (Upd.refl [] wA)).mono ?_
                  rintro e wC ⟨rfl, uC⟩
                  have HUC := Lib.hid uC
                  clear uC eXA
                  go_wp2_with fail
                  go_meet
                  case rel => exact ⟨rfl, HUC.out⟩
              case rest =>
              obtain ⟨rfl, uC⟩ := hcut
              have HC := Lib.hid (And.intro (HUA.out.step uC) (And.intro (HGL.out.upd (H8.out.u.step (H9.out.2.step (HA.out.2.step uC)))) (H9.out.1.upd (HA.out.2.step uC) (by simp))))
              obtain ⟨wf, rfl⟩ : ∃ wo : World, wo = wc := ⟨_, rfl⟩
              clear uC HSM1 HSM2 eXA hbA
              by_cases h0 : i = 0
              · as_aux_lemma =>
                  obtain ⟨B, hB, hF, hH⟩ := HRL.out h0
                  cases hB
                  obtain ⟨hge1, hXe1⟩ := HI.out.1 h0
                  obtain rfl := hge1.symm
                  obtain rfl := hXe1.symm
                  have HFH := Lib.hid (And.intro hF hH)
                  clear hF hH
                  subst h0
                  rw [show ((0 : Nat) : Int) = 0 from rfl]
                  have hBl : r1.length = 5 + gs.length := HFH.out.1.len
                  have HBL := Lib.hid hBl
                  clear hBl
                  go_wp2_with fail
                  go_loopw [27] (fun k wr => ∃ m : Nat, k = .int .i64 m ∧ m ≤ gs.length ∧ Upd [] wf wr) (fun k _ => gs.length - (intOf k).toNat)
                  case atStart => exact ⟨0, rfl, Nat.zero_le _, Upd.refl _ _⟩
                  case round =>
                    obtain ⟨wo, rfl⟩ : ∃ wo : World, wo = wr := ⟨_, rfl⟩
                    obtain ⟨mm, rfl, hmm, hu⟩ := hrel
                    by_cases hlm : mm < gs.length
                    · have hlm' : (mm : Int) < gs.length := by omega
                      have hga := (HC.out.2.1.at hlm).upd hu
                      obtain ⟨kx, ys, h1, hok, hin⟩ := HG.out.2 mm hlm
                      have hHm := HFH.out.2 mm hlm
                      rw [h1] at hga hHm
                      obtain ⟨g, off, av, cv, rfl, c0, c1, c2, hs, hyi⟩ := hga
                      simp only at c0 c1 c2 hs hyi
                      have HGC := Lib.hid (GClauses_calls (k := kx) (o := 5 + (mm : Int)) hs)
                      have HST := Lib.hid (show ∀ c ∈ gL kx (5 + (mm : Int)) ys, stateRes c r1 = (true, [], 0) from by
                        unfold gL; rw [if_pos hok]
                        exact gate_states HFH.out.1 hok (by omega) (fun x hx => by have := hin x hx; omega) hHm)
                      have hge := gErr_good hok
                      have HU2 := Lib.hid hu
                      clear hs hyi hHm h1 hin hok hu
                      go_wp2_with fail
                      refine HGC.out.mono ?_
                      intro e wE hc
                      obtain ⟨vE, rfl, CE, uE⟩ := hc.uni
                      rw [hge]
                      have HCE := Lib.hid (And.intro CE (HU2.out.step uE))
                      obtain ⟨aE, cE, rfl, qE1, qE2, _⟩ := CE.form
                      clear CE hc uE HGC HU2 hge c0 c1 c2
                      generalize gL kx (5 + (mm : Int)) ys = LL at *
                      go_wp2_with fail
                      go_loopw [30] (fun j wr => ∃ q : Nat, j = .int .i64 q ∧ q ≤ LL.length ∧ Upd [] wE wr) (fun j _ => LL.length - (intOf j).toNat)
                      case atStart => exact ⟨0, rfl, Nat.zero_le _, Upd.refl _ _⟩
                      case round =>
                        obtain ⟨wq, rfl⟩ : ∃ wo : World, wo = wr := ⟨_, rfl⟩
                        obtain ⟨qq, rfl, hqq, hu⟩ := hrel
                        by_cases hlq : qq < LL.length
                        · have hlq' : (qq : Int) < LL.length := by omega
                          have hcell : CellAt wq aE qq (LL.getD qq []) := by
                            obtain ⟨a', c', he, _, _, kE⟩ := HCE.out.1.form
                            cases he
                            exact (kE qq hlq).upd hu
                          have hst := HST.out _ (gd_memA (d := ([] : List Int)) hlq)
                          generalize LL.getD qq [] = c at *
                          obtain ⟨g', off', ay, cy, rfl, e1, s1, hc1, hc2⟩ := hcell
                          have HSC := Lib.hid (State_calls s1 (HC.out.2.2.upd (HCE.out.2.step hu) (by simp)) HRE.out.2)
                          rw [hst] at HSC
                          have HU3 := Lib.hid hu
                          clear s1 hst hu
                          go_wp2_with fail
                          refine HSC.out.mono ?_
                          rintro e wS ⟨vS, rfl, oS⟩
                          have HUS := Lib.hid (HU3.out.step oS.u)
                          clear oS HSC e1
                          simp only
                          go_wp2_with fail
                          exact ⟨⟨qq + 1, by go_num, by omega, HUS.out⟩, by simp [intOf]; omega⟩
                        · have hlq' : ¬ (qq : Int) < LL.length := by omega
                          have HU3 := Lib.hid (HCE.out.2.step hu)
                          clear hu
                          go_wp2_with fail
                          exact ⟨⟨mm + 1, by go_num, by omega, HU3.out⟩, by simp [intOf]; omega⟩
                    · have hlm' : ¬ (mm : Int) < gs.length := by omega
                      have HU3 := Lib.hid (HI.out.2.2.2.2.2.step (HC.out.1.step hu))
                      clear hu
                      go_wp2_with fail
                      exact ⟨⟨1, rfl, by omega, HU3.out⟩, by simp [intOf]⟩
              · as_aux_lemma =>
                  have hb0 : ((i : Int) == 0) = false := by simpa using h0
                  have hb0' : ¬ (i : Int) = 0 := by omega
                  go_wp2_with fail
                  go_loopw [27] (fun k wr => ∃ m : Nat, k = .int .i64 m ∧ m ≤ gs.length ∧ Upd [] wf wr) (fun k _ => gs.length - (intOf k).toNat)
                  case atStart => exact ⟨0, rfl, Nat.zero_le _, Upd.refl _ _⟩
                  case round =>
                    obtain ⟨wo, rfl⟩ : ∃ wo : World, wo = wr := ⟨_, rfl⟩
                    obtain ⟨mm, rfl, hmm, hu⟩ := hrel
                    have HU3 := Lib.hid (HI.out.2.2.2.2.2.step (HC.out.1.step hu))
                    clear hu
                    by_cases hlm : mm < gs.length
                    · have hlm' : (mm : Int) < gs.length := by omega
                      go_wp2_with fail
                      exact ⟨⟨i + 1, by go_num, by omega, HU3.out⟩, by simp [intOf]; omega⟩
                    · have hlm' : ¬ (mm : Int) < gs.length := by omega
                      go_wp2_with fail
                      exact ⟨⟨i + 1, by go_num, by omega, HU3.out⟩, by simp [intOf]; omega⟩
        · have hi : i = 6 := by omega
          subst hi
          rw [show ((6 : Nat) : Int) = 6 from rfl]
          have HU3 := Lib.hid (HU.out.step hu)
          clear hu
          go_wp2_with fail
          refine (lives_calls).mono ?_
          rintro e w4 ⟨rfl, u4⟩
          go_wp2_with fail
          go_ret
          exact ⟨rfl, HU3.out.step u4⟩
end
end Gate
end Go.Proofs.Ytobclpfpkpkocaa
