/- Walks through the laws of gates: GateForces. Conditions: none. -/
import Derived.Test.YtobclpfpkpkocaaGateF
import Derived.Test.YtobclpfpkpkocaaGateD
import Derived.Test.YtobclpfpkpkocaaGateW
set_option linter.unusedVariables false
set_option linter.unusedSimpArgs false
set_option linter.unusedSectionVars false
open Go.RowKit
namespace Go.Proofs.Ytobclpfpkpkocaa
open L
namespace Gate
open Cla R14 R01
theorem asg_open (m : Int) : Open4 (asg m 3 ++ [0]) := by
  have hl : (asg m 3).length = 4 := asg_len m 3
  refine ⟨by simp [hl], ?_, fun j h1 h3 => ?_⟩
  · rw [List.getD_eq_getElem?_getD, List.getElem?_append_right (by omega), hl]; rfl
  · have := asg_get m h1 h3
    have e : (asg m 3 ++ [0]).getD j 0 = (asg m 3).getD j 0 := by rw [List.getD_eq_getElem?_getD, List.getD_eq_getElem?_getD, List.getElem?_append_left (by omega)]
    rw [e, this]
    exact sgn_pm m (j - 1)
theorem run_one {A : List Int} {k : Int} {xs : List Int} (hA : Open4 A) (hok : gOk k 4 xs = true) (hx : ∀ x ∈ xs, 1 ≤ x.natAbs ∧ x.natAbs ≤ 3) : runAll [(k, 4, xs)] A = (A.set 4 (runVal k xs A), 0) := by
  have he : runErr 4 xs A = 0 := by
    refine runErr_ok (by have := hA.len; omega) (fun x h => hA.bad (hx x h).1 (by have := (hx x h).2; omega)) (fun x h => ?_)
    have := hA.val x.natAbs (hx x h).1 (hx x h).2
    unfold opn
    rcases this with h | h <;> rw [h] <;> rfl
  unfold runAll
  rw [if_neg (by simp [badG, hok])]
  unfold runL
  rw [he, if_neg (by simp)]
  rfl
theorem state_ok {A c : List Int} (hc : listErr c = 0) (h : ∀ x ∈ c, badV A x = false) : stateRes c A = (c.any (fun x => lval A x == 1), c.filter (fun x => lval A x == 0), 0) := by
  unfold stateRes
  rw [if_neg (by simpa using hc), if_neg]
  rw [Bool.not_eq_true, List.any_eq_false]
  intro x hx
  rw [h x hx]; simp
/-- Is a clause found? -/
def anyP (A : List Int) (d : Int) (xs : List Int) (L : List (List Int)) : Bool := L.any (foundP A d xs)
theorem anyP_snoc (A : List Int) (d : Int) (xs : List Int) {L : List (List Int)} {j : Nat} (h : j < L.length) : anyP A d xs (L.take (j + 1)) = (anyP A d xs (L.take j) || foundP A d xs (L.getD j [])) := by
  unfold anyP
  rw [List.take_add_one, gd_some (d := []) h, List.any_append]
  simp
section
variable {w : World}
set_option maxRecDepth 100000 in
set_option maxHeartbeats 8000000 in
theorem GateForces_calls (n : Int) (hn : IsI64 n) : Calls Try.prog 7 #[.int .i64 n] w fun e w' => e = .returned (.bool true) ∧ Upd [] w w' := by
  go_enter Try.func7, Try.ntmps7
  go_upto_region 2 with (first | (go_at_call 8; refine (SomeG_calls n 4 hn (by omega) (by omega)).mono ?_; rintro e w2 ⟨kk, ys, v2, rfl, hk0, hk6, hyl, hys, hO⟩; have hok := some_ok hk0 hk6 hyl hys; have hyl1 : ys.length ≤ 3 := (by have := ninp_le kk; omega); obtain ⟨av, cv, rfl, hcv, _⟩ := hO.form; have HO := Lib.hid (And.intro hO (And.intro hys (And.intro hyl hok))); clear hO hys hyl hok) | (go_at_call 11; refine Own_calls.mono ?_; rintro e w3 ⟨rfl, u3⟩; have H3 := Lib.hid u3; clear u3))
  have NB := Blk.new w3 [.int .i64 kk, .int .i64 4, .slice av ys.length cv] 32
  have U4 := (Upd.refl [] w3).alloc (.cells #[.int .i64 kk, .int .i64 4, .slice av ys.length cv] 32)
  generalize w3.alloc (.cells #[.int .i64 kk, .int .i64 4, .slice av ys.length cv] 32) = w4 at *
  generalize w3.heap.size = b at *
  have c0 := NB.cell (i := 0) rfl
  have c1 := NB.cell (i := 1) rfl
  have c2 := NB.cell (i := 2) rfl
  have H4 := Lib.hid (And.intro NB (And.intro ((HO.out.1.u.step H3.out).step U4) ((HO.out.1.sl.upd H3.out (by simp)).upd U4 (by simp))))
  clear NB U4 H3
  go_wp2_with fail
  refine (GClauses_calls (k := kk) (o := 4) H4.out.2.2).mono ?_
  intro e w5 hc
  obtain ⟨v5, rfl, C5, u5⟩ := hc.2 HO.out.2.2.2
  obtain ⟨a5, cap5, rfl, hq5, hr5, hcells⟩ := C5.form
  have H5 := Lib.hid (And.intro hcells (And.intro (H4.out.1.upd u5 (by simp)) (And.intro (H4.out.2.1.step u5) (H4.out.2.2.upd u5 (by simp)))))
  have hll : (gCl kk 4 ys).length ≤ 8 := Nat.le_trans (keep_len _) (gRaw_ok HO.out.2.2.2).2
  clear hc C5 u5 hcells c0 c1 c2
  generalize hLL : gCl kk 4 ys = LL at *
  have HLL := Lib.hid hLL
  clear hLL
  go_wp2_with fail
  go_loopw [6] (fun i wr => ∃ m : Nat, i = .int .i64 m ∧ m ≤ 8 ∧ Upd [] w5 wr) (fun i _ => 8 - (intOf i).toNat)
  case atStart => exact ⟨0, rfl, Nat.zero_le _, Upd.refl _ _⟩
  case round =>
    obtain ⟨wo, rfl⟩ : ∃ wo : World, wo = wr := ⟨_, rfl⟩
    obtain ⟨m, rfl, hm, hu⟩ := hrel
    by_cases hlt : m < 8
    · have HU := Lib.hid (And.intro hu (H5.out.2.1.upd hu (by simp)))
      clear hu
      have hlt' : (m : Int) < 8 := by omega
      go_upto_region 9 with fail
      have NA := Blk.new wo (ints [0]) 3
      have UA := (Upd.refl [] wo).alloc (.cells (ints [0]).toArray 3)
      have OA : Own wo (.slice (some ⟨wo.heap.size, 0, none⟩) 1 1) (asg m 0) (wo.alloc (.cells (ints [0]).toArray 3)) := ⟨owns_blk NA rfl (by unfold maxLen; omega), fun g hg => by simp [Value.ownBlock] at hg; omega, UA⟩
      have HA := Lib.hid OA
      clear NA UA OA
      go_wp2_with fail
      go_loopw [7, 8] (fun o i wr => ∃ v : Nat, i = .int .i64 v ∧ v ≤ 3 ∧ Own wo o (asg m v) wr) (fun _ i _ => 3 - (intOf i).toNat)
      case atStart => exact ⟨0, rfl, Nat.zero_le _, HA.out⟩
      case round =>
        clear HA
        obtain ⟨v, rfl, hv, hO⟩ := hrel
        have hal := Lib.hid (asg_len m v)
        by_cases hlv : v < 3
        · obtain ⟨ao, co, rfl, _, _⟩ := hO.form
          have HO2 := Lib.hid hO
          clear hO
          have hq0 := shr_lo (show 0 ≤ (m : Int) by omega) v
          have hq1 := shr_hi (show 0 ≤ (m : Int) by omega) v
          have HS := Lib.hid (asg_snoc m v)
          have hal4 : (asg m v).length ≤ 5 := by have := hal.out; omega
          go_upto_region 12 with fail
          go_wp2_with (refine wpList_push rfl rfl _ _ _ _ rfl rfl rfl 3 1 8 _ Try.underlying22 infoInt rfl (by decide) (by decide) (.int .i64 _) [.int .i64 _] rfl rfl rfl (ints_one [_]) _ _ _ HO2.out.row rfl rfl (by unfold maxLen; omega) (by omega) ?_; intro g4 cap4 w4' o4 u4 k4)
          have N := HO2.out.push o4 u4 k4
          exact ⟨⟨v + 1, by go_num, by omega, by rw [HS.out]; exact N⟩, by simp [intOf]; omega⟩
        · have hv4 : v = 3 := by omega
          subst hv4
          rw [show ((3 : Nat) : Int) = 3 from rfl]
          obtain ⟨ao, co, rfl, _, _⟩ := hO.form
          have HO2 := Lib.hid hO
          clear hO
          have hal4 : (asg m 3).length ≤ 5 := by have := hal.out; omega
          go_upto_region 14 with (refine wpList_push rfl rfl _ _ _ _ rfl rfl rfl 3 1 8 _ Try.underlying22 infoInt rfl (by decide) (by decide) (.int .i64 0) [.int .i64 0] rfl rfl rfl (ints_one [0]) _ _ _ HO2.out.row rfl rfl (by unfold maxLen; omega) (by omega) ?_; intro g4 cap4 wa o4 u4 k4)
          have N := HO2.out.push o4 u4 k4
          have hal5 : (asg m 3).length + 1 = (asg (m : Int) 3 ++ [0]).length := by simp
          rw [hal5] at N ⊢
          have HA5 := Lib.hid (asg_open (m : Int))
          have HI6 := Lib.hid (show ∀ x ∈ asg (m : Int) 3 ++ [0], IsI64 x from fun x hx => by
            rcases List.mem_append.1 hx with h | h
            · exact asg_i64 _ _ x h
            · simp at h; subst h; unfold IsI64; omega)
          clear o4 u4 k4 hal hal4 hal5
          generalize asg (m : Int) 3 ++ [0] = A at *
          have HN := Lib.hid (And.intro N (And.intro (HU.out.1.step N.u) (HU.out.2.upd N.u (by simp))))
          clear N
          have hal5 := HA5.out.len
          have hA5 : A.length ≤ 5 := by omega
          have hA5' : 5 ≤ A.length := by omega
          clear hal5
          have c0 := HN.out.2.2.cell (i := 0) rfl
          have c1 := HN.out.2.2.cell (i := 1) rfl
          have c2 := HN.out.2.2.cell (i := 2) rfl
          go_wp2_with fail
          have U7 := (Upd.refl [] wa).alloc (.cells #[.int .i64 kk, .int .i64 4, .slice av ys.length cv] 32)
          have B7 := Blk.new wa [.int .i64 kk, .int .i64 4, .slice av ys.length cv] 32
          generalize wa.alloc (.cells #[.int .i64 kk, .int .i64 4, .slice av ys.length cv] 32) = w7 at *
          generalize wa.heap.size = g7 at *
          have hys3 : ∀ x ∈ ys, 1 ≤ x.natAbs ∧ x.natAbs ≤ 3 := fun x hx => by have := HO.out.2.1 x hx; omega
          have SY := ((H5.out.2.2.2.upd HN.out.2.1 (by simp)).upd U7 (by simp))
          have hgl : GL w7 (.slice (some ⟨g7, 0, none⟩) 1 1) [(kk, (4 : Int), ys)] := ⟨some ⟨g7, 0, none⟩, 1, rfl, by simp, by omega, fun i hi => by
            obtain rfl : i = 0 := by simp at hi; omega
            exact ⟨g7, 0, av, cv, rfl, B7.cell (i := 0) rfl, B7.cell (i := 1) rfl, B7.cell (i := 2) rfl, SY, fun y hy => by have := hys3 y hy; unfold IsI64; omega⟩⟩
          have hro := run_one HA5.out HO.out.2.2.2 hys3
          have hRA := RunA_calls hgl (HN.out.1.sl.upd U7 (by simp)) HI6.out (by omega) (by simp)
          rw [hro] at hRA
          have HRA := Lib.hid hRA
          have HFL := Lib.hid (found_law HA5.out HO.out.2.2.2 hys3)
          have hd : runVal kk ys A = 1 ∨ runVal kk ys A = -1 := by unfold runVal; split <;> simp
          have HY3 := Lib.hid hys3
          have HGO := Lib.hid (goal_ok HA5.out hd hyl1 hys3)
          have H7 := Lib.hid (And.intro (HN.out.2.1.step U7) (And.intro (HN.out.2.2.upd U7 (by simp)) (And.intro SY (HN.out.1.sl.upd U7 (by simp)))))
          clear hgl hro hRA B7 U7 SY hys3 HN c0 c1 c2
          rw [HLL.out] at HFL
          generalize runVal kk ys A = d at *
          have HD := Lib.hid hd
          have hd1 : -1 ≤ d := by omega
          have hd2 : d ≤ 1 := by omega
          clear hd
          refine HRA.out.mono ?_
          intro e w8 hr
          obtain ⟨a8, c8, rfl, O8⟩ := hr.2 rfl
          simp only at O8 ⊢
          have hD1 : (A.set 4 d).length ≤ 5 := by rw [List.length_set]; exact hA5
          have hD2 : 5 ≤ (A.set 4 d).length := by rw [List.length_set]; exact hA5'
          have hD4 : (A.set 4 d).getD 4 0 = d := by rw [List.getD_eq_getElem?_getD, List.getElem?_set_self (by omega)]; rfl
          have H8 := Lib.hid (And.intro (H7.out.1.step O8.u) (And.intro (H7.out.2.1.upd O8.u (by simp)) (And.intro (H7.out.2.2.1.upd O8.u (by simp)) (And.intro (H7.out.2.2.2.upd O8.u (by simp)) O8.sl))))
          obtain ⟨_, _, he8, hc8, _, k8⟩ := SL.elems O8.sl
          cases he8
          obtain ⟨g8, off8, rfl, k8'⟩ := k8 (by omega)
          have e8 : w8.cell? ⟨g8, off8 + 4, none⟩ = some (.int .i64 d) := by have := k8' 4 _ (ints_gd (by omega)); rw [hD4] at this; exact this
          have HD4 := Lib.hid hD4
          clear hr O8 k8 k8' H7 HRA hD4
          generalize A.set 4 d = D at *
          go_upto_region 15 with fail
          go_cut [79] (fun t w' => w' = w8 ∧ t = .bool false)
          case first =>
            have hb5 : ((D.length : Int) != 5) = false := by simp; omega
            have hd45 : (4 : Int) < D.length := by omega
            rcases HD.out with rfl | rfl
            · go_wp2_with fail
              go_meet
              case rel => exact ⟨rfl, rfl⟩
            · go_wp2_with fail
              go_meet
              case rel => exact ⟨rfl, rfl⟩
          case rest =>
          obtain ⟨rfl, rfl⟩ := hcut
          go_upto_region 18 with fail
          have NA := Blk.new wc (ints [4 * d]) 3
          have UA := (Upd.refl [] wc).alloc (.cells (ints [4 * d]).toArray 3)
          have OA : Own wc (.slice (some ⟨wc.heap.size, 0, none⟩) 1 1) (goalOf A d (ys.take 0)) (wc.alloc (.cells (ints [4 * d]).toArray 3)) := ⟨owns_blk NA rfl (by unfold maxLen; omega), fun g hg => by simp [Value.ownBlock] at hg; omega, UA⟩
          have HGA := Lib.hid OA
          clear NA UA OA
          go_wp2_with fail
          go_loopw [11, 12] (fun o i wr => ∃ j : Nat, i = .int .i64 j ∧ j ≤ ys.length ∧ Own wc o (goalOf A d (ys.take j)) wr) (fun _ i _ => ys.length - (intOf i).toNat)
          case atStart => exact ⟨0, rfl, Nat.zero_le _, HGA.out⟩
          case round =>
            clear HGA
            obtain ⟨wi, rfl⟩ : ∃ wi : World, wi = wr := ⟨_, rfl⟩
            obtain ⟨j, rfl, hj, hOG⟩ := hrel
            have hgl : (goalOf A d (ys.take j)).length ≤ 4 := by unfold goalOf; rw [List.length_cons, List.length_map, List.length_take]; omega
            have HOG := Lib.hid hOG
            obtain ⟨ag, cg, rfl, _, _⟩ := hOG.form
            have hBi := H8.out.2.1.upd hOG.u (by simp)
            have c2 := hBi.cell (i := 2) rfl
            clear hOG hBi
            by_cases hlj : j < ys.length
            · obtain ⟨_, _, he, _, _, ky⟩ := SL.elems (H8.out.2.2.1.upd HOG.out.u (by simp))
              cases he
              obtain ⟨gy, offy, rfl, ky2⟩ := ky (by omega)
              have ey := ky2 j _ (ints_gd hlj)
              obtain ⟨hx1, hx3⟩ := HY3.out _ (gd_mem hlj)
              have hts : goalOf A d (ys.take (j + 1)) = goalOf A d (ys.take j) ++ [goalLit A (ys.getD j 0)] := by unfold goalOf; rw [List.take_add_one, gd_some (d := 0) hlj]; simp
              have hgv := HA5.out.val _ hx1 hx3
              have hgd : goalLit A (ys.getD j 0) = -((ys.getD j 0).natAbs : Int) * A.getD (ys.getD j 0).natAbs 0 := rfl
              clear ky ky2
              generalize ys.getD j 0 = xl at *
              have hmx := max_abs xl
              obtain ⟨_, _, he, _, _, kA⟩ := SL.elems (H8.out.2.2.2.1.upd HOG.out.u (by simp))
              cases he
              obtain ⟨ga, offa, heq, kA2⟩ := kA (by omega)
              cases heq
              have eA := kA2 xl.natAbs _ (ints_gd (by omega))
              rw [Nat.zero_add] at eA
              have HTS := Lib.hid (And.intro hts hgd)
              clear hts hgd kA kA2
              have hxA : xl.natAbs < A.length := by omega
              generalize A.getD xl.natAbs 0 = y at *
              go_wp2_with fail
              refine wp_region_qx (by kernel_rfl) (by kernel_rfl) ?_
              repeat (go_big_quiet_step ((fail)))
              refine wpQuiet_nil ?_
              intro x
              have HX := Lib.hid (HOG.out.quiet x.upd)
              have hx3' : ¬ (3 : Int) < xl.natAbs := by omega
              have hxA' : (xl.natAbs : Int) < A.length := by omega
              have hx1' : (0 : Int) ≤ xl.natAbs := by omega
              have hx33 : (xl.natAbs : Int) ≤ 3 := by omega
              have U9 := HOG.out.u
              clear ey c2 hmx
              rcases hgv with rfl | rfl
              · have HG := Lib.hid (show goalLit A xl = -(xl.natAbs : Int) by rw [HTS.out.2]; omega)
                go_wp2_with (refine wpList_push rfl rfl _ _ _ _ rfl rfl rfl 3 1 8 _ Try.underlying22 infoInt rfl (by decide) (by decide) (.int .i64 _) [.int .i64 _] rfl rfl rfl (ints_one [_]) _ _ _ HX.out.row rfl rfl (by unfold maxLen; omega) (by omega) ?_; intro g9 cap9 w9 o9 u9 k9)
                have N9 := HX.out.push o9 u9 k9
                exact ⟨⟨j + 1, by go_num, by omega, by rw [HTS.out.1, HG.out]; simpa [goalOf] using N9⟩, by simp [intOf]; omega⟩
              · have HG := Lib.hid (show goalLit A xl = (xl.natAbs : Int) by rw [HTS.out.2]; omega)
                go_wp2_with (refine wpList_push rfl rfl _ _ _ _ rfl rfl rfl 3 1 8 _ Try.underlying22 infoInt rfl (by decide) (by decide) (.int .i64 _) [.int .i64 _] rfl rfl rfl (ints_one [_]) _ _ _ HX.out.row rfl rfl (by unfold maxLen; omega) (by omega) ?_; intro g9 cap9 w9 o9 u9 k9)
                have N9 := HX.out.push o9 u9 k9
                exact ⟨⟨j + 1, by go_num, by omega, by rw [HTS.out.1, HG.out]; simpa [goalOf] using N9⟩, by simp [intOf]; omega⟩
            · rw [List.take_of_length_le (by omega)] at HOG hgl ⊢
              have hnl : nL (goalOf A d ys) = norm (goalOf A d ys) := by unfold nL nrm; rw [if_pos HGO.out.1, HGO.out.2]; simp
              have hnb : nB (goalOf A d ys) = false := by unfold nB; rw [decide_eq_false_iff_not]; rintro ⟨_, h⟩; rw [HGO.out.2] at h; cases h
              have hN := Normal_calls HOG.out.sl
              rw [hnl, hnb, HGO.out.1] at hN
              have HN := Lib.hid hN
              clear hnl hnb hN
              have HSM := Lib.hid (fun c (hc : c ∈ LL) => gCl_small HO.out.2.2.2 (fun x hx => ⟨(HY3.out x hx).1, by have := (HY3.out x hx).2; omega⟩) c (by rw [HLL.out]; exact hc))
              have HFL2 := Lib.hid (show anyP A d ys LL = true from HFL.out)
              have HFP := Lib.hid (fun c => show foundP A d ys c = (!(stateRes c A).1 && (decide ((stateRes c A).2.1 = [4 * d]) && decide (chainRes (norm (goalOf A d ys)) [c] = 0))) from rfl)
              have H9 := Lib.hid (And.intro (H8.out.1.step HOG.out.u) (And.intro (H8.out.2.2.2.1.upd HOG.out.u (by simp)) (H8.out.2.2.2.2.upd HOG.out.u (by simp))))
              clear hgl HOG H8
              generalize goalOf A d ys = go at *
              generalize norm go = cg2 at *
              go_wp2_with fail
              refine HN.out.mono ?_
              rintro e w10 ⟨v10, rfl, s10, u10⟩
              obtain ⟨a10, c10, rfl, _, _, _⟩ := SL.elems s10
              have H10 := Lib.hid (And.intro (H9.out.1.step u10) (And.intro (H9.out.2.1.upd u10 (by simp)) (And.intro (H9.out.2.2.upd u10 (by simp)) s10)))
              clear s10 u10 H9 HN
              go_wp2_with fail
              go_loopw [17, 18] (fun o i wr => ∃ j : Nat, i = .int .i64 j ∧ j ≤ LL.length ∧ o = .bool (anyP A d ys (LL.take j)) ∧ Upd [] w10 wr) (fun _ i _ => LL.length - (intOf i).toNat)
              case atStart => exact ⟨0, rfl, Nat.zero_le _, rfl, Upd.refl _ _⟩
              case round =>
                obtain ⟨wi2, rfl⟩ : ∃ wi : World, wi = wr := ⟨_, rfl⟩
                obtain ⟨jj, rfl, hjj, rfl, hu2⟩ := hrel
                by_cases hlj2 : jj < LL.length
                · obtain ⟨gl, offl, ac, capc, rfl, e1, hsc, hcc1, hcc2⟩ := (H5.out.1 jj hlj2).upd (H10.out.1.step hu2)
                  have hsm := HSM.out _ (gd_memA (d := []) hlj2)
                  have HTS := Lib.hid (anyP_snoc A d ys hlj2)
                  have hfp := HFP.out (LL.getD jj [])
                  generalize LL.getD jj [] = c at *
                  obtain ⟨tb, op, hst⟩ : ∃ tb op, stateRes c A = (tb, op, 0) := ⟨_, _, state_ok hsm.1 (fun x hx => HA5.out.bad (hsm.2.2 x hx).1 (hsm.2.2 x hx).2)⟩
                  rw [hst] at hfp
                  have HP := Lib.hid hfp
                  have HST := Lib.hid (State_calls hsc (H10.out.2.1.upd hu2 (by simp)) HI6.out)
                  have HU2 := Lib.hid (And.intro hu2 (And.intro hst hsc))
                  clear hsm hst hu2 hfp hsc
                  generalize anyP A d ys (LL.take jj) = ob at *
                  go_wp2_with fail
                  refine HST.out.mono ?_
                  rintro e w9 ⟨v9, rfl, o9⟩
                  rw [HU2.out.2.1] at o9 ⊢
                  simp only at o9 ⊢
                  obtain ⟨a9, c9, rfl, _, _⟩ := o9.form
                  have e1' := o9.u.some e1 (by simp)
                  have H9 := Lib.hid (And.intro (HU2.out.1.step o9.u) (And.intro o9.sl (HU2.out.2.2.upd o9.u (by simp))))
                  clear o9 HST e1
                  cases tb with
                  | true =>
                    have HPF := Lib.hid (show foundP A d ys c = false by rw [HP.out]; rfl)
                    go_wp2_with fail
                    exact ⟨⟨jj + 1, by go_num, by omega, by rw [HTS.out, HPF.out, Bool.or_false], H9.out.1⟩, by simp [intOf]; omega⟩
                  | false =>
                    have HP2 := Lib.hid (show foundP A d ys c = (decide (op = [4 * d]) && decide (chainRes cg2 [c] = 0)) by rw [HP.out]; rfl)
                    obtain ⟨_, _, heD, _, _, kD⟩ := SL.elems (H10.out.2.2.1.upd H9.out.1 (by simp))
                    cases heD
                    obtain ⟨_, _, heD2, kD2⟩ := kD (by omega)
                    cases heD2
                    have e8d : w9.cell? ⟨g8, off8 + 4, none⟩ = some (.int .i64 d) := by have := kD2 4 _ (ints_gd (by omega)); rw [HD4.out] at this; exact this
                    clear kD kD2 HP
                    go_wp2_with fail
                    have BB := Blk.new w9 (ints [4 * d]) 3
                    have UB := (Upd.refl [] w9).alloc (.cells (ints [4 * d]).toArray 3)
                    have SB : SL (w9.alloc (.cells (ints [4 * d]).toArray 3)) 1 (.slice (some ⟨w9.heap.size, 0, none⟩) 1 1) [4 * d].length (ints [4 * d]) := SL.of_blk (pad := []) (by simpa using BB) rfl (Nat.le_refl _) (by unfold maxLen; omega)
                    refine (SameInts_calls (H9.out.2.1.upd UB (by simp)) SB).mono ?_
                    rintro e wB ⟨rfl, uB⟩
                    have e1'' := (UB.step uB).some e1' (by simp)
                    have HB := Lib.hid (And.intro (H9.out.1.step (UB.step uB)) (H9.out.2.2.upd (UB.step uB) (by simp)))
                    clear BB UB SB uB H9 e8d e1'
                    generalize decide (op = [4 * d]) = eb at *
                    cases eb with
                    | false =>
                      have HPF := Lib.hid (show foundP A d ys c = false by rw [HP2.out]; rfl)
                      go_wp2_with fail
                      exact ⟨⟨jj + 1, by go_num, by omega, by rw [HTS.out, HPF.out, Bool.or_false], HB.out.1⟩, by simp [intOf]; omega⟩
                    | true =>
                      have HP3 := Lib.hid (show foundP A d ys c = decide (chainRes cg2 [c] = 0) by rw [HP2.out]; rfl)
                      clear HP2
                      go_wp2_with fail
                      have BC := Blk.new wB [.slice ac c.length capc] 22
                      have UC := (Upd.refl [] wB).alloc (.cells #[.slice ac c.length capc] 22)
                      have CC : CL (wB.alloc (.cells #[.slice ac c.length capc] 22)) (.slice (some ⟨wB.heap.size, 0, none⟩) 1 1) [c] := CL.of_blk (cs := [c]) BC rfl (by simp) (fun i x hx => by
                        cases i with
                        | zero => simp at hx; subst hx; exact ⟨_, rfl, HB.out.2.upd UC (by simp)⟩
                        | succ i => simp at hx)
                      refine (Chain_calls ((H10.out.2.2.2.upd HB.out.1 (by simp)).upd UC (by simp)) CC (by simp)).mono ?_
                      rintro e wD ⟨rfl, uD⟩
                      have HD2 := Lib.hid (HB.out.1.step (UC.step uD))
                      clear BC UC CC uD HB e1''
                      generalize chainRes cg2 [c] = er at *
                      by_cases her : er = 0
                      · have hbe : (er == 0) = true := by simpa using her
                        have HPF := Lib.hid (show foundP A d ys c = true by rw [HP3.out, decide_eq_true her])
                        clear her HP3
                        go_wp2_with fail
                        exact ⟨⟨jj + 1, by go_num, by omega, by rw [HTS.out, HPF.out, Bool.or_true], HD2.out⟩, by simp [intOf]; omega⟩
                      · have hbe : (er == 0) = false := by simpa using her
                        have HPF := Lib.hid (show foundP A d ys c = false by rw [HP3.out, decide_eq_false her])
                        clear her HP3
                        go_wp2_with fail
                        exact ⟨⟨jj + 1, by go_num, by omega, by rw [HTS.out, HPF.out, Bool.or_false], HD2.out⟩, by simp [intOf]; omega⟩
                · rw [List.take_of_length_le (by omega), HFL2.out]
                  have HF := Lib.hid (H10.out.1.step hu2)
                  clear hu2
                  go_wp2_with fail
                  exact ⟨⟨m + 1, by go_num, by omega, HF.out⟩, by simp [intOf]; omega⟩
    · go_wp2_with fail
      refine (lives_calls).mono ?_
      rintro e w6 ⟨rfl, u6⟩
      go_wp2_with fail
      go_ret
      exact ⟨rfl, (H5.out.2.2.1.step hu).step u6⟩
end
end Gate
end Go.Proofs.Ytobclpfpkpkocaa
