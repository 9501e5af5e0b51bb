/- Walks through the reference of gates: Run. Conditions: none. -/
import Derived.Test.YtobclpfpkpkocaaGateW
import Derived.Test.YtobclpfpkpkocaaGateS
import Derived.Test.YtobclpfpkpkocaaGateX
import Derived.Test.YtobclpfpkpkocaaGateY
set_option linter.unusedVariables false
set_option linter.unusedSimpArgs false
set_option linter.unusedSectionVars false
open Go.RowKit
namespace Go.Proofs.Ytobclpfpkpkocaa
open L
namespace Gate
open Cla R14 R01
theorem bi_half {y : Int} (h : y = 1 ∨ y = -1) : (1 + y) / 2 = bi (y == 1) := by rcases h with rfl | rfl <;> rfl
theorem runVal_bi (k : Int) (xs A : List Int) : runVal k xs A = 2 * bi (gVal k (xs.map (isT A))) - 1 := by unfold runVal bi; split <;> rfl
theorem opn_iff {A : List Int} {x : Int} (h0 : x ≠ 0) : opn A x = (lval A x == 0) := by
  unfold opn lval
  generalize A.getD x.natAbs 0 = y
  by_cases h : x < 0
  · rw [if_pos h, Bool.eq_iff_iff]; simp
  · rw [if_neg h]
section
variable {w : World}
set_option maxRecDepth 100000 in
set_option maxHeartbeats 8000000 in
theorem RunR_calls {lv av : Value} {gs : List G} {A : List Int} (h : GL w lv gs) (hA : SL w 1 av A.length (ints A)) (hAi : ∀ x ∈ A, IsI64 x) (hl : A.length ≤ 1000000) (hg : gs.length ≤ 1000) : Calls Try.prog 24 #[lv, av] w (RunAT (runAll gs A) w) := by
  obtain ⟨a, cap, rfl, q1, r1, hc⟩ := h
  have HH := Lib.hid (And.intro hc (And.intro hA hAi))
  obtain ⟨aa, capa, rfl, _, _, _⟩ := SL.elems hA
  clear hc hA hAi
  go_enter Try.func24, Try.ntmps24
  go_wp2_with fail
  go_loopw [6] (fun i wr => ∃ j : Nat, i = .int .i64 j ∧ j ≤ gs.length ∧ (∀ g ∈ gs.take j, badG g = false) ∧ Upd [] w wr) (fun i _ => gs.length - (intOf i).toNat)
  case atStart => exact ⟨0, rfl, Nat.zero_le _, by simp, Upd.refl _ _⟩
  case round =>
    obtain ⟨wo, rfl⟩ : ∃ wo : World, wo = wr := ⟨_, rfl⟩
    obtain ⟨j, rfl, hj, hlo, hu⟩ := hrel
    by_cases hlt : j < gs.length
    · obtain ⟨g, off, ax, cx, rfl, c0, c1, c2, hs, hi⟩ := (HH.out.1 j hlt).upd hu
      have hm := gd_memA (d := ((0, 0, []) : G)) hlt
      have hts : gs.take (j + 1) = gs.take j ++ [gs.getD j (0, 0, [])] := by rw [List.take_add_one, gd_some (d := (0, 0, [])) hlt]; rfl
      generalize gs.getD j (0, 0, []) = x at *
      obtain ⟨k, o, xs⟩ := x
      simp only at c0 c1 c2 hs hi
      have HL := Lib.hid (And.intro hlo (And.intro hu (And.intro hm hts)))
      have HV := Lib.hid (ValidR_calls (k := k) (o := o) hs hi)
      clear hlo hu hs hi hm hts
      cases hg' : gOk k o xs with
      | true =>
        rw [gErr_good hg'] at HV
        have HG := Lib.hid (show badG (k, o, xs) = false by unfold badG; simp [hg'])
        clear hg'
        go_wp2_with fail
        refine HV.out.mono ?_
        rintro e w2 ⟨rfl, u2⟩
        have HU2 := Lib.hid u2
        clear u2 c0 c1 c2
        go_wp2_with fail
        refine ⟨⟨j + 1, by go_num, by omega, fun y hy => ?_, HL.out.2.1.step HU2.out⟩, by simp [intOf]; omega⟩
        rw [HL.out.2.2.2] at hy
        rcases List.mem_append.1 hy with hy | hy
        · exact HL.out.1 y hy
        · simp at hy; subst hy; exact HG.out
      | false =>
        rw [gErr_bad hg'] at HV
        have HE := Lib.hid (show runAll gs A = ([], 1) by unfold runAll; rw [if_pos (List.any_eq_true.2 ⟨(k, o, xs), HL.out.2.2.1, by unfold badG; simp [hg']⟩)])
        clear hg'
        go_wp2_with fail
        refine HV.out.mono ?_
        rintro e w2 ⟨rfl, u2⟩
        have HU2 := Lib.hid u2
        clear u2 c0 c1 c2
        go_wp2_with fail
        go_ret2
        rw [HE.out]
        exact ⟨fun _ => ⟨rfl, HL.out.2.1.step HU2.out⟩, fun h => by simp at h⟩
    · have hall := hlo
      rw [List.take_of_length_le (by omega)] at hall
      have HR := Lib.hid (show runAll gs A = runL gs A by
        unfold runAll
        rw [if_neg]
        rw [Bool.not_eq_true, List.any_eq_false]
        intro g hgm
        rw [hall g hgm]; simp)
      have HALL := Lib.hid hall
      have HU := Lib.hid (And.intro hu (HH.out.2.1.upd hu (by simp)))
      clear hall hlo hu
      go_upto_region 6 with fail
      refine wp_region_lit ?_
      refine wpList_cutH 2 (fun K hK => ?_)
      simp only [List.take_succ_cons, List.take_zero]
      go_wp2_with fail
      refine Halt_.intro ?_; try simp only [List.drop_succ_cons, List.drop_zero]
      have g0 := owns_none (w := wo) rfl 3
      have u0 := (Upd.refl [] wo).alloc (.cells #[] 3)
      have S0 := HU.out.2.upd u0 (by simp)
      have hs3 : wo.heap.size < (wo.alloc (.cells #[] 3)).heap.size := by simp
      generalize wo.alloc (.cells #[] 3) = w3 at *
      refine wpList_appS rfl _ _ _ rfl 3 1 8 _ Try.underlying22 infoInt rfl (by decide) (.slice (some ⟨wo.heap.size, 0, none⟩) 0 0) 0 [] rfl (owns_blk g0 rfl (by unfold maxLen; omega)) (.slice aa A.length capa) A.length (ints A) rfl S0 (ints_one _) (by unfold maxLen; omega) (by omega) ?_
      intro a4 cap4 w4 o4 u4 k4
      simp only [Act.put, List.setIfInBounds_toArray, List.set_cons_zero, List.set_cons_succ]
      rw [List.nil_append] at o4
      simp only [Nat.zero_add] at o4 u4 k4 ⊢
      have N4 : Own wo (.slice a4 A.length cap4) A w4 := ⟨o4, fun g hg => by rcases k4 with h | h <;> rw [hg] at h <;> simp [Value.ownBlock] at h <;> omega, u0.fresh u4 (fun j hj => .inr (by simp [Value.ownBlock] at hj; omega))⟩
      have H3 := Lib.hid N4
      clear o4 u4 k4 g0 u0 S0 hs3 N4
      go_wp2_with fail
      go_loopw [8] (fun i wr => ∃ (j : Nat) (B : List Int), i = .int .i64 j ∧ j ≤ gs.length ∧ B.length = A.length ∧ (∀ x ∈ B, IsI64 x) ∧ runL gs A = runL (gs.drop j) B ∧ Own wo (.slice a4 A.length cap4) B wr) (fun i _ => gs.length - (intOf i).toNat)
      case atStart => exact ⟨0, A, rfl, Nat.zero_le _, rfl, HH.out.2.2, rfl, H3.out⟩
      case round =>
        obtain ⟨wi, rfl⟩ : ∃ wo : World, wo = wr := ⟨_, rfl⟩
        obtain ⟨j2, B, rfl, hj2, hBl, hBi, hrun, hO⟩ := hrel
        by_cases hlt2 : j2 < gs.length
        · obtain ⟨g, off, ax, cx, rfl, c0, c1, c2, hs, hi⟩ := ((HH.out.1 j2 hlt2).upd HU.out.1).upd hO.u
          have hbg := HALL.out _ (gd_memA (d := ((0, 0, []) : G)) hlt2)
          rw [gd_cons (d := ((0, 0, []) : G)) hlt2] at hrun
          generalize gs.getD j2 (0, 0, []) = x at *
          obtain ⟨k, o, xs⟩ := x
          simp only at c0 c1 c2 hs hi
          have hok : gOk k o xs = true := by unfold badG at hbg; simpa using hbg
          obtain ⟨⟨hk0, hk6⟩, ⟨ho1, ho2⟩, hxl, hxx⟩ := gOk_iff.1 hok
          obtain ⟨oN, rfl⟩ := Int.eq_ofNat_of_zero_le (show 0 ≤ o by omega)
          have hx3 : xs.length ≤ 3 := by have := ninp_le k; omega
          have hle : listErr xs = 0 := listErr_lits (by omega) (fun x hx => (hxx x hx).1)
          have HL := Lib.hid (And.intro hrun (And.intro hO (And.intro hBl (And.intro hBi (And.intro hs (And.intro hxl hxx))))))
          have HLE := Lib.hid hle
          clear hrun hO hBi hs hi hok hbg hxl hle
          go_upto_region 11 with fail
          have U1 := (Upd.refl [] wi).alloc (.cells #[.int .i64 k, .int .i64 oN, .slice ax xs.length cx] 24)
          have NB := Blk.new wi [.int .i64 k, .int .i64 oN, .slice ax xs.length cx] 24
          generalize wi.alloc (.cells #[.int .i64 k, .int .i64 oN, .slice ax xs.length cx] 24) = w5 at *
          generalize wi.heap.size = b at *
          have d0 := NB.cell (i := 0) rfl
          have d1 := NB.cell (i := 1) rfl
          have d2 := NB.cell (i := 2) rfl
          have SB5 : SL w5 1 (.slice a4 A.length cap4) B.length (ints B) := by rw [hBl]; exact (HL.out.2.1.quiet U1).sl |> fun h => by rw [hBl] at h; exact h
          have HST := Lib.hid (RState_calls (HL.out.2.2.2.2.1.upd U1 (by simp)) SB5 HL.out.2.2.2.1)
          have H5 := Lib.hid (And.intro NB (And.intro U1 SB5))
          clear U1 NB c0 c1 c2 SB5
          have HS := Lib.hid (show runL gs A = if runErr oN xs B ≠ 0 then ([], runErr oN xs B) else runL (gs.drop (j2 + 1)) (runSet k oN xs B) from HL.out.1)
          have HBAD := Lib.hid (fun (er : Int) (h : runErr oN xs B = er) (h0 : er ≠ 0) => show runAll gs A = ([], er) by rw [HR.out, HS.out, h, if_pos h0])
          by_cases hb : xs.any (badV B) = true
          · have hst : stateRes xs B = (false, [], 5) := by unfold stateRes; rw [if_neg (by rw [HLE.out]; simp), if_pos hb]
            obtain ⟨x, hxm, hxb⟩ := List.any_eq_true.1 hb
            have HE := Lib.hid (HBAD.out 5 (runErr_bad hxm hxb) (by decide))
            rw [hst] at HST
            clear hb hst hxm hxb
            go_wp2_with fail
            refine HST.out.mono ?_
            rintro e w6 ⟨v6, rfl, o6⟩
            obtain ⟨a6, c6, rfl, _, _⟩ := o6.form
            have HU6 := Lib.hid (H5.out.2.1.step o6.u)
            have HOU := Lib.hid HL.out.2.1.u
            clear o6 HST
            go_wp2_with fail
            go_ret2
            rw [HE.out]
            exact ⟨fun _ => ⟨rfl, (HU.out.1.step HOU.out).step HU6.out⟩, fun h => by simp at h⟩
          have hnb : ∀ x ∈ xs, badV B x = false := by
            rw [Bool.not_eq_true, List.any_eq_false] at hb
            exact fun x hx => by simpa using hb x hx
          have hst := state_ok HLE.out hnb
          rw [hst] at HST
          have HNB := Lib.hid hnb
          clear hb hst hnb
          have hol : xs.filter (fun x => lval B x == 0) = xs.filter (opn B) := List.filter_congr fun x hx => (opn_iff (HL.out.2.2.2.2.2.2 x hx).1.1).symm
          rw [hol] at HST
          clear hol
          generalize xs.any (fun x => lval B x == 1) = tb at *
          by_cases hlo : (A.length : Int) ≤ oN
          · have HE := Lib.hid (HBAD.out 5 (runErr_long (by omega)) (by decide))
            go_wp2_with fail
            refine HST.out.mono ?_
            rintro e w6 ⟨v6, rfl, o6⟩
            simp only at o6 ⊢
            obtain ⟨a6, c6, rfl, _, _⟩ := o6.form
            have HU6 := Lib.hid (H5.out.2.1.step o6.u)
            have HOU := Lib.hid HL.out.2.1.u
            have d1' := o6.u.some d1 (by simp)
            clear o6 HST
            go_wp2_with fail
            go_ret2
            rw [HE.out]
            exact ⟨fun _ => ⟨rfl, (HU.out.1.step HOU.out).step HU6.out⟩, fun h => by simp at h⟩
          have hlo' : ¬ (B.length : Int) ≤ oN := by omega
          have hloN : ¬ A.length ≤ oN := by omega
          by_cases hop : xs.any (opn B) = true
          · obtain ⟨x, hxm, hxo⟩ := List.any_eq_true.1 hop
            have HE := Lib.hid (HBAD.out 11 (runErr_opn hlo' HNB.out hxm hxo) (by decide))
            have hpos : 0 < (xs.filter (opn B)).length := List.length_pos_of_mem (List.mem_filter.2 ⟨hxm, hxo⟩)
            clear hop hxm hxo
            generalize xs.filter (opn B) = op at *
            have hpos' : (0 : Int) < op.length := by omega
            go_wp2_with fail
            refine HST.out.mono ?_
            rintro e w6 ⟨v6, rfl, o6⟩
            simp only at o6 ⊢
            obtain ⟨a6, c6, rfl, _, _⟩ := o6.form
            have HU6 := Lib.hid (H5.out.2.1.step o6.u)
            have HOU := Lib.hid HL.out.2.1.u
            have d1' := o6.u.some d1 (by simp)
            clear o6 HST
            go_wp2_with fail
            go_ret2
            rw [HE.out]
            exact ⟨fun _ => ⟨rfl, (HU.out.1.step HOU.out).step HU6.out⟩, fun h => by simp at h⟩
          have hno : ∀ x ∈ xs, opn B x = false := by
            rw [Bool.not_eq_true, List.any_eq_false] at hop
            exact fun x hx => by simpa using hop x hx
          have hnil : xs.filter (opn B) = [] := by
            rw [List.filter_eq_nil_iff]
            intro x hx
            rw [hno x hx]; simp
          rw [hnil] at HST
          have HNO := Lib.hid hno
          have HE := Lib.hid (runErr_ok hlo' HNB.out hno)
          clear hop hno hnil HBAD
          go_wp2_with fail
          refine HST.out.mono ?_
          rintro e w6 ⟨v6, rfl, o6⟩
          simp only at o6 ⊢
          obtain ⟨a6, c6, rfl, _, _⟩ := o6.form
          rw [show ([] : List Int).length = 0 from rfl]
          have H6 := Lib.hid (And.intro (H5.out.1.upd o6.u (by simp)) (And.intro (HL.out.2.1.quiet (H5.out.2.1.step o6.u)) (HL.out.2.2.2.2.1.upd (H5.out.2.1.step o6.u) (by simp))))
          replace d1 := o6.u.some d1 (by simp)
          replace d2 := o6.u.some d2 (by simp)
          replace d0 := o6.u.some d0 (by simp)
          clear o6 HST
          go_wp2_with fail
          go_loopw [13, 14] (fun o' i wr => ∃ m : Nat, i = .int .i64 m ∧ m ≤ xs.length ∧ Own w6 o' (bis ((xs.map (isT B)).take m)) wr) (fun _ i _ => xs.length - (intOf i).toNat)
          case atStart => exact ⟨0, rfl, Nat.zero_le _, Own.nil w6⟩
          case round =>
            obtain ⟨wj, rfl⟩ : ∃ wo : World, wo = wr := ⟨_, rfl⟩
            obtain ⟨m, rfl, hm, hOI⟩ := hrel
            have hbl : (bis ((xs.map (isT B)).take m)).length = m := by unfold bis; rw [List.length_map, List.length_take, List.length_map]; omega
            have HOI := Lib.hid (And.intro hOI hbl)
            have hml : (bis ((xs.map (isT B)).take m)).length ≤ 3 := by omega
            obtain ⟨ai, ci, rfl, _, _⟩ := hOI.form
            have f2 := hOI.u.some d2 (by simp)
            clear hOI hbl
            by_cases hlm : m < xs.length
            · obtain ⟨_, _, he, _, _, kx⟩ := SL.elems (H6.out.2.2.upd HOI.out.1.u (by simp))
              cases he
              obtain ⟨gx, offx, rfl, kx2⟩ := kx (by omega)
              have ex := kx2 m _ (ints_gd hlm)
              have hmx := gd_mem hlm
              obtain ⟨⟨hx0, hx1, hx2⟩, _⟩ := HL.out.2.2.2.2.2.2 _ hmx
              have hnb := HNB.out _ hmx
              have hno := HNO.out _ hmx
              have hts : bis ((xs.map (isT B)).take (m + 1)) = bis ((xs.map (isT B)).take m) ++ [bi (isT B (xs.getD m 0))] := by
                rw [List.take_add_one, List.getElem?_map, gd_some (d := 0) hlm]; simp [bis]
              obtain ⟨hb1, hb2, hb3⟩ := badV_no hnb
              have SB := (H6.out.2.1.quiet HOI.out.1.u).sl
              clear kx kx2 hmx
              generalize xs.getD m 0 = x at *
              have hlv : lval B x = 1 ∨ lval B x = -1 := by
                rw [opn_iff hx0] at hno
                have : lval B x ≠ 0 := by simpa using hno
                unfold lval at this ⊢
                split at this <;> split <;> omega
              have hVC := Cla.Value_calls SB x (by omega) hb1 (by omega)
              have hbt : isT B x = (lval B x == 1) := rfl
              rw [hbt, ← bi_half hlv] at hts
              have HTS := Lib.hid hts
              have HVC := Lib.hid (show Calls Try.prog 48 #[.int .i64 x, .slice a4 A.length cap4] wj (fun e w' => e = .returned (.int .i64 (lval B x)) ∧ wj = w') from hVC)
              clear hts hVC hbt SB hnb hno
              generalize lval B x = y at *
              have hq0 : 0 ≤ 1 + y := by omega
              have hq1 : 1 + y ≤ 2 := by omega
              clear hlv
              go_wp2_with (first | (go_at_call 48; refine HVC.out.mono ?_; rintro e _ ⟨rfl, rfl⟩) | (refine wpList_push rfl rfl _ _ _ _ rfl rfl rfl 3 1 8 _ Try.underlying22 infoInt rfl (by decide) (by decide) (.int .i64 _) [.int .i64 _] rfl rfl rfl (ints_one [_]) _ _ _ HOI.out.1.row rfl rfl (by unfold maxLen; omega) (by omega) ?_; intro g7 cap7 w7 o7 u7 k7))
              have N7 := HOI.out.1.push o7 u7 k7
              exact ⟨⟨m + 1, by go_num, by omega, by rw [HTS.out]; exact N7⟩, by simp [intOf]; omega⟩
            · have hme : m = xs.length := by omega
              subst hme
              have hfull : (xs.map (isT B)).take xs.length = xs.map (isT B) := List.take_of_length_le (by rw [List.length_map]; omega)
              have hbl : (bis (xs.map (isT B))).length = (xs.map (isT B)).length := by simp [bis]
              rw [hfull] at HOI hml ⊢
              have SI : SL wj 1 (.slice ai (bis (xs.map (isT B))).length ci) (xs.map (isT B)).length (ints (bis (xs.map (isT B)))) := by
                have := HOI.out.1.sl
                rw [hbl] at this ⊢
                exact this
              have HB6 := H6.out.1.upd HOI.out.1.u (by simp)
              replace d0 := HB6.cell (i := 0) rfl
              replace d1 := HB6.cell (i := 1) rfl
              have OB := H6.out.2.1.quiet HOI.out.1.u
              have HK := Lib.hid (And.intro HB6 (And.intro OB SI))
              have OB2 : Own wo (.slice a4 B.length cap4) B wj := by rw [HL.out.2.2.1]; exact OB
              obtain ⟨ga, rest, rfl, BA, hq1, hq2, hq3, hga⟩ := own_blk OB2 (by omega)
              have hoA : oN < B.length := by omega
              have eo := BA.cell (i := oN) (by rw [List.getElem?_append_left (by rw [ints_length]; exact hoA)]; exact ints_gd hoA)
              have fo := BA.free oN
              have lo := BA.lt
              have HRV := Lib.hid (fun (w : World) (h : SL w 1 (.slice ai (bis (xs.map (isT B))).length ci) (xs.map (isT B)).length (ints (bis (xs.map (isT B))))) => RVal_calls (k := k) h hk0 hk6 (by rw [List.length_map]; exact HL.out.2.2.2.2.2.1))
              have HBA := Lib.hid (And.intro BA (And.intro hga OB2.u))
              clear hfull hbl SI HB6 OB OB2 BA d2
              generalize B.getD oN 0 = yo at *
              have hsv := Lib.hid (show runSet k oN xs B = B.set oN (2 * bi (gVal k (xs.map (isT B))) - 1) by unfold runSet; rw [runVal_bi, Int.toNat_natCast])
              have hb01 := bi_01 (gVal k (xs.map (isT B)))
              generalize bi (gVal k (xs.map (isT B))) = yb at *
              have hyb0 : 0 ≤ yb := by omega
              have hyb1 : yb ≤ 1 := by omega
              clear hb01
              go_upto_region 21 with fail
              refine wp_region_ord 10 1 [0, 1, 2, 3, 4, 5, 7, 8, 9] [2, 4] [0, 1, 2, 3, 4, 5, 6, 7, 8, 9, 10] (fun w' => ∃ x : Ext wj, w' = x.val) (by kernel_rfl) (by kernel_rfl) (Ext.of (by iterate 25 (first | exact Upd.refl _ _ | assumption | refine Upd.alloc ?_ _ | refine Upd.drew ?_ | refine Upd.drewN ?_ _ | refine Upd.dl ?_ | refine Upd.step ?_ (Ext.upd _) | refine Upd.nil ?_ | skip))) ?_
              repeat (first | (refine wpOrd_load rfl rfl rfl rfl (fun K hK => ?_); go_big_quiet_step (fail); refine wpQuiet_nil ?_; refine hK _ ?_; clear hK K) | (refine wpOrd_free rfl rfl rfl (fun K hK => ?_); go_big_quiet_step (fail); refine wpQuiet_nil ?_; refine hK _ ?_; clear hK K))
              refine wpOrd_fix rfl rfl (fun K hK => ?_)
              go_wp2_with (go_at_call 19; refine (HRV.out _ (HK.out.2.2.upd (S := []) (by iterate 25 (first | exact Upd.refl _ _ | assumption | refine Upd.alloc ?_ _ | refine Upd.drew ?_ | refine Upd.drewN ?_ _ | refine Upd.dl ?_ | refine Upd.step ?_ (Ext.upd _) | refine Upd.nil ?_ | skip)) (by simp))).mono ?_; rintro e w8 ⟨rfl, u8⟩)
              have H8 := Lib.hid (show Upd [] wj w8 from Upd.step (by iterate 25 (first | exact Upd.refl _ _ | assumption | refine Upd.alloc ?_ _ | refine Upd.drew ?_ | refine Upd.drewN ?_ _ | refine Upd.dl ?_ | refine Upd.step ?_ (Ext.upd _) | refine Upd.nil ?_ | skip)) u8)
              clear u8
              have eo8 := H8.out.some eo (by simp)
              have fo8 := (HBA.out.1.upd H8.out (by simp)).free oN
              have lo8 := (HBA.out.1.upd H8.out (by simp)).lt
              refine ⟨fun _ => Ext.of H8.out, ?_⟩
              repeat (first | (refine wpOrd_load rfl rfl rfl rfl (fun K hK => ?_); go_big_quiet_step (fail); refine wpQuiet_nil ?_; refine hK _ ?_; clear hK K) | (refine wpOrd_free rfl rfl rfl (fun K hK => ?_); go_big_quiet_step (fail); refine wpQuiet_nil ?_; refine hK _ ?_; clear hK K))
              refine wpOrd_fix rfl rfl (fun K hK => ?_)
              go_wp2_with fail
              have BS := (HBA.out.1.upd H8.out (by simp)).set oN (.int .i64 (2 * yb - 1))
              rw [List.set_append_left _ _ (by rw [ints_length]; exact hoA), show (ints B).set oN (.int .i64 (2 * yb - 1)) = ints (B.set oN (2 * yb - 1)) by simp [ints, List.map_set]] at BS
              have O9 := own_of_blk (w0 := wo) BS (by rw [List.length_set]; exact hq1) hq2 (by rw [List.length_set]; exact hq3) hga ((HBA.out.2.2.step H8.out).set (.inr hga) _)
              rw [List.length_set, HL.out.2.2.1] at O9
              have H9 := Lib.hid O9
              clear BS O9 eo8 fo8 lo8 eo fo lo
              refine ⟨fun hC => absurd hC (by decide), ?_⟩
              repeat (first | (refine wpOrd_load rfl rfl rfl rfl (fun K hK => ?_); go_big_quiet_step (fail); refine wpQuiet_nil ?_; refine hK _ ?_; clear hK K) | (refine wpOrd_free rfl rfl rfl (fun K hK => ?_); go_big_quiet_step (fail); refine wpQuiet_nil ?_; refine hK _ ?_; clear hK K))
              refine wpOrd_nil ?_
              go_wp2_with fail
              refine ⟨⟨j2 + 1, runSet k oN xs B, by go_num, by omega, by unfold runSet; rw [List.length_set]; exact HL.out.2.2.1, runSet_i64 HL.out.2.2.2.1, by rw [HS.out, HE.out]; simp, by rw [hsv.out]; exact H9.out⟩, by simp [intOf]; omega⟩
        · have HE := Lib.hid (show runAll gs A = (B, 0) by rw [HR.out, hrun, List.drop_eq_nil_of_le (by omega)]; rfl)
          have HB := Lib.hid (And.intro hO hBl)
          clear hO hrun hBi hBl
          go_wp2_with fail
          go_ret2
          rw [HE.out]
          have hr := HB.out.1.row
          rw [HB.out.2] at hr
          refine ⟨fun h => absurd rfl h, fun _ => ⟨a4, cap4, ?_, ?_⟩⟩
          · show _ = Ending.returned (.tuple #[.slice a4 B.length cap4, .int .i64 0])
            rw [HB.out.2]; rfl
          · show Own w (.slice a4 B.length cap4) B wi
            refine ⟨?_, fun g hg => ?_, HU.out.1.step HB.out.1.u⟩
            · rw [HB.out.2]; exact hr
            · have := HB.out.1.fresh g (by cases a4 <;> exact hg)
              have := HU.out.1.size
              omega
end
end Gate
end Go.Proofs.Ytobclpfpkpkocaa
