/- Walks through the laws of clauses: ClauseState. Conditions: none. -/
import Derived.Test.YtgdpbhbdeaifbaaLives14
import Derived.Test.YtgdpbhbdeaifbaaRef14c
set_option linter.unusedVariables false
set_option linter.unusedSimpArgs false
set_option linter.unusedSectionVars false
open Go.RowKit
namespace Go.Proofs.Ytgdpbhbdeaifbaa
open L
namespace Law
open R01 R14 Cla
theorem pick_lo {xs : List Int} {i m : Int} (h : 0 < m) : 0 ≤ pick xs i m := by
  unfold pick
  split
  · omega
  · exact around_lo h
theorem pick_hi {xs : List Int} {i m : Int} (h : 0 < m) : pick xs i m < m := by
  unfold pick
  split
  · omega
  · exact around_hi h
/-- A row of one's own as a block. -/
theorem Own.blk {w0 w : World} {g cap : Nat} {xs : List Int} (h : Own w0 (.slice (some ⟨g, 0, none⟩) xs.length cap) xs w) : ∃ pad, Blk w g (ints xs ++ pad) 3 ∧ xs.length ≤ cap ∧ cap ≤ maxLen := by
  obtain ⟨hl, hrow⟩ := h.row
  rcases hrow with ⟨hr, _⟩ | ⟨g', cap', cur, he, _, hcur, hnc, hcm, hcs, htake⟩
  · cases hr
  cases he
  refine ⟨cur.toList.drop xs.length, ?_, hnc, hcm⟩
  unfold Blk
  rw [hcur]
  congr 2
  apply Array.toList_inj.1
  simp only [List.toList_toArray]
  rw [← htake]
  conv => lhs; rw [← List.take_append_drop xs.length cur.toList]
  rw [Nat.mul_one]
attribute [-go_sem] sliced
section
variable {w : World}
set_option maxRecDepth 100000 in
set_option maxHeartbeats 8000000 in
theorem ClauseState_calls {lv av : Value} {xs ys : List Int} (hx : ∀ x ∈ xs, IsI64 x) (hl : SL w 1 lv xs.length (ints xs)) (hax : ∀ x ∈ ys, IsI64 x) (hal : SL w 1 av ys.length (ints ys)) (n by' : Int) (hn : IsI64 n) (hby : IsI64 by') :
    Calls Try.prog 7 #[lv, .int .i64 n, av, .int .i64 by'] w fun e w' => e = .returned (.bool true) ∧ Upd [] w w' := by
  have HX := Lib.hid (And.intro hx (And.intro hl (And.intro hax hal)))
  obtain ⟨aas, caps, rfl, _, _, _⟩ := SL.elems hal
  clear hx hl hax hal
  go_enter Try.func7, Try.ntmps7
  go_wp2_with fail
  refine (Lists_calls HX.out.1 HX.out.2.1 n hn).mono ?_
  rintro e w1 ⟨v1, Ls, rfl, hcl, hln, hel, hu1⟩
  obtain ⟨a, cap, rfl, hc1, hc2, hcc⟩ := hcl.form
  have HL := Lib.hid (And.intro hcc (And.intro hu1 (HX.out.2.2.2.upd hu1 (by simp))))
  have hLn : Ls.length ≤ 9 := by omega
  clear hcl hln hel hu1 hcc
  go_wp2_with fail
  go_loopw [10, 11] (fun o i wr => ∃ (k : Nat) (vs : List Int), k ≤ 7 ∧ i = .int .i64 k ∧ vs.length = k ∧ Own w1 o vs wr ∧ ∀ x ∈ vs, -1 ≤ x ∧ x ≤ 1) (fun _ i _ => 7 - (intOf i).toNat)
  case atStart => exact ⟨0, [], by omega, rfl, rfl, Own.nil w1, by simp⟩
  case round =>
    obtain ⟨k, vs, hk, rfl, hvl, ho, hv⟩ := hrel
    have HV := Lib.hid (And.intro ho (And.intro hv hvl))
    have hvl2 : vs.length ≤ 7 := by omega
    by_cases hlt : k < 7
    · clear ho hv hvl
      have hp0 := pick_lo (xs := ys) (i := (k : Int)) (m := 3) (by omega)
      have hp1 := pick_hi (xs := ys) (i := (k : Int)) (m := 3) (by omega)
      have HP := Lib.hid (Pick_calls HX.out.2.2.1 (HL.out.2.2.upd HV.out.1.u (by simp)) k 3 (by omega) (by omega))
      generalize pick ys k 3 = y at *
      go_wp2_with (first | (go_at_call 27; refine HP.out.mono ?_; rintro e w' ⟨rfl, rfl⟩) | (refine wpList_push rfl rfl _ _ _ _ rfl rfl rfl 3 1 8 _ Try.underlying22 infoInt rfl (by decide) (by decide) (.int .i64 (y - 1)) [.int .i64 (y - 1)] rfl rfl rfl (ints_one [y - 1]) _ _ _ HV.out.1.row rfl rfl (by unfold maxLen; omega) (by omega) ?_; intro g4 cap4 w4 o4 u4 k4))
      have N4 := HV.out.1.push o4 u4 k4
      refine ⟨⟨k + 1, vs ++ [y - 1], by omega, by go_num, by have := HV.out.2.2; simp; omega, by simpa using N4, fun z hz => ?_⟩, by simp [intOf]; omega⟩
      rcases List.mem_append.1 hz with hz | hz
      · exact HV.out.2.1 z hz
      · simp at hz; omega
    · have hk7 : 7 ≤ vs.length := by omega
      obtain ⟨ar, cr, rfl, hcr, _⟩ := ho.form
      clear ho hv hvl
      go_upto_region 7 with fail
      refine wp_region_lit ?_
      refine wpList_cutH 2 (fun K hK => ?_)
      simp only [List.take_succ_cons, List.take_zero]
      go_wp2_with fail
      refine Halt_.intro ?_; try simp only [List.drop_succ_cons, List.drop_zero]
      have g0 := owns_none (w := wr) rfl 3
      have u0 := (Upd.refl [] wr).alloc (.cells #[] 3)
      have S0 := HV.out.1.sl.upd u0 (by simp)
      have hs3 : wr.heap.size < (wr.alloc (.cells #[] 3)).heap.size := by simp
      generalize wr.alloc (.cells #[] 3) = w3 at *
      refine wpList_appS rfl _ _ _ rfl 3 1 8 _ Try.underlying22 infoInt rfl (by decide) (.slice (some ⟨wr.heap.size, 0, none⟩) 0 0) 0 [] rfl (owns_blk g0 rfl (by unfold maxLen; omega)) (.slice ar vs.length cr) vs.length (ints vs) rfl S0 (ints_one _) (by unfold maxLen; omega) (by omega) ?_
      intro a4 cap4 w4 o4 u4 k4
      simp only [Act.put, List.setIfInBounds_toArray, List.set_cons_zero, List.set_cons_succ]
      rw [List.nil_append] at o4
      simp only [Nat.zero_add] at o4 u4 k4 ⊢
      have N4 : Own wr (.slice a4 vs.length cap4) vs w4 := ⟨o4, fun g hg => by rcases k4 with h | h <;> rw [hg] at h <;> simp [Value.ownBlock] at h <;> omega, u0.fresh u4 (fun j hj => .inr (by simp [Value.ownBlock] at hj; omega))⟩
      obtain ⟨gb, cb, he, _, _⟩ := owns_form N4.row (by omega)
      cases he
      obtain ⟨pad, BB, hcb1, hcb2⟩ := Own.blk N4
      have ha0 := around_lo (n := n) (k := 6) (by omega)
      have ha1 := around_hi (n := n) (k := 6) (by omega)
      obtain ⟨ix, hix⟩ := Int.eq_ofNat_of_zero_le ha0
      have hix6 : ix < 6 := by omega
      have hAR := Around_calls n 6 w4 hn (by omega) (by omega)
      rw [hix] at hAR
      have i1 : (1 + (ix : Int)).toNat = ix + 1 := by omega
      have cb0 := BB.cell (i := ix + 1) (by rw [List.getElem?_append_left (by rw [ints_length]; omega)]; exact ints_gd (by omega))
      have fb0 := BB.free (ix + 1)
      have lb0 := BB.lt
      have hfr := N4.fresh gb rfl
      have H4 := Lib.hid (And.intro N4 (And.intro BB (And.intro hAR (HV.out.1.quiet N4.u))))
      generalize vs.getD (ix + 1) 0 = yold at *
      clear N4 BB hAR o4 u4 k4 g0 u0 S0 hs3 ha0 ha1 hix
      go_upto_region 9 with (go_at_call 13; refine H4.out.2.2.1.mono ?_; rintro e w' ⟨rfl, rfl⟩)
      have US : Upd [gb] w4 (w4.setCell ⟨gb, ix + 1, none⟩ (.int .i64 by')) := (Upd.refl [gb] w4).set (by simp) _
      have UR : Upd [] wr (w4.setCell ⟨gb, ix + 1, none⟩ (.int .i64 by')) := H4.out.1.u.fresh US (fun j hj => by simp at hj; subst hj; exact .inr hfr)
      have BS := H4.out.2.1.set (ix + 1) (.int .i64 by')
      rw [List.set_append_left _ _ (by rw [ints_length]; omega), show (ints vs).set (ix + 1) (.int .i64 by') = ints (vs.set (ix + 1) by') by simp [ints, List.map_set]] at BS
      have hel : (vs.set (ix + 1) by').length = vs.length := List.length_set
      have s1 : SL (w4.setCell ⟨gb, ix + 1, none⟩ (.int .i64 by')) 1 (.slice (some ⟨gb, 0, none⟩) vs.length cap4) (vs.set (ix + 1) by').length (ints (vs.set (ix + 1) by')) := by
        rw [hel]
        exact SL.of_blk BS (by rw [ints_length, hel]; omega) hcb1 hcb2
      have hset : ∀ x ∈ vs.set (ix + 1) by', IsI64 x := fun x hx => by
        rcases List.mem_or_eq_of_mem_set hx with h | rfl
        · have := HV.out.2.1 x h; unfold IsI64; omega
        · exact hby
      have N5 := HV.out.1.quiet UR
      have b0 := around_lo (n := by') (k := 8) (by omega)
      have b1 := around_hi (n := by') (k := 8) (by omega)
      obtain ⟨kx, hkx⟩ := Int.eq_ofNat_of_zero_le b0
      have hk8 : kx ≤ 7 := by omega
      have hkc : kx ≤ cr := by omega
      have hkv : kx ≤ vs.length := by omega
      have s2 := L.SL.upto N5.sl hkv
      obtain ⟨_, asl, csl, hslc, _⟩ := id s2
      rw [hslc] at s2
      have htl : (vs.take kx).length = kx := by rw [List.length_take]; omega
      generalize w4.setCell ⟨gb, ix + 1, none⟩ (.int .i64 by') = ws at *
      generalize hbl : vs.set (ix + 1) by' = bl at *
      have hAR := Around_calls by' 8 ws hby (by omega) (by omega)
      rw [hkx] at hAR
      have HAR := Lib.hid hAR
      have BT := Blk.new ws [.slice ar vs.length cr, .slice (some ⟨gb, 0, none⟩) vs.length cap4, .slice asl kx csl, .slice aas ys.length caps] 22
      have UT := (Upd.refl [] ws).alloc (.cells #[.slice ar vs.length cr, .slice (some ⟨gb, 0, none⟩) vs.length cap4, .slice asl kx csl, .slice aas ys.length caps] 22)
      have hCT : CL (ws.alloc (.cells #[.slice ar vs.length cr, .slice (some ⟨gb, 0, none⟩) vs.length cap4, .slice asl kx csl, .slice aas ys.length caps] 22)) (.slice (some ⟨ws.heap.size, 0, none⟩) 4 4) [vs, bl, vs.take kx, ys] :=
        CL.of_blk (cs := [vs, bl, vs.take kx, ys]) BT rfl (by simp) (fun i d hd => by
          match i with
          | 0 => cases hd; exact ⟨_, rfl, N5.sl.upd UT (by simp)⟩
          | 1 => cases hd; exact ⟨_, rfl, s1.upd UT (by simp)⟩
          | 2 => cases hd; exact ⟨_, rfl, by rw [htl]; exact s2.upd UT (by simp)⟩
          | 3 => cases hd; exact ⟨_, rfl, (HL.out.2.2.upd N5.u (by simp)).upd UT (by simp)⟩
          | (i + 4) => simp at hd)
      have hTI : ∀ t ∈ [vs, bl, vs.take kx, ys], ∀ x ∈ t, IsI64 x := by
        intro t ht x hx
        simp only [List.mem_cons, List.not_mem_nil, or_false] at ht
        rcases ht with rfl | rfl | rfl | rfl
        · have := HV.out.2.1 x hx; unfold IsI64; omega
        · exact hset x hx
        · have := HV.out.2.1 x (List.mem_of_mem_take hx); unfold IsI64; omega
        · exact HX.out.2.2.1 x hx
      obtain ⟨at_, ct, he, _, _, hct⟩ := hCT.form
      cases he
      have HT := Lib.hid (And.intro hct (And.intro hTI (N5.u.step UT)))
      clear H4 US UR BS hel s1 hset N5 b0 b1 hkx s2 htl hAR BT UT hCT hTI hct HV
      have hTl : [vs, bl, vs.take kx, ys].length = 4 := rfl
      generalize [vs, bl, vs.take kx, ys] = Ts at *
      have HTL := Lib.hid hTl
      clear hTl hbl
      go_wp2_with (go_at_call 13; refine HAR.out.mono ?_; rintro e w' ⟨rfl, rfl⟩)
      generalize ws.alloc (.cells #[.slice ar vs.length cr, .slice (some ⟨gb, 0, none⟩) vs.length cap4, .slice asl kx csl, .slice aas ys.length caps] 22) = wt at *
      generalize ws.heap.size = gt at *
      clear HAR
      clear hslc
      have hLT : Ts.length ≤ 4 := by have := HTL.out; omega
      have hLT2 : 4 ≤ Ts.length := by have := HTL.out; omega
      go_loopw [14] (fun i wr => ∃ k : Nat, k ≤ Ls.length ∧ i = .int .i64 k ∧ Upd [] wt wr) (fun i _ => Ls.length - (intOf i).toNat)
      case atStart => exact ⟨0, Nat.zero_le _, rfl, Upd.refl _ _⟩
      case round =>
        obtain ⟨i, hi, rfl, hu⟩ := hrel
        have HU := Lib.hid hu
        clear hu
        by_cases hlti : i < Ls.length
        · obtain ⟨wo, rfl⟩ : ∃ wo : World, wo = wr := ⟨_, rfl⟩
          go_wp2_with fail
          go_loopw [15] (fun k wr => ∃ j : Nat, j ≤ 4 ∧ k = .int .i64 j ∧ Upd [] wt wr) (fun k _ => 4 - (intOf k).toNat)
          case atStart => exact ⟨0, Nat.zero_le _, rfl, HU.out⟩
          case round =>
            clear HU
            obtain ⟨w2, rfl⟩ : ∃ w2 : World, w2 = wr := ⟨_, rfl⟩
            obtain ⟨j, hj, rfl, hu⟩ := hrel
            by_cases hltj : j < 4
            · have hltj2 : j < Ts.length := by omega
              obtain ⟨g, off, ay, capy, rfl, e1, hsl, _, _⟩ := (HL.out.1 i hlti).upd (HT.out.2.2.step hu)
              obtain ⟨g', off', az, capz, he, e2, hsl2, _, _⟩ := (HT.out.1 j hltj2).upd hu
              cases he
              simp only [Nat.zero_add] at e2
              have hti := HT.out.2.1 _ (gd_memA (d := []) hltj2)
              have H0 := Lib.hid (And.intro hu (And.intro hsl (And.intro hsl2 hti)))
              generalize Ls.getD i [] = c at *
              generalize Ts.getD j [] = d at *
              clear hu hsl hsl2 hti
              go_wp2_with fail
              refine wp_region_ord 8 1 [0, 1, 2, 3, 4, 5, 6, 7, 9, 10, 11, 12, 13, 14, 15] [3, 7] [0, 1, 2, 3, 4, 5, 6, 7, 8, 9, 10, 11, 12, 13, 14, 15] (fun w' => ∃ x : Ext w2, w' = x.val) (by kernel_rfl) (by kernel_rfl) (Ext.of (by iterate 25 (first | exact Upd.refl _ _ | assumption | refine Upd.alloc ?_ _ | refine Upd.drew ?_ | refine Upd.drewN ?_ _ | refine Upd.dl ?_ | refine Upd.step ?_ (Ext.upd _) | refine Upd.nil ?_ | skip))) ?_
              repeat (first | (refine wpOrd_load rfl rfl rfl rfl (fun K hK => ?_); go_big_quiet_step (fail); refine wpQuiet_nil ?_; refine hK _ ?_; clear hK K) | (refine wpOrd_free rfl rfl rfl (fun K hK => ?_); go_big_quiet_step (fail); refine wpQuiet_nil ?_; refine hK _ ?_; clear hK K))
              refine wpOrd_fix rfl rfl (fun K hK => ?_)
              go_wp2_with (go_at_call 28; refine (State_calls (H0.out.2.1.upd (S := []) (by iterate 25 (first | exact Upd.refl _ _ | assumption | refine Upd.alloc ?_ _ | refine Upd.drew ?_ | refine Upd.drewN ?_ _ | refine Upd.dl ?_ | refine Upd.step ?_ (Ext.upd _) | refine Upd.nil ?_ | skip)) (by simp)) (H0.out.2.2.1.upd (S := []) (by iterate 25 (first | exact Upd.refl _ _ | assumption | refine Upd.alloc ?_ _ | refine Upd.drew ?_ | refine Upd.drewN ?_ _ | refine Upd.dl ?_ | refine Upd.step ?_ (Ext.upd _) | refine Upd.nil ?_ | skip)) (by simp)) H0.out.2.2.2).mono ?_; rintro e w6 ⟨v6, rfl, o6⟩)
              have H6 := Lib.hid (And.intro o6.sl (show Upd [] w2 w6 from Upd.step (by iterate 25 (first | exact Upd.refl _ _ | assumption | refine Upd.alloc ?_ _ | refine Upd.drew ?_ | refine Upd.drewN ?_ _ | refine Upd.dl ?_ | refine Upd.step ?_ (Ext.upd _) | refine Upd.nil ?_ | skip)) o6.u))
              have e1' := H6.out.2.some e1 (by simp)
              have e2' := H6.out.2.some e2 (by simp)
              clear o6
              refine ⟨fun hC => absurd hC (by decide), ?_⟩
              repeat (first | (refine wpOrd_load rfl rfl rfl rfl (fun K hK => ?_); go_big_quiet_step (fail); refine wpQuiet_nil ?_; refine hK _ ?_; clear hK K) | (refine wpOrd_free rfl rfl rfl (fun K hK => ?_); go_big_quiet_step (fail); refine wpQuiet_nil ?_; refine hK _ ?_; clear hK K))
              refine wpOrd_nil ?_
              have H7 := Lib.hid (And.intro (H0.out.1.step H6.out.2) (And.intro (H0.out.2.1.upd H6.out.2 (by simp)) (And.intro (H0.out.2.2.1.upd H6.out.2 (by simp)) (And.intro H6.out.1 H0.out.2.2.2))))
              clear e1 e2 H0 H6
              go_wp2_with fail
              refine wp_region_ord 8 1 [0, 1, 2, 3, 4, 5, 6, 7, 9, 10, 11, 12, 13, 14, 15] [3, 7] [0, 1, 2, 3, 4, 5, 6, 7, 8, 9, 10, 11, 12, 13, 14, 15] (fun w' => ∃ x : Ext w6, w' = x.val) (by kernel_rfl) (by kernel_rfl) (Ext.of (by iterate 25 (first | exact Upd.refl _ _ | assumption | refine Upd.alloc ?_ _ | refine Upd.drew ?_ | refine Upd.drewN ?_ _ | refine Upd.dl ?_ | refine Upd.step ?_ (Ext.upd _) | refine Upd.nil ?_ | skip))) ?_
              repeat (first | (refine wpOrd_load rfl rfl rfl rfl (fun K hK => ?_); go_big_quiet_step (fail); refine wpQuiet_nil ?_; refine hK _ ?_; clear hK K) | (refine wpOrd_free rfl rfl rfl (fun K hK => ?_); go_big_quiet_step (fail); refine wpQuiet_nil ?_; refine hK _ ?_; clear hK K))
              refine wpOrd_fix rfl rfl (fun K hK => ?_)
              go_wp2_with (go_at_call 29; refine (RState_calls (H7.out.2.1.upd (S := []) (by iterate 25 (first | exact Upd.refl _ _ | assumption | refine Upd.alloc ?_ _ | refine Upd.drew ?_ | refine Upd.drewN ?_ _ | refine Upd.dl ?_ | refine Upd.step ?_ (Ext.upd _) | refine Upd.nil ?_ | skip)) (by simp)) (H7.out.2.2.1.upd (S := []) (by iterate 25 (first | exact Upd.refl _ _ | assumption | refine Upd.alloc ?_ _ | refine Upd.drew ?_ | refine Upd.drewN ?_ _ | refine Upd.dl ?_ | refine Upd.step ?_ (Ext.upd _) | refine Upd.nil ?_ | skip)) (by simp)) H7.out.2.2.2.2).mono ?_; rintro e w7 ⟨v7, rfl, o7⟩)
              have U7 := show Upd [] w6 w7 from Upd.step (by iterate 25 (first | exact Upd.refl _ _ | assumption | refine Upd.alloc ?_ _ | refine Upd.drew ?_ | refine Upd.drewN ?_ _ | refine Upd.dl ?_ | refine Upd.step ?_ (Ext.upd _) | refine Upd.nil ?_ | skip)) o7.u
              have H8 := Lib.hid (And.intro (SameInts_calls (H7.out.2.2.2.1.upd U7 (by simp)) o7.sl) (H7.out.1.step U7))
              clear o7 U7 e1' e2'
              refine ⟨fun hC => absurd hC (by decide), ?_⟩
              repeat (first | (refine wpOrd_load rfl rfl rfl rfl (fun K hK => ?_); go_big_quiet_step (fail); refine wpQuiet_nil ?_; refine hK _ ?_; clear hK K) | (refine wpOrd_free rfl rfl rfl (fun K hK => ?_); go_big_quiet_step (fail); refine wpQuiet_nil ?_; refine hK _ ?_; clear hK K))
              refine wpOrd_nil ?_
              generalize stateRes c d = sr at *
              obtain ⟨sb, so, se⟩ := sr
              simp only at H8 ⊢
              have hb3 : (se != se) = false := by simp
              have hb4 : (sb != sb) = false := by simp
              go_wp2_with fail
              have hss := H8.out.1
              simp only [decide_true] at hss
              refine hss.mono ?_
              rintro e w8 ⟨rfl, u8⟩
              clear hb3 hb4
              go_wp2_with fail
              exact ⟨⟨j + 1, by omega, by go_num, H8.out.2.step u8⟩, by simp [intOf]; omega⟩
            · have HF := Lib.hid hu
              clear hu
              go_wp2_with fail
              exact ⟨⟨i + 1, by omega, by go_num, HF.out⟩, by simp [intOf]; omega⟩
        · go_wp2_with fail
          refine (lives_calls).mono ?_
          rintro e w4 ⟨rfl, u4⟩
          go_wp2_with fail
          go_ret
          exact ⟨rfl, ((HL.out.2.1.step HT.out.2.2).step HU.out).step u4⟩
end
end Law
end Go.Proofs.Ytgdpbhbdeaifbaa
