/- Walks through the laws of clauses: ClauseBytes. Conditions: none. -/
import Derived.Test.YtgdpbhbdeaifbaaLives14
import Derived.Test.YtgdpbhbdeaifbaaCEnc
import Derived.Test.YtgdpbhbdeaifbaaTries
set_option linter.unusedVariables false
set_option linter.unusedSimpArgs false
set_option linter.unusedSectionVars false
open Go.RowKit
namespace Go.Proofs.Ytgdpbhbdeaifbaa
open L
namespace Law
open R01 R14 R02 Cla Wire
section
variable {w : World}
set_option maxRecDepth 100000 in
set_option maxHeartbeats 8000000 in
theorem ClauseBytes_calls {lv rv : Value} {xs rs : List Int} (hx : ∀ x ∈ xs, IsI64 x) (hl : SL w 1 lv xs.length (ints xs)) (n : Int) (hn : IsI64 n) (hr : ∀ x ∈ rs, IsU8 x) (hrl : SL w 1 rv rs.length (byts rs)) (at' c : Int) (hat : IsI64 at') (hc : IsU8 c) :
    Calls Try.prog 10 #[lv, .int .i64 n, rv, .int .i64 at', .int .u8 c] w fun e w' => e = .returned (.bool true) ∧ Upd [] w w' := by
  have HX := Lib.hid (And.intro hx (And.intro hl (And.intro hr hrl)))
  clear hx hl hr hrl
  go_enter Try.func10, Try.ntmps10
  go_wp2_with fail
  refine (Lists_calls HX.out.1 HX.out.2.1 n hn).mono ?_
  rintro e w1 ⟨v1, Ls, rfl, hcl, hln, hel, hu1⟩
  obtain ⟨a, cap, rfl, hc1, hc2, hcc⟩ := hcl.form
  have HL := Lib.hid (And.intro hcc (And.intro hu1 (And.intro hel (HX.out.2.2.2.upd hu1 (by simp)))))
  have hLn : Ls.length ≤ 9 := by omega
  clear hcl hln hel hu1 hcc
  go_wp2_with fail
  go_loopw [12] (fun k wr => ∃ i : Nat, i ≤ Ls.length ∧ k = .int .i64 i ∧ Upd [] w1 wr) (fun k _ => Ls.length - (intOf k).toNat)
  case atStart => exact ⟨0, Nat.zero_le _, rfl, Upd.refl _ _⟩
  case round =>
    obtain ⟨wo, rfl⟩ : ∃ wo : World, wo = wr := ⟨_, rfl⟩
    obtain ⟨i, hi, rfl, hu⟩ := hrel
    by_cases hlti : i < Ls.length
    · obtain ⟨g, off, ay, capy, rfl, e1, hsl, _, _⟩ := (HL.out.1 i hlti).upd hu
      obtain ⟨hl100, hi64⟩ := HL.out.2.2.1 _ (gd_memA (d := []) hlti)
      have H0 := Lib.hid (And.intro hu (And.intro hsl hi64))
      generalize Ls.getD i [] = cl at *
      clear hu hsl hi64
      by_cases hv : validErr cl = 0
      · have HE := Lib.hid (fun (w : World) (h : SL w 1 (.slice ay cl.length capy) cl.length (ints cl)) => And.intro (Encode_calls h) (REncode_calls h))
        obtain ⟨hb0, hb1⟩ := lb_length cl
        replace hb1 : (lb cl).length ≤ 1010 := by omega
        have HB := Lib.hid (And.intro hv (And.intro (decC_write hv) (And.intro (rdIs_write H0.out.2.2 (by omega)) (lb_u8 H0.out.2.2 (by omega)))))
        clear hv
        go_wp2_with fail
        refine ((HE.out _ H0.out.2.1).1).mono ?_
        intro e w5 he
        obtain ⟨a2, cap2, rfl, o5⟩ := he.2 HB.out.1
        have hcap2 : (lb cl).length ≤ cap2 := by
          obtain ⟨_, _, he, h, _⟩ := o5.sl.val
          cases he; exact h
        have e1' := o5.u.some e1 (by simp)
        have H1 := Lib.hid (And.intro (H0.out.1.step o5.u) (And.intro (H0.out.2.1.upd o5.u (by simp)) o5.sl))
        clear he o5 e1
        go_wp2_with fail
        refine ((HE.out _ H1.out.2.1).2).mono ?_
        intro e w6 he
        obtain ⟨a3, cap3, rfl, o6⟩ := he.2 HB.out.1
        have e1 := o6.u.some e1' (by simp)
        have H2 := Lib.hid (And.intro (H1.out.1.step o6.u) (And.intro (H1.out.2.1.upd o6.u (by simp)) (And.intro (H1.out.2.2.upd o6.u (by simp)) o6.sl)))
        clear he o6 e1' HE H1
        generalize lb cl = bs at *
        go_wp2_with fail
        refine (SameBytes_calls H2.out.2.2.1 H2.out.2.2.2).mono ?_
        rintro e w7 ⟨rfl, u7⟩
        rw [decide_eq_true rfl]
        have e1' := u7.some e1 (by simp)
        have H3 := Lib.hid (And.intro (H2.out.1.step u7) (And.intro (H2.out.2.1.upd u7 (by simp)) (H2.out.2.2.1.upd u7 (by simp))))
        clear u7 e1 H2
        go_wp2_with fail
        refine (Read_calls H3.out.2.2 HB.out.2.2.2 (by omega)).mono ?_
        rintro e w8 ⟨q, S, rfl, r8, u8, k8⟩
        have e1 := u8.some e1' (by simp)
        have H4 := Lib.hid (And.intro (H3.out.1.step u8) (And.intro (H3.out.2.1.upd u8 (by simp)) (And.intro (H3.out.2.2.upd u8 (by simp)) (And.intro r8 k8))))
        have hq7 := k8 q r8.q_mem
        have U8 := Lib.hid u8
        have e7 := e1'
        have hz7 := H3.out.1.size
        clear r8 u8 k8 e1'
        go_wp2_with fail
        refine (Decode_calls H4.out.2.2.1 HB.out.2.2.2 (by omega)).mono ?_
        intro e w9 hd
        rcases hd with ⟨hd, _⟩ | ⟨c9, v9, hd, rfl, s9, u9, k9⟩
        · rw [HB.out.2.1] at hd; cases hd
        have hcc9 : c9 = cl := by
          have := HB.out.2.1
          rw [hd] at this
          exact Option.some.inj this
        subst hcc9
        obtain ⟨a9, cap9, rfl, _, _, _⟩ := SL.elems s9
        have e1' := u9.some e1 (by simp)
        have hql : q < w9.heap.size := by have := H4.out.2.2.2.1.lt q H4.out.2.2.2.1.q_mem; have := u9.size; omega
        have hq9 : ∀ g, (Value.slice a9 c9.length cap9).ownBlock = some g → g ≠ q := fun g hg hgq => by
          have := k9 g hg
          have := H4.out.2.2.2.1.lt q H4.out.2.2.2.1.q_mem
          omega
        have HI := Lib.hid (fun (w : World) (h : Rd w q bs 0 0 S) => show Calls Try.prog 38 #[.pointer (some ⟨q, 0, none⟩)] w (LstT q bs S w (c9, bs.length, 0)) from by have := Ints_r_calls h (by omega); rwa [HB.out.2.2.1] at this)
        have H5 := Lib.hid (And.intro (U8.out.step u9) (And.intro (H4.out.2.2.2.1.upd u9 (by simp)) (And.intro s9 (And.intro hq9 e7))))
        have hbz : ((bs.length : Int) == 0) = false := by rw [beq_eq_false_iff_ne]; omega
        have ne : Nonempty (One_ ⟨g, off + i, none⟩ (.slice ay c9.length capy)) := ⟨⟨w9, e1'⟩⟩
        clear u9 k9 s9 hq9 e1 H4 hd U8 hql e7
        go_wp2_with fail
        refine wp_region_ord 27 4 [0, 1, 2, 3, 4, 5, 6, 7, 8, 10, 11, 12, 13, 15, 16, 17, 18, 19, 20, 21, 22, 23, 24, 25, 26, 28, 29] [13, 26] [0, 1, 2, 3, 4, 5, 6, 7, 8, 10, 11, 12, 13, 9, 14, 15, 16, 17, 18, 19, 20, 21, 22, 23, 24, 25, 26, 27, 28, 29] (fun w' => ∃ x : One_ ⟨g, off + i, none⟩ (.slice ay c9.length capy), w' = x.val) (by kernel_rfl) (by kernel_rfl) (One_.of e1') ?_
        clear e1'
        repeat (first | (refine wpOrd_load rfl rfl rfl rfl (fun K hK => ?_); go_big_quiet_step (fail); refine wpQuiet_nil ?_; refine hK _ ?_; clear hK K) | (refine wpOrd_free rfl rfl rfl (fun K hK => ?_); go_big_quiet_step (fail); refine wpQuiet_nil ?_; refine hK _ ?_; clear hK K))
        refine wpOrd_fix rfl rfl (fun K hK => ?_)
        go_wp2_with (go_at_call 38; refine (HI.out _ (H5.out.2.1.upd (T := []) (by iterate 25 (first | exact Upd.refl _ _ | assumption | refine Upd.alloc ?_ _ | refine Upd.drew ?_ | refine Upd.drewN ?_ _ | refine Upd.dl ?_ | refine Upd.step ?_ (Ext.upd _) | refine Upd.nil ?_ | skip)) (by simp))).mono ?_; rintro e wA ⟨vA, rfl, _, sA, uA, _⟩)
        replace sA : SL wA 1 vA c9.length (ints c9) := sA
        obtain ⟨aA, capA, rfl, _, _, _⟩ := SL.elems sA
        have U9A : Upd [q] w9 wA := Upd.trans (Upd.nil (by iterate 25 (first | exact Upd.refl _ _ | assumption | refine Upd.alloc ?_ _ | refine Upd.drew ?_ | refine Upd.drewN ?_ _ | refine Upd.dl ?_ | refine Upd.step ?_ (Ext.upd _) | refine Upd.nil ?_ | skip))) uA
        have U7A := H5.out.1.fresh U9A (fun j hj => by simp at hj; subst hj; exact .inr hq7)
        have H6 := Lib.hid (And.intro U7A (And.intro sA (H5.out.2.2.1.upd U9A (fun j hj hm => H5.out.2.2.2.1 _ hm (by simpa using hj)))))
        have e7 := H5.out.2.2.2.2
        have HE7 := Lib.hid e7
        clear sA uA U9A U7A HI H5
        refine ⟨fun _ => One_.of (H6.out.1.some e7 (by simp)), ?_⟩
        repeat (first | (refine wpOrd_load rfl rfl rfl rfl (fun K hK => ?_); go_big_quiet_step (fail); refine wpQuiet_nil ?_; refine hK _ ?_; clear hK K) | (refine wpOrd_free rfl rfl rfl (fun K hK => ?_); go_big_quiet_step (fail); refine wpQuiet_nil ?_; refine hK _ ?_; clear hK K))
        refine wpOrd_fix rfl rfl (fun K hK => ?_)
        go_wp2_with (go_at_call 22; refine (SameInts_calls (H6.out.2.1.upd (S := []) (by iterate 25 (first | exact Upd.refl _ _ | assumption | refine Upd.alloc ?_ _ | refine Upd.drew ?_ | refine Upd.drewN ?_ _ | refine Upd.dl ?_ | refine Upd.step ?_ (Ext.upd _) | refine Upd.nil ?_ | skip)) (by simp)) (H3.out.2.1.upd (Upd.step H6.out.1 (by iterate 25 (first | exact Upd.refl _ _ | assumption | refine Upd.alloc ?_ _ | refine Upd.drew ?_ | refine Upd.drewN ?_ _ | refine Upd.dl ?_ | refine Upd.step ?_ (Ext.upd _) | refine Upd.nil ?_ | skip))) (by simp))).mono ?_; rintro e wB ⟨rfl, uB⟩; rw [decide_eq_true rfl])
        have H7 := Lib.hid (show Upd [] wA wB from Upd.step (by iterate 25 (first | exact Upd.refl _ _ | assumption | refine Upd.alloc ?_ _ | refine Upd.drew ?_ | refine Upd.drewN ?_ _ | refine Upd.dl ?_ | refine Upd.step ?_ (Ext.upd _) | refine Upd.nil ?_ | skip)) uB)
        clear uB
        refine ⟨fun _ => One_.of ((H6.out.1.step H7.out).some HE7.out (by simp)), ?_⟩
        repeat (first | (refine wpOrd_load rfl rfl rfl rfl (fun K hK => ?_); go_big_quiet_step (fail); refine wpQuiet_nil ?_; refine hK _ ?_; clear hK K) | (refine wpOrd_free rfl rfl rfl (fun K hK => ?_); go_big_quiet_step (fail); refine wpQuiet_nil ?_; refine hK _ ?_; clear hK K))
        refine wpOrd_fix rfl rfl (fun K hK => ?_)
        go_wp2_with (go_at_call 22; refine (SameInts_calls (H6.out.2.2.upd (S := []) (Upd.step H7.out (by iterate 25 (first | exact Upd.refl _ _ | assumption | refine Upd.alloc ?_ _ | refine Upd.drew ?_ | refine Upd.drewN ?_ _ | refine Upd.dl ?_ | refine Upd.step ?_ (Ext.upd _) | refine Upd.nil ?_ | skip))) (by simp)) (H3.out.2.1.upd (Upd.step (H6.out.1.step H7.out) (by iterate 25 (first | exact Upd.refl _ _ | assumption | refine Upd.alloc ?_ _ | refine Upd.drew ?_ | refine Upd.drewN ?_ _ | refine Upd.dl ?_ | refine Upd.step ?_ (Ext.upd _) | refine Upd.nil ?_ | skip))) (by simp))).mono ?_; rintro e wM ⟨rfl, uM⟩; rw [decide_eq_true rfl])
        have H8 := Lib.hid (show Upd [] w7 wM from Upd.step (H6.out.1.step H7.out) (show Upd [] wB wM from Upd.step (by iterate 25 (first | exact Upd.refl _ _ | assumption | refine Upd.alloc ?_ _ | refine Upd.drew ?_ | refine Upd.drewN ?_ _ | refine Upd.dl ?_ | refine Upd.step ?_ (Ext.upd _) | refine Upd.nil ?_ | skip)) uM))
        clear uM H6 H7 e7
        refine ⟨fun hC => absurd hC (by decide), ?_⟩
        repeat (first | (refine wpOrd_load rfl rfl rfl rfl (fun K hK => ?_); go_big_quiet_step (fail); refine wpQuiet_nil ?_; refine hK _ ?_; clear hK K) | (refine wpOrd_free rfl rfl rfl (fun K hK => ?_); go_big_quiet_step (fail); refine wpQuiet_nil ?_; refine hK _ ?_; clear hK K))
        refine wpOrd_nil ?_
        have H9 := Lib.hid (And.intro (H3.out.1.step H8.out) (H3.out.2.2.upd H8.out (by simp)))
        clear H8 H3 HE7 ne hbz
        go_wp2_with fail
        refine (Few_calls (H9.out.2) bs.length (by omega)).mono ?_
        rintro e wa ⟨aa, ca, rfl, oa, ua⟩
        rw [List.take_length] at oa ⊢
        have HA := Lib.hid (And.intro oa (And.intro (H9.out.1.step ua) ua))
        have hfa := oa.fresh
        have hz9 := H9.out.1.size
        have HFA := Lib.hid hfa
        clear oa ua hfa
        go_wp2_with fail
        have hat0 := around_lo (n := at') (k := bs.length) (by omega)
        have hat1 := around_hi (n := at') (k := bs.length) (by omega)
        obtain ⟨ix, hix⟩ := Int.eq_ofNat_of_zero_le hat0
        have hixl : ix < bs.length := by omega
        have HIX := Lib.hid hix
        obtain ⟨gb, cb, he, hgb, hcb⟩ := owns_form HA.out.1.row hb0
        cases he
        obtain ⟨_, hrow⟩ := HA.out.1.row
        rcases hrow with ⟨hr, _⟩ | ⟨g', cap', cur, he, _, hcur, hnc, hcm, hcs, htake⟩
        · cases hr
        cases he
        have BB : Blk wa gb (byts bs ++ cur.toList.drop bs.length) 5 := by
          unfold Blk
          rw [hcur]
          congr 2
          apply Array.toList_inj.1
          simp only [List.toList_toArray]
          rw [← htake]
          conv => lhs; rw [← List.take_append_drop bs.length cur.toList]
          rw [Nat.mul_one]
        have cb0 := BB.cell (i := ix) (by rw [List.getElem?_append_left (by rw [byts_length]; exact hixl)]; exact byts_get (List.getElem?_eq_getElem hixl))
        have fb0 := BB.free ix
        have lb0 := BB.lt
        have hgb9 := HFA.out gb rfl
        generalize bs[ix] = yold at *
        have HBB := Lib.hid BB
        clear hix hat0 hat1 BB hcur htake
        refine (Around_calls at' bs.length _ hat (by omega) (by omega)).mono ?_
        rintro e _ ⟨rfl, rfl⟩
        rw [HIX.out]
        go_wp2_with fail
        have US : Upd [gb] wa (wa.setCell ⟨gb, ix, none⟩ (.int .u8 c)) := (Upd.refl [gb] wa).set (by simp) _
        have UW : Upd [] w1 (wa.setCell ⟨gb, ix, none⟩ (.int .u8 c)) := HA.out.2.1.fresh US (fun j hj => by simp at hj; subst hj; exact .inr (by omega))
        have UCW : Upd [] wM (wa.setCell ⟨gb, ix, none⟩ (.int .u8 c)) := HA.out.2.2.fresh US (fun j hj => by simp at hj; subst hj; exact .inr hgb9)
        have SBW := H9.out.2.upd UCW (by simp)
        have BS := HBB.out.set ix (.int .u8 c)
        rw [List.set_append_left _ _ (by rw [byts_length]; exact hixl), show (byts bs).set ix (.int .u8 c) = byts (bs.set ix c) by simp [byts, List.map_set]] at BS
        have hel : (bs.set ix c).length = bs.length := List.length_set
        have s1 : SL (wa.setCell ⟨gb, ix, none⟩ (.int .u8 c)) 1 (.slice (some ⟨gb, 0, none⟩) bs.length ca) (bs.set ix c).length (byts (bs.set ix c)) := by
          rw [hel]
          exact SL.of_blk BS (by rw [byts_length, hel]; omega) hnc hcm
        have s2 := SL.takeB (m := bs.length - 1) SBW (by omega)
        have sb := SBW
        have sr := HX.out.2.2.2.upd (HL.out.2.1.step UW) (by simp)
        have hset : ∀ x ∈ bs.set ix c, IsU8 x := fun x hx => by
          rcases List.mem_or_eq_of_mem_set hx with h | rfl
          · exact HB.out.2.2.2 x h
          · exact hc
        generalize wa.setCell ⟨gb, ix, none⟩ (.int .u8 c) = ws at *
        generalize bs.set ix c = e2 at *
        have HSS := Lib.hid (And.intro UW (And.intro s1 (And.intro s2 (And.intro sr (And.intro hset (And.intro hel sb))))))
        clear US UW BS s1 s2 sr hset HBB hel sb UCW SBW
        have htk : (bs.take (bs.length - 1)).length = bs.length - 1 := by rw [List.length_take]; omega
        have HTK := Lib.hid htk
        clear htk
        go_cut [21] (fun t w' => TriesT ws [rs.take 30, e2, bs.take (bs.length - 1), bs ++ [c]] t w')
        case first =>
          have hi1 : (1 : Int) ≤ (bs.length : Int) := by omega
          have hi2 : (bs.length : Int) - 1 ≤ cap2 := by omega
          have e1 : ((bs.length : Int) - 1).toNat = bs.length - 1 := by omega
          refine wp_region_wa 17 17 (fun _ => True) (by kernel_rfl) (by kernel_rfl) trivial ?_
          (refine WA.free 0 rfl rfl (by kernel_rfl) (fun K hK => ?_); go_big_quiet_step (fail); refine wpQuiet_nil ?_; refine hK _ ?_; clear hK K); (refine WA.free 2 rfl rfl (by kernel_rfl) (fun K hK => ?_); go_big_quiet_step (fail); refine wpQuiet_nil ?_; refine hK _ ?_; clear hK K); (refine WA.free 3 rfl rfl (by kernel_rfl) (fun K hK => ?_); go_big_quiet_step (fail); refine wpQuiet_nil ?_; refine hK _ ?_; clear hK K); (refine WA.free 4 rfl rfl (by kernel_rfl) (fun K hK => ?_); go_big_quiet_step (fail); refine wpQuiet_nil ?_; refine hK _ ?_; clear hK K); (refine WA.free 5 rfl rfl (by kernel_rfl) (fun K hK => ?_); go_big_quiet_step (fail); refine wpQuiet_nil ?_; refine hK _ ?_; clear hK K); (refine WA.free 6 rfl rfl (by kernel_rfl) (fun K hK => ?_); go_big_quiet_step (fail); refine wpQuiet_nil ?_; refine hK _ ?_; clear hK K); (refine WA.free 7 rfl rfl (by kernel_rfl) (fun K hK => ?_); go_big_quiet_step (fail); refine wpQuiet_nil ?_; refine hK _ ?_; clear hK K); (refine WA.free 8 rfl rfl (by kernel_rfl) (fun K hK => ?_); go_big_quiet_step (fail); refine wpQuiet_nil ?_; refine hK _ ?_; clear hK K); (refine WA.free 9 rfl rfl (by kernel_rfl) (fun K hK => ?_); go_big_quiet_step (fail); refine wpQuiet_nil ?_; refine hK _ ?_; clear hK K); (refine WA.free 10 rfl rfl (by kernel_rfl) (fun K hK => ?_); go_big_quiet_step (fail); refine wpQuiet_nil ?_; refine hK _ ?_; clear hK K); (refine WA.free 12 rfl rfl (by kernel_rfl) (fun K hK => ?_); go_big_quiet_step (fail); refine wpQuiet_nil ?_; refine hK _ ?_; clear hK K)
          refine WA.two 1 13 (by kernel_rfl) (Do_.mk rfl (fun K hK => ?_)) (Do_.mk rfl (fun K hK => ?_))
          · go_wp2_with (go_at_call 39; refine (Few_calls (HSS.out.2.2.2.1.upd (S := []) (show Upd [] ws _ from (by iterate 25 (first | exact Upd.refl _ _ | assumption | refine Upd.alloc ?_ _ | refine Upd.drew ?_ | refine Upd.drewN ?_ _ | refine Upd.dl ?_ | refine Upd.step ?_ (Ext.upd _) | refine Upd.nil ?_ | skip))) (by simp)) 30 (by omega)).mono ?_; rintro e wA ⟨aA, cA, rfl, oA, uA⟩)
            have HA1 := Lib.hid (And.intro (show Upd [] ws wA from Upd.step (by iterate 25 (first | exact Upd.refl _ _ | assumption | refine Upd.alloc ?_ _ | refine Upd.drew ?_ | refine Upd.drewN ?_ _ | refine Upd.dl ?_ | refine Upd.step ?_ (Ext.upd _) | refine Upd.nil ?_ | skip)) uA) oA)
            clear oA uA
            refine WA.keep trivial ?_
            refine WA.two 11 13 (by kernel_rfl) (Do_.mk rfl (fun K hK => ?_)) (Do_.mk rfl (fun K hK => ?_))
            · go_wp2_with (go_at_call 39; refine (Few_calls (HSS.out.2.2.2.2.2.2.upd (S := []) (show Upd [] ws _ from Upd.step HA1.out.1 (by iterate 25 (first | exact Upd.refl _ _ | assumption | refine Upd.alloc ?_ _ | refine Upd.drew ?_ | refine Upd.drewN ?_ _ | refine Upd.dl ?_ | refine Upd.step ?_ (Ext.upd _) | refine Upd.nil ?_ | skip))) (by simp)) bs.length (by omega)).mono ?_; rintro e wB ⟨aB, cB, rfl, oB, uB⟩; rw [List.take_length] at oB ⊢)
              have HB1 := Lib.hid (And.intro (show Upd [] ws wB from Upd.step HA1.out.1 uB) (And.intro oB uB))
              clear oB uB
              refine WA.keep trivial ?_
              refine WA.one 13 (by kernel_rfl) (Do_.mk rfl (fun K hK => ?_))
              go_wp2_with fail
              have BC := Blk.new (wB) [.int .u8 c] 5
              have uC := (Upd.refl [] (wB)).alloc (.cells #[.int .u8 c] 5)
              generalize World.alloc (wB) (.cells #[.int .u8 c] 5) = wC at *
              generalize hgC : Array.size (World.heap (wB)) = gC at *
              have HC := Lib.hid (And.intro (show Upd [] ws wC from HB1.out.1.step uC) (And.intro BC uC))
              clear uC BC hgC
              have HF := Lib.hid (And.intro (ownsRow_updL HB1.out.2.1.row HC.out.2.2 (by simp) : World.ownsRow wC 0 5 1 (.slice aB bs.length cB) bs.length (byts bs)) (And.intro (SL.of_blk (pad := []) (xs := byts [c]) (show Blk wC gC (byts [c] ++ []) 5 from HC.out.2.1) rfl (Nat.le_refl _) (by unfold maxLen; omega) : SL wC 1 (.slice (some ⟨gC, 0, none⟩) 1 1) [c].length (byts [c])) (And.intro ((HA1.out.2.sl.upd HB1.out.2.2 (by simp)).upd HC.out.2.2 (by simp) : SL wC 1 (.slice aA (rs.take 30).length cA) (rs.take 30).length (byts (rs.take 30))) (And.intro (HC.out.1 : Upd [] ws wC) (fun j hj => (show ws.heap.size ≤ j ∧ (Value.slice aA (rs.take 30).length cA).ownBlock ≠ some j from by have h1 := HB1.out.2.1.fresh j hj; have h2 := HA1.out.1.size; have h3 := HB1.out.2.2.size; exact ⟨by omega, fun h => by have := HA1.out.2.lt j h; omega⟩))))))
              refine WA.keep trivial ?_
              refine WA.one 14 (by kernel_rfl) (Do_.mk rfl (fun K hK => ?_))
              go_wp2_with (refine wpList_appS rfl _ _ _ rfl 5 1 1 _ Try.underlying49 infoByte rfl (by decide) (.slice aB bs.length cB) _ _ rfl HF.out.1 _ _ _ rfl HF.out.2.1 (byts_one _) (by unfold maxLen; omega) (by omega) ?_; intro a14 cap14 w14 o14 u14 k14; simp only [Act.put, List.setIfInBounds_toArray, List.set_cons_zero, List.set_cons_succ])
              have HG := Lib.hid (And.intro (HF.out.2.2.2.1.fresh u14 (fun j hj => .inr (HF.out.2.2.2.2 j (by simpa using hj)).1)) (And.intro (HF.out.2.2.1.upd u14 (fun j hj => (HF.out.2.2.2.2 j (by simpa using hj)).2)) (SL.of_owns o14)))
              clear o14 u14 k14
              refine WA.keep trivial ?_
              refine WA.one 15 (by kernel_rfl) (Do_.mk rfl (fun K hK => ?_))
              go_wp2_with fail
              refine WA.keep trivial ?_
              (refine WA.free 16 rfl rfl (by kernel_rfl) (fun K hK => ?_); go_big_quiet_step (fail); refine wpQuiet_nil ?_; refine hK _ ?_; clear hK K)
              refine WA.nil (by kernel_rfl) ?_
              go_wp2_with fail
              go_meet
              case rel => exact TriesT.mk (by rw [← List.length_take (i := 30) (l := rs)]; exact HG.out.2.1) (HSS.out.2.1.upd HG.out.1 (by simp)) (by rw [HTK.out]; exact HSS.out.2.2.1.upd HG.out.1 (by simp)) (by simpa [byts] using HG.out.2.2) HG.out.1 rfl
            · go_wp2_with fail
              have BC := Blk.new (wA) [.int .u8 c] 5
              have uC := (Upd.refl [] (wA)).alloc (.cells #[.int .u8 c] 5)
              generalize World.alloc (wA) (.cells #[.int .u8 c] 5) = wC at *
              generalize hgC : Array.size (World.heap (wA)) = gC at *
              have HC := Lib.hid (And.intro (show Upd [] ws wC from HA1.out.1.step uC) (And.intro BC uC))
              clear uC BC hgC
              refine WA.keep trivial ?_
              refine WA.one 11 (by kernel_rfl) (Do_.mk rfl (fun K hK => ?_))
              go_wp2_with (go_at_call 39; refine (Few_calls (HSS.out.2.2.2.2.2.2.upd (S := []) (show Upd [] ws _ from Upd.step HC.out.1 (by iterate 25 (first | exact Upd.refl _ _ | assumption | refine Upd.alloc ?_ _ | refine Upd.drew ?_ | refine Upd.drewN ?_ _ | refine Upd.dl ?_ | refine Upd.step ?_ (Ext.upd _) | refine Upd.nil ?_ | skip))) (by simp)) bs.length (by omega)).mono ?_; rintro e wB ⟨aB, cB, rfl, oB, uB⟩; rw [List.take_length] at oB ⊢)
              have HB1 := Lib.hid (And.intro (show Upd [] ws wB from Upd.step HC.out.1 uB) (And.intro oB uB))
              clear oB uB
              have HF := Lib.hid (And.intro (HB1.out.2.1.row : World.ownsRow wB 0 5 1 (.slice aB bs.length cB) bs.length (byts bs)) (And.intro (SL.of_blk (pad := []) (xs := byts [c]) (show Blk wB gC (byts [c] ++ []) 5 from HC.out.2.1.upd HB1.out.2.2 (by simp)) rfl (Nat.le_refl _) (by unfold maxLen; omega) : SL wB 1 (.slice (some ⟨gC, 0, none⟩) 1 1) [c].length (byts [c])) (And.intro ((HA1.out.2.sl.upd HC.out.2.2 (by simp)).upd HB1.out.2.2 (by simp) : SL wB 1 (.slice aA (rs.take 30).length cA) (rs.take 30).length (byts (rs.take 30))) (And.intro (HB1.out.1 : Upd [] ws wB) (fun j hj => (show ws.heap.size ≤ j ∧ (Value.slice aA (rs.take 30).length cA).ownBlock ≠ some j from by have h1 := HB1.out.2.1.fresh j hj; have h2 := HC.out.1.size; have h3 := HC.out.2.2.size; exact ⟨by omega, fun h => by have := HA1.out.2.lt j h; omega⟩))))))
              refine WA.keep trivial ?_
              refine WA.one 14 (by kernel_rfl) (Do_.mk rfl (fun K hK => ?_))
              go_wp2_with (refine wpList_appS rfl _ _ _ rfl 5 1 1 _ Try.underlying49 infoByte rfl (by decide) (.slice aB bs.length cB) _ _ rfl HF.out.1 _ _ _ rfl HF.out.2.1 (byts_one _) (by unfold maxLen; omega) (by omega) ?_; intro a14 cap14 w14 o14 u14 k14; simp only [Act.put, List.setIfInBounds_toArray, List.set_cons_zero, List.set_cons_succ])
              have HG := Lib.hid (And.intro (HF.out.2.2.2.1.fresh u14 (fun j hj => .inr (HF.out.2.2.2.2 j (by simpa using hj)).1)) (And.intro (HF.out.2.2.1.upd u14 (fun j hj => (HF.out.2.2.2.2 j (by simpa using hj)).2)) (SL.of_owns o14)))
              clear o14 u14 k14
              refine WA.keep trivial ?_
              refine WA.one 15 (by kernel_rfl) (Do_.mk rfl (fun K hK => ?_))
              go_wp2_with fail
              refine WA.keep trivial ?_
              (refine WA.free 16 rfl rfl (by kernel_rfl) (fun K hK => ?_); go_big_quiet_step (fail); refine wpQuiet_nil ?_; refine hK _ ?_; clear hK K)
              refine WA.nil (by kernel_rfl) ?_
              go_wp2_with fail
              go_meet
              case rel => exact TriesT.mk (by rw [← List.length_take (i := 30) (l := rs)]; exact HG.out.2.1) (HSS.out.2.1.upd HG.out.1 (by simp)) (by rw [HTK.out]; exact HSS.out.2.2.1.upd HG.out.1 (by simp)) (by simpa [byts] using HG.out.2.2) HG.out.1 rfl
          · go_wp2_with fail
            have BC := (Blk.new ws [.int .u8 c] 5).drew
            have uC := ((Upd.refl [] ws).alloc (.cells #[.int .u8 c] 5)).drew
            generalize World.drew (World.alloc ws (.cells #[.int .u8 c] 5)) = wC at *
            generalize hgC : Array.size (World.heap ws) = gC at *
            have HC := Lib.hid (And.intro (show Upd [] ws wC from uC) (And.intro BC uC))
            clear uC BC hgC
            refine WA.keep trivial ?_
            refine WA.one 1 (by kernel_rfl) (Do_.mk rfl (fun K hK => ?_))
            go_wp2_with (go_at_call 39; refine (Few_calls (HSS.out.2.2.2.1.upd (S := []) (show Upd [] ws _ from Upd.step HC.out.1 (by iterate 25 (first | exact Upd.refl _ _ | assumption | refine Upd.alloc ?_ _ | refine Upd.drew ?_ | refine Upd.drewN ?_ _ | refine Upd.dl ?_ | refine Upd.step ?_ (Ext.upd _) | refine Upd.nil ?_ | skip))) (by simp)) 30 (by omega)).mono ?_; rintro e wA ⟨aA, cA, rfl, oA, uA⟩)
            have HA1 := Lib.hid (And.intro (show Upd [] ws wA from Upd.step HC.out.1 uA) (And.intro oA uA))
            clear oA uA
            refine WA.keep trivial ?_
            refine WA.one 11 (by kernel_rfl) (Do_.mk rfl (fun K hK => ?_))
            go_wp2_with (go_at_call 39; refine (Few_calls (HSS.out.2.2.2.2.2.2.upd (S := []) (show Upd [] ws _ from Upd.step HA1.out.1 (by iterate 25 (first | exact Upd.refl _ _ | assumption | refine Upd.alloc ?_ _ | refine Upd.drew ?_ | refine Upd.drewN ?_ _ | refine Upd.dl ?_ | refine Upd.step ?_ (Ext.upd _) | refine Upd.nil ?_ | skip))) (by simp)) bs.length (by omega)).mono ?_; rintro e wB ⟨aB, cB, rfl, oB, uB⟩; rw [List.take_length] at oB ⊢)
            have HB1 := Lib.hid (And.intro (show Upd [] ws wB from Upd.step HA1.out.1 uB) (And.intro oB uB))
            clear oB uB
            have HF := Lib.hid (And.intro (HB1.out.2.1.row : World.ownsRow wB 0 5 1 (.slice aB bs.length cB) bs.length (byts bs)) (And.intro (SL.of_blk (pad := []) (xs := byts [c]) (show Blk wB gC (byts [c] ++ []) 5 from (HC.out.2.1.upd HA1.out.2.2 (by simp)).upd HB1.out.2.2 (by simp)) rfl (Nat.le_refl _) (by unfold maxLen; omega) : SL wB 1 (.slice (some ⟨gC, 0, none⟩) 1 1) [c].length (byts [c])) (And.intro (HA1.out.2.1.sl.upd HB1.out.2.2 (by simp) : SL wB 1 (.slice aA (rs.take 30).length cA) (rs.take 30).length (byts (rs.take 30))) (And.intro (HB1.out.1 : Upd [] ws wB) (fun j hj => (show ws.heap.size ≤ j ∧ (Value.slice aA (rs.take 30).length cA).ownBlock ≠ some j from by have h1 := HB1.out.2.1.fresh j hj; have h2 := HA1.out.1.size; have h3 := HA1.out.2.2.size; exact ⟨by omega, fun h => by have := HA1.out.2.1.lt j h; omega⟩))))))
            refine WA.keep trivial ?_
            refine WA.one 14 (by kernel_rfl) (Do_.mk rfl (fun K hK => ?_))
            go_wp2_with (refine wpList_appS rfl _ _ _ rfl 5 1 1 _ Try.underlying49 infoByte rfl (by decide) (.slice aB bs.length cB) _ _ rfl HF.out.1 _ _ _ rfl HF.out.2.1 (byts_one _) (by unfold maxLen; omega) (by omega) ?_; intro a14 cap14 w14 o14 u14 k14; simp only [Act.put, List.setIfInBounds_toArray, List.set_cons_zero, List.set_cons_succ])
            have HG := Lib.hid (And.intro (HF.out.2.2.2.1.fresh u14 (fun j hj => .inr (HF.out.2.2.2.2 j (by simpa using hj)).1)) (And.intro (HF.out.2.2.1.upd u14 (fun j hj => (HF.out.2.2.2.2 j (by simpa using hj)).2)) (SL.of_owns o14)))
            clear o14 u14 k14
            refine WA.keep trivial ?_
            refine WA.one 15 (by kernel_rfl) (Do_.mk rfl (fun K hK => ?_))
            go_wp2_with fail
            refine WA.keep trivial ?_
            (refine WA.free 16 rfl rfl (by kernel_rfl) (fun K hK => ?_); go_big_quiet_step (fail); refine wpQuiet_nil ?_; refine hK _ ?_; clear hK K)
            refine WA.nil (by kernel_rfl) ?_
            go_wp2_with fail
            go_meet
            case rel => exact TriesT.mk (by rw [← List.length_take (i := 30) (l := rs)]; exact HG.out.2.1) (HSS.out.2.1.upd HG.out.1 (by simp)) (by rw [HTK.out]; exact HSS.out.2.2.1.upd HG.out.1 (by simp)) (by simpa [byts] using HG.out.2.2) HG.out.1 rfl
        case rest =>
          have hLs : ∀ L ∈ [rs.take 30, e2, bs.take (bs.length - 1), bs ++ [c]], (∀ x ∈ L, IsU8 x) ∧ L.length ≤ 1100 := by
            intro L hL
            simp only [List.mem_cons, List.not_mem_nil, or_false] at hL
            rcases hL with rfl | rfl | rfl | rfl
            · exact ⟨fun x hx => HX.out.2.2.1 x (List.mem_of_mem_take hx), by rw [List.length_take]; omega⟩
            · exact ⟨HSS.out.2.2.2.2.1, by rw [HSS.out.2.2.2.2.2.1]; omega⟩
            · exact ⟨fun x hx => HB.out.2.2.2 x (List.mem_of_mem_take hx), by rw [List.length_take]; omega⟩
            · refine ⟨fun x hx => ?_, by simp; omega⟩
              rcases List.mem_append.1 hx with hx | hx
              · exact HB.out.2.2.2 x hx
              · simp at hx; subst hx; exact hc
          have UW1 : Upd [] w1 wc := HSS.out.1.step hcut.choose_spec.choose_spec.2.2.2.2
          obtain ⟨gt, vals, rfl, Bt, hvl, hvs, _⟩ := hcut
          generalize hLL : [rs.take 30, e2, bs.take (bs.length - 1), bs ++ [c]] = Ts at *
          have hL4 : Ts.length = 4 := by rw [← hLL]; rfl
          have HT := Lib.hid (And.intro hLs (And.intro Bt (And.intro hvl (And.intro hvs hL4))))
          clear hLs Bt hvl hvs hL4 hLL
          clear HSS HTK HFA HA hgb9 lb0 fb0 cb0 hnc hcm hcs hgb hcb
          have HWC := Lib.hid (show Upd [] w1 wc from UW1)
          clear UW1
          go_wp2_with fail
          go_loopw [22] (fun i wr => ∃ k : Nat, k ≤ 4 ∧ i = .int .i64 k ∧ Upd [] wc wr) (fun i _ => 4 - (intOf i).toNat)
          case atStart => exact ⟨0, by omega, rfl, Upd.refl _ _⟩
          case round =>
            obtain ⟨wp, rfl⟩ : ∃ wp : World, wp = wr := ⟨_, rfl⟩
            obtain ⟨k, hk, rfl, hu⟩ := hrel
            by_cases hlt : k < 4
            · have hkL : k < Ts.length := by rw [HT.out.2.2.2.2]; exact hlt
              obtain ⟨v, hv, hs⟩ := HT.out.2.2.2.1 k _ (List.getElem?_eq_getElem hkL)
              obtain ⟨hu8, hl1⟩ := HT.out.1 _ (List.getElem_mem hkL)
              generalize Ts[k] = L at *
              obtain ⟨al, cl2, rfl, _, _, _⟩ := SL.elems hs
              have ct := (HT.out.2.1.upd hu (by simp)).cell hv
              have hsr := hs.upd hu (by simp)
              have HD := Lib.hid (And.intro (Decode_calls hsr hu8 (by omega)) (And.intro hsr (And.intro hu8 hu)))
              clear hv hs hu8 hkL hsr hu
              go_wp2_with fail
              refine HD.out.1.mono ?_
              intro e w5 hd
              rcases hd with ⟨_, rfl, u5⟩ | ⟨y, vy, hd, rfl, sy, u5, _⟩
              · have H5 := Lib.hid (HD.out.2.2.2.step u5)
                clear u5 HD ct
                go_wp2_with fail
                exact ⟨⟨k + 1, by omega, by go_num, H5.out⟩, by simp [intOf]; omega⟩
              · obtain ⟨hLy, hvy⟩ := decC_read HD.out.2.2.1 hd
                obtain ⟨ay2, cy2, rfl, _, _, _⟩ := SL.elems sy
                have ct5 := u5.some ct (by simp)
                have H5 := Lib.hid (And.intro (HD.out.2.2.2.step u5) (And.intro (HD.out.2.1.upd u5 (by simp)) (And.intro (REncode_calls sy) (And.intro hvy hLy))))
                clear u5 HD ct sy hd hLy hvy
                go_wp2_with fail
                refine H5.out.2.2.1.mono ?_
                intro e w6 he
                obtain ⟨a6, cap6, rfl, o6⟩ := he.2 H5.out.2.2.2.1
                rw [← H5.out.2.2.2.2] at o6 ⊢
                have ct6 := o6.u.some ct5 (by simp)
                have H6 := Lib.hid (And.intro (H5.out.1.step o6.u) (And.intro o6.sl (H5.out.2.1.upd o6.u (by simp))))
                clear he o6 ct5 H5
                go_wp2_with fail
                refine (SameBytes_calls H6.out.2.1 H6.out.2.2).mono ?_
                rintro e w7 ⟨rfl, u7⟩
                rw [decide_eq_true rfl]
                have H7 := Lib.hid (H6.out.1.step u7)
                clear u7 H6 ct6
                go_wp2_with fail
                exact ⟨⟨k + 1, by omega, by go_num, H7.out⟩, by simp [intOf]; omega⟩
            · have HF := Lib.hid (HWC.out.step hu)
              clear hu HWC
              go_wp2_with fail
              exact ⟨⟨i + 1, by omega, by go_num, HF.out⟩, by simp [intOf]; omega⟩
      · have HV := Lib.hid hv
        have hb : (validErr cl != 0) = true := by simpa using hv
        have hb3 : (validErr cl != validErr cl) = false := by simp
        have HE := Lib.hid (fun (w : World) (h : SL w 1 (.slice ay cl.length capy) cl.length (ints cl)) => And.intro (Encode_calls h) (REncode_calls h))
        clear hv
        go_wp2_with fail
        refine ((HE.out _ H0.out.2.1).1).mono ?_
        intro e w5 he
        obtain ⟨rfl, u5⟩ := he.1 HV.out
        have e1' := u5.some e1 (by simp)
        have H1 := Lib.hid (And.intro (H0.out.1.step u5) (H0.out.2.1.upd u5 (by simp)))
        clear he u5 e1
        go_wp2_with fail
        refine ((HE.out _ H1.out.2).2).mono ?_
        intro e w6 he
        obtain ⟨rfl, u6⟩ := he.1 HV.out
        have H2 := Lib.hid (H1.out.1.step u6)
        clear he u6 e1' HE HV
        generalize validErr cl = er at *
        go_wp2_with fail
        refine (SameBytes_calls (xs := []) (ys := []) ((OwnV.nil w6 w6 5 1).sl) ((OwnV.nil w6 w6 5 1).sl)).mono ?_
        rintro e w7 ⟨rfl, u7⟩
        rw [decide_eq_true rfl]
        have H3 := Lib.hid (H2.out.step u7)
        clear u7
        go_wp2_with fail
        exact ⟨⟨i + 1, by omega, by go_num, H3.out⟩, by simp [intOf]; omega⟩
    · go_wp2_with fail
      refine (lives_calls).mono ?_
      rintro e w4 ⟨rfl, u4⟩
      go_wp2_with fail
      go_ret
      exact ⟨rfl, (HL.out.2.1.step hu).step u4⟩
end
end Law
end Go.Proofs.Ytgdpbhbdeaifbaa
