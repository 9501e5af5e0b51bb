/- Walks through the laws of clauses: ClauseChains. Conditions: none. -/
import Derived.Test.YtgdpbhbdeaifbaaLives14
set_option linter.unusedVariables false
set_option linter.unusedSimpArgs false
set_option linter.unusedSectionVars false
open Go.RowKit
namespace Go.Proofs.Ytgdpbhbdeaifbaa
open L
namespace Law
open R01 R14 Cla
theorem SL.own_lt1 {w : World} {v : Value} {n : Nat} {cs : List Value} (h : SL w 1 v n cs) (hn : 0 < n) {k : Nat} (hk : v.ownBlock = some k) : k < w.heap.size := by
  obtain ⟨h1, a, cap, rfl, h2, h3, _, h4⟩ := h
  rcases h4 with h4 | ⟨b, off, rfl, h4⟩
  · omega
  · cases hk
    have : 0 < cs.length := by omega
    exact World.block_lt_of_cell? w _ (h4 0 _ (List.getElem?_eq_getElem this))
theorem SL.upd0 {S : List Nat} {w w' : World} {v : Value} {n : Nat} {cs : List Value} (h : SL w 1 v n cs) (hu : Upd S w w') (hS : 0 < n → ∀ b ∈ S, v.ownBlock ≠ some b) : SL w' 1 v n cs := by
  by_cases hn : 0 < n
  · exact h.upd hu (hS hn)
  · obtain ⟨h1, a, cap, rfl, h2, h3, h5, h4⟩ := h
    exact ⟨h1, a, cap, rfl, h2, h3, h5, .inl (by omega)⟩
section
variable {w : World}
/-- A slice of slices, new since w0, one of whose elements is then replaced. -/
theorem bad_cl {w w3 : World} {g cap : Nat} {ay : Option Addr} {capy i : Nat} {H : List (List Int)} {c : List Int} {vals : List Value} {pad : List Value} (hB : Blk w g (vals ++ pad) 22) (hv : vals.length = H.length) (hi : i < H.length) (hc : H.length ≤ cap) (hm : cap ≤ maxLen)
    (hs : ∀ (j : Nat) (d : List Int), H[j]? = some d → ∃ v, vals[j]? = some v ∧ SL w 1 v d.length (ints d) ∧ (0 < d.length → v.ownBlock ≠ some g)) (hy : SL w 1 (.slice ay c.length capy) c.length (ints c)) (hyg : 0 < c.length → (Value.slice ay c.length capy).ownBlock ≠ some g) (hw : w3 = w.setCell ⟨g, i, none⟩ (.slice ay c.length capy)) :
    CL w3 (.slice (some ⟨g, 0, none⟩) H.length cap) (H.set i c) := by
  have us : Upd [g] w w3 := by rw [hw]; exact (Upd.refl [g] w).set (by simp) _
  have hB2 := hB.set i (.slice ay c.length capy)
  rw [List.set_append_left _ _ (by omega), ← hw] at hB2
  have el : (H.set i c).length = H.length := List.length_set
  refine ⟨vals.set i (.slice ay c.length capy), by rw [List.length_set, el]; exact hv, by rw [el]; exact SL.of_blk hB2 (by rw [List.length_set]; omega) hc hm, fun j d hd => ?_⟩
  rw [List.getElem?_set] at hd
  rw [List.getElem?_set]
  by_cases hj : i = j
  · subst hj
    rw [if_pos rfl, if_pos hi] at hd
    rw [if_pos rfl, if_pos (by omega)]
    cases hd
    exact ⟨_, rfl, SL.upd0 hy us (fun h0 b hb => by simp at hb; subst hb; exact hyg h0)⟩
  · rw [if_neg hj] at hd
    rw [if_neg hj]
    obtain ⟨v, h1, h2, h3⟩ := hs j d hd
    exact ⟨v, h1, SL.upd0 h2 us (fun h0 b hb => by simp at hb; subst hb; exact h3 h0)⟩
set_option maxRecDepth 100000 in
set_option maxHeartbeats 8000000 in
theorem ClauseChains_calls {lv mv : Value} {xs ms : List Int} (hx : ∀ x ∈ xs, IsI64 x) (hl : SL w 1 lv xs.length (ints xs)) (hmx : ∀ x ∈ ms, IsI64 x) (hml : SL w 1 mv ms.length (ints ms)) (n at' : Int) (hn : IsI64 n) (hat : IsI64 at') :
    Calls Try.prog 3 #[lv, mv, .int .i64 n, .int .i64 at'] w fun e w' => e = .returned (.bool true) ∧ Upd [] w w' := by
  have HX := Lib.hid (And.intro hx (And.intro hl (And.intro hmx hml)))
  clear hx hl hmx hml
  go_enter Try.func3, Try.ntmps3
  go_wp2_with fail
  refine (Lists_calls HX.out.1 HX.out.2.1 n hn).mono ?_
  rintro e w1 ⟨v1, Ls, rfl, hcl, hln, hel, hu1⟩
  obtain ⟨a, cap, rfl, hc1, hc2, hcc⟩ := hcl.form
  have HL := Lib.hid (And.intro hcc (And.intro hu1 (And.intro hcl (HX.out.2.2.2.upd hu1 (by simp)))))
  have hLn : Ls.length ≤ 9 := by omega
  have hLn2 : 9 ≤ Ls.length := by omega
  clear hcl hln hel hu1 hcc
  go_wp2_with fail
  go_loopw [10] (fun i wr => ∃ k : Nat, k ≤ Ls.length ∧ i = .int .i64 k ∧ Upd [] w1 wr) (fun i _ => Ls.length - (intOf i).toNat)
  case atStart => exact ⟨0, Nat.zero_le _, rfl, Upd.refl _ _⟩
  case round =>
    obtain ⟨i, hi, rfl, hu⟩ := hrel
    have HU := Lib.hid hu
    clear hu
    by_cases hlt : i < Ls.length
    · obtain ⟨wo, rfl⟩ : ∃ wo : World, wo = wr := ⟨_, rfl⟩
      go_wp2_with fail
      go_loopw [11] (fun k wr => ∃ j : Nat, 1 ≤ j ∧ j ≤ 4 ∧ k = .int .i64 j ∧ Upd [] w1 wr) (fun k _ => 4 - (intOf k).toNat)
      case atStart => exact ⟨1, by omega, by omega, rfl, HU.out⟩
      case round =>
        clear HU
        obtain ⟨w2, rfl⟩ : ∃ w2 : World, w2 = wr := ⟨_, rfl⟩
        obtain ⟨j, hj1, hj, rfl, hu⟩ := hrel
        by_cases hltj : j < 4
        · have HU := Lib.hid hu
          clear hu
          go_wp2_with fail
          refine (Hints_calls HX.out.2.2.1 (HL.out.2.2.2.upd HU.out (by simp)) j (by omega) (by omega)).mono ?_
          rintro e w3 ⟨vh, H, rfl, hH, hHn, _, hu3⟩
          obtain ⟨ah, ch, rfl, _, _, hcH⟩ := hH.form
          obtain ⟨hvals, hvl, hvS, hvE⟩ := hH.ex
          have H3 := Lib.hid (And.intro hH (And.intro (HU.out.step hu3) (And.intro hvS hvE)))
          clear hH hcH hu3 HU hvS hvE
          go_upto_region 9 with fail
          refine wp_region_lit ?_
          refine wpList_cutH 2 (fun K hK => ?_)
          simp only [List.take_succ_cons, List.take_zero]
          go_wp2_with fail
          refine Halt_.intro ?_; try simp only [List.drop_succ_cons, List.drop_zero]
          have g0 := owns_none (w := w3) rfl 22
          have u0 := (Upd.refl [] w3).alloc (.cells #[] 22)
          have S0 := H3.out.2.2.1.upd u0 (by simp)
          have hs4 : w3.heap.size < (w3.alloc (.cells #[] 22)).heap.size := by simp
          generalize w3.alloc (.cells #[] 22) = w4 at *
          refine wpList_appS rfl _ _ _ rfl 22 1 24 _ Try.underlying23 infoInts rfl (by decide) (.slice (some ⟨w3.heap.size, 0, none⟩) 0 0) 0 [] rfl (owns_blk g0 rfl (by unfold maxLen; omega)) (.slice ah H.length ch) H.length hvals rfl S0 ?_ (by unfold maxLen; omega) (by omega) ?_
          · intro u hu
            obtain ⟨k, hk, rfl⟩ := List.getElem_of_mem hu
            obtain ⟨v, hv, hs⟩ := H3.out.2.2.2 k _ (gd_some (d := []) (show k < H.length by omega))
            rw [List.getElem?_eq_getElem hk] at hv
            cases hv
            obtain ⟨_, _, _, he, _⟩ := hs
            rw [he]; rfl
          intro a5 c5 w5 o5 u5 k5
          simp only [Act.put, List.setIfInBounds_toArray, List.set_cons_zero, List.set_cons_succ]
          rw [List.nil_append] at o5
          simp only [Nat.zero_add] at o5 u5 k5 ⊢
          have U5 : Upd [] w3 w5 := u0.fresh u5 (fun j hj => .inr (by simp [Value.ownBlock] at hj; omega))
          have hfr : ∀ g, (Value.slice a5 H.length c5).ownBlock = some g → w3.heap.size ≤ g := fun g hg => by
            rcases k5 with h | h <;> rw [hg] at h <;> simp [Value.ownBlock] at h <;> omega
          have H5 := Lib.hid (And.intro U5 (And.intro o5 hfr))
          clear g0 u0 S0 hs4 o5 u5 k5 U5 hfr
          go_upto_if 35 with fail
          go_cut [13] (fun t wq => ∃ Bd, CL wq t Bd ∧ Bd.length = H.length ∧ Upd [] w3 wq)
          case first =>
            by_cases hpos : 0 < H.length
            · obtain ⟨g5, p5, he, hg5, hc5⟩ := owns_form H5.out.2.1 hpos
              cases he
              have hfr := H5.out.2.2 g5 rfl
              obtain ⟨hl5, hrow⟩ := H5.out.2.1
              rcases hrow with ⟨hr, _⟩ | ⟨g', cap', cur, he, _, hcur, hnc, hcm, hcs, htake⟩
              · cases hr
              cases he
              have B5 : Blk w5 g5 (hvals ++ cur.toList.drop H.length) 22 := by
                unfold Blk
                rw [hcur]
                congr 2
                apply Array.toList_inj.1
                simp only [List.toList_toArray]
                rw [← htake]
                conv => lhs; rw [← List.take_append_drop H.length cur.toList]
                rw [Nat.mul_one]
              have ha0 := around_lo (n := at') (k := H.length) (by omega)
              have ha1 := around_hi (n := at') (k := H.length) (by omega)
              obtain ⟨ix, hix⟩ := Int.eq_ofNat_of_zero_le ha0
              have hixl : ix < H.length := by omega
              have hAR := fun w => Around_calls at' H.length w hat (by omega) (by omega)
              rw [hix] at hAR
              have HAR := Lib.hid hAR
              obtain ⟨v0, hv0, _⟩ := H3.out.2.2.2 ix _ (gd_some (d := []) hixl)
              have cb0 := B5.cell (i := ix) (by rw [List.getElem?_append_left (by omega)]; exact hv0)
              have fb0 := B5.free ix
              obtain ⟨g, off, ay, capy, rfl, e1, hsl1, _, _⟩ := HL.out.1 i hlt
              have U15 := H3.out.2.1.step H5.out.1
              have hin0 := H3.out.2.1.size
              have hyo : 0 < (Ls.getD i []).length → (Value.slice ay (Ls.getD i []).length capy).ownBlock ≠ some g5 := fun h0 he => by
                have := SL.own_lt1 hsl1 h0 he; omega
              have hsl := hsl1.upd U15 (by simp)
              replace e1 := U15.some e1 (by simp)
              have HB := Lib.hid (And.intro B5 (And.intro hsl (And.intro hyo (And.intro hnc (And.intro hcm (show ∀ (k : Nat) (d : List Int), H[k]? = some d → ∃ v, hvals[k]? = some v ∧ SL w5 1 v d.length (ints d) ∧ (0 < d.length → v.ownBlock ≠ some g5) from fun k d hd => by
                obtain ⟨v, h1, h2⟩ := H3.out.2.2.2 k d hd
                exact ⟨v, h1, h2.upd H5.out.1 (by simp), fun h0 he => by have := SL.own_lt1 h2 h0 he; omega⟩))))))
              generalize Ls.getD i [] = c at *
              have hp2 : (0 : Int) < H.length := by omega
              clear hl5 hcur hcs htake B5 ha0 ha1 hix hAR hv0 hsl1 U15 hin0 hyo hsl
              go_wp2_with fail
              refine wp_region_ord 10 1 [0, 1, 2, 3, 5, 6, 7, 8, 9] [8] [0, 1, 2, 3, 5, 6, 7, 8, 4, 9, 10] (fun w' => ∃ x : Ext w5, w' = x.val) (by kernel_rfl) (by kernel_rfl) (Ext.of (by iterate 25 (first | exact Upd.refl _ _ | assumption | refine Upd.alloc ?_ _ | refine Upd.drew ?_ | refine Upd.drewN ?_ _ | refine Upd.dl ?_ | refine Upd.step ?_ (Ext.upd _) | refine Upd.nil ?_ | skip))) ?_
              repeat (first | (refine wpOrd_load rfl rfl rfl rfl (fun K hK => ?_); go_big_quiet_step (fail); refine wpQuiet_nil ?_; refine hK _ ?_; clear hK K) | (refine wpOrd_free rfl rfl rfl (fun K hK => ?_); go_big_quiet_step (fail); refine wpQuiet_nil ?_; refine hK _ ?_; clear hK K))
              refine wpOrd_fix rfl rfl (fun K hK => ?_)
              go_wp2_with (go_at_call 13; refine (HAR.out _).mono ?_; rintro e w' ⟨rfl, rfl⟩)
              refine ⟨fun _ => Ext.of (by iterate 25 (first | exact Upd.refl _ _ | assumption | refine Upd.alloc ?_ _ | refine Upd.drew ?_ | refine Upd.drewN ?_ _ | refine Upd.dl ?_ | refine Upd.step ?_ (Ext.upd _) | refine Upd.nil ?_ | skip)), ?_⟩
              repeat (first | (refine wpOrd_load rfl rfl rfl rfl (fun K hK => ?_); go_big_quiet_step (fail); refine wpQuiet_nil ?_; refine hK _ ?_; clear hK K) | (refine wpOrd_free rfl rfl rfl (fun K hK => ?_); go_big_quiet_step (fail); refine wpQuiet_nil ?_; refine hK _ ?_; clear hK K))
              refine wpOrd_fix rfl rfl (fun K hK => ?_)
              go_wp2_with fail
              refine ⟨fun hC => absurd hC (by decide), ?_⟩
              repeat (first | (refine wpOrd_load rfl rfl rfl rfl (fun K hK => ?_); go_big_quiet_step (fail); refine wpQuiet_nil ?_; refine hK _ ?_; clear hK K) | (refine wpOrd_free rfl rfl rfl (fun K hK => ?_); go_big_quiet_step (fail); refine wpQuiet_nil ?_; refine hK _ ?_; clear hK K))
              refine wpOrd_nil ?_
              have US : Upd [g5] w5 (w5.setCell ⟨g5, ix, none⟩ (.slice ay c.length capy)) := (Upd.refl [g5] w5).set (by simp) _
              have hcl := bad_cl HB.out.1 hvl hixl HB.out.2.2.2.1 HB.out.2.2.2.2.1 HB.out.2.2.2.2.2 HB.out.2.1 HB.out.2.2.1 rfl
              have UR : Upd [] w3 (w5.setCell ⟨g5, ix, none⟩ (.slice ay c.length capy)) := H5.out.1.fresh US (fun b hb => by simp at hb; subst hb; exact .inr hfr)
              go_wp2_with fail
              go_meet
              case rel => exact ⟨H.set ix c, hcl.upd (by iterate 25 (first | exact Upd.refl _ _ | assumption | refine Upd.alloc ?_ _ | refine Upd.drew ?_ | refine Upd.drewN ?_ _ | refine Upd.dl ?_ | refine Upd.step ?_ (Ext.upd _) | refine Upd.nil ?_ | skip)), List.length_set, Upd.step UR (by iterate 25 (first | exact Upd.refl _ _ | assumption | refine Upd.alloc ?_ _ | refine Upd.drew ?_ | refine Upd.drewN ?_ _ | refine Upd.dl ?_ | refine Upd.step ?_ (Ext.upd _) | refine Upd.nil ?_ | skip))⟩
            · have hp2 : ¬ (0 : Int) < H.length := by omega
              have hsl5 := SL.of_owns H5.out.2.1
              go_wp2_with fail
              go_meet
              case rel => exact ⟨H, ⟨hvals, hvl, hsl5, fun k d hd => by simp [List.eq_nil_of_length_eq_zero (show H.length = 0 by omega)] at hd⟩, rfl, H5.out.1⟩
          case rest =>
          obtain ⟨Bd, hBd, hBl, huq⟩ := hcut
          obtain ⟨ab, cb, rfl, _, _, hcb⟩ := hBd.form
          have HBl := Lib.hid hBl
          obtain ⟨g, off, ay, capy, rfl, e1, hsl, _, _⟩ := (HL.out.1 i hlt).upd (H3.out.2.1.step huq)
          obtain ⟨g', off', az, capz, he, e2, hsl2, _, _⟩ := (HL.out.1 0 (by omega)).upd (H3.out.2.1.step huq)
          cases he
          have hbd6 : Bd.length ≤ 6 := by omega
          have H6 := Lib.hid (And.intro hBd (And.intro (H3.out.1.upd huq) (And.intro hsl (And.intro hsl2 (H3.out.2.1.step huq)))))
          generalize Ls.getD i [] = c at *
          generalize Ls.getD 0 [] = d at *
          simp only [Nat.add_zero] at e2
          clear hBd hBl huq hcb hsl hsl2
          obtain ⟨w6, rfl⟩ : ∃ w6 : World, w6 = wc := ⟨_, rfl⟩
          have C1 := Lib.hid (fun (w' : World) (u' : Upd [] w6 w') => (show Calls Try.prog 14 _ w' (fun e w'' => e = .returned (.int .i64 (chainRes c H)) ∧ Upd [] w' w'') from Chain_calls (H6.out.2.2.1.upd u' (by simp)) (H6.out.2.1.upd u') (by omega)))
          have C2 := Lib.hid (fun (w' : World) (u' : Upd [] w6 w') => (show Calls Try.prog 15 _ w' (fun e w'' => e = .returned (.int .i64 (chainRes c H)) ∧ Upd [] w' w'') from RChain_calls (H6.out.2.2.1.upd u' (by simp)) (H6.out.2.1.upd u') (by omega)))
          have C3 := Lib.hid (fun (w' : World) (u' : Upd [] w6 w') => (show Calls Try.prog 14 _ w' (fun e w'' => e = .returned (.int .i64 (chainRes d Bd)) ∧ Upd [] w' w'') from Chain_calls (H6.out.2.2.2.1.upd u' (by simp)) (H6.out.1.upd u') (by omega)))
          have C4 := Lib.hid (fun (w' : World) (u' : Upd [] w6 w') => (show Calls Try.prog 15 _ w' (fun e w'' => e = .returned (.int .i64 (chainRes d Bd)) ∧ Upd [] w' w'') from RChain_calls (H6.out.2.2.2.1.upd u' (by simp)) (H6.out.1.upd u') (by omega)))
          generalize chainRes c H = r1 at *
          generalize chainRes d Bd = r2 at *
          have hb1 : (r1 != r1) = false := by simp
          have hb2 : (r2 != r2) = false := by simp
          go_wp2_with fail
          refine wp_region_qx (by kernel_rfl) (by kernel_rfl) ?_
          repeat (go_big_quiet_step (((first | (go_at_call 14; with_reducible exact qx (C1.out _ (Ext.upd _))) | (go_at_call 15; with_reducible exact qx (C2.out _ (Ext.upd _))) | (go_at_call 14; with_reducible exact qx (C3.out _ (Ext.upd _))) | (go_at_call 15; with_reducible exact qx (C4.out _ (Ext.upd _)))))))
          refine wpQuiet_nil ?_
          intro x
          have H7 := Lib.hid (H6.out.2.2.2.2.step x.upd)
          clear e1 e2
          go_wp2_with fail
          exact ⟨⟨j + 1, by omega, by omega, by go_num, H7.out⟩, by simp [intOf]; omega⟩
        · have HF := Lib.hid hu
          clear hu
          go_wp2_with fail
          exact ⟨⟨i + 1, by omega, by go_num, HF.out⟩, by simp [intOf]; omega⟩
    · go_wp2_with fail
      refine (lives_calls).mono ?_
      rintro e w4 ⟨rfl, u4⟩
      go_wp2_with fail
      go_ret
      exact ⟨rfl, (HL.out.2.1.step HU.out).step u4⟩
end
end Law
end Go.Proofs.Ytgdpbhbdeaifbaa
