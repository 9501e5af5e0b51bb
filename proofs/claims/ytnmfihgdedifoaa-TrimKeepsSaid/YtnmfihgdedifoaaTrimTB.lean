/- Walks through the laws of package trim: TrimAgain. Conditions: none. -/
import Derived.Test.YtnmfihgdedifoaaTrimV
import Derived.Test.YtnmfihgdedifoaaTrimZ
import Derived.Test.YtnmfihgdedifoaaTrimBb
set_option linter.unusedVariables false
set_option linter.unusedSimpArgs false
set_option linter.unusedSectionVars false
open Go.RowKit
namespace Go.Proofs.Ytnmfihgdedifoaa
open L R01
namespace Trim
theorem MadeP.fewP {p : PrfD} {m : Int} (h : MadeP p m) : Few p := ⟨by have := h.few; omega, fun k st hk => by have := (h.good k st hk).hints; omega⟩
theorem few_pick {p : PrfD} (h : Few p) (u : Nat → Bool) : Few (pickP p u) := ⟨by rw [pick_llen]; have := cnt_le (refs p u) p.lemmas.length; have := h.nl; omega, pick_few h.hints⟩
/-- What a trimmed proof is. -/
structure Tri (p q : PrfD) : Prop where
  ok : check q = 0
  few : Few q
  again : pickP q (lastOn q.steps) = q
  all_ : ∀ k, k < q.steps.length → lastOn q.steps k = true
  le : q.steps.length ≤ p.steps.length
  pos : 0 < p.steps.length → 0 < q.steps.length
  prem : 0 < p.steps.length → ∀ R R', PremOf p.steps (rests p.steps (p.steps.length - 1)) R → PremOf q.steps (rests q.steps (q.steps.length - 1)) R' → R = R'
  lits : ∀ s t, p.steps[p.steps.length - 1]? = some s → q.steps[q.steps.length - 1]? = some t → t.lits = s.lits
theorem tri {p : PrfD} (hwf : Wf p) (hf : Few p) : Tri p (pickP p (lastOn p.steps)) := by
  have hc := lastOn_clo hwf.ok
  have hW := pick_wf hwf hc
  refine ⟨wf_check.2 hW, few_pick hf _, trim_again hwf, fun k hk => trim_all hwf hk, ?_, fun h => ?_, fun h R R' h1 h2 => ?_, fun s t hs ht => ?_⟩
  · rw [pick_len]; exact cnt_le _ _
  · rw [trim_len hwf h]; omega
  · refine prem_same hwf.ok hW.ok h1 h2 (fun x => ?_)
    have e : (pickP p (lastOn p.steps)).steps.length - 1 = cnt (lastOn p.steps) (p.steps.length - 1) := by rw [trim_len hwf h]; omega
    rw [e]
    exact pick_name hwf.ok hc (lastOn_last hwf.ok h) (by omega) x
  · have h : 0 < p.steps.length := by have := (List.getElem?_eq_some_iff.1 hs).1; omega
    have e : (pickP p (lastOn p.steps)).steps.length - 1 = cnt (lastOn p.steps) (p.steps.length - 1) := by rw [trim_len hwf h]; omega
    rw [e, pick_at (lastOn_last hwf.ok h) hs] at ht
    cases ht; rfl
section
variable {w : World}
set_option maxRecDepth 100000 in
set_option maxHeartbeats 16000000 in
theorem TrimAgain_calls {v : Value} {l : List Int} (h : SL w 1 v l.length (ints l)) (hx : ∀ x ∈ l, IsI64 x) :
    Calls Try.prog 5 #[v] w fun e w' => e = .returned (.bool true) ∧ Upd [] w w' := by
  obtain ⟨a, cap, rfl, _⟩ := SL.form h
  have HS := Lib.hid (SomeP_calls (most := 16) hx h (by omega) (by omega))
  clear hx h
  go_enter Try.func5, Try.ntmps5
  go_upto_region 2 with (go_at_call 25; (with_reducible refine HS.out.mono ?_); rintro e w1 ⟨v1, p, rfl, hp1, hm1, u1⟩; obtain ⟨a1, c1, b1, d1, rfl⟩ := hp1.form)
  have hwf := hm1.wf
  have hc := wf_check.2 hwf
  have hfew := hm1.fewP
  have hn : p.steps.length ≤ 16 := by have := hm1.len; omega
  have HT := Lib.hid (tri hwf hfew)
  have ua := (Upd.refl [] w1).alloc (.cells #[.slice a1 p.lemmas.length c1, .slice b1 p.steps.length d1] 30)
  have H1 := Lib.hid (And.intro (hp1.ext' ua) (And.intro (Blk.new w1 [.slice a1 p.lemmas.length c1, .slice b1 p.steps.length d1] 30) (u1.step ua)))
  clear hp1 ua u1 HS hm1
  generalize hs1 : w1.heap.size = s1 at *
  generalize (w1.alloc (.cells #[.slice a1 p.lemmas.length c1, .slice b1 p.steps.length d1] 30)) = w2 at *
  clear hs1
  have p0 := H1.out.2.1.cell (i := 0) rfl
  have p1 := H1.out.2.1.cell (i := 1) rfl
  have HTR := Lib.hid (Trim_good H1.out.1 hc hfew)
  have HCP := Lib.hid hc
  generalize pickP p (lastOn p.steps) = q at *
  have hqn := HT.out.le
  clear hwf hc hfew
  go_upto_region 3 with (go_at_call 19; (with_reducible refine HTR.out.mono ?_); rintro e w3 ⟨v3, rfl, hP3, u3⟩; obtain ⟨a3, c3, b3, d3, rfl⟩ := hP3.form)
  have ua := (Upd.refl [] w3).alloc (.cells #[.slice a3 q.lemmas.length c3, .slice b3 q.steps.length d3] 30)
  have H3 := Lib.hid (And.intro (hP3.ext' ua) (And.intro (Blk.new w3 [.slice a3 q.lemmas.length c3, .slice b3 q.steps.length d3] 30) (And.intro (H1.out.2.2.step (u3.step ua)) (And.intro (H1.out.1.ext' (u3.step ua)) (H1.out.2.1.upd (u3.step ua) (by simp))))))
  clear ua u3 hP3 HTR H1 p0 p1
  generalize hs3 : w3.heap.size = s3 at *
  generalize (w3.alloc (.cells #[.slice a3 q.lemmas.length c3, .slice b3 q.steps.length d3] 30)) = w4 at *
  clear hs3
  have q0 := H3.out.2.1.cell (i := 0) rfl
  have q1 := H3.out.2.1.cell (i := 1) rfl
  have HTR := Lib.hid (by
    have h := Trim_good H3.out.1 HT.out.ok HT.out.few
    rw [HT.out.again] at h
    exact h)
  go_upto_region 4 with (go_at_call 19; (with_reducible refine HTR.out.mono ?_); rintro e w5 ⟨v5, rfl, hP5, u5⟩; obtain ⟨a5, c5, b5, d5, rfl⟩ := hP5.form)
  have ua := (Upd.refl [] w5).alloc (.cells #[.slice a5 q.lemmas.length c5, .slice b5 q.steps.length d5] 30)
  have uu := u5.step ua
  have H5 := Lib.hid (And.intro (hP5.ext' ua) (And.intro (Blk.new w5 [.slice a5 q.lemmas.length c5, .slice b5 q.steps.length d5] 30) (And.intro (H3.out.2.2.1.step uu) (And.intro (H3.out.2.2.2.1.ext' uu) (And.intro (H3.out.2.2.2.2.upd uu (by simp)) (And.intro (H3.out.1.ext' uu) (H3.out.2.1.upd uu (by simp))))))))
  clear ua uu u5 hP5 HTR H3 q0 q1
  generalize hs5 : w5.heap.size = s5 at *
  generalize (w5.alloc (.cells #[.slice a5 q.lemmas.length c5, .slice b5 q.steps.length d5] 30)) = w6 at *
  clear hs5
  have q0 := H5.out.2.2.2.2.2.2.cell (i := 0) rfl
  have q1 := H5.out.2.2.2.2.2.2.cell (i := 1) rfl
  have HUS := Lib.hid (Uses_good H5.out.2.2.2.2.2.1 HT.out.ok)
  go_upto_region 5 with (go_at_call 11; (with_reducible refine HUS.out.mono ?_); rintro e w7 ⟨gu, rfl, hBu, _, u7⟩)
  have H7 := Lib.hid (And.intro (H5.out.1.ext' u7) (And.intro (H5.out.2.1.upd u7 (by simp)) (And.intro (H5.out.2.2.1.step u7) (And.intro (H5.out.2.2.2.1.ext' u7) (And.intro (H5.out.2.2.2.2.1.upd u7 (by simp)) (And.intro (H5.out.2.2.2.2.2.1.ext' u7) (And.intro (H5.out.2.2.2.2.2.2.upd u7 (by simp)) hBu)))))))
  clear hBu u7 H5 q0 q1 HUS
  have p0 := H7.out.2.2.2.2.1.cell (i := 0) rfl
  have p1 := H7.out.2.2.2.2.1.cell (i := 1) rfl
  have q0 := H7.out.2.2.2.2.2.2.1.cell (i := 0) rfl
  have q1 := H7.out.2.2.2.2.2.2.1.cell (i := 1) rfl
  have r0 := H7.out.2.1.cell (i := 0) rfl
  have r1 := H7.out.2.1.cell (i := 1) rfl
  have HSM := Lib.hid (by
    have h := same_calls H7.out.2.2.2.2.2.1 H7.out.1
    rw [samePr_true rfl] at h
    exact h)
  have hle : ¬ (q.steps.length : Int) > p.steps.length := by omega
  go_upto_region 7 with (go_at_call 22; (with_reducible refine HSM.out.mono ?_); rintro e w8 ⟨rfl, u8⟩; have q1' := u8.some q1 (by simp); have p1' := u8.some p1 (by simp))
  have U8 := Lib.hid u8
  clear q1' p1' p0 p1 q0 q1 r0 r1 u8 HSM
  have p1 := (H7.out.2.2.2.2.1.upd U8.out (by simp)).cell (i := 1) rfl
  have q1 := (H7.out.2.2.2.2.2.2.1.upd U8.out (by simp)).cell (i := 1) rfl
  have p0 := (H7.out.2.2.2.2.1.upd U8.out (by simp)).cell (i := 0) rfl
  have q0 := (H7.out.2.2.2.2.2.2.1.upd U8.out (by simp)).cell (i := 0) rfl
  by_cases hn0 : p.steps.length = 0
  · have hz1 : ((p.steps.length : Int) == 0) = true := by rw [beq_iff_eq]; omega
    have hz2 : ((q.steps.length : Int) == 0) = true := by rw [beq_iff_eq]; omega
    have HL := Lib.hid (lives_calls (w := w8))
    clear hn0 hle hqn
    go_wp2_with (go_at_call 17; (with_reducible refine HL.out.mono ?_); rintro e w9 ⟨rfl, u9⟩)
    go_ret
    exact ⟨rfl, H7.out.2.2.1.step (U8.out.step u9)⟩
  · have hz1 : ((p.steps.length : Int) == 0) = false := beq_eq_false_iff_ne.2 (by omega)
    have hnp : 0 < p.steps.length := by omega
    have hmp := HT.out.pos hnp
    have hz2 : ((q.steps.length : Int) == 0) = false := beq_eq_false_iff_ne.2 (by omega)
    have HB := Lib.hid (H7.out.2.2.2.2.2.2.2.upd U8.out (by simp))
    have HPP := Lib.hid (by
      have h := Prem_good (H7.out.2.2.2.1.ext' U8.out) HCP.out (s := p.steps.length - 1) (by omega)
      rw [show ((p.steps.length - 1 : Nat) : Int) = (p.steps.length : Int) - 1 by omega] at h
      exact h)
    have HPQ := Lib.hid (fun (W : World) (u : Upd [] w8 W) => by
      have h := Prem_good (H7.out.2.2.2.2.2.1.ext' (U8.out.step u)) HT.out.ok (s := q.steps.length - 1) (by omega)
      rw [show ((q.steps.length - 1 : Nat) : Int) = (q.steps.length : Int) - 1 by omega] at h
      exact h)
    clear hn0
    go_wp2_with fail
    go_loopw [10] (fun i wr => ∃ k : Nat, i = .int .i64 k ∧ k ≤ q.steps.length ∧ wr = w8) (fun i _ => q.steps.length - (intOf i).toNat)
    case atStart => exact ⟨0, rfl, by omega, rfl⟩
    case round =>
      obtain ⟨k, rfl, hk, rfl⟩ := hrel
      by_cases hlt : k < q.steps.length
      · have hki : (k : Int) < q.steps.length := by omega
        have d := HB.out.cell (i := k) (bools_get (tab_get (u := lastOn q.steps) hlt))
        rw [HT.out.all_ k hlt] at d
        go_wp2_with fail
        exact ⟨⟨k + 1, by go_num, by omega, by first | trivial | rfl⟩, by simp [intOf]; omega⟩
      · have hki : ¬ (k : Int) < q.steps.length := by omega
        clear hlt hk
        go_upto_region 15 with (go_at_call 13; (with_reducible refine HPP.out.mono ?_); rintro e w9 ⟨v9, R9, rfl, hN9, hP9, u9⟩; obtain ⟨a9, c9, rfl, _⟩ := hN9.cells)
        have H9 := Lib.hid (And.intro hN9 (And.intro hP9 u9))
        clear hN9 hP9 u9 HPP p0 p1
        have q1' := H9.out.2.2.some q1 (by simp)
        have q0' := H9.out.2.2.some q0 (by simp)
        clear q0 q1
        go_upto_region 16 with (go_at_call 13; (with_reducible refine (HPQ.out _ H9.out.2.2).mono ?_); rintro e w10 ⟨v10, R10, rfl, hN10, hP10, u10⟩; obtain ⟨a10, c10, rfl, _⟩ := hN10.cells)
        have hRR := HT.out.prem hnp R9 R10 H9.out.2.1 hP10
        subst hRR
        have U10 := (U8.out.step H9.out.2.2).step u10
        have H10 := Lib.hid (And.intro (H9.out.1.ext u10) (And.intro hN10 U10))
        clear hN10 hP10 u10 q0' q1' HPQ
        have p1 := (H7.out.2.2.2.2.1.upd U10 (by simp)).cell (i := 1) rfl
        have q1 := (H7.out.2.2.2.2.2.2.1.upd U10 (by simp)).cell (i := 1) rfl
        obtain ⟨_, _, ep, _, hSp⟩ := H7.out.2.2.2.1.ext' U10
        obtain ⟨_, _, eq, _, hSq⟩ := H7.out.2.2.2.2.2.1.ext' U10
        cases ep
        cases eq
        obtain ⟨_, _, ep, _, _, hatp⟩ := hSp.at_
        obtain ⟨_, _, eq, _, _, hatq⟩ := hSq.at_
        cases ep
        cases eq
        have hsp := List.getElem?_eq_getElem (show p.steps.length - 1 < p.steps.length by omega)
        have hsq := List.getElem?_eq_getElem (show q.steps.length - 1 < q.steps.length by omega)
        have hlits := HT.out.lits _ _ hsp hsq
        obtain ⟨gp, vp1, vp2, vp3, rfl, hcp, hFp⟩ := hatp _ _ hsp
        obtain ⟨gq, vq1, vq2, vq3, rfl, hcq, hFq⟩ := hatq _ _ hsq
        generalize p.steps[p.steps.length - 1]'(by omega) = sp at *
        generalize q.steps[q.steps.length - 1]'(by omega) = sq at *
        have lp := hcp 5 _ rfl
        have lq := hcq 5 _ rfl
        have hLP := hFp.2.1
        have hLQ := hFq.2.1
        obtain ⟨ap, cp, rfl, _⟩ := hLP.cells
        obtain ⟨aq, cq, rfl, _⟩ := hLQ.cells
        have HLL := Lib.hid (And.intro hLP (And.intro hLQ hlits))
        clear hLP hLQ hlits hFp hFq hcp hcq hsp hsq hatp hatq hSp hSq U10
        refine wp_region_ord 36 1 [0, 1, 2, 3, 4, 5, 6, 7, 8, 10, 11, 12, 13, 14, 15, 16, 17, 18, 19, 20, 21, 22, 23, 24, 25, 26, 27, 28, 29, 31, 32, 34, 35] [13, 15, 20, 22, 24, 29] [0, 1, 2, 3, 4, 5, 6, 7, 8, 9, 10, 11, 12, 13, 14, 15, 16, 17, 18, 19, 20, 21, 22, 23, 24, 25, 26, 27, 28, 29, 30, 31, 32, 33, 34, 35] (fun w' => ∃ x : Ext w10, w' = x.val) (by kernel_rfl) (by kernel_rfl) (Ext.of ((Upd.refl _ _).drew)) ?_
        repeat (first | (refine wpOrd_load rfl rfl rfl rfl (fun K hK => ?_); go_big_quiet_step (fail); refine wpQuiet_nil ?_; refine hK _ ?_; clear hK K) | (refine wpOrd_free rfl rfl rfl (fun K hK => ?_); go_big_quiet_step (fail); refine wpQuiet_nil ?_; refine hK _ ?_; clear hK K))
        refine wpOrd_fix rfl rfl (fun K hK => ?_)
        have ud : Upd [] w10 w10.drew := (Upd.refl _ w10).drew
        have HSN := Lib.hid (by
          have h := sameN_calls (H10.out.1.ext ud) (H10.out.2.1.ext ud)
          rw [sameN_iff.2 rfl] at h
          exact h)
        clear ud
        go_wp2_with (go_at_call 14; (with_reducible refine HSN.out.mono ?_); rintro e w11 ⟨rfl, u11⟩)
        have U11 : Upd [] w10 w11 := ((Upd.refl _ w10).drew).step u11
        refine ⟨fun _ => Ext.of U11, ?_⟩
        have H11 := Lib.hid U11
        clear u11 U11 HSN
        repeat (first | (refine wpOrd_load rfl rfl rfl rfl (fun K hK => ?_); go_big_quiet_step (fail); refine wpQuiet_nil ?_; refine hK _ ?_; clear hK K) | (refine wpOrd_free rfl rfl rfl (fun K hK => ?_); go_big_quiet_step (fail); refine wpQuiet_nil ?_; refine hK _ ?_; clear hK K))
        refine wpOrd_fix rfl rfl (fun K hK => ?_)
        have HSI := Lib.hid (by
          have h := SameInts_calls (HLL.out.1.ext H11.out).sl (HLL.out.2.1.ext H11.out).sl
          rw [decide_eq_true HLL.out.2.2.symm] at h
          exact h)
        go_wp2_with (go_at_call 24; (with_reducible refine HSI.out.mono ?_); rintro e w12 ⟨rfl, u12⟩)
        have U12 : Upd [] w10 w12 := H11.out.step u12
        refine ⟨fun _ => Ext.of U12, ?_⟩
        have H12 := Lib.hid U12
        clear u12 U12 HSI
        repeat (first | (refine wpOrd_load rfl rfl rfl rfl (fun K hK => ?_); go_big_quiet_step (fail); refine wpQuiet_nil ?_; refine hK _ ?_; clear hK K) | (refine wpOrd_free rfl rfl rfl (fun K hK => ?_); go_big_quiet_step (fail); refine wpQuiet_nil ?_; refine hK _ ?_; clear hK K))
        refine wpOrd_fix rfl rfl (fun K hK => ?_)
        have HL := Lib.hid (lives_calls (w := w12))
        go_wp2_with (go_at_call 17; (with_reducible refine HL.out.mono ?_); rintro e w13 ⟨rfl, u13⟩)
        have U13 : Upd [] w10 w13 := H12.out.step u13
        refine ⟨fun _ => Ext.of U13, ?_⟩
        repeat (first | (refine wpOrd_load rfl rfl rfl rfl (fun K hK => ?_); go_big_quiet_step (fail); refine wpQuiet_nil ?_; refine hK _ ?_; clear hK K) | (refine wpOrd_free rfl rfl rfl (fun K hK => ?_); go_big_quiet_step (fail); refine wpQuiet_nil ?_; refine hK _ ?_; clear hK K))
        refine wpOrd_nil ?_
        go_wp2_with fail
        go_ret
        exact ⟨rfl, H7.out.2.2.1.step (H10.out.2.2.step U13)⟩
end
end Trim
end Go.Proofs.Ytnmfihgdedifoaa
