/- Walks through the laws of learning: LearnKeeps. Conditions: none. -/
import Derived.Test.YtdhhohnaehdpkaaLearnN
import Derived.Test.YtdhhohnaehdpkaaSameL
import Derived.Test.YtdhhohnaehdpkaaKpA
set_option linter.unusedVariables false
set_option linter.unusedSimpArgs false
set_option linter.unusedSectionVars false
open Go.RowKit
namespace Go.Proofs.Ytdhhohnaehdpkaa
open L
namespace Learn
open Trail Cla R01 R14
/-- A slice of ints that may be written. -/
def Wr (a : Option Addr) (n : Nat) (w : World) : Prop := n = 0 ∨ ∃ g cs, a = some ⟨g, 0, none⟩ ∧ Blk w g cs 3 ∧ n ≤ cs.length
theorem Wr.of {w0 w : World} {a : Option Addr} {cap : Nat} {xs : List Int} (h : Own w0 (.slice a xs.length cap) xs w) : Wr a xs.length w := by
  rcases h.row.2 with ⟨h1, h2⟩ | ⟨g, cap', cur, he, _, hg, hnc, hcm, hcs, _⟩
  · exact .inl h2
  · simp only [Value.slice.injEq] at he
    obtain ⟨rfl, _, rfl⟩ := he
    exact .inr ⟨g, cur.toList, rfl, by unfold Blk; rw [Array.toArray_toList]; exact hg, by have := Array.length_toList (xs := cur); omega⟩
theorem Wr.upd {S : List Nat} {a : Option Addr} {n cap : Nat} {w w' : World} (h : Wr a n w) (u : Upd S w w') (hS : ∀ q ∈ S, (Value.slice a n cap).ownBlock ≠ some q) : Wr a n w' := by
  rcases h with h | ⟨g, cs, rfl, hb, hn⟩
  · exact .inl h
  · exact .inr ⟨g, cs, rfl, hb.upd u (fun hm => hS g hm rfl), hn⟩
section
variable {w : World}
set_option maxRecDepth 100000 in
set_option maxHeartbeats 16000000 in
theorem LearnKeeps_calls {v : Value} {xs : List Int} (hx : ∀ x ∈ xs, IsI64 x) (hl : SL w 1 v xs.length (ints xs)) {ch by_ : Int} (hch : IsI64 ch) (hby : IsI64 by_) :
    Calls Try.prog 6 #[v, .int .i64 ch, .int .i64 by_] w fun e w' => e = .returned (.bool true) ∧ Upd [] w w' := by
  have HS := Lib.hid (Scene_calls hx hl hch)
  have HK := Lib.hid (fun c (h : c ∈ clsL xs) => clsL_ok h)
  have hln := clsL_length xs
  have HY2 := Lib.hid (fun (W : World) (u : Upd [] w W) => LClauses_calls hx (hl.upd u (by simp)))
  generalize clsL xs = L at *
  clear hx hl hby
  go_enter Try.func6, Try.ntmps6
  go_upto_region 2 with (go_at_call 9; (with_reducible refine HS.out.mono ?_); rintro e w1 ⟨ov, mv, cf, rfl, F, es, hO, hF, hm, hv, u1, hcf, hap⟩)
  have HM := Lib.hid (Made8_calls hv.sl hm.wf)
  have H1 := Lib.hid (And.intro hO (And.intro hF (And.intro hm (And.intro hv u1))))
  clear HS hO hF hm hv u1 hap
  go_upto_region 3 with (go_at_call 11; (with_reducible refine HM.out.mono ?_); rintro e w2 ⟨b, rfl, S, hT, hS, u2⟩)
  have H2 := Lib.hid (And.intro (H1.out.1.upd u2 (by simp)) (And.intro hT (And.intro (H1.out.2.2.2.2.step u2) (H1.out.2.2.2.1.sl.upd u2 (by simp)))))
  clear hT hS u2 HM
  rcases hcf with rfl | ⟨hc0, hc1, hcn⟩
  · go_wp2_with (go_at_call 17; (with_reducible refine lives_calls.mono ?_); rintro e w3 ⟨rfl, u3⟩)
    go_ret
    exact ⟨rfl, H2.out.2.2.1.step u3⟩
  · obtain ⟨kc, rfl⟩ := Int.eq_ofNat_of_zero_le hc0
    have hkL : kc < L.length := by omega
    have hcm : cOf L kc ∈ L := by
      unfold cOf
      rw [Int.toNat_natCast, List.getD_eq_getElem?_getD, List.getElem?_eq_getElem hkL]
      exact List.getElem_mem _
    have hok := HK.out _ hcm
    replace hcn : ∀ x ∈ cOf L kc, tval 8 es x = -1 := hcn
    obtain ⟨g, d, hs, hg0, hln2⟩ := learnt H1.out.2.2.1 (by omega) hc0 hc1 hok.1 hcn
    have hd8 : d.length ≤ 65536 := (listErr_lit (validErr_ok.1 hln2.good.ok).1).1
    have hs9 : hs.length ≤ 9 := by
      have := hln2.len
      have := H1.out.2.2.1.wf.len
      omega
    obtain ⟨aL, cL, rfl, ql1, ql2, _⟩ := OwnL.cells H2.out.1
    have HAN := Lib.hid (show ∀ W : World, Upd [] w2 W → Calls Try.prog 13 #[.slice aL L.length cL, .pointer (some ⟨b, 0, none⟩), .int .i64 kc] W fun e w' => ∃ v1 v3, e = .returned (.tuple #[v1, .int .i64 (second es g d), v3, .int .i64 0]) ∧ Own W v1 d w' ∧ Own W v3 hs w' ∧ ∀ q, v1.ownBlock = some q → v3.ownBlock ≠ some q from fun W u => by
      have h1 := Analyze_calls (H2.out.2.1.upd u (by simp)) (H2.out.1.cl.upd u) (by omega) (cn := (kc : Int)) ⟨by omega, by omega⟩
      rw [hln2.res] at h1
      exact h1)
    have HEN := Lib.hid (show ∀ W : World, Upd [] w2 W → Calls Try.prog 23 #[.pointer (some ⟨b, 0, none⟩)] W (Wire.CloneT (eb 8 es).length (eb 8 es) W) from fun W u => Trail.Encode_calls (H2.out.2.1.upd u (by simp)))
    have hcneg : ¬ (kc : Int) < 0 := by omega
    have heb := eb_len 8 es
    have hes8 := H1.out.2.2.1.wf.len
    have HMV := Lib.hid (mv_cells H2.out.2.2.2)
    clear hln2 hcn hcm hok
    generalize hbs : eb 8 es = bs at *
    have HBS := Lib.hid hbs
    clear hbs
    go_upto_region 8 with (go_at_call 23; (with_reducible refine (HEN.out _ (Upd.refl _ _)).mono ?_); rintro e w3 ⟨aB, cB, rfl, oB, u3⟩)
    have H3 := Lib.hid (And.intro oB u3)
    have HA3 := Lib.hid (HAN.out w3 u3)
    clear oB u3
    go_upto_region 9 with (go_at_call 13; (with_reducible refine HA3.out.mono ?_); rintro e w4 ⟨v1, v3, rfl, o1, o3, hap⟩)
    obtain ⟨a1, cap1, rfl, q11, _⟩ := o1.form
    obtain ⟨a3, cap3, rfl, q31, _⟩ := o3.form
    have H4 := Lib.hid (And.intro o1 (And.intro o3 hap))
    clear o1 o3 hap HA3
    refine wp_region_lit ?_
    refine wpList_cutH 2 (fun K hK => ?_)
    simp only [List.take_succ_cons, List.take_zero]
    go_wp2_with fail
    refine Halt_.intro ?_; try simp only [List.drop_succ_cons, List.drop_zero]
    have g0 := owns_none (w := w4) rfl 3
    have s0 := H4.out.1.sl.upd ((Upd.refl [] w4).alloc (.cells #[] 3)) (by simp)
    have u0 := (Upd.refl [] w4).alloc (.cells #[] 3)
    have z0 := u0.size
    generalize hwn : w4.alloc (.cells #[] 3) = wn at *
    refine wpList_appS rfl _ _ _ rfl 3 1 8 _ Try.underlying22 Trail.infoInt rfl (by decide) (.slice (some ⟨w4.heap.size, 0, none⟩) 0 0) 0 [] rfl (owns_blk g0 rfl (by unfold maxLen; omega)) _ d.length (ints d) rfl s0 (ints_one _) (by unfold maxLen; omega) (by omega) ?_
    intro a5 cap5 w5 o5 u5 k5
    rw [Nat.zero_add, List.nil_append] at o5
    rw [Nat.zero_add] at k5 ⊢
    simp only [Act.put, List.setIfInBounds_toArray, List.set_cons_zero, List.set_cons_succ]
    have U45 : Upd [] w4 w5 := u0.fresh u5 (fun q hq => .inr (by simp [Value.ownBlock] at hq; omega))
    have HFR := Lib.hid (show ∀ q, (Value.slice a5 d.length cap5).ownBlock = some q → w4.heap.size ≤ q from fun q hq => by
      rcases k5 with k5 | k5 <;> rw [hq] at k5 <;> simp [Value.ownBlock] at k5 <;> omega)
    have H5 := Lib.hid (And.intro (SL.of_owns o5) U45)
    have HW1 := Lib.hid ((Wr.of H4.out.1).upd (cap := cap1) U45 (by simp))
    have HW3 := Lib.hid ((Wr.of H4.out.2.1).upd (cap := cap3) U45 (by simp))
    clear hwn g0 s0 u0 u5 k5 o5 U45
    go_wp2_with fail
    go_loopw [17] (fun iv wr => ∃ k : Nat, iv = .int .i64 k ∧ k ≤ d.length ∧ Wr a1 d.length wr ∧ Upd (Value.slice a1 d.length cap1).ownBlock.toList w5 wr) (fun iv _ => d.length - (numOf iv).toNat)
    case atStart => exact ⟨0, rfl, Nat.zero_le _, HW1.out, Upd.refl _ _⟩
    case round =>
      obtain ⟨wo, rfl⟩ : ∃ wo : World, wo = wr := ⟨_, rfl⟩
      obtain ⟨k, rfl, hk, hW, hU⟩ := hrel
      by_cases hlt : k < d.length
      · have hki : (k : Int) < d.length := by omega
        rcases hW with h0 | ⟨gw, cs, rfl, hb, hn⟩
        · omega
        · have e0 := hb.cell (i := k) (List.getElem?_eq_getElem (show k < cs.length by omega))
          have f0 := hb.free k
          have hb2 := hb.set k (.int .i64 by_)
          have us := hU.set (p := ⟨gw, k, none⟩) (.inl (by simp [Value.ownBlock])) (.int .i64 by_)
          have HX := Lib.hid (And.intro (show Wr (some ⟨gw, 0, none⟩) d.length (wo.setCell ⟨gw, k, none⟩ (.int .i64 by_)) from .inr ⟨gw, _, rfl, hb2, by simpa using hn⟩) us)
          generalize cs[k] = old at *
          clear hb hb2 us hU hn
          go_wp2_with fail
          exact ⟨⟨k + 1, by go_num, by omega, HX.out.1, HX.out.2⟩, by simp [numOf]; omega⟩
      · have hki : ¬ (k : Int) < d.length := by omega
        have HUo := Lib.hid hU
        have HW3o := Lib.hid (HW3.out.upd (cap := cap3) hU (fun q hq e => H4.out.2.2 q (by simpa using hq) e))
        clear hU hW
        go_upto_region 14 with fail
        clear hlt hki hk
        go_wp2_with fail
        go_loopw [18] (fun iv wr => ∃ k : Nat, iv = .int .i64 k ∧ k ≤ hs.length ∧ Wr a3 hs.length wr ∧ Upd (Value.slice a3 hs.length cap3).ownBlock.toList wo wr) (fun iv _ => hs.length - (numOf iv).toNat)
        case atStart => exact ⟨0, rfl, Nat.zero_le _, HW3o.out, Upd.refl _ _⟩
        case round =>
          obtain ⟨wp, rfl⟩ : ∃ wp : World, wp = wr := ⟨_, rfl⟩
          obtain ⟨k, rfl, hk, hW, hU⟩ := hrel
          by_cases hlt : k < hs.length
          · have hki : (k : Int) < hs.length := by omega
            rcases hW with h0 | ⟨gw, cs, rfl, hb, hn⟩
            · omega
            · have e0 := hb.cell (i := k) (List.getElem?_eq_getElem (show k < cs.length by omega))
              have f0 := hb.free k
              have hb2 := hb.set k (.int .i64 by_)
              have us := hU.set (p := ⟨gw, k, none⟩) (.inl (by simp [Value.ownBlock])) (.int .i64 by_)
              have HX := Lib.hid (And.intro (show Wr (some ⟨gw, 0, none⟩) hs.length (wp.setCell ⟨gw, k, none⟩ (.int .i64 by_)) from .inr ⟨gw, _, rfl, hb2, by simpa using hn⟩) us)
              generalize cs[k] = old at *
              clear hb hb2 us hU hn
              go_wp2_with fail
              exact ⟨⟨k + 1, by go_num, by omega, HX.out.1, HX.out.2⟩, by simp [numOf]; omega⟩
          · have hki : ¬ (k : Int) < hs.length := by omega
            have hf1 : ∀ q, (Value.slice a1 d.length cap1).ownBlock = some q → w3.heap.size ≤ q ∧ q < w4.heap.size := fun q hq => ⟨H4.out.1.fresh q hq, (H4.out.1.row.lt q hq).2⟩
            have hf3 : ∀ q, (Value.slice a3 hs.length cap3).ownBlock = some q → w3.heap.size ≤ q ∧ q < w4.heap.size := fun q hq => ⟨H4.out.2.1.fresh q hq, (H4.out.2.1.row.lt q hq).2⟩
            have U3p : Upd [] w3 wp := ((H4.out.1.u.step H5.out.2).fresh HUo.out (fun q hq => .inr (hf1 q (by simpa using hq)).1)).fresh hU (fun q hq => .inr (hf3 q (by simpa using hq)).1)
            have sF : SL wp 1 (.slice a5 d.length cap5) d.length (ints d) := (H5.out.1.upd HUo.out (fun q hq e => by
              have h1 := (hf1 q (by simpa using hq)).2
              have h2 := HFR.out q e
              omega)).upd hU (fun q hq e => by
              have h1 := (hf3 q (by simpa using hq)).2
              have h2 := HFR.out q e
              omega)
            have HP := Lib.hid (And.intro sF (And.intro (H3.out.1.sl.upd U3p (by simp)) (H3.out.2.step U3p)))
            clear hf1 hf3 U3p sF hU hW HUo HW3o HW3 HW1
            go_upto_region 18 with fail
            clear hlt hki hk
            have HCW := Lib.hid (HY2.out wp (H2.out.2.2.1.step HP.out.2.2))
            go_upto_region 19 with (go_at_call 18; (with_reducible refine HCW.out.mono ?_); rintro e w7 ⟨sv, rfl, F7, hO7, hF7, u7⟩)
            have H7 := Lib.hid (And.intro hO7.cl (And.intro (HP.out.1.upd u7 (by simp)) (And.intro (HP.out.2.1.upd u7 (by simp)) (HP.out.2.2.step u7))))
            have HA7 := Lib.hid (HAN.out w7 (HP.out.2.2.step u7))
            clear hO7 hF7 u7 HCW HY2
            go_upto_region 20 with (go_at_call 13; (with_reducible refine HA7.out.mono ?_); rintro e w8 ⟨v1', v3', rfl, o1', o3', hap'⟩)
            have H8 := Lib.hid (And.intro (H7.out.1.upd o1'.u) (And.intro (H7.out.2.1.upd o1'.u (by simp)) (And.intro (H7.out.2.2.1.upd o1'.u (by simp)) (And.intro o1'.sl (H7.out.2.2.2.step o1'.u)))))
            clear o1' o3' hap' HA7
            go_upto_region 21 with fail
            have hR := Rf.start (w := w8) 8 (by omega)
            have u0 := (Upd.refl [] w8).alloc (.cells #[.int .i64 8, .slice none 0 0, .slice none 0 0, .slice none 0 0] 42)
            change Ref.Rf (w8.alloc (.cells #[.int .i64 8, .slice none 0 0, .slice none 0 0, .slice none 0 0] 42)) _ _ _ _ at hR
            generalize hmb : w8.heap.size = mb at *
            generalize (w8.alloc (.cells #[.int .i64 8, .slice none 0 0, .slice none 0 0, .slice none 0 0] 42)) = w9 at *
            have H9 := Lib.hid (And.intro hR (And.intro u0 hmb))
            clear hR u0
            obtain ⟨aM, cM, hme, qm1, qm2, _⟩ := HMV.out
            subst hme
            go_wp2_with fail
            go_loopw [25] (fun i wr => ∃ (k : Nat) (Q : List Nat), i = .int .i64 k ∧ k ≤ es.length ∧ Ref.Rf wr mb 8 (es.take k) Q ∧ (∀ q ∈ Q, mb ≤ q) ∧ Upd [] w8 wr) (fun i _ => es.length - (numOf i).toNat)
            case atStart => exact ⟨0, [mb], rfl, Nat.zero_le _, H9.out.1, by simp, H9.out.2.1⟩
            case round =>
              obtain ⟨wq, rfl⟩ : ∃ wq : World, wq = wr := ⟨_, rfl⟩
              obtain ⟨k, Q, rfl, hk, hR, hS, hU⟩ := hrel
              have HR := Lib.hid (And.intro hR (And.intro hS hU))
              have U2q : Upd [] w2 wq := H8.out.2.2.2.2.step hU
              have HU2q := Lib.hid U2q
              clear hR hS hU U2q
              by_cases hlt : k < es.length
              · have hki : (k : Int) < es.length := by omega
                obtain ⟨_, _, hme, _, _, hc⟩ := HMV.out
                cases hme
                obtain ⟨g, off, rfl, k1, k2⟩ := hc k hlt
                have e1 := HU2q.out.some k1 (by simp)
                have e2 := HU2q.out.some k2 (by simp)
                have HW := Lib.hid H1.out.2.2.1.wf
                have hxl := HW.out.lit _ (at_mem hlt)
                have hrr := HW.out.rsn _ (at_mem hlt)
                have HPE := Lib.hid (put_take HW.out hlt)
                have HPT := Lib.hid (show ∀ W : World, Upd [] wq W → Calls Try.prog 24 #[.pointer (some ⟨mb, 0, none⟩), .int .i64 (at_ es k).1, .int .i64 (at_ es k).2] W fun e w' => e = .returned (.int .i64 0) ∧ ∃ S', Ref.Rf w' mb 8 (es.take (k + 1)) S' ∧ Upd Q W w' ∧ ∀ q ∈ S', q ∈ Q ∨ W.heap.size ≤ q from fun W u => by
                  have h1 := Ref.Put_calls (HR.out.1.upd u (by simp)) (at_ es k).1 (at_ es k).2 (by omega) ⟨by omega, by omega⟩
                  rwa [HPE.out.1, HPE.out.2] at h1)
                clear k1 k2 hxl hrr hc
                generalize (at_ es k).1 = y at *
                generalize (at_ es k).2 = r at *
                go_upto_region 24 with fail
                refine wp_region_ord 11 1 [0, 1, 2, 3, 4, 5, 6, 7, 8, 9, 10] [5, 10] [0, 1, 2, 3, 4, 5, 6, 7, 8, 9, 10, 11] (fun w' => ∃ x : Ext wq, w' = x.val) (by kernel_rfl) (by kernel_rfl) (Ext.of ((Upd.refl _ _).drew)) ?_
                repeat (first | (refine wpOrd_load rfl rfl rfl rfl (fun K hK => ?_); go_big_quiet_step (fail); refine wpQuiet_nil ?_; refine hK _ ?_; clear hK K) | (refine wpOrd_free rfl rfl rfl (fun K hK => ?_); go_big_quiet_step (fail); refine wpQuiet_nil ?_; refine hK _ ?_; clear hK K))
                refine wpOrd_fix rfl rfl (fun K hK => ?_)
                go_wp2_with (go_at_call 24; (with_reducible refine (HPT.out _ ((Upd.refl _ wq).drew)).mono ?_); rintro e wS ⟨rfl, S5, hR5, u5, hS5⟩)
                have u5' : Upd Q wq wS := (show Upd Q wq _ from (Upd.refl Q wq).drew).trans u5
                have HX := Lib.hid (And.intro hR5 (And.intro (show ∀ q ∈ S5, mb ≤ q from fun q hq => by
                  rcases hS5 q hq with h1 | h1
                  · exact HR.out.2.1 q h1
                  · have := HR.out.2.2.size
                    simp at h1
                    omega) (show Upd [] w8 wS from HR.out.2.2.fresh u5' (fun q hq => .inr (by have := HR.out.2.1 q hq; omega)))))
                clear hR5 u5 hS5 u5'
                refine ⟨fun hC => absurd hC (by decide), ?_⟩
                refine wpOrd_nil ?_
                go_wp2_with fail
                exact ⟨⟨k + 1, S5, by go_num, by omega, HX.out.1, HX.out.2.1, HX.out.2.2⟩, by simp [numOf]; omega⟩
              · have hki : ¬ (k : Int) < es.length := by omega
                have hR := HR.out.1
                rw [List.take_of_length_le (by omega)] at hR
                have H10 := Lib.hid (And.intro (H8.out.1.upd HR.out.2.2) (And.intro (H8.out.2.1.upd HR.out.2.2 (by simp)) (And.intro (H8.out.2.2.1.upd HR.out.2.2 (by simp)) (And.intro (H8.out.2.2.2.1.upd HR.out.2.2 (by simp)) (And.intro HU2q.out (H2.out.1.cl.upd HU2q.out))))))
                have HSLs := Lib.hid (SameL_calls H10.out.2.2.2.2.2 H10.out.1)
                have HSI := Lib.hid (show ∀ W : World, Upd [] wq W → Calls Try.prog 15 #[.slice a5 d.length cap5, v1'] W fun e w' => e = .returned (.bool true) ∧ Upd [] W w' from fun W u => by
                  have h1 := SameInts_calls (H10.out.2.1.upd u (by simp)) (H10.out.2.2.2.1.upd u (by simp))
                  simpa using h1)
                have HE := Lib.hid (fun (W : World) (u : Upd [] wq W) => HEN.out W (H10.out.2.2.2.2.1.step u))
                have HEM := Lib.hid (show ∀ W : World, Upd [] wq W → Calls Try.prog 26 #[.pointer (some ⟨mb, 0, none⟩)] W (R02.BytT bs W) from fun W u => by
                  have h1 := Ref.Encode_calls (hR.upd u (by simp))
                  rwa [HBS.out] at h1)
                have HSB := Lib.hid (show ∀ (W : World) (v' : Value), Upd [] wq W → SL W 1 v' bs.length (byts bs) → Calls Try.prog 25 #[.slice aB bs.length cB, v'] W fun e w' => e = .returned (.bool true) ∧ Upd [] W w' from fun W v' u s => by
                  have h1 := SameBytes_calls (H10.out.2.2.1.upd u (by simp)) s
                  simpa using h1)
                have HUF := Lib.hid (H2.out.2.2.1.step HU2q.out)
                clear hR HR HEN HAN
                go_upto_region 25 with fail
                clear hlt hki hk
                go_wp2_with (first
                  | (go_at_call 21; (with_reducible refine HSLs.out.mono ?_); rintro e wA ⟨rfl, uA⟩)
                  | (go_at_call 15; (with_reducible refine (HSI.out _ uA).mono ?_); rintro e wB ⟨rfl, uB⟩)
                  | (go_at_call 23; (with_reducible refine (HE.out _ (uA.step uB)).mono ?_); rintro e wC ⟨aC, cC, rfl, oC, uC⟩)
                  | (go_at_call 26; (with_reducible refine (HEM.out _ ((uA.step uB).step (uC.step uD))).mono ?_); rintro e wE ⟨aE, cE, rfl, oE⟩)
                  | (go_at_call 25; (with_reducible refine (HSB.out _ _ ((uA.step uB).step (uC.step (uD.step oE.u))) oE.sl).mono ?_); rintro e wF ⟨rfl, uF⟩)
                  | (go_at_call 25; (with_reducible refine (HSB.out _ _ ((uA.step uB).step uC) oC.sl).mono ?_); rintro e wD ⟨rfl, uD⟩)
                  | (go_at_call 17; (with_reducible refine lives_calls.mono ?_); rintro e wG ⟨rfl, uG⟩))
                go_ret
                exact ⟨rfl, HUF.out.step (((uA.step uB).step (uC.step (uD.step oE.u))).step (uF.step uG))⟩
end
end Learn
end Go.Proofs.Ytdhhohnaehdpkaa
