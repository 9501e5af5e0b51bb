/- Walks through the laws of learning: LearnForces, the walk. Conditions: none. -/
import Derived.Test.YtdhhohnaehdpkaaLearnFc
set_option linter.unusedVariables false
set_option linter.unusedSimpArgs false
set_option linter.unusedSectionVars false
open Go.RowKit
open Go.RowKit
namespace Go.Proofs.Ytdhhohnaehdpkaa
open L
namespace Learn
open Trail Cla R01 R14
theorem many_snoc' (es : Es) (g : Int) (D : List Int) (x : Int) : many es g (D ++ [x]) = many es g D + if lvl es x = g then 1 else 0 := by
  unfold many
  rw [List.filter_append, List.length_append]
  by_cases h : lvl es x = g <;> simp [h]
section
variable {w : World}
set_option maxRecDepth 100000 in
set_option maxHeartbeats 16000000 in
theorem LearnForces_calls {v : Value} {xs : List Int} (hx : ∀ x ∈ xs, IsI64 x) (hl : SL w 1 v xs.length (ints xs)) {ch : Int} (hch : IsI64 ch) :
    Calls Try.prog 8 #[v, .int .i64 ch] w fun e w' => e = .returned (.bool true) ∧ Upd [] w w' := by
  have HS := Lib.hid (Scene_calls hx hl hch)
  have HK := Lib.hid (fun c (h : c ∈ clsL xs) => clsL_ok h)
  have hln := clsL_length xs
  generalize clsL xs = L at *
  clear hx hl
  go_enter Try.func8, Try.ntmps8
  go_upto_region 2 with (go_at_call 9; (with_reducible refine HS.out.mono ?_); rintro e w1 ⟨ov, mv, cf, rfl, F, es, hO, hF, hm, hv, u1, hcf, hap⟩)
  have HM := Lib.hid (Made8_calls hv.sl hm.wf)
  have H1 := Lib.hid (And.intro hO (And.intro hF (And.intro hm (And.intro hv u1))))
  clear HS hO hF hm hv u1 hap
  go_upto_region 3 with (go_at_call 11; (with_reducible refine HM.out.mono ?_); rintro e w2 ⟨b, rfl, S, hT, hS, u2⟩)
  have H2 := Lib.hid (And.intro (H1.out.1.upd u2 (by simp)) (And.intro hT (And.intro (H1.out.2.2.2.2.step u2) (show ∀ k ∈ S, w.heap.size ≤ k from fun k hk => by have := hS k hk; have := H1.out.2.2.2.2.size; omega))))
  clear hT hS u2 HM
  rcases hcf with rfl | ⟨hc0, hc1, hcn⟩
  · go_wp2_with (go_at_call 17; (with_reducible refine lives_calls.mono ?_); rintro e w3 ⟨rfl, u3⟩)
    go_ret
    exact ⟨rfl, H2.out.2.2.1.step u3⟩
  · obtain ⟨k, rfl⟩ := Int.eq_ofNat_of_zero_le hc0
    have hkL : k < L.length := by omega
    have hcm : cOf L k ∈ L := by
      unfold cOf
      rw [Int.toNat_natCast, List.getD_eq_getElem?_getD, List.getElem?_eq_getElem hkL]
      exact List.getElem_mem _
    have hok := HK.out _ hcm
    obtain ⟨g, d, hs, hg0, hln2⟩ := learnt H1.out.2.2.1 (by omega) hc0 hc1 hok.1 hcn
    obtain ⟨aL, cL, rfl, ql1, ql2, hcl⟩ := OwnL.cells H2.out.1
    obtain ⟨gl, off, ay, capy, rfl, hcell, hsl, hq1, hq2, _⟩ := hcl k hkL
    have ec : L.getD k [] = cOf L k := by unfold cOf; rw [Int.toNat_natCast]
    rw [ec] at hcell hsl hq1
    replace hcn : ∀ x ∈ cOf L k, tval 8 es x = -1 := hcn
    have hAn := fun (W : World) (u : Upd [] w2 W) => Analyze_calls (H2.out.2.1.upd u (by simp)) (H2.out.1.cl.upd u) (by omega) (cn := (k : Int)) ⟨by omega, by omega⟩
    rw [hln2.res] at hAn
    have HA := Lib.hid hAn
    have hgt := hln2.top
    have HL := Lib.hid hln2
    have HCN := Lib.hid hcn
    have hcl3 := hok.2.2
    have HCI := Lib.hid (fun x (hx : x ∈ cOf L k) => show -8 ≤ x ∧ x ≤ 8 from by
      have := hok.2.1 x hx
      unfold isLit at this
      simp only [decide_eq_true_eq] at this
      omega)
    generalize cOf L k = c at *
    have hki : (k : Int) < L.length := by omega
    obtain ⟨_, _, he, _, _, hcc⟩ := SL.form hsl
    cases he
    have HCC := Lib.hid hcc
    have HCE := Lib.hid hcell
    have hcneg : ¬ (k : Int) < 0 := by omega
    clear hAn hcl hcm hok hcc ec hln2 hsl hcn
    go_wp2_with fail
    go_loopw [9, 10] (fun gv iv wr => ∃ j : Nat, iv = .int .i64 j ∧ gv = .int .i64 (top es (c.take j)) ∧ j ≤ c.length ∧ Upd [] w2 wr) (fun _ iv _ => c.length - (numOf iv).toNat)
    case atStart => exact ⟨0, rfl, rfl, Nat.zero_le _, Upd.refl _ _⟩
    case round =>
      obtain ⟨wo, rfl⟩ : ∃ wo : World, wo = wr := ⟨_, rfl⟩
      obtain ⟨j, rfl, rfl, hj, hU⟩ := hrel
      have HU := Lib.hid hU
      have hcell2 := hU.some HCE.out (by simp)
      clear hU hcell
      by_cases hlt : j < c.length
      · have hji : (j : Int) < c.length := by omega
        obtain ⟨gy, oy, rfl, kc⟩ := HCC.out (by omega)
        have e1 := HU.out.some (kc j _ (ints_get (List.getElem?_eq_getElem hlt))) (by simp)
        have HTK := Lib.hid (show c.take (j + 1) = c.take j ++ [c[j]] by rw [List.take_add_one, List.getElem?_eq_getElem hlt]; rfl)
        have HMM := Lib.hid (List.getElem_mem hlt)
        clear kc
        generalize c[j] = y at *
        have hyr := HCI.out y HMM.out
        have hlo := lev_ok (HCN.out y HMM.out)
        have hLv := Trail.Level_calls (H2.out.2.1.upd HU.out (by simp)) (max y (-y))
        rw [hlo.1, hlo.2] at hLv
        have HLV := Lib.hid hLv
        have HTP := Lib.hid (show top es (c.take (j + 1)) = max (top es (c.take j)) (lvl es y) by rw [HTK.out, top_snoc])
        clear hLv hlo HTK HMM
        generalize top es (c.take j) = m at *
        generalize lvl es y = l at *
        go_wp2_with (go_at_call 28; (with_reducible refine HLV.out.mono ?_); rintro e w5 ⟨rfl, u5⟩)
        exact ⟨⟨j + 1, by go_num, by rw [HTP.out], by omega, HU.out.step u5⟩, by simp [numOf]; omega⟩
      · have hji : ¬ (j : Int) < c.length := by omega
        have htk : top es (c.take j) = g := by rw [List.take_of_length_le (by omega), hgt]
        rw [htk]
        go_upto_region 16 with fail
        clear hlt hji hj htk hgt hcell2
        have HAW := Lib.hid (HA.out _ HU.out)
        clear HA
        go_upto_region 17 with (go_at_call 13; (with_reducible refine HAW.out.mono ?_); rintro e w3 ⟨v1, v3, rfl, o1, o3, hap⟩)
        obtain ⟨a1, cap1, rfl, q11, hc1'⟩ := o1.form
        have U3 : Upd [] w2 w3 := HU.out.step o1.u
        have H3 := Lib.hid (And.intro o1.sl (And.intro (H2.out.2.1.upd U3 (by simp)) (H2.out.2.2.1.step U3)))
        have HC1 := Lib.hid hc1'
        have HAP1 := Lib.hid (show ∀ q ∈ S, (Value.slice a1 d.length cap1).ownBlock ≠ some q from fun q hq e => by
          have h1 := o1.fresh q e
          have h2 := H2.out.2.1.lt q hq
          have h3 := HU.out.size
          omega)
        have hd8 : d.length ≤ 65536 := (listErr_lit (validErr_ok.1 HL.out.good.ok).1).1
        have HDI := Lib.hid (fun x (hx : x ∈ d) => show -8 ≤ x ∧ x ≤ 8 from by
          have := (tval_neg (HL.out.good.no x hx)).1
          unfold isLit at this
          simp only [decide_eq_true_eq] at this
          omega)
        clear o1 o3 hap hc1' HAW U3 HU
        by_cases hd0 : d = []
        · subst hd0
          have hg : g = 0 := by
            rcases Int.lt_or_eq_of_le hg0 with h | h
            · have := HL.out.one h
              simp [many] at this
            · exact h.symm
          subst hg
          have hs0 : second es 0 [] = 0 := rfl
          rw [hs0]
          clear hs0
          go_wp2_with fail
          go_loopw [18, 19, 20] (fun tv fv iv wr => iv = .int .i64 0 ∧ wr = w3) (fun _ _ _ _ => 0)
          case atStart => exact ⟨rfl, rfl⟩
          case round =>
            obtain ⟨rfl, rfl⟩ := hrel
            go_wp2_with (go_at_call 17; (with_reducible refine lives_calls.mono ?_); rintro e w4 ⟨rfl, u4⟩)
            go_ret
            exact ⟨rfl, H3.out.2.2.step u4⟩
        · have hgp : 0 < g := by
            rcases Int.lt_or_eq_of_le hg0 with h | h
            · exact h
            · exact absurd (HL.out.none_ h.symm) hd0
          have hone := HL.out.one hgp
          have hdl : 0 < d.length := List.length_pos_iff.2 hd0
          have hdi : ((d.length : Int) == 0) = false := by rw [beq_eq_false_iff_ne]; omega
          have hgi : (g == 0) = false := by rw [beq_eq_false_iff_ne]; omega
          obtain ⟨hsec1, hsec2, hsec3, hsec4⟩ := second_le (es := es) (g := g) d
          have hsl := hsec3 (fun y hy => (HL.out.lvls y hy).2) hgp
          have hfz := fz_mem (es := es) (g := g) (l := d) (by omega)
          have hnx := next_one H1.out.2.2.1.wf HL.out.good hgp (fun y hy => (HL.out.lvls y hy).2) hone hfz.1 hfz.2
          have hsd := hsec4 (decs es) (by omega) (fun y hy => by
            unfold lvl lev
            have h1 := decs_take_le es (i := pos es y.natAbs - 1 + 1) (j := es.length) (by have := pos_le es y.natAbs; have := (tval_neg (HL.out.good.no y hy)).2.1; omega)
            rw [List.take_length] at h1
            omega)
          have HX := Lib.hid (And.intro hsec1 (And.intro hone (And.intro hnx hfz)))
          clear hd0 hsec1 hsec3 hsec4 hnx hfz hone
          have HUN := Lib.hid (fun (W : World) (u : Upd [] w3 W) => Trail.Undo_good (H3.out.2.1.upd u (by simp)) (second es g d) hsec2 hsd)
          generalize hse : second es g d = sc at *
          clear hse
          go_upto_region 19 with fail
          clear hdi hgi
          go_wp2_with fail
          go_loopw [18, 19, 20] (fun tv fv iv wr => ∃ j : Nat, iv = .int .i64 j ∧ tv = .int .i64 (many es g (d.take j) : Nat) ∧ fv = .int .i64 (fz es g (d.take j)) ∧ j ≤ d.length ∧ Upd [] w3 wr) (fun _ _ iv _ => d.length - (numOf iv).toNat)
          case atStart => exact ⟨0, rfl, rfl, rfl, Nat.zero_le _, Upd.refl _ _⟩
          case round =>
            obtain ⟨wq, rfl⟩ : ∃ wq : World, wq = wr := ⟨_, rfl⟩
            obtain ⟨j, rfl, rfl, rfl, hj, hU⟩ := hrel
            have HU := Lib.hid hU
            clear hU
            by_cases hlt : j < d.length
            · have hji : (j : Int) < d.length := by omega
              obtain ⟨g1, rfl, k1⟩ := HC1.out (by omega)
              have e1 := HU.out.some (k1 j _ (List.getElem?_eq_getElem hlt)) (by simp)
              have HTK := Lib.hid (show d.take (j + 1) = d.take j ++ [d[j]] by rw [List.take_add_one, List.getElem?_eq_getElem hlt]; rfl)
              have HMM := Lib.hid (List.getElem_mem hlt)
              clear k1
              generalize d[j] = y at *
              have hyr := HDI.out y HMM.out
              have ht := HL.out.good.no y HMM.out
              have hlo := lev_ok ht
              have HLV := Lib.hid (show ∀ W : World, Upd [] wq W → Calls Try.prog 28 #[.pointer (some ⟨b, 0, none⟩), .int .i64 (max y (-y))] W fun e w' => e = .returned (.tuple #[.int .i64 (lvl es y), .int .i64 0]) ∧ Upd [] W w' from fun W u => by
                have h1 := Trail.Level_calls (H3.out.2.1.upd (HU.out.step u) (by simp)) (max y (-y))
                rwa [hlo.1, hlo.2] at h1)
              have HVL := Lib.hid (show ∀ W : World, Upd [] wq W → Calls Try.prog 29 #[.pointer (some ⟨b, 0, none⟩), .int .i64 y] W fun e w' => e = .returned (.int .i64 (-1)) ∧ Upd [] W w' from fun W u => by
                have h1 := Trail.Value_calls (H3.out.2.1.upd (HU.out.step u) (by simp)) y
                rwa [ht] at h1)
              have hlv := HL.out.lvls y HMM.out
              have hl2 := HX.out.1 y HMM.out
              have HS1 := Lib.hid (And.intro (many_snoc' es g (d.take j) y) (fz_snoc (es := es) (g := g) (d.take j) y))
              have hmb : many es g (d.take j) ≤ (d.take j).length := many_le _
              rw [List.length_take] at hmb
              have hmb2 : many es g (d.take j) ≤ 65536 := by omega
              clear hmb ht hlo HMM
              generalize hl : lvl es y = l at *
              clear hl
              go_upto_region 24 with fail
              refine wp_region_qx (by kernel_rfl) (by kernel_rfl) ?_
              repeat (go_big_quiet_step (((go_at_call 28; with_reducible exact qx (HLV.out _ (Ext.upd _))))))
              refine wpQuiet_nil ?_
              intro x
              have hUx : Upd [] wq x.val := x.upd
              obtain ⟨wd, hwd⟩ : ∃ wd : World, wd = x.val := ⟨_, rfl⟩
              rw [← hwd] at hUx ⊢
              have HUX := Lib.hid hUx
              have e2 := hUx.some e1 (by simp)
              clear hwd x e1 hUx HLV
              have HVW := Lib.hid (HVL.out wd HUX.out)
              clear HVL
              by_cases hlg : l = g
              · have f1 : ¬ l < 1 := by omega
                have f2 : ¬ l > g := by omega
                have f3 : ¬ l < g := by omega
                have f4 : (l == g) = true := by simpa using hlg
                have HR := Lib.hid (show many es g (d.take (j + 1)) = many es g (d.take j) + 1 ∧ fz es g (d.take (j + 1)) = y by
                  rw [HTK.out, HS1.out.1, HS1.out.2, if_pos hlg, if_pos hlg]; exact ⟨rfl, rfl⟩)
                clear hlg HTK HS1 hl2 hlv
                generalize many es g (d.take j) = mm at *
                generalize fz es g (d.take j) = ff at *
                go_wp2_with (go_at_call 29; (with_reducible refine HVW.out.mono ?_); rintro e w6 ⟨rfl, u6⟩; replace e2 := u6.some e2 (by simp))
                exact ⟨⟨j + 1, by go_num, by rw [HR.out.1]; go_num, by rw [HR.out.2], by omega, (HU.out.step HUX.out).step u6⟩, by simp [numOf]; omega⟩
              · have f1 : ¬ l < 1 := by omega
                have f2 : ¬ l > g := by omega
                have f3 : l < g := by omega
                have f5 : ¬ l > sc := by have := hl2 hlg; omega
                have f4 : (l == g) = false := by simpa using hlg
                have HR := Lib.hid (show many es g (d.take (j + 1)) = many es g (d.take j) ∧ fz es g (d.take (j + 1)) = fz es g (d.take j) by
                  rw [HTK.out, HS1.out.1, HS1.out.2, if_neg hlg, if_neg hlg]; exact ⟨rfl, rfl⟩)
                clear hlg HTK HS1 hl2 hlv
                generalize many es g (d.take j) = mm at *
                generalize fz es g (d.take j) = ff at *
                go_wp2_with (go_at_call 29; (with_reducible refine HVW.out.mono ?_); rintro e w6 ⟨rfl, u6⟩; replace e2 := u6.some e2 (by simp))
                exact ⟨⟨j + 1, by go_num, by rw [HR.out.1], by rw [HR.out.2], by omega, (HU.out.step HUX.out).step u6⟩, by simp [numOf]; omega⟩
            · have hji : ¬ (j : Int) < d.length := by omega
              have htk : d.take j = d := List.take_of_length_le (by omega)
              rw [htk, HX.out.2.1]
              generalize hfe : fz es g d = ff at *
              clear hfe
              go_upto_region 30 with fail
              clear hlt hji hj htk
              have hdi : ((d.length : Int) == 0) = false := by rw [beq_eq_false_iff_ne]; omega
              have hsg : ¬ sc ≥ g := by omega
              have HUW := Lib.hid (HUN.out wq HU.out)
              go_upto_region 34 with (go_at_call 30; (with_reducible refine HUW.out.mono ?_); rintro e w6 ⟨rfl, hT6, u6⟩)
              have U6 : Upd [] w w6 := (H3.out.2.2.step HU.out).fresh u6 (fun q hq => .inr (H2.out.2.2.2 q hq))
              have H6 := Lib.hid (And.intro hT6 (And.intro ((H3.out.1.upd HU.out (by simp)).upd u6 HAP1.out) U6))
              clear hT6 u6 U6 HUW HUN
              refine wp_region_lit ?_
              refine wpList_cutH 3 (fun K hK => ?_)
              simp only [List.take_succ_cons, List.take_zero]
              go_wp2_with fail
              refine Halt_.intro ?_; try simp only [List.drop_succ_cons, List.drop_zero]
              have B7 := Blk.new w6 [.slice a1 d.length cap1] 22
              have U7 := (Upd.refl [] w6).alloc (.cells #[.slice a1 d.length cap1] 22)
              change Blk (w6.alloc (.cells #[.slice a1 d.length cap1] 22)) _ _ _ at B7
              generalize (w6.alloc (.cells #[.slice a1 d.length cap1] 22)) = w7 at *
              have H7 := Lib.hid (And.intro B7 U7)
              clear B7 U7
              refine wpList_cutH 1 (fun K hK => ?_)
              simp only [List.take_succ_cons, List.take_zero]
              go_wp2_with fail
              refine Halt_.intro ?_; try simp only [List.drop_succ_cons, List.drop_zero]
              have B8 := Blk.new w7 (bools [true]) 4
              have U8 := (Upd.refl [] w7).alloc (.cells #[.bool true] 4)
              change Blk (w7.alloc (.cells #[.bool true] 4)) _ _ _ at B8
              generalize (w7.alloc (.cells #[.bool true] 4)) = w8 at *
              have U68 := H7.out.2.step U8
              have hclx : Trail.CL w8 (.slice (some ⟨w6.heap.size, 0, none⟩) 1 1) [d] :=
                ⟨[.slice a1 d.length cap1], rfl, SL.of_blk (pad := []) (by rw [List.append_nil]; exact H7.out.1.upd U8 (by simp)) rfl (Nat.le_refl _) (by unfold maxLen; omega), fun i c hc => by
                  match i with
                  | 0 => cases hc; exact ⟨_, rfl, H6.out.2.1.upd U68 (by simp)⟩
                  | (i + 1) => simp at hc⟩
              have hslb : SL w8 1 (.slice (some ⟨w7.heap.size, 0, none⟩) 1 1) [true].length (bools [true]) := SL.of_blk (pad := []) (by rw [List.append_nil]; exact B8) rfl (Nat.le_refl _) (by unfold maxLen; omega)
              have hNx := Trail.Next_calls (H6.out.1.upd U68 (by simp)) hclx hslb
              rw [HX.out.2.2.1] at hNx
              have HNX := Lib.hid hNx
              have HU8 := Lib.hid (H6.out.2.2.step U68)
              clear B8 U8 U68 hclx hslb hNx H6 H7
              go_wp2_with (first | (go_at_call 31; (with_reducible refine HNX.out.mono ?_); rintro e w9 ⟨rfl, u9⟩) | (go_at_call 17; (with_reducible refine lives_calls.mono ?_); rintro e wA ⟨rfl, uA⟩))
              go_ret
              exact ⟨rfl, HU8.out.step (u9.step uA)⟩
end
end Learn
end Go.Proofs.Ytdhhohnaehdpkaa
