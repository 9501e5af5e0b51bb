/- Walks through the laws of learning: LearnShows. Conditions: none. -/
import Derived.Test.YtdhhohnaehdpkaaLearnN
import Derived.Test.YtdhhohnaehdpkaaChain3
set_option linter.unusedVariables false
set_option linter.unusedSimpArgs false
set_option linter.unusedSectionVars false
open Go.RowKit
namespace Go.Proofs.Ytdhhohnaehdpkaa
open L
namespace Learn
open Trail Cla R01 R14
section
variable {w : World}
set_option maxRecDepth 100000 in
set_option maxHeartbeats 8000000 in
theorem LearnShows_calls {v : Value} {xs : List Int} (hx : ∀ x ∈ xs, IsI64 x) (hl : SL w 1 v xs.length (ints xs)) {ch : Int} (hch : IsI64 ch) :
    Calls Try.prog 7 #[v, .int .i64 ch] w fun e w' => e = .returned (.bool true) ∧ Upd [] w w' := by
  have HS := Lib.hid (Scene_calls hx hl hch)
  have HK := Lib.hid (fun c (h : c ∈ clsL xs) => clsL_ok h)
  have hln := clsL_length xs
  generalize clsL xs = L at *
  clear hx hl
  go_enter Try.func7, Try.ntmps7
  go_upto_region 2 with (go_at_call 9; (with_reducible refine HS.out.mono ?_); rintro e w1 ⟨ov, mv, cf, rfl, F, es, hO, hF, hm, hv, u1, hcf, hap⟩)
  have HM := Lib.hid (Made8_calls hv.sl hm.wf)
  have H1 := Lib.hid (And.intro hO (And.intro hF (And.intro hm (And.intro hv u1))))
  clear HS hO hF hm hv u1 hap
  go_upto_region 3 with (go_at_call 11; (with_reducible refine HM.out.mono ?_); rintro e w2 ⟨b, rfl, S, hT, hS, u2⟩)
  have H2 := Lib.hid (And.intro (H1.out.1.upd u2 (by simp)) (And.intro hT (H1.out.2.2.2.2.step u2)))
  clear hT hS u2 HM
  rcases hcf with rfl | ⟨hc0, hc1, hcn⟩
  · go_wp2_with (go_at_call 17; (with_reducible refine lives_calls.mono ?_); rintro e w3 ⟨rfl, u3⟩)
    go_ret
    exact ⟨rfl, H2.out.2.2.step u3⟩
  · have hcm : cOf L cf ∈ L := by
      unfold cOf
      rw [List.getD_eq_getElem?_getD, List.getElem?_eq_getElem (by omega)]
      exact List.getElem_mem _
    obtain ⟨g, d, hs, hg0, hln2⟩ := learnt H1.out.2.2.1 (by omega) hc0 hc1 (HK.out _ hcm).1 hcn
    have HL := Lib.hid hln2
    obtain ⟨aL, cL, rfl, ql1, ql2, hcl⟩ := OwnL.cells H2.out.1
    have HC := Lib.hid hcl
    have hAn := Analyze_calls H2.out.2.1 H2.out.1.cl (by omega) (cn := cf) ⟨by omega, by omega⟩
    rw [hln2.res] at hAn
    have HA := Lib.hid hAn
    have hcneg : ¬ cf < 0 := by omega
    have hs9 : hs.length ≤ 9 := by
      have := hln2.len
      have := H1.out.2.2.1.wf.len
      omega
    clear hAn hln2 hcl hcn hcm
    go_upto_region 8 with (go_at_call 13; (with_reducible refine HA.out.mono ?_); rintro e w3 ⟨v1, v3, rfl, o1, o3, hap⟩)
    obtain ⟨a3, cap3, rfl, q31, hc3⟩ := o3.form
    have H3 := Lib.hid (And.intro o1 (And.intro o3.sl (H2.out.2.2.step o1.u)))
    have HC3 := Lib.hid hc3
    have HU3 := Lib.hid o1.u
    clear o1 o3 hap hc3 HA
    go_wp2_with fail
    go_loopw [13, 14] (fun cv iv wr => ∃ (k : Nat) (c' : Value) (G : List Nat), iv = .int .i64 k ∧ c' = cv ∧ k ≤ hs.length ∧ OwnL 22 w3 c' ((hs.take k).map (cOf L)) G wr ∧ (∀ q ∈ G, q < w3.heap.size) ∧ Upd [] w3 wr) (fun _ iv _ => hs.length - (numOf iv).toNat)
    case atStart => exact ⟨0, _, [], rfl, rfl, Nat.zero_le _, OwnL.nil _ _ _, by simp, Upd.refl _ _⟩
    case round =>
      obtain ⟨wo, rfl⟩ : ∃ wo : World, wo = wr := ⟨_, rfl⟩
      obtain ⟨k, cv, G, rfl, rfl, hk, hO, hG, hU⟩ := hrel
      have HO := Lib.hid (And.intro hO (And.intro hG hU))
      clear hO hG hU
      by_cases hlt : k < hs.length
      · have hki : (k : Int) < hs.length := by omega
        obtain ⟨g3, rfl, k3⟩ := HC3.out (by omega)
        have e1 := HO.out.2.2.some (k3 k _ (List.getElem?_eq_getElem hlt)) (by simp)
        have HTK := Lib.hid (show hs.take (k + 1) = hs.take k ++ [hs[k]] by rw [List.take_add_one, List.getElem?_eq_getElem hlt]; rfl)
        have hrr := HL.out.rng _ (List.getElem_mem hlt)
        clear k3
        generalize hs[k] = r at *
        obtain ⟨rn, rfl⟩ := Int.eq_ofNat_of_zero_le hrr.1
        have hrn : rn < L.length := by omega
        have hrni : ¬ ((rn : Int) ≥ L.length) := by omega
        have hrn0 : ¬ ((rn : Int) < 0) := by omega
        obtain ⟨g6, off6, ay, capy, rfl, hcell, hsl, hq1, hq2, hown⟩ := HC.out rn hrn
        have ec : L.getD rn [] = cOf L rn := by unfold cOf; rw [Int.toNat_natCast]
        rw [ec] at hcell hsl hq1 hown
        have e2 := HO.out.2.2.some (HU3.out.some hcell (by simp)) (by simp)
        have hs2 := hsl.upd (HU3.out.step HO.out.2.2) (by simp)
        have hFl := H2.out.1.lt
        have HX := Lib.hid (And.intro hs2 (And.intro hown hFl))
        obtain ⟨vals, hv, hvals⟩ := HO.out.1.ex
        have hle : ((hs.take k).map (cOf L)).length ≤ 100000 := by
          rw [List.length_map, List.length_take]
          have := HL.out.len
          have := H1.out.2.2.1.wf.len
          omega
        clear hcell hsl hown hrr hFl ec hs2
        generalize hcc : cOf L rn = c at *
        have HCC := Lib.hid hcc
        clear hcc
        go_upto_region 14 with fail
        refine wp_region_lit ?_
        refine wpList_cutH 8 (fun K hK => ?_)
        simp only [List.take_succ_cons, List.take_zero]
        go_wp2_with fail
        refine Halt_.intro ?_; try simp only [List.drop_succ_cons, List.drop_zero]
        refine wpList_push rfl rfl _ _ _ _ rfl rfl rfl 22 1 24 _ Try.underlying23 infoInts rfl (by decide) (by decide) (.slice ay c.length capy) [.slice ay c.length capy] rfl rfl rfl (by simp [Value.oneCell']) _ _ _ hv.row rfl rfl (by unfold maxLen; omega) (by omega) ?_
        intro g2 cap2 w4 o4 u4 k4
        simp only [Act.put, List.setIfInBounds_toArray, List.set_cons_zero, List.set_cons_succ]
        have hz := HU3.out.size
        have L2 := HO.out.1.push (y := .slice ay c.length capy) (c := c) hv hvals HO.out.2.2.size HX.out.1 (fun q hq => by
          have h1 := HX.out.2.2 _ (HX.out.2.1 q hq)
          have h2 := HO.out.2.2.size
          refine ⟨fun h => ?_, by omega⟩
          have := hv.fresh q h
          omega) o4 u4 k4
        have HL2 := Lib.hid (show OwnL 22 w3 _ ((hs.take (k + 1)).map (cOf L)) _ w4 by
          rw [HTK.out, List.map_append, List.map_cons, List.map_nil, HCC.out]
          exact L2)
        have HG2 := Lib.hid (show ∀ q ∈ G ++ (Value.slice ay c.length capy).ownBlock.toList, q < w3.heap.size from fun q hq => by
          rcases List.mem_append.1 hq with hq | hq
          · exact HO.out.2.1 q hq
          · have h1 := HX.out.2.2 _ (HX.out.2.1 q (by simpa using hq))
            omega)
        have HU2 := Lib.hid (show Upd [] w3 w4 from HO.out.2.2.fresh u4 (fun q hq => .inr (hv.fresh q (by simpa using hq))))
        clear L2 o4 u4 k4 hv hvals HX hz
        go_wp2_with fail
        exact ⟨⟨k + 1, _, _, by go_num, rfl, by omega, HL2.out, HG2.out, HU2.out⟩, by simp [numOf]; omega⟩
      · have hki : ¬ (k : Int) < hs.length := by omega
        have hC := HO.out.1.cl
        rw [List.take_of_length_le (by omega)] at hC
        have hCh := Chain_calls (H3.out.1.sl.upd HO.out.2.2 (by simp)) hC (by rw [List.length_map]; have := HL.out.len; have := H1.out.2.2.1.wf.len; omega)
        rw [HL.out.chainRes] at hCh
        have HCH := Lib.hid hCh
        have HU4 := Lib.hid (H3.out.2.2.step HO.out.2.2)
        clear hC hCh HO
        go_wp2_with (first | (go_at_call 27; (with_reducible refine HCH.out.mono ?_); rintro e w5 ⟨rfl, u5⟩) | (go_at_call 17; (with_reducible refine lives_calls.mono ?_); rintro e w6 ⟨rfl, u6⟩))
        go_ret
        exact ⟨rfl, HU4.out.step (u5.step u6)⟩
end
end Learn
end Go.Proofs.Ytdhhohnaehdpkaa
