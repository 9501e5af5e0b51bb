/- Walks through the laws of learning: SameLists; LearnOthers. Conditions: none. -/
import Derived.Test.YtdhhohnaehdpkaaLearnN
import Derived.Test.YtdhhohnaehdpkaaLearnO
import Derived.Test.YtdhhohnaehdpkaaSameL
set_option linter.unusedVariables false
set_option linter.unusedSimpArgs false
set_option linter.unusedSectionVars false
open Go.RowKit
namespace Go.Proofs.Ytdhhohnaehdpkaa
open L
namespace Learn
open Trail Cla R01 R14
/-- The clauses of which those that no number names are replaced. -/
def chg (L O : List (List Int)) (hs : List Int) (k : Nat) : List (List Int) := (List.range k).map fun i : Nat => if hasB hs (i : Int) = false ∧ i < O.length then O.getD i [] else L.getD i []
theorem chg_succ (L O : List (List Int)) (hs : List Int) (k : Nat) : chg L O hs (k + 1) = chg L O hs k ++ [if hasB hs (k : Int) = false ∧ k < O.length then O.getD k [] else L.getD k []] := by
  unfold chg
  rw [List.range_succ, List.map_append]
  rfl
theorem chg_length (L O : List (List Int)) (hs : List Int) (k : Nat) : (chg L O hs k).length = k := by simp [chg]
theorem chg_at {L O : List (List Int)} {hs : List Int} {r : Int} (hr : r ∈ hs) (h0 : 0 ≤ r) (h1 : r < L.length) : cOf (chg L O hs L.length) r = cOf L r := by
  obtain ⟨n, rfl⟩ := Int.eq_ofNat_of_zero_le h0
  unfold cOf chg
  rw [Int.toNat_natCast, List.getD_eq_getElem?_getD, List.getElem?_map, List.getElem?_range (by omega)]
  simp only [Option.map_some, Option.getD_some]
  rw [if_neg]
  rintro ⟨h2, _⟩
  rw [hasB_iff.2 hr] at h2
  cases h2
theorem cl_pair {w : World} {g : Nat} {v1 v2 : Value} {c d : List Int} (h : Blk w g [v1, v2] 22) (h1 : SL w 1 v1 c.length (ints c)) (h2 : SL w 1 v2 d.length (ints d)) : Go.Proofs.Ytdhhohnaehdpkaa.L.CL w (.slice (some ⟨g, 0, none⟩) 2 2) [c, d] :=
  L.CL.of_blk (cs := [c, d]) h rfl (by simp) (fun i e hd => by
    match i with
    | 0 => cases hd; exact ⟨_, rfl, h1⟩
    | 1 => cases hd; exact ⟨_, rfl, h2⟩
    | (i + 2) => simp at hd)
theorem no9 {es : Es} {v : Nat} (hw : TWf 8 es) (h : 8 < v) : pos es v = 0 := by
  rw [pos_zero]
  intro e he
  have := hw.lit e he
  omega
section
variable {w : World}
set_option maxRecDepth 100000 in
set_option maxHeartbeats 16000000 in
theorem LearnOthers_calls {v v2 : Value} {xs ys : List Int} (hx : ∀ x ∈ xs, IsI64 x) (hl : SL w 1 v xs.length (ints xs)) {ch : Int} (hch : IsI64 ch) (hy : ∀ x ∈ ys, IsI64 x) (hl2 : SL w 1 v2 ys.length (ints ys)) :
    Calls Try.prog 4 #[v, .int .i64 ch, v2] w fun e w' => e = .returned (.bool true) ∧ Upd [] w w' := by
  have HS := Lib.hid (Scene_calls hx hl hch)
  have HK := Lib.hid (fun c (h : c ∈ clsL xs) => clsL_ok h)
  have hln := clsL_length xs
  have HY2 := Lib.hid (fun (W : World) (u : Upd [] w W) => LClauses_calls hy (hl2.upd u (by simp)))
  have hon := clsL_length ys
  generalize clsL xs = L at *
  generalize clsL ys = O at *
  clear hx hl hy hl2
  go_enter Try.func4, Try.ntmps4
  go_upto_region 2 with (go_at_call 9; (with_reducible refine HS.out.mono ?_); rintro e w1 ⟨ov, mv, cf, rfl, F, es, hO, hF, hm, hv, u1, hcf, hap⟩)
  have hw11 := TWf.up (v' := 11) (by omega) (by omega) hm.wf
  have HM := Lib.hid (fun (W : World) (u : Upd [] w1 W) => Made11_calls (hv.sl.upd u (by simp)) hw11)
  have H1 := Lib.hid (And.intro hO (And.intro hF (And.intro hm (And.intro hv u1))))
  clear HS hO hF hm hv u1 hap hw11
  go_upto_region 3 with (go_at_call 11; (with_reducible refine (HM.out _ (Upd.refl _ _)).mono ?_); rintro e wA ⟨b1, rfl, S1, hT1, hS1, uA⟩)
  have HMA := Lib.hid (HM.out wA uA)
  have HTA := Lib.hid (And.intro hT1 (And.intro hS1 uA))
  clear hT1 hS1 uA HM
  go_upto_region 4 with (go_at_call 11; (with_reducible refine HMA.out.mono ?_); rintro e w2 ⟨b2, rfl, S2, hT2, hS2, uB⟩)
  have H2 := Lib.hid (And.intro (H1.out.1.upd (HTA.out.2.2.step uB) (by simp)) (And.intro (HTA.out.1.upd uB (by simp)) (And.intro hT2 (And.intro (show ∀ q ∈ S2, w.heap.size ≤ q from fun q hq => by have := hS2 q hq; have := HTA.out.2.2.size; have := H1.out.2.2.2.2.size; omega) (H1.out.2.2.2.2.step (HTA.out.2.2.step uB))))))
  have HF2 := Lib.hid (show ∀ q ∈ F, q < w2.heap.size ∧ q ∉ S2 from fun q hq => by
    have h1 := H1.out.1.lt q hq
    have h2 := HTA.out.2.2.size
    have h3 := uB.size
    exact ⟨by omega, fun hm => by have := hS2 q hm; omega⟩)
  have HS2 := Lib.hid (show ∀ q ∈ S2, q < w2.heap.size from hT2.lt)
  clear hT2 hS2 uB HMA HTA
  rcases hcf with rfl | ⟨hc0, hc1, hcn⟩
  · go_wp2_with (go_at_call 17; (with_reducible refine lives_calls.mono ?_); rintro e w3 ⟨rfl, u3⟩)
    go_ret
    exact ⟨rfl, H2.out.2.2.2.2.step u3⟩
  · obtain ⟨kc, rfl⟩ := Int.eq_ofNat_of_zero_le hc0
    have hkL : kc < L.length := by omega
    have hcm : cOf L kc ∈ L := by
      unfold cOf
      rw [Int.toNat_natCast, List.getD_eq_getElem?_getD, List.getElem?_eq_getElem hkL]
      exact List.getElem_mem _
    have hok := HK.out _ hcm
    replace hcn : ∀ x ∈ cOf L kc, tval 8 es x = -1 := hcn
    have hm11 := Mv.up (v' := 11) (by omega) (by omega) H1.out.2.2.1
    obtain ⟨g, d, hs, hg0, hln2⟩ := learnt hm11 (by omega) hc0 hc1 hok.1 (fun x hx => tval_up (by omega) (hcn x hx))
    have HL := Lib.hid hln2
    obtain ⟨aL, cL, rfl, ql1, ql2, hcl⟩ := OwnL.cells H2.out.1
    have HC := Lib.hid hcl
    have hAn := Analyze_calls H2.out.2.1 H2.out.1.cl (by omega) (cn := (kc : Int)) ⟨by omega, by omega⟩
    rw [hln2.res] at hAn
    have HA := Lib.hid hAn
    have hcneg : ¬ (kc : Int) < 0 := by omega
    have hfin : anL (chg L O hs L.length) 11 (es ++ [(9, -1), (-11, -1)]) kc = (0, d, second es g d, hs) :=
      anL_others hm11.wf (by omega) hkL (chg_length _ _ _ _) hln2.res hln2.good.no (fun r hr => chg_at hr (hln2.rng r hr).1 (hln2.rng r hr).2.1) (fun r hr => (hln2.rng r hr).2.1) (fun x hx => by
        simp only [List.mem_cons, List.not_mem_nil, or_false] at hx
        rcases hx with rfl | rfl
        · exact no9 H1.out.2.2.1.wf (by decide)
        · exact no9 H1.out.2.2.1.wf (by decide))
    have HFIN := Lib.hid hfin
    have HD1 := Lib.hid (show ∀ W : World, Upd [] w2 W → Calls Try.prog 20 #[.pointer (some ⟨b2, 0, none⟩), .int .i64 9] W fun e w' => e = .returned (.int .i64 0) ∧ ∃ S', Tr w' b2 11 (es ++ [(9, -1)]) (decs (es ++ [(9, -1)])) S' ∧ Upd S2 W w' ∧ ∀ k ∈ S', k ∈ S2 ∨ W.heap.size ≤ k from fun W u => by
      have h1 := Decide_calls (H2.out.2.2.1.upd u (by simp)) 9
      have h2 : pos es (9 : Int).natAbs = 0 := no9 H1.out.2.2.1.wf (by decide)
      have h3 : putErr 11 es 9 (-1) = 0 := by unfold putErr; rw [if_pos (by decide), if_neg (by decide), if_pos h2]
      rwa [put_new (by decide) h2 (by omega), h3] at h1)
    have HD2 := Lib.hid (show ∀ (W : World) (S : List Nat), Tr W b2 11 (es ++ [(9, -1)]) (decs (es ++ [(9, -1)])) S → Calls Try.prog 20 #[.pointer (some ⟨b2, 0, none⟩), .int .i64 (-11)] W fun e w' => e = .returned (.int .i64 0) ∧ ∃ S', Tr w' b2 11 (es ++ [(9, -1), (-11, -1)]) (decs (es ++ [(9, -1), (-11, -1)])) S' ∧ Upd S W w' ∧ ∀ k ∈ S', k ∈ S ∨ W.heap.size ≤ k from fun W S hT => by
      have h1 := Decide_calls hT (-11)
      have h0 : pos es (9 : Int).natAbs = 0 := no9 H1.out.2.2.1.wf (by decide)
      have h2 : pos (es ++ [(9, -1)]) (-11 : Int).natAbs = 0 := by
        rw [pos_snoc es (9, -1) _ h0, if_neg (by decide)]
        exact no9 H1.out.2.2.1.wf (by decide)
      have h3 : putErr 11 (es ++ [(9, -1)]) (-11) (-1) = 0 := by unfold putErr; rw [if_pos (by decide), if_neg (by decide), if_pos h2]
      rw [put_new (by decide) h2 (by omega), h3, List.append_assoc] at h1
      exact h1)
    clear hAn hln2 hcl hcn hcm hok hm11 hfin
    go_upto_region 9 with (go_at_call 13; (with_reducible refine HA.out.mono ?_); rintro e w3 ⟨v1, v3, rfl, o1, o3, hap⟩)
    obtain ⟨a1, cap1, rfl, _⟩ := o1.form
    obtain ⟨a3, cap3, rfl, _⟩ := o3.form
    have HYC := Lib.hid (HY2.out w3 (H2.out.2.2.2.2.step o1.u))
    have H3 := Lib.hid (And.intro o1 (And.intro o3 (And.intro (H2.out.2.2.2.2.step o1.u) (H2.out.1.upd o1.u (by simp)))))
    clear o1 o3 hap HA HY2
    go_upto_region 10 with (go_at_call 18; (with_reducible refine HYC.out.mono ?_); rintro e w4 ⟨oo, rfl, F4, hO4, hF4, u4⟩)
    obtain ⟨aO, cO, rfl, qo1, qo2, hco⟩ := OwnL.cells hO4
    have HO4 := Lib.hid hO4
    have HCO := Lib.hid hco
    have HU4 := Lib.hid (H3.out.1.u.step u4)
    have HF4 := Lib.hid (show ∀ q ∈ F4, q ∉ S2 from fun q hq hm => by
      have h1 := hF4 q hq
      have h2 := HS2.out q hm
      have h3 := H3.out.1.u.size
      omega)
    have HV3U := Lib.hid u4
    have HV3 := Lib.hid (And.intro (H3.out.1.sl.upd u4 (by simp)) (And.intro (H3.out.2.1.sl.upd u4 (by simp)) (H3.out.2.2.1.step u4)))
    clear hO4 hF4 u4 hco HYC
    go_wp2_with fail
    go_loopw [17, 18] (fun cv iv wr => ∃ (k : Nat) (c' : Value) (G : List Nat), iv = .int .i64 k ∧ c' = cv ∧ k ≤ L.length ∧ OwnL 22 w4 c' (chg L O hs k) G wr ∧ (∀ q ∈ G, q < w4.heap.size ∧ q ∉ S2) ∧ Upd [] w4 wr) (fun _ iv _ => L.length - (numOf iv).toNat)
    case atStart => exact ⟨0, _, [], rfl, rfl, Nat.zero_le _, OwnL.nil _ _ _, by simp, Upd.refl _ _⟩
    case round =>
      obtain ⟨wo, rfl⟩ : ∃ wo : World, wo = wr := ⟨_, rfl⟩
      obtain ⟨k, cv, G, rfl, rfl, hk, hO, hG, hU⟩ := hrel
      have HO := Lib.hid (And.intro hO (And.intro hG hU))
      clear hO hG hU
      by_cases hlt : k < L.length
      · have hki : (k : Int) < L.length := by omega
        obtain ⟨vals, hv, hvals⟩ := HO.out.1.ex
        have hcl26 : (chg L O hs k).length ≤ 26 := by rw [chg_length]; omega
        have HCH0 := Lib.hid (chg_succ L O hs k)
        have hHas := Cla.Has_calls (HV3.out.2.1.upd HO.out.2.2 (by simp)) (k : Int)
        cases hb : hasB hs (k : Int) with
        | true =>
          rw [hb] at hHas
          have HHas := Lib.hid hHas
          have HCH := Lib.hid (show chg L O hs (k + 1) = chg L O hs k ++ [L.getD k []] by rw [HCH0.out, if_neg]; rintro ⟨h, _⟩; rw [hb] at h; cases h)
          obtain ⟨g6, off6, ay, capy, rfl, hcell, hsl, hq1, hq2, hown⟩ := HC.out k hlt
          have hce := HO.out.2.2.some (HU4.out.some hcell (by simp)) (by simp)
          have HY := Lib.hid (show SL wo 1 (.slice ay (L.getD k []).length capy) (L.getD k []).length (ints (L.getD k [])) ∧ ∀ q, (Value.slice ay (L.getD k []).length capy).ownBlock = some q → q < w4.heap.size ∧ q ∉ S2 from ⟨hsl.upd (HU4.out.step HO.out.2.2) (by simp), fun q hq => by
            have h1 := HF2.out q (hown q hq)
            have h2 := HU4.out.size
            exact ⟨by omega, h1.2⟩⟩)
          generalize L.getD k [] = c at *
          clear hHas hb HCH0 hcell hsl hown
          go_upto_region 17 with (go_at_call 19; (with_reducible refine HHas.out.mono ?_); rintro e _ ⟨rfl, rfl⟩)
          refine wp_region_lit ?_
          refine wpList_cutH 2 (fun K hK => ?_)
          simp only [List.take_succ_cons, List.take_zero]
          go_wp2_with fail
          refine Halt_.intro ?_; try simp only [List.drop_succ_cons, List.drop_zero]
          refine wpList_push rfl rfl _ _ _ _ rfl rfl rfl 22 1 24 _ Try.underlying23 infoInts rfl (by decide) (by decide) (.slice ay c.length capy) [.slice ay c.length capy] rfl rfl rfl (by simp [Value.oneCell']) _ _ _ hv.row rfl rfl (by unfold maxLen; omega) (by omega) ?_
          intro g2 cap2 w5 o5 u5 k5
          simp only [Act.put, List.setIfInBounds_toArray, List.set_cons_zero, List.set_cons_succ]
          have L2 := HO.out.1.push (y := .slice ay c.length capy) (c := c) hv hvals HO.out.2.2.size HY.out.1 (fun q hq => by
            have h1 := (HY.out.2 q hq).1
            have h2 := HO.out.2.2.size
            refine ⟨fun h => ?_, by omega⟩
            have := hv.fresh q h
            omega) o5 u5 k5
          have HL2 := Lib.hid (show OwnL 22 w4 _ (chg L O hs (k + 1)) _ w5 by
            rw [HCH.out]
            exact L2)
          have HG2 := Lib.hid (show ∀ q ∈ G ++ (Value.slice ay c.length capy).ownBlock.toList, q < w4.heap.size ∧ q ∉ S2 from fun q hq => by
            rcases List.mem_append.1 hq with hq | hq
            · exact HO.out.2.1 q hq
            · exact HY.out.2 q (by simpa using hq))
          have HU2 := Lib.hid (show Upd [] w4 w5 from HO.out.2.2.fresh u5 (fun q hq => .inr (hv.fresh q (by simpa using hq))))
          clear L2 o5 u5 k5 hv hvals HY
          go_wp2_with fail
          exact ⟨⟨k + 1, _, _, by go_num, rfl, by omega, HL2.out, HG2.out, HU2.out⟩, by simp [numOf]; omega⟩
        | false =>
          rw [hb] at hHas
          have HHas := Lib.hid hHas
          by_cases hko : k < O.length
          · have hkoi : (k : Int) < O.length := by omega
            have HCH := Lib.hid (show chg L O hs (k + 1) = chg L O hs k ++ [O.getD k []] by rw [HCH0.out, if_pos ⟨hb, hko⟩])
            obtain ⟨g5, off5, az, capz, rfl, hcell0, _, _, _, _⟩ := HC.out k hlt
            have hce0 := HO.out.2.2.some (HU4.out.some hcell0 (by simp)) (by simp)
            obtain ⟨g6, off6, ay, capy, rfl, hcell, hsl, hq1, hq2, hown⟩ := HCO.out k hko
            have hce := HO.out.2.2.some hcell (by simp)
            have HY := Lib.hid (show SL wo 1 (.slice ay (O.getD k []).length capy) (O.getD k []).length (ints (O.getD k [])) ∧ ∀ q, (Value.slice ay (O.getD k []).length capy).ownBlock = some q → q < w4.heap.size ∧ q ∉ S2 from ⟨hsl.upd HO.out.2.2 (by simp), fun q hq => ⟨HO4.out.lt q (hown q hq), HF4.out q (hown q hq)⟩⟩)
            generalize L.getD k [] = cc at *
            generalize O.getD k [] = c at *
            clear hHas hb HCH0 hcell hsl hown hcell0
            go_upto_region 17 with (go_at_call 19; (with_reducible refine HHas.out.mono ?_); rintro e _ ⟨rfl, rfl⟩)
            refine wp_region_lit ?_
            refine wpList_cutH 2 (fun K hK => ?_)
            simp only [List.take_succ_cons, List.take_zero]
            go_wp2_with fail
            refine Halt_.intro ?_; try simp only [List.drop_succ_cons, List.drop_zero]
            refine wpList_push rfl rfl _ _ _ _ rfl rfl rfl 22 1 24 _ Try.underlying23 infoInts rfl (by decide) (by decide) (.slice ay c.length capy) [.slice ay c.length capy] rfl rfl rfl (by simp [Value.oneCell']) _ _ _ hv.row rfl rfl (by unfold maxLen; omega) (by omega) ?_
            intro g2 cap2 w5 o5 u5 k5
            simp only [Act.put, List.setIfInBounds_toArray, List.set_cons_zero, List.set_cons_succ]
            have L2 := HO.out.1.push (y := .slice ay c.length capy) (c := c) hv hvals HO.out.2.2.size HY.out.1 (fun q hq => by
              have h1 := (HY.out.2 q hq).1
              have h2 := HO.out.2.2.size
              refine ⟨fun h => ?_, by omega⟩
              have := hv.fresh q h
              omega) o5 u5 k5
            have HL2 := Lib.hid (show OwnL 22 w4 _ (chg L O hs (k + 1)) _ w5 by
              rw [HCH.out]
              exact L2)
            have HG2 := Lib.hid (show ∀ q ∈ G ++ (Value.slice ay c.length capy).ownBlock.toList, q < w4.heap.size ∧ q ∉ S2 from fun q hq => by
              rcases List.mem_append.1 hq with hq | hq
              · exact HO.out.2.1 q hq
              · exact HY.out.2 q (by simpa using hq))
            have HU2 := Lib.hid (show Upd [] w4 w5 from HO.out.2.2.fresh u5 (fun q hq => .inr (hv.fresh q (by simpa using hq))))
            clear L2 o5 u5 k5 hv hvals HY
            go_wp2_with fail
            exact ⟨⟨k + 1, _, _, by go_num, rfl, by omega, HL2.out, HG2.out, HU2.out⟩, by simp [numOf]; omega⟩
          · have hkoi : ¬ (k : Int) < O.length := by omega
            have HCH := Lib.hid (show chg L O hs (k + 1) = chg L O hs k ++ [L.getD k []] by rw [HCH0.out, if_neg (fun h => hko h.2)])
            obtain ⟨g6, off6, ay, capy, rfl, hcell, hsl, hq1, hq2, hown⟩ := HC.out k hlt
            have hce := HO.out.2.2.some (HU4.out.some hcell (by simp)) (by simp)
            have HY := Lib.hid (show SL wo 1 (.slice ay (L.getD k []).length capy) (L.getD k []).length (ints (L.getD k [])) ∧ ∀ q, (Value.slice ay (L.getD k []).length capy).ownBlock = some q → q < w4.heap.size ∧ q ∉ S2 from ⟨hsl.upd (HU4.out.step HO.out.2.2) (by simp), fun q hq => by
            have h1 := HF2.out q (hown q hq)
            have h2 := HU4.out.size
            exact ⟨by omega, h1.2⟩⟩)
            generalize L.getD k [] = c at *
            clear hHas hb HCH0 hcell hsl hown
            go_upto_region 17 with (go_at_call 19; (with_reducible refine HHas.out.mono ?_); rintro e _ ⟨rfl, rfl⟩)
            refine wp_region_lit ?_
            refine wpList_cutH 2 (fun K hK => ?_)
            simp only [List.take_succ_cons, List.take_zero]
            go_wp2_with fail
            refine Halt_.intro ?_; try simp only [List.drop_succ_cons, List.drop_zero]
            refine wpList_push rfl rfl _ _ _ _ rfl rfl rfl 22 1 24 _ Try.underlying23 infoInts rfl (by decide) (by decide) (.slice ay c.length capy) [.slice ay c.length capy] rfl rfl rfl (by simp [Value.oneCell']) _ _ _ hv.row rfl rfl (by unfold maxLen; omega) (by omega) ?_
            intro g2 cap2 w5 o5 u5 k5
            simp only [Act.put, List.setIfInBounds_toArray, List.set_cons_zero, List.set_cons_succ]
            have L2 := HO.out.1.push (y := .slice ay c.length capy) (c := c) hv hvals HO.out.2.2.size HY.out.1 (fun q hq => by
              have h1 := (HY.out.2 q hq).1
              have h2 := HO.out.2.2.size
              refine ⟨fun h => ?_, by omega⟩
              have := hv.fresh q h
              omega) o5 u5 k5
            have HL2 := Lib.hid (show OwnL 22 w4 _ (chg L O hs (k + 1)) _ w5 by
              rw [HCH.out]
              exact L2)
            have HG2 := Lib.hid (show ∀ q ∈ G ++ (Value.slice ay c.length capy).ownBlock.toList, q < w4.heap.size ∧ q ∉ S2 from fun q hq => by
              rcases List.mem_append.1 hq with hq | hq
              · exact HO.out.2.1 q hq
              · exact HY.out.2 q (by simpa using hq))
            have HU2 := Lib.hid (show Upd [] w4 w5 from HO.out.2.2.fresh u5 (fun q hq => .inr (hv.fresh q (by simpa using hq))))
            clear L2 o5 u5 k5 hv hvals HY
            go_wp2_with fail
            exact ⟨⟨k + 1, _, _, by go_num, rfl, by omega, HL2.out, HG2.out, HU2.out⟩, by simp [numOf]; omega⟩
      · have hki : ¬ (k : Int) < L.length := by omega
        have hke : k = L.length := by omega
        have hO5 := HO.out.1
        rw [hke] at hO5
        have HO5 := Lib.hid (And.intro hO5 (And.intro HO.out.2.1 HO.out.2.2))
        have UW : Upd [] w2 wo := HU4.out.step HO.out.2.2
        have HD1W := Lib.hid (HD1.out wo UW)
        have HUW := Lib.hid UW
        clear hO5 UW HO HD1 hke
        go_upto_region 18 with fail
        clear hlt hki hk
        go_upto_region 20 with (first | (go_at_call 20; (with_reducible refine HD1W.out.mono ?_); rintro e w6 ⟨rfl, S6, hT6, u6, hS6⟩) | (go_at_call 20; (with_reducible refine (HD2.out _ _ hT6).mono ?_); rintro e w7 ⟨rfl, S7, hT7, u7, hS7⟩))
        have h6 : ∀ q, q < wo.heap.size → q ∉ S2 → q ∉ S6 := fun q h1 h2 hm => by
          rcases hS6 q hm with h3 | h3
          · exact h2 h3
          · omega
        have hown5 := HO5.out.1.own_lt
        have hfr5 : ∀ q, cv.ownBlock = some q → w4.heap.size ≤ q := by
          obtain ⟨_, hv5, _⟩ := HO5.out.1.ex
          exact hv5.fresh
        have z4 := HU4.out.size
        have z5 := HO5.out.2.2.size
        have hlt2 : ∀ q ∈ S2, q < w4.heap.size := fun q hq => by have := HS2.out q hq; omega
        have hO6 := HO5.out.1.upd u6 (fun q hq => ⟨fun hg => (HO5.out.2.1 q hg).2 hq, fun e => by have := hfr5 q e; have := hlt2 q hq; omega⟩)
        have hO7 := hO6.upd u7 (fun q hq => ⟨fun hg => h6 q (by have := (HO5.out.2.1 q hg).1; omega) (HO5.out.2.1 q hg).2 hq, fun e => h6 q (hown5 q e) (fun hm => by have := hfr5 q e; have := hlt2 q hm; omega) hq⟩)
        have sl7 : ∀ {v : Value} {l : List Int}, Own w2 v l w3 → SL w7 1 v l.length (ints l) := fun {v l} o => by
          have hq : ∀ q, v.ownBlock = some q → q ∉ S2 ∧ q < wo.heap.size := fun q hq => ⟨fun hm => by have := o.fresh q hq; have := HS2.out q hm; omega, by
            have := (o.row.lt q hq).2
            have := HV3U.out.size
            omega⟩
          exact (((o.sl.upd HV3U.out (by simp)).upd HO5.out.2.2 (by simp)).upd u6 (fun q hm e => (hq q e).1 hm)).upd u7 (fun q hm e => h6 q (hq q e).2 (hq q e).1 hm)
        have UF : Upd [] w w7 := ((H3.out.2.2.1.step (HV3U.out.step HO5.out.2.2)).fresh u6 (fun q hq => .inr (H2.out.2.2.2.1 q hq))).fresh u7 (fun q hq => .inr (by
          rcases hS6 q hq with h | h
          · exact H2.out.2.2.2.1 q h
          · have := H2.out.2.2.2.2.size
            omega))
        obtain ⟨a7, c7, rfl, _, _, _⟩ := hO7.cl.form
        have hA7 := Analyze_calls hT7 hO7.cl (by omega) (cn := (kc : Int)) ⟨by omega, by omega⟩
        rw [HFIN.out] at hA7
        have HA7 := Lib.hid hA7
        have HS7 := Lib.hid (And.intro (sl7 H3.out.1) (And.intro (sl7 H3.out.2.1) UF))
        clear h6 hown5 hfr5 z4 z5 hlt2 hO6 hO7 sl7 UF hA7 hT6 hT7 u6 u7 hS6 hS7 HD1W HD2
        go_upto_region 21 with (go_at_call 13; (with_reducible refine HA7.out.mono ?_); rintro e w8 ⟨v1', v3', rfl, o1', o3', hap'⟩)
        obtain ⟨a1', cap1', rfl, _⟩ := o1'.form
        obtain ⟨a3', cap3', rfl, _⟩ := o3'.form
        have H8 := Lib.hid (And.intro (HS7.out.1.upd o1'.u (by simp)) (And.intro (HS7.out.2.1.upd o1'.u (by simp)) (And.intro o1'.sl (And.intro o3'.sl (HS7.out.2.2.step o1'.u)))))
        clear o1' o3' hap' HA7 HS7
        refine wp_region_lit ?_
        refine wpList_cutH 14 (fun K hK => ?_)
        simp only [List.take_succ_cons, List.take_zero]
        go_wp2_with fail
        refine Halt_.intro ?_; try simp only [List.drop_succ_cons, List.drop_zero]
        refine wpList_cutH 1 (fun K hK => ?_)
        simp only [List.take_succ_cons, List.take_zero]
        go_wp2_with fail
        refine Halt_.intro ?_; try simp only [List.drop_succ_cons, List.drop_zero]
        have B9 := Blk.new w8 [.slice a1 d.length cap1, .slice a3 hs.length cap3] 22
        have U9 := (Upd.refl [] w8).alloc (.cells #[.slice a1 d.length cap1, .slice a3 hs.length cap3] 22)
        change Blk (w8.alloc (.cells #[.slice a1 d.length cap1, .slice a3 hs.length cap3] 22)) _ _ _ at B9
        generalize (w8.alloc (.cells #[.slice a1 d.length cap1, .slice a3 hs.length cap3] 22)) = w9 at *
        have H9 := Lib.hid (And.intro B9 U9)
        clear B9 U9
        refine wpList_cutH 3 (fun K hK => ?_)
        simp only [List.take_succ_cons, List.take_zero]
        go_wp2_with fail
        refine Halt_.intro ?_; try simp only [List.drop_succ_cons, List.drop_zero]
        have B10 := Blk.new w9 [.slice a1' d.length cap1', .slice a3' hs.length cap3'] 22
        have U10 := (Upd.refl [] w9).alloc (.cells #[.slice a1' d.length cap1', .slice a3' hs.length cap3'] 22)
        change Blk (w9.alloc (.cells #[.slice a1' d.length cap1', .slice a3' hs.length cap3'] 22)) _ _ _ at B10
        generalize (w9.alloc (.cells #[.slice a1' d.length cap1', .slice a3' hs.length cap3'] 22)) = w10 at *
        have U810 := H9.out.2.step U10
        have cA := cl_pair (H9.out.1.upd U10 (by simp)) (H8.out.1.upd U810 (by simp)) (H8.out.2.1.upd U810 (by simp))
        have cB := cl_pair B10 (H8.out.2.2.1.upd U810 (by simp)) (H8.out.2.2.2.1.upd U810 (by simp))
        have HSL := Lib.hid (SameL_calls cA cB)
        have HU10 := Lib.hid (H8.out.2.2.2.2.step U810)
        clear B10 U10 U810 cA cB H8 H9
        go_wp2_with (first | (go_at_call 21; (with_reducible refine HSL.out.mono ?_); rintro e w11 ⟨rfl, u11⟩) | (go_at_call 17; (with_reducible refine lives_calls.mono ?_); rintro e w12 ⟨rfl, u12⟩))
        go_ret
        exact ⟨rfl, HU10.out.step (u11.step u12)⟩
end
end Learn
end Go.Proofs.Ytdhhohnaehdpkaa
