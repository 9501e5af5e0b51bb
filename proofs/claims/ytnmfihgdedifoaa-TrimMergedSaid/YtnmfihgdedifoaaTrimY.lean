/- Walks through the reference of package trim: equal lemmas, equal proofs. Conditions: none. -/
import Derived.Test.YtnmfihgdedifoaaTrimX
set_option linter.unusedVariables false
set_option linter.unusedSimpArgs false
set_option linter.unusedSectionVars false
open Go.RowKit
namespace Go.Proofs.Ytnmfihgdedifoaa
open L R01
namespace Trim
/-- The cells of a node of a list. -/
theorem NoL.at_ {w : World} {v : Value} {l : List NodeD} (h : NoL w v l) : ∃ a cap, v = .slice a l.length cap ∧ l.length ≤ cap ∧ cap ≤ 9223372036854775807 ∧ ∀ (i : Nat) (s : NodeD), l[i]? = some s → ∃ g vk, a = some ⟨g, 0, none⟩ ∧ (∀ (j : Nat) (u : Value), (noC s vk)[j]? = some u → w.cell? ⟨g, i * 9 + j, none⟩ = some u) ∧ RowI w vk s.kids := by
  obtain ⟨f, h1, h2, h3⟩ := h
  obtain ⟨_, a, cap, rfl, q, r, _, hc⟩ := SL.of_owns h1
  unfold maxLen at r
  refine ⟨a, cap, rfl, q, by omega, fun i s hs => ?_⟩
  have hil := (List.getElem?_eq_some_iff.1 hs).1
  obtain ⟨vk, e, hR, _⟩ := h3 i s hs
  rcases h1.2 with ⟨h0, hn⟩ | ⟨g, cap', cur, hv, _, _⟩
  · omega
  · cases hv
    have hcc := (SL.of_owns h1).val
    obtain ⟨a', c', he, _, _, _, hcell⟩ := hcc
    cases he
    rcases hcell with hz | ⟨b, off, hb, hcell⟩
    · omega
    · cases hb
      refine ⟨g, vk, rfl, fun j u hj => ?_, hR⟩
      have hj9 : j < 9 := by have := (List.getElem?_eq_some_iff.1 hj).1; simpa [noC] using this
      have := hcell (i * 9 + j) u (by rw [rows_get h2 hj9 hil, e]; exact hj)
      rwa [Nat.zero_add] at this
noncomputable def sameLm (a b : LemD) : Bool := @decide (a = b) (Classical.propDecidable _)
theorem sameLm_true {a b : LemD} (h : a = b) : sameLm a b = true := by unfold sameLm; exact @decide_eq_true _ (Classical.propDecidable _) h
theorem sameLm_false {a b : LemD} (h : a ≠ b) : sameLm a b = false := by unfold sameLm; exact @decide_eq_false _ (Classical.propDecidable _) h
theorem takeG {α : Type} {l : List α} {n : Nat} (hn : n < l.length) : l.take (n + 1) = l.take n ++ [l[n]] := by
  rw [List.take_add_one, List.getElem?_eq_getElem hn]; rfl
theorem LemD.eq4 {a b : LemD} (h1 : a.graph = b.graph) (h2 : a.hyps = b.hyps) (h3 : a.clause = b.clause) (h4 : a.steps = b.steps) : a = b := by
  cases a; cases b; simp_all
section
variable {w : World}
set_option maxRecDepth 100000 in
set_option maxHeartbeats 8000000 in
theorem sameLm_calls {a b : LemD} {c1 c2 : List Value} (ha : LmR w a c1) (hb : LmR w b c2) : Calls Try.prog 40 #[.agg c1.toArray, .agg c2.toArray] w fun e w' => e = .returned (.bool (sameLm a b)) ∧ Upd [] w w' := by
  obtain ⟨g1, h1, k1, s1, rfl, hg1, hh1, hk1, hs1⟩ := ha
  obtain ⟨g2, h2, k2, s2, rfl, hg2, hh2, hk2, hs2⟩ := hb
  obtain ⟨ag1, cg1, rfl, _, rg1, hat1⟩ := hg1.at_
  obtain ⟨ag2, cg2, rfl, _, rg2, hat2⟩ := hg2.at_
  obtain ⟨ah1, ch1, rfl, _⟩ := hh1.cells
  obtain ⟨ah2, ch2, rfl, _⟩ := hh2.cells
  obtain ⟨ak1, ck1, rfl, _⟩ := hk1.cells
  obtain ⟨ak2, ck2, rfl, _⟩ := hk2.cells
  obtain ⟨as1, cs1, rfl, _, rs1, _⟩ := hs1.at_
  obtain ⟨as2, cs2, rfl, _, rs2, _⟩ := hs2.at_
  have b1 := (Blk.new w [.slice ag1 a.graph.length cg1, .slice ah1 a.hyps.length ch1, .slice ak1 a.clause.length ck1, .slice as1 a.steps.length cs1] 82).alloc (.cells #[.slice ag2 b.graph.length cg2, .slice ah2 b.hyps.length ch2, .slice ak2 b.clause.length ck2, .slice as2 b.steps.length cs2] 82)
  have b2 := Blk.new (w.alloc (.cells #[.slice ag1 a.graph.length cg1, .slice ah1 a.hyps.length ch1, .slice ak1 a.clause.length ck1, .slice as1 a.steps.length cs1] 82)) [.slice ag2 b.graph.length cg2, .slice ah2 b.hyps.length ch2, .slice ak2 b.clause.length ck2, .slice as2 b.steps.length cs2] 82
  rw [show (w.alloc (.cells #[.slice ag1 a.graph.length cg1, .slice ah1 a.hyps.length ch1, .slice ak1 a.clause.length ck1, .slice as1 a.steps.length cs1] 82)).heap.size = w.heap.size + 1 by simp] at b2
  have u2 := ((Upd.refl [] w).alloc (.cells #[.slice ag1 a.graph.length cg1, .slice ah1 a.hyps.length ch1, .slice ak1 a.clause.length ck1, .slice as1 a.steps.length cs1] 82)).alloc (.cells #[.slice ag2 b.graph.length cg2, .slice ah2 b.hyps.length ch2, .slice ak2 b.clause.length ck2, .slice as2 b.steps.length cs2] 82)
  have H2 := Lib.hid (And.intro b1 (And.intro b2 u2))
  have HD := Lib.hid (And.intro hat1 (And.intro hat2 (And.intro hs1 hs2)))
  have HH := Lib.hid (fun (w' : World) (u : Upd [] w w') => SameInts_calls (hh1.ext u).sl (hh2.ext u).sl)
  have HK := Lib.hid (fun (w' : World) (u : Upd [] w w') => SameInts_calls (hk1.ext u).sl (hk2.ext u).sl)
  clear hg1 hg2 hh1 hh2 hk1 hk2 hs1 hs2 hat1 hat2 b1 b2 u2
  go_enter Try.func40, Try.ntmps40
  go_upto_region 1 with fail
  generalize ((w.alloc (.cells #[.slice ag1 a.graph.length cg1, .slice ah1 a.hyps.length ch1, .slice ak1 a.clause.length ck1, .slice as1 a.steps.length cs1] 82)).alloc (.cells #[.slice ag2 b.graph.length cg2, .slice ah2 b.hyps.length ch2, .slice ak2 b.clause.length ck2, .slice as2 b.steps.length cs2] 82)) = w2 at *
  have c0 := H2.out.1.cell (i := 0) rfl
  have c1 := H2.out.1.cell (i := 1) rfl
  have c2 := H2.out.1.cell (i := 2) rfl
  have c3 := H2.out.1.cell (i := 3) rfl
  have d0 := H2.out.2.1.cell (i := 0) rfl
  have d1 := H2.out.2.1.cell (i := 1) rfl
  have d2 := H2.out.2.1.cell (i := 2) rfl
  have d3 := H2.out.2.1.cell (i := 3) rfl
  by_cases hlg : a.graph.length = b.graph.length
  case neg =>
    have hb : ((a.graph.length : Int) != (b.graph.length : Int)) = true := by simp; omega
    have HR := Lib.hid (sameLm_false (a := a) (b := b) (fun h => hlg (by rw [h])))
    clear hlg
    go_wp2_with fail
    go_ret
    rw [HR.out]
    exact ⟨rfl, H2.out.2.2⟩
  have bg : ((a.graph.length : Int) != (b.graph.length : Int)) = false := by simp [hlg]
  have hle1 : a.graph.length ≤ b.graph.length := by omega
  have hle2 : b.graph.length ≤ a.graph.length := by omega
  clear hlg
  by_cases hls : a.steps.length = b.steps.length
  case neg =>
    have hb : ((a.steps.length : Int) != (b.steps.length : Int)) = true := by simp; omega
    have HR := Lib.hid (sameLm_false (a := a) (b := b) (fun h => hls (by rw [h])))
    clear hls
    go_wp2_with fail
    go_ret
    rw [HR.out]
    exact ⟨rfl, H2.out.2.2⟩
  have bs : ((a.steps.length : Int) != (b.steps.length : Int)) = false := by simp [hls]
  clear hls
  by_cases hh : a.hyps = b.hyps
  case neg =>
    have HR := Lib.hid (sameLm_false (a := a) (b := b) (fun h => hh (by rw [h])))
    have HH' := Lib.hid (by have h := HH.out w2 H2.out.2.2; rw [decide_eq_false hh] at h; exact h)
    clear hh
    go_wp2_with (go_at_call 24; (with_reducible refine HH'.out.mono ?_); rintro e w3 ⟨rfl, u3⟩)
    go_ret
    rw [HR.out]
    exact ⟨rfl, H2.out.2.2.step u3⟩
  have HH' := Lib.hid (by have h := HH.out w2 H2.out.2.2; rw [decide_eq_true hh] at h; exact h)
  have HHE := Lib.hid hh
  clear hh
  by_cases hk : a.clause = b.clause
  case neg =>
    have HR := Lib.hid (sameLm_false (a := a) (b := b) (fun h => hk (by rw [h])))
    have HK' := Lib.hid (fun (w' : World) (u : Upd [] w w') => by have h := HK.out w' u; rw [decide_eq_false hk] at h; exact h)
    clear hk
    go_wp2_with (first | (go_at_call 24; (with_reducible refine HH'.out.mono ?_); rintro e w3 ⟨rfl, u3⟩; have y2 := u3.some c2 (by simp); have z2 := u3.some d2 (by simp)) | (go_at_call 24; (with_reducible refine (HK'.out _ (H2.out.2.2.step u3)).mono ?_); rintro e w4 ⟨rfl, u4⟩))
    go_ret
    rw [HR.out]
    exact ⟨rfl, (H2.out.2.2.step u3).step u4⟩
  have HK' := Lib.hid (fun (w' : World) (u : Upd [] w w') => by have h := HK.out w' u; rw [decide_eq_true hk] at h; exact h)
  have HKE := Lib.hid hk
  clear hk HH HK
  go_upto_block 0 with (first | (go_at_call 24; (with_reducible refine HH'.out.mono ?_); rintro e w3 ⟨rfl, u3⟩; have y2 := u3.some c2 (by simp); have z2 := u3.some d2 (by simp)) | (go_at_call 24; (with_reducible refine (HK'.out _ (H2.out.2.2.step u3)).mono ?_); rintro e w4 ⟨rfl, u4⟩))
  have U4 := u3.step u4
  have H4 := Lib.hid (And.intro (H2.out.1.upd U4 (by simp)) (And.intro (H2.out.2.1.upd U4 (by simp)) (H2.out.2.2.step U4)))
  clear H2 c0 c1 c2 c3 d0 d1 d2 d3 u3 u4 U4 y2 z2 HH' HK'
  go_wp2_with fail
  go_loopw [5] (fun i wr => ∃ k : Nat, i = .int .i64 k ∧ k ≤ a.graph.length ∧ a.graph.take k = b.graph.take k ∧ Upd [] w4 wr) (fun i _ => a.graph.length - (intOf i).toNat)
  case atStart => exact ⟨0, rfl, Nat.zero_le _, by simp, Upd.refl _ _⟩
  case round =>
    obtain ⟨wo, rfl⟩ : ∃ wo : World, wo = wr := ⟨_, rfl⟩
    obtain ⟨k, rfl, hk, htk, hu⟩ := hrel
    have c0 := (H4.out.1.upd hu (by simp)).cell (i := 0) rfl
    have d0 := (H4.out.2.1.upd hu (by simp)).cell (i := 0) rfl
    have HUU := Lib.hid (And.intro hu (H4.out.2.2.step hu))
    by_cases hlt : k < a.graph.length
    · have hlt' : (k : Int) < a.graph.length := by omega
      have hkm : k < b.graph.length := by omega
      obtain ⟨g, v1, rfl, e1, f1⟩ := HD.out.1 k _ (List.getElem?_eq_getElem hlt)
      obtain ⟨g', v2, rfl, e2, f2⟩ := HD.out.2.1 k _ (List.getElem?_eq_getElem hkm)
      have HT := Lib.hid (And.intro htk (And.intro (takeG hlt) (And.intro (takeG hkm) (show a = b → a.graph[k] = b.graph[k] from fun h => by subst h; rfl))))
      generalize a.graph[k] = x at *
      generalize b.graph[k] = y at *
      obtain ⟨ap, cp, rfl, _⟩ := f1.cells
      obtain ⟨bp, dp, rfl, _⟩ := f2.cells
      have p0 := HUU.out.2.some (e1 0 _ rfl) (by simp)
      have p1 := HUU.out.2.some (e1 1 _ rfl) (by simp)
      have p2 := HUU.out.2.some (e1 2 _ rfl) (by simp)
      have p3 := HUU.out.2.some (e1 3 _ rfl) (by simp)
      have p4 := HUU.out.2.some (e1 4 _ rfl) (by simp)
      have p5 := HUU.out.2.some (e1 5 _ rfl) (by simp)
      have p6 := HUU.out.2.some (e1 6 _ rfl) (by simp)
      have p7 := HUU.out.2.some (e1 7 _ rfl) (by simp)
      have p8 := HUU.out.2.some (e1 8 _ rfl) (by simp)
      have q0 := HUU.out.2.some (e2 0 _ rfl) (by simp)
      have q1 := HUU.out.2.some (e2 1 _ rfl) (by simp)
      have q2 := HUU.out.2.some (e2 2 _ rfl) (by simp)
      have q3 := HUU.out.2.some (e2 3 _ rfl) (by simp)
      have q4 := HUU.out.2.some (e2 4 _ rfl) (by simp)
      have q5 := HUU.out.2.some (e2 5 _ rfl) (by simp)
      have q6 := HUU.out.2.some (e2 6 _ rfl) (by simp)
      have q7 := HUU.out.2.some (e2 7 _ rfl) (by simp)
      have q8 := HUU.out.2.some (e2 8 _ rfl) (by simp)
      rw [Nat.add_zero] at p0 q0
      have HF := Lib.hid (And.intro (f1.ext HUU.out.2) (f2.ext HUU.out.2))
      clear hu e1 e2 f1 f2 htk
      by_cases hxy : x = y
      · have hs := sameNo_iff.2 hxy
        have HXY := Lib.hid hxy
        have HSS := Lib.hid (fun (z : Ext wo) => by have h := sameNo_calls (HF.out.1.ext z.upd) (HF.out.2.ext z.upd); rw [hs] at h; exact h)
        clear hxy hs
        go_wp2_with fail
        refine wp_region_qx (by kernel_rfl) (by kernel_rfl) ?_
        repeat (go_big_quiet_step (((go_at_call 52; exact qx (HSS.out _)))))
        refine wpQuiet_nil ?_
        intro x
        go_wp2_with fail
        exact ⟨⟨k + 1, by go_num, by omega, by rw [HT.out.2.1, HT.out.2.2.1, HT.out.1, HXY.out], HUU.out.1.step (by assumption : Ext wo).upd⟩, by simp [intOf]; omega⟩
      · have HDN := Lib.hid (show sameLm a b = false from sameLm_false (fun h => hxy (HT.out.2.2.2 h)))
        have hs : sameNo x y = false := by
          cases e : sameNo x y with
          | false => rfl
          | true => exact absurd (sameNo_iff.1 e) hxy
        have HSS := Lib.hid (fun (z : Ext wo) => by have h := sameNo_calls (HF.out.1.ext z.upd) (HF.out.2.ext z.upd); rw [hs] at h; exact h)
        clear hxy hs
        go_wp2_with fail
        refine wp_region_qx (by kernel_rfl) (by kernel_rfl) ?_
        repeat (go_big_quiet_step (((go_at_call 52; exact qx (HSS.out _)))))
        refine wpQuiet_nil ?_
        intro x
        go_wp2_with fail
        go_ret
        rw [HDN.out]
        exact ⟨rfl, HUU.out.2.step (by assumption : Ext wo).upd⟩
    · have hkl : k = a.graph.length := by omega
      subst hkl
      rw [List.take_of_length_le (by omega), List.take_of_length_le (by omega)] at htk
      have c3 := (H4.out.1.upd hu (by simp)).cell (i := 3) rfl
      have d3 := (H4.out.2.1.upd hu (by simp)).cell (i := 3) rfl
      have HST := Lib.hid (sameSs_calls (HD.out.2.2.1.ext HUU.out.2) (HD.out.2.2.2.ext HUU.out.2))
      have HEQ := Lib.hid (show sameLm a b = sameSs a.steps b.steps by
        by_cases he : a.steps = b.steps
        · rw [sameSs_iff.2 he]; exact sameLm_true (LemD.eq4 htk HHE.out HKE.out he)
        · rw [sameSs_no he]; exact sameLm_false (fun h => he (by rw [h])))
      clear htk hu
      go_wp2_with (go_at_call 39; (with_reducible refine HST.out.mono ?_); rintro e w5 ⟨rfl, u5⟩)
      go_ret
      rw [HEQ.out]
      exact ⟨rfl, HUU.out.2.step u5⟩
/-- Whether two proofs are equal. -/
noncomputable def samePr (p q : PrfD) : Bool := @decide (p = q) (Classical.propDecidable _)
theorem samePr_true {a b : PrfD} (h : a = b) : samePr a b = true := by unfold samePr; exact @decide_eq_true _ (Classical.propDecidable _) h
theorem samePr_false {a b : PrfD} (h : a ≠ b) : samePr a b = false := by unfold samePr; exact @decide_eq_false _ (Classical.propDecidable _) h
theorem PrfD.eq2 {a b : PrfD} (h1 : a.lemmas = b.lemmas) (h2 : a.steps = b.steps) : a = b := by
  cases a; cases b; simp_all
end
end Trim
end Go.Proofs.Ytnmfihgdedifoaa
