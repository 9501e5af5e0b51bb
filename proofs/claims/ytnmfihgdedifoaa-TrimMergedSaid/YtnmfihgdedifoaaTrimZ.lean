/- Walks through the reference of package trim: equal proofs. Conditions: none. -/
import Derived.Test.YtnmfihgdedifoaaTrimY
import Derived.Test.YtnmfihgdedifoaaTrimS
set_option linter.unusedVariables false
set_option linter.unusedSimpArgs false
set_option linter.unusedSectionVars false
open Go.RowKit
namespace Go.Proofs.Ytnmfihgdedifoaa
open L R01
namespace Trim
theorem LmR.ext' {w w' : World} {d : LemD} {cs : List Value} (h : LmR w d cs) (u : Upd [] w w') : LmR w' d cs := h.kd (es := [3, 88, 56]) (off_nil _ _) (by simp) (by simp) (by simp) u
section
variable {w : World}
set_option maxRecDepth 100000 in
set_option maxHeartbeats 8000000 in
theorem same_calls {v1 v2 : Value} {p q : PrfD} (hp : PrL w v1 p) (hq : PrL w v2 q) : Calls Try.prog 22 #[v1, v2] w fun e w' => e = .returned (.bool (samePr p q)) ∧ Upd [] w w' := by
  obtain ⟨l1, s1, rfl, hL1, hS1⟩ := hp
  obtain ⟨l2, s2, rfl, hL2, hS2⟩ := hq
  obtain ⟨al1, cl1, rfl, _, _⟩ := hL1.form
  obtain ⟨al2, cl2, rfl, _, _⟩ := hL2.form
  obtain ⟨as1, cs1, rfl, _, rs1, _⟩ := hS1.at_
  obtain ⟨as2, cs2, rfl, _, rs2, _⟩ := hS2.at_
  have b1 := (Blk.new w [.slice al1 p.lemmas.length cl1, .slice as1 p.steps.length cs1] 30).alloc (.cells #[.slice al2 q.lemmas.length cl2, .slice as2 q.steps.length cs2] 30)
  have b2 := Blk.new (w.alloc (.cells #[.slice al1 p.lemmas.length cl1, .slice as1 p.steps.length cs1] 30)) [.slice al2 q.lemmas.length cl2, .slice as2 q.steps.length cs2] 30
  rw [show (w.alloc (.cells #[.slice al1 p.lemmas.length cl1, .slice as1 p.steps.length cs1] 30)).heap.size = w.heap.size + 1 by simp] at b2
  have u2 := ((Upd.refl [] w).alloc (.cells #[.slice al1 p.lemmas.length cl1, .slice as1 p.steps.length cs1] 30)).alloc (.cells #[.slice al2 q.lemmas.length cl2, .slice as2 q.steps.length cs2] 30)
  have H2 := Lib.hid (And.intro b1 (And.intro b2 u2))
  have HD := Lib.hid (And.intro hL1.at_ hL2.at_)
  have HST := Lib.hid (fun (w' : World) (u : Upd [] w w') => sameSs_calls (hS1.ext u) (hS2.ext u))
  clear hL1 hL2 hS1 hS2 b1 b2 u2
  go_enter Try.func22, Try.ntmps22
  go_upto_region 1 with fail
  generalize ((w.alloc (.cells #[.slice al1 p.lemmas.length cl1, .slice as1 p.steps.length cs1] 30)).alloc (.cells #[.slice al2 q.lemmas.length cl2, .slice as2 q.steps.length cs2] 30)) = w2 at *
  have c0 := H2.out.1.cell (i := 0) rfl
  have c1 := H2.out.1.cell (i := 1) rfl
  have d0 := H2.out.2.1.cell (i := 0) rfl
  have d1 := H2.out.2.1.cell (i := 1) rfl
  by_cases hll : p.lemmas.length = q.lemmas.length
  case neg =>
    have hb : ((p.lemmas.length : Int) != (q.lemmas.length : Int)) = true := by simp; omega
    have HR := Lib.hid (samePr_false (a := p) (b := q) (fun h => hll (by rw [h])))
    clear hll
    go_wp2_with fail
    go_ret
    rw [HR.out]
    exact ⟨rfl, H2.out.2.2⟩
  have bl : ((p.lemmas.length : Int) != (q.lemmas.length : Int)) = false := by simp [hll]
  have hle1 : p.lemmas.length ≤ q.lemmas.length := by omega
  have hle2 : q.lemmas.length ≤ p.lemmas.length := by omega
  clear hll
  by_cases hss : p.steps = q.steps
  case neg =>
    have HR := Lib.hid (samePr_false (a := p) (b := q) (fun h => hss (by rw [h])))
    have HS' := Lib.hid (by have h := HST.out w2 H2.out.2.2; rw [sameSs_no hss] at h; exact h)
    clear hss
    go_wp2_with (go_at_call 39; (with_reducible refine HS'.out.mono ?_); rintro e w3 ⟨rfl, u3⟩)
    go_ret
    rw [HR.out]
    exact ⟨rfl, H2.out.2.2.step u3⟩
  have HS' := Lib.hid (by have h := HST.out w2 H2.out.2.2; rw [sameSs_iff.2 hss] at h; exact h)
  have HSE := Lib.hid hss
  clear hss HST
  go_upto_block 0 with (go_at_call 39; (with_reducible refine HS'.out.mono ?_); rintro e w4 ⟨rfl, U4⟩)
  have H4 := Lib.hid (And.intro (H2.out.1.upd U4 (by simp)) (And.intro (H2.out.2.1.upd U4 (by simp)) (H2.out.2.2.step U4)))
  clear H2 c0 c1 d0 d1 U4 HS'
  go_wp2_with fail
  go_loopw [5] (fun i wr => ∃ k : Nat, i = .int .i64 k ∧ k ≤ p.lemmas.length ∧ p.lemmas.take k = q.lemmas.take k ∧ Upd [] w4 wr) (fun i _ => p.lemmas.length - (intOf i).toNat)
  case atStart => exact ⟨0, rfl, Nat.zero_le _, by simp, Upd.refl _ _⟩
  case round =>
    obtain ⟨wo, rfl⟩ : ∃ wo : World, wo = wr := ⟨_, rfl⟩
    obtain ⟨k, rfl, hk, htk, hu⟩ := hrel
    have c0 := (H4.out.1.upd hu (by simp)).cell (i := 0) rfl
    have d0 := (H4.out.2.1.upd hu (by simp)).cell (i := 0) rfl
    have HUU := Lib.hid (And.intro hu (H4.out.2.2.step hu))
    by_cases hlt : k < p.lemmas.length
    · have hlt' : (k : Int) < p.lemmas.length := by omega
      have hkm : k < q.lemmas.length := by omega
      obtain ⟨g, cs, rfl, f1, e1⟩ := HD.out.1 k _ (List.getElem?_eq_getElem hlt)
      obtain ⟨g', cs', rfl, f2, e2⟩ := HD.out.2 k _ (List.getElem?_eq_getElem hkm)
      have HT := Lib.hid (And.intro htk (And.intro (takeG hlt) (And.intro (takeG hkm) (show p = q → p.lemmas[k] = q.lemmas[k] from fun h => by subst h; rfl))))
      generalize p.lemmas[k] = x at *
      generalize q.lemmas[k] = y at *
      obtain ⟨a1, n1, a2, n2, a3, n3, a4, n4, rfl⟩ := f1.cells
      obtain ⟨a1', n1', a2', n2', a3', n3', a4', n4', rfl⟩ := f2.cells
      have p0 := HUU.out.2.some (e1 0 _ rfl) (by simp)
      have p1 := HUU.out.2.some (e1 1 _ rfl) (by simp)
      have p2 := HUU.out.2.some (e1 2 _ rfl) (by simp)
      have p3 := HUU.out.2.some (e1 3 _ rfl) (by simp)
      have q0 := HUU.out.2.some (e2 0 _ rfl) (by simp)
      have q1 := HUU.out.2.some (e2 1 _ rfl) (by simp)
      have q2 := HUU.out.2.some (e2 2 _ rfl) (by simp)
      have q3 := HUU.out.2.some (e2 3 _ rfl) (by simp)
      rw [Nat.add_zero] at p0 q0
      have HF := Lib.hid (And.intro (f1.ext' HUU.out.2) (f2.ext' HUU.out.2))
      clear hu e1 e2 f1 f2 htk
      by_cases hxy : x = y
      · have hs := sameLm_true hxy
        have HXY := Lib.hid hxy
        have HSS := Lib.hid (fun (z : Ext wo) => by have h := sameLm_calls (HF.out.1.ext' z.upd) (HF.out.2.ext' z.upd); rw [hs] at h; exact h)
        clear hxy hs
        go_wp2_with fail
        refine wp_region_qx (by kernel_rfl) (by kernel_rfl) ?_
        repeat (go_big_quiet_step (((go_at_call 40; exact qx (HSS.out _)))))
        refine wpQuiet_nil ?_
        intro x
        go_wp2_with fail
        exact ⟨⟨k + 1, by go_num, by omega, by rw [HT.out.2.1, HT.out.2.2.1, HT.out.1, HXY.out], HUU.out.1.step (by assumption : Ext wo).upd⟩, by simp [intOf]; omega⟩
      · have HDN := Lib.hid (show samePr p q = false from samePr_false (fun h => hxy (HT.out.2.2.2 h)))
        have hs := sameLm_false hxy
        have HSS := Lib.hid (fun (z : Ext wo) => by have h := sameLm_calls (HF.out.1.ext' z.upd) (HF.out.2.ext' z.upd); rw [hs] at h; exact h)
        clear hxy hs
        go_wp2_with fail
        refine wp_region_qx (by kernel_rfl) (by kernel_rfl) ?_
        repeat (go_big_quiet_step (((go_at_call 40; exact qx (HSS.out _)))))
        refine wpQuiet_nil ?_
        intro x
        go_wp2_with fail
        go_ret
        rw [HDN.out]
        exact ⟨rfl, HUU.out.2.step (by assumption : Ext wo).upd⟩
    · have hkl : k = p.lemmas.length := by omega
      subst hkl
      rw [List.take_of_length_le (by omega), List.take_of_length_le (by omega)] at htk
      have HEQ := Lib.hid (samePr_true (PrfD.eq2 htk HSE.out))
      clear htk hu
      go_wp2_with fail
      go_ret
      rw [HEQ.out]
      exact ⟨rfl, HUU.out.2⟩
end
end Trim
end Go.Proofs.Ytnmfihgdedifoaa
