/- Walks through the reference of package trim: Merge. Conditions: none. -/
import Derived.Test.YtnmfihgdedifoaaTrimMI
import Derived.Test.YtnmfihgdedifoaaTrimMG
set_option linter.unusedVariables false
set_option linter.unusedSimpArgs false
set_option linter.unusedSectionVars false
open Go.RowKit
namespace Go.Proofs.Ytnmfihgdedifoaa
open L R01
namespace Trim
def Four (p0 p1 p2 p3 : Addr) (v0 v1 v2 v3 : Value) : Type := { w : World // w.cell? p0 = some v0 ∧ w.cell? p1 = some v1 ∧ w.cell? p2 = some v2 ∧ w.cell? p3 = some v3 }
section
variable {p0 p1 p2 p3 : Addr} {v0 v1 v2 v3 : Value}
theorem Four.c0 (x : Four p0 p1 p2 p3 v0 v1 v2 v3) : x.val.cell? p0 = some v0 := x.property.1
theorem Four.c1 (x : Four p0 p1 p2 p3 v0 v1 v2 v3) : x.val.cell? p1 = some v1 := x.property.2.1
theorem Four.c2 (x : Four p0 p1 p2 p3 v0 v1 v2 v3) : x.val.cell? p2 = some v2 := x.property.2.2.1
theorem Four.c3 (x : Four p0 p1 p2 p3 v0 v1 v2 v3) : x.val.cell? p3 = some v3 := x.property.2.2.2
attribute [go_sem] Four.c0 Four.c1 Four.c2 Four.c3
theorem Four.of {w : World} (h0 : w.cell? p0 = some v0) (h1 : w.cell? p1 = some v1) (h2 : w.cell? p2 = some v2) (h3 : w.cell? p3 = some v3) : ∃ x : Four p0 p1 p2 p3 v0 v1 v2 v3, w = x.val := ⟨⟨w, h0, h1, h2, h3⟩, rfl⟩
end
/-- The lemmas and steps that the reference has taken so far. -/
noncomputable def RL (L xs : List LemD) (k : Nat) : List LemD × (Nat → Int) := goTo sameLm (fun _ x => x) L xs k
noncomputable def RS (ln : Nat → Int) (T xs : List StepD) (k : Nat) : List StepD × (Nat → Int) := goTo sameSt (fun no x => renS no ln x) T xs k
noncomputable def rst (ps : Nat → PrfD) : Nat → List LemD × List StepD
  | 0 => ([], [])
  | j + 1 => ((RL (rst ps j).1 (ps j).lemmas (ps j).lemmas.length).1, (RS (RL (rst ps j).1 (ps j).lemmas (ps j).lemmas.length).2 (rst ps j).2 (ps j).steps (ps j).steps.length).1)
noncomputable def rnum (ps : Nat → PrfD) (j : Nat) : List Int := tabI (ps j).steps.length (RS (RL (rst ps j).1 (ps j).lemmas (ps j).lemmas.length).2 (rst ps j).2 (ps j).steps (ps j).steps.length).2
theorem rst_le (ps : Nat → PrfD) {B : Nat} (hB : ∀ j, (ps j).lemmas.length ≤ B ∧ (ps j).steps.length ≤ B) : ∀ j, (rst ps j).1.length ≤ B * j ∧ (rst ps j).2.length ≤ B * j
  | 0 => by simp [rst]
  | j + 1 => by
    have ih := rst_le ps hB j
    have h1 := (goTo_bound sameLm (fun _ x => x) (rst ps j).1 (ps j).lemmas (ps j).lemmas.length).1
    have h2 := (goTo_bound sameSt (fun no x => renS no (RL (rst ps j).1 (ps j).lemmas (ps j).lemmas.length).2 x) (rst ps j).2 (ps j).steps (ps j).steps.length).1
    have h3 := hB j
    rw [Nat.mul_succ]
    constructor
    · show (RL _ _ _).1.length ≤ _; unfold RL; omega
    · show (RS _ _ _ _).1.length ≤ _; unfold RS; omega
theorem tabI_upd {k : Nat} {f : Nat → Int} {x : Int} : tabI (k + 1) (fun j => if j = k then x else f j) = tabI k f ++ [x] := by
  rw [tabI_snoc]
  simp only [if_true]
  rw [tabI_congr (g := f) (fun j hj => by rw [if_neg (by omega)])]
theorem rm_start (w : World) (A B C D : Value) : RM w (w.heap.size + 1 + 1 + 1) (.slice none 0 0) (.slice none 0 0) (.slice none 0 0) [] [] [] [] (.slice none 0 0) [] [(w.heap.size + 1 + 1, [.slice none 0 0, .slice none 0 0]), (w.heap.size + 1 + 1 + 1 + 1, [A, B, C, D])]
    (((((w.alloc (.cells #[A, B] 30)).alloc (.cells #[C, D] 30)).alloc (.cells #[.slice none 0 0, .slice none 0 0] 30)).alloc (.cells #[.slice none 0 0, .slice none 0 0] 30)).alloc (.cells #[A, B, C, D] 30)) := by
  have e1 : (w.alloc (.cells #[A, B] 30)).heap.size = w.heap.size + 1 := by simp
  have e2 : ((w.alloc (.cells #[A, B] 30)).alloc (.cells #[C, D] 30)).heap.size = w.heap.size + 1 + 1 := by simp
  have e3 : (((w.alloc (.cells #[A, B] 30)).alloc (.cells #[C, D] 30)).alloc (.cells #[.slice none 0 0, .slice none 0 0] 30)).heap.size = w.heap.size + 1 + 1 + 1 := by simp
  have e4 : ((((w.alloc (.cells #[A, B] 30)).alloc (.cells #[C, D] 30)).alloc (.cells #[.slice none 0 0, .slice none 0 0] 30)).alloc (.cells #[.slice none 0 0, .slice none 0 0] 30)).heap.size = w.heap.size + 1 + 1 + 1 + 1 := by simp
  have B2 := Blk.new ((w.alloc (.cells #[A, B] 30)).alloc (.cells #[C, D] 30)) [.slice none 0 0, .slice none 0 0] 30
  have B3 := Blk.new (((w.alloc (.cells #[A, B] 30)).alloc (.cells #[C, D] 30)).alloc (.cells #[.slice none 0 0, .slice none 0 0] 30)) [.slice none 0 0, .slice none 0 0] 30
  have B4 := Blk.new ((((w.alloc (.cells #[A, B] 30)).alloc (.cells #[C, D] 30)).alloc (.cells #[.slice none 0 0, .slice none 0 0] 30)).alloc (.cells #[.slice none 0 0, .slice none 0 0] 30)) [A, B, C, D] 30
  rw [e2] at B2
  rw [e3] at B3
  rw [e4] at B4
  have u4 := (Upd.refl [] (((w.alloc (.cells #[A, B] 30)).alloc (.cells #[C, D] 30)).alloc (.cells #[.slice none 0 0, .slice none 0 0] 30))).alloc (.cells #[.slice none 0 0, .slice none 0 0] 30)
  have u5 := (Upd.refl [] ((((w.alloc (.cells #[A, B] 30)).alloc (.cells #[C, D] 30)).alloc (.cells #[.slice none 0 0, .slice none 0 0] 30)).alloc (.cells #[.slice none 0 0, .slice none 0 0] 30))).alloc (.cells #[A, B, C, D] 30)
  refine ⟨B3.upd u5 (by simp), lmQ_nil _ _, stN_nil _ _ _, OwnV.nil _ _ _ _, fun r hr => by simp at hr, OwnV.nil _ _ _ _, by omega, fun x hx => ?_, (((((Upd.refl [] w).alloc _).alloc _).alloc _).step u4).step u5⟩
  simp only [List.mem_cons, List.not_mem_nil, or_false] at hx
  rcases hx with rfl | rfl
  · exact ⟨(B2.upd u4 (by simp)).upd u5 (by simp), by show w.heap.size + 1 + 1 ≠ _; omega⟩
  · exact ⟨B4, by show w.heap.size + 1 + 1 + 1 + 1 ≠ _; omega⟩
section
variable {w : World}
set_option maxRecDepth 100000 in
set_option maxHeartbeats 16000000 in
theorem RMerge_calls {v v2 : Value} {ps : Nat → PrfD} (h : PrL w v (ps 0)) (h2 : PrL w v2 (ps 1)) (hps : ∀ j, MOk (ps j)) :
    Calls Try.prog 28 #[v, v2] w fun e w' => ∃ (v' x y : Value), e = .returned (.tuple #[v', x, y]) ∧ PrL w' v' ⟨(rst ps 2).1, (rst ps 2).2⟩ ∧ RowI w' x (rnum ps 0) ∧ RowI w' y (rnum ps 1) ∧ Upd [] w w' := by
  obtain ⟨al, cl, a2, c2, rfl⟩ := h.form
  obtain ⟨al', cl', a2', c2', rfl⟩ := h2.form
  have HQ := Lib.hid (And.intro h (And.intro h2 hps))
  clear h h2 hps
  have H5 := Lib.hid (rm_start w (.slice al (ps 0).lemmas.length cl) (.slice a2 (ps 0).steps.length c2) (.slice al' (ps 1).lemmas.length cl') (.slice a2' (ps 1).steps.length c2'))
  go_enter Try.func28, Try.ntmps28
  go_wp2_with fail
  generalize hgP : Array.size (World.heap w) + 1 + 1 + 1 + 1 = gP at *
  generalize hob : Array.size (World.heap w) + 1 + 1 + 1 = ob at *
  generalize hrb : Array.size (World.heap w) + 1 + 1 = rb at *
  have hne : w.heap.size ≤ rb ∧ rb ≠ ob ∧ gP ≠ ob ∧ rb ≠ gP := by omega
  clear hgP hob hrb
  generalize (((((w.alloc (.cells #[.slice al (ps 0).lemmas.length cl, .slice a2 (ps 0).steps.length c2] 30)).alloc (.cells #[.slice al' (ps 1).lemmas.length cl', .slice a2' (ps 1).steps.length c2'] 30)).alloc (.cells #[.slice none 0 0, .slice none 0 0] 30)).alloc (.cells #[.slice none 0 0, .slice none 0 0] 30)).alloc (.cells #[.slice al (ps 0).lemmas.length cl, .slice a2 (ps 0).steps.length c2, .slice al' (ps 1).lemmas.length cl', .slice a2' (ps 1).steps.length c2'] 30)) = w5 at *
  go_loopw [9, 10] (fun v9 i wr => ∃ (j : Nat) (vL vS : Value) (fr rs : List (Value × List Int)), i = .int .i64 j ∧ j ≤ 2 ∧ RM w ob vL vS (.slice none 0 0) (rst ps j).1 (rst ps j).2 [] fr v9 (rs.map Prod.fst) [(rb, [.slice none 0 0, .slice none 0 0]), (gP, [.slice al (ps 0).lemmas.length cl, .slice a2 (ps 0).steps.length c2, .slice al' (ps 1).lemmas.length cl', .slice a2' (ps 1).steps.length c2'])] wr ∧ rs.map Prod.snd = (List.range j).map (rnum ps) ∧ ∀ r ∈ rs, r ∈ fr) (fun _ i _ => 2 - (intOf i).toNat)
  case atStart => exact ⟨0, _, _, [], [], rfl, by omega, H5.out, rfl, by simp⟩
  case round =>
    obtain ⟨w6, rfl⟩ : ∃ w6 : World, w6 = wr := ⟨_, rfl⟩
    obtain ⟨j, vL0, vS0, fr, rs, rfl, hj, hRM, hrs, hfr⟩ := hrel
    have HRM := Lib.hid hRM
    have HRS := Lib.hid (And.intro hrs hfr)
    clear hRM hrs hfr H5
    by_cases hlj : j < 2
    · have hji : (j : Int) < 2 := by omega
      have hcl : ∃ aL cL aS cS, [Value.slice al (ps 0).lemmas.length cl, .slice a2 (ps 0).steps.length c2, .slice al' (ps 1).lemmas.length cl', .slice a2' (ps 1).steps.length c2'][j * 2]? = some (.slice aL (ps j).lemmas.length cL) ∧ [Value.slice al (ps 0).lemmas.length cl, .slice a2 (ps 0).steps.length c2, .slice al' (ps 1).lemmas.length cl', .slice a2' (ps 1).steps.length c2'][j * 2 + 1]? = some (.slice aS (ps j).steps.length cS) ∧ PrL w (.agg #[.slice aL (ps j).lemmas.length cL, .slice aS (ps j).steps.length cS]) (ps j) := by
        match j, hlj with
        | 0, _ => exact ⟨al, cl, a2, c2, rfl, rfl, HQ.out.1⟩
        | 1, _ => exact ⟨al', cl', a2', c2', rfl, rfl, HQ.out.2.1⟩
      obtain ⟨aL, cL, aS, cS, hc1, hc2, hPr⟩ := hcl
      have hok := HQ.out.2.2 j
      have hbd := rst_le ps (B := 1000) (fun j => ⟨by have := (HQ.out.2.2 j).nl; omega, (HQ.out.2.2 j).len⟩) j
      have HST := Lib.hid (And.intro (show rst ps (j + 1) = ((RL (rst ps j).1 (ps j).lemmas (ps j).lemmas.length).1, (RS (RL (rst ps j).1 (ps j).lemmas (ps j).lemmas.length).2 (rst ps j).2 (ps j).steps (ps j).steps.length).1) from rfl) (show rnum ps j = tabI (ps j).steps.length (RS (RL (rst ps j).1 (ps j).lemmas (ps j).lemmas.length).2 (rst ps j).2 (ps j).steps (ps j).steps.length).2 from rfl))
      have HPC := Lib.hid (And.intro hc1 (And.intro hc2 (And.intro hPr hok)))
      have hL200 : (rst ps j).1.length ≤ 2000 := by have := hbd.1; omega
      have hT200 : (rst ps j).2.length ≤ 2000 := by have := hbd.2; omega
      have hnl := hok.nl
      have hnS := hok.len
      clear hc1 hc2 hPr hok hbd
      generalize (rst ps j).1 = L0 at *
      generalize (rst ps j).2 = T0 at *
      generalize hP : ps j = P at *
      have HPJ := Lib.hid hP
      clear hP
      generalize hbxs : [((rb, [Value.slice none 0 0, .slice none 0 0]) : Nat × List Value), (gP, [.slice al (ps 0).lemmas.length cl, .slice a2 (ps 0).steps.length c2, .slice al' (ps 1).lemmas.length cl', .slice a2' (ps 1).steps.length c2'])] = bxs at *
      have HBX := Lib.hid (show ∀ (vL vS vn v9 : Value) (L : List LemD) (T : List StepD) (A : List Int) (fr : List (Value × List Int)) (R : List Value) (W : World), RM w ob vL vS vn L T A fr v9 R bxs W → W.cell? ⟨gP, j * 2, none⟩ = some (.slice aL P.lemmas.length cL) ∧ W.cell? ⟨gP, j * 2 + 1, none⟩ = some (.slice aS P.steps.length cS) from fun vL vS vn v9 L T A fr R W h => by
        have hb := (h.bx (gP, [.slice al (ps 0).lemmas.length cl, .slice a2 (ps 0).steps.length c2, .slice al' (ps 1).lemmas.length cl', .slice a2' (ps 1).steps.length c2']) (by rw [← hbxs]; simp)).1
        exact ⟨hb.cell HPC.out.1, hb.cell HPC.out.2.1⟩)
      have HBE := Lib.hid hbxs
      clear hbxs
      go_wp2_with fail
      go_loopw [11, 12] (fun vn i wr => ∃ (k : Nat) (vL : Value), i = .int .i64 k ∧ k ≤ P.lemmas.length ∧ RM w ob vL vS0 vn (RL L0 P.lemmas k).1 T0 (tabI k (RL L0 P.lemmas k).2) fr u9 (rs.map Prod.fst) bxs wr) (fun _ i _ => P.lemmas.length - (intOf i).toNat)
      case atStart => exact ⟨0, vL0, rfl, Nat.zero_le _, HRM.out⟩
      case round =>
        obtain ⟨wo, rfl⟩ : ∃ wo : World, wo = wr := ⟨_, rfl⟩
        obtain ⟨k, vL, rfl, hk, hI⟩ := hrel
        have hPL := (HBX.out _ _ _ _ _ _ _ _ _ _ hI).1
        have HI := Lib.hid hI
        obtain ⟨aO, cO, rfl⟩ : ∃ a c, vL = .slice a (RL L0 P.lemmas k).1.length c := by
          obtain ⟨_, o1, _⟩ := hI.lm
          exact ownsRow_slice o1
        obtain ⟨aN, cN, rfl⟩ : ∃ a c, u11 = .slice a k c := by
          have := ownsRow_slice hI.nn.row
          rwa [tabI_length] at this
        clear HRM hI
        by_cases hlt : k < P.lemmas.length
        · have hki : (k : Int) < P.lemmas.length := by omega
          have hs' := List.getElem?_eq_getElem hlt
          obtain ⟨_, _, he, hLL, hSS⟩ := HPC.out.2.2.1
          cases he
          obtain ⟨g, cs, rfl, hR, hcell⟩ := hLL.at_ k _ hs'
          have hGk := goTo_succ (q := sameLm) (ren := fun _ x => x) (T0 := L0) hs'
          have hGb := goTo_bound sameLm (fun _ x => x) L0 P.lemmas k
          generalize P.lemmas[k] = d at *
          obtain ⟨a1, c1, a2', c2', a3, c3, a4, c4, rfl⟩ := hR.cells
          have hU := HI.out.u
          have e0 := hU.some (hcell 0 _ rfl) (by simp)
          have e1 := hU.some (hcell 1 _ rfl) (by simp)
          have e2 := hU.some (hcell 2 _ rfl) (by simp)
          have e3 := hU.some (hcell 3 _ rfl) (by simp)
          rw [Nat.add_zero] at e0
          have y0 := HI.out.out.cell (i := 0) rfl
          have hLk : (RL L0 P.lemmas k).1.length ≤ 4000 := by have := hGb.1; unfold RL; omega
          have HR := Lib.hid (And.intro hR (show RL L0 P.lemmas (k + 1) = (ins sameLm (RL L0 P.lemmas k).1 d, fun j => if j = k then (noOf sameLm (RL L0 P.lemmas k).1 d : Int) else (RL L0 P.lemmas k).2 j) from hGk))
          have HS := Lib.hid (fun (W : World) (u : Upd [] wo W) => rlem_calls (HI.out.lm.lml HI.out.u |>.ext u) (LmR.kd (T := []) (es := [3, 88, 56]) hR (off_nil _ _) (by simp) (by simp) (by simp) (hU.step u)))
          clear hcell hs' hR hGk hGb hLL hSS hU
          go_upto_region 11 with fail
          refine wp_region_ord 10 3 [0, 1, 2, 3, 4, 5, 6, 7, 8, 9, 11] [1, 6, 9] [0, 1, 2, 3, 4, 5, 6, 7, 8, 9, 10, 11] (fun w' => ∃ x : Ext wo, w' = x.val) (by kernel_rfl) (by kernel_rfl) (Ext.of ((Upd.refl _ _).drew)) ?_
          repeat (first | (refine wpOrd_load rfl rfl rfl rfl (fun K hK => ?_); go_big_quiet_step (fail); refine wpQuiet_nil ?_; refine hK _ ?_; clear hK K) | (refine wpOrd_free rfl rfl rfl (fun K hK => ?_); go_big_quiet_step (fail); refine wpQuiet_nil ?_; refine hK _ ?_; clear hK K))
          refine wpOrd_fix rfl rfl (fun K hK => ?_)
          go_wp2_with (go_at_call 44; (with_reducible refine (HS.out _ ((Upd.refl _ wo).drew)).mono ?_); rintro e w7 ⟨rfl, u7⟩)
          have U7 : Upd [] wo w7 := ((Upd.refl _ wo).drew).step u7
          have H7 := Lib.hid (And.intro (HI.out.ext U7) (And.intro (U7.some e0 (by simp)) (And.intro (U7.some e1 (by simp)) (And.intro (U7.some e2 (by simp)) (U7.some e3 (by simp))))))
          clear u7 U7 e0 e1 e2 e3 y0 hPL HS HI
          refine ⟨fun hC => absurd hC (by decide), ?_⟩
          repeat (first | (refine wpOrd_load rfl rfl rfl rfl (fun K hK => ?_); go_big_quiet_step (fail); refine wpQuiet_nil ?_; refine hK _ ?_; clear hK K) | (refine wpOrd_free rfl rfl rfl (fun K hK => ?_); go_big_quiet_step (fail); refine wpQuiet_nil ?_; refine hK _ ?_; clear hK K))
          refine wpOrd_nil ?_
          have hal : (tabI k (RL L0 P.lemmas k).2).length = k := tabI_length _ _
          cases hf : fnd sameLm (RL L0 P.lemmas k).1 d with
          | some i =>
            have hno : noR sameLm (RL L0 P.lemmas k).1 d = (i : Nat) := by unfold noR; rw [hf]
            have HG := Lib.hid (And.intro (show (RL L0 P.lemmas (k + 1)).1 = (RL L0 P.lemmas k).1 by rw [HR.out.2]; unfold ins; rw [hf]; rfl) (show tabI (k + 1) (RL L0 P.lemmas (k + 1)).2 = tabI k (RL L0 P.lemmas k).2 ++ [((i : Nat) : Int)] by rw [HR.out.2]; unfold noOf; rw [hf]; exact tabI_upd))
            rw [hno]
            have hni : ¬ ((i : Nat) : Int) < 0 := by omega
            have hrow := Lib.hid H7.out.1.nn.row
            rw [hal] at hrow
            clear hf hno
            go_wp2_with (refine wpList_push rfl rfl _ _ _ _ rfl rfl rfl 3 1 8 _ Try.underlying22 infoInt rfl (by decide) (by decide) (.int .i64 (i : Nat)) [.int .i64 (i : Nat)] rfl rfl rfl (by simp [Value.oneCell']) _ _ _ hrow.out rfl rfl (by unfold maxLen; omega) (by omega) ?_; intro g7 c7 w9 o7 u7 k7)
            have hX := H7.out.1.num (x := (i : Nat)) (by rw [hal]; exact o7) u7 k7
            rw [hal, ← HG.out.2, ← HG.out.1] at hX
            rw [show k + 1 = k + 1 from rfl]
            exact ⟨⟨k + 1, _, by go_num, by omega, hX⟩, by simp [intOf]; omega⟩
          | none =>
            have hno : noR sameLm (RL L0 P.lemmas k).1 d = -1 := by unfold noR; rw [hf]
            have HG := Lib.hid (And.intro (show (RL L0 P.lemmas (k + 1)).1 = (RL L0 P.lemmas k).1 ++ [d] by rw [HR.out.2]; unfold ins; rw [hf]; rfl) (show tabI (k + 1) (RL L0 P.lemmas (k + 1)).2 = tabI k (RL L0 P.lemmas k).2 ++ [(((RL L0 P.lemmas k).1.length : Nat) : Int)] by rw [HR.out.2]; unfold noOf; rw [hf]; exact tabI_upd))
            rw [hno]
            have hni : (-1 : Int) < 0 := by decide
            clear hf hno
            obtain ⟨f, o1, o2, o3, o4⟩ := H7.out.1.lm
            have HO := Lib.hid (And.intro o1 (And.intro o2 o3))
            clear o1 o2 o3 o4
            have y0 := H7.out.1.out.cell (i := 0) rfl
            have x0 := H7.out.2.1
            have x1 := H7.out.2.2.1
            have x2 := H7.out.2.2.2.1
            have x3 := H7.out.2.2.2.2
            have hPL := (HBX.out _ _ _ _ _ _ _ _ _ _ H7.out.1).1
            go_upto_region 14 with fail
            refine wp_region_ord 11 4 [0, 1, 2, 3, 4, 5, 6, 7, 8, 9, 12] [1, 6, 9] [0, 1, 2, 3, 4, 5, 6, 7, 8, 9, 10, 11, 12, 13] (fun w' => ∃ x : Ext w7, w' = x.val) (by kernel_rfl) (by kernel_rfl) (Ext.of ((Upd.refl _ _).drew)) ?_
            repeat (first | (refine wpOrd_load rfl rfl rfl rfl (fun K hK => ?_); go_big_quiet_step (fail); refine wpQuiet_nil ?_; refine hK _ ?_; clear hK K) | (refine wpOrd_free rfl rfl rfl (fun K hK => ?_); go_big_quiet_step (fail); refine wpQuiet_nil ?_; refine hK _ ?_; clear hK K))
            refine wpOrd_fix rfl rfl (fun K hK => ?_)
            go_wp2_with fail
            have u8 : Upd [] w7 (w7.alloc (.cells #[.slice a1 d.graph.length c1, .slice a2' d.hyps.length c2', .slice a3 d.clause.length c3, .slice a4 d.steps.length c4] 82)).drew := ((Upd.refl [] w7).alloc (.cells #[.slice a1 d.graph.length c1, .slice a2' d.hyps.length c2', .slice a3 d.clause.length c3, .slice a4 d.steps.length c4] 82)).drew
            refine ⟨fun _ => Ext.of u8, ?_⟩
            have B8 := (Blk.new w7 [.slice a1 d.graph.length c1, .slice a2' d.hyps.length c2', .slice a3 d.clause.length c3, .slice a4 d.steps.length c4] 82).drew
            have H8 := Lib.hid (And.intro B8 (And.intro (H7.out.1.ext u8) (ownsRow_updL HO.out.1 u8 (by simp))))
            clear B8 u8 x0 x1 x2 x3 y0
            generalize hg8 : Array.size (World.heap w7) = g8 at *
            clear hg8
            generalize (w7.alloc (.cells #[.slice a1 d.graph.length c1, .slice a2' d.hyps.length c2', .slice a3 d.clause.length c3, .slice a4 d.steps.length c4] 82)).drew = w8 at *
            repeat (first | (refine wpOrd_load rfl rfl rfl rfl (fun K hK => ?_); go_big_quiet_step (fail); refine wpQuiet_nil ?_; refine hK _ ?_; clear hK K) | (refine wpOrd_free rfl rfl rfl (fun K hK => ?_); go_big_quiet_step (fail); refine wpQuiet_nil ?_; refine hK _ ?_; clear hK K))
            refine wpOrd_fix rfl rfl (fun K hK => ?_)
            refine wpList_app rfl _ _ _ rfl 82 4 96 _ Try.underlying27 infoLemma rfl (by decide) (.slice aO (RL L0 P.lemmas k).1.length cO) (RL L0 P.lemmas k).1.length (rows (RL L0 P.lemmas k).1.length f) rfl H8.out.2.2 g8 1 1 [.slice a1 d.graph.length c1, .slice a2' d.hyps.length c2', .slice a3 d.clause.length c3, .slice a4 d.steps.length c4] 82 rfl rfl H8.out.1 (by simp [Value.oneCell']) (by omega) (by unfold maxLen; omega) (by omega) ?_
            intro g9 c9 w9 o9 u9 k9
            simp only [Act.put, List.setIfInBounds_toArray, List.set_cons_zero, List.set_cons_succ]
            have hPP := H8.out.2.1.lem H8.out.2.2 HO.out.2.1 HO.out.2.2 HR.out.1 rfl o9 u9 (fun g' hg' => by simp only [Value.ownBlock, Option.some.injEq] at hg'; subst hg'; exact k9.imp_right (fun h => by omega))
            have c9' := hPP.1.cell (i := 0) rfl
            have f9 := hPP.1.free 0
            have HPP := Lib.hid hPP.2
            clear hPP o9 u9 k9 hPL
            go_wp2_with fail
            refine ⟨fun hC => absurd hC (by decide), ?_⟩
            repeat (first | (refine wpOrd_load rfl rfl rfl rfl (fun K hK => ?_); go_big_quiet_step (fail); refine wpQuiet_nil ?_; refine hK _ ?_; clear hK K) | (refine wpOrd_free rfl rfl rfl (fun K hK => ?_); go_big_quiet_step (fail); refine wpQuiet_nil ?_; refine hK _ ?_; clear hK K))
            refine wpOrd_fix rfl rfl (fun K hK => ?_)
            go_wp2_with fail
            refine ⟨fun hC => absurd hC (by decide), ?_⟩
            refine wpOrd_nil ?_
            generalize (w9.setCell ⟨ob, 0, none⟩ (.slice (some ⟨g9, 0, none⟩) ((RL L0 P.lemmas k).1.length + 1) c9)) = wA at *
            clear c9' f9
            have hrow := Lib.hid HPP.out.nn.row
            rw [hal] at hrow
            go_wp2_with (refine wpList_push rfl rfl _ _ _ _ rfl rfl rfl 3 1 8 _ Try.underlying22 infoInt rfl (by decide) (by decide) (.int .i64 ((RL L0 P.lemmas k).1.length : Nat)) [.int .i64 ((RL L0 P.lemmas k).1.length : Nat)] rfl rfl rfl (by simp [Value.oneCell']) _ _ _ hrow.out rfl rfl (by unfold maxLen; omega) (by omega) ?_; intro g7 c7 wB o7 u7 k7)
            have hX := HPP.out.num (x := ((RL L0 P.lemmas k).1.length : Nat)) (by rw [hal]; exact o7) u7 k7
            rw [hal, ← HG.out.2, ← HG.out.1] at hX
            exact ⟨⟨k + 1, _, by go_num, by omega, hX⟩, by simp [intOf]; omega⟩
        · have hki : ¬ (k : Int) < P.lemmas.length := by omega
          have hkn : k = P.lemmas.length := by omega
          subst hkn
          have HT := Lib.hid HI.out.turn
          have hi64 : ∀ x, IsI64 ((RL L0 P.lemmas P.lemmas.length).2 x) := fun x => goTo_i64 (by omega) x
          have hL1 : (RL L0 P.lemmas P.lemmas.length).1.length ≤ 4000 := by have := (goTo_bound sameLm (fun _ x => x) L0 P.lemmas P.lemmas.length).1; unfold RL; omega
          have HLN := Lib.hid hi64
          obtain ⟨_, _, he, hLL, hSS⟩ := HPC.out.2.2.1
          cases he
          obtain ⟨_, _, he, _, _, hat⟩ := hSS.at_
          cases he
          have HA := Lib.hid (And.intro hat HPC.out.2.2.2)
          clear hi64 HI hLL hSS hat hlt
          generalize (RL L0 P.lemmas P.lemmas.length).1 = L1 at *
          generalize (RL L0 P.lemmas P.lemmas.length).2 = ln at *
          go_wp2_with fail
          go_loopw [14, 15] (fun vn i wr => ∃ (k : Nat) (vS : Value), i = .int .i64 k ∧ k ≤ P.steps.length ∧ RM w ob (.slice aO L1.length cO) vS vn L1 (RS ln T0 P.steps k).1 (tabI k (RS ln T0 P.steps k).2) ((.slice aN P.lemmas.length cN, tabI P.lemmas.length ln) :: fr) u9 (rs.map Prod.fst) bxs wr) (fun _ i _ => P.steps.length - (intOf i).toNat)
          case atStart => exact ⟨0, vS0, rfl, Nat.zero_le _, HT.out⟩
          case round =>
            obtain ⟨wo, rfl⟩ : ∃ wo : World, wo = wr := ⟨_, rfl⟩
            obtain ⟨k, vS, rfl, hk, hI⟩ := hrel
            have hPS := (HBX.out _ _ _ _ _ _ _ _ _ _ hI).2
            have HI := Lib.hid hI
            obtain ⟨aT, cT, rfl⟩ : ∃ a c, vS = .slice a (RS ln T0 P.steps k).1.length c := by
              obtain ⟨_, o1, _⟩ := hI.st
              exact ownsRow_slice o1
            obtain ⟨aC, cC, rfl⟩ : ∃ a c, u14 = .slice a k c := by
              have := ownsRow_slice hI.nn.row
              rwa [tabI_length] at this
            clear HT hI hPL
            have hal : (tabI k (RS ln T0 P.steps k).2).length = k := tabI_length _ _
            by_cases hlt : k < P.steps.length
            · have hki : (k : Int) < P.steps.length := by omega
              have hs' := List.getElem?_eq_getElem hlt
              obtain ⟨g, vp, vl2, vh, rfl, hcell, hF⟩ := HA.out.1 k _ hs'
              have hhk := HA.out.2.wf.hint k _ hs'
              have hlm := HA.out.2.wf.lem k _ hs'
              have hsz := HA.out.2.size k _ hs'
              have hGk := goTo_succ (q := sameSt) (ren := fun no x => renS no ln x) (T0 := T0) hs'
              have hGb := goTo_bound sameSt (fun no x => renS no ln x) T0 P.steps k
              generalize P.steps[k] = s at *
              obtain ⟨ap, cp, rfl, _⟩ := hF.1.cells
              obtain ⟨av, cv, rfl, _⟩ := hF.2.1.cells
              obtain ⟨ah, ch, rfl, _⟩ := hF.2.2.1.cells
              have hU := HI.out.u
              have e0 := hU.some (hcell 0 _ rfl) (by simp)
              have e1 := hU.some (hcell 1 _ rfl) (by simp)
              have e2 := hU.some (hcell 2 _ rfl) (by simp)
              have e3 := hU.some (hcell 3 _ rfl) (by simp)
              have e4 := hU.some (hcell 4 _ rfl) (by simp)
              have e5 := hU.some (hcell 5 _ rfl) (by simp)
              have e6 := hU.some (hcell 6 _ rfl) (by simp)
              rw [Nat.add_zero] at e0
              have hf64 : ∀ j, IsI64 ((RS ln T0 P.steps k).2 j) := fun j => goTo_i64 (by omega) j
              have hTk : (RS ln T0 P.steps k).1.length ≤ 4000 := by have := hGb.1; unfold RS; omega
              have hEQ : renS (atI (tabI k (RS ln T0 P.steps k).2)) (atI (tabI P.lemmas.length ln)) s = renS (RS ln T0 P.steps k).2 ln s := renS_congr (fun h hh => atI_tab (by have := hhk h hh; omega)) (fun h4 => atI_tab (by have := hlm h4; omega))
              have HRN := Lib.hid (rn_calls (hF.ext hU) HI.out.nn.sl (HI.out.fx _ (List.mem_cons_self)).1.sl (fun h hh => by have := hhk h hh; rw [hal]; omega) (fun h4 => by have := hlm h4; show 0 ≤ s.node ∧ s.node < ((tabI P.lemmas.length ln).length : Int); rw [tabI_length]; omega) (by have := hsz.2.2; omega))
              rw [hEQ] at HRN
              have hD64 : (∀ x ∈ (renS (RS ln T0 P.steps k).2 ln s).hints, IsI64 x) ∧ IsI64 (renS (RS ln T0 P.steps k).2 ln s).node ∧ (renS (RS ln T0 P.steps k).2 ln s).hints.length = s.hints.length := ⟨fun x hx => by
                  obtain ⟨h, hh, rfl⟩ := List.mem_map.1 hx
                  exact hf64 _, by
                  show IsI64 (if s.kind = 4 then ln s.node.toNat else s.node)
                  by_cases hk4 : s.kind = 4
                  · rw [if_pos hk4]; exact HLN.out _
                  · rw [if_neg hk4]; exact hF.2.2.2.2.1, by simp [renS]⟩
              have HD := Lib.hid hD64
              have HS := Lib.hid hF
              have HEQ := Lib.hid (And.intro (show (renS (RS ln T0 P.steps k).2 ln s).params = s.params from rfl) (And.intro (show (renS (RS ln T0 P.steps k).2 ln s).lits = s.lits from rfl) (And.intro (show (renS (RS ln T0 P.steps k).2 ln s).name = s.name from rfl) (And.intro (show (renS (RS ln T0 P.steps k).2 ln s).kind = s.kind from rfl) (show (renS (RS ln T0 P.steps k).2 ln s).rule = s.rule from rfl)))))
              have HGK := Lib.hid (show RS ln T0 P.steps (k + 1) = (ins sameSt (RS ln T0 P.steps k).1 (renS (RS ln T0 P.steps k).2 ln s), fun j => if j = k then (noOf sameSt (RS ln T0 P.steps k).1 (renS (RS ln T0 P.steps k).2 ln s) : Int) else (RS ln T0 P.steps k).2 j) from hGk)
              clear hcell hs' hF hhk hlm hGk hGb hf64 hEQ hD64 hU
              dsimp only [stC] at HRN
              generalize renS (RS ln T0 P.steps k).2 ln s = D at *
              go_upto_region 21 with (go_at_call 45; (with_reducible refine HRN.out.mono ?_); rintro e w7 ⟨aH, cH, rfl, hrow, hgh, u7⟩)
              have hSF : StF w7 D (.slice ap s.params.length cp) (.slice av s.lits.length cv) (.slice aH s.hints.length cH) := by
                obtain ⟨f1, f2, f3, f4, f5, f6, f7, f8, f9, f10⟩ := HS.out
                have U0 := HI.out.u.step u7
                refine ⟨by rw [HEQ.out.1]; exact f1.ext U0, by rw [HEQ.out.2.1]; exact f2.ext U0, hrow, by rw [HEQ.out.2.2.2.1]; exact f4, HD.out.2.1, by rw [HEQ.out.2.2.2.2]; exact f6, by rw [HEQ.out.1]; exact f7, by rw [HEQ.out.2.1]; exact f8, HD.out.1, by rw [HEQ.out.2.2.1]; exact f10⟩
              have hSE : SE2 (.slice aC k cC) w7 D (stC D (.slice ap s.params.length cp) (.slice av s.lits.length cv) (.slice aH s.hints.length cH)) := by
                refine ⟨_, _, _, rfl, hSF, fun g hg => ⟨fun e => ?_, fun e => ?_, fun e => ?_⟩⟩
                · have := HI.out.nn.fresh g hg; have := HS.out.1.lt _ e; omega
                · have := HI.out.nn.fresh g hg; have := HS.out.2.1.lt _ e; omega
                · have := HI.out.nn.lt g hg; have := hgh g e; omega
              have B8 := Blk.new w7 (stC D (.slice ap s.params.length cp) (.slice av s.lits.length cv) (.slice aH s.hints.length cH)) 56
              have u8 : Upd [] w7 (w7.alloc (.cells (stC D (.slice ap s.params.length cp) (.slice av s.lits.length cv) (.slice aH s.hints.length cH)).toArray 56)) := (Upd.refl [] w7).alloc _
              change Code.wp _ _ _ _ (w7.alloc (.cells (stC D (.slice ap s.params.length cp) (.slice av s.lits.length cv) (.slice aH s.hints.length cH)).toArray 56))
              have H8 := Lib.hid (And.intro B8 (And.intro (HI.out.ext (u7.step u8)) (And.intro (hSE.kd (off_nil _ _) u8) (hSF.ext u8))))
              clear B8 u8 u7 hrow hgh hSE hSF HRN e0 e1 e2 e3 e4 e5 e6 hPS
              generalize hg11 : Array.size (World.heap w7) = g11 at *
              clear hg11
              generalize (w7.alloc (.cells (stC D (.slice ap s.params.length cp) (.slice av s.lits.length cv) (.slice aH s.hints.length cH)).toArray 56)) = w8 at *
              have d0 := H8.out.1.cell (i := 0) rfl
              have d1 := H8.out.1.cell (i := 1) rfl
              have d2 := H8.out.1.cell (i := 2) rfl
              have d3 := H8.out.1.cell (i := 3) rfl
              have d4 := H8.out.1.cell (i := 4) rfl
              have d5 := H8.out.1.cell (i := 5) rfl
              have d6 := H8.out.1.cell (i := 6) rfl
              have y1 := H8.out.2.1.out.cell (i := 1) rfl
              have HSS := Lib.hid (rstp_calls (StN.stl H8.out.2.1.st) H8.out.2.2.2)
              dsimp only [stC] at HSS
              go_upto_region 22 with (go_at_call 46; (with_reducible refine HSS.out.mono ?_); rintro e w9 ⟨rfl, u9'⟩)
              have H9 := Lib.hid (And.intro (H8.out.1.upd u9' (by simp)) (And.intro (H8.out.2.1.ext u9') (H8.out.2.2.1.kd (off_nil _ _) u9')))
              clear d0 d1 d2 d3 d4 d5 d6 y1 HSS u9' H8 HI
              cases hf : fnd sameSt (RS ln T0 P.steps k).1 D with
              | some i =>
                have hno : noR sameSt (RS ln T0 P.steps k).1 D = (i : Nat) := by unfold noR; rw [hf]
                have HG := Lib.hid (And.intro (show (RS ln T0 P.steps (k + 1)).1 = (RS ln T0 P.steps k).1 by rw [HGK.out]; unfold ins; rw [hf]; rfl) (show tabI (k + 1) (RS ln T0 P.steps (k + 1)).2 = tabI k (RS ln T0 P.steps k).2 ++ [((i : Nat) : Int)] by rw [HGK.out]; unfold noOf; rw [hf]; exact tabI_upd))
                rw [hno]
                have hni : ¬ ((i : Nat) : Int) < 0 := by omega
                have hrow := Lib.hid H9.out.2.1.nn.row
                rw [hal] at hrow
                clear hf hno
                go_wp2_with (refine wpList_push rfl rfl _ _ _ _ rfl rfl rfl 3 1 8 _ Try.underlying22 infoInt rfl (by decide) (by decide) (.int .i64 (i : Nat)) [.int .i64 (i : Nat)] rfl rfl rfl (by simp [Value.oneCell']) _ _ _ hrow.out rfl rfl (by unfold maxLen; omega) (by omega) ?_; intro g7 c7 wB o7 u7 k7)
                have hX := H9.out.2.1.num (x := (i : Nat)) (by rw [hal]; exact o7) u7 k7
                rw [hal, ← HG.out.2, ← HG.out.1] at hX
                exact ⟨⟨k + 1, _, by go_num, by omega, hX⟩, by simp [intOf]; omega⟩
              | none =>
                have hno : noR sameSt (RS ln T0 P.steps k).1 D = -1 := by unfold noR; rw [hf]
                have HG := Lib.hid (And.intro (show (RS ln T0 P.steps (k + 1)).1 = (RS ln T0 P.steps k).1 ++ [D] by rw [HGK.out]; unfold ins; rw [hf]; rfl) (show tabI (k + 1) (RS ln T0 P.steps (k + 1)).2 = tabI k (RS ln T0 P.steps k).2 ++ [(((RS ln T0 P.steps k).1.length : Nat) : Int)] by rw [HGK.out]; unfold noOf; rw [hf]; exact tabI_upd))
                rw [hno]
                have hni : (-1 : Int) < 0 := by decide
                clear hf hno
                obtain ⟨f, o1, o2, o3, o4⟩ := H9.out.2.1.st
                have HO := Lib.hid (And.intro o1 (And.intro o2 o3))
                clear o1 o2 o3 o4
                have y1 := H9.out.2.1.out.cell (i := 1) rfl
                have d0 := H9.out.1.cell (i := 0) rfl
                have d1 := H9.out.1.cell (i := 1) rfl
                have d2 := H9.out.1.cell (i := 2) rfl
                have d3 := H9.out.1.cell (i := 3) rfl
                have d4 := H9.out.1.cell (i := 4) rfl
                have d5 := H9.out.1.cell (i := 5) rfl
                have d6 := H9.out.1.cell (i := 6) rfl
                go_upto_region 24 with fail
                refine wp_region_lit ?_
                refine wpList_cutH 3 (fun K hK => ?_)
                simp only [List.take_succ_cons, List.take_zero]
                go_wp2_with fail
                refine Halt_.intro ?_; try simp only [List.drop_succ_cons, List.drop_zero]
                refine wpList_push rfl rfl _ _ _ _ rfl rfl rfl 56 7 112 _ Try.underlying28 infoStep rfl (by decide) (by decide) (.agg (stC D (.slice ap s.params.length cp) (.slice av s.lits.length cv) (.slice aH s.hints.length cH)).toArray) (stC D (.slice ap s.params.length cp) (.slice av s.lits.length cv) (.slice aH s.hints.length cH)) rfl rfl rfl (stC_one _ _ _ _ rfl rfl rfl) (.slice aT (RS ln T0 P.steps k).1.length cT) (RS ln T0 P.steps k).1.length _ HO.out.1 rfl rfl (by unfold maxLen; omega) (by omega) ?_
                intro gA cA wA oA uA kA
                simp only [Act.put, List.setIfInBounds_toArray, List.set_cons_zero, List.set_cons_succ]
                have hPP := H9.out.2.1.stp HO.out.1 HO.out.2.1 HO.out.2.2 H9.out.2.2 rfl oA uA (fun g' hg' => by simp only [Value.ownBlock, Option.some.injEq] at hg'; subst hg'; exact kA)
                have cA' := hPP.1.cell (i := 1) rfl
                have fA := hPP.1.free 1
                have HPP := Lib.hid hPP.2
                clear hPP oA uA kA d0 d1 d2 d3 d4 d5 d6 y1
                go_upto_region 25 with fail
                generalize (wA.setCell ⟨ob, 1, none⟩ (.slice (some ⟨gA, 0, none⟩) ((RS ln T0 P.steps k).1.length + 1) cA)) = wC at *
                clear cA' fA
                have hrow := Lib.hid HPP.out.nn.row
                rw [hal] at hrow
                go_wp2_with (refine wpList_push rfl rfl _ _ _ _ rfl rfl rfl 3 1 8 _ Try.underlying22 infoInt rfl (by decide) (by decide) (.int .i64 ((RS ln T0 P.steps k).1.length : Nat)) [.int .i64 ((RS ln T0 P.steps k).1.length : Nat)] rfl rfl rfl (by simp [Value.oneCell']) _ _ _ hrow.out rfl rfl (by unfold maxLen; omega) (by omega) ?_; intro g7 c7 wB o7 u7 k7)
                have hX := HPP.out.num (x := ((RS ln T0 P.steps k).1.length : Nat)) (by rw [hal]; exact o7) u7 k7
                rw [hal, ← HG.out.2, ← HG.out.1] at hX
                exact ⟨⟨k + 1, _, by go_num, by omega, hX⟩, by simp [intOf]; omega⟩
            · have hki : ¬ (k : Int) < P.steps.length := by omega
              have hkn : k = P.steps.length := by omega
              subst hkn
              have hrow := Lib.hid HI.out.r9.row
              have hrl : (rs.map Prod.fst).length = rs.length := by simp
              have hj2 : rs.length = j := by have := congrArg List.length HRS.out.1; simpa using this
              obtain ⟨a9, c9, rfl⟩ : ∃ a c, u9 = .slice a rs.length c := by
                have := ownsRow_slice HI.out.r9.row
                rwa [hrl] at this
              rw [hrl] at hrow
              have hjs : rs.length ≤ 2 := by omega
              clear hj2
              go_wp2_with (refine wpList_push rfl rfl _ _ _ _ rfl rfl rfl 22 1 24 _ Try.underlying64 infoInts rfl (by decide) (by decide) (.slice aC P.steps.length cC) [.slice aC P.steps.length cC] rfl rfl rfl (by simp [Value.oneCell']) _ _ _ hrow.out rfl rfl (by unfold maxLen; omega) (by omega) ?_; intro g7 c7 wB o7 u7 k7)
              have hX := (HI.out.lay (x := .slice aC P.steps.length cC) (by rw [hrl]; exact o7) u7 k7).turn
              rw [hrl] at hX
              refine ⟨⟨j + 1, .slice aO L1.length cO, .slice aT (RS ln T0 P.steps P.steps.length).1.length cT, (.slice aC P.steps.length cC, tabI P.steps.length (RS ln T0 P.steps P.steps.length).2) :: (.slice aN P.lemmas.length cN, tabI P.lemmas.length ln) :: fr, rs ++ [(.slice aC P.steps.length cC, tabI P.steps.length (RS ln T0 P.steps P.steps.length).2)], by go_num, by omega, ?_, ?_, ?_⟩, by simp [intOf]; omega⟩
              · rw [HST.out.1, List.map_append]
                exact hX
              · rw [List.map_append, HRS.out.1, List.range_succ, List.map_append, List.map_cons, List.map_nil, List.map_cons, List.map_nil, HST.out.2]
              · intro r hr
                rcases List.mem_append.1 hr with hr | hr
                · exact List.mem_cons_of_mem _ (List.mem_cons_of_mem _ (HRS.out.2 r hr))
                · rw [List.mem_singleton] at hr; subst hr; exact List.mem_cons_self
    · have hji : ¬ (j : Int) < 2 := by omega
      have hj2 : j = 2 := by omega
      subst hj2
      obtain ⟨x0, x1, ex0, ex1, rfl⟩ : ∃ r0 r1, r0.2 = rnum ps 0 ∧ r1.2 = rnum ps 1 ∧ rs = [r0, r1] := by
        have h := HRS.out.1
        match rs, h with
        | [], h => simp [List.range_succ] at h
        | [a], h => simp [List.range_succ] at h
        | [a, b], h =>
          simp [List.range_succ] at h
          exact ⟨a, b, h.1, h.2, rfl⟩
        | a :: b :: c :: l, h => simp [List.range_succ] at h
      have hr0 := (HRM.out.fx _ (HRS.out.2 x0 (by simp))).1
      have hr1 := (HRM.out.fx _ (HRS.out.2 x1 (by simp))).1
      obtain ⟨vx0, nx0⟩ := x0
      obtain ⟨vx1, nx1⟩ := x1
      obtain ⟨ay0, cy0, e0, _⟩ := RowI.cells hr0
      obtain ⟨ay1, cy1, e1, _⟩ := RowI.cells hr1
      have hr9 := HRM.out.r9.row
      obtain ⟨g9, c9, e9, _, _⟩ := owns_form hr9 (by simp)
      have hz0 : w6.cell? ⟨g9, 0, none⟩ = some vx0 ∧ w6.cell? ⟨g9, 1, none⟩ = some vx1 := by
        obtain ⟨a', c', he, _, _, _, hcell⟩ := (SL.of_owns hr9).val
        rw [e9] at he
        cases he
        rcases hcell with hz | ⟨b, off, hb, hcell⟩
        · simp at hz
        · cases hb
          exact ⟨by simpa using hcell 0 vx0 rfl, by simpa using hcell 1 vx1 rfl⟩
      have hB := (HRM.out.bx (rb, [.slice none 0 0, .slice none 0 0]) (by simp)).1
      obtain ⟨aL, cL, rfl⟩ : ∃ a c, vL0 = .slice a (rst ps 2).1.length c := by
        obtain ⟨_, o1, _⟩ := HRM.out.lm
        exact ownsRow_slice o1
      obtain ⟨aS, cS, rfl⟩ : ∃ a c, vS0 = .slice a (rst ps 2).2.length c := by
        obtain ⟨_, o1, _⟩ := HRM.out.st
        exact ownsRow_slice o1
      simp only at e0 e1 ex0 ex1
      subst e0 e1 ex0 ex1
      simp only [List.map_cons, List.map_nil, List.length_cons, List.length_nil] at e9
      subst e9
      have hz1 := hz0.2
      have hz2 := hz0.1
      have y0 := HRM.out.out.cell (i := 0) rfl
      have y1 := HRM.out.out.cell (i := 1) rfl
      have hg9 : g9 ≠ rb := fun e => absurd ((row_kind hr9 rfl).inj (e ▸ blk_kind hB)) (by decide)
      have HE := Lib.hid (And.intro hr0 (And.intro hr1 (And.intro hB (And.intro hz0 (And.intro y0 y1)))))
      clear hr0 hr1 hr9 hB hz0 hlj
      go_upto_region 27 with fail
      refine wp_region_ord 10 1 [0, 1, 2, 3, 4, 5, 6, 8, 9] [0, 3, 6] [0, 1, 2, 3, 4, 5, 6, 7, 8, 9] (fun w' => ∃ x : Four ⟨ob, 0, none⟩ ⟨ob, 1, none⟩ ⟨g9, 0, none⟩ ⟨g9, 1, none⟩ (.slice aL (rst ps 2).1.length cL) (.slice aS (rst ps 2).2.length cS) (.slice ay0 (rnum ps 0).length cy0) (.slice ay1 (rnum ps 1).length cy1), w' = x.val) (by kernel_rfl) (by kernel_rfl) (Four.of y0 y1 hz2 hz1) ?_
      repeat (first | (refine wpOrd_load rfl rfl rfl rfl (fun K hK => ?_); go_big_quiet_step (exact rfl); refine wpQuiet_nil ?_; refine hK _ ?_; clear hK K) | (refine wpOrd_free rfl rfl rfl (fun K hK => ?_); go_big_quiet_step (fail); refine wpQuiet_nil ?_; refine hK _ ?_; clear hK K))
      refine wpOrd_fix rfl rfl (fun K hK => ?_)
      have r0 := HE.out.2.2.1.cell (i := 0) rfl
      have r1 := HE.out.2.2.1.cell (i := 1) rfl
      have fr0 := HE.out.2.2.1.free 0
      have fr1 := HE.out.2.2.1.free 1
      have us : Upd [rb] w6 ((w6.setCell ⟨rb, 0, none⟩ (.slice aL (rst ps 2).1.length cL)).setCell ⟨rb, 1, none⟩ (.slice aS (rst ps 2).2.length cS)).drew := (((Upd.refl _ w6).set (.inl (by simp)) _).set (.inl (by simp)) _).drew
      have BR : Blk ((w6.setCell ⟨rb, 0, none⟩ (.slice aL (rst ps 2).1.length cL)).setCell ⟨rb, 1, none⟩ (.slice aS (rst ps 2).2.length cS)).drew rb [.slice aL (rst ps 2).1.length cL, .slice aS (rst ps 2).2.length cS] 30 := ((HE.out.2.2.1.set 0 (.slice aL (rst ps 2).1.length cL)).set 1 (.slice aS (rst ps 2).2.length cS)).drew
      have hor : Off w6 [rb] [3, 88, 56, 82] := off_blk HE.out.2.2.1 (by decide)
      have HU := Lib.hid us
      have HX := Lib.hid (And.intro BR (And.intro ((HRM.out.lm.lml HRM.out.u).kd hor (by simp) (by simp) (by simp) (by simp) us) (And.intro ((StN.stl HRM.out.st).kd hor (by simp) (by simp) us) (And.intro (HE.out.1.kd hor (by simp) us) (And.intro (HE.out.2.1.kd hor (by simp) us) (HRM.out.u.fresh us (fun b hb => .inr (by simp at hb; omega))))))))
      clear us BR hor
      go_wp2_with fail
      refine ⟨Four.of (HU.out.some HE.out.2.2.2.2.1 (by simp; omega)) (HU.out.some HE.out.2.2.2.2.2 (by simp; omega)) (HU.out.some HE.out.2.2.2.1.1 (by simpa using hg9)) (HU.out.some HE.out.2.2.2.1.2 (by simpa using hg9)), ?_⟩
      repeat (first | (refine wpOrd_load rfl rfl rfl rfl (fun K hK => ?_); go_big_quiet_step (fail); refine wpQuiet_nil ?_; refine hK _ ?_; clear hK K) | (refine wpOrd_free rfl rfl rfl (fun K hK => ?_); go_big_quiet_step (fail); refine wpQuiet_nil ?_; refine hK _ ?_; clear hK K))
      refine wpOrd_nil ?_
      go_wp2_with fail
      exact ret_row_tmp2 rfl rfl HX.out.1 Try.underlying30 (by kernel_rfl) rfl rfl rfl ⟨_, _, _, rfl, ⟨_, _, rfl, HX.out.2.1, HX.out.2.2.1⟩, HX.out.2.2.2.1, HX.out.2.2.2.2.1, HX.out.2.2.2.2.2⟩
end
end Trim
end Go.Proofs.Ytnmfihgdedifoaa
