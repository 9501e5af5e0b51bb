/- Walks through package trim: takeSteps. Conditions: none. -/
import Derived.Test.YtnmfihgdedifoaaTrimME
set_option linter.unusedVariables false
set_option linter.unusedSimpArgs false
set_option linter.unusedSectionVars false
open Go.RowKit
namespace Go.Proofs.Ytnmfihgdedifoaa
open L R01
namespace Trim
/-- The steps taken so far. -/
noncomputable def GS (ln : Nat → Int) (T xs : List StepD) (k : Nat) : List StepD × (Nat → Int) := goTo (qE stE) (fun no x => renS no ln x) T xs k
/-- Steps that can be taken. -/
structure StsOk (nb : Nat) (xs : List StepD) : Prop where
  hint : ∀ (k : Nat) (s : StepD), xs[k]? = some s → ∀ h ∈ s.hints, 0 ≤ h ∧ h < (k : Int)
  lem : ∀ (k : Nat) (s : StepD), xs[k]? = some s → s.kind = 4 → 0 ≤ s.node ∧ s.node < (nb : Int)
  size : ∀ (k : Nat) (s : StepD), xs[k]? = some s → s.params.length ≤ 1000 ∧ s.lits.length ≤ 1000 ∧ s.hints.length ≤ 1000
section
variable {w0 w : World}
set_option maxRecDepth 100000 in
set_option maxHeartbeats 16000000 in
theorem tkS_calls {v vL vS : Value} {mb b1 b2 gS gb nb : Nat} {L : List LemD} {T xs : List StepD} {ln : Nat → Int} (hM : Mg w0 mb b1 b2 gS L L T T vL vS w) (hl : StL w0 v xs) (hx : StsOk nb xs) (hn : xs.length ≤ 1000) (hT : T.length ≤ 1000) (hgb : Blk w gb (ints (tabI nb ln)) 3) (hln : ∀ j, IsI64 (ln j)) :
    Calls Try.prog 43 #[.pointer (some ⟨mb, 0, none⟩), v, .slice (some ⟨gb, 0, none⟩) nb nb] w fun e w' => ∃ (g : Nat) (vS' : Value), e = .returned (.tuple #[.slice (some ⟨g, 0, none⟩) xs.length xs.length, .bool true]) ∧ Blk w' g (ints (tabI xs.length (GS ln T xs xs.length).2)) 3 ∧ Mg w0 mb b1 b2 g L L (GS ln T xs xs.length).1 (GS ln T xs xs.length).1 vL vS' w' ∧ w.heap.size ≤ g ∧ KI w w' := by
  obtain ⟨al, cl, rfl, ql, rl, hat⟩ := hl.at_
  have HQ := Lib.hid (And.intro hat (And.intro hx hln))
  clear hl hx hat hln
  have B1 := Blk.new w (ints (tabI xs.length fun _ => 0)) 3
  have U1 := (Upd.refl [] w).alloc (.cells (ints (tabI xs.length fun _ => 0)).toArray 3)
  have H1 := Lib.hid (And.intro B1 (And.intro ((hM.gs (g := w.heap.size) (Nat.le_refl _)).ext U1) ((KI.refl w).ext U1)))
  have hz := hM.u.size
  have HGB := Lib.hid hgb
  clear B1 U1 hM hgb
  go_enter Try.func43, Try.ntmps43
  go_upto_region 2 with (refine wpList_mk rfl _ _ _ rfl 3 1 8 _ Try.underlying22 infoInt rfl (by decide) _ _ _ _ xs.length rfl rfl rfl rfl (by omega) (by omega) ?_; change wpList _ _ _ _ _ (w.alloc (.cells (rows xs.length fun _ => [.int .i64 0]).toArray 3)); rw [← tabI_zero])
  generalize (w.alloc (.cells (ints (tabI xs.length fun _ => 0)).toArray 3)) = w1 at *
  go_wp2_with fail
  go_loopw [20] (fun i wr => ∃ (k : Nat) (vS' : Value), i = .int .i64 k ∧ k ≤ xs.length ∧ Blk wr w.heap.size (ints (tabI xs.length (GS ln T xs k).2)) 3 ∧ Mg w0 mb b1 b2 w.heap.size L L (GS ln T xs k).1 (GS ln T xs k).1 vL vS' wr ∧ KI w wr) (fun i _ => xs.length - (intOf i).toNat)
  case atStart => exact ⟨0, vS, rfl, Nat.zero_le _, H1.out⟩
  case round =>
    obtain ⟨wo, rfl⟩ : ∃ wo : World, wo = wr := ⟨_, rfl⟩
    obtain ⟨k, vS', rfl, hk, hI⟩ := hrel
    have HI := Lib.hid hI
    clear H1 hI
    by_cases hlt : k < xs.length
    · have hki : (k : Int) < xs.length := by omega
      have hs' := List.getElem?_eq_getElem hlt
      obtain ⟨g, vp, vl2, vh, rfl, hcell, hF⟩ := HQ.out.1 k _ hs'
      have hhk := HQ.out.2.1.hint k _ hs'
      have hlm := HQ.out.2.1.lem k _ hs'
      have hsz := HQ.out.2.1.size k _ hs'
      have hGk := goTo_succ (q := qE stE) (ren := fun no x => renS no ln x) (T0 := T) hs'
      have hGb := goTo_bound (qE stE) (fun no x => renS no ln x) T xs k
      generalize xs[k] = s at *
      obtain ⟨ap, cp, rfl, _⟩ := hF.1.cells
      obtain ⟨av, cv, rfl, _⟩ := hF.2.1.cells
      obtain ⟨ah, ch, rfl, _⟩ := hF.2.2.1.cells
      have hU := HI.out.2.1.u
      have e0 := hU.some (hcell 0 _ rfl) (by simp)
      have e1 := hU.some (hcell 1 _ rfl) (by simp)
      have e2 := hU.some (hcell 2 _ rfl) (by simp)
      have e3 := hU.some (hcell 3 _ rfl) (by simp)
      have e4 := hU.some (hcell 4 _ rfl) (by simp)
      have e5 := hU.some (hcell 5 _ rfl) (by simp)
      have e6 := hU.some (hcell 6 _ rfl) (by simp)
      rw [Nat.add_zero] at e0
      have HS := Lib.hid (And.intro hF (And.intro hlm (And.intro hhk (And.intro hGk (And.intro hsz hGb)))))
      have hg1 := HI.out.1.lt
      clear hcell hs' hF hlm hhk hGk hsz hGb
      go_upto_region 5 with fail
      have b4 := Blk.new wo (stC s (.slice ap s.params.length cp) (.slice av s.lits.length cv) (.slice ah s.hints.length ch)) 56
      have u4 : Upd [] wo (wo.alloc (.cells (stC s (.slice ap s.params.length cp) (.slice av s.lits.length cv) (.slice ah s.hints.length ch)).toArray 56)) := (Upd.refl [] wo).alloc _
      change Code.wp _ _ _ _ (wo.alloc (.cells (stC s (.slice ap s.params.length cp) (.slice av s.lits.length cv) (.slice ah s.hints.length ch)).toArray 56))
      have H4 := Lib.hid (And.intro b4 (And.intro (HI.out.1.upd u4 (by simp)) (And.intro (HI.out.2.1.ext u4) (HI.out.2.2.ext u4))))
      clear b4 u4 e0 e1 e2 e3 e4 e5 e6 hU HI
      generalize hgw : Array.size (World.heap wo) = gw at *
      clear hgw
      generalize (wo.alloc (.cells (stC s (.slice ap s.params.length cp) (.slice av s.lits.length cv) (.slice ah s.hints.length ch)).toArray 56)) = w4 at *
      have d0 := H4.out.1.cell (i := 0) rfl
      have d1 := H4.out.1.cell (i := 1) rfl
      have d2 := H4.out.1.cell (i := 2) rfl
      have d3 := H4.out.1.cell (i := 3) rfl
      have d4 := H4.out.1.cell (i := 4) rfl
      have d5 := H4.out.1.cell (i := 5) rfl
      have d6 := H4.out.1.cell (i := 6) rfl
      have hbn := HS.out.2.2.2.2.2.2.2
      have hsn : ∀ j, IsI64 ((GS ln T xs k).2 j) := fun j => by
        have h1 := (hbn j).1
        have h2 := (hbn j).2
        unfold GS IsI64
        omega
      have HRN := Lib.hid (ren_calls (w := w4) (na := xs.length) (nb := nb) (sn := (GS ln T xs k).2) (ln := ln) (HS.out.1.ext H4.out.2.2.1.u) H4.out.2.1 (H4.out.2.2.2 _ _ _ (.inl rfl) HGB.out) (fun h hh => by have := HS.out.2.2.1 h hh; omega) HS.out.2.1 (by have := HS.out.2.2.2.2.1.2.2; omega) hsn HQ.out.2.2)
      have hD64 : (∀ x ∈ (renS (GS ln T xs k).2 ln s).hints, IsI64 x) ∧ IsI64 (renS (GS ln T xs k).2 ln s).node ∧ (renS (GS ln T xs k).2 ln s).hints.length = s.hints.length := ⟨fun x hx => by
          obtain ⟨h, hh, rfl⟩ := List.mem_map.1 hx
          exact hsn _, by
          show IsI64 (if s.kind = 4 then ln s.node.toNat else s.node)
          by_cases hk4 : s.kind = 4
          · rw [if_pos hk4]; exact HQ.out.2.2 _
          · rw [if_neg hk4]; exact HS.out.1.2.2.2.2.1, by simp [renS]⟩
      have HD := Lib.hid hD64
      clear hbn hsn hD64
      dsimp only [stC] at HRN
      have HEQ := Lib.hid (And.intro (show (renS (GS ln T xs k).2 ln s).params = s.params from rfl) (And.intro (show (renS (GS ln T xs k).2 ln s).lits = s.lits from rfl) (And.intro (show (renS (GS ln T xs k).2 ln s).name = s.name from rfl) (And.intro (show (renS (GS ln T xs k).2 ln s).kind = s.kind from rfl) (show (renS (GS ln T xs k).2 ln s).rule = s.rule from rfl)))))
      have HGK := Lib.hid (show GS ln T xs (k + 1) = (ins (qE stE) (GS ln T xs k).1 (renS (GS ln T xs k).2 ln s), fun j => if j = k then (noOf (qE stE) (GS ln T xs k).1 (renS (GS ln T xs k).2 ln s) : Int) else (GS ln T xs k).2 j) from HS.out.2.2.2.1)
      generalize renS (GS ln T xs k).2 ln s = D at *
      go_upto_region 6 with (go_at_call 51; (with_reducible refine HRN.out.mono ?_); rintro e w7 ⟨gh, rfl, hrow, hgh, u7⟩)
      have hSF : StF w7 D (.slice ap s.params.length cp) (.slice av s.lits.length cv) (.slice (some ⟨gh, 0, none⟩) s.hints.length s.hints.length) := by
        obtain ⟨f1, f2, f3, f4, f5, f6, f7, f8, f9, f10⟩ := HS.out.1
        have U0 := H4.out.2.2.1.u.step u7
        refine ⟨by rw [HEQ.out.1]; exact f1.ext U0, by rw [HEQ.out.2.1]; exact f2.ext U0, hrow, by rw [HEQ.out.2.2.2.1]; exact f4, HD.out.2.1, by rw [HEQ.out.2.2.2.2]; exact f6, by rw [HEQ.out.1]; exact f7, by rw [HEQ.out.2.1]; exact f8, HD.out.1, by rw [HEQ.out.2.2.1]; exact f10⟩
      have hSE : SE w.heap.size w7 D (stC D (.slice ap s.params.length cp) (.slice av s.lits.length cv) (.slice (some ⟨gh, 0, none⟩) s.hints.length s.hints.length)) := by
        have hg4 := H4.out.2.1.lt
        refine ⟨_, _, _, rfl, hSF, fun e => ?_, fun e => ?_, fun e => ?_⟩
        · have := HS.out.1.1.lt _ e; omega
        · have := HS.out.1.2.1.lt _ e; omega
        · simp only [Value.ownBlock, Option.some.injEq] at e; omega
      have B8 := Blk.new w7 (stC D (.slice ap s.params.length cp) (.slice av s.lits.length cv) (.slice (some ⟨gh, 0, none⟩) s.hints.length s.hints.length)) 56
      have u8 : Upd [] w7 (w7.alloc (.cells (stC D (.slice ap s.params.length cp) (.slice av s.lits.length cv) (.slice (some ⟨gh, 0, none⟩) s.hints.length s.hints.length)).toArray 56)) := (Upd.refl [] w7).alloc _
      change Code.wp _ _ _ _ (w7.alloc (.cells (stC D (.slice ap s.params.length cp) (.slice av s.lits.length cv) (.slice (some ⟨gh, 0, none⟩) s.hints.length s.hints.length)).toArray 56))
      have U8 := u7.step u8
      have H8 := Lib.hid (And.intro B8 (And.intro (H4.out.2.1.upd U8 (by simp)) (And.intro (H4.out.2.2.1.ext U8) (And.intro (H4.out.2.2.2.ext U8) (And.intro (hSE.upd2 (T := []) (by simp) u8) (hSF.ext u8))))))
      clear B8 u8 U8 u7 hrow hgh hSE hSF HRN H4 d0 d1 d2 d3 d4 d5 d6
      generalize hg11 : Array.size (World.heap w7) = g11 at *
      clear hg11
      generalize (w7.alloc (.cells (stC D (.slice ap s.params.length cp) (.slice av s.lits.length cv) (.slice (some ⟨gh, 0, none⟩) s.hints.length s.hints.length)).toArray 56)) = w8 at *
      have d0 := H8.out.1.cell (i := 0) rfl
      have d1 := H8.out.1.cell (i := 1) rfl
      have d2 := H8.out.1.cell (i := 2) rfl
      have d3 := H8.out.1.cell (i := 3) rfl
      have d4 := H8.out.1.cell (i := 4) rfl
      have d5 := H8.out.1.cell (i := 5) rfl
      have d6 := H8.out.1.cell (i := 6) rfl
      have hszD : (stE D).length ≤ 100000 := by
        have h1 := HS.out.2.2.2.2.1
        have h2 := HS.out.1.2.2.2.2.2.2.2.2.2
        rw [stE_length, HEQ.out.1, HEQ.out.2.1, HEQ.out.2.2.1, HD.out.2.2]
        omega
      have HLB := Lib.hid (stB_calls (Buf.nil w8) H8.out.2.2.2.2.2 (by simp; omega))
      rw [List.nil_append] at HLB
      dsimp only [stC] at HLB
      go_upto_region 7 with (first | (go_at_call 54; (with_reducible refine HLB.out.mono ?_); rintro e w5 ⟨v5, rfl, hb5, hk5⟩) | (refine wpList_bstr Try.underlying103 Try.underlying5 Try.underlying9 _ rfl rfl v5 (stE D) rfl hb5.1.row ?_))
      have H5 := Lib.hid (And.intro (H8.out.1.upd hb5.2 (by simp)) (And.intro (H8.out.2.1.upd hb5.2 (by simp)) (And.intro (H8.out.2.2.1.ext hb5.2) (And.intro (H8.out.2.2.2.1.ext hb5.2) (H8.out.2.2.2.2.1.upd2 (T := []) (by simp) hb5.2)))))
      clear d0 d1 d2 d3 d4 d5 d6 hb5 hk5 HLB H8
      have c1 := H5.out.2.2.1.box.cell (i := 1) rfl
      have c3 := H5.out.2.2.1.box.cell (i := 3) rfl
      have hkey : (⟨(stE D).toArray⟩ : ByteArray).data.toList = stE D := by simp
      have hks : (⟨(stE D).toArray⟩ : ByteArray).size ≤ maxLen := by show (stE D).toArray.size ≤ _; rw [List.size_toArray]; unfold maxLen; omega
      have HKY := Lib.hid (And.intro hkey hks)
      generalize (⟨(stE D).toArray⟩ : ByteArray) = key at *
      clear hkey hks
      cases hf : fnd (qE stE) (GS ln T xs k).1 D with
      | some i =>
        have HFX := Lib.hid (show fE stE (GS ln T xs k).1 key.data.toList = some (.int .i64 (i : Nat)) by rw [HKY.out.1, fE_at, hf]; rfl)
        have HG := Lib.hid (show GS ln T xs (k + 1) = ((GS ln T xs k).1, fun j => if j = k then ((i : Nat) : Int) else (GS ln T xs k).2 j) by
          rw [HGK.out]
          unfold ins noOf
          rw [hf]
          rfl)
        have dk := H5.out.2.1.cell (i := k) (ints_get (tabI_get (f := (GS ln T xs k).2) hlt))
        have fk := H5.out.2.1.free k
        have us : Upd [w.heap.size] w5 (w5.setCell ⟨w.heap.size, k, none⟩ (.int .i64 (i : Nat))) := (Upd.refl _ w5).set (.inl (by simp)) _
        have hB := H5.out.2.1.set k (.int .i64 (i : Nat))
        rw [tabI_set] at hB
        have HX := Lib.hid (show Blk (w5.setCell ⟨w.heap.size, k, none⟩ (.int .i64 (i : Nat))) w.heap.size (ints (tabI xs.length (GS ln T xs (k + 1)).2)) 3 ∧ Mg w0 mb b1 b2 w.heap.size L L (GS ln T xs (k + 1)).1 (GS ln T xs (k + 1)).1 vL vS' (w5.setCell ⟨w.heap.size, k, none⟩ (.int .i64 (i : Nat))) ∧ KI w (w5.setCell ⟨w.heap.size, k, none⟩ (.int .i64 (i : Nat))) by
          rw [HG.out]
          exact ⟨hB, H5.out.2.2.1.num H5.out.2.1 hz us, H5.out.2.2.2.1.step us (fun x hx => .inl (by simp at hx; omega))⟩)
        clear us hB hf
        go_wp2_with (refine wpList_mslook_ok Try.underlying9 Try.underlying89 infoInt _ _ rfl rfl b2 _ _ key rfl rfl H5.out.2.2.1.m2 HKY.out.2 ?_; rw [HFX.out])
        exact ⟨⟨k + 1, vS', by go_num, by omega, HX.out⟩, by simp [intOf]; omega⟩
      | none =>
        have HFX := Lib.hid (show fE stE (GS ln T xs k).1 key.data.toList = none by rw [HKY.out.1, fE_at, hf]; rfl)
        have HG := Lib.hid (show GS ln T xs (k + 1) = ((GS ln T xs k).1 ++ [D], fun j => if j = k then (((GS ln T xs k).1.length : Nat) : Int) else (GS ln T xs k).2 j) by
          rw [HGK.out]
          unfold ins noOf
          rw [hf]
          rfl)
        have HF := Lib.hid hf
        have hLk : (GS ln T xs k).1.length ≤ 2000 := by have := HS.out.2.2.2.2.2.1; unfold GS; omega
        have hmx : ((((GS ln T xs k).1.length : Nat) : Int) == 1048576) = false := beq_eq_false_iff_ne.2 (by omega)
        clear hf
        obtain ⟨f, o1, o2, o3, o4⟩ := H5.out.2.2.1.st
        obtain ⟨al', cl', rfl⟩ := ownsRow_slice o1
        have HO := Lib.hid (And.intro o1 (And.intro o2 o3))
        clear o1 o2 o3 o4
        have x0 := H5.out.1.cell (i := 0) rfl
        have x1 := H5.out.1.cell (i := 1) rfl
        have x2 := H5.out.1.cell (i := 2) rfl
        have x3 := H5.out.1.cell (i := 3) rfl
        have x4 := H5.out.1.cell (i := 4) rfl
        have x5 := H5.out.1.cell (i := 5) rfl
        have x6 := H5.out.1.cell (i := 6) rfl
        go_upto_region 12 with (refine wpList_mslook_ok Try.underlying9 Try.underlying89 infoInt _ _ rfl rfl b2 _ _ key rfl rfl H5.out.2.2.1.m2 HKY.out.2 ?_; rw [HFX.out])
        refine wp_region_ord 8 2 [0, 1, 2, 3, 4, 5, 6, 9, 10, 11] [5, 6] [0, 1, 2, 3, 4, 5, 6, 7, 8, 9, 10, 11, 12] (fun w' => ∃ x : Ext w5, w' = x.val) (by kernel_rfl) (by kernel_rfl) (Ext.of ((Upd.refl _ _).drew)) ?_
        repeat (first | (refine wpOrd_load rfl rfl rfl rfl (fun K hK => ?_); go_big_quiet_step (fail); refine wpQuiet_nil ?_; refine hK _ ?_; clear hK K) | (refine wpOrd_free rfl rfl rfl (fun K hK => ?_); go_big_quiet_step (fail); refine wpQuiet_nil ?_; refine hK _ ?_; clear hK K))
        refine wpOrd_fix rfl rfl (fun K hK => ?_)
        go_wp2_with fail
        have u8 : Upd [] w5 (w5.alloc (.cells (stC D (.slice ap s.params.length cp) (.slice av s.lits.length cv) (.slice (some ⟨gh, 0, none⟩) s.hints.length s.hints.length)).toArray 56)).drew := ((Upd.refl [] w5).alloc _).drew
        refine ⟨fun _ => Ext.of u8, ?_⟩
        change wpOrd _ _ _ _ _ _ _ _ _ _ (w5.alloc (.cells (stC D (.slice ap s.params.length cp) (.slice av s.lits.length cv) (.slice (some ⟨gh, 0, none⟩) s.hints.length s.hints.length)).toArray 56)).drew
        have B8 := (Blk.new w5 (stC D (.slice ap s.params.length cp) (.slice av s.lits.length cv) (.slice (some ⟨gh, 0, none⟩) s.hints.length s.hints.length)) 56).drew
        have H8 := Lib.hid (And.intro B8 (And.intro (H5.out.2.1.upd u8 (by simp)) (And.intro (H5.out.2.2.1.ext u8) (And.intro (H5.out.2.2.2.1.ext u8) (And.intro (ownsRow_updL HO.out.1 u8 (by simp)) (And.intro (H5.out.2.2.2.2.upd2 (T := []) (by simp) u8) (fun (i : Nat) (s : StepD) (hi : (GS ln T xs k).1[i]? = some s) => (HO.out.2.2 i s hi).upd2 (T := []) (by simp) u8)))))))
        have HU8 := Lib.hid u8
        clear B8 u8 x0 x1 x2 x3 x4 x5 x6
        generalize hg8 : Array.size (World.heap w5) = g8 at *
        clear hg8
        generalize (w5.alloc (.cells (stC D (.slice ap s.params.length cp) (.slice av s.lits.length cv) (.slice (some ⟨gh, 0, none⟩) s.hints.length s.hints.length)).toArray 56)).drew = w8 at *
        repeat (first | (refine wpOrd_load rfl rfl rfl rfl (fun K hK => ?_); go_big_quiet_step (fail); refine wpQuiet_nil ?_; refine hK _ ?_; clear hK K) | (refine wpOrd_free rfl rfl rfl (fun K hK => ?_); go_big_quiet_step (fail); refine wpQuiet_nil ?_; refine hK _ ?_; clear hK K))
        refine wpOrd_fix rfl rfl (fun K hK => ?_)
        refine wpList_app rfl _ _ _ rfl 56 7 112 _ Try.underlying28 infoStep rfl (by decide) (.slice al' (GS ln T xs k).1.length cl') (GS ln T xs k).1.length (rows (GS ln T xs k).1.length f) rfl H8.out.2.2.2.2.1 g8 1 1 (stC D (.slice ap s.params.length cp) (.slice av s.lits.length cv) (.slice (some ⟨gh, 0, none⟩) s.hints.length s.hints.length)) 56 rfl rfl H8.out.1 (stC_one _ _ _ _ rfl rfl rfl) (by omega) (by unfold maxLen; omega) (by omega) ?_
        intro g9 c9 w9 o9 u9 k9
        simp only [Act.put, List.setIfInBounds_toArray, List.set_cons_zero, List.set_cons_succ]
        have hPP := H8.out.2.2.1.stp H8.out.2.2.2.2.1 HO.out.2.1 H8.out.2.2.2.2.2.2 H8.out.2.2.2.2.2.1 rfl o9 u9 (fun g' hg' => by simp only [Value.ownBlock, Option.some.injEq] at hg'; subst hg'; exact k9.imp_right (fun h => by omega))
        have hT9 := offrow H8.out.2.1 H8.out.2.2.2.2.1 (by decide) u9
        have hK9 := H8.out.2.2.2.1.step u9 (fun x hx => .inr ⟨fun hk => absurd (hk.inj (row_kind H8.out.2.2.2.2.1 (by simpa using hx))) (by decide), fun hk => absurd (hk.inj (row_kind H8.out.2.2.2.2.1 (by simpa using hx))) (by decide)⟩)
        have us9 : Upd [mb] w9 (w9.setCell ⟨mb, 1, none⟩ (.slice (some ⟨g9, 0, none⟩) ((GS ln T xs k).1.length + 1) c9)) := (Upd.refl _ w9).set (.inl (by simp)) _
        have c9' := hPP.1.cell (i := 1) rfl
        have f9 := hPP.1.free 1
        have HPP := Lib.hid (And.intro hPP.2 (And.intro (hT9.upd us9 (fun hm => by simp at hm; exact absurd ((blk_kind hT9).inj (hm ▸ blk_kind hPP.1)) (by decide))) (hK9.step us9 (fun x hx => by simp at hx; subst hx; exact .inr ⟨fun hk => absurd (hk.inj (blk_kind hPP.1)) (by decide), fun hk => absurd (hk.inj (blk_kind hPP.1)) (by decide)⟩))))
        clear hPP hT9 hK9 us9 o9 u9 k9 c1 c3
        go_wp2_with fail
        refine ⟨fun hC => absurd hC (by decide), ?_⟩
        repeat (first | (refine wpOrd_load rfl rfl rfl rfl (fun K hK => ?_); go_big_quiet_step (fail); refine wpQuiet_nil ?_; refine hK _ ?_; clear hK K) | (refine wpOrd_free rfl rfl rfl (fun K hK => ?_); go_big_quiet_step (fail); refine wpQuiet_nil ?_; refine hK _ ?_; clear hK K))
        refine wpOrd_fix rfl rfl (fun K hK => ?_)
        go_wp2_with fail
        refine ⟨fun hC => absurd hC (by decide), ?_⟩
        refine wpOrd_nil ?_
        generalize (w9.setCell ⟨mb, 1, none⟩ (.slice (some ⟨g9, 0, none⟩) ((GS ln T xs k).1.length + 1) c9)) = wA at *
        clear c9' f9
        have c3 := HPP.out.1.box.cell (i := 3) rfl
        go_upto_region 14 with (refine wpList_msput Try.underlying9 Try.underlying89 rfl _ _ _ rfl b2 (GS ln T xs k).1.length (fE stE (GS ln T xs k).1) key (.int .i64 ((GS ln T xs k).1.length : Nat)) rfl rfl rfl HPP.out.1.m2 (by unfold maxLen; omega) HKY.out.2 ?_; intro wB mB uB)
        have hkb : ∀ x ∈ [b2], ∀ e, ¬ Kind wA x e := fun x hx e => by simp at hx; subst hx; exact ms_kind HPP.out.1.m2
        have HB := Lib.hid (And.intro (HPP.out.1.put2 HKY.out.1 HF.out mB uB) (And.intro (HPP.out.2.1.upd uB (fun hm => hkb _ hm _ (blk_kind HPP.out.2.1))) (HPP.out.2.2.step uB (fun x hx => .inr ⟨hkb x hx _, hkb x hx _⟩))))
        clear mB uB hkb c3 HPP
        have dk := HB.out.2.1.cell (i := k) (ints_get (tabI_get (f := (GS ln T xs k).2) hlt))
        have fk := HB.out.2.1.free k
        have us : Upd [w.heap.size] wB (wB.setCell ⟨w.heap.size, k, none⟩ (.int .i64 ((GS ln T xs k).1.length : Nat))) := (Upd.refl _ wB).set (.inl (by simp)) _
        have hB := HB.out.2.1.set k (.int .i64 ((GS ln T xs k).1.length : Nat))
        rw [tabI_set] at hB
        have HX := Lib.hid (show Blk (wB.setCell ⟨w.heap.size, k, none⟩ (.int .i64 ((GS ln T xs k).1.length : Nat))) w.heap.size (ints (tabI xs.length (GS ln T xs (k + 1)).2)) 3 ∧ Mg w0 mb b1 b2 w.heap.size L L (GS ln T xs (k + 1)).1 (GS ln T xs (k + 1)).1 vL (.slice (some ⟨g9, 0, none⟩) ((GS ln T xs k).1.length + 1) c9) (wB.setCell ⟨w.heap.size, k, none⟩ (.int .i64 ((GS ln T xs k).1.length : Nat))) ∧ KI w (wB.setCell ⟨w.heap.size, k, none⟩ (.int .i64 ((GS ln T xs k).1.length : Nat))) by
          rw [HG.out]
          exact ⟨hB, HB.out.1.num HB.out.2.1 hz us, HB.out.2.2.step us (fun x hx => .inl (by simp at hx; omega))⟩)
        clear us hB
        go_wp2_with fail
        exact ⟨⟨k + 1, _, by go_num, by omega, HX.out⟩, by simp [intOf]; omega⟩
    · have hki : ¬ (k : Int) < xs.length := by omega
      have hkn : k = xs.length := by omega
      rw [hkn] at HI
      clear hkn hlt hk
      go_wp2_with fail
      go_ret2
      exact ⟨_, rfl, HI.out.1, ⟨_, HI.out.2.1⟩, Nat.le_refl _, HI.out.2.2⟩
end
end Trim
end Go.Proofs.Ytnmfihgdedifoaa
