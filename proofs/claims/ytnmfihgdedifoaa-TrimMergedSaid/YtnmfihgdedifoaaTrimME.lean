/- Walks through package trim: takeLemmas. Conditions: none. -/
import Derived.Test.YtnmfihgdedifoaaTrimMD
set_option linter.unusedVariables false
set_option linter.unusedSimpArgs false
set_option linter.unusedSectionVars false
open Go.RowKit
namespace Go.Proofs.Ytnmfihgdedifoaa
open L R01
namespace Trim
/-- Numbers and proofs that stood before stand. -/
def KI (w w' : World) : Prop := ∀ (g : Nat) (cs : List Value) (e : TypeId), (e = 3 ∨ e = 30) → Blk w g cs e → Blk w' g cs e
theorem KI.refl (w : World) : KI w w := fun _ _ _ _ h => h
theorem KI.step {a b c : World} {S : List Nat} (h : KI a b) (u : Upd S b c) (hS : ∀ x ∈ S, a.heap.size ≤ x ∨ (¬ Kind b x 3 ∧ ¬ Kind b x 30)) : KI a c := fun g cs e he hB => by
  have hb := h g cs e he hB
  refine hb.upd u (fun hm => ?_)
  rcases hS g hm with h1 | ⟨h1, h2⟩
  · have := hB.lt; omega
  · rcases he with rfl | rfl
    · exact h1 (blk_kind hb)
    · exact h2 (blk_kind hb)
theorem KI.ext {a b c : World} (h : KI a b) (u : Upd [] b c) : KI a c := h.step u (by simp)
theorem KI.trans {a b c : World} (h : KI a b) (k : KI b c) : KI a c := fun g cs e he hB => k g cs e he (h g cs e he hB)
/-- The lemmas taken so far. -/
noncomputable def GL (L xs : List LemD) (k : Nat) : List LemD × (Nat → Int) := goTo (qE lmE) (fun _ x => x) L xs k
theorem lmE_le {d : LemD} (h : LmOk d) : (lmE d).length ≤ 2000000 := by
  have h1 := flat_le (f := noE) (B := 1000) (l := d.graph) (fun x hx => by
    have := h.graph.2 x hx
    have h1 := this.kids.1
    have h2 := this.text
    rw [noE_length]; omega)
  have h2 := flat_le (f := stE) (B := 10000) (l := d.steps) h.steps.2
  have := h.graph.1
  have := h.hyps.1
  have := h.clause.1
  have := h.steps.1
  unfold lmE
  simp only [List.length_append, n8_length, lsE_length]
  omega
section
variable {w0 w : World}
set_option maxRecDepth 100000 in
set_option maxHeartbeats 8000000 in
theorem tkL_calls {v vL vS : Value} {mb b1 b2 gS : Nat} {L xs : List LemD} {T : List StepD} (hM : Mg w0 mb b1 b2 gS L L T T vL vS w) (hl : LmL w0 v xs) (hx : ∀ d ∈ xs, LmOk d) (hn : xs.length ≤ 1000) (hL : L.length ≤ 1000) :
    Calls Try.prog 42 #[.pointer (some ⟨mb, 0, none⟩), v] w fun e w' => ∃ (g : Nat) (vL' : Value), e = .returned (.slice (some ⟨g, 0, none⟩) xs.length xs.length) ∧ Blk w' g (ints (tabI xs.length (GL L xs xs.length).2)) 3 ∧ Mg w0 mb b1 b2 g (GL L xs xs.length).1 (GL L xs xs.length).1 T T vL' vS w' ∧ w.heap.size ≤ g ∧ KI w w' := by
  obtain ⟨al, cl, rfl, ql, rl⟩ := hl.form
  have HQ := Lib.hid (And.intro hl.at_ hx)
  clear hl hx
  have B1 := Blk.new w (ints (tabI xs.length fun _ => 0)) 3
  have U1 := (Upd.refl [] w).alloc (.cells (ints (tabI xs.length fun _ => 0)).toArray 3)
  have H1 := Lib.hid (And.intro B1 (And.intro ((hM.gs (g := w.heap.size) (Nat.le_refl _)).ext U1) ((KI.refl w).ext U1)))
  have hz := hM.u.size
  clear B1 U1 hM
  go_enter Try.func42, Try.ntmps42
  go_upto_region 2 with (refine wpList_mk rfl _ _ _ rfl 3 1 8 _ Try.underlying22 infoInt rfl (by decide) _ _ _ _ xs.length rfl rfl rfl rfl (by omega) (by omega) ?_; change wpList _ _ _ _ _ (w.alloc (.cells (rows xs.length fun _ => [.int .i64 0]).toArray 3)); rw [← tabI_zero])
  generalize (w.alloc (.cells (ints (tabI xs.length fun _ => 0)).toArray 3)) = w1 at *
  go_wp2_with fail
  go_loopw [16] (fun i wr => ∃ (k : Nat) (vL' : Value), i = .int .i64 k ∧ k ≤ xs.length ∧ Blk wr w.heap.size (ints (tabI xs.length (GL L xs k).2)) 3 ∧ Mg w0 mb b1 b2 w.heap.size (GL L xs k).1 (GL L xs k).1 T T vL' vS wr ∧ KI w wr) (fun i _ => xs.length - (intOf i).toNat)
  case atStart => exact ⟨0, vL, rfl, Nat.zero_le _, H1.out⟩
  case round =>
    obtain ⟨wo, rfl⟩ : ∃ wo : World, wo = wr := ⟨_, rfl⟩
    obtain ⟨k, vL', rfl, hk, hI⟩ := hrel
    have HI := Lib.hid hI
    clear H1 hI
    by_cases hlt : k < xs.length
    · have hki : (k : Int) < xs.length := by omega
      have hs' := List.getElem?_eq_getElem hlt
      obtain ⟨g, cs, rfl, hR, hcell⟩ := HQ.out.1 k _ hs'
      have hok := HQ.out.2 _ (List.getElem_mem hlt)
      have hGk := goTo_succ (q := qE lmE) (ren := fun _ x => x) (T0 := L) hs'
      have hGb := goTo_bound (qE lmE) (fun _ x => x) L xs k
      generalize xs[k] = d at *
      obtain ⟨a1, c1, a2', c2', a3, c3, a4, c4, rfl⟩ := hR.cells
      have hU := HI.out.2.1.u
      have e0 := hU.some (hcell 0 _ rfl) (by simp)
      have e1 := hU.some (hcell 1 _ rfl) (by simp)
      have e2 := hU.some (hcell 2 _ rfl) (by simp)
      have e3 := hU.some (hcell 3 _ rfl) (by simp)
      rw [Nat.add_zero] at e0
      have HR := Lib.hid (And.intro hR (And.intro hok hGk))
      clear hcell hs' hR hok hGk
      go_upto_region 5 with fail
      have b4 := Blk.new wo [.slice a1 d.graph.length c1, .slice a2' d.hyps.length c2', .slice a3 d.clause.length c3, .slice a4 d.steps.length c4] 82
      have u4 := (Upd.refl [] wo).alloc (.cells #[.slice a1 d.graph.length c1, .slice a2' d.hyps.length c2', .slice a3 d.clause.length c3, .slice a4 d.steps.length c4] 82)
      have hg1 := HI.out.1.lt
      have H4 := Lib.hid (And.intro b4 (And.intro (HI.out.1.upd u4 (by simp)) (And.intro (HI.out.2.1.ext u4) (HI.out.2.2.ext u4))))
      have HLB := Lib.hid (lmB_calls (w := wo.alloc (.cells #[.slice a1 d.graph.length c1, .slice a2' d.hyps.length c2', .slice a3 d.clause.length c3, .slice a4 d.steps.length c4] 82)) (HR.out.1.kd (T := []) (es := [3, 88, 56]) (off_nil _ _) (by simp) (by simp) (by simp) (hU.step u4)) HR.out.2.1)
      clear b4 u4 e0 e1 e2 e3 HI
      generalize hgw : wo.heap.size = gw at *
      generalize (wo.alloc (.cells #[.slice a1 d.graph.length c1, .slice a2' d.hyps.length c2', .slice a3 d.clause.length c3, .slice a4 d.steps.length c4] 82)) = w4 at *
      clear hU
      have x0 := H4.out.1.cell (i := 0) rfl
      have x1 := H4.out.1.cell (i := 1) rfl
      have x2 := H4.out.1.cell (i := 2) rfl
      have x3 := H4.out.1.cell (i := 3) rfl
      go_upto_region 6 with (first | (go_at_call 53; (with_reducible refine HLB.out.mono ?_); rintro e w5 ⟨v5, rfl, hb5, hk5⟩) | (refine wpList_bstr Try.underlying103 Try.underlying5 Try.underlying9 _ rfl rfl v5 (lmE d) rfl hb5.1.row ?_))
      have H5 := Lib.hid (And.intro (H4.out.1.upd hb5.2 (by simp)) (And.intro (H4.out.2.1.upd hb5.2 (by simp)) (And.intro (H4.out.2.2.1.ext hb5.2) (H4.out.2.2.2.ext hb5.2))))
      clear x0 x1 x2 x3 hb5 hk5 HLB H4
      have hsz : (lmE d).length ≤ 2000000 := lmE_le HR.out.2.1
      have c0 := H5.out.2.2.1.box.cell (i := 0) rfl
      have c2 := H5.out.2.2.1.box.cell (i := 2) rfl
      have hkey : (⟨(lmE d).toArray⟩ : ByteArray).data.toList = lmE d := by simp
      have hks : (⟨(lmE d).toArray⟩ : ByteArray).size ≤ maxLen := by show (lmE d).toArray.size ≤ _; rw [List.size_toArray]; unfold maxLen; omega
      have HKY := Lib.hid (And.intro hkey hks)
      generalize (⟨(lmE d).toArray⟩ : ByteArray) = key at *
      clear hkey hks
      cases hf : fnd (qE lmE) (GL L xs k).1 d with
      | some i =>
        have HFX := Lib.hid (show fE lmE (GL L xs k).1 key.data.toList = some (.int .i64 (i : Nat)) by rw [HKY.out.1, fE_at, hf]; rfl)
        have HG := Lib.hid (show GL L xs (k + 1) = ((GL L xs k).1, fun j => if j = k then ((i : Nat) : Int) else (GL L xs k).2 j) by
          unfold GL at hf ⊢
          rw [HR.out.2.2]
          unfold ins noOf
          rw [hf]
          rfl)
        have dk := H5.out.2.1.cell (i := k) (ints_get (tabI_get (f := (GL L xs k).2) hlt))
        have fk := H5.out.2.1.free k
        have us : Upd [w.heap.size] w5 (w5.setCell ⟨w.heap.size, k, none⟩ (.int .i64 (i : Nat))) := (Upd.refl _ w5).set (.inl (by simp)) _
        have hB := H5.out.2.1.set k (.int .i64 (i : Nat))
        rw [tabI_set] at hB
        have HX := Lib.hid (show Blk (w5.setCell ⟨w.heap.size, k, none⟩ (.int .i64 (i : Nat))) w.heap.size (ints (tabI xs.length (GL L xs (k + 1)).2)) 3 ∧ Mg w0 mb b1 b2 w.heap.size (GL L xs (k + 1)).1 (GL L xs (k + 1)).1 T T vL' vS (w5.setCell ⟨w.heap.size, k, none⟩ (.int .i64 (i : Nat))) ∧ KI w (w5.setCell ⟨w.heap.size, k, none⟩ (.int .i64 (i : Nat))) by
          rw [HG.out]
          exact ⟨hB, H5.out.2.2.1.num H5.out.2.1 hz us, H5.out.2.2.2.step us (fun x hx => .inl (by simp at hx; omega))⟩)
        clear us hB hf
        go_wp2_with (refine wpList_mslook_ok Try.underlying9 Try.underlying89 infoInt _ _ rfl rfl b1 _ _ key rfl rfl H5.out.2.2.1.m1 HKY.out.2 ?_; rw [HFX.out])
        exact ⟨⟨k + 1, vL', by go_num, by omega, HX.out⟩, by simp [intOf]; omega⟩
      | none =>
        have HFX := Lib.hid (show fE lmE (GL L xs k).1 key.data.toList = none by rw [HKY.out.1, fE_at, hf]; rfl)
        have HG := Lib.hid (show GL L xs (k + 1) = ((GL L xs k).1 ++ [d], fun j => if j = k then (((GL L xs k).1.length : Nat) : Int) else (GL L xs k).2 j) by
          unfold GL at hf ⊢
          rw [HR.out.2.2]
          unfold ins noOf
          rw [hf]
          rfl)
        have HF := Lib.hid hf
        have hLk : (GL L xs k).1.length ≤ 2000 := by have := hGb.1; unfold GL; omega
        clear hf hGb
        obtain ⟨f, o1, o2, o3, o4⟩ := H5.out.2.2.1.lm
        obtain ⟨al', cl', rfl⟩ := ownsRow_slice o1
        have HO := Lib.hid (And.intro o1 (And.intro o2 o3))
        clear o1 o2 o3 o4
        have x0 := H5.out.1.cell (i := 0) rfl
        have x1 := H5.out.1.cell (i := 1) rfl
        have x2 := H5.out.1.cell (i := 2) rfl
        have x3 := H5.out.1.cell (i := 3) rfl
        go_upto_region 9 with (refine wpList_mslook_ok Try.underlying9 Try.underlying89 infoInt _ _ rfl rfl b1 _ _ key rfl rfl H5.out.2.2.1.m1 HKY.out.2 ?_; rw [HFX.out])
        refine wp_region_ord 8 2 [0, 1, 2, 3, 4, 5, 6, 9, 10, 11] [5, 6] [0, 1, 2, 3, 4, 5, 6, 7, 8, 9, 10, 11, 12] (fun w' => ∃ x : Ext w5, w' = x.val) (by kernel_rfl) (by kernel_rfl) (Ext.of ((Upd.refl _ _).drew)) ?_
        repeat (first | (refine wpOrd_load rfl rfl rfl rfl (fun K hK => ?_); go_big_quiet_step (fail); refine wpQuiet_nil ?_; refine hK _ ?_; clear hK K) | (refine wpOrd_free rfl rfl rfl (fun K hK => ?_); go_big_quiet_step (fail); refine wpQuiet_nil ?_; refine hK _ ?_; clear hK K))
        refine wpOrd_fix rfl rfl (fun K hK => ?_)
        go_wp2_with fail
        have u8 : Upd [] w5 (w5.alloc (.cells #[.slice a1 d.graph.length c1, .slice a2' d.hyps.length c2', .slice a3 d.clause.length c3, .slice a4 d.steps.length c4] 82)).drew := ((Upd.refl [] w5).alloc (.cells #[.slice a1 d.graph.length c1, .slice a2' d.hyps.length c2', .slice a3 d.clause.length c3, .slice a4 d.steps.length c4] 82)).drew
        refine ⟨fun _ => Ext.of u8, ?_⟩
        have B8 := (Blk.new w5 [.slice a1 d.graph.length c1, .slice a2' d.hyps.length c2', .slice a3 d.clause.length c3, .slice a4 d.steps.length c4] 82).drew
        have H8 := Lib.hid (And.intro B8 (And.intro (H5.out.2.1.upd u8 (by simp)) (And.intro (H5.out.2.2.1.ext u8) (And.intro (H5.out.2.2.2.ext u8) (ownsRow_updL HO.out.1 u8 (by simp))))))
        have HU8 := Lib.hid u8
        clear B8 u8 x0 x1 x2 x3
        generalize hg8 : Array.size (World.heap w5) = g8 at *
        clear hg8
        generalize (w5.alloc (.cells #[.slice a1 d.graph.length c1, .slice a2' d.hyps.length c2', .slice a3 d.clause.length c3, .slice a4 d.steps.length c4] 82)).drew = w8 at *
        repeat (first | (refine wpOrd_load rfl rfl rfl rfl (fun K hK => ?_); go_big_quiet_step (fail); refine wpQuiet_nil ?_; refine hK _ ?_; clear hK K) | (refine wpOrd_free rfl rfl rfl (fun K hK => ?_); go_big_quiet_step (fail); refine wpQuiet_nil ?_; refine hK _ ?_; clear hK K))
        refine wpOrd_fix rfl rfl (fun K hK => ?_)
        refine wpList_app rfl _ _ _ rfl 82 4 96 _ Try.underlying27 infoLemma rfl (by decide) (.slice al' (GL L xs k).1.length cl') (GL L xs k).1.length (rows (GL L xs k).1.length f) rfl H8.out.2.2.2.2 g8 1 1 [.slice a1 d.graph.length c1, .slice a2' d.hyps.length c2', .slice a3 d.clause.length c3, .slice a4 d.steps.length c4] 82 rfl rfl H8.out.1 (by simp [Value.oneCell']) (by omega) (by unfold maxLen; omega) (by omega) ?_
        intro g9 c9 w9 o9 u9 k9
        simp only [Act.put, List.setIfInBounds_toArray, List.set_cons_zero, List.set_cons_succ]
        have hPP := H8.out.2.2.1.lem HO.out.2.1 HO.out.2.2 HR.out.1 rfl o9 u9 (fun g' hg' => by simp only [Value.ownBlock, Option.some.injEq] at hg'; subst hg'; exact k9.imp_right (fun h => by omega))
        have hT9 := offrow H8.out.2.1 H8.out.2.2.2.2 (by decide) u9
        have hK9 := H8.out.2.2.2.1.step u9 (fun x hx => .inr ⟨fun hk => absurd (hk.inj (row_kind H8.out.2.2.2.2 (by simpa using hx))) (by decide), fun hk => absurd (hk.inj (row_kind H8.out.2.2.2.2 (by simpa using hx))) (by decide)⟩)
        have us9 : Upd [mb] w9 (w9.setCell ⟨mb, 0, none⟩ (.slice (some ⟨g9, 0, none⟩) ((GL L xs k).1.length + 1) c9)) := (Upd.refl _ w9).set (.inl (by simp)) _
        have c9' := hPP.1.cell (i := 0) rfl
        have f9 := hPP.1.free 0
        have HPP := Lib.hid (And.intro hPP.2 (And.intro (hT9.upd us9 (fun hm => by simp at hm; exact absurd ((blk_kind hT9).inj (hm ▸ blk_kind hPP.1)) (by decide))) (hK9.step us9 (fun x hx => by simp at hx; subst hx; exact .inr ⟨fun hk => absurd (hk.inj (blk_kind hPP.1)) (by decide), fun hk => absurd (hk.inj (blk_kind hPP.1)) (by decide)⟩))))
        clear hPP hT9 hK9 us9 o9 u9 k9 c0 c2
        go_wp2_with fail
        refine ⟨fun hC => absurd hC (by decide), ?_⟩
        repeat (first | (refine wpOrd_load rfl rfl rfl rfl (fun K hK => ?_); go_big_quiet_step (fail); refine wpQuiet_nil ?_; refine hK _ ?_; clear hK K) | (refine wpOrd_free rfl rfl rfl (fun K hK => ?_); go_big_quiet_step (fail); refine wpQuiet_nil ?_; refine hK _ ?_; clear hK K))
        refine wpOrd_fix rfl rfl (fun K hK => ?_)
        go_wp2_with fail
        refine ⟨fun hC => absurd hC (by decide), ?_⟩
        refine wpOrd_nil ?_
        generalize (w9.setCell ⟨mb, 0, none⟩ (.slice (some ⟨g9, 0, none⟩) ((GL L xs k).1.length + 1) c9)) = wA at *
        clear c9' f9
        have c2 := HPP.out.1.box.cell (i := 2) rfl
        go_upto_region 11 with (refine wpList_msput Try.underlying9 Try.underlying89 rfl _ _ _ rfl b1 (GL L xs k).1.length (fE lmE (GL L xs k).1) key (.int .i64 ((GL L xs k).1.length : Nat)) rfl rfl rfl HPP.out.1.m1 (by unfold maxLen; omega) HKY.out.2 ?_; intro wB mB uB)
        have hkb : ∀ x ∈ [b1], ∀ e, ¬ Kind wA x e := fun x hx e => by simp at hx; subst hx; exact ms_kind HPP.out.1.m1
        have HB := Lib.hid (And.intro (HPP.out.1.put1 HKY.out.1 HF.out mB uB) (And.intro (HPP.out.2.1.upd uB (fun hm => hkb _ hm _ (blk_kind HPP.out.2.1))) (HPP.out.2.2.step uB (fun x hx => .inr ⟨hkb x hx _, hkb x hx _⟩))))
        clear mB uB hkb c2 HPP
        have dk := HB.out.2.1.cell (i := k) (ints_get (tabI_get (f := (GL L xs k).2) hlt))
        have fk := HB.out.2.1.free k
        have us : Upd [w.heap.size] wB (wB.setCell ⟨w.heap.size, k, none⟩ (.int .i64 ((GL L xs k).1.length : Nat))) := (Upd.refl _ wB).set (.inl (by simp)) _
        have hB := HB.out.2.1.set k (.int .i64 ((GL L xs k).1.length : Nat))
        rw [tabI_set] at hB
        have HX := Lib.hid (show Blk (wB.setCell ⟨w.heap.size, k, none⟩ (.int .i64 ((GL L xs k).1.length : Nat))) w.heap.size (ints (tabI xs.length (GL L xs (k + 1)).2)) 3 ∧ Mg w0 mb b1 b2 w.heap.size (GL L xs (k + 1)).1 (GL L xs (k + 1)).1 T T (.slice (some ⟨g9, 0, none⟩) ((GL L xs k).1.length + 1) c9) vS (wB.setCell ⟨w.heap.size, k, none⟩ (.int .i64 ((GL L xs k).1.length : Nat))) ∧ KI w (wB.setCell ⟨w.heap.size, k, none⟩ (.int .i64 ((GL L xs k).1.length : Nat))) by
          rw [HG.out]
          exact ⟨hB, HB.out.1.num HB.out.2.1 hz us, HB.out.2.2.step us (fun x hx => .inl (by simp at hx; omega))⟩)
        clear us hB
        go_wp2_with fail
        exact ⟨⟨k + 1, _, by go_num, by omega, HX.out⟩, by simp [intOf]; omega⟩
    · have hki : ¬ (k : Int) < xs.length := by omega
      have hkn : k = xs.length := by omega
      rw [hkn] at HI
      clear hkn hlt hk
      go_wp2_with fail
      go_ret
      exact ⟨_, rfl, HI.out.1, ⟨_, HI.out.2.1⟩, Nat.le_refl _, HI.out.2.2⟩
end
end Trim
end Go.Proofs.Ytnmfihgdedifoaa
