/- Walks through package trim: Merge. Conditions: none. -/
import Derived.Test.YtnmfihgdedifoaaTrimMF
import Derived.Test.YtnmfihgdedifoaaTrimV
set_option linter.unusedVariables false
set_option linter.unusedSimpArgs false
set_option linter.unusedSectionVars false
open Go.RowKit
namespace Go.Proofs.Ytnmfihgdedifoaa
open L R01
namespace Trim
theorem ret_row_tmp3 {fn : Func} {R : Ending → World → Prop} {a : Act} {w : World} {p q r s : Tmp} {ty t : TypeId} {g : Nat} {cs : List Value} {fs : _} (h : fn.results = #[.cell p ty, .tmp q, .tmp r, .tmp s]) (hp : a.tmps.getD p undef = .pointer (some ⟨g, 0, none⟩)) (hB : Blk w g cs t)
    (hu : Try.prog.underlying ty = some (.struct fs)) (hi : (Try.prog.info? ty).map (·.size) = some cs.length) (hdf : a.defers = []) {v v2 v3 : Value} (hv : a.tmps.getD q undef = v) (hv2 : a.tmps.getD r undef = v2) (hv3 : a.tmps.getD s undef = v3) (hR : R (.returned (.tuple #[.agg cs.toArray, v, v2, v3])) w) :
    bodyPost Try.prog fn R .ret a w := by
  refine bodyPost_ret (v := .tuple #[.agg cs.toArray, v, v2, v3]) ?_ hdf hR
  have h2 := run_loadVar_row (P := Try.prog) w g t ty cs.toArray (0, 0) (.struct fs) hB hu rfl (by simpa using hi)
  have hp' : a.tmps[p]?.getD undef = .pointer (some ⟨g, 0, none⟩) := by simpa using hp
  have hv' : a.tmps[q]?.getD undef = v := by simpa using hv
  have hv2' : a.tmps[r]?.getD undef = v2 := by simpa using hv2
  have hv3' : a.tmps[s]?.getD undef = v3 := by simpa using hv3
  simp [results, h, hp', asAddr, h2, hv', hv2', hv3']
/-- Proofs that can be merged. -/
structure MOk (p : PrfD) : Prop where
  wf : Wf p
  len : p.steps.length ≤ 1000
  nl : p.lemmas.length ≤ 100
  size : ∀ (k : Nat) (s : StepD), p.steps[k]? = some s → s.params.length ≤ 1000 ∧ s.lits.length ≤ 1000 ∧ s.hints.length ≤ 1000
  lms : ∀ d ∈ p.lemmas, LmOk d
theorem MOk.sts {p : PrfD} (h : MOk p) : StsOk p.lemmas.length p.steps := ⟨h.wf.hint, h.wf.lem, h.size⟩
noncomputable def mL1 (p : PrfD) := GL [] p.lemmas p.lemmas.length
noncomputable def mL2 (p q : PrfD) := GL (mL1 p).1 q.lemmas q.lemmas.length
noncomputable def mS1 (p : PrfD) := GS (mL1 p).2 [] p.steps p.steps.length
noncomputable def mS2 (p q : PrfD) := GS (mL2 p q).2 (mS1 p).1 q.steps q.steps.length
/-- The merged proof. -/
noncomputable def mrg (p q : PrfD) : PrfD := ⟨(mL2 p q).1, (mS2 p q).1⟩
theorem mg_new (w : World) (gS : Nat) : Mg w (w.heap.size + 1 + 1) w.heap.size (w.heap.size + 1) gS [] [] [] [] (.slice none 0 0) (.slice none 0 0) (((w.alloc (.map #[] 0)).alloc (.map #[] 0)).alloc (.cells #[.slice none 0 0, .slice none 0 0, .map (some w.heap.size), .map (some (w.heap.size + 1))] 91)) := by
  have e1 : (w.alloc (.map #[] 0)).heap.size = w.heap.size + 1 := by simp
  have e2 : ((w.alloc (.map #[] 0)).alloc (.map #[] 0)).heap.size = w.heap.size + 1 + 1 := by simp
  have B := Blk.new ((w.alloc (.map #[] 0)).alloc (.map #[] 0)) [.slice none 0 0, .slice none 0 0, .map (some w.heap.size), .map (some (w.heap.size + 1))] 91
  rw [e2] at B
  have u1 := (Upd.refl [] (w.alloc (.map #[] 0))).alloc (.map #[] 0)
  have u2 := (Upd.refl [] ((w.alloc (.map #[] 0)).alloc (.map #[] 0))).alloc (.cells #[.slice none 0 0, .slice none 0 0, .map (some w.heap.size), .map (some (w.heap.size + 1))] 91)
  have m1 := ((MS.new w Try.prog 9).upd u1 (by simp)).upd u2 (by simp)
  have m2 := (MS.new (w.alloc (.map #[] 0)) Try.prog 9).upd u2 (by simp)
  rw [e1] at m2
  exact ⟨B, lmQ_nil _ _, stQ_nil _ _ _, m1, m2, ⟨by omega, by omega, by omega, by omega⟩, (((Upd.refl [] w).alloc _).step u1).step u2⟩
theorem goTo_i64 {α : Type} {q : α → α → Bool} {ren : (Nat → Int) → α → α} {T0 xs : List α} {k : Nat} (h : T0.length + k ≤ 1000000) (j : Nat) : IsI64 ((goTo q ren T0 xs k).2 j) := by
  obtain ⟨_, _, h3⟩ := goTo_bound q ren T0 xs k
  have := h3 j
  unfold IsI64
  omega
theorem mL1_le (p : PrfD) : (mL1 p).1.length ≤ p.lemmas.length := by have := (goTo_bound (qE lmE) (fun _ x => x) ([] : List LemD) p.lemmas p.lemmas.length).1; simp at this; exact this
theorem mS1_le (p : PrfD) : (mS1 p).1.length ≤ p.steps.length := by have := (goTo_bound (qE stE) (fun no x => renS no (mL1 p).2 x) ([] : List StepD) p.steps p.steps.length).1; simp at this; exact this
theorem mS2_le (p q : PrfD) : (mS2 p q).1.length ≤ p.steps.length + q.steps.length := by have := (goTo_bound (qE stE) (fun no x => renS no (mL2 p q).2 x) (mS1 p).1 q.steps q.steps.length).1; have := mS1_le p; unfold mS2 GS; omega
theorem mL2_le (p q : PrfD) : (mL2 p q).1.length ≤ p.lemmas.length + q.lemmas.length := by have := (goTo_bound (qE lmE) (fun _ x => x) (mL1 p).1 q.lemmas q.lemmas.length).1; have := mL1_le p; unfold mL2 GL; omega
section
variable {w : World}
set_option maxRecDepth 100000 in
set_option maxHeartbeats 8000000 in
theorem Merge_good {v v2 : Value} {p q : PrfD} (h : PrL w v p) (h2 : PrL w v2 q) (hp : MOk p) (hq : MOk q) :
    Calls Try.prog 27 #[v, v2] w fun e w' => ∃ (v' : Value) (g1 g2 : Nat), e = .returned (.tuple #[v', .slice (some ⟨g1, 0, none⟩) p.steps.length p.steps.length, .slice (some ⟨g2, 0, none⟩) q.steps.length q.steps.length, .int .i64 0]) ∧ PrL w' v' (mrg p q) ∧ Blk w' g1 (ints (tabI p.steps.length (mS1 p).2)) 3 ∧ Blk w' g2 (ints (tabI q.steps.length (mS2 p q).2)) 3 ∧ Upd [] w w' := by
  have hc1 := wf_check.2 hp.wf
  have hc2 := wf_check.2 hq.wf
  obtain ⟨al, cl, a2, c2, rfl⟩ := h.form
  obtain ⟨al', cl', a2', c2', rfl⟩ := h2.form
  have hl1 := hp.len
  have hl2 := hq.len
  have hl3 := hp.nl
  have hl4 := hq.nl
  have HQ := Lib.hid (And.intro h (And.intro h2 (And.intro hp hq)))
  have HV1 := Lib.hid (fun (w' : World) (u : Upd [] w w') => show Calls Try.prog 31 #[.agg #[.slice al p.lemmas.length cl, .slice a2 p.steps.length c2]] w' fun e w'' => e = .returned (.int .i64 0) ∧ Upd [] w' w'' from by
    have h := valid_calls (w := w') (p := p) (h.ext' u)
    rw [hc1] at h; exact h)
  have HV2 := Lib.hid (fun (w' : World) (u : Upd [] w w') => show Calls Try.prog 31 #[.agg #[.slice al' q.lemmas.length cl', .slice a2' q.steps.length c2']] w' fun e w'' => e = .returned (.int .i64 0) ∧ Upd [] w' w'' from by
    have h := valid_calls (w := w') (p := q) (h2.ext' u)
    rw [hc2] at h; exact h)
  clear h h2 hp hq hc1 hc2
  have hmm := @run_makeMap Try.prog
  have b1 := ((Blk.new w [.slice al p.lemmas.length cl, .slice a2 p.steps.length c2] 30).alloc (.cells #[.slice al' q.lemmas.length cl', .slice a2' q.steps.length c2'] 30)).alloc (.cells #[.slice none 0 0, .slice none 0 0] 30)
  have b2 := (Blk.new (w.alloc (.cells #[.slice al p.lemmas.length cl, .slice a2 p.steps.length c2] 30)) [.slice al' q.lemmas.length cl', .slice a2' q.steps.length c2'] 30).alloc (.cells #[.slice none 0 0, .slice none 0 0] 30)
  have b3 := Blk.new ((w.alloc (.cells #[.slice al p.lemmas.length cl, .slice a2 p.steps.length c2] 30)).alloc (.cells #[.slice al' q.lemmas.length cl', .slice a2' q.steps.length c2'] 30)) [.slice none 0 0, .slice none 0 0] 30
  have u3 := (((Upd.refl [] w).alloc (.cells #[.slice al p.lemmas.length cl, .slice a2 p.steps.length c2] 30)).alloc (.cells #[.slice al' q.lemmas.length cl', .slice a2' q.steps.length c2'] 30)).alloc (.cells #[.slice none 0 0, .slice none 0 0] 30)
  rw [show (w.alloc (.cells #[.slice al p.lemmas.length cl, .slice a2 p.steps.length c2] 30)).heap.size = w.heap.size + 1 by simp] at b2
  rw [show ((w.alloc (.cells #[.slice al p.lemmas.length cl, .slice a2 p.steps.length c2] 30)).alloc (.cells #[.slice al' q.lemmas.length cl', .slice a2' q.steps.length c2'] 30)).heap.size = w.heap.size + 1 + 1 by simp] at b3
  have c0 := b1.cell (i := 0) rfl
  have c1 := b1.cell (i := 1) rfl
  have x0 := b2.cell (i := 0) rfl
  have x1 := b2.cell (i := 1) rfl
  go_enter Try.func27, Try.ntmps27
  go_upto_region 4 with (go_at_call 31; (with_reducible refine (HV1.out _ u3).mono ?_); rintro e w4 ⟨rfl, u4⟩)
  have H4 := Lib.hid (And.intro (b1.upd u4 (by simp)) (And.intro (b2.upd u4 (by simp)) (And.intro (b3.upd u4 (by simp)) (u3.step u4))))
  clear b1 b2 b3 u3 u4 c0 c1 x0 x1 HV1
  have c0 := H4.out.1.cell (i := 0) rfl
  have c1 := H4.out.1.cell (i := 1) rfl
  have x0 := H4.out.2.1.cell (i := 0) rfl
  have x1 := H4.out.2.1.cell (i := 1) rfl
  go_upto_region 7 with (go_at_call 31; (with_reducible refine (HV2.out _ H4.out.2.2.2).mono ?_); rintro e w5 ⟨rfl, u5⟩)
  have H5 := Lib.hid (And.intro (H4.out.1.upd u5 (by simp)) (And.intro (H4.out.2.1.upd u5 (by simp)) (And.intro (H4.out.2.2.1.upd u5 (by simp)) (H4.out.2.2.2.step u5))))
  clear u5 c0 c1 x0 x1 HV2 H4
  go_upto_region 8 with fail
  have HM := mg_new w5 0
  have KM : KI w5 (((w5.alloc (.map #[] 0)).alloc (.map #[] 0)).alloc (.cells #[.slice none 0 0, .slice none 0 0, .map (some w5.heap.size), .map (some (w5.heap.size + 1))] 91)) := (KI.refl w5).ext HM.u
  have H7 := Lib.hid (And.intro HM KM)
  clear HM KM hmm
  have hz5 := H5.out.2.2.1.lt
  generalize hmb : Array.size (World.heap w5) + 1 + 1 = mb at *
  have hmw : w5.heap.size ≤ mb := by omega
  clear hmb
  generalize (((w5.alloc (.map #[] 0)).alloc (.map #[] 0)).alloc (.cells #[.slice none 0 0, .slice none 0 0, .map (some w5.heap.size), .map (some (w5.heap.size + 1))] 91)) = w7 at *
  have c0 := (H7.out.2 _ _ _ (.inr rfl) H5.out.1).cell (i := 0) rfl
  have c1 := (H7.out.2 _ _ _ (.inr rfl) H5.out.1).cell (i := 1) rfl
  have hP5 := HQ.out.1.ext' H5.out.2.2.2
  have hQ5 := HQ.out.2.1.ext' H5.out.2.2.2
  obtain ⟨_, _, he, hLp, hSp⟩ := hP5
  cases he
  obtain ⟨_, _, he, hLq, hSq⟩ := hQ5
  cases he
  have HR := Lib.hid (And.intro hLp (And.intro hSp (And.intro hLq hSq)))
  clear hLp hSp hLq hSq
  have HT1 := Lib.hid (tkL_calls H7.out.1 HR.out.1 HQ.out.2.2.1.lms (by omega) (by simp))
  go_upto_region 9 with (go_at_call 42; (with_reducible refine HT1.out.mono ?_); rintro e w8 ⟨g8, vL8, rfl, hB8, hM8, hg8, hK8⟩)
  have H8 := Lib.hid (And.intro hM8 (And.intro hB8 (And.intro (H7.out.2.trans hK8) hg8)))
  clear HT1 hM8 hB8 hK8 H7 c0 c1
  have x0 := (H8.out.2.2.1 _ _ _ (.inr rfl) H5.out.2.1).cell (i := 0) rfl
  have x1 := (H8.out.2.2.1 _ _ _ (.inr rfl) H5.out.2.1).cell (i := 1) rfl
  have HT2 := Lib.hid (tkL_calls H8.out.1 HR.out.2.2.1 HQ.out.2.2.2.lms (by omega) (by have := mL1_le p; unfold mL1 at this; omega))
  go_upto_region 10 with (go_at_call 42; (with_reducible refine HT2.out.mono ?_); rintro e w9 ⟨g9, vL9, rfl, hB9, hM9, hg9, hK9⟩)
  have H9 := Lib.hid (And.intro hM9 (And.intro hB9 (And.intro (H8.out.2.2.1.trans hK9) (And.intro hg9 (hK9 _ _ _ (.inl rfl) H8.out.2.1)))))
  clear HT2 hM9 hB9 hK9 H8 x0 x1
  have c0 := (H9.out.2.2.1 _ _ _ (.inr rfl) H5.out.1).cell (i := 0) rfl
  have c1 := (H9.out.2.2.1 _ _ _ (.inr rfl) H5.out.1).cell (i := 1) rfl
  have HT3 := Lib.hid (tkS_calls H9.out.1 HR.out.2.1 HQ.out.2.2.1.sts (by omega) (by simp) H9.out.2.2.2.2 (fun j => goTo_i64 (by simp; omega) j))
  go_upto_region 11 with (go_at_call 43; (with_reducible refine HT3.out.mono ?_); rintro e w10 ⟨g10, vS10, rfl, hB10, hM10, hg10, hK10⟩)
  have H10 := Lib.hid (And.intro hM10 (And.intro hB10 (And.intro (H9.out.2.2.1.trans hK10) (And.intro hg10 (hK10 _ _ _ (.inl rfl) H9.out.2.1)))))
  clear HT3 hM10 hB10 hK10 H9 c0 c1
  have x0 := (H10.out.2.2.1 _ _ _ (.inr rfl) H5.out.2.1).cell (i := 0) rfl
  have x1 := (H10.out.2.2.1 _ _ _ (.inr rfl) H5.out.2.1).cell (i := 1) rfl
  have HT4 := Lib.hid (tkS_calls H10.out.1 HR.out.2.2.2 HQ.out.2.2.2.sts (by omega) (by have := mS1_le p; unfold mS1 GS mL1 GL at this; unfold GS GL; omega) H10.out.2.2.2.2 (fun j => goTo_i64 (by have := mL1_le p; unfold mL1 at this; omega) j))
  go_upto_region 14 with (go_at_call 43; (with_reducible refine HT4.out.mono ?_); rintro e w11 ⟨g11, vS11, rfl, hB11, hM11, hg11, hK11⟩)
  have HM := Lib.hid (show Mg w5 mb w5.heap.size (w5.heap.size + 1) g11 (mL2 p q).1 (mL2 p q).1 (mS2 p q).1 (mS2 p q).1 vL9 vS11 w11 from hM11)
  have HN := Lib.hid (And.intro (show Blk w11 g11 (ints (tabI q.steps.length (mS2 p q).2)) 3 from hB11) (And.intro (show Blk w11 g10 (ints (tabI p.steps.length (mS1 p).2)) 3 from hK11 _ _ _ (.inl rfl) H10.out.2.1) (H10.out.2.2.1.trans hK11 _ _ _ (.inr rfl) H5.out.2.2.1)))
  clear HT4 hM11 hB11 hK11 H10 x0 x1 hg8 hg9 hg10 hg11
  obtain ⟨aL, cL, rfl⟩ : ∃ a c, vL9 = .slice a (mL2 p q).1.length c := by
    obtain ⟨_, o1, _⟩ := HM.out.lm
    exact ownsRow_slice o1
  obtain ⟨aS, cS, rfl⟩ : ∃ a c, vS11 = .slice a (mS2 p q).1.length c := by
    obtain ⟨_, o1, _⟩ := HM.out.st
    exact ownsRow_slice o1
  have y0 := HM.out.box.cell (i := 0) rfl
  have y1 := HM.out.box.cell (i := 1) rfl
  have r0 := HN.out.2.2.cell (i := 0) rfl
  have r1 := HN.out.2.2.cell (i := 1) rfl
  have fr0 := HN.out.2.2.free 0
  have fr1 := HN.out.2.2.free 1
  have us : Upd [w.heap.size + 1 + 1] w11 ((w11.setCell ⟨w.heap.size + 1 + 1, 0, none⟩ (.slice aL (mL2 p q).1.length cL)).setCell ⟨w.heap.size + 1 + 1, 1, none⟩ (.slice aS (mS2 p q).1.length cS)) := ((Upd.refl _ w11).set (.inl (by simp)) _).set (.inl (by simp)) _
  have BR : Blk _ (w.heap.size + 1 + 1) [.slice aL (mL2 p q).1.length cL, .slice aS (mS2 p q).1.length cS] 30 := (HN.out.2.2.set 0 (.slice aL (mL2 p q).1.length cL)).set 1 (.slice aS (mS2 p q).1.length cS)
  have hor : Off w11 [w.heap.size + 1 + 1] [3, 88, 56, 82] := off_blk HN.out.2.2 (by decide)
  have hni : ∀ {g : Nat} {cs : List Value}, Blk w11 g cs 3 → g ∉ [w.heap.size + 1 + 1] := fun hB hm => by simp at hm; exact absurd ((blk_kind hB).inj (hm ▸ blk_kind HN.out.2.2)) (by decide)
  have HX := Lib.hid (And.intro BR (And.intro ((HM.out.lm.lml HM.out.u).kd hor (by simp) (by simp) (by simp) (by simp) us) (And.intro (HM.out.st.stl.kd hor (by simp) (by simp) us) (And.intro (HN.out.2.1.upd us (hni HN.out.2.1)) (And.intro (HN.out.1.upd us (hni HN.out.1)) ((H5.out.2.2.2.step HM.out.u).fresh us (fun b hb => .inr (by simp at hb; omega))))))))
  clear us BR hor hni
  have hmr : mrg p q = ⟨(mL2 p q).1, (mS2 p q).1⟩ := rfl
  have HMR := Lib.hid hmr
  clear hmr
  generalize (mL2 p q).1 = Lk at *
  generalize (mS2 p q).1 = Sk at *
  go_wp2_with fail
  exact ret_row_tmp3 rfl rfl HX.out.1 Try.underlying30 (by kernel_rfl) rfl rfl rfl rfl ⟨_, g10, g11, rfl, by rw [HMR.out]; exact ⟨_, _, rfl, HX.out.2.1, HX.out.2.2.1⟩, HX.out.2.2.2.1, HX.out.2.2.2.2.1, HX.out.2.2.2.2.2⟩
set_option maxRecDepth 100000 in
set_option maxHeartbeats 8000000 in
theorem Merge_bad1 {v v2 : Value} {p q : PrfD} (h : PrL w v p) (h2 : PrL w v2 q) (hc : check p ≠ 0) :
    Calls Try.prog 27 #[v, v2] w fun e w' => e = .returned (.tuple #[.agg #[.slice none 0 0, .slice none 0 0], .slice none 0 0, .slice none 0 0, .int .i64 (check p)]) ∧ Upd [] w w' := by
  obtain ⟨al, cl, a2, c2, rfl⟩ := h.form
  obtain ⟨al', cl', a2', c2', rfl⟩ := h2.form
  have HV1 := Lib.hid (fun (w' : World) (u : Upd [] w w') => valid_calls (w := w') (p := p) (h.ext' u))
  have hb : (check p != 0) = true := by simpa using hc
  generalize check p = z at *
  clear h h2 hc
  have b1 := ((Blk.new w [.slice al p.lemmas.length cl, .slice a2 p.steps.length c2] 30).alloc (.cells #[.slice al' q.lemmas.length cl', .slice a2' q.steps.length c2'] 30)).alloc (.cells #[.slice none 0 0, .slice none 0 0] 30)
  have b2 := (Blk.new (w.alloc (.cells #[.slice al p.lemmas.length cl, .slice a2 p.steps.length c2] 30)) [.slice al' q.lemmas.length cl', .slice a2' q.steps.length c2'] 30).alloc (.cells #[.slice none 0 0, .slice none 0 0] 30)
  have b3 := Blk.new ((w.alloc (.cells #[.slice al p.lemmas.length cl, .slice a2 p.steps.length c2] 30)).alloc (.cells #[.slice al' q.lemmas.length cl', .slice a2' q.steps.length c2'] 30)) [.slice none 0 0, .slice none 0 0] 30
  have u3 := (((Upd.refl [] w).alloc (.cells #[.slice al p.lemmas.length cl, .slice a2 p.steps.length c2] 30)).alloc (.cells #[.slice al' q.lemmas.length cl', .slice a2' q.steps.length c2'] 30)).alloc (.cells #[.slice none 0 0, .slice none 0 0] 30)
  rw [show (w.alloc (.cells #[.slice al p.lemmas.length cl, .slice a2 p.steps.length c2] 30)).heap.size = w.heap.size + 1 by simp] at b2
  rw [show ((w.alloc (.cells #[.slice al p.lemmas.length cl, .slice a2 p.steps.length c2] 30)).alloc (.cells #[.slice al' q.lemmas.length cl', .slice a2' q.steps.length c2'] 30)).heap.size = w.heap.size + 1 + 1 by simp] at b3
  have c0 := b1.cell (i := 0) rfl
  have c1 := b1.cell (i := 1) rfl
  have x0 := b2.cell (i := 0) rfl
  have x1 := b2.cell (i := 1) rfl
  go_enter Try.func27, Try.ntmps27
  go_upto_region 2 with (go_at_call 31; (with_reducible refine (HV1.out _ u3).mono ?_); rintro e w4 ⟨rfl, u4⟩)
  have HB := Lib.hid (And.intro (b3.upd u4 (by simp)) (u3.step u4))
  clear b1 b2 b3 u3 u4 c0 c1 x0 x1 HV1
  have B2 := HB.out.1
  have r0 := B2.cell (i := 0) rfl
  have r1 := B2.cell (i := 1) rfl
  have fr0 := B2.free 0
  have fr1 := B2.free 1
  have us : Upd [w.heap.size + 1 + 1] w4 ((w4.setCell ⟨w.heap.size + 1 + 1, 0, none⟩ (.slice none 0 0)).setCell ⟨w.heap.size + 1 + 1, 1, none⟩ (.slice none 0 0)) := ((Upd.refl _ w4).set (.inl (by simp)) _).set (.inl (by simp)) _
  have HX := Lib.hid (And.intro (show Blk _ (w.heap.size + 1 + 1) [.slice none 0 0, .slice none 0 0] 30 from (B2.set 0 (.slice none 0 0)).set 1 (.slice none 0 0)) (HB.out.2.fresh us (fun b hb => .inr (by simp at hb; omega))))
  clear us B2
  go_wp2_with fail
  exact ret_row_tmp3 rfl rfl HX.out.1 Try.underlying30 (by kernel_rfl) rfl rfl rfl rfl ⟨rfl, HX.out.2⟩
set_option maxRecDepth 100000 in
set_option maxHeartbeats 8000000 in
theorem Merge_bad2 {v v2 : Value} {p q : PrfD} (h : PrL w v p) (h2 : PrL w v2 q) (hc1 : check p = 0) (hc : check q ≠ 0) :
    Calls Try.prog 27 #[v, v2] w fun e w' => e = .returned (.tuple #[.agg #[.slice none 0 0, .slice none 0 0], .slice none 0 0, .slice none 0 0, .int .i64 (check q)]) ∧ Upd [] w w' := by
  obtain ⟨al, cl, a2, c2, rfl⟩ := h.form
  obtain ⟨al', cl', a2', c2', rfl⟩ := h2.form
  have HV1 := Lib.hid (fun (w' : World) (u : Upd [] w w') => show Calls Try.prog 31 #[.agg #[.slice al p.lemmas.length cl, .slice a2 p.steps.length c2]] w' fun e w'' => e = .returned (.int .i64 0) ∧ Upd [] w' w'' from by
    have h := valid_calls (w := w') (p := p) (h.ext' u)
    rw [hc1] at h; exact h)
  have HV2 := Lib.hid (fun (w' : World) (u : Upd [] w w') => valid_calls (w := w') (p := q) (h2.ext' u))
  have hb : (check q != 0) = true := by simpa using hc
  generalize check q = z at *
  clear h h2 hc hc1
  have b1 := ((Blk.new w [.slice al p.lemmas.length cl, .slice a2 p.steps.length c2] 30).alloc (.cells #[.slice al' q.lemmas.length cl', .slice a2' q.steps.length c2'] 30)).alloc (.cells #[.slice none 0 0, .slice none 0 0] 30)
  have b2 := (Blk.new (w.alloc (.cells #[.slice al p.lemmas.length cl, .slice a2 p.steps.length c2] 30)) [.slice al' q.lemmas.length cl', .slice a2' q.steps.length c2'] 30).alloc (.cells #[.slice none 0 0, .slice none 0 0] 30)
  have b3 := Blk.new ((w.alloc (.cells #[.slice al p.lemmas.length cl, .slice a2 p.steps.length c2] 30)).alloc (.cells #[.slice al' q.lemmas.length cl', .slice a2' q.steps.length c2'] 30)) [.slice none 0 0, .slice none 0 0] 30
  have u3 := (((Upd.refl [] w).alloc (.cells #[.slice al p.lemmas.length cl, .slice a2 p.steps.length c2] 30)).alloc (.cells #[.slice al' q.lemmas.length cl', .slice a2' q.steps.length c2'] 30)).alloc (.cells #[.slice none 0 0, .slice none 0 0] 30)
  rw [show (w.alloc (.cells #[.slice al p.lemmas.length cl, .slice a2 p.steps.length c2] 30)).heap.size = w.heap.size + 1 by simp] at b2
  rw [show ((w.alloc (.cells #[.slice al p.lemmas.length cl, .slice a2 p.steps.length c2] 30)).alloc (.cells #[.slice al' q.lemmas.length cl', .slice a2' q.steps.length c2'] 30)).heap.size = w.heap.size + 1 + 1 by simp] at b3
  have c0 := b1.cell (i := 0) rfl
  have c1 := b1.cell (i := 1) rfl
  have x0 := b2.cell (i := 0) rfl
  have x1 := b2.cell (i := 1) rfl
  go_enter Try.func27, Try.ntmps27
  go_upto_region 4 with (go_at_call 31; (with_reducible refine (HV1.out _ u3).mono ?_); rintro e w4 ⟨rfl, u4⟩)
  have H4 := Lib.hid (And.intro (b2.upd u4 (by simp)) (And.intro (b3.upd u4 (by simp)) (u3.step u4)))
  clear b1 b2 b3 u3 u4 c0 c1 x0 x1 HV1
  have x0 := H4.out.1.cell (i := 0) rfl
  have x1 := H4.out.1.cell (i := 1) rfl
  go_upto_region 5 with (go_at_call 31; (with_reducible refine (HV2.out _ H4.out.2.2).mono ?_); rintro e w5 ⟨rfl, u5⟩)
  have HB := Lib.hid (And.intro (H4.out.2.1.upd u5 (by simp)) (H4.out.2.2.step u5))
  clear u5 x0 x1 HV2 H4
  have B2 := HB.out.1
  have r0 := B2.cell (i := 0) rfl
  have r1 := B2.cell (i := 1) rfl
  have fr0 := B2.free 0
  have fr1 := B2.free 1
  have us : Upd [w.heap.size + 1 + 1] w5 ((w5.setCell ⟨w.heap.size + 1 + 1, 0, none⟩ (.slice none 0 0)).setCell ⟨w.heap.size + 1 + 1, 1, none⟩ (.slice none 0 0)) := ((Upd.refl _ w5).set (.inl (by simp)) _).set (.inl (by simp)) _
  have HX := Lib.hid (And.intro (show Blk _ (w.heap.size + 1 + 1) [.slice none 0 0, .slice none 0 0] 30 from (B2.set 0 (.slice none 0 0)).set 1 (.slice none 0 0)) (HB.out.2.fresh us (fun b hb => .inr (by simp at hb; omega))))
  clear us B2
  go_wp2_with fail
  exact ret_row_tmp3 rfl rfl HX.out.1 Try.underlying30 (by kernel_rfl) rfl rfl rfl rfl ⟨rfl, HX.out.2⟩
end
end Trim
end Go.Proofs.Ytnmfihgdedifoaa
