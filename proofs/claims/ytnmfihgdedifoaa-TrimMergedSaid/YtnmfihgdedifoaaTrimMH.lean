/- Walks through the reference of package trim: lemma, step. Conditions: none. -/
import Derived.Test.YtnmfihgdedifoaaTrimMP
import Derived.Test.YtnmfihgdedifoaaTrimY
import Derived.Test.YtnmfihgdedifoaaTrimV
set_option linter.unusedVariables false
set_option linter.unusedSimpArgs false
set_option linter.unusedSectionVars false
open Go.RowKit
namespace Go.Proofs.Ytnmfihgdedifoaa
open L R01
namespace Trim
/-- The number of the first one that is the same, or -1. -/
def noR {α : Type} (q : α → α → Bool) (T : List α) (x : α) : Int := match fnd q T x with
  | some i => i
  | none => -1
theorem fnd_hit {α : Type} {q : α → α → Bool} {T : List α} {x y : α} {k : Nat} (h : fnd q (T.take k) x = none) (hy : T[k]? = some y) (hq : q y x = true) : fnd q T x = some k := by
  have hk := (List.getElem?_eq_some_iff.1 hy).1
  have e : T = T.take k ++ y :: T.drop (k + 1) := by
    have h1 := (List.take_append_drop k T).symm
    rw [List.drop_eq_getElem_cons hk] at h1
    rw [(List.getElem?_eq_some_iff.1 hy).2] at h1
    exact h1
  unfold fnd at h ⊢
  rw [e, List.findIdx?_append, h, List.findIdx?_cons, hq]
  simp [List.length_take]
  omega
theorem fnd_miss {α : Type} {q : α → α → Bool} {T : List α} {x y : α} {k : Nat} (h : fnd q (T.take k) x = none) (hy : T[k]? = some y) (hq : q y x = false) : fnd q (T.take (k + 1)) x = none := by
  unfold fnd at h ⊢
  rw [List.take_add_one, hy, List.findIdx?_append, h]
  simp [List.findIdx?_cons, hq]
section
variable {w : World}
set_option maxRecDepth 100000 in
set_option maxHeartbeats 8000000 in
theorem rlem_calls {v : Value} {cs : List Value} {T : List LemD} {d : LemD} (hL : LmL w v T) (hd : LmR w d cs) : Calls Try.prog 44 #[v, .agg cs.toArray] w fun e w' => e = .returned (.int .i64 (noR sameLm T d)) ∧ Upd [] w w' := by
  obtain ⟨a, cap, rfl, qn, rn⟩ := hL.form
  obtain ⟨a1, c1, a2, c2, a3, c3, a4, c4, rfl⟩ := hd.cells
  have HQ := Lib.hid (And.intro hL hd)
  have b1 := Blk.new w [.slice a1 d.graph.length c1, .slice a2 d.hyps.length c2, .slice a3 d.clause.length c3, .slice a4 d.steps.length c4] 82
  have u1 := (Upd.refl [] w).alloc (.cells #[.slice a1 d.graph.length c1, .slice a2 d.hyps.length c2, .slice a3 d.clause.length c3, .slice a4 d.steps.length c4] 82)
  have H1 := Lib.hid (And.intro b1 u1)
  clear b1 u1 hL hd
  go_enter Try.func44, Try.ntmps44
  go_upto_region 1 with fail
  skip
  generalize (w.alloc (.cells #[.slice a1 d.graph.length c1, .slice a2 d.hyps.length c2, .slice a3 d.clause.length c3, .slice a4 d.steps.length c4] 82)) = w1 at *
  go_wp2_with fail
  go_loopw [5] (fun i wr => ∃ k : Nat, i = .int .i64 k ∧ k ≤ T.length ∧ fnd sameLm (T.take k) d = none ∧ Blk wr w.heap.size [.slice a1 d.graph.length c1, .slice a2 d.hyps.length c2, .slice a3 d.clause.length c3, .slice a4 d.steps.length c4] 82 ∧ Upd [] w wr) (fun i _ => T.length - (intOf i).toNat)
  case atStart => exact ⟨0, rfl, Nat.zero_le _, by simp [fnd], H1.out⟩
  case round =>
    obtain ⟨wo, rfl⟩ : ∃ wo : World, wo = wr := ⟨_, rfl⟩
    obtain ⟨k, rfl, hk, hf, hI⟩ := hrel
    have HI := Lib.hid hI
    have HF := Lib.hid hf
    clear H1 hI hf
    by_cases hlt : k < T.length
    · have hki : (k : Int) < T.length := by omega
      have hy := List.getElem?_eq_getElem hlt
      obtain ⟨g, cs, rfl, hR, hcell⟩ := (HQ.out.1.ext (HI.out.2)).at_ k _ hy
      obtain ⟨e1, f1, e2, f2, e3, f3, e4, f4, rfl⟩ := hR.cells
      have HH := Lib.hid (And.intro (fun h => fnd_hit HF.out hy h) (fun h => fnd_miss HF.out hy h))
      generalize T[k] = y at *
      have HR := Lib.hid hR
      have e0 := hcell 0 _ rfl
      rw [Nat.add_zero] at e0
      have z1 := hcell 1 _ rfl
      have z2 := hcell 2 _ rfl
      have z3 := hcell 3 _ rfl
      have x0 := HI.out.1.cell (i := 0) rfl
      have x1 := HI.out.1.cell (i := 1) rfl
      have x2 := HI.out.1.cell (i := 2) rfl
      have x3 := HI.out.1.cell (i := 3) rfl
      have HS := Lib.hid (fun (W : World) (u : Upd [] wo W) => sameLm_calls (LmR.kd (T := []) (es := [3, 88, 56]) HR.out (off_nil _ _) (by simp) (by simp) (by simp) u) (LmR.kd (T := []) (es := [3, 88, 56]) HQ.out.2 (off_nil _ _) (by simp) (by simp) (by simp) (HI.out.2.step u)))
      skip
      clear hcell hR hy
      go_upto_region 4 with fail
      refine wp_region_ord 5 1 [0, 1, 2, 3, 4, 6] [3, 4] [0, 1, 2, 3, 4, 5, 6] (fun w' => ∃ x : Ext wo, w' = x.val) (by kernel_rfl) (by kernel_rfl) (Ext.of ((Upd.refl _ _).drew)) ?_
      repeat (first | (refine wpOrd_load rfl rfl rfl rfl (fun K hK => ?_); go_big_quiet_step (fail); refine wpQuiet_nil ?_; refine hK _ ?_; clear hK K) | (refine wpOrd_free rfl rfl rfl (fun K hK => ?_); go_big_quiet_step (fail); refine wpQuiet_nil ?_; refine hK _ ?_; clear hK K))
      refine wpOrd_fix rfl rfl (fun K hK => ?_)
      go_wp2_with (go_at_call 40; (with_reducible refine (HS.out _ ((Upd.refl _ wo).drew)).mono ?_); rintro e w2 ⟨rfl, u2⟩)
      have U2 : Upd [] wo w2 := ((Upd.refl _ wo).drew).step u2
      have H2 := Lib.hid (And.intro (HI.out.1.upd U2 (by simp)) (HI.out.2.step U2))
      clear u2 U2 z1 z2 z3 x0 x1 x2 x3 e0
      refine ⟨fun hC => absurd hC (by decide), ?_⟩
      repeat (first | (refine wpOrd_load rfl rfl rfl rfl (fun K hK => ?_); go_big_quiet_step (fail); refine wpQuiet_nil ?_; refine hK _ ?_; clear hK K) | (refine wpOrd_free rfl rfl rfl (fun K hK => ?_); go_big_quiet_step (fail); refine wpQuiet_nil ?_; refine hK _ ?_; clear hK K))
      refine wpOrd_nil ?_
      cases hq : sameLm y d with
      | true =>
        have HV := Lib.hid (show noR sameLm T d = (k : Nat) by unfold noR; rw [HH.out.1 hq])
        clear hq
        go_wp2_with fail
        go_ret
        exact ⟨by rw [HV.out]; rfl, H2.out.2⟩
      | false =>
        have HV := Lib.hid (HH.out.2 hq)
        clear hq
        go_wp2_with fail
        exact ⟨⟨k + 1, by go_num, by omega, HV.out, H2.out⟩, by simp [intOf]; omega⟩
    · have hki : ¬ (k : Int) < T.length := by omega
      have HV := Lib.hid (show noR sameLm T d = -1 by
        have := HF.out
        rw [List.take_of_length_le (by omega)] at this
        unfold noR; rw [this])
      clear hlt
      go_wp2_with fail
      go_ret
      exact ⟨by rw [HV.out]; rfl, HI.out.2⟩
set_option maxRecDepth 100000 in
set_option maxHeartbeats 8000000 in
theorem rstp_calls {v vp vl vh : Value} {T : List StepD} {d : StepD} (hL : StL w v T) (hd : StF w d vp vl vh) : Calls Try.prog 46 #[v, .agg (stC d vp vl vh).toArray] w fun e w' => e = .returned (.int .i64 (noR sameSt T d)) ∧ Upd [] w w' := by
  obtain ⟨a, cap, rfl, qn, rn, _⟩ := hL.at_
  obtain ⟨ap, cp, rfl, _⟩ := hd.1.cells
  obtain ⟨al, cl, rfl, _⟩ := hd.2.1.cells
  obtain ⟨ah, ch, rfl, _⟩ := hd.2.2.1.cells
  have HQ := Lib.hid (And.intro hL hd)
  have b1 := Blk.new w (stC d (.slice ap d.params.length cp) (.slice al d.lits.length cl) (.slice ah d.hints.length ch)) 56
  have u1 := (Upd.refl [] w).alloc (.cells (stC d (.slice ap d.params.length cp) (.slice al d.lits.length cl) (.slice ah d.hints.length ch)).toArray 56)
  have H1 := Lib.hid (And.intro b1 u1)
  clear b1 u1 hL hd
  go_enter Try.func46, Try.ntmps46
  go_upto_region 1 with fail
  change Code.wp _ _ _ _ (w.alloc (.cells (stC d (.slice ap d.params.length cp) (.slice al d.lits.length cl) (.slice ah d.hints.length ch)).toArray 56))
  generalize (w.alloc (.cells (stC d (.slice ap d.params.length cp) (.slice al d.lits.length cl) (.slice ah d.hints.length ch)).toArray 56)) = w1 at *
  go_wp2_with fail
  go_loopw [5] (fun i wr => ∃ k : Nat, i = .int .i64 k ∧ k ≤ T.length ∧ fnd sameSt (T.take k) d = none ∧ Blk wr w.heap.size (stC d (.slice ap d.params.length cp) (.slice al d.lits.length cl) (.slice ah d.hints.length ch)) 56 ∧ Upd [] w wr) (fun i _ => T.length - (intOf i).toNat)
  case atStart => exact ⟨0, rfl, Nat.zero_le _, by simp [fnd], H1.out⟩
  case round =>
    obtain ⟨wo, rfl⟩ : ∃ wo : World, wo = wr := ⟨_, rfl⟩
    obtain ⟨k, rfl, hk, hf, hI⟩ := hrel
    have HI := Lib.hid hI
    have HF := Lib.hid hf
    clear H1 hI hf
    by_cases hlt : k < T.length
    · have hki : (k : Int) < T.length := by omega
      have hy := List.getElem?_eq_getElem hlt
      obtain ⟨_, _, he, _, _, hat⟩ := (HQ.out.1.ext (HI.out.2)).at_
      cases he
      obtain ⟨g, ep, el, eh, rfl, hcell, hR⟩ := hat k _ hy
      obtain ⟨ap', cp', rfl, _⟩ := hR.1.cells
      obtain ⟨al', cl', rfl, _⟩ := hR.2.1.cells
      obtain ⟨ah', ch', rfl, _⟩ := hR.2.2.1.cells
      have HH := Lib.hid (And.intro (fun h => fnd_hit HF.out hy h) (fun h => fnd_miss HF.out hy h))
      generalize T[k] = y at *
      have HR := Lib.hid hR
      have e0 := hcell 0 _ rfl
      rw [Nat.add_zero] at e0
      have z1 := hcell 1 _ rfl
      have z2 := hcell 2 _ rfl
      have z3 := hcell 3 _ rfl
      have z4 := hcell 4 _ rfl
      have z5 := hcell 5 _ rfl
      have z6 := hcell 6 _ rfl
      have x0 := HI.out.1.cell (i := 0) rfl
      have x1 := HI.out.1.cell (i := 1) rfl
      have x2 := HI.out.1.cell (i := 2) rfl
      have x3 := HI.out.1.cell (i := 3) rfl
      have x4 := HI.out.1.cell (i := 4) rfl
      have x5 := HI.out.1.cell (i := 5) rfl
      have x6 := HI.out.1.cell (i := 6) rfl
      have HS := Lib.hid (fun (W : World) (u : Upd [] wo W) => sameSt_calls (HR.out.ext u) (HQ.out.2.ext (HI.out.2.step u)))
      dsimp only [stC] at HS
      clear hcell hR hy hat
      go_upto_region 4 with fail
      refine wp_region_ord 5 1 [0, 1, 2, 3, 4, 6] [3, 4] [0, 1, 2, 3, 4, 5, 6] (fun w' => ∃ x : Ext wo, w' = x.val) (by kernel_rfl) (by kernel_rfl) (Ext.of ((Upd.refl _ _).drew)) ?_
      repeat (first | (refine wpOrd_load rfl rfl rfl rfl (fun K hK => ?_); go_big_quiet_step (fail); refine wpQuiet_nil ?_; refine hK _ ?_; clear hK K) | (refine wpOrd_free rfl rfl rfl (fun K hK => ?_); go_big_quiet_step (fail); refine wpQuiet_nil ?_; refine hK _ ?_; clear hK K))
      refine wpOrd_fix rfl rfl (fun K hK => ?_)
      go_wp2_with (go_at_call 29; (with_reducible refine (HS.out _ ((Upd.refl _ wo).drew)).mono ?_); rintro e w2 ⟨rfl, u2⟩)
      have U2 : Upd [] wo w2 := ((Upd.refl _ wo).drew).step u2
      have H2 := Lib.hid (And.intro (HI.out.1.upd U2 (by simp)) (HI.out.2.step U2))
      clear u2 U2 z1 z2 z3 z4 z5 z6 x0 x1 x2 x3 x4 x5 x6 e0
      refine ⟨fun hC => absurd hC (by decide), ?_⟩
      repeat (first | (refine wpOrd_load rfl rfl rfl rfl (fun K hK => ?_); go_big_quiet_step (fail); refine wpQuiet_nil ?_; refine hK _ ?_; clear hK K) | (refine wpOrd_free rfl rfl rfl (fun K hK => ?_); go_big_quiet_step (fail); refine wpQuiet_nil ?_; refine hK _ ?_; clear hK K))
      refine wpOrd_nil ?_
      cases hq : sameSt y d with
      | true =>
        have HV := Lib.hid (show noR sameSt T d = (k : Nat) by unfold noR; rw [HH.out.1 hq])
        clear hq
        go_wp2_with fail
        go_ret
        exact ⟨by rw [HV.out]; rfl, H2.out.2⟩
      | false =>
        have HV := Lib.hid (HH.out.2 hq)
        clear hq
        go_wp2_with fail
        exact ⟨⟨k + 1, by go_num, by omega, HV.out, H2.out⟩, by simp [intOf]; omega⟩
    · have hki : ¬ (k : Int) < T.length := by omega
      have HV := Lib.hid (show noR sameSt T d = -1 by
        have := HF.out
        rw [List.take_of_length_le (by omega)] at this
        unfold noR; rw [this])
      clear hlt
      go_wp2_with fail
      go_ret
      exact ⟨by rw [HV.out]; rfl, HI.out.2⟩
end
end Trim
end Go.Proofs.Ytnmfihgdedifoaa
