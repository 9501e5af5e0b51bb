/- Walks through the laws of package trim: TrimMerged. Conditions: none. -/
import Derived.Test.YtnmfihgdedifoaaTrimQv
import Derived.Test.YtnmfihgdedifoaaTrimZ
set_option linter.unusedVariables false
set_option linter.unusedSimpArgs false
set_option linter.unusedSectionVars false
open Go.RowKit
namespace Go.Proofs.Ytnmfihgdedifoaa
open L R01
namespace Trim
theorem sameI_same {w : World} {v v2 : Value} {l m : List Int} (h1 : RowI w v l) (h2 : RowI w v2 m) (e : l = m) : Calls Try.prog 24 #[v, v2] w fun e w' => e = .returned (.bool true) ∧ Upd [] w w' := by
  have h := SameInts_calls h1.sl h2.sl
  rw [decide_eq_true e] at h
  exact h
theorem sameN_same {w : World} {v v2 : Value} {l : List ByteArray} (h1 : NmL w v l) (h2 : NmL w v2 l) : Calls Try.prog 14 #[v, v2] w fun e w' => e = .returned (.bool true) ∧ Upd [] w w' := by
  have h := sameN_calls h1 h2
  rw [sameN_iff.2 rfl] at h
  exact h
theorem sameSt_no {w : World} {a b : StepD} {p1 l1 h1 p2 l2 h2 : Value} (ha : StF w a p1 l1 h1) (hb : StF w b p2 l2 h2) (hn : a ≠ b) :
    Calls Try.prog 29 #[.agg (stC a p1 l1 h1).toArray, .agg (stC b p2 l2 h2).toArray] w fun e w' => e = .returned (.bool false) ∧ Upd [] w w' := by
  have h := sameSt_calls ha hb
  have e : sameSt a b = false := by
    cases hq : sameSt a b with
    | false => rfl
    | true => exact (hn (sameSt_iff.1 hq)).elim
  rw [e] at h
  exact h
/-- A proof in a box. -/
structure Bx (W : World) (s : Nat) (a : Option Addr) (c : Nat) (b : Option Addr) (d : Nat) (p : PrfD) : Prop where
  pr : PrL W (.agg #[.slice a p.lemmas.length c, .slice b p.steps.length d]) p
  bk : Blk W s [.slice a p.lemmas.length c, .slice b p.steps.length d] 30
theorem Bx.ext {W W' : World} {s : Nat} {a : Option Addr} {c : Nat} {b : Option Addr} {d : Nat} {p : PrfD} (h : Bx W s a c b d p) (u : Upd [] W W') : Bx W' s a c b d p := ⟨h.pr.ext' u, h.bk.upd u (by simp)⟩
theorem Bx.mk' {W : World} {a : Option Addr} {c : Nat} {b : Option Addr} {d : Nat} {p : PrfD} (h : PrL W (.agg #[.slice a p.lemmas.length c, .slice b p.steps.length d]) p) : Bx (W.alloc (.cells #[.slice a p.lemmas.length c, .slice b p.steps.length d] 30)) W.heap.size a c b d p :=
  ⟨h.ext' ((Upd.refl [] W).alloc _), Blk.new W [.slice a p.lemmas.length c, .slice b p.steps.length d] 30⟩
def RR (w : World) (g1 g2 : Nat) (a b : List Int) : Prop := Blk w g1 (ints a) 3 ∧ Blk w g2 (ints b) 3
theorem RR.ext {w w' : World} {g1 g2 : Nat} {a b : List Int} (h : RR w g1 g2 a b) (u : Upd [] w w') : RR w' g1 g2 a b := ⟨h.1.upd u (by simp), h.2.upd u (by simp)⟩
theorem MadeP.mfm {w : World} {v : Value} {p : PrfD} (h : MadeP p 10) (hp : PrL w v p) : MFm p := by
  refine MFm.of hp h.wf (by have := h.len; omega) h.few h.form (fun k s hk => ?_)
  have := h.good k s hk
  have h1 := this.params
  have h2 := this.lits
  have h3 := this.hints
  omega
section
variable {w : World}
set_option maxRecDepth 100000 in
set_option maxHeartbeats 16000000 in
theorem TrimMerged_calls {v vm : Value} {l ml : List Int} (h : SL w 1 v l.length (ints l)) (hx : ∀ x ∈ l, IsI64 x) (hm : SL w 1 vm ml.length (ints ml)) (hmx : ∀ x ∈ ml, IsI64 x) :
    Calls Try.prog 8 #[v, vm] w fun e w' => e = .returned (.bool true) ∧ Upd [] w w' := by
  obtain ⟨a, cap, rfl, _⟩ := SL.form h
  obtain ⟨am, capm, rfl, _⟩ := SL.form hm
  have HS := Lib.hid (SomeP_calls (most := 10) hx h (by omega) (by omega))
  have HS2 := Lib.hid (fun (W : World) (u : Upd [] w W) => SomeP_calls (most := 10) hmx (hm.upd u (by simp)) (by omega) (by omega))
  clear hx h hm hmx
  go_enter Try.func8, Try.ntmps8
  go_upto_region 2 with (go_at_call 25; (with_reducible refine HS.out.mono ?_); rintro e w1 ⟨v1, p, rfl, hp1, hm1, u1⟩; obtain ⟨a1, c1, b1, d1, rfl⟩ := hp1.form)
  have fp := hm1.mfm hp1
  have hpn : p.steps.length ≤ 10 := by have := hm1.len; omega
  have H1 := Lib.hid (And.intro (Bx.mk' hp1) (u1.step ((Upd.refl [] w1).alloc (.cells #[.slice a1 p.lemmas.length c1, .slice b1 p.steps.length d1] 30))))
  clear hp1 u1 HS hm1
  generalize hs1 : w1.heap.size = s1 at *
  generalize (w1.alloc (.cells #[.slice a1 p.lemmas.length c1, .slice b1 p.steps.length d1] 30)) = w2 at *
  clear hs1
  go_upto_region 3 with (go_at_call 25; (with_reducible refine (HS2.out _ H1.out.2).mono ?_); rintro e w3 ⟨v3, q, rfl, hp3, hm3, u3⟩; obtain ⟨a2, c2, b2, d2, rfl⟩ := hp3.form)
  have fq := hm3.mfm hp3
  have hqn : q.steps.length ≤ 10 := by have := hm3.len; omega
  have ua := (Upd.refl [] w3).alloc (.cells #[.slice a2 q.lemmas.length c2, .slice b2 q.steps.length d2] 30)
  have H3 := Lib.hid (And.intro (H1.out.1.ext (u3.step ua)) (And.intro (Bx.mk' hp3) (H1.out.2.step (u3.step ua))))
  clear hp3 u3 ua HS2 hm3 H1
  generalize hs2 : w3.heap.size = s2 at *
  generalize (w3.alloc (.cells #[.slice a2 q.lemmas.length c2, .slice b2 q.steps.length d2] 30)) = w4 at *
  clear hs2
  have HF := Lib.hid (And.intro fp fq)
  clear fp fq
  have p0 := H3.out.1.bk.cell (i := 0) rfl
  have p1 := H3.out.1.bk.cell (i := 1) rfl
  have q0 := H3.out.2.1.bk.cell (i := 0) rfl
  have q1 := H3.out.2.1.bk.cell (i := 1) rfl
  have HMA := Lib.hid (Merge_good H3.out.1.pr H3.out.2.1.pr HF.out.1.ok HF.out.2.ok)
  have HMB := Lib.hid (fun (W : World) (u : Upd [] w4 W) => Merge_good (H3.out.2.1.pr.ext' u) (H3.out.1.pr.ext' u) HF.out.2.ok HF.out.1.ok)
  have HMC := Lib.hid (fun (W : World) (u : Upd [] w4 W) => Merge_good (H3.out.1.pr.ext' u) (H3.out.1.pr.ext' u) HF.out.1.ok HF.out.1.ok)
  have HMD := Lib.hid (fun (W : World) (u : Upd [] w4 W) => show Calls Try.prog 27 #[.agg #[.slice a1 p.lemmas.length c1, .slice b1 p.steps.length d1], .agg #[.slice none 0 0, .slice none 0 0]] W fun e w' => ∃ (v' : Value) (g1 g2 : Nat), e = .returned (.tuple #[v', .slice (some ⟨g1, 0, none⟩) p.steps.length p.steps.length, .slice (some ⟨g2, 0, none⟩) 0 0, .int .i64 0]) ∧ PrL w' v' (mrg p p) ∧ Upd [] W w' from by
    rw [mrg_self HF.out.1]
    refine (Merge_good (H3.out.1.pr.ext' u) (prL_nil W) HF.out.1.ok ⟨⟨by simp, fun i s h => by simp at h, fun i s h => by simp at h, fun i s h => by simp at h⟩, by simp, by simp, fun k s h => by simp at h, by simp⟩).mono ?_
    rintro e w' ⟨v', g1, g2, rfl, h1, _, _, h2⟩
    exact ⟨v', g1, g2, rfl, h1, h2⟩)
  have HSW := Lib.hid (mrg_swap HF.out.1 HF.out.2)
  have HMG := Lib.hid (mgd HF.out.1 HF.out.2)
  have hrl := (mS2_le p q)
  have hrl2 : (mrg p q).steps.length ≤ 20 := by show (mS2 p q).1.length ≤ 20; omega
  clear hrl
  have HWR := Lib.hid (HMG.out.wf (fun j => by cases j with | zero => exact HF.out.1.wf | succ j => exact HF.out.2.wf) (by omega))
  have htX : tabI p.steps.length (mS1 p).2 = tabI p.steps.length (XX p q 0) := rfl
  have htY : tabI q.steps.length (mS2 p q).2 = tabI q.steps.length (XX p q 1) := rfl
  rw [htX, htY] at HMA
  clear htX htY
  generalize XX p q = X at *
  generalize YY p q = Y at *
  generalize mrg p q = r at *
  generalize mrg q p = r2 at *
  generalize mrg p p = rs at *
  go_upto_region 4 with (go_at_call 27; (with_reducible refine HMA.out.mono ?_); rintro e w5 ⟨v5, g1, g2, rfl, hP5, hB5, hC5, u5⟩; obtain ⟨a5, c5, b5, d5, rfl⟩ := hP5.form)
  have ua := (Upd.refl [] w5).alloc (.cells #[.slice a5 r.lemmas.length c5, .slice b5 r.steps.length d5] 30)
  have hR5 : RR w5 g1 g2 (tabI p.steps.length (X 0)) (tabI q.steps.length (X 1)) := ⟨hB5, hC5⟩
  have H5 := Lib.hid (And.intro (Bx.mk' hP5) (And.intro (hR5.ext ua) (u5.step ua)))
  clear hP5 hB5 hC5 hR5 u5 ua HMA p0 p1 q0 q1
  generalize hs5 : w5.heap.size = s5 at *
  generalize (w5.alloc (.cells #[.slice a5 r.lemmas.length c5, .slice b5 r.steps.length d5] 30)) = w6 at *
  clear hs5
  have p0 := (H3.out.1.ext H5.out.2.2).bk.cell (i := 0) rfl
  have p1 := (H3.out.1.ext H5.out.2.2).bk.cell (i := 1) rfl
  have q0 := (H3.out.2.1.ext H5.out.2.2).bk.cell (i := 0) rfl
  have q1 := (H3.out.2.1.ext H5.out.2.2).bk.cell (i := 1) rfl
  go_upto_region 5 with (go_at_call 27; (with_reducible refine (HMB.out _ H5.out.2.2).mono ?_); rintro e w7 ⟨v7, g3, g4, rfl, hP7, _, _, u7⟩; obtain ⟨a7, c7, b7, d7, rfl⟩ := hP7.form)
  have ua := (Upd.refl [] w7).alloc (.cells #[.slice a7 r2.lemmas.length c7, .slice b7 r2.steps.length d7] 30)
  have H7 := Lib.hid (And.intro (Bx.mk' hP7) (And.intro (H5.out.1.ext (u7.step ua)) (And.intro (H5.out.2.1.ext (u7.step ua)) (H5.out.2.2.step (u7.step ua)))))
  clear hP7 u7 ua HMB p0 p1 q0 q1 H5
  generalize hs7 : w7.heap.size = s7 at *
  generalize (w7.alloc (.cells #[.slice a7 r2.lemmas.length c7, .slice b7 r2.steps.length d7] 30)) = w8 at *
  clear hs7
  have p0 := (H3.out.1.ext H7.out.2.2.2).bk.cell (i := 0) rfl
  have p1 := (H3.out.1.ext H7.out.2.2.2).bk.cell (i := 1) rfl
  go_upto_region 6 with (go_at_call 27; (with_reducible refine (HMC.out _ H7.out.2.2.2).mono ?_); rintro e w9 ⟨v9, g5, g6, rfl, hP9, _, _, u9⟩; obtain ⟨a9, c9, b9, d9, rfl⟩ := hP9.form)
  have ua := (Upd.refl [] w9).alloc (.cells #[.slice a9 rs.lemmas.length c9, .slice b9 rs.steps.length d9] 30)
  have H9 := Lib.hid (And.intro (H7.out.1.ext (u9.step ua)) (And.intro (H7.out.2.1.ext (u9.step ua)) (And.intro (H7.out.2.2.1.ext (u9.step ua)) (And.intro (Bx.mk' hP9) (H7.out.2.2.2.step (u9.step ua))))))
  clear hP9 u9 ua HMC p0 p1 H7
  generalize hs9 : w9.heap.size = s9 at *
  generalize (w9.alloc (.cells #[.slice a9 rs.lemmas.length c9, .slice b9 rs.steps.length d9] 30)) = w10 at *
  clear hs9
  have p0 := (H3.out.1.ext H9.out.2.2.2.2).bk.cell (i := 0) rfl
  have p1 := (H3.out.1.ext H9.out.2.2.2.2).bk.cell (i := 1) rfl
  go_upto_region 7 with (go_at_call 27; (with_reducible refine (HMD.out _ H9.out.2.2.2.2).mono ?_); rintro e w11 ⟨v11, g7, g8, rfl, hP11, u11⟩; obtain ⟨a11, c11, b11, d11, rfl⟩ := hP11.form)
  have ua := (Upd.refl [] w11).alloc (.cells #[.slice a11 rs.lemmas.length c11, .slice b11 rs.steps.length d11] 30)
  have H11 := Lib.hid (And.intro (H9.out.1.ext (u11.step ua)) (And.intro (H9.out.2.1.ext (u11.step ua)) (And.intro (H9.out.2.2.1.ext (u11.step ua)) (And.intro (H9.out.2.2.2.1.ext (u11.step ua)) (And.intro (Bx.mk' hP11) (H9.out.2.2.2.2.step (u11.step ua)))))))
  clear hP11 u11 ua HMD p0 p1 H9
  generalize hs11 : w11.heap.size = s11 at *
  generalize (w11.alloc (.cells #[.slice a11 rs.lemmas.length c11, .slice b11 rs.steps.length d11] 30)) = w12 at *
  clear hs11
  have p0 := (H3.out.1.ext H11.out.2.2.2.2.2).bk.cell (i := 0) rfl
  have p1 := (H3.out.1.ext H11.out.2.2.2.2.2).bk.cell (i := 1) rfl
  have q0 := (H3.out.2.1.ext H11.out.2.2.2.2.2).bk.cell (i := 0) rfl
  have q1 := (H3.out.2.1.ext H11.out.2.2.2.2.2).bk.cell (i := 1) rfl
  have r0 := H11.out.2.1.bk.cell (i := 0) rfl
  have r1 := H11.out.2.1.bk.cell (i := 1) rfl
  have t0 := H11.out.1.bk.cell (i := 0) rfl
  have t1 := H11.out.1.bk.cell (i := 1) rfl
  rw [← HSW.out.2] at t0
  rw [← HSW.out.1] at t1
  have y0 := H11.out.2.2.2.1.bk.cell (i := 0) rfl
  have y1 := H11.out.2.2.2.1.bk.cell (i := 1) rfl
  have z0 := H11.out.2.2.2.2.1.bk.cell (i := 0) rfl
  have z1 := H11.out.2.2.2.2.1.bk.cell (i := 1) rfl
  have HSM := Lib.hid (by
    have h := same_calls H11.out.2.2.2.1.pr H11.out.2.2.2.2.1.pr
    rw [samePr_true rfl] at h
    exact h)
  go_upto_region 9 with (go_at_call 22; (with_reducible refine HSM.out.mono ?_); rintro e w13 ⟨rfl, u13⟩; have p1' := u13.some p1 (by simp); have q1' := u13.some q1 (by simp))
  have U13 := H11.out.2.2.2.2.2.step u13
  have H13 := Lib.hid (And.intro (H3.out.1.ext U13) (And.intro (H3.out.2.1.ext U13) (And.intro (H11.out.2.1.ext u13) (And.intro (H11.out.2.2.1.ext u13) (H3.out.2.2.step U13)))))
  clear p0 p1 q0 q1 p1' q1' r0 r1 t0 t1 y0 y1 z0 z1 U13 u13 HSM H3 H11
  have p0 := H13.out.1.bk.cell (i := 0) rfl
  have p1 := H13.out.1.bk.cell (i := 1) rfl
  have q0 := H13.out.2.1.bk.cell (i := 0) rfl
  have q1 := H13.out.2.1.bk.cell (i := 1) rfl
  go_upto_region 11 with fail
  have BP := (Blk.new w13 [.slice a1 p.lemmas.length c1, .slice b1 p.steps.length d1, .slice a2 q.lemmas.length c2, .slice b2 q.steps.length d2] 30).alloc (.cells #[.slice (some ⟨g1, 0, none⟩) p.steps.length p.steps.length, .slice (some ⟨g2, 0, none⟩) q.steps.length q.steps.length] 22)
  have BN := Blk.new (w13.alloc (.cells #[.slice a1 p.lemmas.length c1, .slice b1 p.steps.length d1, .slice a2 q.lemmas.length c2, .slice b2 q.steps.length d2] 30)) [.slice (some ⟨g1, 0, none⟩) p.steps.length p.steps.length, .slice (some ⟨g2, 0, none⟩) q.steps.length q.steps.length] 22
  rw [show (w13.alloc (.cells #[.slice a1 p.lemmas.length c1, .slice b1 p.steps.length d1, .slice a2 q.lemmas.length c2, .slice b2 q.steps.length d2] 30)).heap.size = w13.heap.size + 1 by simp] at BN
  have uB := ((Upd.refl [] w13).alloc (.cells #[.slice a1 p.lemmas.length c1, .slice b1 p.steps.length d1, .slice a2 q.lemmas.length c2, .slice b2 q.steps.length d2] 30)).alloc (.cells #[.slice (some ⟨g1, 0, none⟩) p.steps.length p.steps.length, .slice (some ⟨g2, 0, none⟩) q.steps.length q.steps.length] 22)
  have H14 := Lib.hid (And.intro (H13.out.1.ext uB) (And.intro (H13.out.2.1.ext uB) (And.intro (H13.out.2.2.1.ext uB) (And.intro (H13.out.2.2.2.1.ext uB) (And.intro (H13.out.2.2.2.2.step uB) (And.intro BP BN))))))
  clear BP BN uB p0 p1 q0 q1 H13
  generalize hgn : Array.size (World.heap w13) + 1 = gn at *
  generalize hgp : Array.size (World.heap w13) = gp at *
  clear hgn hgp
  generalize ((w13.alloc (.cells #[.slice a1 p.lemmas.length c1, .slice b1 p.steps.length d1, .slice a2 q.lemmas.length c2, .slice b2 q.steps.length d2] 30)).alloc (.cells #[.slice (some ⟨g1, 0, none⟩) p.steps.length p.steps.length, .slice (some ⟨g2, 0, none⟩) q.steps.length q.steps.length] 22)) = w14 at *
  go_wp2_with fail
  go_loopw [25] (fun i wr => ∃ k : Nat, i = .int .i64 k ∧ k ≤ 2 ∧ Upd [] w14 wr) (fun i _ => 2 - (intOf i).toNat)
  case atStart => exact ⟨0, rfl, by omega, Upd.refl _ _⟩
  case round =>
    obtain ⟨wk, rfl⟩ : ∃ wk : World, wk = wr := ⟨_, rfl⟩
    obtain ⟨k, rfl, hk, hU⟩ := hrel
    have HUk := Lib.hid hU
    clear hU
    by_cases hlk : k < 2
    · have hkk : (k : Int) < 2 := by omega
      have hcl : ∃ aL cL aS cS gk, [Value.slice a1 p.lemmas.length c1, .slice b1 p.steps.length d1, .slice a2 q.lemmas.length c2, .slice b2 q.steps.length d2][k * 2]? = some (.slice aL (two p q k).lemmas.length cL) ∧ [Value.slice a1 p.lemmas.length c1, .slice b1 p.steps.length d1, .slice a2 q.lemmas.length c2, .slice b2 q.steps.length d2][k * 2 + 1]? = some (.slice aS (two p q k).steps.length cS) ∧ [Value.slice (some ⟨g1, 0, none⟩) p.steps.length p.steps.length, .slice (some ⟨g2, 0, none⟩) q.steps.length q.steps.length][k]? = some (.slice (some ⟨gk, 0, none⟩) (two p q k).steps.length (two p q k).steps.length) ∧ PrL w14 (.agg #[.slice aL (two p q k).lemmas.length cL, .slice aS (two p q k).steps.length cS]) (two p q k) ∧ Blk w14 gk (ints (tabI (two p q k).steps.length (X k))) 3 ∧ Wf (two p q k) ∧ (two p q k).steps.length ≤ 10 := by
        match k, hlk with
        | 0, _ => exact ⟨a1, c1, b1, d1, g1, rfl, rfl, rfl, H14.out.1.pr, H14.out.2.2.2.1.1, HF.out.1.wf, hpn⟩
        | 1, _ => exact ⟨a2, c2, b2, d2, g2, rfl, rfl, rfl, H14.out.2.1.pr, H14.out.2.2.2.1.2, HF.out.2.wf, hqn⟩
      obtain ⟨aL, cL, aS, cS, gk, k1, k2, k3, hPk, hBk, hWk, hlP⟩ := hcl
      have hws : ∀ j, Wf (two p q j) := fun j => by
        cases j with
        | zero => exact HF.out.1.wf
        | succ j => exact HF.out.2.wf
      have HC := Lib.hid (And.intro (H14.out.2.2.2.2.2.1.cell k1) (And.intro (H14.out.2.2.2.2.2.1.cell k2) (And.intro (H14.out.2.2.2.2.2.2.cell k3) (And.intro hPk (And.intro hBk hWk)))))
      have HX := Lib.hid (And.intro (fun (i : Nat) (s : StepD) (hs : (two p q k).steps[i]? = some s) => HMG.out.at_ k i s hlk hs) (fun (i : Nat) (hi : i < (two p q k).steps.length) (x : ByteArray) => HMG.out.name hws hlk hi x))
      clear k1 k2 k3 hPk hBk hWk hws
      generalize two p q k = P at *
      generalize X k = Xk at *
      generalize Y k = Yk at *
      go_wp2_with fail
      go_loopw [26] (fun i wr => ∃ k : Nat, i = .int .i64 k ∧ k ≤ P.steps.length ∧ Upd [] w14 wr) (fun i _ => P.steps.length - (intOf i).toNat)
      case atStart => exact ⟨0, rfl, by omega, HUk.out⟩
      case round =>
        obtain ⟨wo, rfl⟩ : ∃ wo : World, wo = wr := ⟨_, rfl⟩
        obtain ⟨i, rfl, hi, hU⟩ := hrel
        have HU := Lib.hid hU
        clear hU
        have n0 := HU.out.some HC.out.2.2.1 (by simp)
        by_cases hli : i < P.steps.length
        · have hii : (i : Int) < P.steps.length := by omega
          have k1 := HU.out.some HC.out.1 (by simp)
          have k2 := HU.out.some HC.out.2.1 (by simp)
          have HPP := Lib.hid (Prem_good (HC.out.2.2.2.1.ext' HU.out) (wf_check.2 HC.out.2.2.2.2.2) hli)
          go_upto_region 18 with (go_at_call 13; (with_reducible refine HPP.out.mono ?_); rintro e w20 ⟨v20, R, rfl, hN, hPR, u20⟩; obtain ⟨aR, cR, rfl, _⟩ := hN.cells)
          have H20 := Lib.hid (And.intro hN (And.intro hPR (HU.out.step u20)))
          clear hN hPR u20 HPP n0 k1 k2
          have hs' := List.getElem?_eq_getElem hli
          have hat := HX.out.1 i _ hs'
          have hnm := HX.out.2 i hli
          have hgx := tabI_get (f := Xk) hli
          obtain ⟨t, ht⟩ := Int.eq_ofNat_of_zero_le hat.1
          rw [ht] at hat hgx
          rw [ht] at hnm
          rw [Int.toNat_natCast] at hat hnm
          have dn := (HC.out.2.2.2.2.1.upd H20.out.2.2 (by simp)).cell (i := i) (ints_get hgx)
          have n0 := H20.out.2.2.some HC.out.2.2.1 (by simp)
          have r0 := (H14.out.2.2.1.ext H20.out.2.2).bk.cell (i := 0) rfl
          have r1 := (H14.out.2.2.1.ext H20.out.2.2).bk.cell (i := 1) rfl
          have htl : t < r.steps.length := (List.getElem?_eq_some_iff.1 hat.2).1
          have HPQ := Lib.hid (fun (W : World) (x : Upd [] w20 W) => Prem_good ((H14.out.2.2.1.ext (H20.out.2.2.step x)).pr) (wf_check.2 HWR.out) htl)
          have HA := Lib.hid (And.intro hs' (And.intro hat.2 (fun (R' : List ByteArray) (h' : PremOf r.steps (rests r.steps t) R') => prem_same HC.out.2.2.2.2.2.ok HWR.out.ok H20.out.2.1 h' hnm)))
          clear hs' hat hnm hgx ht
          refine wp_region_ord 8 3 [0, 1, 2, 3, 4, 5, 6, 7, 9, 10, 11, 12, 13] [0, 4, 7] [0, 1, 2, 3, 4, 5, 6, 7, 8, 9, 10, 11, 12, 13] (fun w' => ∃ x : Ext w20, w' = x.val) (by kernel_rfl) (by kernel_rfl) (Ext.of ((Upd.refl _ _).drew)) ?_
          repeat (first | (refine wpOrd_load rfl rfl rfl rfl (fun K hK => ?_); go_big_quiet_step (fail); refine wpQuiet_nil ?_; refine hK _ ?_; clear hK K) | (refine wpOrd_free rfl rfl rfl (fun K hK => ?_); go_big_quiet_step (fail); refine wpQuiet_nil ?_; refine hK _ ?_; clear hK K))
          refine wpOrd_fix rfl rfl (fun K hK => ?_)
          go_wp2_with (go_at_call 13; (with_reducible refine (HPQ.out _ ((Upd.refl _ w20).drew)).mono ?_); rintro e w21 ⟨v21, R2, rfl, hN2, hP2, u21⟩; obtain ⟨aR2, cR2, rfl, _⟩ := hN2.cells)
          have hRR := HA.out.2.2 R2 hP2
          subst hRR
          have U21 : Upd [] w20 w21 := ((Upd.refl _ w20).drew).step u21
          have H21 := Lib.hid (And.intro (H20.out.1.ext U21) (And.intro hN2 (And.intro (H20.out.2.2.step U21) (U21.some dn (by simp)))))
          refine ⟨fun hC => absurd hC (by decide), ?_⟩
          repeat (first | (refine wpOrd_load rfl rfl rfl rfl (fun K hK => ?_); go_big_quiet_step (fail); refine wpQuiet_nil ?_; refine hK _ ?_; clear hK K) | (refine wpOrd_free rfl rfl rfl (fun K hK => ?_); go_big_quiet_step (fail); refine wpQuiet_nil ?_; refine hK _ ?_; clear hK K))
          refine wpOrd_nil ?_
          clear hN2 hP2 u21 U21 r0 r1 dn n0 HPQ
          have n0 := H21.out.2.2.1.some HC.out.2.2.1 (by simp)
          have k2 := H21.out.2.2.1.some HC.out.2.1 (by simp)
          have r1 := (H14.out.2.2.1.ext H21.out.2.2.1).bk.cell (i := 1) rfl
          have dn := H21.out.2.2.2
          obtain ⟨_, _, ep, _, hSp⟩ := HC.out.2.2.2.1.ext' H21.out.2.2.1
          obtain ⟨_, _, eq, _, hSq⟩ := (H14.out.2.2.1.ext H21.out.2.2.1).pr
          cases ep
          cases eq
          obtain ⟨_, _, ep, _, _, hatp⟩ := hSp.at_
          obtain ⟨_, _, eq, _, _, hatq⟩ := hSq.at_
          cases ep
          cases eq
          obtain ⟨gp', vp1, vp2, vp3, rfl, hcp, hFp⟩ := hatp _ _ HA.out.1
          obtain ⟨gq', vq1, vq2, vq3, rfl, hcq, hFq⟩ := hatq _ _ HA.out.2.1
          have hlits : (renS Xk Yk (P.steps[i]'hli)).lits = (P.steps[i]'hli).lits := rfl
          generalize renS Xk Yk (P.steps[i]'hli) = sq at *
          generalize P.steps[i]'hli = sp at *
          have lp := hcp 5 _ rfl
          have lq := hcq 5 _ rfl
          have hLP := hFp.2.1
          have hLQ := hFq.2.1
          obtain ⟨ap, cp, rfl, _⟩ := hLP.cells
          obtain ⟨aq, cq, rfl, _⟩ := hLQ.cells
          have HLL := Lib.hid (And.intro hLP (And.intro hLQ hlits))
          clear hLP hLQ hlits hFp hFq hcp hcq hatp hatq hSp hSq
          go_upto_region 19 with fail
          refine wp_region_ord 37 1 [0, 1, 2, 3, 4, 5, 6, 7, 8, 10, 11, 12, 13, 14, 15, 16, 17, 18, 19, 20, 21, 22, 23, 24, 25, 26, 27, 28, 29, 30, 31, 32, 33, 35, 36] [17, 21, 23, 27, 30, 33] [0, 1, 2, 3, 4, 5, 6, 7, 8, 9, 10, 11, 12, 13, 14, 15, 16, 17, 18, 19, 20, 21, 22, 23, 24, 25, 26, 27, 28, 29, 30, 31, 32, 33, 34, 35, 36] (fun w' => ∃ x : Ext w21, w' = x.val) (by kernel_rfl) (by kernel_rfl) (Ext.of ((Upd.refl _ _).drew)) ?_
          repeat (first | (refine wpOrd_load rfl rfl rfl rfl (fun K hK => ?_); go_big_quiet_step (fail); refine wpQuiet_nil ?_; refine hK _ ?_; clear hK K) | (refine wpOrd_free rfl rfl rfl (fun K hK => ?_); go_big_quiet_step (fail); refine wpQuiet_nil ?_; refine hK _ ?_; clear hK K))
          refine wpOrd_fix rfl rfl (fun K hK => ?_)
          have ud : Upd [] w21 w21.drew := (Upd.refl _ w21).drew
          have HSN := Lib.hid (sameN_same (H21.out.1.ext ud) (H21.out.2.1.ext ud))
          clear ud
          go_wp2_with (go_at_call 14; (with_reducible refine HSN.out.mono ?_); rintro e w22 ⟨rfl, u22⟩)
          have U22 : Upd [] w21 w22 := ((Upd.refl _ w21).drew).step u22
          refine ⟨fun _ => Ext.of U22, ?_⟩
          have H22 := Lib.hid U22
          clear u22 U22 HSN
          repeat (first | (refine wpOrd_load rfl rfl rfl rfl (fun K hK => ?_); go_big_quiet_step (fail); refine wpQuiet_nil ?_; refine hK _ ?_; clear hK K) | (refine wpOrd_free rfl rfl rfl (fun K hK => ?_); go_big_quiet_step (fail); refine wpQuiet_nil ?_; refine hK _ ?_; clear hK K))
          refine wpOrd_fix rfl rfl (fun K hK => ?_)
          have HSI := Lib.hid (sameI_same (HLL.out.1.ext H22.out) (HLL.out.2.1.ext H22.out) HLL.out.2.2.symm)
          go_wp2_with (go_at_call 24; (with_reducible refine HSI.out.mono ?_); rintro e w23 ⟨rfl, u23⟩)
          have U23 : Upd [] w21 w23 := H22.out.step u23
          refine ⟨fun _ => Ext.of U23, ?_⟩
          have H23 := Lib.hid U23
          clear u23 U23 HSI
          repeat (first | (refine wpOrd_load rfl rfl rfl rfl (fun K hK => ?_); go_big_quiet_step (fail); refine wpQuiet_nil ?_; refine hK _ ?_; clear hK K) | (refine wpOrd_free rfl rfl rfl (fun K hK => ?_); go_big_quiet_step (fail); refine wpQuiet_nil ?_; refine hK _ ?_; clear hK K))
          refine wpOrd_nil ?_
          go_wp2_with fail
          exact ⟨⟨i + 1, by go_num, by omega, H21.out.2.2.1.step H23.out⟩, by simp [intOf]; omega⟩
        · have hii : ¬ (i : Int) < P.steps.length := by omega
          clear hli
          go_wp2_with fail
          exact ⟨⟨k + 1, by go_num, by omega, HU.out⟩, by simp [intOf]; omega⟩
    · have hkk : ¬ (k : Int) < 2 := by omega
      clear hlk
      go_wp2_with fail
      go_loopw [31] (fun i wr => ∃ k : Nat, i = .int .i64 k ∧ k ≤ r.steps.length ∧ Upd [] w14 wr) (fun i _ => r.steps.length - (intOf i).toNat)
      case atStart => exact ⟨0, rfl, by omega, HUk.out⟩
      case round =>
        obtain ⟨wi, rfl⟩ : ∃ wi : World, wi = wr := ⟨_, rfl⟩
        obtain ⟨i, rfl, hi, hU⟩ := hrel
        have HUi := Lib.hid hU
        have r1 := (H14.out.2.2.1.ext hU).bk.cell (i := 1) rfl
        clear hU
        by_cases hli : i < r.steps.length
        · have hii : (i : Int) < r.steps.length := by omega
          go_wp2_with fail
          go_loopw [32] (fun j wr => ∃ k : Nat, j = .int .i64 k ∧ k ≤ i ∧ Upd [] w14 wr) (fun j _ => i - (intOf j).toNat)
          case atStart => exact ⟨0, rfl, by omega, HUi.out⟩
          case round =>
            obtain ⟨wo, rfl⟩ : ∃ wo : World, wo = wr := ⟨_, rfl⟩
            obtain ⟨j, rfl, hj, hU⟩ := hrel
            have HU := Lib.hid hU
            clear hU r1
            by_cases hlj : j < i
            · have hjj : (j : Int) < (i : Int) := by omega
              have hjr : j < r.steps.length := by omega
              have r1 := (H14.out.2.2.1.ext HU.out).bk.cell (i := 1) rfl
              obtain ⟨_, _, ep, _, hSp⟩ := (H14.out.2.2.1.ext HU.out).pr
              cases ep
              obtain ⟨_, _, ep, _, _, hatp⟩ := hSp.at_
              cases ep
              have hsi := List.getElem?_eq_getElem hli
              have hsj := List.getElem?_eq_getElem hjr
              have hne : r.steps[i] ≠ r.steps[j] := fun e => by
                have := nodup_at HMG.out.ds hsi (by rw [e]; exact hsj)
                omega
              obtain ⟨gi, vi1, vi2, vi3, rfl, hci, hFi⟩ := hatp _ _ hsi
              obtain ⟨gj, vj1, vj2, vj3, ej, hcj, hFj⟩ := hatp _ _ hsj
              cases ej
              generalize r.steps[i] = si at *
              generalize r.steps[j] = sj at *
              obtain ⟨api, cpi, rfl, _⟩ := hFi.1.cells
              obtain ⟨ali, cli, rfl, _⟩ := hFi.2.1.cells
              obtain ⟨ahi, chi, rfl, _⟩ := hFi.2.2.1.cells
              obtain ⟨apj, cpj, rfl, _⟩ := hFj.1.cells
              obtain ⟨alj, clj, rfl, _⟩ := hFj.2.1.cells
              obtain ⟨ahj, chj, rfl, _⟩ := hFj.2.2.1.cells
              have e0 := hci 0 _ rfl
              rw [Nat.add_zero] at e0
              have e1 := hci 1 _ rfl
              have e2 := hci 2 _ rfl
              have e3 := hci 3 _ rfl
              have e4 := hci 4 _ rfl
              have e5 := hci 5 _ rfl
              have e6 := hci 6 _ rfl
              have f0 := hcj 0 _ rfl
              rw [Nat.add_zero] at f0
              have f1 := hcj 1 _ rfl
              have f2 := hcj 2 _ rfl
              have f3 := hcj 3 _ rfl
              have f4 := hcj 4 _ rfl
              have f5 := hcj 5 _ rfl
              have f6 := hcj 6 _ rfl
              have HSS := Lib.hid (fun (W : World) (u : Upd [] wo W) => sameSt_no (hFi.ext u) (hFj.ext u) hne)
              dsimp only [stC] at HSS
              clear hci hcj hFi hFj hsi hsj hne hatp hSp
              go_upto_region 27 with fail
              refine wp_region_ord 10 3 [0, 1, 2, 3, 4, 5, 6, 7, 8, 9] [1, 4, 6, 9] [0, 1, 2, 3, 4, 5, 6, 7, 8, 9, 10] (fun w' => ∃ x : Ext wo, w' = x.val) (by kernel_rfl) (by kernel_rfl) (Ext.of ((Upd.refl _ _).drew)) ?_
              repeat (first | (refine wpOrd_load rfl rfl rfl rfl (fun K hK => ?_); go_big_quiet_step (fail); refine wpQuiet_nil ?_; refine hK _ ?_; clear hK K) | (refine wpOrd_free rfl rfl rfl (fun K hK => ?_); go_big_quiet_step (fail); refine wpQuiet_nil ?_; refine hK _ ?_; clear hK K))
              refine wpOrd_fix rfl rfl (fun K hK => ?_)
              go_wp2_with (go_at_call 29; (with_reducible refine (HSS.out _ ((Upd.refl _ wo).drew)).mono ?_); rintro e w30 ⟨rfl, u30⟩)
              have U30 : Upd [] wo w30 := ((Upd.refl _ wo).drew).step u30
              refine ⟨fun hC => absurd hC (by decide), ?_⟩
              refine wpOrd_nil ?_
              clear e0 e1 e2 e3 e4 e5 e6 f0 f1 f2 f3 f4 f5 f6 r1 HSS u30
              go_wp2_with fail
              exact ⟨⟨j + 1, by go_num, by omega, HU.out.step U30⟩, by simp [intOf]; omega⟩
            · have hjj : ¬ (j : Int) < (i : Int) := by omega
              clear hlj
              go_wp2_with fail
              exact ⟨⟨i + 1, by go_num, by omega, HU.out⟩, by simp [intOf]; omega⟩
        · have hii : ¬ (i : Int) < r.steps.length := by omega
          have HL := Lib.hid (lives_calls (w := wi))
          clear hli
          go_wp2_with (go_at_call 17; (with_reducible refine HL.out.mono ?_); rintro e w40 ⟨rfl, u40⟩)
          go_ret
          exact ⟨rfl, (H14.out.2.2.2.2.1.step HUi.out).step u40⟩
end
end Trim
end Go.Proofs.Ytnmfihgdedifoaa
