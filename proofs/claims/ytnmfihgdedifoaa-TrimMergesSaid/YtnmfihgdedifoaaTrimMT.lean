/- Walks through the laws of package trim: TrimMerges. Conditions: none. -/
import Derived.Test.YtnmfihgdedifoaaTrimMQ
import Derived.Test.YtnmfihgdedifoaaTrimZ
set_option linter.unusedVariables false
set_option linter.unusedSimpArgs false
set_option linter.unusedSectionVars false
open Go.RowKit
namespace Go.Proofs.Ytnmfihgdedifoaa
open L R01
namespace Trim
theorem sameI_same {w : World} {v v2 : Value} {l m : List Int} (h1 : RowI w v l) (h2 : RowI w v2 m) (e : l = m) : Calls Try.prog 24 #[v, v2] w fun e w' => e = .returned (.bool true) ∧ Upd [] w w' := by
  have h := SameInts_calls h1.sl h2.sl
  rw [decide_eq_true e] at h
  exact h
/-- A proof in a box. -/
structure Bx (W : World) (s : Nat) (a : Option Addr) (c : Nat) (b : Option Addr) (d : Nat) (p : PrfD) : Prop where
  pr : PrL W (.agg #[.slice a p.lemmas.length c, .slice b p.steps.length d]) p
  bk : Blk W s [.slice a p.lemmas.length c, .slice b p.steps.length d] 30
theorem Bx.ext {W W' : World} {s : Nat} {a : Option Addr} {c : Nat} {b : Option Addr} {d : Nat} {p : PrfD} (h : Bx W s a c b d p) (u : Upd [] W W') : Bx W' s a c b d p := ⟨h.pr.ext' u, h.bk.upd u (by simp)⟩
/-- Two rows of numbers, made. -/
def RR (w : World) (g1 g2 : Nat) (a b : List Int) : Prop := Blk w g1 (ints a) 3 ∧ Blk w g2 (ints b) 3
theorem RR.ext {w w' : World} {g1 g2 : Nat} {a b : List Int} (h : RR w g1 g2 a b) (u : Upd [] w w') : RR w' g1 g2 a b := ⟨h.1.upd u (by simp), h.2.upd u (by simp)⟩
theorem RR.row1 {w : World} {g1 g2 n : Nat} {a b : List Int} (h : RR w g1 g2 a b) (hn : a.length = n) (h2 : n ≤ 1000 := by omega) : RowI w (.slice (some ⟨g1, 0, none⟩) n n) a := by subst hn; exact rowI_blk h.1 h2
theorem RR.row2 {w : World} {g1 g2 n : Nat} {a b : List Int} (h : RR w g1 g2 a b) (hn : b.length = n) (h2 : n ≤ 1000 := by omega) : RowI w (.slice (some ⟨g2, 0, none⟩) n n) b := by subst hn; exact rowI_blk h.2 h2
/-- Two rows of numbers, anyhow. -/
def RQ (w : World) (v1 v2 : Value) (a b : List Int) : Prop := RowI w v1 a ∧ RowI w v2 b
theorem RQ.ext {w w' : World} {v1 v2 : Value} {a b : List Int} (h : RQ w v1 v2 a b) (u : Upd [] w w') : RQ w' v1 v2 a b := ⟨h.1.ext u, h.2.ext u⟩
theorem RR.set {W W' : World} {ob g1 g2 : Nat} {cs : List Value} {a b : List Int} (h : RR W g1 g2 a b) (hB : Blk W ob cs 30) (u : Upd [ob] W W') : RR W' g1 g2 a b := ⟨h.1.upd u (fun hm => by simp at hm; exact absurd ((blk_kind h.1).inj (hm ▸ blk_kind hB)) (by decide)), h.2.upd u (fun hm => by simp at hm; exact absurd ((blk_kind h.2).inj (hm ▸ blk_kind hB)) (by decide))⟩
theorem RQ.set {W W' : World} {ob : Nat} {cs : List Value} {v1 v2 : Value} {a b : List Int} (h : RQ W v1 v2 a b) (hB : Blk W ob cs 30) (u : Upd [ob] W W') : RQ W' v1 v2 a b := ⟨h.1.kd (es := [3]) (off_blk hB (by decide)) (by simp) u, h.2.kd (es := [3]) (off_blk hB (by decide)) (by simp) u⟩
theorem box_upd {W : World} {ob : Nat} (x y : Value) : Upd [ob] W ((W.setCell ⟨ob, 0, none⟩ x).setCell ⟨ob, 1, none⟩ y) := ((Upd.refl [ob] W).set (.inl (by simp)) _).set (.inl (by simp)) _
section
variable {z0 W : World} {ob : Nat} {a b : Option Addr} {c d : Nat} {m : PrfD}
theorem st_box (hP : PrL W (.agg #[.slice a m.lemmas.length c, .slice b m.steps.length d]) m) (hB : Blk W ob [.slice none 0 0, .slice none 0 0] 30) (hu : Upd [] z0 W) (hz : z0.heap.size ≤ ob) :
    Bx ((W.setCell ⟨ob, 0, none⟩ (.slice a m.lemmas.length c)).setCell ⟨ob, 1, none⟩ (.slice b m.steps.length d)) ob a c b d m ∧ Upd [] z0 ((W.setCell ⟨ob, 0, none⟩ (.slice a m.lemmas.length c)).setCell ⟨ob, 1, none⟩ (.slice b m.steps.length d)) :=
  ⟨⟨hP.kd (es := [3, 88, 56, 82]) (off_blk hB (by decide)) (by simp) (by simp) (by simp) (by simp) (box_upd _ _), (hB.set 0 _).set 1 _⟩, hu.fresh (box_upd _ _) (fun b hb => .inr (by simp at hb; omega))⟩
theorem st_boxR {g1 g2 : Nat} {x y : List Int} (hP : PrL W (.agg #[.slice a m.lemmas.length c, .slice b m.steps.length d]) m) (hB : Blk W ob [.slice none 0 0, .slice none 0 0] 30) (hR : RR W g1 g2 x y) (hu : Upd [] z0 W) (hz : z0.heap.size ≤ ob) :
    Bx ((W.setCell ⟨ob, 0, none⟩ (.slice a m.lemmas.length c)).setCell ⟨ob, 1, none⟩ (.slice b m.steps.length d)) ob a c b d m ∧ RR ((W.setCell ⟨ob, 0, none⟩ (.slice a m.lemmas.length c)).setCell ⟨ob, 1, none⟩ (.slice b m.steps.length d)) g1 g2 x y ∧ Upd [] z0 ((W.setCell ⟨ob, 0, none⟩ (.slice a m.lemmas.length c)).setCell ⟨ob, 1, none⟩ (.slice b m.steps.length d)) :=
  ⟨(st_box hP hB hu hz).1, hR.set hB (box_upd _ _), (st_box hP hB hu hz).2⟩
theorem st_boxQ {v1 v2 : Value} {x y : List Int} (hP : PrL W (.agg #[.slice a m.lemmas.length c, .slice b m.steps.length d]) m) (hB : Blk W ob [.slice none 0 0, .slice none 0 0] 30) (hR : RQ W v1 v2 x y) (hu : Upd [] z0 W) (hz : z0.heap.size ≤ ob) :
    Bx ((W.setCell ⟨ob, 0, none⟩ (.slice a m.lemmas.length c)).setCell ⟨ob, 1, none⟩ (.slice b m.steps.length d)) ob a c b d m ∧ RQ ((W.setCell ⟨ob, 0, none⟩ (.slice a m.lemmas.length c)).setCell ⟨ob, 1, none⟩ (.slice b m.steps.length d)) v1 v2 x y ∧ Upd [] z0 ((W.setCell ⟨ob, 0, none⟩ (.slice a m.lemmas.length c)).setCell ⟨ob, 1, none⟩ (.slice b m.steps.length d)) :=
  ⟨(st_box hP hB hu hz).1, hR.set hB (box_upd _ _), (st_box hP hB hu hz).2⟩
theorem st_nil (hB : Blk W ob [.slice none 0 0, .slice none 0 0] 30) (hu : Upd [] z0 W) (hz : z0.heap.size ≤ ob) :
    Blk ((W.setCell ⟨ob, 0, none⟩ (.slice none 0 0)).setCell ⟨ob, 1, none⟩ (.slice none 0 0)) ob [.slice none 0 0, .slice none 0 0] 30 ∧ Upd [] z0 ((W.setCell ⟨ob, 0, none⟩ (.slice none 0 0)).setCell ⟨ob, 1, none⟩ (.slice none 0 0)) :=
  ⟨(hB.set 0 _).set 1 _, hu.fresh (box_upd _ _) (fun b hb => .inr (by simp at hb; omega))⟩
end
def two (p q : PrfD) : Nat → PrfD
  | 0 => p
  | _ + 1 => q
theorem RMerge2 {w : World} {v v2 : Value} {p q : PrfD} (h : PrL w v p) (h2 : PrL w v2 q) (fp : MFm p) (fq : MFm q) :
    Calls Try.prog 28 #[v, v2] w fun e w' => ∃ (v' x y : Value), e = .returned (.tuple #[v', x, y]) ∧ PrL w' v' (mrg p q) ∧ RQ w' x y (tabI p.steps.length (mS1 p).2) (tabI q.steps.length (mS2 p q).2) ∧ Upd [] w w' := by
  have hf : ∀ j, MFm (two p q j) := fun j => by
    cases j with
    | zero => exact fp
    | succ j => exact fq
  have e := mrg_rst (ps := two p q) hf
  have e1 : mrg p q = ⟨(rst (two p q) 2).1, (rst (two p q) 2).2⟩ := e.1
  have e2 : tabI p.steps.length (mS1 p).2 = rnum (two p q) 0 := e.2.1
  have e3 : tabI q.steps.length (mS2 p q).2 = rnum (two p q) 1 := e.2.2
  refine (RMerge_calls (ps := two p q) h h2 (fun j => (hf j).ok)).mono ?_
  rintro e w' ⟨v', x, y, rfl, h3, h4, h5, h6⟩
  exact ⟨v', x, y, rfl, by rw [e1]; exact h3, ⟨by rw [e2]; exact h4, by rw [e3]; exact h5⟩, h6⟩
section
variable {w : World}
set_option maxRecDepth 100000 in
set_option maxHeartbeats 16000000 in
theorem TrimMerges_calls {v vm : Value} {l ml : List Int} {at_ how by_ : Int} (h : SL w 1 v l.length (ints l)) (hx : ∀ x ∈ l, IsI64 x) (hm : SL w 1 vm ml.length (ints ml)) (hmx : ∀ x ∈ ml, IsI64 x) (ha : IsI64 at_) (hh : IsI64 how) (hb : IsI64 by_) :
    Calls Try.prog 7 #[v, vm, .int .i64 at_, .int .i64 how, .int .i64 by_] w fun e w' => e = .returned (.bool true) ∧ Upd [] w w' := by
  obtain ⟨a, cap, rfl, _⟩ := SL.form h
  obtain ⟨am, capm, rfl, _⟩ := SL.form hm
  have HS := Lib.hid (some_calls hx h ha hh hb)
  have HS2 := Lib.hid (fun (W : World) (u : Upd [] w W) => some_calls hmx (hm.upd u (by simp)) hh ha hb)
  clear hx h ha hh hb hm hmx
  go_enter Try.func7, Try.ntmps7
  go_upto_region 2 with (go_at_call 9; (with_reducible refine HS.out.mono ?_); rintro e w1 ⟨v1, ps, rfl, hps, u1⟩; obtain ⟨gA, rfl, hat1, hsm1⟩ := hps)
  go_upto_region 3 with (go_at_call 9; (with_reducible refine (HS2.out _ u1).mono ?_); rintro e w2 ⟨v2, qs, rfl, hqs, u2⟩; obtain ⟨gB, rfl, hat2, hsm2⟩ := hqs)
  have H2 := Lib.hid (And.intro ((show AllP w1 (.slice (some ⟨gA, 0, none⟩) 4 4) ps from ⟨gA, rfl, hat1, hsm1⟩).ext u2) (And.intro (show AllP w2 (.slice (some ⟨gB, 0, none⟩) 4 4) qs from ⟨gB, rfl, hat2, hsm2⟩) (u1.step u2)))
  clear hat1 hsm1 hat2 hsm2 u1 u2 HS HS2
  go_wp2_with fail
  go_loopw [13] (fun i wr => ∃ k : Nat, i = .int .i64 k ∧ k ≤ 4 ∧ Upd [] w2 wr) (fun i _ => 4 - (intOf i).toNat)
  case atStart => exact ⟨0, rfl, by omega, Upd.refl _ _⟩
  case round =>
    obtain ⟨wi, rfl⟩ : ∃ wi : World, wi = wr := ⟨_, rfl⟩
    obtain ⟨i, rfl, hi, hu⟩ := hrel
    have HUi := Lib.hid hu
    clear hu
    by_cases hli : i < 4
    · have hii : (i : Int) < 4 := by omega
      go_wp2_with fail
      go_loopw [14] (fun j wr => ∃ k : Nat, j = .int .i64 k ∧ k ≤ 4 ∧ Upd [] w2 wr) (fun j _ => 4 - (intOf j).toNat)
      case atStart => exact ⟨0, rfl, by omega, HUi.out⟩
      case round =>
        obtain ⟨wo, rfl⟩ : ∃ wo : World, wo = wr := ⟨_, rfl⟩
        obtain ⟨k, rfl, hk, hu⟩ := hrel
        have HU := Lib.hid hu
        by_cases hlk : k < 4
        rotate_left
        · have hkk : ¬ (k : Int) < 4 := by omega
          clear hu
          go_wp2_with fail
          exact ⟨⟨i + 1, by go_num, by omega, HU.out⟩, by simp [intOf]; omega⟩
        have hkk : (k : Int) < 4 := by omega
        obtain ⟨_, he, hat1, hsm1⟩ := H2.out.1.ext hu
        cases he
        obtain ⟨_, he, hat2, hsm2⟩ := H2.out.2.1.ext hu
        cases he
        obtain ⟨al, cl, a2, c2, e1, e2, hP⟩ := hat1 i hli
        obtain ⟨al', cl', a2', c2', e3, e4, hQ⟩ := hat2 k hlk
        have HP := Lib.hid (And.intro hP (And.intro hQ (And.intro (hsm1 i) (hsm2 k))))
        have HCP := fun (W : World) (u : Upd [] wo W) => check_calls (hP.ext' u)
        have HCQ := fun (W : World) (u : Upd [] wo W) => check_calls (hQ.ext' u)
        clear hP hQ hsm1 hsm2 hat1 hat2 hu
        generalize ps i = p at *
        generalize qs k = q at *
        have hpl := HP.out.2.2.1.1.1
        have hql := HP.out.2.2.2.1.1
        by_cases hc1 : check p = 0
        · by_cases hc2 : check q = 0
          · have fp := MFm.of HP.out.1 (wf_check.1 hc1) (by have := HP.out.2.2.1.1.1; omega) HP.out.2.2.1.2.1 HP.out.2.2.1.2.2 (fun k st hk => by have := HP.out.2.2.1.1.2 k st hk; omega)
            have fq := MFm.of HP.out.2.1 (wf_check.1 hc2) (by have := HP.out.2.2.2.1.1; omega) HP.out.2.2.2.2.1 HP.out.2.2.2.2.2 (fun k st hk => by have := HP.out.2.2.2.1.2 k st hk; omega)
            have HMG := Lib.hid (fun (W : World) (u : Upd [] wo W) => Merge_good (HP.out.1.ext' u) (HP.out.2.1.ext' u) fp.ok fq.ok)
            have HRM := Lib.hid (fun (W : World) (u : Upd [] wo W) => RMerge2 (HP.out.1.ext' u) (HP.out.2.1.ext' u) fp fq)
            have hCP := HCP
            have hCQ := HCQ
            rw [hc1] at hCP
            rw [hc2] at hCQ
            have HC := Lib.hid (And.intro hCP hCQ)
            clear fp fq hc1 hc2 hCP hCQ HCP HCQ
            have htl1 : (tabI p.steps.length (mS1 p).2).length = p.steps.length := tabI_length _ _
            have htl2 : (tabI q.steps.length (mS2 p q).2).length = q.steps.length := tabI_length _ _
            generalize mrg p q = m at *
            generalize tabI p.steps.length (mS1 p).2 = ta at *
            generalize tabI q.steps.length (mS2 p q).2 = tb at *
            have HTL := Lib.hid (And.intro htl1 htl2)
            clear htl1 htl2
            go_upto_region 9 with fail
            go_cut [15, 16, 17, 18] (fun a b c d w' => ∃ (s g1 g2 : Nat) (aP : Option Addr) (cP : Nat) (bP : Option Addr) (dP : Nat), a = .pointer (some ⟨s, 0, none⟩) ∧ b = .slice (some ⟨g1, 0, none⟩) p.steps.length p.steps.length ∧ c = .slice (some ⟨g2, 0, none⟩) q.steps.length q.steps.length ∧ d = .int .i64 0 ∧ Bx w' s aP cP bP dP m ∧ RR w' g1 g2 ta tb ∧ Upd [] wo w')
            case first =>
              have HD := Lib.hid ((Upd.refl [] wo).drew)
              have f1 := HD.out.some e1 (by simp)
              have f2 := HD.out.some e2 (by simp)
              have f3 := HD.out.some e3 (by simp)
              have f4 := HD.out.some e4 (by simp)
              clear e1 e2 e3 e4
              refine wp_region_wa 19 15 (fun w' => ∃ x : Ext wo.drew, w' = x.val) (by kernel_rfl) (by kernel_rfl) (Ext.of (Upd.refl _ _)) ?_
              generalize wo.drew = z0 at *
              (refine WA.free 0 rfl rfl (by kernel_rfl) (fun K hK => ?_); go_big_quiet_step (fail); refine wpQuiet_nil ?_; refine hK _ ?_; clear hK K); (refine WA.free 1 rfl rfl (by kernel_rfl) (fun K hK => ?_); go_big_quiet_step (fail); refine wpQuiet_nil ?_; refine hK _ ?_; clear hK K); (refine WA.free 2 rfl rfl (by kernel_rfl) (fun K hK => ?_); go_big_quiet_step (fail); refine wpQuiet_nil ?_; refine hK _ ?_; clear hK K)
              (refine WA.load 3 19 rfl rfl (by kernel_rfl) (by kernel_rfl) (fun K hK => ?_); go_big_quiet_step (fail); refine wpQuiet_nil ?_; refine hK _ ?_; clear hK K)
              (refine WA.free 4 rfl rfl (by kernel_rfl) (fun K hK => ?_); go_big_quiet_step (fail); refine wpQuiet_nil ?_; refine hK _ ?_; clear hK K); (refine WA.free 5 rfl rfl (by kernel_rfl) (fun K hK => ?_); go_big_quiet_step (fail); refine wpQuiet_nil ?_; refine hK _ ?_; clear hK K); (refine WA.free 6 rfl rfl (by kernel_rfl) (fun K hK => ?_); go_big_quiet_step (fail); refine wpQuiet_nil ?_; refine hK _ ?_; clear hK K)
              (refine WA.load 7 19 rfl rfl (by kernel_rfl) (by kernel_rfl) (fun K hK => ?_); go_big_quiet_step (fail); refine wpQuiet_nil ?_; refine hK _ ?_; clear hK K)
              refine WA.two 8 14 (by kernel_rfl) (Do_.mk rfl (fun K hK => ?_)) (Do_.mk rfl (fun K hK => ?_))
              · go_wp2_with (go_at_call 27; (with_reducible refine (HMG.out _ (HD.out.step (Upd.refl [] z0))).mono ?_); rintro e z1 ⟨vP, g1, g2, rfl, hPr, hb1, hb2, uC⟩; obtain ⟨aP, cP, bP, dP, rfl⟩ := hPr.form)
                have hRs : RR z1 g1 g2 ta tb := ⟨hb1, hb2⟩
                clear hb1 hb2
                refine WA.keep (Ext.of uC) ?_
                (refine WA.free 9 rfl rfl (by kernel_rfl) (fun K hK => ?_); go_big_quiet_step (fail); refine wpQuiet_nil ?_; refine hK _ ?_; clear hK K); (refine WA.free 10 rfl rfl (by kernel_rfl) (fun K hK => ?_); go_big_quiet_step (fail); refine wpQuiet_nil ?_; refine hK _ ?_; clear hK K); (refine WA.free 11 rfl rfl (by kernel_rfl) (fun K hK => ?_); go_big_quiet_step (fail); refine wpQuiet_nil ?_; refine hK _ ?_; clear hK K); (refine WA.free 12 rfl rfl (by kernel_rfl) (fun K hK => ?_); go_big_quiet_step (fail); refine wpQuiet_nil ?_; refine hK _ ?_; clear hK K); (refine WA.free 13 rfl rfl (by kernel_rfl) (fun K hK => ?_); go_big_quiet_step (fail); refine wpQuiet_nil ?_; refine hK _ ?_; clear hK K)
                refine WA.one 14 (by kernel_rfl) (Do_.mk rfl (fun K hK => ?_))
                go_wp2_with fail
                have BO := Blk.new z1 [.slice none 0 0, .slice none 0 0] 30
                have uO := (Upd.refl [] z1).alloc (.cells #[.slice none 0 0, .slice none 0 0] 30)
                generalize hob : Array.size (World.heap z1) = ob at *
                generalize World.alloc z1 (.cells #[.slice none 0 0, .slice none 0 0] 30) = zz at *
                refine WA.keep (Ext.of (uC.step uO)) ?_
                have hzo : z0.heap.size ≤ ob := by have := uC.size; omega
                have HE := Lib.hid (And.intro BO (And.intro (hPr.ext' uO) (And.intro (hRs.ext uO) (uC.step uO))))
                clear BO uO uC hPr hRs hob
                have y0 := HE.out.1.cell (i := 0) rfl
                have y1 := HE.out.1.cell (i := 1) rfl
                have yf0 := HE.out.1.free 0
                have yf1 := HE.out.1.free 1
                refine WA.one 15 (by kernel_rfl) (Do_.mk rfl (fun K hK => ?_))
                go_wp2_with fail
                refine WA.past (by kernel_rfl) ?_
                have HG := Lib.hid (st_boxR HE.out.2.1 HE.out.1 HE.out.2.2.1 HE.out.2.2.2 hzo)
                generalize ((zz.setCell ⟨ob, 0, none⟩ (.slice aP m.lemmas.length cP)).setCell ⟨ob, 1, none⟩ (.slice bP m.steps.length dP)) = wG at *
                clear y0 y1 yf0 yf1 HE
                (refine WA.free 16 rfl rfl (by kernel_rfl) (fun K hK => ?_); go_big_quiet_step (fail); refine wpQuiet_nil ?_; refine hK _ ?_; clear hK K); (refine WA.free 17 rfl rfl (by kernel_rfl) (fun K hK => ?_); go_big_quiet_step (fail); refine wpQuiet_nil ?_; refine hK _ ?_; clear hK K); (refine WA.free 18 rfl rfl (by kernel_rfl) (fun K hK => ?_); go_big_quiet_step (fail); refine wpQuiet_nil ?_; refine hK _ ?_; clear hK K)
                refine WA.nil (by kernel_rfl) ?_
                go_wp2_with fail
                go_meet
                case rel => exact ⟨ob, g1, g2, aP, cP, bP, dP, rfl, rfl, rfl, rfl, HG.out.1, HG.out.2.1, HD.out.step HG.out.2.2⟩
              · go_wp2_with fail
                have BO := Blk.new z0 [.slice none 0 0, .slice none 0 0] 30
                have uO := (Upd.refl [] z0).alloc (.cells #[.slice none 0 0, .slice none 0 0] 30)
                generalize hob : Array.size (World.heap z0) = ob at *
                generalize World.alloc z0 (.cells #[.slice none 0 0, .slice none 0 0] 30) = z1 at *
                refine WA.keep (Ext.of uO) ?_
                refine WA.one 8 (by kernel_rfl) (Do_.mk rfl (fun K hK => ?_))
                go_wp2_with (go_at_call 27; (with_reducible refine (HMG.out _ (HD.out.step uO)).mono ?_); rintro e zz ⟨vP, g1, g2, rfl, hPr, hb1, hb2, uC⟩; obtain ⟨aP, cP, bP, dP, rfl⟩ := hPr.form)
                have hRs : RR zz g1 g2 ta tb := ⟨hb1, hb2⟩
                clear hb1 hb2
                refine WA.keep (Ext.of (uO.step uC)) ?_
                have hzo : z0.heap.size ≤ ob := by omega
                (refine WA.free 9 rfl rfl (by kernel_rfl) (fun K hK => ?_); go_big_quiet_step (fail); refine wpQuiet_nil ?_; refine hK _ ?_; clear hK K); (refine WA.free 10 rfl rfl (by kernel_rfl) (fun K hK => ?_); go_big_quiet_step (fail); refine wpQuiet_nil ?_; refine hK _ ?_; clear hK K); (refine WA.free 11 rfl rfl (by kernel_rfl) (fun K hK => ?_); go_big_quiet_step (fail); refine wpQuiet_nil ?_; refine hK _ ?_; clear hK K); (refine WA.free 12 rfl rfl (by kernel_rfl) (fun K hK => ?_); go_big_quiet_step (fail); refine wpQuiet_nil ?_; refine hK _ ?_; clear hK K); (refine WA.free 13 rfl rfl (by kernel_rfl) (fun K hK => ?_); go_big_quiet_step (fail); refine wpQuiet_nil ?_; refine hK _ ?_; clear hK K)
                have HE := Lib.hid (And.intro (BO.upd uC (by simp)) (And.intro hPr (And.intro hRs (uO.step uC))))
                clear BO uO uC hPr hRs hob
                have y0 := HE.out.1.cell (i := 0) rfl
                have y1 := HE.out.1.cell (i := 1) rfl
                have yf0 := HE.out.1.free 0
                have yf1 := HE.out.1.free 1
                refine WA.one 15 (by kernel_rfl) (Do_.mk rfl (fun K hK => ?_))
                go_wp2_with fail
                refine WA.past (by kernel_rfl) ?_
                have HG := Lib.hid (st_boxR HE.out.2.1 HE.out.1 HE.out.2.2.1 HE.out.2.2.2 hzo)
                generalize ((zz.setCell ⟨ob, 0, none⟩ (.slice aP m.lemmas.length cP)).setCell ⟨ob, 1, none⟩ (.slice bP m.steps.length dP)) = wG at *
                clear y0 y1 yf0 yf1 HE
                (refine WA.free 16 rfl rfl (by kernel_rfl) (fun K hK => ?_); go_big_quiet_step (fail); refine wpQuiet_nil ?_; refine hK _ ?_; clear hK K); (refine WA.free 17 rfl rfl (by kernel_rfl) (fun K hK => ?_); go_big_quiet_step (fail); refine wpQuiet_nil ?_; refine hK _ ?_; clear hK K); (refine WA.free 18 rfl rfl (by kernel_rfl) (fun K hK => ?_); go_big_quiet_step (fail); refine wpQuiet_nil ?_; refine hK _ ?_; clear hK K)
                refine WA.nil (by kernel_rfl) ?_
                go_wp2_with fail
                go_meet
                case rel => exact ⟨ob, g1, g2, aP, cP, bP, dP, rfl, rfl, rfl, rfl, HG.out.1, HG.out.2.1, HD.out.step HG.out.2.2⟩
            case rest =>
            obtain ⟨s9, g1, g2, aP, cP, bP, dP, rfl, rfl, rfl, rfl, hB9, hR9, u9⟩ := hcut
            have H9 := Lib.hid (And.intro hB9 (And.intro hR9 u9))
            clear hB9 hR9 u9
            have y1 := H9.out.2.2.some e1 (by simp)
            have y2 := H9.out.2.2.some e2 (by simp)
            have y3 := H9.out.2.2.some e3 (by simp)
            have y4 := H9.out.2.2.some e4 (by simp)
            have HK1 := Lib.hid (HC.out.1 _ H9.out.2.2)
            go_upto_region 11 with (go_at_call 10; (with_reducible refine HK1.out.mono ?_); rintro e wd ⟨rfl, ud⟩)
            have H11 := Lib.hid (And.intro (H9.out.1.ext ud) (And.intro (H9.out.2.1.ext ud) (H9.out.2.2.step ud)))
            clear ud H9 HK1 y1 y2 y3 y4
            have y1 := H11.out.2.2.some e1 (by simp)
            have y2 := H11.out.2.2.some e2 (by simp)
            have y3 := H11.out.2.2.some e3 (by simp)
            have y4 := H11.out.2.2.some e4 (by simp)
            have HK2 := Lib.hid (HC.out.2 _ H11.out.2.2)
            go_upto_region 18 with (go_at_call 10; (with_reducible refine HK2.out.mono ?_); rintro e we ⟨rfl, ue⟩)
            have H18 := Lib.hid (And.intro (H11.out.1.ext ue) (And.intro (H11.out.2.1.ext ue) (H11.out.2.2.step ue)))
            clear ue H11 HK2 y1 y2 y3 y4
            go_cut [20, 21, 22] (fun a b c w' => ∃ (s : Nat) (aR : Option Addr) (cR : Nat) (bR : Option Addr) (dR : Nat), a = .pointer (some ⟨s, 0, none⟩) ∧ Bx w' s aR cR bR dR m ∧ RQ w' b c ta tb ∧ Upd [] we w')
            case first =>
              have HD := Lib.hid ((Upd.refl [] we).drew)
              have f1 := (H18.out.2.2.step HD.out).some e1 (by simp)
              have f2 := (H18.out.2.2.step HD.out).some e2 (by simp)
              have f3 := (H18.out.2.2.step HD.out).some e3 (by simp)
              have f4 := (H18.out.2.2.step HD.out).some e4 (by simp)
              clear e1 e2 e3 e4
              refine wp_region_wa 17 14 (fun w' => ∃ x : Ext we.drew, w' = x.val) (by kernel_rfl) (by kernel_rfl) (Ext.of (Upd.refl _ _)) ?_
              generalize we.drew = z0 at *
              (refine WA.free 0 rfl rfl (by kernel_rfl) (fun K hK => ?_); go_big_quiet_step (fail); refine wpQuiet_nil ?_; refine hK _ ?_; clear hK K); (refine WA.free 1 rfl rfl (by kernel_rfl) (fun K hK => ?_); go_big_quiet_step (fail); refine wpQuiet_nil ?_; refine hK _ ?_; clear hK K); (refine WA.free 2 rfl rfl (by kernel_rfl) (fun K hK => ?_); go_big_quiet_step (fail); refine wpQuiet_nil ?_; refine hK _ ?_; clear hK K)
              (refine WA.load 3 17 rfl rfl (by kernel_rfl) (by kernel_rfl) (fun K hK => ?_); go_big_quiet_step (fail); refine wpQuiet_nil ?_; refine hK _ ?_; clear hK K)
              (refine WA.free 4 rfl rfl (by kernel_rfl) (fun K hK => ?_); go_big_quiet_step (fail); refine wpQuiet_nil ?_; refine hK _ ?_; clear hK K); (refine WA.free 5 rfl rfl (by kernel_rfl) (fun K hK => ?_); go_big_quiet_step (fail); refine wpQuiet_nil ?_; refine hK _ ?_; clear hK K); (refine WA.free 6 rfl rfl (by kernel_rfl) (fun K hK => ?_); go_big_quiet_step (fail); refine wpQuiet_nil ?_; refine hK _ ?_; clear hK K)
              (refine WA.load 7 17 rfl rfl (by kernel_rfl) (by kernel_rfl) (fun K hK => ?_); go_big_quiet_step (fail); refine wpQuiet_nil ?_; refine hK _ ?_; clear hK K)
              refine WA.two 8 13 (by kernel_rfl) (Do_.mk rfl (fun K hK => ?_)) (Do_.mk rfl (fun K hK => ?_))
              · go_wp2_with (go_at_call 28; (with_reducible refine (HRM.out _ (H18.out.2.2.step (HD.out.step (Upd.refl [] z0)))).mono ?_); rintro e z1 ⟨vP, vx, vy, rfl, hPr, hRs, uC⟩; obtain ⟨aP, cP, bP, dP, rfl⟩ := hPr.form)
                refine WA.keep (Ext.of uC) ?_
                (refine WA.free 9 rfl rfl (by kernel_rfl) (fun K hK => ?_); go_big_quiet_step (fail); refine wpQuiet_nil ?_; refine hK _ ?_; clear hK K); (refine WA.free 10 rfl rfl (by kernel_rfl) (fun K hK => ?_); go_big_quiet_step (fail); refine wpQuiet_nil ?_; refine hK _ ?_; clear hK K); (refine WA.free 11 rfl rfl (by kernel_rfl) (fun K hK => ?_); go_big_quiet_step (fail); refine wpQuiet_nil ?_; refine hK _ ?_; clear hK K); (refine WA.free 12 rfl rfl (by kernel_rfl) (fun K hK => ?_); go_big_quiet_step (fail); refine wpQuiet_nil ?_; refine hK _ ?_; clear hK K)
                refine WA.one 13 (by kernel_rfl) (Do_.mk rfl (fun K hK => ?_))
                go_wp2_with fail
                have BO := Blk.new z1 [.slice none 0 0, .slice none 0 0] 30
                have uO := (Upd.refl [] z1).alloc (.cells #[.slice none 0 0, .slice none 0 0] 30)
                generalize hob : Array.size (World.heap z1) = ob at *
                generalize World.alloc z1 (.cells #[.slice none 0 0, .slice none 0 0] 30) = zz at *
                refine WA.keep (Ext.of (uC.step uO)) ?_
                have hzo : z0.heap.size ≤ ob := by have := uC.size; omega
                have HE := Lib.hid (And.intro BO (And.intro (hPr.ext' uO) (And.intro (hRs.ext uO) (uC.step uO))))
                clear BO uO uC hPr hRs hob
                have y0 := HE.out.1.cell (i := 0) rfl
                have y1 := HE.out.1.cell (i := 1) rfl
                have yf0 := HE.out.1.free 0
                have yf1 := HE.out.1.free 1
                refine WA.one 14 (by kernel_rfl) (Do_.mk rfl (fun K hK => ?_))
                go_wp2_with fail
                refine WA.past (by kernel_rfl) ?_
                have HG := Lib.hid (st_boxQ HE.out.2.1 HE.out.1 HE.out.2.2.1 HE.out.2.2.2 hzo)
                generalize ((zz.setCell ⟨ob, 0, none⟩ (.slice aP m.lemmas.length cP)).setCell ⟨ob, 1, none⟩ (.slice bP m.steps.length dP)) = wG at *
                clear y0 y1 yf0 yf1 HE
                (refine WA.free 15 rfl rfl (by kernel_rfl) (fun K hK => ?_); go_big_quiet_step (fail); refine wpQuiet_nil ?_; refine hK _ ?_; clear hK K); (refine WA.free 16 rfl rfl (by kernel_rfl) (fun K hK => ?_); go_big_quiet_step (fail); refine wpQuiet_nil ?_; refine hK _ ?_; clear hK K)
                refine WA.nil (by kernel_rfl) ?_
                go_wp2_with fail
                go_meet
                case rel => exact ⟨ob, aP, cP, bP, dP, rfl, HG.out.1, HG.out.2.1, HD.out.step HG.out.2.2⟩
              · go_wp2_with fail
                have BO := Blk.new z0 [.slice none 0 0, .slice none 0 0] 30
                have uO := (Upd.refl [] z0).alloc (.cells #[.slice none 0 0, .slice none 0 0] 30)
                generalize hob : Array.size (World.heap z0) = ob at *
                generalize World.alloc z0 (.cells #[.slice none 0 0, .slice none 0 0] 30) = z1 at *
                refine WA.keep (Ext.of uO) ?_
                refine WA.one 8 (by kernel_rfl) (Do_.mk rfl (fun K hK => ?_))
                go_wp2_with (go_at_call 28; (with_reducible refine (HRM.out _ (H18.out.2.2.step (HD.out.step uO))).mono ?_); rintro e zz ⟨vP, vx, vy, rfl, hPr, hRs, uC⟩; obtain ⟨aP, cP, bP, dP, rfl⟩ := hPr.form)
                refine WA.keep (Ext.of (uO.step uC)) ?_
                have hzo : z0.heap.size ≤ ob := by omega
                (refine WA.free 9 rfl rfl (by kernel_rfl) (fun K hK => ?_); go_big_quiet_step (fail); refine wpQuiet_nil ?_; refine hK _ ?_; clear hK K); (refine WA.free 10 rfl rfl (by kernel_rfl) (fun K hK => ?_); go_big_quiet_step (fail); refine wpQuiet_nil ?_; refine hK _ ?_; clear hK K); (refine WA.free 11 rfl rfl (by kernel_rfl) (fun K hK => ?_); go_big_quiet_step (fail); refine wpQuiet_nil ?_; refine hK _ ?_; clear hK K); (refine WA.free 12 rfl rfl (by kernel_rfl) (fun K hK => ?_); go_big_quiet_step (fail); refine wpQuiet_nil ?_; refine hK _ ?_; clear hK K)
                have HE := Lib.hid (And.intro (BO.upd uC (by simp)) (And.intro hPr (And.intro hRs (uO.step uC))))
                clear BO uO uC hPr hRs hob
                have y0 := HE.out.1.cell (i := 0) rfl
                have y1 := HE.out.1.cell (i := 1) rfl
                have yf0 := HE.out.1.free 0
                have yf1 := HE.out.1.free 1
                refine WA.one 14 (by kernel_rfl) (Do_.mk rfl (fun K hK => ?_))
                go_wp2_with fail
                refine WA.past (by kernel_rfl) ?_
                have HG := Lib.hid (st_boxQ HE.out.2.1 HE.out.1 HE.out.2.2.1 HE.out.2.2.2 hzo)
                generalize ((zz.setCell ⟨ob, 0, none⟩ (.slice aP m.lemmas.length cP)).setCell ⟨ob, 1, none⟩ (.slice bP m.steps.length dP)) = wG at *
                clear y0 y1 yf0 yf1 HE
                (refine WA.free 15 rfl rfl (by kernel_rfl) (fun K hK => ?_); go_big_quiet_step (fail); refine wpQuiet_nil ?_; refine hK _ ?_; clear hK K); (refine WA.free 16 rfl rfl (by kernel_rfl) (fun K hK => ?_); go_big_quiet_step (fail); refine wpQuiet_nil ?_; refine hK _ ?_; clear hK K)
                refine WA.nil (by kernel_rfl) ?_
                go_wp2_with fail
                go_meet
                case rel => exact ⟨ob, aP, cP, bP, dP, rfl, HG.out.1, HG.out.2.1, HD.out.step HG.out.2.2⟩
            case rest =>
            obtain ⟨s20, aR, cR, bR, dR, rfl, hB20, hR20, u20⟩ := hcut
            obtain ⟨ax, cx, rfl, _⟩ := RowI.cells hR20.1
            obtain ⟨ay, cy, rfl, _⟩ := RowI.cells hR20.2
            have H20 := Lib.hid (And.intro (H18.out.1.ext u20) (And.intro (H18.out.2.1.ext u20) (And.intro hB20 (And.intro hR20 (H18.out.2.2.step u20)))))
            clear hB20 hR20 u20 H18
            have b0 := H20.out.1.bk.cell (i := 0) rfl
            have b1 := H20.out.1.bk.cell (i := 1) rfl
            have c0 := H20.out.2.2.1.bk.cell (i := 0) rfl
            have c1 := H20.out.2.2.1.bk.cell (i := 1) rfl
            have HSM := Lib.hid (by
              have h := same_calls H20.out.1.pr H20.out.2.2.1.pr
              rw [samePr_true rfl] at h
              exact h)
            have HS1 := Lib.hid (fun (W : World) (u : Upd [] wc W) => sameI_same ((show RowI wc (.slice (some ⟨g1, 0, none⟩) p.steps.length p.steps.length) ta from H20.out.2.1.row1 HTL.out.1).ext u) (H20.out.2.2.2.1.1.ext u) rfl)
            have HS2 := Lib.hid (fun (W : World) (u : Upd [] wc W) => sameI_same ((show RowI wc (.slice (some ⟨g2, 0, none⟩) q.steps.length q.steps.length) tb from H20.out.2.1.row2 HTL.out.2).ext u) (H20.out.2.2.2.1.2.ext u) rfl)
            go_wp2_with (first | (go_at_call 22; (with_reducible refine HSM.out.mono ?_); rintro e wf ⟨rfl, uf⟩) | (go_at_call 24; first | ((with_reducible refine (HS1.out _ uf).mono ?_); rintro e wg ⟨rfl, ug⟩) | ((with_reducible refine (HS2.out _ (uf.step ug)).mono ?_); rintro e wh ⟨rfl, uh⟩)))
            exact ⟨⟨k + 1, by go_num, by omega, HU.out.step (H20.out.2.2.2.2.step ((uf.step ug).step uh))⟩, by simp [intOf]; omega⟩
          · have HMG := Lib.hid (fun (W : World) (u : Upd [] wo W) => Merge_bad2 (HP.out.1.ext' u) (HP.out.2.1.ext' u) hc1 hc2)
            have hb2 : (check q != 0) = true := by simpa using hc2
            have hb3 : (check q == 0) = false := by simpa using hc2
            rw [hc1] at HCP
            generalize check q = z at *
            clear hc1 hc2
            have hb1 : (z != z) = false := by simp
            go_upto_region 9 with fail
            go_cut [15, 16, 17, 18] (fun a b c d w' => ∃ (s : Nat), a = .pointer (some ⟨s, 0, none⟩) ∧ b = .slice none 0 0 ∧ c = .slice none 0 0 ∧ d = .int .i64 z ∧ Blk w' s [.slice none 0 0, .slice none 0 0] 30 ∧ Upd [] wo w')
            case first =>
              have HD := Lib.hid ((Upd.refl [] wo).drew)
              have f1 := HD.out.some e1 (by simp)
              have f2 := HD.out.some e2 (by simp)
              have f3 := HD.out.some e3 (by simp)
              have f4 := HD.out.some e4 (by simp)
              clear e1 e2 e3 e4
              refine wp_region_wa 19 15 (fun w' => ∃ x : Ext wo.drew, w' = x.val) (by kernel_rfl) (by kernel_rfl) (Ext.of (Upd.refl _ _)) ?_
              generalize wo.drew = z0 at *
              (refine WA.free 0 rfl rfl (by kernel_rfl) (fun K hK => ?_); go_big_quiet_step (fail); refine wpQuiet_nil ?_; refine hK _ ?_; clear hK K); (refine WA.free 1 rfl rfl (by kernel_rfl) (fun K hK => ?_); go_big_quiet_step (fail); refine wpQuiet_nil ?_; refine hK _ ?_; clear hK K); (refine WA.free 2 rfl rfl (by kernel_rfl) (fun K hK => ?_); go_big_quiet_step (fail); refine wpQuiet_nil ?_; refine hK _ ?_; clear hK K)
              (refine WA.load 3 19 rfl rfl (by kernel_rfl) (by kernel_rfl) (fun K hK => ?_); go_big_quiet_step (fail); refine wpQuiet_nil ?_; refine hK _ ?_; clear hK K)
              (refine WA.free 4 rfl rfl (by kernel_rfl) (fun K hK => ?_); go_big_quiet_step (fail); refine wpQuiet_nil ?_; refine hK _ ?_; clear hK K); (refine WA.free 5 rfl rfl (by kernel_rfl) (fun K hK => ?_); go_big_quiet_step (fail); refine wpQuiet_nil ?_; refine hK _ ?_; clear hK K); (refine WA.free 6 rfl rfl (by kernel_rfl) (fun K hK => ?_); go_big_quiet_step (fail); refine wpQuiet_nil ?_; refine hK _ ?_; clear hK K)
              (refine WA.load 7 19 rfl rfl (by kernel_rfl) (by kernel_rfl) (fun K hK => ?_); go_big_quiet_step (fail); refine wpQuiet_nil ?_; refine hK _ ?_; clear hK K)
              refine WA.two 8 14 (by kernel_rfl) (Do_.mk rfl (fun K hK => ?_)) (Do_.mk rfl (fun K hK => ?_))
              · go_wp2_with (go_at_call 27; (with_reducible refine (HMG.out _ (HD.out.step (Upd.refl [] z0))).mono ?_); rintro e z1 ⟨rfl, uC⟩)
                refine WA.keep (Ext.of uC) ?_
                (refine WA.free 9 rfl rfl (by kernel_rfl) (fun K hK => ?_); go_big_quiet_step (fail); refine wpQuiet_nil ?_; refine hK _ ?_; clear hK K); (refine WA.free 10 rfl rfl (by kernel_rfl) (fun K hK => ?_); go_big_quiet_step (fail); refine wpQuiet_nil ?_; refine hK _ ?_; clear hK K); (refine WA.free 11 rfl rfl (by kernel_rfl) (fun K hK => ?_); go_big_quiet_step (fail); refine wpQuiet_nil ?_; refine hK _ ?_; clear hK K); (refine WA.free 12 rfl rfl (by kernel_rfl) (fun K hK => ?_); go_big_quiet_step (fail); refine wpQuiet_nil ?_; refine hK _ ?_; clear hK K); (refine WA.free 13 rfl rfl (by kernel_rfl) (fun K hK => ?_); go_big_quiet_step (fail); refine wpQuiet_nil ?_; refine hK _ ?_; clear hK K)
                refine WA.one 14 (by kernel_rfl) (Do_.mk rfl (fun K hK => ?_))
                go_wp2_with fail
                have BO := Blk.new z1 [.slice none 0 0, .slice none 0 0] 30
                have uO := (Upd.refl [] z1).alloc (.cells #[.slice none 0 0, .slice none 0 0] 30)
                generalize hob : Array.size (World.heap z1) = ob at *
                generalize World.alloc z1 (.cells #[.slice none 0 0, .slice none 0 0] 30) = zz at *
                refine WA.keep (Ext.of (uC.step uO)) ?_
                have hzo : z0.heap.size ≤ ob := by have := uC.size; omega
                have HE := Lib.hid (And.intro BO (uC.step uO))
                clear BO uO uC hob
                have y0 := HE.out.1.cell (i := 0) rfl
                have y1 := HE.out.1.cell (i := 1) rfl
                have yf0 := HE.out.1.free 0
                have yf1 := HE.out.1.free 1
                refine WA.one 15 (by kernel_rfl) (Do_.mk rfl (fun K hK => ?_))
                go_wp2_with fail
                refine WA.past (by kernel_rfl) ?_
                have HG := Lib.hid (st_nil HE.out.1 HE.out.2 hzo)
                generalize ((zz.setCell ⟨ob, 0, none⟩ (.slice none 0 0)).setCell ⟨ob, 1, none⟩ (.slice none 0 0)) = wG at *
                clear y0 y1 yf0 yf1 HE
                (refine WA.free 16 rfl rfl (by kernel_rfl) (fun K hK => ?_); go_big_quiet_step (fail); refine wpQuiet_nil ?_; refine hK _ ?_; clear hK K); (refine WA.free 17 rfl rfl (by kernel_rfl) (fun K hK => ?_); go_big_quiet_step (fail); refine wpQuiet_nil ?_; refine hK _ ?_; clear hK K); (refine WA.free 18 rfl rfl (by kernel_rfl) (fun K hK => ?_); go_big_quiet_step (fail); refine wpQuiet_nil ?_; refine hK _ ?_; clear hK K)
                refine WA.nil (by kernel_rfl) ?_
                go_wp2_with fail
                go_meet
                case rel => exact ⟨ob, rfl, rfl, rfl, rfl, HG.out.1, HD.out.step HG.out.2⟩
              · go_wp2_with fail
                have BO := Blk.new z0 [.slice none 0 0, .slice none 0 0] 30
                have uO := (Upd.refl [] z0).alloc (.cells #[.slice none 0 0, .slice none 0 0] 30)
                generalize hob : Array.size (World.heap z0) = ob at *
                generalize World.alloc z0 (.cells #[.slice none 0 0, .slice none 0 0] 30) = z1 at *
                refine WA.keep (Ext.of uO) ?_
                refine WA.one 8 (by kernel_rfl) (Do_.mk rfl (fun K hK => ?_))
                go_wp2_with (go_at_call 27; (with_reducible refine (HMG.out _ (HD.out.step uO)).mono ?_); rintro e zz ⟨rfl, uC⟩)
                refine WA.keep (Ext.of (uO.step uC)) ?_
                have hzo : z0.heap.size ≤ ob := by omega
                (refine WA.free 9 rfl rfl (by kernel_rfl) (fun K hK => ?_); go_big_quiet_step (fail); refine wpQuiet_nil ?_; refine hK _ ?_; clear hK K); (refine WA.free 10 rfl rfl (by kernel_rfl) (fun K hK => ?_); go_big_quiet_step (fail); refine wpQuiet_nil ?_; refine hK _ ?_; clear hK K); (refine WA.free 11 rfl rfl (by kernel_rfl) (fun K hK => ?_); go_big_quiet_step (fail); refine wpQuiet_nil ?_; refine hK _ ?_; clear hK K); (refine WA.free 12 rfl rfl (by kernel_rfl) (fun K hK => ?_); go_big_quiet_step (fail); refine wpQuiet_nil ?_; refine hK _ ?_; clear hK K); (refine WA.free 13 rfl rfl (by kernel_rfl) (fun K hK => ?_); go_big_quiet_step (fail); refine wpQuiet_nil ?_; refine hK _ ?_; clear hK K)
                have HE := Lib.hid (And.intro (BO.upd uC (by simp)) (uO.step uC))
                clear BO uO uC hob
                have y0 := HE.out.1.cell (i := 0) rfl
                have y1 := HE.out.1.cell (i := 1) rfl
                have yf0 := HE.out.1.free 0
                have yf1 := HE.out.1.free 1
                refine WA.one 15 (by kernel_rfl) (Do_.mk rfl (fun K hK => ?_))
                go_wp2_with fail
                refine WA.past (by kernel_rfl) ?_
                have HG := Lib.hid (st_nil HE.out.1 HE.out.2 hzo)
                generalize ((zz.setCell ⟨ob, 0, none⟩ (.slice none 0 0)).setCell ⟨ob, 1, none⟩ (.slice none 0 0)) = wG at *
                clear y0 y1 yf0 yf1 HE
                (refine WA.free 16 rfl rfl (by kernel_rfl) (fun K hK => ?_); go_big_quiet_step (fail); refine wpQuiet_nil ?_; refine hK _ ?_; clear hK K); (refine WA.free 17 rfl rfl (by kernel_rfl) (fun K hK => ?_); go_big_quiet_step (fail); refine wpQuiet_nil ?_; refine hK _ ?_; clear hK K); (refine WA.free 18 rfl rfl (by kernel_rfl) (fun K hK => ?_); go_big_quiet_step (fail); refine wpQuiet_nil ?_; refine hK _ ?_; clear hK K)
                refine WA.nil (by kernel_rfl) ?_
                go_wp2_with fail
                go_meet
                case rel => exact ⟨ob, rfl, rfl, rfl, rfl, HG.out.1, HD.out.step HG.out.2⟩
            case rest =>
            obtain ⟨s9, rfl, rfl, rfl, rfl, hB9, u9⟩ := hcut
            have H9 := Lib.hid (And.intro hB9 u9)
            clear hB9 u9
            have y1 := H9.out.2.some e1 (by simp)
            have y2 := H9.out.2.some e2 (by simp)
            have y3 := H9.out.2.some e3 (by simp)
            have y4 := H9.out.2.some e4 (by simp)
            have HK1 := Lib.hid (HCP _ H9.out.2)
            go_upto_region 11 with (go_at_call 10; (with_reducible refine HK1.out.mono ?_); rintro e wd0 ⟨rfl, ud0⟩)
            clear y1 y2 y3 y4
            have y1 := (H9.out.2.step ud0).some e1 (by simp)
            have y2 := (H9.out.2.step ud0).some e2 (by simp)
            have y3 := (H9.out.2.step ud0).some e3 (by simp)
            have y4 := (H9.out.2.step ud0).some e4 (by simp)
            have HK2 := Lib.hid (HCQ _ (H9.out.2.step ud0))
            go_upto_region 16 with (go_at_call 10; (with_reducible refine HK2.out.mono ?_); rintro e wd ⟨rfl, ud⟩)
            have H11 := Lib.hid (And.intro ((H9.out.1.upd ud0 (by simp)).upd ud (by simp)) ((H9.out.2.step ud0).step ud))
            have b0 := H11.out.1.cell (i := 0) rfl
            have b1 := H11.out.1.cell (i := 1) rfl
            go_wp2_with fail
            exact ⟨⟨k + 1, by go_num, by omega, HU.out.step H11.out.2⟩, by simp [intOf]; omega⟩
        · have HMG := Lib.hid (fun (W : World) (u : Upd [] wo W) => Merge_bad1 (HP.out.1.ext' u) (HP.out.2.1.ext' u) hc1)
          have hb2 : (check p != 0) = true := by simpa using hc1
          have hb3 : (check p == 0) = false := by simpa using hc1
          generalize check p = z at *
          clear hc1 HCQ
          have hb1 : (z != z) = false := by simp
          go_upto_region 9 with fail
          go_cut [15, 16, 17, 18] (fun a b c d w' => ∃ (s : Nat), a = .pointer (some ⟨s, 0, none⟩) ∧ b = .slice none 0 0 ∧ c = .slice none 0 0 ∧ d = .int .i64 z ∧ Blk w' s [.slice none 0 0, .slice none 0 0] 30 ∧ Upd [] wo w')
          case first =>
            have HD := Lib.hid ((Upd.refl [] wo).drew)
            have f1 := HD.out.some e1 (by simp)
            have f2 := HD.out.some e2 (by simp)
            have f3 := HD.out.some e3 (by simp)
            have f4 := HD.out.some e4 (by simp)
            clear e1 e2 e3 e4
            refine wp_region_wa 19 15 (fun w' => ∃ x : Ext wo.drew, w' = x.val) (by kernel_rfl) (by kernel_rfl) (Ext.of (Upd.refl _ _)) ?_
            generalize wo.drew = z0 at *
            (refine WA.free 0 rfl rfl (by kernel_rfl) (fun K hK => ?_); go_big_quiet_step (fail); refine wpQuiet_nil ?_; refine hK _ ?_; clear hK K); (refine WA.free 1 rfl rfl (by kernel_rfl) (fun K hK => ?_); go_big_quiet_step (fail); refine wpQuiet_nil ?_; refine hK _ ?_; clear hK K); (refine WA.free 2 rfl rfl (by kernel_rfl) (fun K hK => ?_); go_big_quiet_step (fail); refine wpQuiet_nil ?_; refine hK _ ?_; clear hK K)
            (refine WA.load 3 19 rfl rfl (by kernel_rfl) (by kernel_rfl) (fun K hK => ?_); go_big_quiet_step (fail); refine wpQuiet_nil ?_; refine hK _ ?_; clear hK K)
            (refine WA.free 4 rfl rfl (by kernel_rfl) (fun K hK => ?_); go_big_quiet_step (fail); refine wpQuiet_nil ?_; refine hK _ ?_; clear hK K); (refine WA.free 5 rfl rfl (by kernel_rfl) (fun K hK => ?_); go_big_quiet_step (fail); refine wpQuiet_nil ?_; refine hK _ ?_; clear hK K); (refine WA.free 6 rfl rfl (by kernel_rfl) (fun K hK => ?_); go_big_quiet_step (fail); refine wpQuiet_nil ?_; refine hK _ ?_; clear hK K)
            (refine WA.load 7 19 rfl rfl (by kernel_rfl) (by kernel_rfl) (fun K hK => ?_); go_big_quiet_step (fail); refine wpQuiet_nil ?_; refine hK _ ?_; clear hK K)
            refine WA.two 8 14 (by kernel_rfl) (Do_.mk rfl (fun K hK => ?_)) (Do_.mk rfl (fun K hK => ?_))
            · go_wp2_with (go_at_call 27; (with_reducible refine (HMG.out _ (HD.out.step (Upd.refl [] z0))).mono ?_); rintro e z1 ⟨rfl, uC⟩)
              refine WA.keep (Ext.of uC) ?_
              (refine WA.free 9 rfl rfl (by kernel_rfl) (fun K hK => ?_); go_big_quiet_step (fail); refine wpQuiet_nil ?_; refine hK _ ?_; clear hK K); (refine WA.free 10 rfl rfl (by kernel_rfl) (fun K hK => ?_); go_big_quiet_step (fail); refine wpQuiet_nil ?_; refine hK _ ?_; clear hK K); (refine WA.free 11 rfl rfl (by kernel_rfl) (fun K hK => ?_); go_big_quiet_step (fail); refine wpQuiet_nil ?_; refine hK _ ?_; clear hK K); (refine WA.free 12 rfl rfl (by kernel_rfl) (fun K hK => ?_); go_big_quiet_step (fail); refine wpQuiet_nil ?_; refine hK _ ?_; clear hK K); (refine WA.free 13 rfl rfl (by kernel_rfl) (fun K hK => ?_); go_big_quiet_step (fail); refine wpQuiet_nil ?_; refine hK _ ?_; clear hK K)
              refine WA.one 14 (by kernel_rfl) (Do_.mk rfl (fun K hK => ?_))
              go_wp2_with fail
              have BO := Blk.new z1 [.slice none 0 0, .slice none 0 0] 30
              have uO := (Upd.refl [] z1).alloc (.cells #[.slice none 0 0, .slice none 0 0] 30)
              generalize hob : Array.size (World.heap z1) = ob at *
              generalize World.alloc z1 (.cells #[.slice none 0 0, .slice none 0 0] 30) = zz at *
              refine WA.keep (Ext.of (uC.step uO)) ?_
              have hzo : z0.heap.size ≤ ob := by have := uC.size; omega
              have HE := Lib.hid (And.intro BO (uC.step uO))
              clear BO uO uC hob
              have y0 := HE.out.1.cell (i := 0) rfl
              have y1 := HE.out.1.cell (i := 1) rfl
              have yf0 := HE.out.1.free 0
              have yf1 := HE.out.1.free 1
              refine WA.one 15 (by kernel_rfl) (Do_.mk rfl (fun K hK => ?_))
              go_wp2_with fail
              refine WA.past (by kernel_rfl) ?_
              have HG := Lib.hid (st_nil HE.out.1 HE.out.2 hzo)
              generalize ((zz.setCell ⟨ob, 0, none⟩ (.slice none 0 0)).setCell ⟨ob, 1, none⟩ (.slice none 0 0)) = wG at *
              clear y0 y1 yf0 yf1 HE
              (refine WA.free 16 rfl rfl (by kernel_rfl) (fun K hK => ?_); go_big_quiet_step (fail); refine wpQuiet_nil ?_; refine hK _ ?_; clear hK K); (refine WA.free 17 rfl rfl (by kernel_rfl) (fun K hK => ?_); go_big_quiet_step (fail); refine wpQuiet_nil ?_; refine hK _ ?_; clear hK K); (refine WA.free 18 rfl rfl (by kernel_rfl) (fun K hK => ?_); go_big_quiet_step (fail); refine wpQuiet_nil ?_; refine hK _ ?_; clear hK K)
              refine WA.nil (by kernel_rfl) ?_
              go_wp2_with fail
              go_meet
              case rel => exact ⟨ob, rfl, rfl, rfl, rfl, HG.out.1, HD.out.step HG.out.2⟩
            · go_wp2_with fail
              have BO := Blk.new z0 [.slice none 0 0, .slice none 0 0] 30
              have uO := (Upd.refl [] z0).alloc (.cells #[.slice none 0 0, .slice none 0 0] 30)
              generalize hob : Array.size (World.heap z0) = ob at *
              generalize World.alloc z0 (.cells #[.slice none 0 0, .slice none 0 0] 30) = z1 at *
              refine WA.keep (Ext.of uO) ?_
              refine WA.one 8 (by kernel_rfl) (Do_.mk rfl (fun K hK => ?_))
              go_wp2_with (go_at_call 27; (with_reducible refine (HMG.out _ (HD.out.step uO)).mono ?_); rintro e zz ⟨rfl, uC⟩)
              refine WA.keep (Ext.of (uO.step uC)) ?_
              have hzo : z0.heap.size ≤ ob := by omega
              (refine WA.free 9 rfl rfl (by kernel_rfl) (fun K hK => ?_); go_big_quiet_step (fail); refine wpQuiet_nil ?_; refine hK _ ?_; clear hK K); (refine WA.free 10 rfl rfl (by kernel_rfl) (fun K hK => ?_); go_big_quiet_step (fail); refine wpQuiet_nil ?_; refine hK _ ?_; clear hK K); (refine WA.free 11 rfl rfl (by kernel_rfl) (fun K hK => ?_); go_big_quiet_step (fail); refine wpQuiet_nil ?_; refine hK _ ?_; clear hK K); (refine WA.free 12 rfl rfl (by kernel_rfl) (fun K hK => ?_); go_big_quiet_step (fail); refine wpQuiet_nil ?_; refine hK _ ?_; clear hK K); (refine WA.free 13 rfl rfl (by kernel_rfl) (fun K hK => ?_); go_big_quiet_step (fail); refine wpQuiet_nil ?_; refine hK _ ?_; clear hK K)
              have HE := Lib.hid (And.intro (BO.upd uC (by simp)) (uO.step uC))
              clear BO uO uC hob
              have y0 := HE.out.1.cell (i := 0) rfl
              have y1 := HE.out.1.cell (i := 1) rfl
              have yf0 := HE.out.1.free 0
              have yf1 := HE.out.1.free 1
              refine WA.one 15 (by kernel_rfl) (Do_.mk rfl (fun K hK => ?_))
              go_wp2_with fail
              refine WA.past (by kernel_rfl) ?_
              have HG := Lib.hid (st_nil HE.out.1 HE.out.2 hzo)
              generalize ((zz.setCell ⟨ob, 0, none⟩ (.slice none 0 0)).setCell ⟨ob, 1, none⟩ (.slice none 0 0)) = wG at *
              clear y0 y1 yf0 yf1 HE
              (refine WA.free 16 rfl rfl (by kernel_rfl) (fun K hK => ?_); go_big_quiet_step (fail); refine wpQuiet_nil ?_; refine hK _ ?_; clear hK K); (refine WA.free 17 rfl rfl (by kernel_rfl) (fun K hK => ?_); go_big_quiet_step (fail); refine wpQuiet_nil ?_; refine hK _ ?_; clear hK K); (refine WA.free 18 rfl rfl (by kernel_rfl) (fun K hK => ?_); go_big_quiet_step (fail); refine wpQuiet_nil ?_; refine hK _ ?_; clear hK K)
              refine WA.nil (by kernel_rfl) ?_
              go_wp2_with fail
              go_meet
              case rel => exact ⟨ob, rfl, rfl, rfl, rfl, HG.out.1, HD.out.step HG.out.2⟩
          case rest =>
          obtain ⟨s9, rfl, rfl, rfl, rfl, hB9, u9⟩ := hcut
          have H9 := Lib.hid (And.intro hB9 u9)
          clear hB9 u9
          have y1 := H9.out.2.some e1 (by simp)
          have y2 := H9.out.2.some e2 (by simp)
          have y3 := H9.out.2.some e3 (by simp)
          have y4 := H9.out.2.some e4 (by simp)
          have HK1 := Lib.hid (HCP _ H9.out.2)
          go_upto_region 16 with (go_at_call 10; (with_reducible refine HK1.out.mono ?_); rintro e wd ⟨rfl, ud⟩)
          have H11 := Lib.hid (And.intro (H9.out.1.upd ud (by simp)) (H9.out.2.step ud))
          have b0 := H11.out.1.cell (i := 0) rfl
          have b1 := H11.out.1.cell (i := 1) rfl
          go_wp2_with fail
          exact ⟨⟨k + 1, by go_num, by omega, HU.out.step H11.out.2⟩, by simp [intOf]; omega⟩
    · have hii : ¬ (i : Int) < 4 := by omega
      have HL := Lib.hid (lives_calls (w := wi))
      go_wp2_with (go_at_call 17; (with_reducible refine HL.out.mono ?_); rintro e w9 ⟨rfl, u9⟩)
      go_ret
      exact ⟨rfl, (H2.out.2.2.step HUi.out).step u9⟩
end
end Trim
end Go.Proofs.Ytnmfihgdedifoaa
