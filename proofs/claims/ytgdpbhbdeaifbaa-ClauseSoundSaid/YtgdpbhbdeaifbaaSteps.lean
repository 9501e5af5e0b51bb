/- Walks through the laws of clauses: ClauseSteps. Conditions: none. -/
import Derived.Test.YtgdpbhbdeaifbaaLives14
set_option linter.unusedVariables false
set_option linter.unusedSimpArgs false
set_option linter.unusedSectionVars false
open Go.RowKit
namespace Go.Proofs.Ytgdpbhbdeaifbaa
open L
namespace Law
open R01 R14 Cla
/-- A generated clause. -/
def Good (vars : Int) (c : List Int) : Prop := (∀ x ∈ c, 1 ≤ x.natAbs ∧ (x.natAbs : Int) ≤ vars) ∧ c.length ≤ vars.toNat ∧ Cla.Ord c
theorem listErr_good {vars : Int} {c : List Int} (h : Good vars c) (hv : vars ≤ 100) : listErr c = 0 := by
  unfold listErr
  have := h.2.1
  rw [if_neg (by omega), if_pos]
  rw [List.all_eq_true]
  intro x hx
  have := h.1 x hx
  have h0 : x ≠ 0 := by omega
  simp [isL, h0]; omega
theorem valid_good {vars : Int} {c : List Int} (h : Good vars c) (hv : vars ≤ 100) : validErr c = 0 := validErr_ok.2 ⟨listErr_good h hv, h.2.2⟩
theorem left_nil {no h : List Int} : left no h = [] ↔ ∀ x ∈ h, x ∈ no := by
  unfold left
  rw [List.filter_eq_nil_iff]
  constructor
  · intro h x hx; have := h x hx; simpa [hasB_iff] using this
  · intro h x hx; have := h x hx; simp [hasB_iff.2 this]
/-- One hint alone shows what it subsumes. -/
theorem chain_one {a b : List Int} (ha : validErr a = 0) (hb : validErr b = 0) : chainRes b [a] = 0 ↔ ∀ x ∈ a, x ∈ b := by
  unfold chainRes
  rw [if_neg (by rw [hb]; simp), if_neg (by simp [examErr, ha])]
  rw [← left_nil]
  unfold chainLoop
  rcases hL : left b a with _ | ⟨x, _ | ⟨y, r⟩⟩
  · simp
  · simp only
    constructor
    · intro h
      split at h
      · cases h
      · simp [chainLoop] at h
    · intro h; cases h
  · simp
/-- A resolvent is shown by both. -/
theorem filter_one {a : List Int} {x : Int} (ha : Cla.Ord a) (hx : x ∈ a) (p : Int → Bool) (hp : ∀ y ∈ a, p y = true ↔ y = x) : a.filter p = [x] := by
  refine ord_unique (ha.sublist List.filter_sublist) (by simp [Cla.Ord]) (fun y => ?_)
  rw [List.mem_filter, List.mem_singleton]
  constructor
  · rintro ⟨h1, h2⟩; exact (hp y h1).1 h2
  · rintro rfl; exact ⟨hx, (hp _ hx).2 rfl⟩
theorem chain_two {a b : List Int} {x : Int} (ha : validErr a = 0) (hb : validErr b = 0) (hab : a.length + b.length ≤ 65536) (hr : resE a b x = 0) : chainRes (resL a b x) [a, b] = 0 := by
  have hva := valid_lit ha
  have hvb := valid_lit hb
  have hR : resE a b x = if hasB a x = false ∨ hasB b (-x) = false then 7 else if taut (rest2 a b x) = true then 13 else 0 := by
    unfold resE; rw [if_neg (by rw [ha]; simp), if_neg (by rw [hb]; simp)]
  have hL : resL a b x = norm (rest2 a b x) := by unfold resL; rw [if_pos hr]
  rw [hR] at hr
  split at hr
  · cases hr
  rename_i hh
  split at hr
  · cases hr
  rename_i ht
  simp only [not_or, Bool.not_eq_false] at hh
  have hxa := hasB_iff.1 hh.1
  have hxb := hasB_iff.1 hh.2
  have hx0 := (hva.2 x hxa).1
  have ht' : taut (rest2 a b x) = false := by simpa using ht
  have hm : ∀ y, y ∈ resL a b x ↔ (y ∈ a ∧ y ≠ x) ∨ (y ∈ b ∧ y ≠ -x) := fun y => by rw [hL, norm_mem, rest2, List.mem_append, wout_mem, wout_mem]
  have hord : Cla.Ord (resL a b x) := by rw [hL]; exact norm_ord ht'
  have hlit : ∀ y ∈ resL a b x, y ≠ 0 ∧ LitR y := fun y hy => by
    rcases (hm y).1 hy with h | h
    · exact hva.2 y h.1
    · exact hvb.2 y h.1
  have hao := (validErr_ok.1 ha).2
  have hbo := (validErr_ok.1 hb).2
  have hna : -x ∉ a := by
    intro h
    have := taut_no.1 (norm_id hao (fun y hy => (hva.2 y hy).1)).2 x hxa
    exact this h
  have hnb : x ∉ b := by
    intro h
    have := taut_no.1 (norm_id hbo (fun y hy => (hvb.2 y hy).1)).2 x h
    exact this hxb
  have hxr : x ∉ resL a b x := by
    intro h
    rcases (hm x).1 h with h | h
    · exact h.2 rfl
    · exact hnb h.1
  have hnxr : -x ∉ resL a b x := by
    intro h
    rcases (hm (-x)).1 h with h | h
    · exact hna h.1
    · exact h.2 rfl
  have hrl : (resL a b x).length ≤ 65536 := by
    rw [hL]
    have h1 := norm_length (rest2 a b x)
    have h2 := wout_length a x
    have h3 := wout_length b (-x)
    have h4 : (rest2 a b x).length = (wout a x).length + (wout b (-x)).length := by simp [rest2]
    omega
  have hlr : listErr (resL a b x) = 0 := by
    unfold listErr
    rw [if_neg (by omega), if_pos]
    rw [List.all_eq_true]
    intro y hy
    obtain ⟨h1, h2, h3⟩ := hlit y hy
    simp [isL, h1, h2, h3]
  have hvr : validErr (resL a b x) = 0 := validErr_ok.2 ⟨hlr, hord⟩
  have e1 : left (resL a b x) a = [x] := by
    refine filter_one hao hxa _ (fun y hy => ?_)
    constructor
    · intro h
      apply Classical.byContradiction
      intro hne
      rw [hasB_iff.2 ((hm y).2 (.inl ⟨hy, hne⟩))] at h
      cases h
    · rintro rfl
      rw [hasB_no.2 hxr]; rfl
  have e2 : left (resL a b x ++ [-x]) b = [] := by
    rw [left_nil]
    intro y hy
    rw [List.mem_append, List.mem_singleton]
    by_cases hne : y = -x
    · exact .inr hne
    · exact .inl ((hm y).2 (.inr ⟨hy, hne⟩))
  unfold chainRes
  rw [if_neg (by rw [hvr]; simp), if_neg (by simp [examErr, ha, hb])]
  unfold chainLoop
  rw [e1]
  simp only
  rw [if_neg (by rw [hasB_no.2 hnxr]; simp)]
  unfold chainLoop
  rw [e2]
  rfl
theorem subsE_good {vars : Int} {c d : List Int} (hv : vars ≤ 100) (h1 : Good vars c) (h2 : Good vars d) : subsE c d = 0 := by
  unfold subsE
  rw [listErr_good h1 hv, listErr_good h2 hv]
  rfl
theorem subsB_good {vars : Int} {c d : List Int} (hv : vars ≤ 100) (h1 : Good vars c) (h2 : Good vars d) : subsB c d = decide (chainRes d [c] = 0) := by
  unfold subsB
  rw [Bool.eq_iff_iff, decide_eq_true_eq, decide_eq_true_eq, chain_one (valid_good h1 hv) (valid_good h2 hv)]
  constructor
  · rintro ⟨_, _, h⟩; exact h
  · intro h; exact ⟨listErr_good h1 hv, listErr_good h2 hv, h⟩
theorem SL.takeV {w : World} {a : Option Addr} {n m cap : Nat} {vs : List Value} (h : SL w 1 (.slice a n cap) n vs) (hm : m ≤ n) : SL w 1 (.slice a m cap) m (vs.take m) := by
  obtain ⟨h1, a', cap', he, h2, h3, h5, h4⟩ := h
  cases he
  refine ⟨by rw [List.length_take]; omega, a, cap, rfl, by omega, h3, h5, ?_⟩
  rcases h4 with h4 | ⟨b, off, rfl, h4⟩
  · left; omega
  · refine .inr ⟨b, off, rfl, fun j u hj => h4 j u ?_⟩
    rw [List.getElem?_take] at hj
    split at hj
    · exact hj
    · cases hj
theorem CL.one {w : World} {a : Option Addr} {cap i : Nat} {cs : List (List Int)} (h : CL w (.slice a cs.length cap) cs) (hi : i < cs.length) : CL w (sliced a i (i + 1) cap 1) [cs.getD i []] := by
  obtain ⟨vals, h1, h2, h3⟩ := h.ex
  have e : (cs.take (i + 1)).drop i = [cs.getD i []] := by
    rw [List.take_add_one, gd_some (d := []) hi, List.drop_left' (by rw [List.length_take]; omega)]
    rfl
  have hS := SL.takeV h2 (m := i + 1) (by omega)
  have hS2 := L.SL.from_ hS (show i ≤ i + 1 by omega)
  rw [show i + 1 - i = 1 by omega] at hS2
  refine ⟨(vals.take (i + 1)).drop i, by rw [List.length_drop, List.length_take]; simp; omega, hS2, fun j c hj => ?_⟩
  match j with
  | 0 =>
    simp only [List.getElem?_cons_zero, Option.some.injEq] at hj
    subst hj
    rw [List.getElem?_drop, List.getElem?_take, if_pos (by omega)]
    exact h3 _ _ (gd_some hi)
  | (j + 1) => simp at hj
attribute [-go_sem] sliced
section
variable {w : World}
set_option maxRecDepth 100000 in
set_option maxHeartbeats 8000000 in
theorem ClauseSteps_calls {lv : Value} {xs : List Int} (hx : ∀ x ∈ xs, IsI64 x) (hl : SL w 1 lv xs.length (ints xs)) :
    Calls Try.prog 6 #[lv] w fun e w' => e = .returned (.bool true) ∧ Upd [] w w' := by
  have HX := Lib.hid (And.intro hx hl)
  clear hx hl
  go_enter Try.func6, Try.ntmps6
  go_wp2_with fail
  refine (Hints_calls HX.out.1 HX.out.2 5 (by omega) (by omega)).mono ?_
  rintro e w1 ⟨v1, Ls, rfl, hcl, hln, hel, hu1⟩
  obtain ⟨a, cap, rfl, hc1, hc2, hcc⟩ := hcl.form
  have HL := Lib.hid (And.intro hcc (And.intro (show ∀ c ∈ Ls, Good 5 c from hel) (And.intro hcl hu1)))
  clear hcl hel hu1 hcc HX
  go_wp2_with fail
  go_loopw [4] (fun i wr => ∃ k : Nat, k ≤ Ls.length ∧ i = .int .i64 k ∧ Upd [] w1 wr) (fun i _ => Ls.length - (intOf i).toNat)
  case atStart => exact ⟨0, Nat.zero_le _, rfl, Upd.refl _ _⟩
  case round =>
    obtain ⟨i, hi, rfl, hu⟩ := hrel
    have HU := Lib.hid hu
    clear hu
    by_cases hlt : i < Ls.length
    · obtain ⟨wo, rfl⟩ : ∃ wo : World, wo = wr := ⟨_, rfl⟩
      go_wp2_with fail
      go_loopw [5] (fun k wr => ∃ j : Nat, j ≤ Ls.length ∧ k = .int .i64 j ∧ Upd [] w1 wr) (fun k _ => Ls.length - (intOf k).toNat)
      case atStart => exact ⟨0, Nat.zero_le _, rfl, HU.out⟩
      case round =>
        clear HU
        obtain ⟨w2, rfl⟩ : ∃ w2 : World, w2 = wr := ⟨_, rfl⟩
        obtain ⟨j, hj, rfl, hu⟩ := hrel
        by_cases hltj : j < Ls.length
        · have hone := CL.one (HL.out.2.2.1.upd hu) hlt
          obtain ⟨g, off, ay, capy, rfl, e1, hsl, _, _⟩ := (HL.out.1 i hlt).upd hu
          obtain ⟨g', off', az, capz, he, e2, hsl2, _, _⟩ := (HL.out.1 j hltj).upd hu
          cases he
          have HG := Lib.hid (And.intro (HL.out.2.1 _ (gd_memA (d := []) hlt)) (HL.out.2.1 _ (gd_memA (d := []) hltj)))
          have H0 := Lib.hid (And.intro hu (And.intro hsl (And.intro hsl2 hone)))
          generalize Ls.getD i [] = c at *
          generalize Ls.getD j [] = d at *
          clear hu hsl hsl2 hone
          have HSE := Lib.hid (And.intro (subsE_good (by omega) HG.out.1 HG.out.2) (subsB_good (by omega) HG.out.1 HG.out.2))
          go_wp2_with fail
          refine wp_region_qx (by kernel_rfl) (by kernel_rfl) ?_
          repeat (go_big_quiet_step (((go_at_call 23; exact qx (Subs_calls (H0.out.2.1.upd (Ext.upd _) (by simp)) (H0.out.2.2.1.upd (Ext.upd _) (by simp)))))))
          refine wpQuiet_nil ?_
          intro x
          rw [HSE.out.1, HSE.out.2]
          have e1' := x.upd.some e1 (by simp)
          have e2' := x.upd.some e2 (by simp)
          have H1 := Lib.hid (And.intro (H0.out.1.step x.upd) (And.intro (H0.out.2.1.upd x.upd (by simp)) (And.intro (H0.out.2.2.1.upd x.upd (by simp)) (H0.out.2.2.2.upd x.upd))))
          clear e1 e2 H0
          generalize x.val = w3 at *
          clear x
          have HCH := Lib.hid (fun (w' : World) (u' : Upd [] w3 w') => (show Calls Try.prog 14 _ w' (fun e w'' => e = .returned (.int .i64 (chainRes d [c])) ∧ Upd [] w' w'') from Chain_calls (H1.out.2.2.1.upd u' (by simp)) (H1.out.2.2.2.upd u') (by simp)))
          generalize chainRes d [c] = cr at *
          go_upto_region 9 with fail
          go_cut [6, 53] (fun _ t w' => t = .bool false ∧ Upd [] w3 w')
          case first =>
            by_cases hcr : cr = 0
            · subst hcr
              rw [show decide ((0 : Int) = 0) = true from rfl]
              refine wp_region_qx (by kernel_rfl) (by kernel_rfl) ?_
              repeat (go_big_quiet_step (((go_at_call 14; exact qx (HCH.out _ (Ext.upd _))))))
              refine wpQuiet_nil ?_
              intro x
              go_wp2_with fail
              go_meet
              case rel => exact ⟨rfl, x.upd⟩
            · have hb : (cr == 0) = false := by simpa using hcr
              rw [decide_eq_false hcr]
              clear hcr
              refine wp_region_qx (by kernel_rfl) (by kernel_rfl) ?_
              repeat (go_big_quiet_step (((go_at_call 14; exact qx (HCH.out _ (Ext.upd _))))))
              refine wpQuiet_nil ?_
              intro x
              go_wp2_with fail
              go_meet
              case rel => exact ⟨rfl, x.upd⟩
          case rest =>
          obtain ⟨rfl, hu4⟩ := hcut
          have e1 := hu4.some e1' (by simp)
          have e2 := hu4.some e2' (by simp)
          have H2 := Lib.hid (And.intro (H1.out.1.step hu4) (And.intro (H1.out.2.1.upd hu4 (by simp)) (H1.out.2.2.1.upd hu4 (by simp))))
          clear e1' e2' H1 HCH hu4
          obtain ⟨w4, rfl⟩ : ∃ w4 : World, w4 = wc := ⟨_, rfl⟩
          have HE := Lib.hid (And.intro e1 (And.intro e2 H2.out))
          clear e1 e2 H2
          go_wp2_with fail
          go_loopw [8] (fun p wr => ∃ q : Int, -5 ≤ q ∧ q ≤ 6 ∧ p = .int .i64 q ∧ Upd [] w4 wr) (fun p _ => (6 - intOf p).toNat)
          case atStart => exact ⟨-5, by omega, by omega, rfl, Upd.refl _ _⟩
          case round =>
            obtain ⟨q, hq1, hq2, rfl, hu⟩ := hrel
            have e1 := hu.some HE.out.1 (by simp)
            have e2 := hu.some HE.out.2.1 (by simp)
            have H5 := Lib.hid (And.intro hu (And.intro (HE.out.2.2.2.1.upd hu (by simp)) (HE.out.2.2.2.2.upd hu (by simp))))
            by_cases hq : q ≤ 5
            · clear hu
              obtain ⟨w5, rfl⟩ : ∃ w5 : World, w5 = wr := ⟨_, rfl⟩
              go_wp2_with fail
              refine wp_region_ord 9 1 [0, 1, 2, 3, 4, 5, 6, 7, 8, 10, 11, 12, 13, 14] [3, 7] [0, 1, 2, 3, 4, 5, 6, 7, 8, 9, 10, 11, 12, 13, 14] (fun w' => ∃ x : Ext w5, w' = x.val) (by kernel_rfl) (by kernel_rfl) (Ext.of (by iterate 25 (first | exact Upd.refl _ _ | assumption | refine Upd.alloc ?_ _ | refine Upd.drew ?_ | refine Upd.drewN ?_ _ | refine Upd.dl ?_ | refine Upd.step ?_ (Ext.upd _) | refine Upd.nil ?_ | skip))) ?_
              repeat (first | (refine wpOrd_load rfl rfl rfl rfl (fun K hK => ?_); go_big_quiet_step (fail); refine wpQuiet_nil ?_; refine hK _ ?_; clear hK K) | (refine wpOrd_free rfl rfl rfl (fun K hK => ?_); go_big_quiet_step (fail); refine wpQuiet_nil ?_; refine hK _ ?_; clear hK K))
              refine wpOrd_fix rfl rfl (fun K hK => ?_)
              go_wp2_with (go_at_call 25; refine (Resolve_calls (H5.out.2.1.upd (S := []) (by iterate 25 (first | exact Upd.refl _ _ | assumption | refine Upd.alloc ?_ _ | refine Upd.drew ?_ | refine Upd.drewN ?_ _ | refine Upd.dl ?_ | refine Upd.step ?_ (Ext.upd _) | refine Upd.nil ?_ | skip)) (by simp)) (H5.out.2.2.upd (S := []) (by iterate 25 (first | exact Upd.refl _ _ | assumption | refine Upd.alloc ?_ _ | refine Upd.drew ?_ | refine Upd.drewN ?_ _ | refine Upd.dl ?_ | refine Upd.step ?_ (Ext.upd _) | refine Upd.nil ?_ | skip)) (by simp)) q).mono ?_; rintro e w6 ⟨v6, rfl, s6, u6⟩)
              have H6 := Lib.hid (And.intro s6 (show Upd [] w5 w6 from Upd.step (by iterate 25 (first | exact Upd.refl _ _ | assumption | refine Upd.alloc ?_ _ | refine Upd.drew ?_ | refine Upd.drewN ?_ _ | refine Upd.dl ?_ | refine Upd.step ?_ (Ext.upd _) | refine Upd.nil ?_ | skip)) u6))
              have e1' := H6.out.2.some e1 (by simp)
              have e2' := H6.out.2.some e2 (by simp)
              clear s6 u6
              refine ⟨fun hC => absurd hC (by decide), ?_⟩
              repeat (first | (refine wpOrd_load rfl rfl rfl rfl (fun K hK => ?_); go_big_quiet_step (fail); refine wpQuiet_nil ?_; refine hK _ ?_; clear hK K) | (refine wpOrd_free rfl rfl rfl (fun K hK => ?_); go_big_quiet_step (fail); refine wpQuiet_nil ?_; refine hK _ ?_; clear hK K))
              refine wpOrd_nil ?_
              have H7 := Lib.hid (And.intro (H5.out.1.step H6.out.2) (And.intro (H5.out.2.1.upd H6.out.2 (by simp)) (And.intro (H5.out.2.2.upd H6.out.2 (by simp)) H6.out.1)))
              clear e1 e2 H5 H6
              by_cases hre : resE c d q = 0
              · have HCT := Lib.hid (chain_two (valid_good HG.out.1 (by omega)) (valid_good HG.out.2 (by omega)) (by have h1 := HG.out.1.2.1; have h2 := HG.out.2.2.1; omega) hre)
                rw [hre]
                clear hre
                generalize resL c d q = rl at *
                go_wp2_with fail
                refine wp_region_ord 12 1 [0, 1, 2, 3, 4, 5, 6, 7, 8, 9, 10, 11, 14, 15] [7, 11] [0, 1, 2, 3, 4, 5, 6, 7, 8, 9, 10, 11, 12, 13, 14, 15] (fun w' => ∃ x : Ext w6, w' = x.val) (by kernel_rfl) (by kernel_rfl) (Ext.of (by iterate 25 (first | exact Upd.refl _ _ | assumption | refine Upd.alloc ?_ _ | refine Upd.drew ?_ | refine Upd.drewN ?_ _ | refine Upd.dl ?_ | refine Upd.step ?_ (Ext.upd _) | refine Upd.nil ?_ | skip))) ?_
                repeat (first | (refine wpOrd_load rfl rfl rfl rfl (fun K hK => ?_); go_big_quiet_step (fail); refine wpQuiet_nil ?_; refine hK _ ?_; clear hK K) | (refine wpOrd_free rfl rfl rfl (fun K hK => ?_); go_big_quiet_step (fail); refine wpQuiet_nil ?_; refine hK _ ?_; clear hK K))
                refine wpOrd_fix rfl rfl (fun K hK => ?_)
                go_wp2_with fail
                have B7 := (Blk.new w6 [.slice ay c.length capy, .slice az d.length capz] 22).drew
                have U7 := ((Upd.refl [] w6).alloc (.cells #[.slice ay c.length capy, .slice az d.length capz] 22)).drew
                generalize World.drew (w6.alloc (.cells #[.slice ay c.length capy, .slice az d.length capz] 22)) = w7 at *
                have hch := Chain_calls (c := rl) (hs := [c, d]) (H7.out.2.2.2.upd U7 (by simp)) (cl_two B7 (H7.out.2.1.upd U7 (by simp)) (H7.out.2.2.1.upd U7 (by simp))) (by simp)
                rw [HCT.out] at hch
                have H8 := Lib.hid (And.intro hch (H7.out.1.step U7))
                clear B7 U7 hch
                refine ⟨fun hC => absurd hC (by decide), ?_⟩
                repeat (first | (refine wpOrd_load rfl rfl rfl rfl (fun K hK => ?_); go_big_quiet_step (fail); refine wpQuiet_nil ?_; refine hK _ ?_; clear hK K) | (refine wpOrd_free rfl rfl rfl (fun K hK => ?_); go_big_quiet_step (fail); refine wpQuiet_nil ?_; refine hK _ ?_; clear hK K))
                refine wpOrd_fix rfl rfl (fun K hK => ?_)
                go_wp2_with (go_at_call 14; refine H8.out.1.mono ?_; rintro e w8 ⟨rfl, u8⟩)
                refine ⟨fun hC => absurd hC (by decide), ?_⟩
                repeat (first | (refine wpOrd_load rfl rfl rfl rfl (fun K hK => ?_); go_big_quiet_step (fail); refine wpQuiet_nil ?_; refine hK _ ?_; clear hK K) | (refine wpOrd_free rfl rfl rfl (fun K hK => ?_); go_big_quiet_step (fail); refine wpQuiet_nil ?_; refine hK _ ?_; clear hK K))
                refine wpOrd_nil ?_
                go_wp2_with fail
                exact ⟨⟨q + 1, by omega, by omega, by go_num, Upd.step (H8.out.2.step u8) (by iterate 25 (first | exact Upd.refl _ _ | assumption | refine Upd.alloc ?_ _ | refine Upd.drew ?_ | refine Upd.drewN ?_ _ | refine Upd.dl ?_ | refine Upd.step ?_ (Ext.upd _) | refine Upd.nil ?_ | skip))⟩, by simp [intOf]; omega⟩
              · have hb2 : (resE c d q == 0) = false := by simpa using hre
                clear hre
                generalize resE c d q = re at *
                go_wp2_with fail
                refine wp_region_ord 12 1 [0, 1, 2, 3, 4, 5, 6, 7, 8, 9, 10, 11, 14, 15] [7, 11] [0, 1, 2, 3, 4, 5, 6, 7, 8, 9, 10, 11, 12, 13, 14, 15] (fun w' => ∃ x : Ext w6, w' = x.val) (by kernel_rfl) (by kernel_rfl) (Ext.of (by iterate 25 (first | exact Upd.refl _ _ | assumption | refine Upd.alloc ?_ _ | refine Upd.drew ?_ | refine Upd.drewN ?_ _ | refine Upd.dl ?_ | refine Upd.step ?_ (Ext.upd _) | refine Upd.nil ?_ | skip))) ?_
                repeat (first | (refine wpOrd_load rfl rfl rfl rfl (fun K hK => ?_); go_big_quiet_step (fail); refine wpQuiet_nil ?_; refine hK _ ?_; clear hK K) | (refine wpOrd_free rfl rfl rfl (fun K hK => ?_); go_big_quiet_step (fail); refine wpQuiet_nil ?_; refine hK _ ?_; clear hK K))
                refine wpOrd_fix rfl rfl (fun K hK => ?_)
                go_wp2_with fail
                refine ⟨fun hC => absurd hC (by decide), ?_⟩
                repeat (first | (refine wpOrd_load rfl rfl rfl rfl (fun K hK => ?_); go_big_quiet_step (fail); refine wpQuiet_nil ?_; refine hK _ ?_; clear hK K) | (refine wpOrd_free rfl rfl rfl (fun K hK => ?_); go_big_quiet_step (fail); refine wpQuiet_nil ?_; refine hK _ ?_; clear hK K))
                refine wpOrd_fix rfl rfl (fun K hK => ?_)
                go_wp2_with fail
                refine ⟨fun hC => absurd hC (by decide), ?_⟩
                repeat (first | (refine wpOrd_load rfl rfl rfl rfl (fun K hK => ?_); go_big_quiet_step (fail); refine wpQuiet_nil ?_; refine hK _ ?_; clear hK K) | (refine wpOrd_free rfl rfl rfl (fun K hK => ?_); go_big_quiet_step (fail); refine wpQuiet_nil ?_; refine hK _ ?_; clear hK K))
                refine wpOrd_nil ?_
                go_wp2_with fail
                exact ⟨⟨q + 1, by omega, by omega, by go_num, Upd.step H7.out.1 (by iterate 25 (first | exact Upd.refl _ _ | assumption | refine Upd.alloc ?_ _ | refine Upd.drew ?_ | refine Upd.drewN ?_ _ | refine Upd.dl ?_ | refine Upd.step ?_ (Ext.upd _) | refine Upd.nil ?_ | skip))⟩, by simp [intOf]; omega⟩
            · clear e1 e2
              have HF := Lib.hid (HE.out.2.2.1.step hu)
              clear hu
              go_wp2_with fail
              exact ⟨⟨j + 1, by omega, by go_num, HF.out⟩, by simp [intOf]; omega⟩
        · have HF := Lib.hid hu
          clear hu
          go_wp2_with fail
          exact ⟨⟨i + 1, by omega, by go_num, HF.out⟩, by simp [intOf]; omega⟩
    · go_wp2_with fail
      refine (lives_calls).mono ?_
      rintro e w4 ⟨rfl, u4⟩
      go_wp2_with fail
      go_ret
      exact ⟨rfl, (HL.out.2.2.2.step HU.out).step u4⟩
end
end Law
end Go.Proofs.Ytgdpbhbdeaifbaa
