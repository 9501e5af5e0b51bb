/- Walks through the law of chapter 05: AutoForm, its automata. Conditions: none. -/
import Derived.Test.YtjclbjdkkdijbaaGreatAuZt
import Derived.Test.YtjclbjdkkdijbaaGreatAuZs
import Derived.Test.YtjclbjdkkdijbaaGreatAuM
import Derived.Test.YtjclbjdkkdijbaaGreatAuZg
import Derived.Test.YtjclbjdkkdijbaaGreatAuZh
set_option linter.unusedVariables false
set_option linter.unusedSimpArgs false
set_option linter.unusedSectionVars false
open Go.RowKit
namespace Go.Proofs.YtjclbjdkkdijbaaGreat
open L
namespace Law
open Aut Auto R01 Rgx
attribute [-go_sem] sliced
section
variable {w w' : World} {v v2 v3 : Value}
/-- What two calls and an empty slice have left behind, in any order. -/
structure FmI (w0 : World) (a : Au) (listed : Array Bool) (val : Nat → Value) (w : World) : Prop where
  u : Upd [] w0 w
  c1 : listed.getD 1 false = true → AuV w a (val 1)
  c2 : listed.getD 2 false = true → AuV w a (val 2)
  c3 : listed.getD 3 false = true → ∃ g, val 3 = .slice (some ⟨g, 0, none⟩) 0 0 ∧ w0.heap.size ≤ g ∧ Blk w g [] 3
/-- What does not lie in an empty block. -/
theorem SL.upd0 {v : Value} {k n g : Nat} {cs : List Value} {T : TypeId} (h : SL w k v n cs) (hB : Blk w g [] T) (hu : Upd [g] w w') : SL w' k v n cs := by
  obtain ⟨h1, a, cap, rfl, h2, h3, hz, h4⟩ := h
  refine ⟨h1, a, cap, rfl, h2, h3, hz, ?_⟩
  rcases h4 with h4 | ⟨b, off, rfl, h4⟩
  · exact .inl h4
  · refine .inr ⟨b, off, rfl, fun j u hj => hu.some (h4 j u hj) (fun hm => ?_)⟩
    simp at hm
    subst hm
    have h0 := h4 j u hj
    rw [cell_of_row w b (off + j) _ _ _ hB] at h0
    simp at h0
theorem AuF.upd0 {a : Au} {g : Nat} {cs : List Value} {T : TypeId} (h : AuF w a cs) (hB : Blk w g [] T) (hu : Upd [g] w w') : AuF w' a cs := by
  obtain ⟨cv, nv, av, rfl, h1, h2, h3⟩ := h
  obtain ⟨vals, q1, q2, q3⟩ := h2.ex
  exact ⟨cv, nv, av, rfl, SL.upd0 h1 hB hu, ⟨vals, q1, SL.upd0 q2 hB hu, fun i c hc => (q3 i c hc).imp fun v q => ⟨q.1, SL.upd0 q.2 hB hu⟩⟩, SL.upd0 h3 hB hu⟩
set_option maxRecDepth 100000 in
set_option maxHeartbeats 16000000 in
theorem AutoForm_calls {xs ys zs : List Int} (hx : ∀ x ∈ xs, IsI64 x) (hl : SL w 1 v xs.length (ints xs)) (hy : ∀ x ∈ ys, IsI64 x) (hl2 : SL w 1 v2 ys.length (ints ys)) (hz : ∀ x ∈ zs, IsI64 x) (hl3 : SL w 1 v3 zs.length (ints zs)) (hn1 : xs.length * 8 ≤ 140737488351232) (hn2 : ys.length * 8 ≤ 140737488351232) :
    Calls Tryz.prog 10 #[v, v2, v3] w fun e w' => e = .returned (.bool true) ∧ Upd [] w w' := by
  have HX := Lib.hid (And.intro hx (And.intro hl hn1))
  have HY := Lib.hid (And.intro hy (And.intro hl2 hn2))
  have HZ := Lib.hid (And.intro hz hl3)
  obtain ⟨p1, k1, rfl, kl1, km1, -⟩ := hl.elems
  obtain ⟨p2, k2, rfl, kl2, km2, -⟩ := hl2.elems
  obtain ⟨p3, k3, rfl, kl3, km3, hq3⟩ := hl3.elems
  have HW := Lib.hid (And.intro hq3 hz)
  clear hq3
  clear hx hl hy hl2 hz hl3
  have HM0 := Lib.hid (show Calls Tryz.prog 40 #[.slice p1 xs.length k1] w fun e w' => ∃ v', e = .returned v' ∧ AuV w' (madeA xs) v' ∧ Upd [] w w' from Made_calls HX.out.1 HX.out.2.1)
  have HAO := Lib.hid (And.intro (madeA_ok xs) (madeA_few xs))
  generalize madeA xs = a at *
  go_enter Tryz.func10, Tryz.ntmps10
  go_upto_region 2 with (first | ((with_reducible refine HM0.out.mono ?_); rintro e w0 ⟨v0, rfl, o0, u0⟩; have HO0 := Lib.hid (own_calls o0); have HU0 := Lib.hid u0; clear u0 o0) | ((with_reducible refine HO0.out.mono ?_); rintro e w1 ⟨v1, rfl, o1, u1⟩; obtain ⟨x1, y1, x2, y2, x3, y3, rfl, hF1⟩ := o1.shape; have H1 := Lib.hid (And.intro u1 hF1); clear o1 u1 hF1))
  change Code.wp _ _ _ _ (w1.alloc (.cells #[.slice x1 a.cuts.length y1, .slice x2 a.next.length y2, .slice x3 a.acc.length y3] 31))
  have HB := Lib.hid (show Blk (w1.alloc (.cells #[.slice x1 a.cuts.length y1, .slice x2 a.next.length y2, .slice x3 a.acc.length y3] 31)) w1.heap.size [.slice x1 a.cuts.length y1, .slice x2 a.next.length y2, .slice x3 a.acc.length y3] 31 ∧ Upd [] w1 (w1.alloc (.cells #[.slice x1 a.cuts.length y1, .slice x2 a.next.length y2, .slice x3 a.acc.length y3] 31)) from ⟨Blk.new w1 _ _, (Upd.refl [] w1).alloc _⟩)
  generalize (w1.alloc (.cells #[.slice x1 a.cuts.length y1, .slice x2 a.next.length y2, .slice x3 a.acc.length y3] 31)) = w2 at *
  generalize w1.heap.size = ab at *
  have HU2 := Lib.hid ((HU0.out.step H1.out.1).step HB.out.2)
  have HF2 := Lib.hid (show AuF w2 a [.slice x1 a.cuts.length y1, .slice x2 a.next.length y2, .slice x3 a.acc.length y3] from H1.out.2.ext HB.out.2)
  have kn1 : (xs.length : Int) ≤ 9223372036854775807 := by omega
  have kn0 : (0 : Int) ≤ (xs.length : Int) := by omega
  refine wp_region_wa 16 16 (fun w' => ∃ x : Ext w2, w' = x.val) (by kernel_rfl) (by kernel_rfl) (Ext.of (by iterate 25 (first | exact Upd.refl _ _ | assumption | refine Upd.alloc ?_ _ | refine Upd.drew ?_ | refine Upd.drewN ?_ _ | refine Upd.dl ?_ | refine Upd.step ?_ (Ext.upd _) | refine Upd.nil ?_ | skip))) ?_
  (refine WA.free 0 rfl rfl (by kernel_rfl) (fun K hK => ?_); go_big_quiet_step (fail); refine wpQuiet_nil ?_; refine hK _ ?_; clear hK K); (refine WA.free 4 rfl rfl (by kernel_rfl) (fun K hK => ?_); go_big_quiet_step (fail); refine wpQuiet_nil ?_; refine hK _ ?_; clear hK K); (refine WA.free 5 rfl rfl (by kernel_rfl) (fun K hK => ?_); go_big_quiet_step (fail); refine wpQuiet_nil ?_; refine hK _ ?_; clear hK K); (refine WA.free 6 rfl rfl (by kernel_rfl) (fun K hK => ?_); go_big_quiet_step (fail); refine wpQuiet_nil ?_; refine hK _ ?_; clear hK K); (refine WA.free 7 rfl rfl (by kernel_rfl) (fun K hK => ?_); go_big_quiet_step (fail); refine wpQuiet_nil ?_; refine hK _ ?_; clear hK K); (refine WA.free 8 rfl rfl (by kernel_rfl) (fun K hK => ?_); go_big_quiet_step (fail); refine wpQuiet_nil ?_; refine hK _ ?_; clear hK K); (refine WA.free 10 rfl rfl (by kernel_rfl) (fun K hK => ?_); go_big_quiet_step (fail); refine wpQuiet_nil ?_; refine hK _ ?_; clear hK K)
  have HMY := Lib.hid (And.intro (madeA_ok ys) (madeA_few ys))
  have HMC := Lib.hid (fun (w' : World) (u : Upd [] w2 w') => show Calls Tryz.prog 40 #[.slice p2 ys.length k2] w' fun e w'' => ∃ v', e = .returned v' ∧ AuV w'' (madeA ys) v' ∧ Upd [] w' w'' from Made_calls HY.out.1 (HY.out.2.1.upd (HU2.out.step u) (by simp)))
  generalize madeA ys = b at *
  refine WA.invA (w0 := w2) 16 [1, 2, 3] [(1, 41), (2, 42), (3, 43)] _ #[true, true, true, true, true, true, true, true, true, false, true, false, false, false, false, false] (FmI w2 b) 6 9 (by kernel_rfl) (fun _ _ _ h => h.u) ?step ?end' ?start
  case start =>
    intro val
    exact ⟨(by iterate 25 (first | exact Upd.refl _ _ | assumption | refine Upd.alloc ?_ _ | refine Upd.drew ?_ | refine Upd.drewN ?_ _ | refine Upd.dl ?_ | refine Upd.step ?_ (Ext.upd _) | refine Upd.nil ?_ | skip)), fun h => (by cases h), fun h => (by cases h), fun h => (by cases h)⟩
  case step =>
    intro j hj listed val wq hls hjn hcl haf h
    replace hls : listed.size = 16 := hls
    simp only [List.mem_cons, List.not_mem_nil, or_false] at hj
    rcases hj with rfl | rfl | rfl
    · refine wpOp_mk rfl (fun K hK => ?_)
      simp only [setAll, List.setIfInBounds_toArray, List.set_cons_succ, List.set_cons_zero]
      have hg := fun k => getD_listed (j := 1) hls (by omega) k
      have HQ := Lib.hid (HMC.out wq h.u)
      go_wp2_with ((with_reducible refine HQ.out.mono ?_); rintro e w3 ⟨v3', rfl, o3, u3⟩)
      refine Halt_.intro ⟨v3', by simp [setAll, updV], h.u.step u3, fun _ => by rw [updV_same]; exact o3, fun h1 => ?_, fun h1 => ?_⟩
      · rw [hg, if_neg (by omega)] at h1
        rw [updV_ne _ _ (by omega)]
        exact (h.c2 h1).ext u3
      · rw [hg, if_neg (by omega)] at h1
        rw [updV_ne _ _ (by omega)]
        exact (h.c3 h1).imp fun g q => ⟨q.1, q.2.1, q.2.2.upd u3 (by simp)⟩
    · have hb := after_dep haf (i := 1) (by kernel_rfl)
      have hv := h.c1 hb
      refine wpOp_mk rfl (fun K hK => ?_)
      simp only [setAll, List.setIfInBounds_toArray, List.set_cons_succ, List.set_cons_zero]
      have hg := fun k => getD_listed (j := 2) hls (by omega) k
      have HQ := Lib.hid (own_calls hv)
      go_wp2_with ((with_reducible refine HQ.out.mono ?_); rintro e w3 ⟨v3', rfl, o3, u3⟩)
      refine Halt_.intro ⟨v3', by simp [setAll, updV], h.u.step u3, fun h1 => ?_, fun _ => by rw [updV_same]; exact o3, fun h1 => ?_⟩
      · rw [updV_ne _ _ (by omega)]
        exact hv.ext u3
      · rw [hg, if_neg (by omega)] at h1
        rw [updV_ne _ _ (by omega)]
        exact (h.c3 h1).imp fun g q => ⟨q.1, q.2.1, q.2.2.upd u3 (by simp)⟩
    · refine wpOp_mk rfl (fun K hK => ?_)
      simp only [setAll, List.setIfInBounds_toArray, List.set_cons_succ, List.set_cons_zero]
      have hg := fun k => getD_listed (j := 3) hls (by omega) k
      go_wp2_with fail
      have hu : Upd [] wq (wq.alloc (.cells (#[] : Array Value) 3)) := (Upd.refl [] wq).alloc _
      refine Halt_.intro ⟨.slice (some ⟨wq.heap.size, 0, none⟩) 0 0, by simp [setAll, updV], h.u.step hu, fun h1 => ?_, fun h1 => ?_, fun _ => ⟨wq.heap.size, by rw [updV_same], h.u.size, owns_none rfl 3⟩⟩
      · rw [hg, if_neg (by omega)] at h1
        rw [updV_ne _ _ (by omega)]
        exact (h.c1 h1).ext hu
      · rw [hg, if_neg (by omega)] at h1
        rw [updV_ne _ _ (by omega)]
        exact (h.c2 h1).ext hu
  case end' =>
    intro val wq h
    obtain ⟨x4, y4, x5, y5, x6, y6, hv2, hF4⟩ := (h.c2 rfl).shape
    obtain ⟨g3, hv3, hg3, hB3⟩ := h.c3 rfl
    have HE := Lib.hid (And.intro h.u (And.intro hF4 (And.intro hg3 hB3)))
    clear h hF4 hg3 hB3
    simp only [setAll, List.setIfInBounds_toArray, List.set_cons_succ, List.set_cons_zero]
    rw [hv2, hv3]
    generalize val 1 = vv1
    clear hv2 hv3 val
    have hm6 : (min (xs.length : Int) 6).toNat ≤ xs.length := by omega
    have HS := Lib.hid (SL.upto (m := (min (xs.length : Int) 6).toNat) (HX.out.2.1.upd (HU2.out.step HE.out.1) (by simp)) hm6)
    have HT := Lib.hid (HY.out.2.1.upd (HU2.out.step HE.out.1) (by simp))
    have HM6 := Lib.hid hm6
    have HM7 := Lib.hid (show (min (xs.length : Int) 6).toNat ≤ 6 by omega)
    clear hm6
    generalize (min (xs.length : Int) 6).toNat = m at *
    refine WA.one 9 (by kernel_rfl) (Do_.mk rfl (fun K hK => ?_))
    refine wpList_appS rfl _ _ _ rfl 3 1 8 _ Tryz.underlying22 infoInt rfl (by decide) (.slice (some ⟨g3, 0, none⟩) 0 0) 0 [] rfl (owns_blk HE.out.2.2.2 rfl (by unfold maxLen; omega)) _ _ _ rfl HS.out (ints_one _) (by have := HX.out.2.2; have := HM6.out; unfold maxLen; omega) (by have := HX.out.2.2; have := HM6.out; omega) ?_
    intro a7 c7 w7 o7 u7 k7
    simp only [Act.put, List.setIfInBounds_toArray, List.set_cons_zero, List.set_cons_succ]
    have H7 := Lib.hid (And.intro o7 (And.intro (show Upd [g3] wq w7 from by simpa [Value.ownBlock] using u7) (show (Value.slice a7 (0 + m) c7).ownBlock = some g3 ∨ (Value.slice a7 (0 + m) c7).ownBlock = some wq.heap.size from by simpa [Value.ownBlock] using k7)))
    clear o7 u7 k7
    have HU7 := Lib.hid (HE.out.1.fresh H7.out.2.1 (fun b hb => .inr (by simp at hb; subst hb; exact HE.out.2.2.1)))
    go_wp2_with fail
    refine WA.keep (Ext.of HU7.out) ?_
    have HT7 := Lib.hid (HY.out.2.1.upd (HU2.out.step HU7.out) (by simp))
    refine WA.one 11 (by kernel_rfl) (Do_.mk rfl (fun K hK => ?_))
    refine wpList_appS rfl _ _ _ rfl 3 1 8 _ Tryz.underlying22 infoInt rfl (by decide) (.slice a7 (0 + m) c7) _ _ rfl H7.out.1 _ _ _ rfl HT7.out (ints_one _) (by have := HY.out.2.2; have := HM7.out; unfold maxLen; omega) (by have := HY.out.2.2; have := HM7.out; omega) ?_
    intro a8 c8 w8 o8 u8 k8
    simp only [Act.put, List.setIfInBounds_toArray, List.set_cons_zero, List.set_cons_succ]
    have H8 := Lib.hid (And.intro o8 (H7.out.2.1.fresh u8 (fun b hb => by
      have hb2 : (Value.slice a7 (0 + m) c7).ownBlock = some b := by simpa [Option.mem_toList] using hb
      rcases H7.out.2.2 with h | h
      · rw [h] at hb2; cases hb2; exact .inl (by simp)
      · rw [h] at hb2; cases hb2; exact .inr (Nat.le_refl _))))
    clear o8 u8 k8
    have HU8 := Lib.hid (HE.out.1.fresh H8.out.2 (fun b hb => .inr (by simp at hb; subst hb; exact HE.out.2.2.1)))
    have HF8 := Lib.hid (Law.AuF.upd0 HE.out.2.1 HE.out.2.2.2 H8.out.2)
    obtain ⟨L, hL⟩ : ∃ L, xs.take m ++ ys = L := ⟨_, rfl⟩
    have hLl : 0 + m + ys.length = L.length := by rw [← hL]; simp [List.length_take]; have := HM6.out; omega
    have HML := Lib.hid (And.intro (madeA_ok L) (madeA_few L))
    have HMD := Lib.hid (show Calls Tryz.prog 40 #[.slice a8 L.length c8] w8 fun e w'' => ∃ v', e = .returned v' ∧ AuV w'' (madeA L) v' ∧ Upd [] w8 w'' from Made_calls (fun x hx => by
        rw [← hL] at hx
        rcases List.mem_append.1 hx with h | h
        · exact HX.out.1 x (List.mem_of_mem_take h)
        · exact HY.out.1 x h) (by
        have h := SL.of_owns H8.out.1
        rw [List.nil_append, show ints (xs.take m) ++ ints ys = ints L by rw [← hL]; simp [ints], hLl] at h
        exact h))
    rw [hLl]
    clear hL hLl
    generalize madeA L = c at *
    generalize L.length = ln at *
    clear L
    go_wp2_with fail
    refine WA.keep (Ext.of HU8.out) ?_
    refine WA.one 12 (by kernel_rfl) (Do_.mk rfl (fun K hK => ?_))
    go_wp2_with ((with_reducible refine HMD.out.mono ?_); rintro e w9 ⟨v9, rfl, o9, u9⟩)
    have HO9 := Lib.hid (own_calls o9)
    have HU9 := Lib.hid (HU8.out.step u9)
    have HF9 := Lib.hid (HF8.out.ext u9)
    clear o9 u9
    refine WA.keep (Ext.of HU9.out) ?_
    refine WA.one 13 (by kernel_rfl) (Do_.mk rfl (fun K hK => ?_))
    go_wp2_with ((with_reducible refine HO9.out.mono ?_); rintro e wa ⟨va, rfl, oa, ua⟩; obtain ⟨x7, y7, x8, y8, x9, y9, rfl, hFa⟩ := oa.shape)
    have HUa := Lib.hid (And.intro (HU9.out.step ua) (And.intro (HF9.out.ext ua) hFa))
    clear oa ua hFa
    refine WA.keep (Ext.of HUa.out.1) ?_
    refine WA.one 14 (by kernel_rfl) (Do_.mk rfl (fun K hK => ?_))
    go_wp2_with fail
    have HOB := Lib.hid (And.intro (show Blk (wa.alloc (.cells #[.slice x4 b.cuts.length y4, .slice x5 b.next.length y5, .slice x6 b.acc.length y6, .slice x7 c.cuts.length y7, .slice x8 c.next.length y8, .slice x9 c.acc.length y9] 31)) wa.heap.size [.slice x4 b.cuts.length y4, .slice x5 b.next.length y5, .slice x6 b.acc.length y6, .slice x7 c.cuts.length y7, .slice x8 c.next.length y8, .slice x9 c.acc.length y9] 31 from Blk.new wa _ _) (show Upd [] wa (wa.alloc (.cells #[.slice x4 b.cuts.length y4, .slice x5 b.next.length y5, .slice x6 b.acc.length y6, .slice x7 c.cuts.length y7, .slice x8 c.next.length y8, .slice x9 c.acc.length y9] 31)) from (Upd.refl [] wa).alloc _))
    generalize (wa.alloc (.cells #[.slice x4 b.cuts.length y4, .slice x5 b.next.length y5, .slice x6 b.acc.length y6, .slice x7 c.cuts.length y7, .slice x8 c.next.length y8, .slice x9 c.acc.length y9] 31)) = wb at *
    generalize wa.heap.size = og at *
    have HUb := Lib.hid (And.intro (HUa.out.1.step HOB.out.2) (And.intro (HUa.out.2.1.ext HOB.out.2) (HUa.out.2.2.ext HOB.out.2)))
    refine WA.keep (Ext.of HUb.out.1) ?_
    refine WA.one 15 (by kernel_rfl) (Do_.mk rfl (fun K hK => ?_))
    go_wp2_with fail
    refine WA.keep (Ext.of HUb.out.1) ?_
    refine WA.nil (by kernel_rfl) ?_
    have HBO := Lib.hid HOB.out.1
    have HUw := Lib.hid (HU2.out.step HUb.out.1)
    have HBA := Lib.hid (HB.out.1.upd HUb.out.1 (by simp))
    have HFA := Lib.hid (fun (w' : World) (u : Upd [] wb w') => show AuV w' a (.agg #[.slice x1 a.cuts.length y1, .slice x2 a.next.length y2, .slice x3 a.acc.length y3]) from ⟨_, rfl, (HF2.out.ext HUb.out.1).ext u⟩)
    have HFB := Lib.hid (And.intro HUb.out.2.1 HUb.out.2.2)
    have HMA := Lib.hid (And.intro (min_ok HAO.out.1) (And.intro (min_len HAO.out.1) (And.intro (min_again HAO.out.1) (And.intro (min_accN HAO.out.1) (And.intro (fun (b : Au) (ob : Ok b) (hf : a.next.length * b.next.length ≤ 256) => form_law HAO.out.1 ob hf) HAO.out.1)))))
    have HMN := Lib.hid (MinOk_calls HAO.out.1 (HFA.out wb (Upd.refl _ _)))
    obtain ⟨ma, hma⟩ : ∃ ma, minA a = ma := ⟨_, rfl⟩
    rw [hma] at HMA HMN
    clear hma
    clear HOB HUa HU9 HF9 HF8 HU8 H8 H7 HU7 HT7 HS HT HE HMD HO9 HUb HF2 HU2 HU0 H1 HB HMC HM0 HO0
    have b0 := HBA.out.cell (i := 0) rfl
    have b1 := HBA.out.cell (i := 1) rfl
    have b2 := HBA.out.cell (i := 2) rfl
    go_upto_region 4 with ((with_reducible refine HMN.out.mono ?_); rintro e wc ⟨vc, rfl, oc, uc⟩; obtain ⟨m0, m1, m2, m3, m4, m5, rfl, hFc⟩ := oc.shape; have HC := Lib.hid (And.intro uc hFc); clear oc uc hFc)
    change Code.wp _ _ _ _ (wc.alloc (.cells #[.slice m0 ma.cuts.length m1, .slice m2 ma.next.length m3, .slice m4 ma.acc.length m5] 31))
    have HBmb := Lib.hid (show Blk (wc.alloc (.cells #[.slice m0 ma.cuts.length m1, .slice m2 ma.next.length m3, .slice m4 ma.acc.length m5] 31)) wc.heap.size [.slice m0 ma.cuts.length m1, .slice m2 ma.next.length m3, .slice m4 ma.acc.length m5] 31 ∧ Upd [] wc (wc.alloc (.cells #[.slice m0 ma.cuts.length m1, .slice m2 ma.next.length m3, .slice m4 ma.acc.length m5] 31)) from ⟨Blk.new wc _ _, (Upd.refl [] wc).alloc _⟩)
    generalize (wc.alloc (.cells #[.slice m0 ma.cuts.length m1, .slice m2 ma.next.length m3, .slice m4 ma.acc.length m5] 31)) = wd at *
    generalize wc.heap.size = mb at *
    have HUd := Lib.hid (HC.out.1.step HBmb.out.2)
    have HFM := Lib.hid (fun (w' : World) (u : Upd [] wd w') => show AuV w' ma (.agg #[.slice m0 ma.cuts.length m1, .slice m2 ma.next.length m3, .slice m4 ma.acc.length m5]) from ⟨_, rfl, (HC.out.2.ext HBmb.out.2).ext u⟩)
    have HMN2 := Lib.hid (MinOk_calls HMA.out.1 (HFM.out wd (Upd.refl _ _)))
    rw [HMA.out.2.2.1] at HMN2
    clear b0 b1 b2
    have b0 := HBmb.out.1.cell (i := 0) rfl
    have b1 := HBmb.out.1.cell (i := 1) rfl
    have b2 := HBmb.out.1.cell (i := 2) rfl
    go_upto_region 5 with ((with_reducible refine HMN2.out.mono ?_); rintro e we ⟨ve, rfl, oe, ue⟩; obtain ⟨n0, n1, n2, n3, n4, n5, rfl, hFe⟩ := oe.shape; have HE := Lib.hid (And.intro ue hFe); clear oe ue hFe)
    change Code.wp _ _ _ _ (we.alloc (.cells #[.slice n0 ma.cuts.length n1, .slice n2 ma.next.length n3, .slice n4 ma.acc.length n5] 31))
    have HBnb := Lib.hid (show Blk (we.alloc (.cells #[.slice n0 ma.cuts.length n1, .slice n2 ma.next.length n3, .slice n4 ma.acc.length n5] 31)) we.heap.size [.slice n0 ma.cuts.length n1, .slice n2 ma.next.length n3, .slice n4 ma.acc.length n5] 31 ∧ Upd [] we (we.alloc (.cells #[.slice n0 ma.cuts.length n1, .slice n2 ma.next.length n3, .slice n4 ma.acc.length n5] 31)) from ⟨Blk.new we _ _, (Upd.refl [] we).alloc _⟩)
    generalize (we.alloc (.cells #[.slice n0 ma.cuts.length n1, .slice n2 ma.next.length n3, .slice n4 ma.acc.length n5] 31)) = wf at *
    generalize we.heap.size = nb at *
    have HUf := Lib.hid (HE.out.1.step HBnb.out.2)
    have HFN := Lib.hid (fun (w' : World) (u : Upd [] wf w') => show AuV w' ma (.agg #[.slice n0 ma.cuts.length n1, .slice n2 ma.next.length n3, .slice n4 ma.acc.length n5]) from ⟨_, rfl, (HE.out.2.ext HBnb.out.2).ext u⟩)
    have HUW := Lib.hid (HUd.out.step HUf.out)
    clear b0 b1 b2
    have b0 := HUf.out.some (HBmb.out.1.cell (i := 0) rfl) (by simp)
    have b1 := HUf.out.some (HBmb.out.1.cell (i := 1) rfl) (by simp)
    have b2 := HUf.out.some (HBmb.out.1.cell (i := 2) rfl) (by simp)
    have c0 := HBnb.out.1.cell (i := 0) rfl
    have c1 := HBnb.out.1.cell (i := 1) rfl
    have c2 := HBnb.out.1.cell (i := 2) rfl
    have a0 := HUW.out.some (HBA.out.cell (i := 0) rfl) (by simp)
    have a1 := HUW.out.some (HBA.out.cell (i := 1) rfl) (by simp)
    have a2 := HUW.out.some (HBA.out.cell (i := 2) rfl) (by simp)
    have hgt : decide ((ma.next.length : Int) > (a.next.length : Int)) = false := decide_eq_false (by have := HMA.out.2.1; omega)
    have hgt2 : decide ((a.next.length : Int) < (ma.next.length : Int)) = false := decide_eq_false (by have := HMA.out.2.1; omega)
    have hgt3 : ¬ a.next.length < ma.next.length := by have := HMA.out.2.1; omega
    have her : ((0 : Int) != 0) = false := by simp
    have HP1 := Lib.hid (fun (w' : World) (u : Upd [] wf w') => plain_calls (HFM.out w' (HUf.out.step u)))
    have HP2 := Lib.hid (fun (w' : World) (u : Upd [] wf w') => plain_calls (HFN.out w' u))
    refine wp_region_ord 23 1 [0, 1, 2, 3, 4, 5, 6, 7, 9, 12, 13, 14, 15, 16, 17, 18, 19, 20, 21, 22] [7, 9, 16, 19] [0, 1, 2, 3, 4, 5, 6, 7, 9, 8, 10, 11, 12, 13, 14, 15, 16, 17, 18, 19, 20, 21, 22] (fun w' => ∃ x : Ext wf, w' = x.val) (by kernel_rfl) (by kernel_rfl) (Ext.of (by iterate 25 (first | exact Upd.refl _ _ | assumption | refine Upd.alloc ?_ _ | refine Upd.drew ?_ | refine Upd.drewN ?_ _ | refine Upd.dl ?_ | refine Upd.step ?_ (Ext.upd _) | refine Upd.nil ?_ | skip))) ?_
    repeat (first | (refine wpOrd_load rfl rfl rfl rfl (fun K hK => ?_); go_big_quiet_step (fail); refine wpQuiet_nil ?_; refine hK _ ?_; clear hK K) | (refine wpOrd_free rfl rfl rfl (fun K hK => ?_); go_big_quiet_step (fail); refine wpQuiet_nil ?_; refine hK _ ?_; clear hK K))
    refine wpOrd_fix rfl rfl (fun K hK => ?_)
    go_wp2_with (go_at_call 17; refine (HP1.out _ (by iterate 25 (first | exact Upd.refl _ _ | assumption | refine Upd.alloc ?_ _ | refine Upd.drew ?_ | refine Upd.drewN ?_ _ | refine Upd.dl ?_ | refine Upd.step ?_ (Ext.upd _) | refine Upd.nil ?_ | skip))).mono ?_; rintro e wg ⟨vg, rfl, og, ug⟩)
    have HG := Lib.hid (And.intro (show Upd [] wf wg from Upd.step (by iterate 25 (first | exact Upd.refl _ _ | assumption | refine Upd.alloc ?_ _ | refine Upd.drew ?_ | refine Upd.drewN ?_ _ | refine Upd.dl ?_ | refine Upd.step ?_ (Ext.upd _) | refine Upd.nil ?_ | skip)) ug) og)
    clear ug og
    refine ⟨by first | exact Ext.of HG.out.1 | exact fun _ => Ext.of HG.out.1, ?_⟩
    repeat (first | (refine wpOrd_load rfl rfl rfl rfl (fun K hK => ?_); go_big_quiet_step (fail); refine wpQuiet_nil ?_; refine hK _ ?_; clear hK K) | (refine wpOrd_free rfl rfl rfl (fun K hK => ?_); go_big_quiet_step (fail); refine wpQuiet_nil ?_; refine hK _ ?_; clear hK K))
    refine wpOrd_fix rfl rfl (fun K hK => ?_)
    go_wp2_with (go_at_call 17; refine (HP2.out _ HG.out.1).mono ?_; rintro e wh ⟨vh, rfl, oh, uh⟩)
    have HH := Lib.hid (And.intro (HG.out.1.step uh) (And.intro (HG.out.2.ext uh) oh))
    clear uh oh
    refine ⟨by first | exact Ext.of HH.out.1 | exact fun _ => Ext.of HH.out.1, ?_⟩
    repeat (first | (refine wpOrd_load rfl rfl rfl rfl (fun K hK => ?_); go_big_quiet_step (fail); refine wpQuiet_nil ?_; refine hK _ ?_; clear hK K) | (refine wpOrd_free rfl rfl rfl (fun K hK => ?_); go_big_quiet_step (fail); refine wpQuiet_nil ?_; refine hK _ ?_; clear hK K))
    refine wpOrd_fix rfl rfl (fun K hK => ?_)
    go_wp2_with (go_at_call 16; refine (SameV_calls (x := true) (by simp) HH.out.2.1 HH.out.2.2).mono ?_; rintro e wi ⟨rfl, ui⟩)
    have HI := Lib.hid (HH.out.1.step ui)
    clear ui
    refine ⟨by first | exact Ext.of HI.out | exact fun _ => Ext.of HI.out, ?_⟩
    repeat (first | (refine wpOrd_load rfl rfl rfl rfl (fun K hK => ?_); go_big_quiet_step (fail); refine wpQuiet_nil ?_; refine hK _ ?_; clear hK K) | (refine wpOrd_free rfl rfl rfl (fun K hK => ?_); go_big_quiet_step (fail); refine wpQuiet_nil ?_; refine hK _ ?_; clear hK K))
    refine wpOrd_nil ?_
    have HUi := Lib.hid (HUW.out.step HI.out)
    have HUT := Lib.hid (HUw.out.step HUi.out)
    clear a0 a1 a2 b0 b1 b2 c0 c1 c2 hgt hgt2 hgt3 HH HG HP1 HP2
    go_upto_region 7 with fail
    go_wp2_with fail
    go_loopw [13] (fun kv wr => ∃ i : Nat, kv = .int .i64 i ∧ i ≤ zs.length ∧ i ≤ 10 ∧ Hid (Upd [] wi wr)) (fun kv _ => 10 - (intOf kv).toNat)
    case atStart => exact ⟨0, rfl, Nat.zero_le _, by omega, Lib.hid (Upd.refl _ _)⟩
    case round =>
      obtain ⟨i, rfl, hi, hi2, HJ⟩ := hrel
      by_cases h12 : i < zs.length ∧ i < 10
      · obtain ⟨h1, h2⟩ := h12
        have h1i : (i : Int) < zs.length := by omega
        · have h2i : (i : Int) < 10 := by omega
          obtain ⟨g, off, rfl, hcc⟩ := HW.out.1 (by omega)
          have hU := HUT.out.step HJ.out
          have hci := hU.some (hcc i _ (ints_gd h1)) (by simp)
          have hxi := HW.out.2 _ (gd_memA (d := 0) h1)
          generalize zs.getD i 0 = x at *
          have HWO := Lib.hid (Word_calls (w := wr) x hxi)
          clear hcc hU hxi
          go_upto_region 11 with ((with_reducible refine HWO.out.mono ?_); rintro e wk ⟨s, rfl, hsz, uk⟩; have HSZ := Lib.hid hsz; have HUk := Lib.hid (HJ.out.step uk); clear hsz uk)
          have HAc := Lib.hid (AccOk_calls HAO.out.1 (HFA.out wk (HUi.out.step HUk.out)) s (by have := HSZ.out; omega))
          have bX := HBA.out.upd (HUi.out.step HUk.out) (by simp)
          have a0 := bX.cell (i := 0) rfl
          have a1 := bX.cell (i := 1) rfl
          have a2 := bX.cell (i := 2) rfl
          clear bX
          go_upto_region 12 with ((with_reducible refine HAc.out.mono ?_); rintro e wl ⟨rfl, ul⟩; have HUl := Lib.hid (HUk.out.step ul); clear ul)
          have hTm := AccOk_calls HMA.out.1 (HFM.out wl ((HUf.out.step HI.out).step HUl.out)) s (by have := HSZ.out; omega)
          rw [HMA.out.2.2.2.1 s] at hTm
          have HAd := Lib.hid hTm
          clear hTm a0 a1 a2
          have bX := HBmb.out.1.upd ((HUf.out.step HI.out).step HUl.out) (by simp)
          have b0 := bX.cell (i := 0) rfl
          have b1 := bX.cell (i := 1) rfl
          have b2 := bX.cell (i := 2) rfl
          clear bX
          go_upto_region 13 with ((with_reducible refine HAd.out.mono ?_); rintro e wm ⟨rfl, um⟩; have HUm := Lib.hid (HUl.out.step um); clear um)
          generalize accN a s = xx at *
          have hxx : (xx != xx) = false := by simp
          go_wp2_with fail
          exact ⟨⟨i + 1, by go_num, by omega, by omega, HUm⟩, by simp [intOf]; omega⟩
      · have h12i : ((i : Int) < zs.length ∧ ¬ ((i : Int) < 10)) ∨ ¬ ((i : Int) < zs.length) := by omega
        clear h12
        rcases h12i with ⟨h1i, h2i⟩ | h1i
        all_goals
          go_wp2_with fail
          go_loopw [19] (fun kv wr => ∃ j : Nat, kv = .int .i64 j ∧ j ≤ 2 ∧ Hid (Upd [] wi wr)) (fun kv _ => 2 - (intOf kv).toNat)
          case atStart => exact ⟨0, rfl, Nat.zero_le _, HJ⟩
          case round =>
            clear HJ
            obtain ⟨j, rfl, hj, HJ⟩ := hrel
            by_cases h3 : j < 2
            · have h3i : (j : Int) < 2 := by omega
              obtain ⟨d, z0, z1, z2, z3, z4, z5, hd0, hd1, hd2, hdF, hdo, hdl⟩ : ∃ (d : Au) (z0 : Option Addr) (z1 : Nat) (z2 : Option Addr) (z3 : Nat) (z4 : Option Addr) (z5 : Nat), wb.cell? ⟨og, j * 3, none⟩ = some (.slice z0 d.cuts.length z1) ∧ wb.cell? ⟨og, j * 3 + 1, none⟩ = some (.slice z2 d.next.length z3) ∧ wb.cell? ⟨og, j * 3 + 2, none⟩ = some (.slice z4 d.acc.length z5) ∧ AuF wb d [.slice z0 d.cuts.length z1, .slice z2 d.next.length z3, .slice z4 d.acc.length z5] ∧ Ok d ∧ d.next.length ≤ 6 := by
                rcases (by omega : j = 0 ∨ j = 1) with rfl | rfl
                · exact ⟨b, x4, y4, x5, y5, x6, y6, HBO.out.cell (i := 0) rfl, HBO.out.cell (i := 1) rfl, HBO.out.cell (i := 2) rfl, HFB.out.1, HMY.out.1, HMY.out.2⟩
                · exact ⟨c, x7, y7, x8, y8, x9, y9, HBO.out.cell (i := 3) rfl, HBO.out.cell (i := 4) rfl, HBO.out.cell (i := 5) rfl, HFB.out.2, HML.out.1, HML.out.2⟩
              have hdm : a.next.length * d.next.length ≤ 256 := Nat.le_trans (Nat.mul_le_mul HAO.out.2 hdl) (by omega)
              have hlaw := HMA.out.2.2.2.2.1 d hdo hdm
              have ka := compA_ok HAO.out.1
              have kd := compA_ok hdo
              have fm1 : a.next.length * (compA d).next.length ≤ 256 := by rw [kd.2]; exact hdm
              have fm2 : (compA a).next.length * d.next.length ≤ 256 := by rw [ka.2]; exact hdm
              have k1 := bothA_ok HAO.out.1 kd.1 fm1 false
              have k2 := bothA_ok ka.1 hdo fm2 false
              have HKm := Lib.hid (fun (w' : World) (v' : Value) (h : AuV w' d v') => MinOk_calls hdo h)
              have HKa := Lib.hid (fun (w' : World) (v' : Value) (h : AuV w' a v') => CompOk_calls HAO.out.1 h)
              have HKd := Lib.hid (fun (w' : World) (v' : Value) (h : AuV w' d v') => CompOk_calls hdo h)
              have HK1 := Lib.hid (fun (w' : World) (v1 v2 : Value) (h1 : AuV w' a v1) (h2 : AuV w' (compA d) v2) => BothOk_calls HAO.out.1 kd.1 fm1 false h1 h2)
              have HK2 := Lib.hid (fun (w' : World) (v1 v2 : Value) (h1 : AuV w' (compA a) v1) (h2 : AuV w' d v2) => BothOk_calls ka.1 hdo fm2 false h1 h2)
              have HL1 := Lib.hid (fun (w' : World) (v' : Value) (h : AuV w' (bothA a (compA d) false) v') => LeastOk_calls k1 h)
              have HL2 := Lib.hid (fun (w' : World) (v' : Value) (h : AuV w' (bothA (compA a) d false) v') => LeastOk_calls k2 h)
              have HLW := Lib.hid hlaw
              clear hdm hlaw ka kd fm1 fm2 k1 k2 hdo hdl
              generalize bothA a (compA d) false = o1 at *
              generalize bothA (compA a) d false = o2 at *
              generalize minA d = md at *
              generalize compA a = na at *
              generalize compA d = nd at *
              generalize lstB o1 = lp at *
              generalize lstB o2 = lq at *
              generalize lstS o1 = s1 at *
              generalize lstS o2 = s2 at *
              have HDF := Lib.hid (hdF.ext (HUi.out.step HJ.out))
              have f0 := (HUi.out.step HJ.out).some hd0 (by simp)
              have f1 := (HUi.out.step HJ.out).some hd1 (by simp)
              have f2 := (HUi.out.step HJ.out).some hd2 (by simp)
              have HBa := Lib.hid (HBA.out.upd (HUi.out.step HJ.out) (by simp))
              have HAa := Lib.hid (HFA.out _ (HUi.out.step HJ.out))
              have HBm := Lib.hid (HBmb.out.1.upd ((HUf.out.step HI.out).step HJ.out) (by simp))
              have HAm := Lib.hid (HFM.out _ ((HUf.out.step HI.out).step HJ.out))
              clear hd0 hd1 hd2 hdF
              go_upto_region 19 with fail
              clear f0 f1 f2
              change Code.wp _ _ _ _ (wr.alloc (.cells #[.slice z0 d.cuts.length z1, .slice z2 d.next.length z3, .slice z4 d.acc.length z5] 31))
              have HN := Lib.hid (show Blk (wr.alloc (.cells #[.slice z0 d.cuts.length z1, .slice z2 d.next.length z3, .slice z4 d.acc.length z5] 31)) wr.heap.size [.slice z0 d.cuts.length z1, .slice z2 d.next.length z3, .slice z4 d.acc.length z5] 31 ∧ Upd [] wr (wr.alloc (.cells #[.slice z0 d.cuts.length z1, .slice z2 d.next.length z3, .slice z4 d.acc.length z5] 31)) from ⟨Blk.new wr _ _, (Upd.refl [] wr).alloc _⟩)
              generalize (wr.alloc (.cells #[.slice z0 d.cuts.length z1, .slice z2 d.next.length z3, .slice z4 d.acc.length z5] 31)) = wk0 at *
              generalize wr.heap.size = db at *
              replace HBa := Lib.hid (HBa.out.upd HN.out.2 (by simp))
              replace HAa := Lib.hid (HAa.out.ext HN.out.2)
              replace HBm := Lib.hid (HBm.out.upd HN.out.2 (by simp))
              replace HAm := Lib.hid (HAm.out.ext HN.out.2)
              have HBd := Lib.hid HN.out.1
              have HAd := Lib.hid (show AuV wk0 d (.agg #[.slice z0 d.cuts.length z1, .slice z2 d.next.length z3, .slice z4 d.acc.length z5]) from ⟨_, rfl, HDF.out.ext HN.out.2⟩)
              replace HJ := Lib.hid (HJ.out.step HN.out.2)
              clear HN HDF
              have qr0 := HBd.out.cell (i := 0) rfl
              have qr1 := HBd.out.cell (i := 1) rfl
              have qr2 := HBd.out.cell (i := 2) rfl
              have HK := Lib.hid (HKm.out _ _ HAd.out)
              go_upto_region 20 with ((with_reducible refine HK.out.mono ?_); rintro e wc ⟨vc, rfl, oc, uc⟩; obtain ⟨yp0, yp1, yp2, yp3, yp4, yp5, rfl, hFc⟩ := oc.shape; have HC := Lib.hid (And.intro uc hFc); clear oc uc hFc)
              clear HK qr0 qr1 qr2
              change Code.wp _ _ _ _ (wc.alloc (.cells #[.slice yp0 md.cuts.length yp1, .slice yp2 md.next.length yp3, .slice yp4 md.acc.length yp5] 31))
              have HN := Lib.hid (show Blk (wc.alloc (.cells #[.slice yp0 md.cuts.length yp1, .slice yp2 md.next.length yp3, .slice yp4 md.acc.length yp5] 31)) wc.heap.size [.slice yp0 md.cuts.length yp1, .slice yp2 md.next.length yp3, .slice yp4 md.acc.length yp5] 31 ∧ Upd [] wc (wc.alloc (.cells #[.slice yp0 md.cuts.length yp1, .slice yp2 md.next.length yp3, .slice yp4 md.acc.length yp5] 31)) from ⟨Blk.new wc _ _, (Upd.refl [] wc).alloc _⟩)
              generalize (wc.alloc (.cells #[.slice yp0 md.cuts.length yp1, .slice yp2 md.next.length yp3, .slice yp4 md.acc.length yp5] 31)) = wk1 at *
              generalize wc.heap.size = yb at *
              have HV := Lib.hid (show Upd [] wk0 wk1 from HC.out.1.step HN.out.2)
              replace HBa := Lib.hid (HBa.out.upd HV.out (by simp))
              replace HAa := Lib.hid (HAa.out.ext HV.out)
              replace HBm := Lib.hid (HBm.out.upd HV.out (by simp))
              replace HAm := Lib.hid (HAm.out.ext HV.out)
              replace HBd := Lib.hid (HBd.out.upd HV.out (by simp))
              replace HAd := Lib.hid (HAd.out.ext HV.out)
              have HBy := Lib.hid HN.out.1
              have HAy := Lib.hid (show AuV wk1 md (.agg #[.slice yp0 md.cuts.length yp1, .slice yp2 md.next.length yp3, .slice yp4 md.acc.length yp5]) from ⟨_, rfl, HC.out.2.ext HN.out.2⟩)
              replace HJ := Lib.hid (HJ.out.step HV.out)
              clear HC HN HV
              have qr0 := HBa.out.cell (i := 0) rfl
              have qr1 := HBa.out.cell (i := 1) rfl
              have qr2 := HBa.out.cell (i := 2) rfl
              have HK := Lib.hid (HKa.out _ _ HAa.out)
              go_upto_region 21 with ((with_reducible refine HK.out.mono ?_); rintro e wc ⟨vc, rfl, oc, uc⟩; obtain ⟨up0, up1, up2, up3, up4, up5, rfl, hFc⟩ := oc.shape; have HC := Lib.hid (And.intro uc hFc); clear oc uc hFc)
              clear HK qr0 qr1 qr2
              change Code.wp _ _ _ _ (wc.alloc (.cells #[.slice up0 na.cuts.length up1, .slice up2 na.next.length up3, .slice up4 na.acc.length up5] 31))
              have HN := Lib.hid (show Blk (wc.alloc (.cells #[.slice up0 na.cuts.length up1, .slice up2 na.next.length up3, .slice up4 na.acc.length up5] 31)) wc.heap.size [.slice up0 na.cuts.length up1, .slice up2 na.next.length up3, .slice up4 na.acc.length up5] 31 ∧ Upd [] wc (wc.alloc (.cells #[.slice up0 na.cuts.length up1, .slice up2 na.next.length up3, .slice up4 na.acc.length up5] 31)) from ⟨Blk.new wc _ _, (Upd.refl [] wc).alloc _⟩)
              generalize (wc.alloc (.cells #[.slice up0 na.cuts.length up1, .slice up2 na.next.length up3, .slice up4 na.acc.length up5] 31)) = wk2 at *
              generalize wc.heap.size = ub at *
              have HV := Lib.hid (show Upd [] wk1 wk2 from HC.out.1.step HN.out.2)
              replace HBa := Lib.hid (HBa.out.upd HV.out (by simp))
              replace HAa := Lib.hid (HAa.out.ext HV.out)
              replace HBm := Lib.hid (HBm.out.upd HV.out (by simp))
              replace HAm := Lib.hid (HAm.out.ext HV.out)
              replace HBd := Lib.hid (HBd.out.upd HV.out (by simp))
              replace HAd := Lib.hid (HAd.out.ext HV.out)
              replace HBy := Lib.hid (HBy.out.upd HV.out (by simp))
              replace HAy := Lib.hid (HAy.out.ext HV.out)
              have HBu := Lib.hid HN.out.1
              have HAu := Lib.hid (show AuV wk2 na (.agg #[.slice up0 na.cuts.length up1, .slice up2 na.next.length up3, .slice up4 na.acc.length up5]) from ⟨_, rfl, HC.out.2.ext HN.out.2⟩)
              replace HJ := Lib.hid (HJ.out.step HV.out)
              clear HC HN HV
              have qr0 := HBd.out.cell (i := 0) rfl
              have qr1 := HBd.out.cell (i := 1) rfl
              have qr2 := HBd.out.cell (i := 2) rfl
              have HK := Lib.hid (HKd.out _ _ HAd.out)
              go_upto_region 22 with ((with_reducible refine HK.out.mono ?_); rintro e wc ⟨vc, rfl, oc, uc⟩; obtain ⟨tp0, tp1, tp2, tp3, tp4, tp5, rfl, hFc⟩ := oc.shape; have HC := Lib.hid (And.intro uc hFc); clear oc uc hFc)
              clear HK qr0 qr1 qr2
              change Code.wp _ _ _ _ (wc.alloc (.cells #[.slice tp0 nd.cuts.length tp1, .slice tp2 nd.next.length tp3, .slice tp4 nd.acc.length tp5] 31))
              have HN := Lib.hid (show Blk (wc.alloc (.cells #[.slice tp0 nd.cuts.length tp1, .slice tp2 nd.next.length tp3, .slice tp4 nd.acc.length tp5] 31)) wc.heap.size [.slice tp0 nd.cuts.length tp1, .slice tp2 nd.next.length tp3, .slice tp4 nd.acc.length tp5] 31 ∧ Upd [] wc (wc.alloc (.cells #[.slice tp0 nd.cuts.length tp1, .slice tp2 nd.next.length tp3, .slice tp4 nd.acc.length tp5] 31)) from ⟨Blk.new wc _ _, (Upd.refl [] wc).alloc _⟩)
              generalize (wc.alloc (.cells #[.slice tp0 nd.cuts.length tp1, .slice tp2 nd.next.length tp3, .slice tp4 nd.acc.length tp5] 31)) = wk3 at *
              generalize wc.heap.size = tb at *
              have HV := Lib.hid (show Upd [] wk2 wk3 from HC.out.1.step HN.out.2)
              replace HBa := Lib.hid (HBa.out.upd HV.out (by simp))
              replace HAa := Lib.hid (HAa.out.ext HV.out)
              replace HBm := Lib.hid (HBm.out.upd HV.out (by simp))
              replace HAm := Lib.hid (HAm.out.ext HV.out)
              replace HBd := Lib.hid (HBd.out.upd HV.out (by simp))
              replace HAd := Lib.hid (HAd.out.ext HV.out)
              replace HBy := Lib.hid (HBy.out.upd HV.out (by simp))
              replace HAy := Lib.hid (HAy.out.ext HV.out)
              replace HBu := Lib.hid (HBu.out.upd HV.out (by simp))
              replace HAu := Lib.hid (HAu.out.ext HV.out)
              have HBt := Lib.hid HN.out.1
              have HAt := Lib.hid (show AuV wk3 nd (.agg #[.slice tp0 nd.cuts.length tp1, .slice tp2 nd.next.length tp3, .slice tp4 nd.acc.length tp5]) from ⟨_, rfl, HC.out.2.ext HN.out.2⟩)
              replace HJ := Lib.hid (HJ.out.step HV.out)
              clear HC HN HV
              have qr0 := HBa.out.cell (i := 0) rfl
              have qr1 := HBa.out.cell (i := 1) rfl
              have qr2 := HBa.out.cell (i := 2) rfl
              have qs0 := HBt.out.cell (i := 0) rfl
              have qs1 := HBt.out.cell (i := 1) rfl
              have qs2 := HBt.out.cell (i := 2) rfl
              have HK := Lib.hid (HK1.out _ _ _ HAa.out HAt.out)
              go_upto_region 23 with ((with_reducible refine HK.out.mono ?_); rintro e wc ⟨vc, rfl, oc, uc⟩; obtain ⟨gp0, gp1, gp2, gp3, gp4, gp5, rfl, hFc⟩ := oc.shape; have HC := Lib.hid (And.intro uc hFc); clear oc uc hFc)
              clear HK qr0 qr1 qr2 qs0 qs1 qs2
              change Code.wp _ _ _ _ (wc.alloc (.cells #[.slice gp0 o1.cuts.length gp1, .slice gp2 o1.next.length gp3, .slice gp4 o1.acc.length gp5] 31))
              have HN := Lib.hid (show Blk (wc.alloc (.cells #[.slice gp0 o1.cuts.length gp1, .slice gp2 o1.next.length gp3, .slice gp4 o1.acc.length gp5] 31)) wc.heap.size [.slice gp0 o1.cuts.length gp1, .slice gp2 o1.next.length gp3, .slice gp4 o1.acc.length gp5] 31 ∧ Upd [] wc (wc.alloc (.cells #[.slice gp0 o1.cuts.length gp1, .slice gp2 o1.next.length gp3, .slice gp4 o1.acc.length gp5] 31)) from ⟨Blk.new wc _ _, (Upd.refl [] wc).alloc _⟩)
              generalize (wc.alloc (.cells #[.slice gp0 o1.cuts.length gp1, .slice gp2 o1.next.length gp3, .slice gp4 o1.acc.length gp5] 31)) = wk4 at *
              generalize wc.heap.size = gb at *
              have HV := Lib.hid (show Upd [] wk3 wk4 from HC.out.1.step HN.out.2)
              replace HBa := Lib.hid (HBa.out.upd HV.out (by simp))
              replace HAa := Lib.hid (HAa.out.ext HV.out)
              replace HBm := Lib.hid (HBm.out.upd HV.out (by simp))
              replace HAm := Lib.hid (HAm.out.ext HV.out)
              replace HBd := Lib.hid (HBd.out.upd HV.out (by simp))
              replace HAd := Lib.hid (HAd.out.ext HV.out)
              replace HBy := Lib.hid (HBy.out.upd HV.out (by simp))
              replace HAy := Lib.hid (HAy.out.ext HV.out)
              replace HBu := Lib.hid (HBu.out.upd HV.out (by simp))
              replace HAu := Lib.hid (HAu.out.ext HV.out)
              replace HBt := Lib.hid (HBt.out.upd HV.out (by simp))
              replace HAt := Lib.hid (HAt.out.ext HV.out)
              have HBg := Lib.hid HN.out.1
              have HAg := Lib.hid (show AuV wk4 o1 (.agg #[.slice gp0 o1.cuts.length gp1, .slice gp2 o1.next.length gp3, .slice gp4 o1.acc.length gp5]) from ⟨_, rfl, HC.out.2.ext HN.out.2⟩)
              replace HJ := Lib.hid (HJ.out.step HV.out)
              clear HC HN HV
              have qr0 := HBu.out.cell (i := 0) rfl
              have qr1 := HBu.out.cell (i := 1) rfl
              have qr2 := HBu.out.cell (i := 2) rfl
              have qs0 := HBd.out.cell (i := 0) rfl
              have qs1 := HBd.out.cell (i := 1) rfl
              have qs2 := HBd.out.cell (i := 2) rfl
              have HK := Lib.hid (HK2.out _ _ _ HAu.out HAd.out)
              go_upto_region 24 with ((with_reducible refine HK.out.mono ?_); rintro e wc ⟨vc, rfl, oc, uc⟩; obtain ⟨hp0, hp1, hp2, hp3, hp4, hp5, rfl, hFc⟩ := oc.shape; have HC := Lib.hid (And.intro uc hFc); clear oc uc hFc)
              clear HK qr0 qr1 qr2 qs0 qs1 qs2
              change Code.wp _ _ _ _ (wc.alloc (.cells #[.slice hp0 o2.cuts.length hp1, .slice hp2 o2.next.length hp3, .slice hp4 o2.acc.length hp5] 31))
              have HN := Lib.hid (show Blk (wc.alloc (.cells #[.slice hp0 o2.cuts.length hp1, .slice hp2 o2.next.length hp3, .slice hp4 o2.acc.length hp5] 31)) wc.heap.size [.slice hp0 o2.cuts.length hp1, .slice hp2 o2.next.length hp3, .slice hp4 o2.acc.length hp5] 31 ∧ Upd [] wc (wc.alloc (.cells #[.slice hp0 o2.cuts.length hp1, .slice hp2 o2.next.length hp3, .slice hp4 o2.acc.length hp5] 31)) from ⟨Blk.new wc _ _, (Upd.refl [] wc).alloc _⟩)
              generalize (wc.alloc (.cells #[.slice hp0 o2.cuts.length hp1, .slice hp2 o2.next.length hp3, .slice hp4 o2.acc.length hp5] 31)) = wk5 at *
              generalize wc.heap.size = hb at *
              have HV := Lib.hid (show Upd [] wk4 wk5 from HC.out.1.step HN.out.2)
              replace HBm := Lib.hid (HBm.out.upd HV.out (by simp))
              replace HAm := Lib.hid (HAm.out.ext HV.out)
              replace HBy := Lib.hid (HBy.out.upd HV.out (by simp))
              replace HAy := Lib.hid (HAy.out.ext HV.out)
              replace HBu := Lib.hid (HBu.out.upd HV.out (by simp))
              replace HAu := Lib.hid (HAu.out.ext HV.out)
              replace HBd := Lib.hid (HBd.out.upd HV.out (by simp))
              replace HAd := Lib.hid (HAd.out.ext HV.out)
              replace HBg := Lib.hid (HBg.out.upd HV.out (by simp))
              replace HAg := Lib.hid (HAg.out.ext HV.out)
              have HBh := Lib.hid HN.out.1
              have HAh := Lib.hid (show AuV wk5 o2 (.agg #[.slice hp0 o2.cuts.length hp1, .slice hp2 o2.next.length hp3, .slice hp4 o2.acc.length hp5]) from ⟨_, rfl, HC.out.2.ext HN.out.2⟩)
              replace HJ := Lib.hid (HJ.out.step HV.out)
              clear HC HN HV
              have qr0 := HBg.out.cell (i := 0) rfl
              have qr1 := HBg.out.cell (i := 1) rfl
              have qr2 := HBg.out.cell (i := 2) rfl
              have HK := Lib.hid (HL1.out _ _ HAg.out)
              go_upto_region 25 with ((with_reducible refine HK.out.mono ?_); rintro e wk6 ⟨rfl, uc⟩)
              have HV := Lib.hid uc
              clear uc HK qr0 qr1 qr2
              replace HBm := Lib.hid (HBm.out.upd HV.out (by simp))
              replace HAm := Lib.hid (HAm.out.ext HV.out)
              replace HBy := Lib.hid (HBy.out.upd HV.out (by simp))
              replace HAy := Lib.hid (HAy.out.ext HV.out)
              replace HBh := Lib.hid (HBh.out.upd HV.out (by simp))
              replace HAh := Lib.hid (HAh.out.ext HV.out)
              replace HJ := Lib.hid (HJ.out.step HV.out)
              clear HV
              have qr0 := HBh.out.cell (i := 0) rfl
              have qr1 := HBh.out.cell (i := 1) rfl
              have qr2 := HBh.out.cell (i := 2) rfl
              have HK := Lib.hid (HL2.out _ _ HAh.out)
              go_upto_region 26 with ((with_reducible refine HK.out.mono ?_); rintro e wk7 ⟨rfl, uc⟩)
              have HV := Lib.hid uc
              clear uc HK qr0 qr1 qr2
              replace HBm := Lib.hid (HBm.out.upd HV.out (by simp))
              replace HAm := Lib.hid (HAm.out.ext HV.out)
              replace HBy := Lib.hid (HBy.out.upd HV.out (by simp))
              replace HAy := Lib.hid (HAy.out.ext HV.out)
              replace HJ := Lib.hid (HJ.out.step HV.out)
              clear HV
              have HP1 := Lib.hid (fun (w' : World) (u : Upd [] wk7 w') => plain_calls (HAm.out.ext u))
              have HP2 := Lib.hid (fun (w' : World) (u : Upd [] wk7 w') => plain_calls (HAy.out.ext u))
              have hq : ∃ sx : Bool, (sx = true ↔ ma = md) ∧ (lp = false ∧ lq = false ∧ sx = true ∨ lp = false ∧ lq = true ∧ sx = false ∨ lp = true ∧ sx = false) := by
                have h := HLW.out
                cases lp <;> cases lq <;> simp at h
                · exact ⟨true, by simp [h], by simp⟩
                · exact ⟨false, by simp [h], by simp⟩
                · exact ⟨false, by simp [h], by simp⟩
                · exact ⟨false, by simp [h], by simp⟩
              obtain ⟨sx, hsx, hq⟩ := hq
              have HSX := Lib.hid (fun (w' : World) (u1 u2 : Value) (h1 : AuV w' ma u1) (h2 : AuV w' md u2) => SameV_calls hsx h1 h2)
              clear hsx
              have her : ((0 : Int) != 0) = false := by simp
              have qr0 := HBm.out.cell (i := 0) rfl
              have qr1 := HBm.out.cell (i := 1) rfl
              have qr2 := HBm.out.cell (i := 2) rfl
              have qs0 := HBy.out.cell (i := 0) rfl
              have qs1 := HBy.out.cell (i := 1) rfl
              have qs2 := HBy.out.cell (i := 2) rfl
              rcases hq with ⟨rfl, rfl, rfl⟩ | ⟨rfl, rfl, rfl⟩ | ⟨rfl, rfl⟩
              all_goals
                refine wp_region_ord 30 2 [0, 1, 2, 3, 4, 5, 6, 7, 8, 9, 10, 11, 12, 13, 14, 15, 16, 17, 18, 19, 20, 21, 22, 23, 24, 25, 26, 27, 29, 32, 33, 34, 35, 36, 37] [27, 29] [0, 1, 2, 3, 4, 5, 6, 7, 8, 9, 10, 11, 12, 13, 14, 15, 16, 17, 18, 19, 20, 21, 22, 23, 24, 25, 26, 27, 29, 32, 28, 30, 31, 33, 34, 35, 36, 37] (fun w' => ∃ x : Ext wk7, w' = x.val) (by kernel_rfl) (by kernel_rfl) (Ext.of (by iterate 25 (first | exact Upd.refl _ _ | assumption | refine Upd.alloc ?_ _ | refine Upd.drew ?_ | refine Upd.drewN ?_ _ | refine Upd.dl ?_ | refine Upd.step ?_ (Ext.upd _) | refine Upd.nil ?_ | skip))) ?_
                repeat (first | (refine wpOrd_load rfl rfl rfl rfl (fun K hK => ?_); go_big_quiet_step (fail); refine wpQuiet_nil ?_; refine hK _ ?_; clear hK K) | (refine wpOrd_free rfl rfl rfl (fun K hK => ?_); go_big_quiet_step (fail); refine wpQuiet_nil ?_; refine hK _ ?_; clear hK K))
                refine wpOrd_fix rfl rfl (fun K hK => ?_)
                go_wp2_with (go_at_call 17; refine (HP1.out _ (by iterate 25 (first | exact Upd.refl _ _ | assumption | refine Upd.alloc ?_ _ | refine Upd.drew ?_ | refine Upd.drewN ?_ _ | refine Upd.dl ?_ | refine Upd.step ?_ (Ext.upd _) | refine Upd.nil ?_ | skip))).mono ?_; rintro e wg ⟨vg, rfl, og, ug⟩)
                have HG := Lib.hid (And.intro (show Upd [] wk7 wg from Upd.step (by iterate 25 (first | exact Upd.refl _ _ | assumption | refine Upd.alloc ?_ _ | refine Upd.drew ?_ | refine Upd.drewN ?_ _ | refine Upd.dl ?_ | refine Upd.step ?_ (Ext.upd _) | refine Upd.nil ?_ | skip)) ug) og)
                clear ug og
                refine ⟨by first | exact Ext.of HG.out.1 | exact fun _ => Ext.of HG.out.1, ?_⟩
                repeat (first | (refine wpOrd_load rfl rfl rfl rfl (fun K hK => ?_); go_big_quiet_step (fail); refine wpQuiet_nil ?_; refine hK _ ?_; clear hK K) | (refine wpOrd_free rfl rfl rfl (fun K hK => ?_); go_big_quiet_step (fail); refine wpQuiet_nil ?_; refine hK _ ?_; clear hK K))
                refine wpOrd_fix rfl rfl (fun K hK => ?_)
                go_wp2_with (go_at_call 17; refine (HP2.out _ HG.out.1).mono ?_; rintro e wh ⟨vh, rfl, oh, uh⟩)
                have HH := Lib.hid (And.intro (HG.out.1.step uh) (And.intro (HG.out.2.ext uh) oh))
                clear uh oh
                refine ⟨by first | exact Ext.of HH.out.1 | exact fun _ => Ext.of HH.out.1, ?_⟩
                repeat (first | (refine wpOrd_load rfl rfl rfl rfl (fun K hK => ?_); go_big_quiet_step (fail); refine wpQuiet_nil ?_; refine hK _ ?_; clear hK K) | (refine wpOrd_free rfl rfl rfl (fun K hK => ?_); go_big_quiet_step (fail); refine wpQuiet_nil ?_; refine hK _ ?_; clear hK K))
                refine wpOrd_fix rfl rfl (fun K hK => ?_)
                have HSV := Lib.hid (HSX.out _ _ _ HH.out.2.1 HH.out.2.2)
                go_wp2_with (with_reducible (refine HSV.out.mono ?_); rintro e wl ⟨rfl, ui⟩)
                have HI2 := Lib.hid (HH.out.1.step ui)
                have HQ := Lib.hid (HJ.out.step HI2.out)
                clear ui
                refine ⟨by first | exact Ext.of HI2.out | exact fun _ => Ext.of HI2.out, ?_⟩
                repeat (first | (refine wpOrd_load rfl rfl rfl rfl (fun K hK => ?_); go_big_quiet_step (fail); refine wpQuiet_nil ?_; refine hK _ ?_; clear hK K) | (refine wpOrd_free rfl rfl rfl (fun K hK => ?_); go_big_quiet_step (fail); refine wpQuiet_nil ?_; refine hK _ ?_; clear hK K))
                refine wpOrd_nil ?_
                go_wp2_with fail
                exact ⟨⟨j + 1, by go_num, by omega, HQ⟩, by simp [intOf]; omega⟩
            · have h3i : ¬ ((j : Int) < 2) := by omega
              go_wp2_with (go_at_call 18; refine lives_calls.mono ?_; rintro e w14 ⟨rfl, u14⟩)
              go_ret
              exact ⟨rfl, (HUT.out.step HJ.out).step u14⟩
end
end Law
end Go.Proofs.YtjclbjdkkdijbaaGreat
