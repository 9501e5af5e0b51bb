/- Walks through the law of chapter 05: AutoOf. Conditions: none. -/
import Derived.Test.YtjclbjdkkdijbaaGreatRfZe
import Derived.Test.YtjclbjdkkdijbaaGreatRfZd
import Derived.Test.YtjclbjdkkdijbaaGreatAuU
import Derived.Test.YtjclbjdkkdijbaaGreatAuK
import Derived.Test.YtjclbjdkkdijbaaGreatAuSm
set_option linter.unusedVariables false
set_option linter.unusedSimpArgs false
set_option linter.unusedSectionVars false
open Go.RowKit
namespace Go.Proofs.YtjclbjdkkdijbaaGreat
open L
namespace Rgx
open Rx
theorem spoilR_nodes (r : Rx) (how by_ : Int) : nodes (spoilR r how by_) ≤ nodes r + 200 := by
  have h0 : nodes r = 1 + nodesL r.kids := by rw [← Rx.eta r, nodes]; rfl
  have hN : ∀ n, nodes (notN n r) = n + nodes r := fun n => by
    induction n with
    | zero => simp [notN]
    | succ n ih => rw [notN, nodes, nodesL, nodesL, ih]; omega
  have hL : ∀ n, nodesL (List.replicate n (nd 5 0 0 [])) = n := fun n => by
    induction n with
    | zero => rfl
    | succ n ih => rw [List.replicate_succ, nodesL, ih, nodes, nodesL]; omega
  have b1 := R01.around_lo (n := by_) (k := 40) (by omega)
  have b2 := R01.around_hi (n := by_) (k := 40) (by omega)
  have b3 := R01.around_lo (n := by_) (k := 50) (by omega)
  have b4 := R01.around_hi (n := by_) (k := 50) (by omega)
  unfold spoilR
  split
  · rw [nodes]; omega
  split
  · rw [nodes]; omega
  split
  · rw [nodes]; omega
  split
  · rw [nodes, nodesL_app, nodesL, nodesL, nodes, nodesL]; omega
  split
  · rw [nodes, nodesL]; omega
  split
  · rw [hN]; omega
  · rw [nodes, nodesL_app, hL, nodesL, nodesL]; omega
end Rgx
namespace Law
open Rgx Rx Aut Auto
section
variable {w w' : World} {v : Value}
set_option maxRecDepth 100000 in
set_option maxHeartbeats 16000000 in
theorem AutoOf_calls {xs : List Int} {how by_ : Int} (hx : ∀ x ∈ xs, IsI64 x) (hl : SL w 1 v xs.length (ints xs)) (hh : IsI64 how) (hb : IsI64 by_) :
    Calls Tryz.prog 3 #[v, .int .i64 how, .int .i64 by_] w fun e w' => e = .returned (.bool true) ∧ Upd [] w w' := by
  have HC1 := Lib.hid (madeR_calls hx hl)
  have HNR := Lib.hid (madeR_nodes xs)
  have HNS := Lib.hid (spoilR_nodes (madeR xs) how by_)
  generalize madeR xs = r at *
  have HHB := Lib.hid (And.intro hh hb)
  clear hx hl hh hb
  go_enter Tryz.func3, Tryz.ntmps3
  go_upto_region 2 with ((with_reducible refine HC1.out.mono ?_); rintro e w2 ⟨v2, rfl, o2, u2⟩; obtain ⟨a2, c2, rfl, hF2, _, _⟩ := o2.shape)
  have HB := Lib.hid (show Blk (w2.alloc (.cells #[.int .i64 r.kind, .int .u8 r.lo, .int .u8 r.hi, .slice a2 r.kids.length c2] 25)) w2.heap.size (rxC r.kind r.lo r.hi (.slice a2 r.kids.length c2)) 25 ∧ Upd [] w2 (w2.alloc (.cells #[.int .i64 r.kind, .int .u8 r.lo, .int .u8 r.hi, .slice a2 r.kids.length c2] 25)) from ⟨Blk.new w2 _ _, (Upd.refl [] w2).alloc _⟩)
  change Code.wp _ _ _ _ (w2.alloc (.cells #[.int .i64 r.kind, .int .u8 r.lo, .int .u8 r.hi, .slice a2 r.kids.length c2] 25))
  have HF3 := Lib.hid (And.intro (hF2.ext HB.out.2) (u2.step HB.out.2))
  generalize (w2.alloc (.cells #[.int .i64 r.kind, .int .u8 r.lo, .int .u8 r.hi, .slice a2 r.kids.length c2] 25)) = w3 at *
  generalize w2.heap.size = qb at *
  have k0 := HB.out.1.cell (i := 0) rfl
  have k1 := HB.out.1.cell (i := 1) rfl
  have k2 := HB.out.1.cell (i := 2) rfl
  have k3 := HB.out.1.cell (i := 3) rfl
  have HCS := Lib.hid (fun (w' : World) (u : Upd [] w3 w') => spoilR_calls (how := how) (by_ := by_) (HF3.out.1.ext u).val HHB.out.1 HHB.out.2 (by have := HNR.out; omega))
  generalize spoilR r how by_ = s at *
  clear u2 o2 hF2
  refine wp_region_ord 5 2 [0, 1, 2, 3, 6] [0, 1] [0, 1, 2, 3, 4, 5, 6] (fun w' => ∃ x : Ext w3, w' = x.val) (by kernel_rfl) (by kernel_rfl) (Ext.of (by iterate 25 (first | exact Upd.refl _ _ | assumption | refine Upd.alloc ?_ _ | refine Upd.drew ?_ | refine Upd.drewN ?_ _ | refine Upd.dl ?_ | refine Upd.step ?_ (Ext.upd _) | refine Upd.nil ?_ | skip))) ?_
  repeat (first | (refine wpOrd_load rfl rfl rfl rfl (fun K hK => ?_); go_big_quiet_step (fail); refine wpQuiet_nil ?_; refine hK _ ?_; clear hK K) | (refine wpOrd_free rfl rfl rfl (fun K hK => ?_); go_big_quiet_step (fail); refine wpQuiet_nil ?_; refine hK _ ?_; clear hK K))
  refine wpOrd_fix rfl rfl (fun K hK => ?_)
  go_wp2_with (go_at_call 12; refine (HCS.out _ (by iterate 25 (first | exact Upd.refl _ _ | assumption | refine Upd.alloc ?_ _ | refine Upd.drew ?_ | refine Upd.drewN ?_ _ | refine Upd.dl ?_ | refine Upd.step ?_ (Ext.upd _) | refine Upd.nil ?_ | skip))).mono ?_; rintro e w6 ⟨v6, rfl, r6, u6⟩; obtain ⟨a6, c6, rfl, hF6, _, _⟩ := r6.shape)
  have HU6 := Lib.hid (And.intro (show Upd [] w3 w6 from Upd.step (by iterate 25 (first | exact Upd.refl _ _ | assumption | refine Upd.alloc ?_ _ | refine Upd.drew ?_ | refine Upd.drewN ?_ _ | refine Upd.dl ?_ | refine Upd.step ?_ (Ext.upd _) | refine Upd.nil ?_ | skip)) u6) hF6)
  clear u6 r6 hF6
  refine ⟨fun _ => Ext.of HU6.out.1, ?_⟩
  repeat (first | (refine wpOrd_load rfl rfl rfl rfl (fun K hK => ?_); go_big_quiet_step (fail); refine wpQuiet_nil ?_; refine hK _ ?_; clear hK K) | (refine wpOrd_free rfl rfl rfl (fun K hK => ?_); go_big_quiet_step (fail); refine wpQuiet_nil ?_; refine hK _ ?_; clear hK K))
  refine wpOrd_fix rfl rfl (fun K hK => ?_)
  go_wp2_with fail
  have HNB := Lib.hid (show Blk (w6.alloc (.cells #[.int .i64 r.kind, .int .u8 r.lo, .int .u8 r.hi, .slice a2 r.kids.length c2, .int .i64 s.kind, .int .u8 s.lo, .int .u8 s.hi, .slice a6 s.kids.length c6] 25)) w6.heap.size (rxC r.kind r.lo r.hi (.slice a2 r.kids.length c2) ++ rxC s.kind s.lo s.hi (.slice a6 s.kids.length c6)) 25 ∧ Upd [] w6 (w6.alloc (.cells #[.int .i64 r.kind, .int .u8 r.lo, .int .u8 r.hi, .slice a2 r.kids.length c2, .int .i64 s.kind, .int .u8 s.lo, .int .u8 s.hi, .slice a6 s.kids.length c6] 25)) from ⟨Blk.new w6 _ _, (Upd.refl [] w6).alloc _⟩)
  generalize (w6.alloc (.cells #[.int .i64 r.kind, .int .u8 r.lo, .int .u8 r.hi, .slice a2 r.kids.length c2, .int .i64 s.kind, .int .u8 s.lo, .int .u8 s.hi, .slice a6 s.kids.length c6] 25)) = w7 at *
  generalize w6.heap.size = lb at *
  have HLL := Lib.hid (RxL.two (M := []) HNB.out.1 ((HF3.out.1.ext HU6.out.1).ext HNB.out.2) (HU6.out.2.ext HNB.out.2) (by simp))
  have HU7 := Lib.hid ((HF3.out.2.step HU6.out.1).step HNB.out.2)
  clear k0 k1 k2 k3
  refine ⟨fun hC => absurd hC (by decide), ?_⟩
  repeat (first | (refine wpOrd_load rfl rfl rfl rfl (fun K hK => ?_); go_big_quiet_step (fail); refine wpQuiet_nil ?_; refine hK _ ?_; clear hK K) | (refine wpOrd_free rfl rfl rfl (fun K hK => ?_); go_big_quiet_step (fail); refine wpQuiet_nil ?_; refine hK _ ?_; clear hK K))
  refine wpOrd_nil ?_
  go_wp2_with fail
  go_loopw [9] (fun iv wr => ∃ m : Nat, iv = .int .i64 m ∧ m ≤ 2 ∧ ∃ x : Ext w7, wr = x.val) (fun iv _ => 2 - (intOf iv).toNat)
  case atStart => exact ⟨0, rfl, by omega, Ext.of (by iterate 25 (first | exact Upd.refl _ _ | assumption | refine Upd.alloc ?_ _ | refine Upd.drew ?_ | refine Upd.drewN ?_ _ | refine Upd.dl ?_ | refine Upd.step ?_ (Ext.upd _) | refine Upd.nil ?_ | skip))⟩
  case round =>
    obtain ⟨m, rfl, hm, x, rfl⟩ := hrel
    have HXU := Lib.hid x.upd
    generalize x.val = wq at *
    by_cases hlt : m < 2
    · have hli : (m : Int) < 2 := by omega
      obtain ⟨q, hq, hqn⟩ : ∃ q, [r, s][m]? = some q ∧ nodes q ≤ 1000000 := by
        have h1 := HNR.out
        have h2 := HNS.out
        rcases (by omega : m = 0 ∨ m = 1) with rfl | rfl
        · exact ⟨r, rfl, by omega⟩
        · exact ⟨s, rfl, by omega⟩
      obtain ⟨g, off, a3, c3, hge, hRF, e0, e1, e2, e3⟩ := (HLL.out.ext HXU.out).kid hq
      cases hge
      rw [Nat.zero_add] at e0 e1 e2 e3
      have HRQ := Lib.hid (And.intro hRF hqn)
      have HCE := Lib.hid (expr_calls q hRF.val (by simp) hqn)
      clear hRF hqn hq
      go_upto_region 6 with fail
      refine wp_region_lit ?_
      refine wpList_cutH 5 (fun K hK => ?_)
      simp only [List.take_succ_cons, List.take_zero]
      go_wp2_with ((with_reducible refine HCE.out.mono ?_); rintro e w8 ⟨v8, rfl, o8, u8⟩)
      refine Halt_.intro ?_; try simp only [List.drop_succ_cons, List.drop_zero]
      have HCO := Lib.hid (Of_calls o8)
      have HU8 := Lib.hid u8
      obtain ⟨a8, c8, rfl, _⟩ := o8.shape
      have e0 := u8.some e0 (by simp)
      have e1 := u8.some e1 (by simp)
      have e2 := u8.some e2 (by simp)
      have e3 := u8.some e3 (by simp)
      clear u8 o8
      go_upto_region 7 with ((with_reducible refine HCO.out.mono ?_); rintro e w9 ⟨v9, rfl, o9, u9⟩; obtain ⟨x1, y1, x2, y2, x3, y3, rfl, hA9⟩ := o9.shape)
      change Code.wp _ _ _ _ (w9.alloc (.cells #[.slice x1 (ofA q).cuts.length y1, .slice x2 (ofA q).next.length y2, .slice x3 (ofA q).acc.length y3] 31))
      have HBA := Lib.hid (show Blk (w9.alloc (.cells #[.slice x1 (ofA q).cuts.length y1, .slice x2 (ofA q).next.length y2, .slice x3 (ofA q).acc.length y3] 31)) w9.heap.size [.slice x1 (ofA q).cuts.length y1, .slice x2 (ofA q).next.length y2, .slice x3 (ofA q).acc.length y3] 31 ∧ Upd [] w9 (w9.alloc (.cells #[.slice x1 (ofA q).cuts.length y1, .slice x2 (ofA q).next.length y2, .slice x3 (ofA q).acc.length y3] 31)) from ⟨Blk.new w9 _ _, (Upd.refl [] w9).alloc _⟩)
      have HUA := Lib.hid (And.intro ((HU8.out.step u9).step HBA.out.2) (hA9.ext HBA.out.2))
      have e0 := (u9.step HBA.out.2).some e0 (by simp)
      have e1 := (u9.step HBA.out.2).some e1 (by simp)
      have e2 := (u9.step HBA.out.2).some e2 (by simp)
      have e3 := (u9.step HBA.out.2).some e3 (by simp)
      generalize (w9.alloc (.cells #[.slice x1 (ofA q).cuts.length y1, .slice x2 (ofA q).next.length y2, .slice x3 (ofA q).acc.length y3] 31)) = wA at *
      generalize w9.heap.size = ga at *
      have HCR := Lib.hid (rOf_calls (HRQ.out.1.ext HUA.out.1).val HRQ.out.2)
      clear u9 o9 hA9
      go_upto_region 8 with ((with_reducible refine HCR.out.mono ?_); rintro e w9 ⟨v9, rfl, o9, u9⟩; obtain ⟨p1, z1, p2, z2, p3, z3, rfl, hA9⟩ := o9.shape)
      change Code.wp _ _ _ _ (w9.alloc (.cells #[.slice p1 (ofA q).cuts.length z1, .slice p2 (ofA q).next.length z2, .slice p3 (ofA q).acc.length z3] 39))
      have HBR := Lib.hid (show Blk (w9.alloc (.cells #[.slice p1 (ofA q).cuts.length z1, .slice p2 (ofA q).next.length z2, .slice p3 (ofA q).acc.length z3] 39)) w9.heap.size [.slice p1 (ofA q).cuts.length z1, .slice p2 (ofA q).next.length z2, .slice p3 (ofA q).acc.length z3] 39 ∧ Upd [] w9 (w9.alloc (.cells #[.slice p1 (ofA q).cuts.length z1, .slice p2 (ofA q).next.length z2, .slice p3 (ofA q).acc.length z3] 39)) from ⟨Blk.new w9 _ _, (Upd.refl [] w9).alloc _⟩)
      have HUR := Lib.hid (And.intro ((HUA.out.1.step u9).step HBR.out.2) (And.intro (hA9.ext HBR.out.2) (And.intro ((HUA.out.2.ext u9).ext HBR.out.2) ((HBA.out.1.upd u9 (by simp)).upd HBR.out.2 (by simp)))))
      generalize (w9.alloc (.cells #[.slice p1 (ofA q).cuts.length z1, .slice p2 (ofA q).next.length z2, .slice p3 (ofA q).acc.length z3] 39)) = wR at *
      generalize w9.heap.size = gr at *
      clear u9 o9 hA9 e0 e1 e2 e3
      have n0 := HUR.out.2.2.2.cell (i := 0) rfl
      have n1 := HUR.out.2.2.2.cell (i := 1) rfl
      have n2 := HUR.out.2.2.2.cell (i := 2) rfl
      have t0 := HBR.out.1.cell (i := 0) rfl
      have t1 := HBR.out.1.cell (i := 1) rfl
      have t2 := HBR.out.1.cell (i := 2) rfl
      have HCP := Lib.hid (fun (w' : World) (u : Upd [] wR w') => plain_calls (show AuV w' (ofA q) (.agg #[.slice x1 (ofA q).cuts.length y1, .slice x2 (ofA q).next.length y2, .slice x3 (ofA q).acc.length y3]) from ⟨_, rfl, HUR.out.2.2.1.ext u⟩))
      have HCS2 := Lib.hid (fun (w' : World) (u : Upd [] wR w') (v' : Value) (h : AuV w' (ofA q) v') => SameA_calls h (show AuV w' (ofA q) (.agg #[.slice p1 (ofA q).cuts.length z1, .slice p2 (ofA q).next.length z2, .slice p3 (ofA q).acc.length z3]) from ⟨_, rfl, HUR.out.2.1.ext u⟩))
      generalize ofE q = er at *
      have her : (er != er) = false := by simp
      refine wp_region_ord 7 2 [0, 1, 2, 3, 4, 6, 8, 9] [4, 6] [0, 1, 2, 3, 4, 6, 5, 7, 8, 9] (fun w' => ∃ x : Ext wR, w' = x.val) (by kernel_rfl) (by kernel_rfl) (Ext.of (by iterate 25 (first | exact Upd.refl _ _ | assumption | refine Upd.alloc ?_ _ | refine Upd.drew ?_ | refine Upd.drewN ?_ _ | refine Upd.dl ?_ | refine Upd.step ?_ (Ext.upd _) | refine Upd.nil ?_ | skip))) ?_
      repeat (first | (refine wpOrd_load rfl rfl rfl rfl (fun K hK => ?_); go_big_quiet_step (fail); refine wpQuiet_nil ?_; refine hK _ ?_; clear hK K) | (refine wpOrd_free rfl rfl rfl (fun K hK => ?_); go_big_quiet_step (fail); refine wpQuiet_nil ?_; refine hK _ ?_; clear hK K))
      refine wpOrd_fix rfl rfl (fun K hK => ?_)
      go_wp2_with (go_at_call 17; refine (HCP.out _ (by iterate 25 (first | exact Upd.refl _ _ | assumption | refine Upd.alloc ?_ _ | refine Upd.drew ?_ | refine Upd.drewN ?_ _ | refine Upd.dl ?_ | refine Upd.step ?_ (Ext.upd _) | refine Upd.nil ?_ | skip))).mono ?_; rintro e wS ⟨vS, rfl, oS, uS⟩)
      have HUS := Lib.hid (And.intro (show Upd [] wR wS from Upd.step (by iterate 25 (first | exact Upd.refl _ _ | assumption | refine Upd.alloc ?_ _ | refine Upd.drew ?_ | refine Upd.drewN ?_ _ | refine Upd.dl ?_ | refine Upd.step ?_ (Ext.upd _) | refine Upd.nil ?_ | skip)) uS) oS)
      clear uS oS
      refine ⟨fun _ => Ext.of HUS.out.1, ?_⟩
      repeat (first | (refine wpOrd_load rfl rfl rfl rfl (fun K hK => ?_); go_big_quiet_step (fail); refine wpQuiet_nil ?_; refine hK _ ?_; clear hK K) | (refine wpOrd_free rfl rfl rfl (fun K hK => ?_); go_big_quiet_step (fail); refine wpQuiet_nil ?_; refine hK _ ?_; clear hK K))
      refine wpOrd_fix rfl rfl (fun K hK => ?_)
      go_wp2_with (go_at_call 16; refine (HCS2.out _ HUS.out.1 _ HUS.out.2).mono ?_; rintro e wT ⟨b, rfl, hbt, uT⟩)
      obtain rfl : b = true := by simpa using hbt
      have HUT := Lib.hid ((HUR.out.1.step HUS.out.1).step uT)
      clear hbt uT
      refine ⟨fun hC => absurd hC (by decide), ?_⟩
      repeat (first | (refine wpOrd_load rfl rfl rfl rfl (fun K hK => ?_); go_big_quiet_step (fail); refine wpQuiet_nil ?_; refine hK _ ?_; clear hK K) | (refine wpOrd_free rfl rfl rfl (fun K hK => ?_); go_big_quiet_step (fail); refine wpQuiet_nil ?_; refine hK _ ?_; clear hK K))
      refine wpOrd_nil ?_
      go_wp2_with fail
      exact ⟨⟨m + 1, by go_num, by omega, Ext.of (HXU.out.step HUT.out)⟩, by simp [intOf]; omega⟩
    · have hme : m = 2 := by omega
      have hli : ¬ (m : Int) < 2 := by omega
      have HLV := Lib.hid (lives_calls (w := wq))
      go_wp2_with ((with_reducible refine HLV.out.mono ?_); rintro e w8 ⟨rfl, u8⟩)
      go_ret
      exact ⟨rfl, (HU7.out.step HXU.out).step u8⟩
end
end Law
end Go.Proofs.YtjclbjdkkdijbaaGreat
