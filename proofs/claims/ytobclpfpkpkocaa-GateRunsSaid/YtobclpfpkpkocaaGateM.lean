/- Walks through the laws of gates: GateClauses. Conditions: none. -/
import Derived.Test.YtobclpfpkpkocaaGateL
set_option linter.unusedVariables false
set_option linter.unusedSimpArgs false
set_option linter.unusedSectionVars false
open Go.RowKit
namespace Go.Proofs.Ytobclpfpkpkocaa
open L
namespace Gate
open Cla R14 R01
def gL (k o : Int) (xs : List Int) : List (List Int) := if gOk k o xs = true then gCl k o xs else []
theorem ClsT.uni {k o : Int} {xs : List Int} {w w' : World} {e : Ending} (h : ClsT k o xs w e w') : ∃ v, e = .returned (.tuple #[v, .int .i64 (gErr k o xs)]) ∧ CL w' v (gL k o xs) ∧ Upd [] w w' := by
  cases hg : gOk k o xs with
  | true =>
    obtain ⟨v, h1, h2, h3⟩ := h.2 hg
    exact ⟨v, by rw [gErr_good hg]; exact h1, by unfold gL; rw [if_pos hg]; exact h2, h3⟩
  | false =>
    obtain ⟨h1, h2⟩ := h.1 hg
    exact ⟨_, by rw [gErr_bad hg]; exact h1, by unfold gL; rw [if_neg (by simp [hg])]; exact (OwnL.nil 22 w' w').cl, h2⟩
theorem ninp_pos {k : Int} (h0 : 0 ≤ k) (h6 : k ≤ 6) : 1 ≤ ninp k := by unfold ninp; split <;> (try split) <;> (try split) <;> omega
/-- A gate in a row of gates. -/
def GAt (w : World) (g k : Nat) (kk oo : Int) (ys : List Int) (a : Option Addr) (cap : Nat) : Prop :=
  w.cell? ⟨g, k * 3, none⟩ = some (.int .i64 kk) ∧ w.cell? ⟨g, k * 3 + 1, none⟩ = some (.int .i64 oo) ∧ w.cell? ⟨g, k * 3 + 2, none⟩ = some (.slice a ys.length cap) ∧ SL w 1 (.slice a ys.length cap) ys.length (ints ys) ∧ ∀ x ∈ ys, IsI64 x
theorem GAt.upd {w w' : World} {g k : Nat} {kk oo : Int} {ys : List Int} {a : Option Addr} {cap : Nat} (h : GAt w g k kk oo ys a cap) (hu : Upd [] w w') : GAt w' g k kk oo ys a cap :=
  ⟨hu.some h.1 (by simp), hu.some h.2.1 (by simp), hu.some h.2.2.1 (by simp), h.2.2.2.1.upd hu (by simp), h.2.2.2.2⟩
/-- A world in which three cells hold what they held. -/
def Tri3 (p0 p1 p2 : Addr) (v0 v1 v2 : Value) : Type := { w : World // w.cell? p0 = some v0 ∧ w.cell? p1 = some v1 ∧ w.cell? p2 = some v2 }
theorem Tri3.c0 {p0 p1 p2 : Addr} {v0 v1 v2 : Value} (x : Tri3 p0 p1 p2 v0 v1 v2) : x.val.cell? p0 = some v0 := x.property.1
theorem Tri3.c1 {p0 p1 p2 : Addr} {v0 v1 v2 : Value} (x : Tri3 p0 p1 p2 v0 v1 v2) : x.val.cell? p1 = some v1 := x.property.2.1
theorem Tri3.c2 {p0 p1 p2 : Addr} {v0 v1 v2 : Value} (x : Tri3 p0 p1 p2 v0 v1 v2) : x.val.cell? p2 = some v2 := x.property.2.2
attribute [go_sem] Tri3.c0 Tri3.c1 Tri3.c2
section
variable {w : World}
set_option maxRecDepth 100000 in
set_option maxHeartbeats 8000000 in
theorem GateClauses_calls {lv : Value} {xs : List Int} (hx : ∀ x ∈ xs, IsI64 x) (hl : SL w 1 lv xs.length (ints xs)) (how at' by' : Int) (hh : IsI64 how) (ha : IsI64 at') (hb : IsI64 by') :
    Calls Try.prog 3 #[lv, .int .i64 how, .int .i64 at', .int .i64 by'] w fun e w' => e = .returned (.bool true) ∧ Upd [] w w' := by
  obtain ⟨a, cap, rfl, q1, r1, hc⟩ := SL.elems hl
  have HX := Lib.hid (And.intro hx hc)
  clear hx hl hc
  go_enter Try.func3, Try.ntmps3
  go_wp2_with fail
  go_loopw [9] (fun i wr => ∃ j : Nat, i = .int .i64 j ∧ j ≤ xs.length ∧ j ≤ 12 ∧ Upd [] w wr) (fun i _ => 12 - (intOf i).toNat)
  case atStart => exact ⟨0, rfl, Nat.zero_le _, by omega, Upd.refl _ _⟩
  case round =>
    obtain ⟨wo, rfl⟩ : ∃ wo : World, wo = wr := ⟨_, rfl⟩
    obtain ⟨j, rfl, hj, hj12, hu⟩ := hrel
    by_cases hlt : j < xs.length ∧ j < 12
    · obtain ⟨hlt, hlt12⟩ := hlt
      obtain ⟨g, off, rfl, k1⟩ := HX.out.2 (by omega)
      have e0 := hu.some (k1 j _ (ints_gd hlt)) (by simp)
      have hx64 := HX.out.1 _ (gd_mem hlt)
      generalize xs.getD j 0 = x at *
      have HU := Lib.hid (And.intro hu hx64)
      clear hu k1 hx64
      have ho1 : 1 ≤ 4 + (j : Int) % 3 := by omega
      have ho2 : 4 + (j : Int) % 3 ≤ 1000 := by omega
      go_upto_region 5 with (go_at_call 8; refine (SomeG_calls x _ HU.out.2 ho1 ho2).mono ?_; rintro e w2 ⟨kk, ys, v2, rfl, hk0, hk6, hyl, hys, hO⟩; have hn3 := ninp_le kk; have hyl1 : 1 ≤ ys.length := (by have := ninp_pos hk0 hk6; omega); have hyl3 : ys.length ≤ 3 := (by omega); obtain ⟨av, cv, rfl, hcv, _⟩ := hO.form; have HO := Lib.hid (And.intro hO (And.intro hys hyl)); clear hO hys hyl)
      generalize 4 + (j : Int) % 3 = oo at *
      have NB := Blk.new w2 [.int .i64 kk, .int .i64 oo, .slice av ys.length cv] 24
      have U3 := (Upd.refl [] w2).alloc (.cells #[.int .i64 kk, .int .i64 oo, .slice av ys.length cv] 24)
      generalize w2.alloc (.cells #[.int .i64 kk, .int .i64 oo, .slice av ys.length cv] 24) = w3 at *
      generalize w2.heap.size = g3 at *
      have c0 := NB.cell (i := 0) rfl
      have c1 := NB.cell (i := 1) rfl
      have c2 := NB.cell (i := 2) rfl
      have hys : ∀ x ∈ ys, IsI64 x := fun x hx => by have := HO.out.2.1 x hx; unfold IsI64; omega
      have H3 := Lib.hid (And.intro (HO.out.1.sl.upd U3 (by simp)) (And.intro ((HU.out.1.step HO.out.1.u).step U3) hys))
      clear NB U3 hys
      have hk64 : IsI64 kk := by unfold IsI64; omega
      have h64 := isI64_wrap (how + j)
      have HSP := Lib.hid (fun (w : World) (h : SL w 1 (.slice av ys.length cv) ys.length (ints ys)) => Spoilt_calls (o := oo) h hk64 ho1 ho2 H3.out.2.2 hyl1 hyl3 _ at' by' h64 ha hb)
      clear hk64 h64
      refine wp_region_ord 8 2 [0, 1, 2, 3, 4, 5, 6, 9] [0, 1] [0, 1, 2, 3, 4, 5, 6, 7, 8, 9] (fun w' => ∃ x : Ext w3, w' = x.val) (by kernel_rfl) (by kernel_rfl) (Ext.of (by iterate 25 (first | exact Upd.refl _ _ | assumption | refine Upd.alloc ?_ _ | refine Upd.drew ?_ | refine Upd.drewN ?_ _ | refine Upd.dl ?_ | refine Upd.step ?_ (Ext.upd _) | refine Upd.nil ?_ | skip))) ?_
      repeat (first | (refine wpOrd_load rfl rfl rfl rfl (fun K hK => ?_); go_big_quiet_step (fail); refine wpQuiet_nil ?_; refine hK _ ?_; clear hK K) | (refine wpOrd_free rfl rfl rfl (fun K hK => ?_); go_big_quiet_step (fail); refine wpQuiet_nil ?_; refine hK _ ?_; clear hK K))
      refine wpOrd_fix rfl rfl (fun K hK => ?_)
      go_wp2_with (go_at_call 9; refine (HSP.out _ (H3.out.1.upd (S := []) (by iterate 25 (first | exact Upd.refl _ _ | assumption | refine Upd.alloc ?_ _ | refine Upd.drew ?_ | refine Upd.drewN ?_ _ | refine Upd.dl ?_ | refine Upd.step ?_ (Ext.upd _) | refine Upd.nil ?_ | skip)) (by simp))).mono ?_; rintro e w4 ⟨k2, o2, zs, v2, rfl, hk2, ho2', hzs, hs2, u4⟩)
      have U4 : Upd [] w3 w4 := Upd.step (by iterate 25 (first | exact Upd.refl _ _ | assumption | refine Upd.alloc ?_ _ | refine Upd.drew ?_ | refine Upd.drewN ?_ _ | refine Upd.dl ?_ | refine Upd.step ?_ (Ext.upd _) | refine Upd.nil ?_ | skip)) u4
      obtain ⟨az, cz, rfl, _⟩ := SL.elems hs2
      have H4 := Lib.hid (And.intro U4 (And.intro hs2 hzs))
      clear u4 U4 hs2 hzs HSP hk2 ho2'
      refine ⟨fun _ => Ext.of H4.out.1, ?_⟩
      repeat (first | (refine wpOrd_load rfl rfl rfl rfl (fun K hK => ?_); go_big_quiet_step (fail); refine wpQuiet_nil ?_; refine hK _ ?_; clear hK K) | (refine wpOrd_free rfl rfl rfl (fun K hK => ?_); go_big_quiet_step (fail); refine wpQuiet_nil ?_; refine hK _ ?_; clear hK K))
      refine wpOrd_fix rfl rfl (fun K hK => ?_)
      go_wp2_with fail
      have N5 := Blk.new w4 [.int .i64 kk, .int .i64 oo, .slice av ys.length cv, .int .i64 k2, .int .i64 o2, .slice az zs.length cz] 24
      have U5 := (Upd.refl [] w4).alloc (.cells #[.int .i64 kk, .int .i64 oo, .slice av ys.length cv, .int .i64 k2, .int .i64 o2, .slice az zs.length cz] 24)
      generalize w4.alloc (.cells #[.int .i64 kk, .int .i64 oo, .slice av ys.length cv, .int .i64 k2, .int .i64 o2, .slice az zs.length cz] 24) = w5 at *
      generalize w4.heap.size = g5 at *
      have G5 : ∀ m, m < 2 → ∃ k o zs a c, GAt w5 g5 m k o zs a c := fun m hm => by
        rcases (by omega : m = 0 ∨ m = 1) with rfl | rfl
        · exact ⟨kk, oo, ys, av, cv, N5.cell rfl, N5.cell rfl, N5.cell rfl, (H3.out.1.upd H4.out.1 (by simp)).upd U5 (by simp), H3.out.2.2⟩
        · exact ⟨k2, o2, zs, az, cz, N5.cell rfl, N5.cell rfl, N5.cell rfl, H4.out.2.1.upd U5 (by simp), H4.out.2.2⟩
      have H5 := Lib.hid (And.intro G5 ((H3.out.2.1.step H4.out.1).step U5))
      clear N5 U5 G5 H4 H3 HO c0 c1 c2 e0
      refine ⟨fun hC => absurd hC (by decide), ?_⟩
      repeat (first | (refine wpOrd_load rfl rfl rfl rfl (fun K hK => ?_); go_big_quiet_step (fail); refine wpQuiet_nil ?_; refine hK _ ?_; clear hK K) | (refine wpOrd_free rfl rfl rfl (fun K hK => ?_); go_big_quiet_step (fail); refine wpQuiet_nil ?_; refine hK _ ?_; clear hK K))
      refine wpOrd_nil ?_
      go_wp2_with fail
      go_loopw [12] (fun i wr => ∃ m : Nat, i = .int .i64 m ∧ m ≤ 2 ∧ Upd [] w5 wr) (fun i _ => 2 - (intOf i).toNat)
      case atStart => exact ⟨0, rfl, Nat.zero_le _, Upd.refl _ _⟩
      case round =>
        obtain ⟨wi, rfl⟩ : ∃ wi : World, wi = wr := ⟨_, rfl⟩
        obtain ⟨m, rfl, hm, hu⟩ := hrel
        by_cases hlm : m < 2
        · obtain ⟨ka, oa, za, aa, ca, hG⟩ := H5.out.1 m hlm
          replace hG := hG.upd hu
          obtain ⟨c0, c1, c2, _, _⟩ := id hG
          have HG := Lib.hid (And.intro hG hu)
          clear hG hu
          go_wp2_with (go_at_call 11; refine Own_calls.mono ?_; rintro e w6 ⟨rfl, u6⟩; have H6 := Lib.hid u6; clear u6)
          refine (GClauses_calls (HG.out.1.2.2.2.1.upd H6.out (by simp))).mono ?_
          intro e w7 hc
          obtain ⟨v7, rfl, C7, u7⟩ := hc.uni
          obtain ⟨a7, cap7, rfl, _⟩ := C7.form
          have hG7 := HG.out.1.upd (H6.out.step u7)
          obtain ⟨d0, d1, d2, _, _⟩ := id hG7
          have H7 := Lib.hid (And.intro C7 (And.intro hG7 (HG.out.2.step (H6.out.step u7))))
          clear hc C7 u7 H6 hG7 HG c0 c1 c2
          go_wp2_with fail
          refine (ClausesR_calls H7.out.2.1.2.2.2.1 H7.out.2.1.2.2.2.2).mono ?_
          intro e w8 hc
          obtain ⟨v8, rfl, C8, u8⟩ := hc.uni
          obtain ⟨a8, cap8, rfl, _⟩ := C8.form
          have hG8 := H7.out.2.1.upd u8
          obtain ⟨c0, c1, c2, _, _⟩ := id hG8
          have H8 := Lib.hid (And.intro C8 (And.intro hG8 (And.intro (H7.out.2.2.step u8) (H7.out.1.upd u8))))
          clear hc C8 u8 hG8 H7 d0 d1 d2
          have HV := Lib.hid (fun (w : World) (h : SL w 1 (.slice aa za.length ca) za.length (ints za)) => And.intro (GValid_calls (k := ka) (o := oa) h) (ValidR_calls (k := ka) (o := oa) h H8.out.2.1.2.2.2.2))
          generalize gErr ka oa za = er at *
          generalize gL ka oa za = LL at *
          have hb3 : (er != er) = false := by simp
          go_wp2_with fail
          refine wp_region_ord 10 3 [0, 1, 2, 3, 6, 7, 8, 9, 11, 12, 13, 14, 15, 16, 17, 18, 19, 21, 22] [3, 9] [0, 1, 2, 3, 6, 7, 8, 9, 4, 5, 10, 11, 12, 13, 14, 15, 16, 17, 18, 19, 20, 21, 22] (fun w' => ∃ x : Ext w8, w' = x.val) (by kernel_rfl) (by kernel_rfl) (Ext.of (by iterate 25 (first | exact Upd.refl _ _ | assumption | refine Upd.alloc ?_ _ | refine Upd.drew ?_ | refine Upd.drewN ?_ _ | refine Upd.dl ?_ | refine Upd.step ?_ (Ext.upd _) | refine Upd.nil ?_ | skip))) ?_
          repeat (first | (refine wpOrd_load rfl rfl rfl rfl (fun K hK => ?_); go_big_quiet_step (fail); refine wpQuiet_nil ?_; refine hK _ ?_; clear hK K) | (refine wpOrd_free rfl rfl rfl (fun K hK => ?_); go_big_quiet_step (fail); refine wpQuiet_nil ?_; refine hK _ ?_; clear hK K))
          refine wpOrd_fix rfl rfl (fun K hK => ?_)
          go_wp2_with (go_at_call 11; refine Own_calls.mono ?_; rintro e w9 ⟨rfl, u9⟩)
          have H9 := Lib.hid (show Upd [] w8 w9 from Upd.step (by iterate 25 (first | exact Upd.refl _ _ | assumption | refine Upd.alloc ?_ _ | refine Upd.drew ?_ | refine Upd.drewN ?_ _ | refine Upd.dl ?_ | refine Upd.step ?_ (Ext.upd _) | refine Upd.nil ?_ | skip)) u9)
          clear u9
          refine ⟨fun _ => Ext.of H9.out, ?_⟩
          repeat (first | (refine wpOrd_load rfl rfl rfl rfl (fun K hK => ?_); go_big_quiet_step (fail); refine wpQuiet_nil ?_; refine hK _ ?_; clear hK K) | (refine wpOrd_free rfl rfl rfl (fun K hK => ?_); go_big_quiet_step (fail); refine wpQuiet_nil ?_; refine hK _ ?_; clear hK K))
          refine wpOrd_fix rfl rfl (fun K hK => ?_)
          go_wp2_with (go_at_call 13; refine (HV.out _ (H8.out.2.1.2.2.2.1.upd (S := []) (Upd.step H9.out (by iterate 25 (first | exact Upd.refl _ _ | assumption | refine Upd.alloc ?_ _ | refine Upd.drew ?_ | refine Upd.drewN ?_ _ | refine Upd.dl ?_ | refine Upd.step ?_ (Ext.upd _) | refine Upd.nil ?_ | skip))) (by simp))).1.mono ?_; rintro e wA ⟨rfl, uA⟩)
          have HA := Lib.hid (show Upd [] w8 wA from Upd.step H9.out (show Upd [] w9 wA from Upd.step (by iterate 25 (first | exact Upd.refl _ _ | assumption | refine Upd.alloc ?_ _ | refine Upd.drew ?_ | refine Upd.drewN ?_ _ | refine Upd.dl ?_ | refine Upd.step ?_ (Ext.upd _) | refine Upd.nil ?_ | skip)) uA))
          clear uA H9
          refine ⟨fun _ => Ext.of HA.out, ?_⟩
          repeat (first | (refine wpOrd_load rfl rfl rfl rfl (fun K hK => ?_); go_big_quiet_step (fail); refine wpQuiet_nil ?_; refine hK _ ?_; clear hK K) | (refine wpOrd_free rfl rfl rfl (fun K hK => ?_); go_big_quiet_step (fail); refine wpQuiet_nil ?_; refine hK _ ?_; clear hK K))
          refine wpOrd_fix rfl rfl (fun K hK => ?_)
          go_wp2_with (go_at_call 14; refine (HV.out _ (H8.out.2.1.2.2.2.1.upd (S := []) (Upd.step HA.out (by iterate 25 (first | exact Upd.refl _ _ | assumption | refine Upd.alloc ?_ _ | refine Upd.drew ?_ | refine Upd.drewN ?_ _ | refine Upd.dl ?_ | refine Upd.step ?_ (Ext.upd _) | refine Upd.nil ?_ | skip))) (by simp))).2.mono ?_; rintro e wB ⟨rfl, uB⟩)
          have HB := Lib.hid (show Upd [] w8 wB from Upd.step HA.out (show Upd [] wA wB from Upd.step (by iterate 25 (first | exact Upd.refl _ _ | assumption | refine Upd.alloc ?_ _ | refine Upd.drew ?_ | refine Upd.drewN ?_ _ | refine Upd.dl ?_ | refine Upd.step ?_ (Ext.upd _) | refine Upd.nil ?_ | skip)) uB))
          clear uB HA
          refine ⟨fun hC => absurd hC (by decide), ?_⟩
          repeat (first | (refine wpOrd_load rfl rfl rfl rfl (fun K hK => ?_); go_big_quiet_step (fail); refine wpQuiet_nil ?_; refine hK _ ?_; clear hK K) | (refine wpOrd_free rfl rfl rfl (fun K hK => ?_); go_big_quiet_step (fail); refine wpQuiet_nil ?_; refine hK _ ?_; clear hK K))
          refine wpOrd_fix rfl rfl (fun K hK => ?_)
          go_wp2_with (go_at_call 15; refine (SameL_calls (H8.out.2.2.2.upd (Upd.step HB.out (by iterate 25 (first | exact Upd.refl _ _ | assumption | refine Upd.alloc ?_ _ | refine Upd.drew ?_ | refine Upd.drewN ?_ _ | refine Upd.dl ?_ | refine Upd.step ?_ (Ext.upd _) | refine Upd.nil ?_ | skip)))) (H8.out.1.upd (Upd.step HB.out (by iterate 25 (first | exact Upd.refl _ _ | assumption | refine Upd.alloc ?_ _ | refine Upd.drew ?_ | refine Upd.drewN ?_ _ | refine Upd.dl ?_ | refine Upd.step ?_ (Ext.upd _) | refine Upd.nil ?_ | skip))))).mono ?_; rintro e wC ⟨rfl, uC⟩)
          have HC := Lib.hid (show Upd [] w8 wC from Upd.step HB.out (show Upd [] wB wC from Upd.step (by iterate 25 (first | exact Upd.refl _ _ | assumption | refine Upd.alloc ?_ _ | refine Upd.drew ?_ | refine Upd.drewN ?_ _ | refine Upd.dl ?_ | refine Upd.step ?_ (Ext.upd _) | refine Upd.nil ?_ | skip)) uC))
          clear uC HB
          refine ⟨fun hC => absurd hC (by decide), ?_⟩
          repeat (first | (refine wpOrd_load rfl rfl rfl rfl (fun K hK => ?_); go_big_quiet_step (fail); refine wpQuiet_nil ?_; refine hK _ ?_; clear hK K) | (refine wpOrd_free rfl rfl rfl (fun K hK => ?_); go_big_quiet_step (fail); refine wpQuiet_nil ?_; refine hK _ ?_; clear hK K))
          refine wpOrd_nil ?_
          have HD := Lib.hid (H8.out.2.2.1.step HC.out)
          clear H8 HC HV c0 c1 c2 hb3
          go_wp2_with fail
          exact ⟨⟨m + 1, by go_num, by omega, HD.out⟩, by simp [intOf]; omega⟩
        · have HD := Lib.hid (H5.out.2.step hu)
          clear hu H5
          go_wp2_with fail
          exact ⟨⟨j + 1, by go_num, by omega, by omega, HD.out⟩, by simp [intOf]; omega⟩
    · have HN : Hid (j < xs.length → 12 ≤ j) := by unfold Hid; omega
      by_cases h1 : j < xs.length
      · have h2 := HN.out h1
        clear hlt
        go_wp2_with fail
        refine (lives_calls).mono ?_
        rintro e w4 ⟨rfl, u4⟩
        go_wp2_with fail
        go_ret
        exact ⟨rfl, hu.step u4⟩
      · clear hlt
        go_wp2_with fail
        refine (lives_calls).mono ?_
        rintro e w4 ⟨rfl, u4⟩
        go_wp2_with fail
        go_ret
        exact ⟨rfl, hu.step u4⟩
end
end Gate
end Go.Proofs.Ytobclpfpkpkocaa
