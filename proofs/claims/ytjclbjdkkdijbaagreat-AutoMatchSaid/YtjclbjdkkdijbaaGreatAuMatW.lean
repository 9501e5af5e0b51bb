/- Walks through the law of chapter 05: AutoMatch. Conditions: none. -/
import Derived.Test.YtjclbjdkkdijbaaGreatRfZe
import Derived.Test.YtjclbjdkkdijbaaGreatAuU
import Derived.Test.YtjclbjdkkdijbaaGreatAuZg
import Derived.Test.YtjclbjdkkdijbaaGreatAuMp
import Derived.Test.YtjclbjdkkdijbaaGreatMtZ
set_option linter.unusedVariables false
set_option linter.unusedSimpArgs false
set_option linter.unusedSectionVars false
open Go.RowKit
namespace Go.Proofs.YtjclbjdkkdijbaaGreat
open L
namespace Law
open Rgx Rx Aut Auto
attribute [-go_sem] sliced
section
variable {w w' : World} {v v2 : Value}
theorem Match_acc {r : Rx} (hb : Byt r) (he : ofE r = 0) (hr : RxV [] w r v) (hv : Rgx.vErr r = 0) (s : ByteArray) (hs : s.size ≤ 64) :
    Calls Tryz.prog 42 #[v, .string s] w fun e w' => e = .returned (.tuple #[.bool (accN (ofA r) s), .int .i64 0]) ∧ Upd [] w w' := by
  refine (Match_calls hr hv s hs).mono ?_
  rintro e w2 ⟨b, rfl, h, u⟩
  have : b = accN (ofA r) s := by
    rw [Bool.eq_iff_iff, h, of_acc hb he]
    exact Iff.rfl
  rw [this]
  exact ⟨rfl, u⟩
theorem Match_least {r : Rx} (hb : Byt r) (he : ofE r = 0) (hr : RxV [] w r v) (hv : Rgx.vErr r = 0) (hs : (lstS (ofA r)).size ≤ 64) (hl : lstB (ofA r) = true) :
    Calls Tryz.prog 42 #[v, .string (lstS (ofA r))] w fun e w' => e = .returned (.tuple #[.bool true, .int .i64 0]) ∧ Upd [] w w' := by
  refine (Match_calls hr hv _ hs).mono ?_
  rintro e w2 ⟨b, rfl, h, u⟩
  have : b = true := h.2 (of_least hb he hl)
  rw [this]
  exact ⟨rfl, u⟩
theorem ofE_valid {r : Rx} (h : ofE r = 0) : Rgx.vErr r = 0 := by
  obtain ⟨h1, _⟩ := ofE_zero h
  unfold nErr at h1
  split at h1
  · rename_i h2; exact absurd h1 h2
  · rename_i h2; exact Classical.not_not.1 h2
set_option maxRecDepth 100000 in
set_option maxHeartbeats 16000000 in
theorem AutoMatch_calls {xs ws : List Int} (hx : ∀ x ∈ xs, IsI64 x) (hl : SL w 1 v xs.length (ints xs)) (hy : ∀ x ∈ ws, IsI64 x) (hl2 : SL w 1 v2 ws.length (ints ws)) :
    Calls Tryz.prog 9 #[v, v2] w fun e w' => e = .returned (.bool true) ∧ Upd [] w w' := by
  have HC1 := Lib.hid (madeR_calls hx hl)
  have HNR := Lib.hid (madeR_nodes xs)
  generalize madeR xs = r at *
  obtain ⟨p2, k2, rfl, kl2, km2, hq2⟩ := hl2.elems
  have HY := Lib.hid (And.intro hy hq2)
  clear hx hl hy hl2 hq2
  go_enter Tryz.func9, Tryz.ntmps9
  go_upto_region 2 with (first | ((with_reducible refine HC1.out.mono ?_); rintro e wa ⟨va, rfl, oa, ua⟩; have HCE := Lib.hid (expr_calls r oa (by simp) (by have := HNR.out; omega)); have HU1 := Lib.hid ua; obtain ⟨a2, c2, rfl, _⟩ := oa.shape; clear ua oa) | ((with_reducible refine HCE.out.mono ?_); rintro e wb ⟨vb, rfl, ob, ub⟩; have HU2 := Lib.hid (And.intro (HU1.out.step ub) ob); obtain ⟨a, c, rfl, hF, _, _⟩ := ob.shape; have HF := Lib.hid hF; clear ub ob hF))
  change Code.wp _ _ _ _ (wb.alloc (.cells (rxC r.kind r.lo r.hi (.slice a r.kids.length c)).toArray 37))
  have HB := Lib.hid (show Blk (wb.alloc (.cells (rxC r.kind r.lo r.hi (.slice a r.kids.length c)).toArray 37)) wb.heap.size (rxC r.kind r.lo r.hi (.slice a r.kids.length c)) 37 ∧ Upd [] wb (wb.alloc (.cells (rxC r.kind r.lo r.hi (.slice a r.kids.length c)).toArray 37)) from ⟨Blk.new wb _ _, (Upd.refl [] wb).alloc _⟩)
  generalize (wb.alloc (.cells (rxC r.kind r.lo r.hi (.slice a r.kids.length c)).toArray 37)) = w1 at *
  generalize wb.heap.size = rb at *
  have HRV := Lib.hid (fun (w5 : World) (u : Upd [] w1 w5) => show RxV [] w5 r (.agg #[.int .i64 r.kind, .int .u8 r.lo, .int .u8 r.hi, .slice a r.kids.length c]) from (HF.out.ext (HB.out.2.step u)).val)
  have HUW := Lib.hid (HU2.out.1.step HB.out.2)
  have HBY := Lib.hid HF.out.byt
  have HOf := Lib.hid (fun (w5 : World) (u : Upd [] w1 w5) => Of_calls (HRV.out w5 u))
  have HBR := Lib.hid HB.out.1
  clear HC1 HCE HU1 HU2 HB HF HNR
  have k0 := HBR.out.cell (i := 0) rfl
  have k1 := HBR.out.cell (i := 1) rfl
  have k2 := HBR.out.cell (i := 2) rfl
  have k3 := HBR.out.cell (i := 3) rfl
  go_upto_region 3 with ((with_reducible refine (HOf.out _ (by iterate 25 (first | exact Upd.refl _ _ | assumption | refine Upd.alloc ?_ _ | refine Upd.drew ?_ | refine Upd.drewN ?_ _ | refine Upd.dl ?_ | refine Upd.step ?_ (Ext.upd _) | refine Upd.nil ?_ | skip))).mono ?_); rintro e w2 ⟨v2, rfl, o2, u2⟩; obtain ⟨x1, y1, x2, y2, x3, y3, rfl, hA⟩ := o2.shape; have HA := Lib.hid (And.intro (show Upd [] w1 w2 from Upd.step (by iterate 25 (first | exact Upd.refl _ _ | assumption | refine Upd.alloc ?_ _ | refine Upd.drew ?_ | refine Upd.drewN ?_ _ | refine Upd.dl ?_ | refine Upd.step ?_ (Ext.upd _) | refine Upd.nil ?_ | skip)) u2) hA); clear u2 o2 hA)
  change Code.wp _ _ _ _ (w2.alloc (.cells #[.slice x1 (ofA r).cuts.length y1, .slice x2 (ofA r).next.length y2, .slice x3 (ofA r).acc.length y3] 31))
  have HB := Lib.hid (show Blk (w2.alloc (.cells #[.slice x1 (ofA r).cuts.length y1, .slice x2 (ofA r).next.length y2, .slice x3 (ofA r).acc.length y3] 31)) w2.heap.size [.slice x1 (ofA r).cuts.length y1, .slice x2 (ofA r).next.length y2, .slice x3 (ofA r).acc.length y3] 31 ∧ Upd [] w2 (w2.alloc (.cells #[.slice x1 (ofA r).cuts.length y1, .slice x2 (ofA r).next.length y2, .slice x3 (ofA r).acc.length y3] 31)) from ⟨Blk.new w2 _ _, (Upd.refl [] w2).alloc _⟩)
  generalize (w2.alloc (.cells #[.slice x1 (ofA r).cuts.length y1, .slice x2 (ofA r).next.length y2, .slice x3 (ofA r).acc.length y3] 31)) = w3 at *
  generalize w2.heap.size = ab at *
  have HU3 := Lib.hid (HA.out.1.step HB.out.2)
  have HAV := Lib.hid (fun (w5 : World) (u : Upd [] w3 w5) => show AuV w5 (ofA r) (.agg #[.slice x1 (ofA r).cuts.length y1, .slice x2 (ofA r).next.length y2, .slice x3 (ofA r).acc.length y3]) from ⟨_, rfl, HA.out.2.ext (HB.out.2.step u)⟩)
  have k0 := HU3.out.some (HBR.out.cell (i := 0) rfl) (by simp)
  have k1 := HU3.out.some (HBR.out.cell (i := 1) rfl) (by simp)
  have k2 := HU3.out.some (HBR.out.cell (i := 2) rfl) (by simp)
  have k3 := HU3.out.some (HBR.out.cell (i := 3) rfl) (by simp)
  have a0 := HB.out.1.cell (i := 0) rfl
  have a1 := HB.out.1.cell (i := 1) rfl
  have a2 := HB.out.1.cell (i := 2) rfl
  by_cases he : ofE r = 0
  · have HV0 := Lib.hid (ofE_valid he)
    have HE0 := Lib.hid he
    have HOK := Lib.hid (ofA_ok HBY.out he)
    rw [he]
    have HAC := Lib.hid (fun (w5 : World) (u : Upd [] w3 w5) (s : ByteArray) (hs : s.size ≤ 6) => show Calls Tryz.prog 32 #[.agg #[.slice x1 (ofA r).cuts.length y1, .slice x2 (ofA r).next.length y2, .slice x3 (ofA r).acc.length y3], .string s] w5 fun e w2 => e = .returned (.tuple #[.bool (accN (ofA r) s), .int .i64 0]) ∧ Upd [] w5 w2 from by
      have h := Accepts_calls (HAV.out w5 u) s (by omega)
      rwa [ok_v HOK.out] at h)
    have HLE := Lib.hid (fun (w5 : World) (u : Upd [] w3 w5) => show Calls Tryz.prog 21 #[.agg #[.slice x1 (ofA r).cuts.length y1, .slice x2 (ofA r).next.length y2, .slice x3 (ofA r).acc.length y3]] w5 fun e w2 => e = .returned (.tuple #[.string (lstS (ofA r)), .bool (lstB (ofA r)), .int .i64 0]) ∧ Upd [] w5 w2 from by
      have h := Least_calls (HAV.out w5 u)
      rwa [ok_v HOK.out] at h)
    have HMA := Lib.hid (fun (w5 : World) (u : Upd [] w3 w5) (s : ByteArray) (hs : s.size ≤ 6) => Match_acc HBY.out he (HRV.out w5 (HU3.out.step u)) HV0.out s (by omega))
    have HML := Lib.hid (fun (w5 : World) (u : Upd [] w3 w5) (h1 : (lstS (ofA r)).size ≤ 64) (h2 : lstB (ofA r) = true) => Match_least HBY.out he (HRV.out w5 (HU3.out.step u)) HV0.out h1 h2)
    have HCell := Lib.hid (And.intro k0 (And.intro k1 (And.intro k2 (And.intro k3 (And.intro a0 (And.intro a1 a2))))))
    clear he HOf HBR HA HB HAV HRV HOK HV0 HE0 k0 k1 k2 k3 a0 a1 a2
    generalize (ofA r).cuts.length = l1 at *
    generalize (ofA r).next.length = l2 at *
    generalize (ofA r).acc.length = l3 at *
    go_wp2_with fail
    go_loopw [8] (fun iv wr => ∃ i : Nat, iv = .int .i64 i ∧ i ≤ ws.length ∧ ∃ x : Ext w3, wr = x.val) (fun iv _ => ws.length - (intOf iv).toNat)
    case atStart => exact ⟨0, rfl, Nat.zero_le _, Ext.of (by iterate 25 (first | exact Upd.refl _ _ | assumption | refine Upd.alloc ?_ _ | refine Upd.drew ?_ | refine Upd.drewN ?_ _ | refine Upd.dl ?_ | refine Upd.step ?_ (Ext.upd _) | refine Upd.nil ?_ | skip))⟩
    case round =>
      obtain ⟨i, rfl, hi, x, rfl⟩ := hrel
      have HX := Lib.hid x.upd
      generalize x.val = wr at *
      have k0 := HX.out.some HCell.out.1 (by simp)
      have k1 := HX.out.some HCell.out.2.1 (by simp)
      have k2 := HX.out.some HCell.out.2.2.1 (by simp)
      have k3 := HX.out.some HCell.out.2.2.2.1 (by simp)
      have a0 := HX.out.some HCell.out.2.2.2.2.1 (by simp)
      have a1 := HX.out.some HCell.out.2.2.2.2.2.1 (by simp)
      have a2 := HX.out.some HCell.out.2.2.2.2.2.2 (by simp)
      by_cases hlt : i < ws.length ∧ i < 12
      · obtain ⟨h1, h2⟩ := hlt
        have h1i : (i : Int) < ws.length := by omega
        have h2i : (i : Int) < 12 := by omega
        obtain ⟨g, off, rfl, hc⟩ := HY.out.2 (by omega)
        have hwc := hc i _ (ints_get (gd_some (d := 0) h1))
        have HWI := Lib.hid (HY.out.1 _ (gd_memA (d := 0) h1))
        generalize ws.getD i 0 = wn at *
        have HWO := Lib.hid (fun (w5 : World) => Word_calls (w := w5) wn HWI.out)
        have wc := (HUW.out.step (HU3.out.step HX.out)).some hwc (by simp)
        clear hc hwc
        go_upto_region 9 with ((with_reducible refine (HWO.out _).mono ?_); rintro e w5 ⟨sw, rfl, hsw, u5⟩; have HS := Lib.hid (And.intro hsw (show Upd [] wr w5 from Upd.step (by iterate 25 (first | exact Upd.refl _ _ | assumption | refine Upd.alloc ?_ _ | refine Upd.drew ?_ | refine Upd.drewN ?_ _ | refine Upd.dl ?_ | refine Upd.step ?_ (Ext.upd _) | refine Upd.nil ?_ | skip)) u5)); clear hsw u5)
        have k0 := HS.out.2.some k0 (by simp)
        have k1 := HS.out.2.some k1 (by simp)
        have k2 := HS.out.2.some k2 (by simp)
        have k3 := HS.out.2.some k3 (by simp)
        have a0 := HS.out.2.some a0 (by simp)
        have a1 := HS.out.2.some a1 (by simp)
        have a2 := HS.out.2.some a2 (by simp)
        go_upto_region 10 with ((with_reducible refine (HAC.out _ (HX.out.step (HS.out.2.step (by iterate 25 (first | exact Upd.refl _ _ | assumption | refine Upd.alloc ?_ _ | refine Upd.drew ?_ | refine Upd.drewN ?_ _ | refine Upd.dl ?_ | refine Upd.step ?_ (Ext.upd _) | refine Upd.nil ?_ | skip)))) _ HS.out.1).mono ?_); rintro e w6 ⟨rfl, u6⟩; have HS6 := Lib.hid (show Upd [] w5 w6 from Upd.step (by iterate 25 (first | exact Upd.refl _ _ | assumption | refine Upd.alloc ?_ _ | refine Upd.drew ?_ | refine Upd.drewN ?_ _ | refine Upd.dl ?_ | refine Upd.step ?_ (Ext.upd _) | refine Upd.nil ?_ | skip)) u6); clear u6)
        have k0 := HS6.out.some k0 (by simp)
        have k1 := HS6.out.some k1 (by simp)
        have k2 := HS6.out.some k2 (by simp)
        have k3 := HS6.out.some k3 (by simp)
        go_upto_region 11 with ((with_reducible refine (HMA.out _ (HX.out.step (HS.out.2.step (HS6.out.step (by iterate 25 (first | exact Upd.refl _ _ | assumption | refine Upd.alloc ?_ _ | refine Upd.drew ?_ | refine Upd.drewN ?_ _ | refine Upd.dl ?_ | refine Upd.step ?_ (Ext.upd _) | refine Upd.nil ?_ | skip))))) _ HS.out.1).mono ?_); rintro e w7 ⟨rfl, u7⟩; have HS7 := Lib.hid (show Upd [] w6 w7 from Upd.step (by iterate 25 (first | exact Upd.refl _ _ | assumption | refine Upd.alloc ?_ _ | refine Upd.drew ?_ | refine Upd.drewN ?_ _ | refine Upd.dl ?_ | refine Upd.step ?_ (Ext.upd _) | refine Upd.nil ?_ | skip)) u7); clear u7)
        generalize accN (ofA r) sw = ac at *
        have her : ((0 : Int) != 0) = false := by simp
        cases ac
        · go_wp2_with fail
          exact ⟨⟨i + 1, by go_num, by omega, Ext.of (HX.out.step (HS.out.2.step (HS6.out.step (HS7.out.step (by iterate 25 (first | exact Upd.refl _ _ | assumption | refine Upd.alloc ?_ _ | refine Upd.drew ?_ | refine Upd.drewN ?_ _ | refine Upd.dl ?_ | refine Upd.step ?_ (Ext.upd _) | refine Upd.nil ?_ | skip))))))⟩, by simp [intOf]; omega⟩
        · go_wp2_with fail
          exact ⟨⟨i + 1, by go_num, by omega, Ext.of (HX.out.step (HS.out.2.step (HS6.out.step (HS7.out.step (by iterate 25 (first | exact Upd.refl _ _ | assumption | refine Upd.alloc ?_ _ | refine Upd.drew ?_ | refine Upd.drewN ?_ _ | refine Upd.dl ?_ | refine Upd.step ?_ (Ext.upd _) | refine Upd.nil ?_ | skip))))))⟩, by simp [intOf]; omega⟩
      · have hcut : (¬ ((i : Int) < ws.length)) ∨ ((i : Int) < ws.length ∧ ¬ ((i : Int) < 12)) := by omega
        clear hlt
        have her : ((0 : Int) != 0) = false := by simp
        rcases hcut with h1 | ⟨h1, h2⟩
        · go_upto_region 14 with ((with_reducible refine (HLE.out _ (HX.out.step (by iterate 25 (first | exact Upd.refl _ _ | assumption | refine Upd.alloc ?_ _ | refine Upd.drew ?_ | refine Upd.drewN ?_ _ | refine Upd.dl ?_ | refine Upd.step ?_ (Ext.upd _) | refine Upd.nil ?_ | skip)))).mono ?_); rintro e w5 ⟨rfl, u5⟩; have HS := Lib.hid (show Upd [] wr w5 from Upd.step (by iterate 25 (first | exact Upd.refl _ _ | assumption | refine Upd.alloc ?_ _ | refine Upd.drew ?_ | refine Upd.drewN ?_ _ | refine Upd.dl ?_ | refine Upd.step ?_ (Ext.upd _) | refine Upd.nil ?_ | skip)) u5); clear u5)
          have k0 := HS.out.some k0 (by simp)
          have k1 := HS.out.some k1 (by simp)
          have k2 := HS.out.some k2 (by simp)
          have k3 := HS.out.some k3 (by simp)
          have HM2 := Lib.hid (fun (w6 : World) (u : Upd [] w5 w6) => HML.out w6 (HX.out.step (HS.out.step u)))
          have hll : ((lstS (ofA r)).size : Int) ≤ 64 ∨ ¬ ((lstS (ofA r)).size : Int) ≤ 64 := by omega
          generalize lstS (ofA r) = sl at *
          generalize lstB (ofA r) = bl at *
          cases bl
          · go_wp2_with (go_at_call 18; refine lives_calls.mono ?_; rintro e w7 ⟨rfl, u7⟩)
            go_ret
            exact ⟨rfl, HUW.out.step (HU3.out.step (HX.out.step (HS.out.step (Upd.step (by iterate 25 (first | exact Upd.refl _ _ | assumption | refine Upd.alloc ?_ _ | refine Upd.drew ?_ | refine Upd.drewN ?_ _ | refine Upd.dl ?_ | refine Upd.step ?_ (Ext.upd _) | refine Upd.nil ?_ | skip)) u7))))⟩
          · rcases hll with hll | hll
            · have HM3 := Lib.hid (fun (w6 : World) (u : Upd [] w5 w6) => HM2.out w6 u (by omega) rfl)
              go_upto_region 18 with ((with_reducible refine (HM3.out _ (by iterate 25 (first | exact Upd.refl _ _ | assumption | refine Upd.alloc ?_ _ | refine Upd.drew ?_ | refine Upd.drewN ?_ _ | refine Upd.dl ?_ | refine Upd.step ?_ (Ext.upd _) | refine Upd.nil ?_ | skip))).mono ?_); rintro e w6 ⟨rfl, u6⟩; have HS6 := Lib.hid (show Upd [] w5 w6 from Upd.step (by iterate 25 (first | exact Upd.refl _ _ | assumption | refine Upd.alloc ?_ _ | refine Upd.drew ?_ | refine Upd.drewN ?_ _ | refine Upd.dl ?_ | refine Upd.step ?_ (Ext.upd _) | refine Upd.nil ?_ | skip)) u6); clear u6)
              go_wp2_with (go_at_call 18; refine lives_calls.mono ?_; rintro e w7 ⟨rfl, u7⟩)
              go_ret
              exact ⟨rfl, HUW.out.step (HU3.out.step (HX.out.step (HS.out.step (HS6.out.step (Upd.step (by iterate 25 (first | exact Upd.refl _ _ | assumption | refine Upd.alloc ?_ _ | refine Upd.drew ?_ | refine Upd.drewN ?_ _ | refine Upd.dl ?_ | refine Upd.step ?_ (Ext.upd _) | refine Upd.nil ?_ | skip)) u7)))))⟩
            · go_wp2_with (go_at_call 18; refine lives_calls.mono ?_; rintro e w7 ⟨rfl, u7⟩)
              go_ret
              exact ⟨rfl, HUW.out.step (HU3.out.step (HX.out.step (HS.out.step (Upd.step (by iterate 25 (first | exact Upd.refl _ _ | assumption | refine Upd.alloc ?_ _ | refine Upd.drew ?_ | refine Upd.drewN ?_ _ | refine Upd.dl ?_ | refine Upd.step ?_ (Ext.upd _) | refine Upd.nil ?_ | skip)) u7))))⟩
        · go_upto_region 14 with ((with_reducible refine (HLE.out _ (HX.out.step (by iterate 25 (first | exact Upd.refl _ _ | assumption | refine Upd.alloc ?_ _ | refine Upd.drew ?_ | refine Upd.drewN ?_ _ | refine Upd.dl ?_ | refine Upd.step ?_ (Ext.upd _) | refine Upd.nil ?_ | skip)))).mono ?_); rintro e w5 ⟨rfl, u5⟩; have HS := Lib.hid (show Upd [] wr w5 from Upd.step (by iterate 25 (first | exact Upd.refl _ _ | assumption | refine Upd.alloc ?_ _ | refine Upd.drew ?_ | refine Upd.drewN ?_ _ | refine Upd.dl ?_ | refine Upd.step ?_ (Ext.upd _) | refine Upd.nil ?_ | skip)) u5); clear u5)
          have k0 := HS.out.some k0 (by simp)
          have k1 := HS.out.some k1 (by simp)
          have k2 := HS.out.some k2 (by simp)
          have k3 := HS.out.some k3 (by simp)
          have HM2 := Lib.hid (fun (w6 : World) (u : Upd [] w5 w6) => HML.out w6 (HX.out.step (HS.out.step u)))
          have hll : ((lstS (ofA r)).size : Int) ≤ 64 ∨ ¬ ((lstS (ofA r)).size : Int) ≤ 64 := by omega
          generalize lstS (ofA r) = sl at *
          generalize lstB (ofA r) = bl at *
          cases bl
          · go_wp2_with (go_at_call 18; refine lives_calls.mono ?_; rintro e w7 ⟨rfl, u7⟩)
            go_ret
            exact ⟨rfl, HUW.out.step (HU3.out.step (HX.out.step (HS.out.step (Upd.step (by iterate 25 (first | exact Upd.refl _ _ | assumption | refine Upd.alloc ?_ _ | refine Upd.drew ?_ | refine Upd.drewN ?_ _ | refine Upd.dl ?_ | refine Upd.step ?_ (Ext.upd _) | refine Upd.nil ?_ | skip)) u7))))⟩
          · rcases hll with hll | hll
            · have HM3 := Lib.hid (fun (w6 : World) (u : Upd [] w5 w6) => HM2.out w6 u (by omega) rfl)
              go_upto_region 18 with ((with_reducible refine (HM3.out _ (by iterate 25 (first | exact Upd.refl _ _ | assumption | refine Upd.alloc ?_ _ | refine Upd.drew ?_ | refine Upd.drewN ?_ _ | refine Upd.dl ?_ | refine Upd.step ?_ (Ext.upd _) | refine Upd.nil ?_ | skip))).mono ?_); rintro e w6 ⟨rfl, u6⟩; have HS6 := Lib.hid (show Upd [] w5 w6 from Upd.step (by iterate 25 (first | exact Upd.refl _ _ | assumption | refine Upd.alloc ?_ _ | refine Upd.drew ?_ | refine Upd.drewN ?_ _ | refine Upd.dl ?_ | refine Upd.step ?_ (Ext.upd _) | refine Upd.nil ?_ | skip)) u6); clear u6)
              go_wp2_with (go_at_call 18; refine lives_calls.mono ?_; rintro e w7 ⟨rfl, u7⟩)
              go_ret
              exact ⟨rfl, HUW.out.step (HU3.out.step (HX.out.step (HS.out.step (HS6.out.step (Upd.step (by iterate 25 (first | exact Upd.refl _ _ | assumption | refine Upd.alloc ?_ _ | refine Upd.drew ?_ | refine Upd.drewN ?_ _ | refine Upd.dl ?_ | refine Upd.step ?_ (Ext.upd _) | refine Upd.nil ?_ | skip)) u7)))))⟩
            · go_wp2_with (go_at_call 18; refine lives_calls.mono ?_; rintro e w7 ⟨rfl, u7⟩)
              go_ret
              exact ⟨rfl, HUW.out.step (HU3.out.step (HX.out.step (HS.out.step (Upd.step (by iterate 25 (first | exact Upd.refl _ _ | assumption | refine Upd.alloc ?_ _ | refine Upd.drew ?_ | refine Upd.drewN ?_ _ | refine Upd.dl ?_ | refine Upd.step ?_ (Ext.upd _) | refine Upd.nil ?_ | skip)) u7))))⟩
  · have HEC := Lib.hid (nErr_cases r he)
    generalize hoe : ofE r = er at *
    have hb : (er != 0) = true := by simpa using he
    by_cases h4 : er = 4
    · subst h4
      clear he
      go_wp2_with (go_at_call 18; refine lives_calls.mono ?_; rintro e w7 ⟨rfl, u7⟩)
      go_ret
      exact ⟨rfl, HUW.out.step (HU3.out.step (Upd.step (by iterate 25 (first | exact Upd.refl _ _ | assumption | refine Upd.alloc ?_ _ | refine Upd.drew ?_ | refine Upd.drewN ?_ _ | refine Upd.dl ?_ | refine Upd.step ?_ (Ext.upd _) | refine Upd.nil ?_ | skip)) u7))⟩
    · have HVX := Lib.hid (fun (w5 : World) (u : Upd [] w3 w5) => show Calls Tryz.prog 41 #[.agg #[.int .i64 r.kind, .int .u8 r.lo, .int .u8 r.hi, .slice a r.kids.length c]] w5 fun e w2 => e = .returned (.int .i64 er) ∧ Upd [] w5 w2 from by
        have h := valid_calls (HRV.out w5 (HU3.out.step u))
        rcases HEC.out with h5 | h5
        · exact absurd h5 h4
        · rwa [← h5] at h)
      have hb4 : (er == 4) = false := by simpa using h4
      have hbe : (er == er) = true := by simp
      clear he h4 hoe
      go_wp2_with (first | (go_at_call 18; refine lives_calls.mono ?_; rintro e w7 ⟨rfl, u7⟩; have HU7 := Lib.hid u7; clear u7) | ((with_reducible refine (HVX.out _ (by iterate 25 (first | exact Upd.refl _ _ | assumption | refine Upd.alloc ?_ _ | refine Upd.drew ?_ | refine Upd.drewN ?_ _ | refine Upd.dl ?_ | refine Upd.step ?_ (Ext.upd _) | refine Upd.nil ?_ | skip))).mono ?_); rintro e w6 ⟨rfl, u6⟩; have HS6 := Lib.hid (show Upd [] w3 w6 from Upd.step (by iterate 25 (first | exact Upd.refl _ _ | assumption | refine Upd.alloc ?_ _ | refine Upd.drew ?_ | refine Upd.drewN ?_ _ | refine Upd.dl ?_ | refine Upd.step ?_ (Ext.upd _) | refine Upd.nil ?_ | skip)) u6); clear u6))
      go_ret
      exact ⟨rfl, HUW.out.step (HU3.out.step (HS6.out.step (Upd.step (by iterate 25 (first | exact Upd.refl _ _ | assumption | refine Upd.alloc ?_ _ | refine Upd.drew ?_ | refine Upd.drewN ?_ _ | refine Upd.dl ?_ | refine Upd.step ?_ (Ext.upd _) | refine Upd.nil ?_ | skip)) HU7.out)))⟩
end
end Law
end Go.Proofs.YtjclbjdkkdijbaaGreat
