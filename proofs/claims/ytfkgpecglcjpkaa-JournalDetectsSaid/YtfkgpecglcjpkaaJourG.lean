/- Walks through the laws of journals: JournalScans. Conditions: none. -/
import Derived.Test.YtfkgpecglcjpkaaJourF
set_option linter.unusedVariables false
set_option linter.unusedSimpArgs false
set_option linter.unusedSectionVars false
open Go.RowKit
namespace Go.Proofs.Ytfkgpecglcjpkaa
open L
namespace Jour
open Wire Hash R01 R02
attribute [-go_sem] sliced
theorem ownsRow_set {w : World} {e : TypeId} {g n cap i : Nat} {xs : List Value} (h : w.ownsRow 0 e 1 (.slice (some ⟨g, 0, none⟩) n cap) n xs) (u : Value) (hi : i < n) : (w.setCell ⟨g, i, none⟩ u).ownsRow 0 e 1 (.slice (some ⟨g, 0, none⟩) n cap) n (xs.set i u) := by
  refine ⟨by rw [List.length_set]; exact h.1, ?_⟩
  rcases h.2 with ⟨h1, _⟩ | ⟨g', cap', cur, hv, hb, hg, hnc, hcm, hcs, htake⟩
  · cases h1
  · simp only [Value.slice.injEq, Option.some.injEq, Addr.mk.injEq, and_true] at hv
    obtain ⟨rfl, _, rfl⟩ := hv
    have hB : Blk w g cur.toList e := by unfold Blk; rw [hg]
    have hS := hB.set i u
    refine .inr ⟨g, cap, (cur.toList.set i u).toArray, rfl, hb, hS, hnc, hcm, by simpa using hcs, ?_⟩
    simp only [List.toList_toArray]
    rw [← htake, List.take_set]
theorem byts_set (l : List Int) (i : Nat) (c : Int) : (byts l).set i (.int .u8 c) = byts (l.set i c) := by simp [byts, List.map_set]
theorem u8_set {l : List Int} (h : ∀ x ∈ l, IsU8 x) (i : Nat) {c : Int} (hc : IsU8 c) : ∀ x ∈ l.set i c, IsU8 x := by
  intro x hx
  rcases List.mem_or_eq_of_mem_set hx with hx | rfl
  · exact h x hx
  · exact hc
section
variable {w : World}
set_option maxRecDepth 100000 in
set_option maxHeartbeats 16000000 in
theorem JournalScans_calls {v0 v1 : Value} {raw l : List Int} {at_ c : Int} (h0 : SL w 1 v0 raw.length (byts raw)) (hr : ∀ x ∈ raw, IsU8 x) (h1 : SL w 1 v1 l.length (ints l)) (hi : ∀ x ∈ l, IsI64 x) (hat : IsI64 at_) (hc : IsU8 c) :
    Calls Try.prog 4 #[v0, v1, .int .i64 at_, .int .u8 c] w fun e w' => e = .returned (.bool true) ∧ Upd [] w w' := by
  obtain ⟨a0, c0, rfl, q0, r0, _⟩ := SL.form h0
  obtain ⟨a1, c1, rfl, _⟩ := h1.val
  have HH := Lib.hid (And.intro h0 (And.intro hr (And.intro hat hc)))
  have HRC := Lib.hid (Recs_calls h1 hi)
  clear h0 hr h1 hi hat hc
  go_enter Try.func4, Try.ntmps4
  go_wp2_with (go_at_call 14; refine HRC.out.mono ?_; rintro e w1 ⟨X, ax, cx, rfl, hX6, hXs, hXB, u1⟩)
  have hXs2 : ∀ c ∈ X, (∀ y ∈ c, IsU8 y) ∧ c.length ≤ 200 := fun c hc => ⟨(hXs c hc).1, by have := (hXs c hc).2; omega⟩
  have HX := Lib.hid (And.intro hXB (And.intro u1 hXs2))
  clear hXB u1 hXs2 hXs HRC
  obtain ⟨ax6, cx6, he6, q6, r6, k6⟩ := HX.out.1.at_
  cases he6
  have HK6 := Lib.hid k6
  clear k6
  have hb200 := Lib.hid (fun x (h : ∀ c ∈ x, c.length ≤ 200) => cat_bound (x := x) h 0)
  go_loopw [10, 11] (fun o i wr => ∃ k : Nat, i = .int .i64 k ∧ k ≤ X.length ∧ OwnB w1 o (cat 0 (X.take k)) wr) (fun _ i _ => X.length - (intOf i).toNat)
  case atStart => exact ⟨0, rfl, Nat.zero_le _, by simpa [cat] using OwnB.nil w1⟩
  case round =>
    obtain ⟨wo, rfl⟩ : ∃ wo : World, wo = wr := ⟨_, rfl⟩
    obtain ⟨k, rfl, hk, hO⟩ := hrel
    have hcl : (cat 0 (X.take k)).length ≤ 240 * 6 := by
      have h1 := hb200.out (X.take k) (fun c hc => (HX.out.2.2 c (List.mem_of_mem_take hc)).2)
      have h2 : (X.take k).length ≤ 6 := by rw [List.length_take]; omega
      omega
    by_cases hlt : k < X.length
    · have hlt' : (k : Int) < X.length := by omega
      obtain ⟨g, off, ac, cc, rfl, hd, hsl, hjl⟩ := HK6.out k _ (List.getElem?_eq_getElem hlt)
      have hxm := HX.out.2.2 _ (List.getElem_mem hlt)
      have HT := Lib.hid (cat_take hlt)
      generalize X[k] = x at *
      have hd2 := hO.u.some hd (by simp)
      have hfl2 := frB_length (k : Nat) x
      have HFK := Lib.hid (FrameR_calls (w := wo) (k : Nat) ⟨by omega, by omega⟩ (hsl.upd hO.u (by simp)) hxm.1 (by have := hxm.2; omega))
      generalize frB (k : Nat) x = fx at *
      generalize cat 0 (X.take k) = pre at *
      obtain ⟨ao, co, rfl, _⟩ := hO.form
      have HO := Lib.hid hO
      obtain ⟨hx8, hx200⟩ := hxm
      clear hO hd hsl hx8 hjl
      go_wp2_with (first | (go_at_call 13; refine HFK.out.mono ?_; rintro e w8 ⟨a8, c8, rfl, o8⟩; have H8 := Lib.hid (And.intro o8.sl (HO.out.quiet o8.u)); clear o8) | (refine wpList_appS rfl _ _ _ rfl 5 1 1 _ Try.underlying23 infoByte rfl (by decide) (.slice ao pre.length co) pre.length (byts pre) rfl H8.out.2.row (.slice a8 fx.length c8) fx.length (byts fx) rfl H8.out.1 (byts_one _) (by unfold maxLen; omega) (by omega) ?_; intro a9 cap9 w9 o9 u9 k9))
      have N9 := app_B H8.out.2 o9 u9 k9
      rw [List.length_append] at N9
      refine ⟨⟨k + 1, by go_num, by omega, ?_⟩, by simp [intOf]; omega⟩
      rw [HT.out]
      exact N9
    · have hkX : k = X.length := by omega
      subst hkX
      rw [List.take_of_length_le (Nat.le_refl _)] at hO hcl
      have hall8 : ∀ y ∈ cat 0 X, IsU8 y := cat_u8 HX.out.2.2 0 (by omega)
      have HA8 := Lib.hid hall8
      clear hall8
      generalize cat 0 X = all at *
      obtain ⟨ao, co, rfl, hco⟩ := hO.form
      have HO := Lib.hid hO
      clear hO
      go_upto_if 36 with fail
      go_cut [10] (fun o w' => ∃ (all2 : List Int) (a : Option Addr) (c : Nat), o = .slice a all2.length c ∧ all2.length = all.length ∧ (∀ y ∈ all2, IsU8 y) ∧ OwnB w1 (.slice a all2.length c) all2 w')
      case first => as_aux_lemma =>
        by_cases h0 : 0 < all.length
        · have h0' : (0 : Int) < all.length := by omega
          obtain ⟨g, cap, he, hgl, hgc⟩ := owns_form HO.out.row h0
          cases he
          have n0 := around_lo (n := at_) (k := all.length) (by omega)
          have n1 := around_hi (n := at_) (k := all.length) (by omega)
          have HA := Lib.hid (fun w : World => Around_calls at_ all.length w HH.out.2.2.1 (by omega) (by omega))
          obtain ⟨j, hj⟩ : ∃ j : Nat, around at_ all.length = j := ⟨(around at_ all.length).toNat, by omega⟩
          rw [hj] at n0 n1 HA
          have hj2 : j < all.length := by omega
          have hcl := HO.out.row.cells (g := g) rfl j _ (byts_get (List.getElem?_eq_getElem hj2))
          rw [addr_add, Nat.zero_add] at hcl
          generalize all[j] = y at *
          have hfz : wo.frozen? ⟨g, j, none⟩ = false := by
            rcases HO.out.row.2 with ⟨h1, _⟩ | ⟨g', cap', cur, hv, hb, hg, _⟩
            · cases h1
            · simp only [Value.slice.injEq, Option.some.injEq, Addr.mk.injEq, and_true] at hv
              obtain ⟨rfl, _, rfl⟩ := hv
              have hB : Blk wo g cur.toList 5 := by unfold Blk; rw [hg]
              exact hB.free j
          clear hj
          go_wp2_with (go_at_call 19; refine (HA.out _).mono ?_; rintro e _ ⟨rfl, rfl⟩)
          go_meet
          case rel =>
            have hl : (all.set j c).length = all.length := List.length_set
            refine ⟨all.set j c, some ⟨g, 0, none⟩, co, by rw [hl], hl, u8_set HA8.out j HH.out.2.2.2, ?_⟩
            rw [hl]
            have hs := ownsRow_set HO.out.row (.int .u8 c) hj2
            rw [byts_set] at hs
            exact ⟨by rw [hl]; exact hs, HO.out.fresh, HO.out.u.set (.inr (HO.out.fresh g rfl)) _⟩
        · have h0' : ¬ (0 : Int) < all.length := by omega
          go_wp2_with fail
          go_meet
          case rel => exact ⟨all, ao, co, rfl, rfl, HA8.out, HO.out⟩
      case rest =>
      obtain ⟨b1, ab, cb, rfl, hbl, hb8, hbO⟩ := hcut
      have HB := Lib.hid (And.intro hb8 hbO)
      have hb1l : b1.length ≤ 1440 := by omega
      clear hb8 hbO hbl HO HA8
      clear hcl
      go_upto_region 9 with fail
      obtain ⟨m, hm⟩ : ∃ m, m = (raw.take 5).length := ⟨_, rfl⟩
      have hm2 : m = min raw.length 5 := by rw [hm, List.length_take, Nat.min_comm]
      have hm1 : m ≤ raw.length := by omega
      have hm5 : m ≤ 5 := by omega
      have hmi : min (raw.length : Int) 5 = (m : Int) := by omega
      have hmc : (m : Int) ≤ c0 := by omega
      have hm3 : byts (raw.take 5) = (byts raw).take m := by rw [hm2, byts_take, Nat.min_comm, List.take_eq_take_min, Nat.min_comm]
      obtain ⟨a5, k5, hs5, hjunk⟩ := (SL.uptoV HH.out.1 hm1).val
      have hsl5 := SL.uptoV HH.out.1 hm1
      rw [hs5, ← hm3] at hsl5
      have hl60 : (raw.take 60).length ≤ 60 := by rw [List.length_take]; omega
      have H60 := Lib.hid (And.intro (u8_take HH.out.2.1 60) (And.intro (u8_take HH.out.2.1 5) (And.intro hsl5 hm)))
      have HM := Lib.hid hm2
      clear hm hm2 hm3 hsl5 hjunk
      generalize raw.take 5 = r5 at *
      have HFW := Lib.hid (fun (w2 : World) (u : Upd [] w w2) => Few_calls (w := w2) (HH.out.1.upd u (by simp)) 60 (by omega))
      generalize raw.take 60 = r60 at *
      have UC := HX.out.2.1.step HB.out.2.u
      go_wp2_with fail
      refine wp_region_ord 1 1 [0, 2, 3, 4, 5, 6, 7, 10] [] [0, 2, 3, 4, 5, 6, 7, 1, 8, 9, 10] (fun w' => ∃ x : Ext wc, w' = x.val) (by kernel_rfl) (by kernel_rfl) (Ext.of (by iterate 25 (first | exact Upd.refl _ _ | assumption | refine Upd.alloc ?_ _ | refine Upd.drew ?_ | refine Upd.drewN ?_ _ | refine Upd.dl ?_ | refine Upd.step ?_ (Ext.upd _) | refine Upd.nil ?_ | skip))) ?_
      repeat (first | (refine wpOrd_load rfl rfl rfl rfl (fun K hK => ?_); go_big_quiet_step (fail); refine wpQuiet_nil ?_; refine hK _ ?_; clear hK K) | (refine wpOrd_free rfl rfl rfl (fun K hK => ?_); go_big_quiet_step (fail); refine wpQuiet_nil ?_; refine hK _ ?_; clear hK K))
      refine wpOrd_fix rfl rfl (fun K hK => ?_)
      go_wp2_with (go_at_call 10; refine (HFW.out _ (Upd.step UC (by iterate 25 (first | exact Upd.refl _ _ | assumption | refine Upd.alloc ?_ _ | refine Upd.drew ?_ | refine Upd.drewN ?_ _ | refine Upd.dl ?_ | refine Upd.step ?_ (Ext.upd _) | refine Upd.nil ?_ | skip)))).mono ?_; rintro e w2 ⟨a2, c2, rfl, o2, u2⟩)
      have U2 : Upd [] wc w2 := Upd.step (by iterate 25 (first | exact Upd.refl _ _ | assumption | refine Upd.alloc ?_ _ | refine Upd.drew ?_ | refine Upd.drewN ?_ _ | refine Upd.dl ?_ | refine Upd.step ?_ (Ext.upd _) | refine Upd.nil ?_ | skip)) u2
      refine ⟨fun hC => absurd hC (by decide), ?_⟩
      repeat (first | (refine wpOrd_load rfl rfl rfl rfl (fun K hK => ?_); go_big_quiet_step (fail); refine wpQuiet_nil ?_; refine hK _ ?_; clear hK K) | (refine wpOrd_free rfl rfl rfl (fun K hK => ?_); go_big_quiet_step (fail); refine wpQuiet_nil ?_; refine hK _ ?_; clear hK K))
      refine wpOrd_fix rfl rfl (fun K hK => ?_)
      have H2 := Lib.hid (And.intro o2 (And.intro U2 (UC.step U2)))
      have HFR := Lib.hid (FrameR_calls (w := w2) 1 ⟨by omega, by omega⟩ (v := .slice a5 m k5) (xs := r5) (by have h := H60.out.2.2.1.upd H2.out.2.2 (by simp); have hm := H60.out.2.2.2; rw [← hm]; exact h) H60.out.2.1 (by have hm := H60.out.2.2.2; omega))
      have hfl := frB_length 1 r5
      have hr5 : r5.length ≤ 5 := by have hm := H60.out.2.2.2; omega
      have hfr8 := frB_u8 (k := 1) ⟨by omega, by omega⟩ H60.out.2.1 (by omega)
      have HF8 := Lib.hid hfr8
      have hzc := UC.size
      clear o2 u2 U2 UC hfr8
      generalize frB 1 r5 = fr at *
      go_wp2_with (go_at_call 13; refine HFR.out.mono ?_; rintro e w3 ⟨a3, c3, rfl, o3⟩)
      have H3 := Lib.hid o3
      clear o3 HFR
      refine ⟨fun hC => absurd hC (by decide), ?_⟩
      refine wpOrd_fix rfl rfl (fun K hK => ?_)
      go_wp2_with fail
      refine ⟨fun hC => absurd hC (by decide), ?_⟩
      repeat (first | (refine wpOrd_load rfl rfl rfl rfl (fun K hK => ?_); go_big_quiet_step (fail); refine wpQuiet_nil ?_; refine hK _ ?_; clear hK K) | (refine wpOrd_free rfl rfl rfl (fun K hK => ?_); go_big_quiet_step (fail); refine wpQuiet_nil ?_; refine hK _ ?_; clear hK K))
      refine wpOrd_nil ?_
      have bL := Blk.new w3 [.slice a2 r60.length c2, .slice ab b1.length cb, .slice a3 fr.length c3] 23
      have uL := (Upd.refl [] w3).alloc (.cells #[.slice a2 r60.length c2, .slice ab b1.length cb, .slice a3 fr.length c3] 23)
      have U3 : Upd [] w w3 := H2.out.2.2.step H3.out.u
      have e0 : OwnV w 5 1 (.slice a2 r60.length c2) r60.length (byts r60) (w3.alloc (.cells #[.slice a2 r60.length c2, .slice ab b1.length cb, .slice a3 fr.length c3] 23)) :=
        ⟨ownsRow_updL (ownsRow_updL H2.out.1.row H3.out.u (by simp)) uL (by simp), fun g hg => Nat.le_trans hzc (H2.out.1.fresh g hg)⟩
      have e1 : OwnV w 5 1 (.slice ab b1.length cb) b1.length (byts b1) (w3.alloc (.cells #[.slice a2 r60.length c2, .slice ab b1.length cb, .slice a3 fr.length c3] 23)) :=
        ⟨ownsRow_updL (ownsRow_updL (ownsRow_updL HB.out.2.row H2.out.2.1 (by simp)) H3.out.u (by simp)) uL (by simp), fun g hg => Nat.le_trans HX.out.2.1.size (HB.out.2.fresh g hg)⟩
      have e2 : OwnV w 5 1 (.slice a3 fr.length c3) fr.length (byts fr) (w3.alloc (.cells #[.slice a2 r60.length c2, .slice ab b1.length cb, .slice a3 fr.length c3] 23)) :=
        ⟨ownsRow_updL H3.out.row uL (by simp), fun g hg => Nat.le_trans H2.out.2.2.size (H3.out.fresh g hg)⟩
      have BB : BO w (.slice (some ⟨w3.heap.size, 0, none⟩) 3 3) [r60, b1, fr] (w3.alloc (.cells #[.slice a2 r60.length c2, .slice ab b1.length cb, .slice a3 fr.length c3] 23)) := by
        refine ⟨[.slice a2 r60.length c2, .slice ab b1.length cb, .slice a3 fr.length c3], ⟨owns_blk bL rfl (by unfold maxLen; omega), fun g hg => by simp [Value.ownBlock] at hg; have := U3.size; omega⟩, fun i d hi => ?_⟩
        match i, hi with
        | 0, hi => simp at hi; subst hi; exact ⟨_, rfl, e0⟩
        | 1, hi => simp at hi; subst hi; exact ⟨_, rfl, e1⟩
        | 2, hi => simp at hi; subst hi; exact ⟨_, rfl, e2⟩
        | i + 3, hi => simp at hi
      have hsm : ∀ d ∈ [r60, b1, fr], (∀ y ∈ d, IsU8 y) ∧ d.length ≤ 2000 := by
        intro d hd
        simp only [List.mem_cons, List.not_mem_nil, or_false] at hd
        rcases hd with rfl | rfl | rfl
        · exact ⟨H60.out.1, by omega⟩
        · exact ⟨HB.out.1, by omega⟩
        · exact ⟨HF8.out, by omega⟩
      have H4 := Lib.hid (And.intro BB (And.intro (U3.step uL) hsm))
      clear BB e0 e1 e2 bL uL U3 hsm H2 H3 HB
      generalize hg3 : w3.heap.size = g3 at *
      generalize w3.alloc (.cells #[.slice a2 r60.length c2, .slice ab b1.length cb, .slice a3 fr.length c3] 23) = w4 at *
      have HL3 := Lib.hid (show [r60, b1, fr].length = 3 from rfl)
      generalize [r60, b1, fr] = Bs at *
      clear hzc hfl hr5 hb1l hl60 HF8 H60 HFW hs5 hmi
      obtain ⟨aB, cB, heq, qB, rB, kB⟩ := H4.out.1.at_
      simp only [Value.slice.injEq] at heq
      obtain ⟨rfl, heq3, rfl⟩ := heq
      clear heq3
      have HKB := Lib.hid kB
      clear kB qB rB
      go_wp2_with fail
      go_loopw [13] (fun i wr => ∃ k : Nat, i = .int .i64 k ∧ k ≤ 3 ∧ Upd [] w4 wr) (fun i _ => 3 - (intOf i).toNat)
      case atStart => exact ⟨0, rfl, Nat.zero_le _, Upd.refl _ _⟩
      case round =>
        obtain ⟨wo2, rfl⟩ : ∃ wo : World, wo = wr := ⟨_, rfl⟩
        obtain ⟨k, rfl, hk, hu⟩ := hrel
        by_cases hlt : k < 3
        · have hlt' : (k : Int) < 3 := by omega
          have hkl : k < Bs.length := by rw [HL3.out]; exact hlt
          obtain ⟨g, off, ac, cc, he, hd, hsl, hjl⟩ := HKB.out k _ (List.getElem?_eq_getElem hkl)
          cases he
          rw [Nat.zero_add] at hd
          have hbm := H4.out.2.2 _ (List.getElem_mem hkl)
          generalize Bs[k] = b at *
          have hd1 := hu.some hd (by simp)
          obtain ⟨hb8, hbl⟩ := hbm
          have HP8 := Lib.hid (And.intro hb8 (And.intro hu (And.intro hsl (And.intro hjl hd))))
          have HS1 := Lib.hid (Scan_calls (hsl.upd hu (by simp)) hb8 (by omega) (fun j hj => Nat.lt_of_lt_of_le (hjl j hj) hu.size))
          clear hb8 hu hsl hjl hd hkl
          go_upto_region 14 with (go_at_call 15; refine HS1.out.mono ?_; rintro e w10 ⟨l1, a10, c10, rfl, s10, b10, u10⟩)
          have U10 := HP8.out.2.1.step u10
          have hd2 := U10.some HP8.out.2.2.2.2 (by simp)
          have H10 := Lib.hid (And.intro s10 (And.intro b10 U10))
          have HS2 := Lib.hid (ScanR_calls (HP8.out.2.2.1.upd U10 (by simp)) HP8.out.1 (by omega) (fun j hj => Nat.lt_of_lt_of_le (HP8.out.2.2.2.1 j hj) U10.size))
          clear s10 b10 u10 U10 HS1
          go_upto_region 15 with (go_at_call 16; refine HS2.out.mono ?_; rintro e w11 ⟨l2, a11, c11, rfl, s11, b11, u11⟩)
          obtain rfl : l1 = l2 := H10.out.1.uniq s11 (by omega)
          have HB2 := Lib.hid (And.intro (H10.out.2.1.upd u11) (And.intro b11 (H10.out.2.2.step u11)))
          clear s11 b11 u11 H10 HS2
          generalize (cat 0 l1).length = N at *
          go_wp2_with (go_at_call 17; refine (SameL_calls HB2.out.1 HB2.out.2.1).mono ?_; rintro e w12 ⟨rfl, u12⟩)
          go_roundw
          case rel => exact ⟨k + 1, by go_num, by omega, HB2.out.2.2.step u12⟩
          case measure => simp [intOf]; omega
        · have hk3 : k = 3 := by omega
          subst hk3
          rw [show ((3 : Nat) : Int) = 3 from rfl]
          have HU := Lib.hid (H4.out.2.1.step hu)
          clear hu
          go_wp2_with (go_at_call 18; refine lives_calls.mono ?_; rintro e w14 ⟨rfl, u14⟩)
          go_ret
          exact ⟨rfl, HU.out.step u14⟩
end
end Jour
end Go.Proofs.Ytfkgpecglcjpkaa
