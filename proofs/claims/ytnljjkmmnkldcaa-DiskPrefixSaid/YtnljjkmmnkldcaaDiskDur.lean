/- The law DiskDurable: its walk. Conditions: none. -/
import Derived.Test.YtnljjkmmnkldcaaDiskSep
import Derived.Test.YtnljjkmmnkldcaaReg3
import Derived.Test.YtnljjkmmnkldcaaLists
set_option linter.unusedVariables false
set_option linter.unusedSimpArgs false
set_option linter.unusedSectionVars false
open Go.RowKit
namespace Go.Proofs.Ytnljjkmmnkldcaa
open L
namespace Disk
open Wire R01
attribute [-go_sem] sliced
section
variable {w w' : World}
theorem sep_lit {w0 : World} {ps : List Pr} {bs : List Int} (h : L.Sep w0 ps w) (hu : Upd [] w w') (hb : Blk w' w.heap.size (byts bs) 5) (hl : bs.length ≤ 1000) : L.Sep w0 (PSL 1 (.slice (some ⟨w.heap.size, 0, none⟩) bs.length bs.length) bs.length (byts bs) :: ps) w' :=
  h.new (S := [w.heap.size]) hu ⟨sl_bytes hb (by omega), fun g hg => by simp [Value.ownBlock] at hg; simp [hg], fun g hg => by simp at hg; subst hg; exact hb.lt⟩ (fun g hg => by simp at hg; omega)
theorem sl_pre {w : World} {a : Option Addr} {n m cap : Nat} {cs : List Value} (h : SL w 1 (.slice a n cap) n cs) (hm : m ≤ n) : SL w 1 (.slice a m cap) m (cs.take m) := by
  obtain ⟨h1, a', cap', he, h2, h3, h5, h4⟩ := h
  cases he
  refine ⟨by rw [List.length_take]; omega, a, cap, rfl, by omega, h3, h5, ?_⟩
  rcases h4 with h4 | ⟨b, off, rfl, h4⟩
  · left; omega
  · right
    refine ⟨b, off, rfl, fun j u hj => h4 j u ?_⟩
    rw [List.getElem?_take] at hj
    split at hj
    · exact hj
    · cases hj
theorem sl_pre0 {w : World} {a : Option Addr} {n m cap : Nat} {cs : List Value} (h : SL w 1 (.slice a n cap) n cs) (hm : m ≤ n) : SL w 1 (sliced a 0 m cap 1) m (cs.take m) := by
  have h2 := (sl_pre h hm).from_ (Nat.zero_le m)
  simpa using h2
set_option maxRecDepth 100000 in
set_option maxHeartbeats 8000000 in
theorem DiskDurable_calls {x fp : Int} (hx : IsI64 x) (hfp : IsI64 fp) {v1 v2 v3 : Value} {xs more keep : List Int} (h1 : SL w 1 v1 xs.length (ints xs)) (hxs : ∀ x ∈ xs, IsI64 x) (h2 : SL w 1 v2 more.length (ints more)) (hmore : ∀ x ∈ more, IsI64 x) (h3 : SL w 1 v3 keep.length (ints keep)) (hkeep : ∀ x ∈ keep, IsI64 x) :
    Calls Try.prog 6 #[.int .i64 x, v1, v2, v3, .int .i64 fp] w fun e w' => e = .returned (.bool true) ∧ Upd [] w w' := by
  obtain ⟨a1, c1, rfl, _⟩ := h1.val
  obtain ⟨a2, c2, rfl, _⟩ := h2.val
  obtain ⟨a3, c3, rfl, _⟩ := h3.val
  have HM := Lib.hid (made_calls hx h1 hxs)
  have HP := Lib.hid (And.intro h2 (And.intro hmore (And.intro h3 (And.intro hkeep hfp))))
  clear h1 hxs hx h2 hmore h3 hkeep hfp
  go_enter Try.func6, Try.ntmps6
  go_upto_region 4 with (go_at_call 27; (with_reducible refine HM.out.mono ?_); rintro e w1 ⟨p, q, s, rfl, P1⟩)
  have HA := Lib.hid (Sep.arm (Pair.sep P1) (n := -1) ⟨by omega, by omega⟩)
  clear P1 HM
  go_upto_region 5 with (go_at_call 28; refine HA.out.mono ?_; rintro e w2 ⟨rfl, s2⟩)
  have HO := Lib.hid (Sep.on s2)
  have HS2 := Lib.hid s2
  clear HA s2
  cases hoff : s.off with
  | true =>
    obtain ⟨d1, d2⟩ := dur_off hoff
    have HY := Lib.hid (Sep.sync HS2.out)
    rw [d1] at HY
    rw [d2] at HO
    go_wp2_with (first
      | (go_at_call 29; refine HO.out.mono ?_; rintro e _ ⟨rfl, rfl⟩)
      | (go_at_call 15; refine HY.out.mono ?_; rintro e w3 ⟨rfl, s3⟩; have HS3 := Lib.hid s3; clear s3)
      | (go_at_call 19; refine lives_calls.mono ?_; rintro e w4 ⟨rfl, u4⟩))
    go_ret
    exact ⟨rfl, HS3.out.u.step u4⟩
  | false =>
    have eo : (armS s (-1)).off = false := by unfold armS; rw [if_neg (by simp [hoff])]; exact hoff
    obtain ⟨d1, d2⟩ := dur_on hoff
    have HY := Lib.hid (Sep.sync HS2.out)
    rw [d1, d2] at HY
    rw [eo] at HO
    have HD := Lib.hid (dur_start hoff)
    have hF : ∀ i, ({ s with plan := -1, F := fun i => (s.B i).length } : DS).F i = (({ s with plan := -1, F := fun i => (s.B i).length } : DS).B i).length := fun _ => rfl
    have HF := Lib.hid hF
    have HBs := Lib.hid (show ∀ i, s.B i = ({ s with plan := -1, F := fun i => (s.B i).length } : DS).B i from fun _ => rfl)
    clear d1 d2 eo hF
    generalize ({ s with plan := -1, F := fun i => (s.B i).length } : DS) = sd at *
    go_upto_region 9 with (first
      | (go_at_call 29; refine HO.out.mono ?_; rintro e _ ⟨rfl, rfl⟩)
      | (go_at_call 15; refine HY.out.mono ?_; rintro e w3 ⟨rfl, s3⟩))
    have HC := Lib.hid (Sep.copy s3)
    clear HY HO HS2 s3
    go_upto_region 12 with (go_at_call 30; refine HC.out.mono ?_; rintro e w4 ⟨c, rfl, s4⟩)
    have HI := Lib.hid (Ints_calls (HP.out.2.2.1.upd s4.u (by simp)) 4 (by omega))
    have hk : ∀ x ∈ keep.take 4, IsI64 x := fun x hx => HP.out.2.2.2.1 x (List.mem_of_mem_take hx)
    have hkl : (keep.take 4).length ≤ 4 := by rw [List.length_take]; omega
    have HK := Lib.hid hk
    have HS4 := Lib.hid s4
    clear HC s4 hk
    generalize keep.take 4 = kp at *
    go_upto_region 13 with (go_at_call 31; refine HI.out.mono ?_; rintro e w5 ⟨a5, c5, rfl, o5, u5⟩)
    have s5 := Sep.slice HS4.out u5 o5
    clear HI HS4 o5 u5
    have HCR := Lib.hid (Sep.crash (n := 0) (s5.pull 1 rfl) HK.out HP.out.2.2.2.2)
    clear s5
    go_upto_region 14 with (go_at_call 16; refine HCR.out.mono ?_; rintro e w6 ⟨rfl, s6⟩)
    have s6' := s6.pull 2 rfl
    have HS6 := Lib.hid s6'
    clear HCR s6 s6'
    go_upto_block 0 with fail
    go_cut [15] (fun i w' => ∃ t : DS, Dur s t ∧ Sep w [PDk p t, PDk c (crashS sd kp fp), PSL 1 (.slice a5 kp.length c5) kp.length (ints kp), PRDk q s] w')
    case first =>
      go_wp2_with fail
      go_loopw [15] (fun i wr => ∃ (k : Nat) (t : DS), i = .int .i64 k ∧ k ≤ min more.length 6 ∧ Dur s t ∧ Sep w [PDk p t, PDk c (crashS sd kp fp), PSL 1 (.slice a5 kp.length c5) kp.length (ints kp), PRDk q s] wr) (fun i _ => 6 - (intOf i).toNat)
      case atStart => exact ⟨0, sd, rfl, Nat.zero_le _, HD.out, HS6.out⟩
      case round =>
        obtain ⟨wo, rfl⟩ : ∃ wo : World, wo = wr := ⟨_, rfl⟩
        obtain ⟨k, t, rfl, hkm, hD, hS⟩ := hrel
        have HS := Lib.hid (And.intro hD hS)
        have hmx : more.length ≤ maxLen := by obtain ⟨_, _, _, _, z1, z2, _⟩ := HP.out.1; omega
        unfold maxLen at hmx
        by_cases hlt : k < more.length ∧ k < 6
        · obtain ⟨hl1, hl2⟩ := hlt
          have hi1 : (k : Int) < more.length := by omega
          have hi2 : (k : Int) < 6 := by omega
          obtain ⟨_, _, hva, hq2, _, hcc⟩ := SL.form (HP.out.1.upd hS.u (by simp))
          cases hva
          obtain ⟨b2, off2, rfl, hcell⟩ := hcc (by omega)
          have hy64 := HP.out.2.1 _ (List.getElem_mem hl1)
          have c0 := hcell k _ (ints_get (List.getElem?_eq_getElem hl1))
          generalize more[k] = y at *
          have HY := Lib.hid hy64
          have HA := Lib.hid (fun w : World => Around_calls y 3 w HY.out (by omega) (by omega))
          have m0 := around_lo (n := y) (k := 3) (by omega)
          have m1 := around_hi (n := y) (k := 3) (by omega)
          generalize around y 3 = f at *
          clear hD hS hcell hq2 hy64 hkm
          go_upto_region 17 with fail
          refine wp_region_wa 13 12 (fun w' => ∃ x : Ext wo, w' = x.val) (by kernel_rfl) (by kernel_rfl) (Ext.of (by iterate 25 (first | exact Upd.refl _ _ | assumption | refine Upd.alloc ?_ _ | refine Upd.drew ?_ | refine Upd.drewN ?_ _ | refine Upd.dl ?_ | refine Upd.step ?_ (Ext.upd _) | refine Upd.nil ?_ | skip))) ?_
          (refine WA.free 0 rfl rfl (by kernel_rfl) (fun K hK => ?_); go_big_quiet_step (fail); refine wpQuiet_nil ?_; refine hK _ ?_; clear hK K); (refine WA.free 1 rfl rfl (by kernel_rfl) (fun K hK => ?_); go_big_quiet_step (fail); refine wpQuiet_nil ?_; refine hK _ ?_; clear hK K); (refine WA.free 2 rfl rfl (by kernel_rfl) (fun K hK => ?_); go_big_quiet_step (fail); refine wpQuiet_nil ?_; refine hK _ ?_; clear hK K); (refine WA.free 3 rfl rfl (by kernel_rfl) (fun K hK => ?_); go_big_quiet_step (fail); refine wpQuiet_nil ?_; refine hK _ ?_; clear hK K)
          (refine WA.load 4 20 rfl rfl (by kernel_rfl) (by kernel_rfl) (fun K hK => ?_); go_big_quiet_step (fail); refine wpQuiet_nil ?_; refine hK _ ?_; clear hK K)
          (refine WA.free 6 rfl rfl (by kernel_rfl) (fun K hK => ?_); go_big_quiet_step (fail); refine wpQuiet_nil ?_; refine hK _ ?_; clear hK K); (refine WA.free 7 rfl rfl (by kernel_rfl) (fun K hK => ?_); go_big_quiet_step (fail); refine wpQuiet_nil ?_; refine hK _ ?_; clear hK K); (refine WA.free 8 rfl rfl (by kernel_rfl) (fun K hK => ?_); go_big_quiet_step (fail); refine wpQuiet_nil ?_; refine hK _ ?_; clear hK K)
          (refine WA.load 9 20 rfl rfl (by kernel_rfl) (by kernel_rfl) (fun K hK => ?_); go_big_quiet_step (fail); refine wpQuiet_nil ?_; refine hK _ ?_; clear hK K)
          (refine WA.free 10 rfl rfl (by kernel_rfl) (fun K hK => ?_); go_big_quiet_step (fail); refine wpQuiet_nil ?_; refine hK _ ?_; clear hK K)
          have HF64 := Lib.hid (show IsI64 f from ⟨by omega, by omega⟩)
          refine WA.two 5 11 (by kernel_rfl) (Do_.mk rfl (fun K hK => ?_)) (Do_.mk rfl (fun K hK => ?_))
          · go_wp2_with (go_at_call 12; refine (HA.out _).mono ?_; rintro e _ ⟨rfl, rfl⟩)
            refine WA.keep (Ext.of (by iterate 25 (first | exact Upd.refl _ _ | assumption | refine Upd.alloc ?_ _ | refine Upd.drew ?_ | refine Upd.drewN ?_ _ | refine Upd.dl ?_ | refine Upd.step ?_ (Ext.upd _) | refine Upd.nil ?_ | skip))) ?_
            refine WA.one 11 (by kernel_rfl) (Do_.mk rfl (fun K hK => ?_))
            go_wp2_with fail
            have BL : Blk ((wo.alloc (.cells #[.int .u8 (y % 256), .int .u8 7] 5)).drew) wo.heap.size (byts [y % 256, 7]) 5 := Blk.new wo (byts [y % 256, 7]) 5
            have sL := sep_lit HS.out.2 (show Upd [] wo ((wo.alloc (.cells #[.int .u8 (y % 256), .int .u8 7] 5)).drew) from (by iterate 25 (first | exact Upd.refl _ _ | assumption | refine Upd.alloc ?_ _ | refine Upd.drew ?_ | refine Upd.drewN ?_ _ | refine Upd.dl ?_ | refine Upd.step ?_ (Ext.upd _) | refine Upd.nil ?_ | skip))) BL (by simp)
            have HAP := Lib.hid (Sep.append (sL.pull 1 rfl) HF64.out (by intro x hx; simp at hx; rcases hx with rfl | rfl <;> omega) (by simp))
            clear BL sL
            refine WA.keep (Ext.of (by iterate 25 (first | exact Upd.refl _ _ | assumption | refine Upd.alloc ?_ _ | refine Upd.drew ?_ | refine Upd.drewN ?_ _ | refine Upd.dl ?_ | refine Upd.step ?_ (Ext.upd _) | refine Upd.nil ?_ | skip))) ?_
            refine WA.one 12 (by kernel_rfl) (Do_.mk rfl (fun K hK => ?_))
            go_wp2_with (go_at_call 14; refine (HAP.out).mono ?_; rintro e w8 ⟨rfl, s8⟩)
            have H8 := Lib.hid (s8.pull 1 rfl).drop
            clear s8 HAP
            refine WA.past (by kernel_rfl) ?_
            refine WA.nil (by kernel_rfl) ?_
            go_wp2_with fail
            exact ⟨⟨k + 1, _, by go_num, by omega, dur_append HS.out.1 f [y % 256, 7], H8.out⟩, by simp [intOf]; omega⟩
          · go_wp2_with fail
            have BL : Blk ((wo.alloc (.cells #[.int .u8 (y % 256), .int .u8 7] 5)).drew) wo.heap.size (byts [y % 256, 7]) 5 := Blk.new wo (byts [y % 256, 7]) 5
            have sL := sep_lit HS.out.2 (show Upd [] wo ((wo.alloc (.cells #[.int .u8 (y % 256), .int .u8 7] 5)).drew) from (by iterate 25 (first | exact Upd.refl _ _ | assumption | refine Upd.alloc ?_ _ | refine Upd.drew ?_ | refine Upd.drewN ?_ _ | refine Upd.dl ?_ | refine Upd.step ?_ (Ext.upd _) | refine Upd.nil ?_ | skip))) BL (by simp)
            have HAP := Lib.hid (Sep.append (sL.pull 1 rfl) HF64.out (by intro x hx; simp at hx; rcases hx with rfl | rfl <;> omega) (by simp))
            clear BL sL
            refine WA.keep (Ext.of (by iterate 25 (first | exact Upd.refl _ _ | assumption | refine Upd.alloc ?_ _ | refine Upd.drew ?_ | refine Upd.drewN ?_ _ | refine Upd.dl ?_ | refine Upd.step ?_ (Ext.upd _) | refine Upd.nil ?_ | skip))) ?_
            refine WA.one 5 (by kernel_rfl) (Do_.mk rfl (fun K hK => ?_))
            go_wp2_with (go_at_call 12; refine (HA.out _).mono ?_; rintro e _ ⟨rfl, rfl⟩)
            refine WA.keep (Ext.of (by iterate 25 (first | exact Upd.refl _ _ | assumption | refine Upd.alloc ?_ _ | refine Upd.drew ?_ | refine Upd.drewN ?_ _ | refine Upd.dl ?_ | refine Upd.step ?_ (Ext.upd _) | refine Upd.nil ?_ | skip))) ?_
            refine WA.one 12 (by kernel_rfl) (Do_.mk rfl (fun K hK => ?_))
            go_wp2_with (go_at_call 14; refine (HAP.out).mono ?_; rintro e w8 ⟨rfl, s8⟩)
            have H8 := Lib.hid (s8.pull 1 rfl).drop
            clear s8 HAP
            refine WA.past (by kernel_rfl) ?_
            refine WA.nil (by kernel_rfl) ?_
            go_wp2_with fail
            exact ⟨⟨k + 1, _, by go_num, by omega, dur_append HS.out.1 f [y % 256, 7], H8.out⟩, by simp [intOf]; omega⟩
        · have hDS : ∃ t : DS, Dur s t ∧ Sep w [PDk p t, PDk c (crashS sd kp fp), PSL 1 (.slice a5 kp.length c5) kp.length (ints kp), PRDk q s] wo := ⟨t, HS.out⟩
          clear hD hS HS
          by_cases hl1 : k < more.length
          · have hi1 : (k : Int) < more.length := by omega
            have hi2 : ¬ (k : Int) < 6 := by omega
            go_wp2_with fail
            go_meet
            exact hDS
          · have hi1 : ¬ (k : Int) < more.length := by omega
            go_wp2_with fail
            go_meet
            exact hDS
    case rest =>
      obtain ⟨t, hD, hS⟩ := hcut
      have HD2 := Lib.hid (And.intro hD (Sep.ok hS))
      have HC := Lib.hid (Sep.copy hS)
      clear hD hS HS6
      go_upto_region 19 with (go_at_call 30; refine HC.out.mono ?_; rintro e w7 ⟨l, rfl, s7⟩)
      have HCR := Lib.hid (Sep.crash (n := 0) ((s7.pull 3 rfl).pull 2 rfl) HK.out HP.out.2.2.2.2)
      clear s7 HC
      go_upto_region 20 with (go_at_call 16; refine HCR.out.mono ?_; rintro e w8 ⟨rfl, s8⟩)
      have HS8 := Lib.hid (show Sep w [PDk p (crashS t kp fp), PSL 1 (.slice a5 kp.length c5) kp.length (ints kp), PDk l t, PDk c (crashS sd kp fp), PRDk q s] w8 from s8)
      clear s8 HCR
      go_wp2_with fail
      go_loopw [17] (fun i wr => ∃ k : Nat, i = .int .i64 k ∧ k ≤ 4 ∧ Upd [] w8 wr) (fun i _ => 4 - (intOf i).toNat)
      case atStart => exact ⟨0, rfl, Nat.zero_le _, Upd.refl _ _⟩
      case round =>
        obtain ⟨wo, rfl⟩ : ∃ wo : World, wo = wr := ⟨_, rfl⟩
        obtain ⟨k, rfl, hk, hu⟩ := hrel
        by_cases hlt : k < 4
        · have hli : (k : Int) < 4 := by omega
          have hi64 : IsI64 (k : Int) := ⟨by omega, by omega⟩
          have rC : readS (crashS sd kp fp) (k : Int) = (s.B k, 0) := by
            rw [readS_on (s := crashS sd kp fp) (i := k) (by omega) rfl, crash_firm HF.out, ← HBs.out k]
          obtain ⟨e1, e2, e3⟩ := dur_crash HD2.out.1 HD2.out.2 kp fp k
          have rP : readS (crashS t kp fp) (k : Int) = ((crashS t kp fp).B k, 0) := readS_on (s := crashS t kp fp) (i := k) (by omega) rfl
          have rL : readS t (k : Int) = (t.B k, 0) := readS_on (by omega) HD2.out.1.off
          have uP := (Sep.ok (HS8.out)).u8 k
          have HRC := Lib.hid (Sep.read ((HS8.out.quiet hu).pull 3 rfl) hi64)
          rw [rC] at HRC
          have HRP := Lib.hid (fun (w' : World) (h : Upd [] wo w') => by have h := Sep.read (HS8.out.quiet (hu.step h)) hi64; rw [rP] at h; exact h)
          have HRL := Lib.hid (fun (w' : World) (h : Upd [] wo w') => by have h := Sep.read ((HS8.out.quiet (hu.step h)).pull 2 rfl) hi64; rw [rL] at h; exact h)
          generalize (crashS t kp fp).B k = bb at *
          generalize hcc : t.B k = cc at *
          obtain ⟨sa, hsa⟩ : ∃ sa, sa = s.B k := ⟨_, rfl⟩
          rw [← hsa] at HRC e1 e2
          have HSA := Lib.hid hsa
          have HE := Lib.hid (And.intro e1 uP)
          have e3' : bb.length ≤ cc.length := e3
          have hi2 : (sa.length : Int) ≤ bb.length := by omega
          have hi3 : (bb.length : Int) ≤ cc.length := by omega
          have hi4 : ¬ (bb.length : Int) < sa.length := by omega
          clear e1 uP e3 hcc hsa rC rP rL
          have HU := Lib.hid hu
          clear hu
          go_upto_region 24 with (go_at_call 17; (with_reducible refine HRC.out.mono ?_); rintro e wA ⟨vA, rfl, oA, uA⟩; obtain ⟨_, aA, cA, rfl, _⟩ := SL.of_owns oA.row)
          have HOA := Lib.hid (And.intro oA uA)
          have HRP2 := Lib.hid (HRP.out _ uA)
          clear oA uA HRC
          go_upto_region 25 with (go_at_call 17; (with_reducible refine HRP2.out.mono ?_); rintro e wB ⟨vB, rfl, oB, uB⟩; obtain ⟨_, aB, cB, rfl, _⟩ := SL.of_owns oB.row)
          have U08 := HU.out.step (HOA.out.2.step uB)
          obtain ⟨T, k2, _⟩ := ((HS8.out.quiet U08).pull 4 rfl).head
          obtain ⟨bB, bF, V, b1, b2, b3, _, _, _, _, _, _, b10, _⟩ := RDk.ex k2
          have d1 := b1.cell (i := 1) rfl
          have hrow := (b10 k (by omega)).1
          obtain ⟨_, aV, cV, hV, _⟩ := SL.of_owns hrow
          have e0 := b2.cell (vl_get V (show k < 64 by omega))
          rw [hV] at e0
          have sV := SL.of_owns hrow
          rw [hV, ← HSA.out] at sV
          rw [← HSA.out] at e0
          have HX := Lib.hid (And.intro sV (And.intro (HOA.out.1.upd uB (by simp)).sl (And.intro oB.sl (HOA.out.2.step uB))))
          have HS1 := Lib.hid (show Calls Try.prog 18 #[.slice aA sa.length cA, .slice aV sa.length cV] wB (fun e w' => e = .returned (.bool true) ∧ Upd [] wB w') from by
            have h := SameBytes_calls HX.out.2.1 HX.out.1
            rw [decide_eq_true rfl] at h; exact h)
          have HS2 := Lib.hid (fun (w' : World) (h : Upd [] wB w') => show Calls Try.prog 18 #[sliced aB 0 sa.length cB 1, .slice aA sa.length cA] w' (fun e w2 => e = .returned (.bool true) ∧ Upd [] w' w2) from by
            have h1 := sl_pre0 (HX.out.2.2.1.upd h (by simp)) e2
            have h2 : (byts bb).take sa.length = byts sa := by unfold byts; rw [← List.map_take, HE.out.1]
            rw [h2] at h1
            have h := SameBytes_calls h1 (HX.out.2.1.upd h (by simp))
            rw [decide_eq_true rfl] at h; exact h)
          have hcB : (sa.length : Int) ≤ cB := by obtain ⟨_, _, _, hz, h2, _⟩ := HX.out.2.2.1; cases hz; omega
          have hcB2 : bb.length ≤ cB := by obtain ⟨_, _, _, hz, h2, _⟩ := HX.out.2.2.1; cases hz; omega
          have HU08 := Lib.hid U08
          clear U08 k2 b1 b2 b3 b10 hrow hV sV oB uB HRP2
          go_upto_region 29 with (first
            | (go_at_call 18; (with_reducible refine HS1.out.mono ?_); rintro e wC ⟨rfl, uC⟩; have HUC := Lib.hid uC; have HS2C := Lib.hid (HS2.out _ uC); clear uC)
            | (go_at_call 18; (with_reducible refine HS2C.out.mono ?_); rintro e wD ⟨rfl, uD⟩; have HUD := Lib.hid uD; clear uD))
          have HRL2 := Lib.hid (HRL.out _ (HX.out.2.2.2.step (HUC.out.step HUD.out)))
          have U0D := Lib.hid (HU08.out.step (HUC.out.step HUD.out))
          clear d1 e0
          go_wp2_with (go_at_call 17; (with_reducible refine HRL2.out.mono ?_); rintro e wE ⟨vE, rfl, oE, uE⟩; obtain ⟨_, aE, cE, rfl, _⟩ := SL.of_owns oE.row; have HUE := Lib.hid uE; clear oE uE)
          go_roundw
          case rel => exact ⟨k + 1, by go_num, by omega, U0D.out.step HUE.out⟩
          case measure => simp [intOf]; omega
        · have hk4 : k = 4 := by omega
          subst hk4
          have HU := Lib.hid hu
          clear hu
          go_wp2_with (go_at_call 19; refine lives_calls.mono ?_; rintro e w9 ⟨rfl, u9⟩)
          go_ret
          exact ⟨rfl, HS8.out.u.step (HU.out.step u9)⟩
end
end Disk
end Go.Proofs.Ytnljjkmmnkldcaa
