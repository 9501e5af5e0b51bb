/- The law JournalInverted: its walk. Conditions: none. -/
import Derived.Test.YtfkgpecglcjpkaaJourS
set_option linter.unusedVariables false
set_option linter.unusedSimpArgs false
set_option linter.unusedSectionVars false
open Go.RowKit
namespace Go.Proofs.Ytfkgpecglcjpkaa
open L
namespace Jour
open Wire Hash R01 R02 Disk
attribute [-go_sem] sliced
section
variable {w w' : World}
set_option maxRecDepth 100000 in
set_option maxHeartbeats 8000000 in
theorem JournalInverted_calls {v0 v1 : Value} {l bb : List Int} {keep fp : Int} (h0 : SL w 1 v0 l.length (ints l)) (hi : ∀ x ∈ l, IsI64 x) (h1 : SL w 1 v1 bb.length (byts bb)) (hb : ∀ x ∈ bb, IsU8 x) (hk : IsI64 keep) (hfp : IsI64 fp) :
    Calls Try.prog 9 #[v0, v1, .int .i64 keep, .int .i64 fp] w fun e w' => e = .returned (.bool true) ∧ Upd [] w w' := by
  obtain ⟨a0, c0, rfl, _⟩ := h0.val
  obtain ⟨a1, c1, rfl, _⟩ := h1.val
  have HH := Lib.hid (And.intro h0 (And.intro hi (And.intro h1 hb)))
  have HK := Lib.hid (And.intro hk hfp)
  clear h0 hi h1 hb hk hfp
  have HF := Lib.hid (show Calls Try.prog 29 #[.int .i64 5000] w _ from fresh_calls (w := w) (room := 5000) (by omega))
  go_enter Try.func9, Try.ntmps9
  go_upto_region 4 with (go_at_call 29; refine HF.out.mono ?_; rintro e w1 ⟨p, rfl, s1⟩)
  have HO := Lib.hid (Open_calls s1 (f := 0) ⟨by omega, by omega⟩)
  rw [show openS (firmP 5000 (fun _ => []) (-1)) 0 = _ from open_new 5000 0 (by omega)] at HO
  unfold OpT at HO
  simp only [if_pos] at HO
  clear s1 HF
  go_upto_region 7 with (go_at_call 30; refine HO.out.mono ?_; rintro e w2 ⟨q, ax, cx, rfl, s2⟩)
  have HS2 := Lib.hid (s2.pull 2 rfl).drop
  clear s2 HO
  have HR := Lib.hid (Recs_calls (HH.out.1.upd HS2.out.u (by simp)) HH.out.2.1)
  go_upto_region 8 with (go_at_call 14; refine HR.out.mono ?_; rintro e w3 ⟨X, a3, c3, rfl, h6, hsm, o3, u3⟩)
  have HS3 := Lib.hid (Sep.list HS2.out u3 o3)
  have HSM := Lib.hid hsm
  clear u3 o3 HS2 HR hsm
  go_upto_block 0 with fail
  go_cut [14] (fun i w' => L.Sep w [PDk p (firmP 5000 (one 0 (cat 0 X)) (-1)), PLg q p ⟨0, X.length, true⟩, PBL (.slice a3 X.length c3) X] w')
  case first =>
    go_wp2_with fail
    go_loopw [14] (fun i wr => ∃ k : Nat, i = .int .i64 k ∧ k ≤ X.length ∧ L.Sep w [PDk p (firmP 5000 (one 0 (cat 0 (X.take k))) (-1)), PLg q p ⟨0, k, true⟩, PBL (.slice a3 X.length c3) X] wr) (fun i _ => X.length - (intOf i).toNat)
    case atStart => exact ⟨0, rfl, Nat.zero_le _, (HS3.out.pull 2 rfl).pull 2 rfl⟩
    case round =>
      obtain ⟨wo, rfl⟩ : ∃ wo : World, wo = wr := ⟨_, rfl⟩
      obtain ⟨k, rfl, hk, hS⟩ := hrel
      by_cases hlt : k < X.length
      · have hlt' : (k : Int) < X.length := by omega
        obtain ⟨_, _, he, hq1, _, hel⟩ := Sep.at_ 2 hS rfl
        cases he
        obtain ⟨g, off, ac, cc, rfl, hd, hsl, hjl⟩ := hel k _ (List.getElem?_eq_getElem hlt)
        have hxm := HSM.out X[k] (List.getElem_mem hlt)
        have HT := Lib.hid (cat_take hlt)
        have hct := small_cat (small_take HSM.out k) 0
        rw [List.length_take] at hct
        generalize X[k] = x at *
        have hfl := frB_length (k : Nat) x
        have HA := LApp_one hS (f := 0) rfl (by omega) hsl hjl (by omega) hxm.1 (by have := hxm.2; omega) (by have := hxm.2; omega)
        rw [← HT.out] at HA
        have HA := Lib.hid HA
        clear hel hS hsl hjl hxm hct
        go_wp2_with (go_at_call 32; refine HA.out.mono ?_; rintro e w4 ⟨rfl, s4⟩; have HS4 := Lib.hid s4; clear s4)
        go_roundw
        case rel => exact ⟨k + 1, by go_num, by omega, HS4.out⟩
        case measure => simp [intOf]; omega
      · have hkX : k = X.length := by omega
        subst hkX
        rw [List.take_of_length_le (Nat.le_refl _)] at hS
        have HE := Lib.hid hS
        clear hS
        go_wp2_with fail
        go_meet
        exact HE.out
  case rest =>
    have hct := small_cat HSM.out 0
    have HA := Sep.arm hcut (n := 0) ⟨by omega, by omega⟩
    rw [arm_firm 5000 _ (by omega)] at HA
    have HA := Lib.hid HA
    clear hcut HS3
    go_upto_region 14 with (go_at_call 37; refine HA.out.mono ?_; rintro e w4 ⟨rfl, s4⟩)
    have hol : (bb.take 60).length ≤ 60 := by rw [List.length_take]; omega
    have HO8 := Lib.hid (u8_take HH.out.2.2.2 60)
    have HFW := Lib.hid (Few_calls (HH.out.2.2.1.upd s4.u (by simp)) 60 (by omega))
    have HS4 := Lib.hid s4
    generalize bb.take 60 = own at *
    have hfl := frB_length (X.length : Nat) own
    have hus := one_used 5000 0 (by omega) 0 (cat 0 X)
    have HJ := Lib.hid (show jappS (firmP 5000 (one 0 (cat 0 X)) 0) ⟨0, X.length, true⟩ own = _ from japp_fails (f := 0) (by omega) (.inl rfl) (by omega) (by omega))
    clear hus s4 HA
    go_upto_region 16 with (first
      | (go_at_call 10; refine HFW.out.mono ?_; rintro e w5 ⟨a5, c5, rfl, o5, u5⟩; have HA := LApp_calls (HS4.out.quiet u5) o5.sl o5.lt (show IsI64 0 from ⟨by omega, by omega⟩) (by show X.length ≤ _; omega) HO8.out (by omega); rw [HJ.out] at HA; have HA := Lib.hid HA; clear o5 u5)
      | (go_at_call 32; refine HA.out.mono ?_; rintro e w6 ⟨rfl, s6⟩; have HU := Lib.hid (Up_calls 1 s6 rfl); have HS6 := Lib.hid s6; clear s6)
      | (go_at_call 34; refine HU.out.mono ?_; rintro e _ ⟨rfl, rfl⟩))
    have hD : ∃ sD : DS, sD = ⟨5000, setB (one 0 (cat 0 X)) 0 (one 0 (cat 0 X) 0 ++ frB (X.length : Nat) own), fun i => (one 0 (cat 0 X) i).length, true, -1⟩ ∧ (sD.B 0).take (sD.F 0) = cat 0 X ∧ sD.room = 5000 := by
      refine ⟨_, rfl, ?_, rfl⟩
      simp only [setB_at]
      rw [show one 0 (cat 0 X) 0 = cat 0 X from setB_at _ _ _, List.take_left]
    obtain ⟨sD, hD1, hD2⟩ := hD
    rw [← hD1] at HS6
    have HD := Lib.hid hD2
    clear hD1 hD2 HJ HFW HS4 HU HA
    have HA := Lib.hid (LApp_down (b := []) HS6.out ⟨by omega, by omega⟩ (by omega))
    go_upto_region 18 with (first
      | (go_at_call 32; refine HA.out.mono ?_; rintro e w7 ⟨rfl, s7⟩; have HL := Lib.hid (Len_calls 1 s7 rfl); have HS7 := Lib.hid s7; clear s7)
      | (go_at_call 33; refine HL.out.mono ?_; rintro e _ ⟨rfl, rfl⟩))
    clear HA HL HS6
    have s8 := sep_ints HS7.out ((Upd.refl [] w7).alloc (.cells #[.int .i64 keep] 3)) (show Blk _ _ (ints [keep]) 3 from Blk.new w7 [.int .i64 keep] 3) (by simp)
    have HC := Lib.hid (Sep.crash (n := 0) (s8.pull 1 rfl) (by simpa using HK.out.1) HK.out.2)
    clear s8
    go_upto_region 19 with (go_at_call 36; refine HC.out.mono ?_; rintro e w9 ⟨rfl, s9⟩)
    have hC : ∃ B : Nat → List Int, crashS sD [keep] fp = firmP 5000 B (-1) ∧ cat 0 X <+: B 0 := by
      have h1 := firm_crash (Sep.ok HS7.out) [keep] fp 0
      rw [HD.out.1] at h1
      exact ⟨crashB sD [keep] (crashAt sD [keep] fp), by rw [crashS_firm, HD.out.2], h1⟩
    obtain ⟨B, hB1, hB2⟩ := hC
    rw [hB1] at s9
    have s10 := (s9.pull 1 rfl).drop
    have hBl := (Sep.ok s10).len 0
    have hgx := scanL_has hB2 (by have : (firmP 5000 B (-1)).B 0 = B 0 := rfl; rw [this] at hBl; omega)
    have HA := Lib.hid (LApp_down (b := []) s10 ⟨by omega, by omega⟩ (by omega))
    have HGX := Lib.hid hgx
    clear hB1 hB2 hBl hgx HC HS7 s9 s10 HD
    go_upto_region 21 with (go_at_call 32; refine HA.out.mono ?_; rintro e w10 ⟨rfl, s10⟩)
    have HO := Open_calls s10 (f := 0) ⟨by omega, by omega⟩
    rw [show openS (firmP 5000 B (-1)) 0 = _ from open_firm (f := 0) (by omega)] at HO
    unfold OpT at HO
    simp only [if_pos] at HO
    have HO := Lib.hid HO
    clear s10 HA
    generalize scanL (B 0) = got at *
    go_upto_region 22 with (go_at_call 30; refine HO.out.mono ?_; rintro e w11 ⟨q2, ag, cg, rfl, s11⟩)
    have hg11 := Sep.bl 2 s11 rfl
    have hx11 := Sep.bl 4 s11 rfl
    have hlx := HGX.out.length_le
    have htk : got.take X.length = X := (List.prefix_iff_eq_take.1 HGX.out).symm
    obtain ⟨a12, c12, hs12, hjunk⟩ := (BL.take_ hg11 rfl hlx).choose_spec.1.val
    clear hjunk
    have ht12 := BL.take_ hg11 rfl hlx
    rw [hs12, htk] at ht12
    have hx2c : (X.length : Int) ≤ cg := by
      obtain ⟨a', c', he, hq, _⟩ := hg11.at_
      cases he
      omega
    have hlx' : (X.length : Int) ≤ got.length := by omega
    have HB := Lib.hid (And.intro ht12 (And.intro hx11 s11.u))
    clear s11 hg11 hx11 htk ht12 HO HGX
    go_wp2_with (first | (go_at_call 17; with_reducible refine (SameL_calls HB.out.1 HB.out.2.1).mono ?_; rintro e w12 ⟨rfl, u12⟩) | (go_at_call 18; refine lives_calls.mono ?_; rintro e w14 ⟨rfl, u14⟩))
    go_ret
    exact ⟨rfl, (HB.out.2.2.step u12).step u14⟩
end
end Jour
end Go.Proofs.Ytfkgpecglcjpkaa
