/- The law JournalDurable: its walk. Conditions: none. -/
import Derived.Test.YtfkgpecglcjpkaaJourS
set_option linter.unusedVariables false
set_option linter.unusedSimpArgs false
set_option linter.unusedSectionVars false
open Go.RowKit
namespace Go.Proofs.Ytfkgpecglcjpkaa
open L
namespace Jour
open Wire Hash R01 R02 Disk
attribute [-go_sem] sliced
/-- The disk after a failure: the bytes of y are firm, those of z are there. -/
def deadS (y z : List Int) : DS := ⟨5000, one 0 z, fun i => (one 0 y i).length, true, -1⟩
theorem one_at (f : Nat) (x : List Int) : one f x f = x := setB_at _ _ _
theorem one_off {f i : Nat} (h : i ≠ f) (x : List Int) : one f x i = [] := setB_off _ h x
theorem crash_alive (x : List Int) (p : Int) (keep : List Int) : crashS (firmP 5000 (one 0 x) p) keep (-1) = firmP 5000 (one 0 x) (-1) := by
  have h : (crashS (firmP 5000 (one 0 x) p) keep (-1)).B = one 0 x := by
    funext i
    rw [plain_crash]
    show (one 0 x i).take ((one 0 x i).length + _) = _
    rw [List.take_of_length_le (by omega)]
  have e := crashS_firm (firmP 5000 (one 0 x) p) keep (-1)
  rw [e] at h ⊢
  show firmP 5000 _ (-1) = _
  exact congrArg (fun B => firmP 5000 B (-1)) h
theorem crash_dead {d : Nat} {X : List (List Int)} (hd : d < X.length) (hs : Small X) (hX : X.length ≤ 6) (keep : List Int) :
    ∃ y, crashS (deadS (cat 0 (X.take d)) (cat 0 (X.take (d + 1)))) keep (-1) = firmP 5000 (one 0 y) (-1) ∧ scanL y <+: X ∧ d ≤ (scanL y).length ∧ (scanL y).length ≤ d + 1 := by
  have hT := cat_take hd
  have h1 := small_cat (small_take hs d) 0
  have hx := hs X[d] (List.getElem_mem hd)
  have hxf := frB_length (d : Nat) X[d]
  have hl : (X.take d).length = d := by rw [List.length_take]; omega
  rw [hl] at h1
  obtain ⟨n, hn⟩ : ∃ n, n = keptN (deadS (cat 0 (X.take d)) (cat 0 (X.take (d + 1)))) keep 0 := ⟨_, rfl⟩
  have hB : (crashS (deadS (cat 0 (X.take d)) (cat 0 (X.take (d + 1)))) keep (-1)).B = one 0 (cat 0 (X.take d) ++ (frB (d : Nat) X[d]).take n) := by
    funext i
    rw [plain_crash]
    by_cases hi : i = 0
    · subst hi
      rw [← hn, one_at]
      show (one 0 (cat 0 (X.take (d + 1))) 0).take ((one 0 (cat 0 (X.take d)) 0).length + n) = _
      rw [one_at, one_at, hT, List.take_length_add_append]
    · rw [one_off hi]
      show (one 0 (cat 0 (X.take (d + 1))) i).take _ = _
      rw [one_off hi, List.take_nil]
  refine ⟨cat 0 (X.take d) ++ (frB (d : Nat) X[d]).take n, ?_, ?_⟩
  · have e := crashS_firm (deadS (cat 0 (X.take d)) (cat 0 (X.take (d + 1)))) keep (-1)
    rw [e] at hB ⊢
    exact congrArg (fun B => firmP 5000 B (-1)) hB
  · by_cases hw : n < (frB (d : Nat) X[d]).length
    · have hp := scanL_part (l := X.take d) (p := (frB (d : Nat) X[d]).take n) (x := X[d]) (by rw [hl]; exact List.take_prefix _ _) (by rw [hl, List.length_take]; omega) (by omega) (by rw [hl]; omega)
      rw [hp, hl]
      exact ⟨List.take_prefix _ _, by omega, by omega⟩
    · have hw2 := scanL_whole (l := X.take d) (x := X[d]) (by omega) (by rw [hl]; omega)
      rw [hl] at hw2
      have e3 : (frB (d : Nat) X[d]).take n = frB (d : Nat) X[d] := List.take_of_length_le (by omega)
      rw [e3, hw2, ← take_snocL hd]
      exact ⟨List.take_prefix _ _, by rw [List.length_take]; omega, by rw [List.length_take]; omega⟩
/-- What the loop of JournalDurable holds: k records were tried, d are there. -/
def DurT (w : World) (p q : Nat) (X : List (List Int)) (a3 : Option Addr) (c3 : Nat) (k d t : Nat) (W : World) : Prop :=
  (∃ pl : Int, 0 ≤ pl ∧ d = k ∧ t = k ∧ L.Sep w [PDk p (firmP 5000 (one 0 (cat 0 (X.take k))) pl), PLg q p ⟨0, k, true⟩, PBL (.slice a3 X.length c3) X] W) ∨
  (d < k ∧ t = d + 1 ∧ L.Sep w [PDk p (deadS (cat 0 (X.take d)) (cat 0 (X.take (d + 1)))), PLg q p ⟨0, d, false⟩, PBL (.slice a3 X.length c3) X] W)
section
variable {w w' : World}
set_option maxRecDepth 100000 in
set_option maxHeartbeats 8000000 in
theorem JournalDurable_calls {v0 v3 : Value} {l bb : List Int} {when_ keep : Int} (h0 : SL w 1 v0 l.length (ints l)) (hi : ∀ x ∈ l, IsI64 x) (hw : IsI64 when_) (hk : IsI64 keep) (h1 : SL w 1 v3 bb.length (byts bb)) (hb : ∀ x ∈ bb, IsU8 x) :
    Calls Try.prog 8 #[v0, .int .i64 when_, .int .i64 keep, v3] w fun e w' => e = .returned (.bool true) ∧ Upd [] w w' := by
  obtain ⟨a0, c0, rfl, _⟩ := h0.val
  obtain ⟨a1, c1, rfl, _⟩ := h1.val
  have HH := Lib.hid (And.intro h0 (And.intro hi (And.intro h1 hb)))
  have HK := Lib.hid hk
  have m0 := around_lo (n := when_) (k := 13) (by omega)
  have m1 := around_hi (n := when_) (k := 13) (by omega)
  have HAR := Lib.hid (fun w : World => Around_calls when_ 13 w hw (by omega) (by omega))
  clear h0 hi h1 hb hk hw
  generalize around when_ 13 = pl at *
  have HF := Lib.hid (show Calls Try.prog 29 #[.int .i64 5000] w _ from fresh_calls (w := w) (room := 5000) (by omega))
  go_enter Try.func8, Try.ntmps8
  go_upto_region 4 with (go_at_call 29; refine HF.out.mono ?_; rintro e w1 ⟨p, rfl, s1⟩)
  have HO := Lib.hid (Open_calls s1 (f := 0) ⟨by omega, by omega⟩)
  rw [show openS (firmP 5000 (fun _ => []) (-1)) 0 = _ from open_new 5000 0 (by omega)] at HO
  unfold OpT at HO
  simp only [if_pos] at HO
  clear s1 HF
  go_upto_region 7 with (go_at_call 30; refine HO.out.mono ?_; rintro e w2 ⟨q, ax, cx, rfl, s2⟩)
  have HA := Sep.arm (s2.pull 2 rfl).drop (n := pl) ⟨by omega, by omega⟩
  rw [arm_firm 5000 _ m0] at HA
  have HA := Lib.hid HA
  clear s2 HO
  go_upto_region 8 with (first
    | (go_at_call 19; refine (HAR.out _).mono ?_; rintro e _ ⟨rfl, rfl⟩)
    | (go_at_call 37; refine HA.out.mono ?_; rintro e w3 ⟨rfl, s3⟩))
  have HS2 := Lib.hid s3
  clear s3 HA HAR
  have HR := Lib.hid (Recs_calls (HH.out.1.upd HS2.out.u (by simp)) HH.out.2.1)
  go_upto_region 9 with (go_at_call 14; refine HR.out.mono ?_; rintro e w4 ⟨X, a3, c3, rfl, h6, hsm, o3, u3⟩)
  have HS3 := Lib.hid (Sep.list HS2.out u3 o3)
  have HSM := Lib.hid hsm
  clear u3 o3 HS2 HR hsm
  go_upto_block 0 with fail
  go_cut [14, 15] (fun dv tv w' => ∃ (d t : Nat), dv = .int .i64 d ∧ tv = .int .i64 t ∧ d ≤ X.length ∧ t ≤ X.length ∧ DurT w p q X a3 c3 X.length d t w')
  case first =>
    go_wp2_with fail
    go_loopw [14, 15, 16] (fun dv tv i wr => ∃ (k d t : Nat), dv = .int .i64 d ∧ tv = .int .i64 t ∧ i = .int .i64 k ∧ k ≤ X.length ∧ d ≤ k ∧ t ≤ k ∧ DurT w p q X a3 c3 k d t wr) (fun _ _ i _ => X.length - (intOf i).toNat)
    case atStart => exact ⟨0, 0, 0, rfl, rfl, rfl, Nat.zero_le _, Nat.le_refl _, Nat.le_refl _, .inl ⟨pl, m0, rfl, rfl, (HS3.out.pull 2 rfl).pull 2 rfl⟩⟩
    case round =>
      obtain ⟨wo, rfl⟩ : ∃ wo : World, wo = wr := ⟨_, rfl⟩
      obtain ⟨k, d, t, rfl, rfl, rfl, hk, hd, ht, hT⟩ := hrel
      by_cases hlt : k < X.length
      · have hlt' : (k : Int) < X.length := by omega
        have hct := small_cat (small_take HSM.out k) 0
        have hTk := Lib.hid (cat_take hlt)
        have hxm := HSM.out X[k] (List.getElem_mem hlt)
        rw [List.length_take] at hct
        have hfl := frB_length (k : Nat) X[k]
        have hel : ∃ g off ac cc, a3 = some ⟨g, off, none⟩ ∧ wo.cell? ⟨g, off + k, none⟩ = some (.slice ac X[k].length cc) ∧ SL wo 1 (.slice ac X[k].length cc) X[k].length (byts X[k]) ∧ ∀ j, (Value.slice ac X[k].length cc).ownBlock = some j → j < wo.heap.size := by
          rcases hT with ⟨_, _, _, _, hS⟩ | ⟨_, _, hS⟩
          · obtain ⟨_, _, he, _, _, h⟩ := Sep.at_ 2 hS rfl
            cases he
            exact h k _ (List.getElem?_eq_getElem hlt)
          · obtain ⟨_, _, he, _, _, h⟩ := Sep.at_ 2 hS rfl
            cases he
            exact h k _ (List.getElem?_eq_getElem hlt)
        obtain ⟨g, off, ac, cc, rfl, hdc, hsl, hjl⟩ := hel
        have hq1 : (X.length : Int) ≤ c3 := by
          rcases hT with ⟨_, _, _, _, hS⟩ | ⟨_, _, hS⟩
          · obtain ⟨_, _, he, h, _⟩ := Sep.at_ 2 hS rfl
            cases he; omega
          · obtain ⟨_, _, he, h, _⟩ := Sep.at_ 2 hS rfl
            cases he; omega
        generalize X[k] = x at *
        have HV := Lib.hid (And.intro hsl (And.intro hjl hxm.1))
        have hx10 := hxm.2
        clear hsl hjl hxm
        rcases hT with ⟨p0, hp0, rfl, rfl, hS⟩ | ⟨hdk, rfl, hS⟩
        · have hus := one_used 5000 0 (by omega) p0 (cat 0 (X.take t))
          have HA := LApp_calls hS HV.out.1 HV.out.2.1 (show IsI64 0 from ⟨by omega, by omega⟩) (by show t ≤ _; omega) HV.out.2.2 (by omega)
          by_cases hp : 2 ≤ p0
          · rw [show jappS (firmP 5000 (one 0 (cat 0 (X.take t))) p0) ⟨0, t, true⟩ x = _ from japp_left (f := 0) (by omega) hp (by omega) (by omega), one_app, ← hTk.out] at HA
            have HA := Lib.hid HA
            have HP := Lib.hid hp
            clear hS hus hct hp hp0
            go_wp2_with (go_at_call 32; refine HA.out.mono ?_; rintro e w6 ⟨rfl, s6⟩; have HS6 := Lib.hid s6; clear s6)
            go_roundw
            case rel => exact ⟨t + 1, t + 1, t + 1, by go_num, by go_num, by go_num, by omega, by omega, by omega, .inl ⟨p0 - 2, by have := HP.out; omega, rfl, rfl, HS6.out⟩⟩
            case measure => simp [intOf]; omega
          · rw [show jappS (firmP 5000 (one 0 (cat 0 (X.take t))) p0) ⟨0, t, true⟩ x = _ from japp_fails (f := 0) (by omega) (by omega) (by omega) (by omega), one_app, ← hTk.out] at HA
            have HA := Lib.hid HA
            clear hS hus hct hp hp0
            go_wp2_with (go_at_call 32; refine HA.out.mono ?_; rintro e w6 ⟨rfl, s6⟩; have HS6 := Lib.hid s6; clear s6)
            go_roundw
            case rel => exact ⟨t + 1, t, t + 1, by go_num, by go_num, by go_num, by omega, by omega, by omega, .inr ⟨by omega, rfl, HS6.out⟩⟩
            case measure => simp [intOf]; omega
        · have HA := LApp_calls hS HV.out.1 HV.out.2.1 (show IsI64 0 from ⟨by omega, by omega⟩) (by show d ≤ _; omega) HV.out.2.2 (by omega)
          rw [japp_down _ (by omega)] at HA
          have HA := Lib.hid HA
          have hb1 : ((d : Int) == (k : Int)) = false := by simp; omega
          clear hS hct
          go_wp2_with (go_at_call 32; refine HA.out.mono ?_; rintro e w6 ⟨rfl, s6⟩; have HS6 := Lib.hid s6; clear s6)
          go_roundw
          case rel => exact ⟨k + 1, d, d + 1, by go_num, by go_num, by go_num, by omega, by omega, by omega, .inr ⟨by omega, rfl, HS6.out⟩⟩
          case measure => simp [intOf]; omega
      · have hkX : k = X.length := by omega
        subst hkX
        have HE := Lib.hid hT
        clear hT
        go_wp2_with fail
        go_meet
        exact ⟨d, t, rfl, rfl, hd, ht, HE.out⟩
  case rest =>
    obtain ⟨d, t, rfl, rfl, hd, ht, hT⟩ := hcut
    have hK : ∃ (s : DS) (up : Bool), L.Sep w [PDk p s, PLg q p ⟨0, d, up⟩, PBL (.slice a3 X.length c3) X] wc ∧ ((d : Int) == (X.length : Int)) = up ∧ ∃ y, crashS s [keep] (-1) = firmP 5000 (one 0 y) (-1) ∧ scanL y <+: X ∧ d ≤ (scanL y).length ∧ (scanL y).length ≤ t := by
      rcases hT with ⟨p0, _, rfl, rfl, hS⟩ | ⟨hdk, rfl, hS⟩
      · rw [List.take_of_length_le (Nat.le_refl _)] at hS
        have hct := small_cat HSM.out 0
        refine ⟨_, true, hS, by simp, _, crash_alive _ p0 _, ?_⟩
        rw [scanL_cat (by omega)]
        exact ⟨List.prefix_refl _, Nat.le_refl _, Nat.le_refl _⟩
      · obtain ⟨y, h1, h2, h3, h4⟩ := crash_dead hdk HSM.out h6 [keep]
        exact ⟨_, false, hS, by simp; omega, y, h1, h2, h3, h4⟩
    obtain ⟨s, up, hS, hup, y, hc, hpx, hge, hle⟩ := hK
    have HS := Lib.hid hS
    have HC := Lib.hid hc
    have HG := Lib.hid hpx
    have hct := small_cat HSM.out 0
    have HLn := Lib.hid (Len_calls 1 hS rfl)
    have HUp := Lib.hid (Up_calls 1 hS rfl)
    clear hS hc hT HS3 hpx
    have hge' : (d : Int) ≤ (scanL y).length := by omega
    have hle' : ((scanL y).length : Int) ≤ t := by omega
    have hglx := HG.out.length_le
    have HOO := Lib.hid (open_one 5000 0 (by omega) y)
    generalize hG : scanL y = G at *
    clear hG
    cases up
    all_goals
      go_upto_region 21 with (first
        | (go_at_call 33; refine HLn.out.mono ?_; rintro e _ ⟨rfl, rfl⟩)
        | (go_at_call 34; refine HUp.out.mono ?_; rintro e _ ⟨rfl, rfl⟩))
      have s8 := sep_ints HS.out ((Upd.refl [] wc).alloc (.cells #[.int .i64 keep] 3)) (show Blk _ _ (ints [keep]) 3 from Blk.new wc [.int .i64 keep] 3) (by simp)
      have HCR := Sep.crash (n := 0) (s8.pull 1 rfl) (by simpa using HK.out) (show IsI64 (-1) from ⟨by omega, by omega⟩)
      rw [HC.out] at HCR
      have HCR := Lib.hid HCR
      clear s8 HLn HUp hup
      go_upto_region 22 with (go_at_call 36; refine HCR.out.mono ?_; rintro e w9 ⟨rfl, s9⟩)
      have HO := Open_calls (s9.pull 1 rfl).drop (f := 0) ⟨by omega, by omega⟩
      rw [show openS (firmP 5000 (one 0 y) (-1)) 0 = _ from HOO.out] at HO
      unfold OpT at HO
      simp only [if_pos] at HO
      have HO := Lib.hid HO
      clear s9 HCR
      go_upto_region 23 with (go_at_call 30; refine HO.out.mono ?_; rintro e w10 ⟨q2, ag, cg, rfl, s10⟩)
      have HS10 := Lib.hid s10
      have hg10 := Sep.bl 2 s10 rfl
      have hx10 := Sep.bl 4 s10 rfl
      have htk : X.take G.length = G := (List.prefix_iff_eq_take.1 HG.out).symm
      obtain ⟨a12, c12, hs12, hjunk⟩ := (BL.take_ hx10 rfl hglx).choose_spec.1.val
      clear hjunk
      have ht12 := BL.take_ hx10 rfl hglx
      rw [hs12, htk] at ht12
      have hx2c : (G.length : Int) ≤ c3 := by
        obtain ⟨a', c', he, hq, _⟩ := hx10.at_
        cases he
        omega
      have hglx' : (G.length : Int) ≤ X.length := by omega
      have HSM2 := Lib.hid (SameL_calls hg10 ht12)
      rw [decide_eq_true rfl] at HSM2
      have HL2 := Lib.hid (fun (w' : World) (u : Upd [] w10 w') => Len_calls (w := w') 1 (HS10.out.quiet u) rfl)
      clear s10 hg10 hx10 htk ht12 HO
      go_upto_region 25 with (first
        | (go_at_call 17; (with_reducible refine HSM2.out.mono ?_); rintro e w12 ⟨rfl, u12⟩; have HU12 := Lib.hid u12; clear u12)
        | (go_at_call 33; (with_reducible refine (HL2.out _ HU12.out).mono ?_); rintro e _ ⟨rfl, rfl⟩))
      have hol : (bb.take 50).length ≤ 50 := by rw [List.length_take]; omega
      have HO8 := Lib.hid (u8_take HH.out.2.2.2 50)
      have HFW := Lib.hid (Few_calls (HH.out.2.2.1.upd (HS10.out.u.step HU12.out) (by simp)) 50 (by omega))
      generalize bb.take 50 = own at *
      go_upto_region 26 with (go_at_call 10; refine HFW.out.mono ?_; rintro e w13 ⟨a13, c13, rfl, o13, u13⟩)
      have hcm := cat_mono HG.out
      have hcm2 := small_cat HSM.out 0
      have s13 := ((Sep.slice (HS10.out.quiet HU12.out) u13 o13).pull 2 rfl).pull 2 rfl
      have HA := Lib.hid (LApp_one s13 (f := 0) rfl (by omega) o13.sl o13.lt (by omega) HO8.out (by omega) (by omega))
      have ecat : cat 0 (G ++ [own]) = cat 0 G ++ frB (G.length : Nat) own := by rw [cat_snoc, Nat.zero_add]
      rw [← ecat] at HA
      have hfl := frB_length (G.length : Nat) own
      have elen : (cat 0 (G ++ [own])).length = (cat 0 G).length + (frB (G.length : Nat) own).length := by rw [ecat, List.length_append]
      have HON := Lib.hid (open_one 5000 0 (by omega) (cat 0 (G ++ [own])))
      rw [scanL_cat (by omega)] at HON
      clear s13 o13 u13 ecat elen hcm hcm2 hct HFW HU12
      go_upto_region 28 with (go_at_call 32; refine HA.out.mono ?_; rintro e w14 ⟨rfl, s14⟩)
      have HO := Open_calls s14 (f := 0) ⟨by omega, by omega⟩
      rw [show openS (firmP 5000 (one 0 (cat 0 (G ++ [own]))) (-1)) 0 = _ from HON.out] at HO
      unfold OpT at HO
      simp only [if_pos] at HO
      have HO := Lib.hid HO
      clear s14 HA
      go_upto_region 29 with (go_at_call 30; refine HO.out.mono ?_; rintro e w15 ⟨q3, al, cl, rfl, s15⟩)
      obtain ⟨_, _, he, hq15, hr15, hel⟩ := Sep.at_ 2 s15 rfl
      cases he
      obtain ⟨g, off, ac, cc, rfl, hdc, hsl, _⟩ := hel G.length own (by simp)
      have hgo : (G ++ [own]).length = G.length + 1 := by simp
      rw [hgo] at hq15
      clear hgo
      have HSB := Lib.hid (SameBytes_calls hsl (Sep.psl 4 s15 rfl).1)
      rw [decide_eq_true rfl] at HSB
      have HU15 := Lib.hid s15.u
      clear s15 hel hsl HO
      go_wp2_with (first
        | (go_at_call 11; (with_reducible refine HSB.out.mono ?_); rintro e w16 ⟨rfl, u16⟩; have HU16 := Lib.hid u16; clear u16)
        | (go_at_call 18; refine lives_calls.mono ?_; rintro e w17 ⟨rfl, u17⟩))
      go_ret
      exact ⟨rfl, (HU15.out.step HU16.out).step u17⟩
end
end Jour
end Go.Proofs.Ytfkgpecglcjpkaa
