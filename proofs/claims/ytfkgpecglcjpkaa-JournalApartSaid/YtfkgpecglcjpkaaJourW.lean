/- The law JournalApart: its walk. Conditions: none. -/
import Derived.Test.YtfkgpecglcjpkaaJourS
set_option linter.unusedVariables false
set_option linter.unusedSimpArgs false
set_option linter.unusedSectionVars false
open Go.RowKit
namespace Go.Proofs.Ytfkgpecglcjpkaa
open L
namespace Jour
open Wire Hash R01 R02 Disk
attribute [-go_sem] sliced
/-- Both files hold bytes. -/
def duo (x y : List Int) : Nat → List Int := setB (setB (fun _ => []) 3 x) 4 y
theorem duo_3 (x y : List Int) : duo x y 3 = x := by unfold duo; rw [setB_off _ (by omega), setB_at]
theorem duo_4 (x y : List Int) : duo x y 4 = y := setB_at _ _ _
theorem duo_set3 (x y z : List Int) : setB (duo x y) 3 z = duo z y := by
  funext j
  unfold duo setB
  by_cases h : j = 3
  · subst h; simp
  · simp [h]
theorem duo_set4 (x y z : List Int) : setB (duo x y) 4 z = duo x z := setB_two _ _ _ _
theorem duo_nil : one 4 [] = duo [] [] := by
  funext j
  unfold one duo setB
  by_cases h : j = 4
  · simp [h]
  · simp [h]
theorem duo_used (room : Nat) (p : Int) (x y : List Int) : used (firmP room (duo x y) p) = x.length + y.length := used_both room (by omega) (by omega) (by omega) p x y
theorem crash_same (room : Nat) (B : Nat → List Int) (p : Int) (keep : List Int) : crashS (firmP room B p) keep (-1) = firmP room B (-1) := by
  have h : (crashS (firmP room B p) keep (-1)).B = B := by
    funext i
    rw [plain_crash]
    show (B i).take ((B i).length + _) = _
    rw [List.take_of_length_le (by omega)]
  have e := crashS_firm (firmP room B p) keep (-1)
  rw [e] at h ⊢
  exact congrArg (fun B => firmP room B (-1)) h
theorem append_loose {own : List Int} (h : own.length ≤ 3) : appendS (firmP 5000 (fun _ => []) (-1)) 4 own = (0, ⟨5000, one 4 own, fun _ => 0, false, -1⟩) := by
  have e := append_firm (room := 5000) (B := fun _ => []) (f := 4) (by omega) own
  have h0 : used (firmP 5000 (fun _ => []) (-1)) = 0 := tot_zero (fun _ _ => rfl)
  rw [if_neg (by omega)] at e
  exact e
theorem open_loose (own : List Int) : openS ⟨5000, one 4 own, fun _ => 0, false, -1⟩ 3 = ([], 0, firmP 5000 (one 4 own) (-1)) := by
  have e0 : one 4 own 3 = [] := setB_off _ (by omega) _
  have es : scanL [] = [] := scanL_few (by simp)
  have ec : cutS ⟨5000, one 4 own, fun _ => 0, false, -1⟩ 3 = (0, ⟨5000, one 4 own, fun _ => 0, false, -1⟩) := by
    unfold cutS
    rw [if_neg]
    show ¬ (cat 0 (scanL (one 4 own 3))).length < (one 4 own 3).length
    rw [e0]
    simp
  have ey := sync_any (s := ⟨5000, one 4 own, fun _ => 0, false, -1⟩) rfl rfl
  unfold openS
  rw [if_neg (by decide), if_neg (by simp), ec, if_neg (by simp), ey, if_neg (by simp)]
  show (scanL (one 4 own 3), _) = _
  rw [e0, es]
theorem open_3 (x y : List Int) : openS (firmP 5000 (duo x y) (-1)) 3 = (scanL x, 0, firmP 5000 (duo (cat 0 (scanL x)) y) (-1)) := by
  have e := open_firm (room := 5000) (B := duo x y) (f := 3) (by omega)
  rw [duo_3, duo_set3] at e
  exact e
theorem open_4 (x y : List Int) : openS (firmP 5000 (duo x y) (-1)) 4 = (scanL y, 0, firmP 5000 (duo x (cat 0 (scanL y))) (-1)) := by
  have e := open_firm (room := 5000) (B := duo x y) (f := 4) (by omega)
  rw [duo_4, duo_set4] at e
  exact e
/-- Both logs behind k rounds. -/
def ApT (w : World) (p qa qb : Nat) (X Y : List (List Int)) (vx vy : Value) (k : Nat) (W : World) : Prop :=
  L.Sep w [PDk p (firmP 5000 (duo (cat 0 (X.take k)) (cat 0 (Y.take k))) (-1)), PLg qa p ⟨3, (X.take k).length, true⟩, PLg qb p ⟨4, (Y.take k).length, true⟩, PBL vy Y, PBL vx X] W
theorem Sep.el {w0 w : World} {ps : List Pr} {l : List (List Int)} (n : Nat) (h : L.Sep w0 ps w) {g off cap k : Nat} {c : List Int} (hn : ps[n]? = some (PBL (.slice (some ⟨g, off, none⟩) l.length cap) l)) (hc : l[k]? = some c) : ∃ ac cc, w.cell? ⟨g, off + k, none⟩ = some (.slice ac c.length cc) ∧ SL w 1 (.slice ac c.length cc) c.length (byts c) ∧ ∀ j, (Value.slice ac c.length cc).ownBlock = some j → j < w.heap.size := by
  obtain ⟨a, cap', he, _, _, hel⟩ := Sep.at_ n h hn
  cases he
  obtain ⟨g', off', ac, cc, e, e2, e3, e4⟩ := hel k c hc
  cases e
  exact ⟨ac, cc, e2, e3, e4⟩
/-- A list with an element lies somewhere. -/
theorem Sep.some_ {w0 w : World} {ps : List Pr} {l : List (List Int)} (n : Nat) (h : L.Sep w0 ps w) {a : Option Addr} {cap k : Nat} (hn : ps[n]? = some (PBL (.slice a l.length cap) l)) (hk : k < l.length) : ∃ g off, a = some ⟨g, off, none⟩ ∧ l.length ≤ cap := by
  obtain ⟨a', cap', he, h1, _, hel⟩ := Sep.at_ n h hn
  cases he
  obtain ⟨g', off', ac, cc, e, _⟩ := hel k _ (List.getElem?_eq_getElem hk)
  exact ⟨g', off', e, h1⟩
/-- One round of the first log: Append, where there is a record left. -/
theorem ap_a {w0 w : World} {ps : List Pr} {p qa : Nat} {X : List (List Int)} {y : List Int} {k : Nat} {x : List Int} {v : Value} (h : L.Sep w0 (PDk p (firmP 5000 (duo (cat 0 (X.take k)) y) (-1)) :: PLg qa p ⟨3, (X.take k).length, true⟩ :: ps) w) (hk : X[k]? = some x) (hX : X.length ≤ 6) (hs : Small X) (hy : y.length ≤ 300)
    (hv : SL w 1 v x.length (byts x)) (hlt : ∀ g, v.ownBlock = some g → g < w.heap.size) :
    Calls Try.prog 32 #[.pointer (some ⟨qa, 0, none⟩), v] w fun e w' => e = .returned (.int .i64 0) ∧ L.Sep w0 (PDk p (firmP 5000 (duo (cat 0 (X.take (k + 1))) y) (-1)) :: PLg qa p ⟨3, (X.take (k + 1)).length, true⟩ :: ps) w' := by
  obtain ⟨hkl, rfl⟩ := List.getElem?_eq_some_iff.1 hk
  have hm := hs X[k] (List.getElem_mem hkl)
  have hc := small_cat (small_take hs k) 0
  have hl : (X.take k).length = k := by rw [List.length_take]; omega
  have hl1 : (X.take (k + 1)).length = k + 1 := by rw [List.length_take]; omega
  rw [hl] at h hc
  have h1 := LApp_fits h (f := 3) rfl (by omega) hv hlt (by omega) hm.1 (by omega) (by rw [duo_used]; omega)
  rw [duo_3, duo_set3, ← cat_take hkl] at h1
  rw [hl1]
  exact h1
theorem ap_b {w0 w : World} {ps : List Pr} {p qb : Nat} {Y : List (List Int)} {x : List Int} {k : Nat} {y : List Int} {v : Value} (h : L.Sep w0 (PDk p (firmP 5000 (duo x (cat 0 (Y.take k))) (-1)) :: PLg qb p ⟨4, (Y.take k).length, true⟩ :: ps) w) (hk : Y[k]? = some y) (hX : Y.length ≤ 6) (hs : Small Y) (hy : x.length ≤ 300)
    (hv : SL w 1 v y.length (byts y)) (hlt : ∀ g, v.ownBlock = some g → g < w.heap.size) :
    Calls Try.prog 32 #[.pointer (some ⟨qb, 0, none⟩), v] w fun e w' => e = .returned (.int .i64 0) ∧ L.Sep w0 (PDk p (firmP 5000 (duo x (cat 0 (Y.take (k + 1)))) (-1)) :: PLg qb p ⟨4, (Y.take (k + 1)).length, true⟩ :: ps) w' := by
  obtain ⟨hkl, rfl⟩ := List.getElem?_eq_some_iff.1 hk
  have hm := hs Y[k] (List.getElem_mem hkl)
  have hc := small_cat (small_take hs k) 0
  have hl : (Y.take k).length = k := by rw [List.length_take]; omega
  have hl1 : (Y.take (k + 1)).length = k + 1 := by rw [List.length_take]; omega
  rw [hl] at h hc
  have h1 := LApp_fits h (f := 4) rfl (by omega) hv hlt (by omega) hm.1 (by omega) (by rw [duo_used]; omega)
  rw [duo_4, duo_set4, ← cat_take hkl] at h1
  rw [hl1]
  exact h1
theorem take_past {X : List (List Int)} {k : Nat} (h : X.length ≤ k) : X.take (k + 1) = X.take k := by rw [List.take_of_length_le (by omega), List.take_of_length_le h]
theorem cat_300 {X : List (List Int)} (hs : Small X) (hX : X.length ≤ 6) (k : Nat) : (cat 0 (X.take k)).length ≤ 300 := by
  have h := small_cat (small_take hs k) 0
  rw [List.length_take] at h
  omega
section
variable {w w' : World}
set_option maxRecDepth 100000 in
set_option maxHeartbeats 8000000 in
theorem JournalApart_calls {v0 v1 v2 : Value} {l m bb : List Int} (h0 : SL w 1 v0 l.length (ints l)) (hi : ∀ x ∈ l, IsI64 x) (h1 : SL w 1 v1 m.length (ints m)) (hj : ∀ x ∈ m, IsI64 x) (h2 : SL w 1 v2 bb.length (byts bb)) (hb : ∀ x ∈ bb, IsU8 x) :
    Calls Try.prog 7 #[v0, v1, v2] w fun e w' => e = .returned (.bool true) ∧ Upd [] w w' := by
  obtain ⟨a0, c0, rfl, _⟩ := h0.val
  obtain ⟨a1, c1, rfl, _⟩ := h1.val
  obtain ⟨a2, c2, rfl, _⟩ := h2.val
  have HH := Lib.hid (And.intro h0 (And.intro hi (And.intro h1 (And.intro hj (And.intro h2 hb)))))
  clear h0 hi h1 hj h2 hb
  have HF := Lib.hid (show Calls Try.prog 29 #[.int .i64 5000] w _ from fresh_calls (w := w) (room := 5000) (by omega))
  have hol : (bb.take 3).length ≤ 3 := by rw [List.length_take]; omega
  have HO8 := Lib.hid (u8_take HH.out.2.2.2.2.2 3)
  go_enter Try.func7, Try.ntmps7
  go_upto_region 4 with (go_at_call 29; refine HF.out.mono ?_; rintro e w1 ⟨p, rfl, s1⟩)
  have HFW := Lib.hid (Few_calls (HH.out.2.2.2.2.1.upd s1.u (by simp)) 3 (by omega))
  have HS1 := Lib.hid s1
  have HAL := Lib.hid (append_loose hol)
  have HOL := Lib.hid (open_loose (bb.take 3))
  have HSF := Lib.hid (scanL_few (b := bb.take 3) (by omega))
  generalize bb.take 3 = own at *
  clear s1 HF
  go_upto_region 5 with (first
    | (go_at_call 10; refine HFW.out.mono ?_; rintro e w2 ⟨a3, c3, rfl, o3, u3⟩; have HA := Sep.append ((Sep.slice HS1.out u3 o3).pull 1 rfl) (f := 4) ⟨by omega, by omega⟩ HO8.out (by omega); rw [HAL.out] at HA; have HA := Lib.hid HA; clear o3 u3)
    | (go_at_call 35; refine HA.out.mono ?_; rintro e w3 ⟨rfl, s3⟩))
  have HO := Open_calls (s3.pull 1 rfl).drop (f := 3) ⟨by omega, by omega⟩
  rw [HOL.out] at HO
  unfold OpT at HO
  simp only [if_pos] at HO
  have HO := Lib.hid HO
  clear s3 HA HS1 HFW HAL HOL
  go_upto_region 6 with (go_at_call 30; refine HO.out.mono ?_; rintro e w4 ⟨qa, ax, cx, rfl, s4⟩)
  have HO2 := Open_calls s4 (f := 4) ⟨by omega, by omega⟩
  rw [show openS (firmP 5000 (one 4 own) (-1)) 4 = _ from open_one 5000 4 (by omega) own, HSF.out] at HO2
  unfold OpT at HO2
  simp only [if_pos] at HO2
  have HO2 := Lib.hid HO2
  clear s4 HO
  go_upto_region 9 with (go_at_call 30; refine HO2.out.mono ?_; rintro e w5 ⟨qb, ay, cy, rfl, s5⟩)
  have HS5 := Lib.hid (show L.Sep w [PDk p (firmP 5000 (duo [] []) (-1)), PLg qa p ⟨3, 0, true⟩, PLg qb p ⟨4, 0, true⟩] w5 from by
    have h := (((((s5.pull 4 rfl).drop.pull 2 rfl).drop.pull 1 rfl).pull 2 rfl).pull 2 rfl)
    rw [show one 4 (cat 0 []) = duo [] [] from duo_nil] at h
    exact h)
  clear s5 HO2 HSF
  have HR := Lib.hid (Recs_calls (HH.out.1.upd HS5.out.u (by simp)) HH.out.2.1)
  go_upto_region 10 with (go_at_call 14; refine HR.out.mono ?_; rintro e w6 ⟨X, a3, c3, rfl, hX6, hXm, o6, u6⟩)
  have HS6 := Lib.hid (Sep.list HS5.out u6 o6)
  have HXM := Lib.hid hXm
  clear u6 o6 HS5 HR hXm
  have HR := Lib.hid (Recs_calls (HH.out.2.2.1.upd HS6.out.u (by simp)) HH.out.2.2.2.1)
  go_upto_region 11 with (go_at_call 14; refine HR.out.mono ?_; rintro e w7 ⟨Y, a4, c4, rfl, hY6, hYm, o7, u7⟩)
  have HS7 := Lib.hid (Sep.list HS6.out u7 o7)
  have HYM := Lib.hid hYm
  clear u7 o7 HS6 HR hYm
  have hT : ApT w p qa qb X Y (.slice a3 X.length c3) (.slice a4 Y.length c4) 0 w7 := by
    exact ((HS7.out.pull 4 rfl).pull 4 rfl).pull 4 rfl
  have HT := Lib.hid hT
  clear hT HS7
  go_upto_block 0 with fail
  go_cut [] (fun w' => ApT w p qa qb X Y (.slice a3 X.length c3) (.slice a4 Y.length c4) 6 w')
  case first =>
    go_wp2_with fail
    go_loopw [16] (fun i wr => ∃ k : Nat, i = .int .i64 k ∧ k ≤ 6 ∧ ApT w p qa qb X Y (.slice a3 X.length c3) (.slice a4 Y.length c4) k wr) (fun i _ => 6 - (intOf i).toNat)
    case atStart => exact ⟨0, rfl, Nat.zero_le _, HT.out⟩
    case round =>
      obtain ⟨wo, rfl⟩ : ∃ wo : World, wo = wr := ⟨_, rfl⟩
      obtain ⟨k, rfl, hk, hT⟩ := hrel
      by_cases hlt : k < 6
      · have hlt' : (k : Int) < 6 := by omega
        unfold ApT at hT
        have hx3 := cat_300 HXM.out hX6 k
        have hy3 := cat_300 HYM.out hY6 k
        have hx4 := cat_300 HXM.out hX6 (k + 1)
        by_cases hkx : k < X.length
        · by_cases hky : k < Y.length
          · skip
            obtain ⟨g, off, rfl, hq1⟩ := Sep.some_ 4 hT rfl hkx
            have ex : X[k]? = some X[k] := List.getElem?_eq_getElem hkx
            have hkx' : (k : Int) < X.length := by omega
            have hq1' : (X.length : Int) ≤ c3 := by omega
            generalize X[k] = x at *
            obtain ⟨ac, cc, hd, hsl, hjl⟩ := Sep.el 4 hT rfl ex
            have HA := Lib.hid (ap_a hT ex hX6 HXM.out hy3 hsl hjl)

            obtain ⟨g2, off2, rfl, hq2⟩ := Sep.some_ 3 hT rfl hky
            have ey : Y[k]? = some Y[k] := List.getElem?_eq_getElem hky
            have hky' : (k : Int) < Y.length := by omega
            have hq2' : (Y.length : Int) ≤ c4 := by omega
            generalize Y[k] = y at *
            have HEY := Lib.hid ey
            clear hT hsl hjl ex ey hkx hky hq1 hq2
            go_wp2_with (first
              | (go_at_call 32; (with_reducible refine HA.out.mono ?_); rintro e wA ⟨rfl, sA⟩; obtain ⟨ac2, cc2, hd2, hsl2, hjl2⟩ := Sep.el 3 sA rfl HEY.out; have HB := Lib.hid (ap_b ((sA.pull 2 rfl).pull 1 rfl) HEY.out hY6 HYM.out hx4 hsl2 hjl2); clear hsl2 hjl2 sA)
              | (go_at_call 32; (with_reducible refine HB.out.mono ?_); rintro e wB ⟨rfl, sB⟩; have HSB := Lib.hid ((sB.pull 2 rfl).pull 1 rfl); clear sB))

            go_roundw
            case rel => exact ⟨k + 1, by go_num, by omega, HSB.out⟩
            case measure => simp [intOf]; omega
          · skip
            obtain ⟨g, off, rfl, hq1⟩ := Sep.some_ 4 hT rfl hkx
            have ex : X[k]? = some X[k] := List.getElem?_eq_getElem hkx
            have hkx' : (k : Int) < X.length := by omega
            have hq1' : (X.length : Int) ≤ c3 := by omega
            generalize X[k] = x at *
            obtain ⟨ac, cc, hd, hsl, hjl⟩ := Sep.el 4 hT rfl ex
            have HA := Lib.hid (ap_a hT ex hX6 HXM.out hy3 hsl hjl)
            have hky' : ¬ (k : Int) < Y.length := by omega
            have HTP := Lib.hid (take_past (X := Y) (k := k) (by omega))
            clear hT hsl hjl ex hkx hky hq1
            go_wp2_with (go_at_call 32; (with_reducible refine HA.out.mono ?_); rintro e wA ⟨rfl, sA⟩; rw [← HTP.out] at sA; have HSB := Lib.hid sA; clear sA)

            go_roundw
            case rel => exact ⟨k + 1, by go_num, by omega, HSB.out⟩
            case measure => simp [intOf]; omega
        · have hkx' : ¬ (k : Int) < X.length := by omega
          have HTP := Lib.hid (take_past (X := X) (k := k) (by omega))
          by_cases hky : k < Y.length
          · skip
            obtain ⟨g2, off2, rfl, hq2⟩ := Sep.some_ 3 hT rfl hky
            have ey : Y[k]? = some Y[k] := List.getElem?_eq_getElem hky
            have hky' : (k : Int) < Y.length := by omega
            have hq2' : (Y.length : Int) ≤ c4 := by omega
            generalize Y[k] = y at *
            have HEY := Lib.hid ey
            obtain ⟨ac2, cc2, hd2, hsl2, hjl2⟩ := Sep.el 3 hT rfl ey
            have HB := Lib.hid (ap_b ((hT.pull 2 rfl).pull 1 rfl) ey hY6 HYM.out hx3 hsl2 hjl2)
            clear hT hsl2 hjl2 ey hkx hky hq2
            go_wp2_with (go_at_call 32; (with_reducible refine HB.out.mono ?_); rintro e wB ⟨rfl, sB⟩; rw [← HTP.out] at sB; have HSB := Lib.hid ((sB.pull 2 rfl).pull 1 rfl); clear sB)

            go_roundw
            case rel => exact ⟨k + 1, by go_num, by omega, HSB.out⟩
            case measure => simp [intOf]; omega
          · skip
            have hky' : ¬ (k : Int) < Y.length := by omega
            rw [← HTP.out, ← take_past (X := Y) (k := k) (by omega)] at hT
            have HSB := Lib.hid hT
            clear hT hkx hky
            go_wp2_with fail

            go_roundw
            case rel => exact ⟨k + 1, by go_num, by omega, HSB.out⟩
            case measure => simp [intOf]; omega
      · have hkX : k = 6 := by omega
        subst hkX
        have HE := Lib.hid hT
        clear hT
        go_wp2_with fail
        go_meet
        exact HE.out
  case rest =>
    unfold ApT at hcut
    rw [List.take_of_length_le (by omega), List.take_of_length_le (by omega)] at hcut
    have hcx := small_cat HXM.out 0
    have hcy := small_cat HYM.out 0
    have HEX := Lib.hid (scanL_cat (l := X) (by omega))
    have HEY := Lib.hid (scanL_cat (l := Y) (by omega))
    have s8 := (hcut.pull 1 rfl).drop.pull 1 rfl
    have s9 := s8.drop.new (p := PSL 1 (.slice none 0 0) ([] : List Int).length (ints [])) (S := []) (Upd.refl [] _) ⟨SL.of_owns (World.ownsRow_nil _ 0 3 1), by simp [Value.ownBlock], by simp⟩ (by simp)
    have HC := Sep.crash (n := 0) (s9.pull 1 rfl) (fp := -1) (by simp) ⟨by omega, by omega⟩
    rw [crash_same] at HC
    have HC := Lib.hid HC
    clear hcut s8 s9 HT
    go_upto_region 17 with (go_at_call 36; refine HC.out.mono ?_; rintro e w8 ⟨rfl, s8⟩)
    have HS8 := Lib.hid (s8.pull 1 rfl).drop
    clear s8 HC
    have HO3 := Lib.hid (open_3 (cat 0 X) (cat 0 Y))
    have HO4 := Lib.hid (open_4 (cat 0 X) (cat 0 Y))
    rw [HEX.out] at HO3
    rw [HEY.out] at HO4
    go_wp2_with fail
    go_loopw [17] (fun i wr => ∃ k : Nat, i = .int .i64 k ∧ k ≤ 2 ∧ L.Sep w [PDk p (firmP 5000 (duo (cat 0 X) (cat 0 Y)) (-1)), PBL (.slice a4 Y.length c4) Y, PBL (.slice a3 X.length c3) X] wr) (fun i _ => 2 - (intOf i).toNat)
    case atStart => exact ⟨0, rfl, Nat.zero_le _, HS8.out⟩
    case round =>
      obtain ⟨wo, rfl⟩ : ∃ wo : World, wo = wr := ⟨_, rfl⟩
      obtain ⟨k, rfl, hk, hS⟩ := hrel
      by_cases hlt : k < 2
      · have hlt' : (k : Int) < 2 := by omega
        have HA := Open_calls hS (f := 3) ⟨by omega, by omega⟩
        rw [HO3.out] at HA
        unfold OpT at HA
        simp only [if_pos] at HA
        have HA := Lib.hid HA
        clear hS
        go_upto_region 21 with (go_at_call 30; refine HA.out.mono ?_; rintro e wA ⟨q3, ap, cp, rfl, sA⟩)
        have HB := Open_calls sA (f := 4) ⟨by omega, by omega⟩
        rw [HO4.out] at HB
        unfold OpT at HB
        simp only [if_pos] at HB
        have HB := Lib.hid HB
        clear sA HA
        go_upto_region 22 with (go_at_call 30; refine HB.out.mono ?_; rintro e wB ⟨q4, aq, cq, rfl, sB⟩)
        have h1 := SameL_calls (Sep.bl 4 sB rfl) (Sep.bl 6 sB rfl)
        rw [decide_eq_true rfl] at h1
        have H1 := Lib.hid h1
        have H2 := Lib.hid (fun (w' : World) (u : Upd [] wB w') => (show Calls Try.prog 17 #[.slice aq Y.length cq, .slice a4 Y.length c4] w' (fun e w2 => e = .returned (.bool true) ∧ Upd [] w' w2) from by
          have h := SameL_calls (Sep.bl 2 (sB.quiet u) rfl) (Sep.bl 5 (sB.quiet u) rfl)
          rw [decide_eq_true rfl] at h
          exact h))
        have HSB := Lib.hid ((((sB.pull 4 rfl).drop.pull 3 rfl).drop.pull 2 rfl).drop.pull 1 rfl).drop
        clear sB h1 HB
        go_wp2_with (first
          | (go_at_call 17; (with_reducible refine H1.out.mono ?_); rintro e wC ⟨rfl, uC⟩; have HUC := Lib.hid uC; clear uC)
          | (go_at_call 17; (with_reducible refine (H2.out _ HUC.out).mono ?_); rintro e wD ⟨rfl, uD⟩; have HUD := Lib.hid uD; clear uD))
        go_roundw
        case rel => exact ⟨k + 1, by go_num, by omega, HSB.out.quiet (HUC.out.step HUD.out)⟩
        case measure => simp [intOf]; omega
      · have HU := Lib.hid hS.u
        clear hS
        go_wp2_with (go_at_call 18; refine lives_calls.mono ?_; rintro e w9 ⟨rfl, u9⟩)
        go_ret
        exact ⟨rfl, HU.out.step u9⟩
end
end Jour
end Go.Proofs.Ytfkgpecglcjpkaa
