/- Walks through package learn: Analyze. Conditions: none. -/
import Derived.Test.YtdhhohnaehdpkaaLearnF
import Derived.Test.YtdhhohnaehdpkaaLearnR
import Derived.Test.YtdhhohnaehdpkaaLearnV
set_option linter.unusedVariables false
set_option linter.unusedSimpArgs false
set_option linter.unusedSectionVars false
open Go.RowKit
namespace Go.Proofs.Ytdhhohnaehdpkaa
open L
namespace Learn
open Trail Cla R01 R14
section
variable {w W W' : World} {ab b mb vars gL gP : Nat} {es : Es} {now : Int} {S : List Nat} {vl vlits vpl vh : Value} {g : Int} {C : Int → Bool} {tp bt : Int} {c hs : List Int}
theorem An.step {T : List Nat} (h : An W ab b mb vars es now S vl vlits vpl vh g C tp bt) (u : Upd T W W') (hT : ∀ k ∈ T, k ≠ ab ∧ k ≠ mb ∧ k ∉ S) : An W' ab b mb vars es now S vl vlits vpl vh g C tp bt :=
  ⟨h.box.upd u (fun hm => (hT _ hm).1 rfl), h.tr.upd u (fun k hk hm => (hT k hm).2.2 hk), h.mp.upd u (fun hm => (hT _ hm).2.1 rfl), h.ap⟩
theorem top_nn (es : Es) (c : List Int) : 0 ≤ top es c := by
  unfold top
  suffices ∀ m, 0 ≤ m → 0 ≤ c.foldl (fun m x => max m (lvl es x)) m from this 0 (by omega)
  induction c with
  | nil => exact fun m h => h
  | cons x c ih => exact fun m h => ih (max m (lvl es x)) (by omega)
theorem top_le (es : Es) (c : List Int) : top es c ≤ es.length := by
  unfold top
  suffices ∀ m : Int, m ≤ es.length → c.foldl (fun m x => max m (lvl es x)) m ≤ es.length from this 0 (by omega)
  induction c with
  | nil => exact fun m h => h
  | cons x c ih => exact fun m h => ih (max m (lvl es x)) (by have := lvl_le es x; omega)
theorem many_nil (g : Int) : many es g [] = 0 := rfl
end
section
variable {w : World} {b vars : Nat} {es : Es} {now : Int} {S : List Nat}
set_option maxRecDepth 100000 in
set_option maxHeartbeats 16000000 in
theorem Analyze_calls {aL : Option Addr} {cL : Nat} {L : List (List Int)} (h : Tr w b vars es now S) (hL : CL w (.slice aL L.length cL) L) (hv : vars ≤ 65536) {cn : Int} (hcn : IsI64 cn) :
    Calls Try.prog 13 #[.slice aL L.length cL, .pointer (some ⟨b, 0, none⟩), .int .i64 cn] w fun e w' => ∃ v1 v3, e = .returned (.tuple #[v1, .int .i64 (anL L vars es cn).2.2.1, v3, .int .i64 (anL L vars es cn).1]) ∧ Own w v1 (anL L vars es cn).2.1 w' ∧ Own w v3 (anL L vars es cn).2.2.2 w' ∧ ∀ q, v1.ownBlock = some q → v3.ownBlock ≠ some q := by
  have nil : ∀ w' : World, Upd [] w w' → Own w (.slice none 0 0) [] w' := fun _ u => (Own.nil w).quiet u
  have HN := Lib.hid nil
  have HT := Lib.hid h
  have hsl := hL.form
  obtain ⟨_, _, he, hcl1, hcl2, hat⟩ := hsl
  cases he
  have hat : ∀ k, k < L.length → CellAt w aL k (L.getD k []) := hat
  have HAT := Lib.hid hat
  have HCL := Lib.hid hL
  clear h hL hat nil
  by_cases h1 : cn < 0
  · have HR := Lib.hid (show anL L vars es cn = (1, [], 0, []) by unfold anL; rw [if_pos (.inl h1)])
    rw [HR.out]
    go_enter Try.func13, Try.ntmps13
    go_wp2_with fail
    refine bodyPost_ret (results_tmp4 rfl _ _ _) rfl ?_
    exact ⟨_, _, rfl, HN.out _ (Upd.refl _ _), HN.out _ (Upd.refl _ _), by simp [Value.ownBlock]⟩
  · by_cases h2 : cn ≥ (L.length : Int)
    · have HR := Lib.hid (show anL L vars es cn = (1, [], 0, []) by unfold anL; rw [if_pos (.inr h2)])
      rw [HR.out]
      go_enter Try.func13, Try.ntmps13
      go_wp2_with fail
      refine bodyPost_ret (results_tmp4 rfl _ _ _) rfl ?_
      exact ⟨_, _, rfl, HN.out _ (Upd.refl _ _), HN.out _ (Upd.refl _ _), by simp [Value.ownBlock]⟩
    · obtain ⟨k, rfl⟩ := Int.eq_ofNat_of_zero_le (show 0 ≤ cn by omega)
      have hk : k < L.length := by omega
      obtain ⟨gl, off, ay, capy, rfl, hcell, hsl, hq, hr2⟩ := HAT.out k hk
      have HA0 := Lib.hid (anL_in (L := L) (vars := vars) (es := es) hk)
      have HVL := Lib.hid (Valid_calls hsl)
      generalize L.getD k [] = c at *
      by_cases hva : validErr c = 0
      · have HLT := Lib.hid (listErr_lit (validErr_ok.1 hva).1).2
        have hcl := (listErr_lit (validErr_ok.1 hva).1).1
        have HVA := Lib.hid hva
        have HA1 := Lib.hid (show anL L vars es k = if ∃ x ∈ c, tval vars es x ≠ -1 then (13, [], 0, []) else
          if (go L vars es (top es c) es.length c [(k : Int)]).1 ≠ 0 then (14, [], 0, []) else
          (0, (go L vars es (top es c) es.length c [(k : Int)]).2.1, second es (top es c) (go L vars es (top es c) es.length c [(k : Int)]).2.1, (go L vars es (top es c) es.length c [(k : Int)]).2.2) by
          rw [HA0.out, if_neg (by rw [hva]; simp)])
        obtain ⟨_, _, he, _, _, hcc⟩ := SL.form hsl
        cases he
        have HCC := Lib.hid hcc
        have HCE := Lib.hid hcell
        rw [hva] at HVL
        clear hva HA0 hcc hsl
        go_enter Try.func13, Try.ntmps13
        go_upto_region 6 with (go_at_call 35; (with_reducible refine HVL.out.mono ?_); rintro e w3 ⟨rfl, u3⟩)
        have hcell3 := u3.some hcell (by simp)
        have HU3 := Lib.hid u3
        clear u3 hcell
        go_wp2_with fail
        go_loopw [42] (fun i wr => ∃ k : Nat, i = .int .i64 k ∧ k ≤ c.length ∧ (∀ y ∈ c.take k, tval vars es y = -1) ∧ Upd [] w3 wr) (fun i _ => c.length - (numOf i).toNat)
        case atStart => exact ⟨0, rfl, Nat.zero_le _, by simp, Upd.refl _ _⟩
        case round =>
          obtain ⟨wo, rfl⟩ : ∃ wo : World, wo = wr := ⟨_, rfl⟩
          obtain ⟨j, rfl, hj, hy, hU⟩ := hrel
          have HU := Lib.hid (And.intro hy (HU3.out.step hU))
          have HU2 := Lib.hid hU
          clear hy hU hcell3
          by_cases hlt : j < c.length
          · have hji : (j : Int) < c.length := by omega
            obtain ⟨gy, oy, rfl, kc⟩ := HCC.out (by omega)
            have e1 := HU.out.2.some (kc j _ (ints_get (List.getElem?_eq_getElem hlt))) (by simp)
            have hyl := HLT.out _ (List.getElem_mem hlt)
            have HTK := Lib.hid (show c.take (j + 1) = c.take j ++ [c[j]] by rw [List.take_add_one, List.getElem?_eq_getElem hlt]; rfl)
            have HMM := Lib.hid (List.getElem_mem hlt)
            clear kc
            generalize c[j] = y at *
            have HV := Lib.hid (Trail.Value_calls (HT.out.upd HU.out.2 (by simp)) y)
            by_cases ht : tval vars es y = -1
            · have e2 : (tval vars es y != -1) = false := by rw [ht]; rfl
              have HY := Lib.hid (show ∀ z ∈ c.take (j + 1), tval vars es z = -1 by
                rw [HTK.out]
                intro z hz
                rcases List.mem_append.1 hz with hz | hz
                · exact HU.out.1 z hz
                · rw [List.mem_singleton] at hz; subst hz; exact ht)
              clear HTK
              generalize tval vars es y = tv at *
              clear ht
              go_wp2_with (go_at_call 29; (with_reducible refine HV.out.mono ?_); rintro e w5 ⟨rfl, u5⟩)
              exact ⟨⟨j + 1, by go_num, by omega, HY.out, HU2.out.step u5⟩, by simp [numOf]; omega⟩
            · have e2 : (tval vars es y != -1) = true := by simpa using ht
              have HR := Lib.hid (show anL L vars es k = (13, [], 0, []) by rw [HA1.out, if_pos ⟨y, HMM.out, ht⟩])
              clear HTK HA1
              generalize tval vars es y = tv at *
              clear ht
              go_wp2_with (go_at_call 29; (with_reducible refine HV.out.mono ?_); rintro e w5 ⟨rfl, u5⟩)
              refine bodyPost_ret (results_tmp4 rfl _ _ _) rfl ?_
              rw [HR.out]
              exact ⟨_, _, rfl, HN.out _ (HU.out.2.step u5), HN.out _ (HU.out.2.step u5), by simp [Value.ownBlock]⟩
          · have hji : ¬ (j : Int) < c.length := by omega
            have hgood : Good vars es c := ⟨HVA.out, fun x hx => HU.out.1 x (by rw [List.take_of_length_le (by omega)]; exact hx)⟩
            have HG := Lib.hid hgood
            have hA2 : anL L vars es k = if (go L vars es (top es c) es.length c [(k : Int)]).1 ≠ 0 then (14, [], 0, []) else
              (0, (go L vars es (top es c) es.length c [(k : Int)]).2.1, second es (top es c) (go L vars es (top es c) es.length c [(k : Int)]).2.1, (go L vars es (top es c) es.length c [(k : Int)]).2.2) := by
              rw [HA1.out, if_neg]
              rintro ⟨x, hx, hn⟩
              exact hn (hgood.no x hx)
            have HA2 := Lib.hid hA2
            have HNA := Lib.hid (newA_calls (HT.out.upd HU.out.2 (by simp)) hv (al := some ⟨gl, off, none⟩) (nl := L.length) (cl := cL))
            clear hgood hA2 hlt HA1
            go_upto_region 13 with (go_at_call 36; (with_reducible refine HNA.out.mono ?_); rintro e w5 ⟨ab, gL, gP, mb, rfl, hA, hbL, hbP, u5, q1, q2, q3, q4⟩)
            have hU5 := HU.out.2.step u5
            have q1 : w.heap.size ≤ gL := by have := HU.out.2.size; omega
            have HSL := Lib.hid (show ∀ q ∈ S, q < w.heap.size from HT.out.lt)
            have H5 := Lib.hid (And.intro hA (And.intro hbL (And.intro hbP hU5)))
            have hcell5 := hU5.some HCE.out (by simp)
            clear hA hbL hbP u5 hU5 HNA HU
            go_wp2_with fail
            go_loopw [59] (fun i wr => ∃ k : Nat, i = .int .i64 k ∧ k ≤ c.length ∧ An wr ab b mb vars es now S (.slice (some ⟨gl, off, none⟩) L.length cL) (.slice (some ⟨gL, 0, none⟩) es.length es.length) (.slice (some ⟨gP, 0, none⟩) (vars + 1) (vars + 1)) (.slice none 0 0) (top es (c.take k)) (fun _ => false) 0 0 ∧ Upd [ab] w5 wr) (fun i _ => c.length - (numOf i).toNat)
            case atStart => exact ⟨0, rfl, Nat.zero_le _, H5.out.1, Upd.refl _ _⟩
            case round =>
              obtain ⟨wp, rfl⟩ : ∃ wp : World, wp = wr := ⟨_, rfl⟩
              obtain ⟨j2, rfl, hj2, hA, hU⟩ := hrel
              have hU0 : Upd [] w wp := H5.out.2.2.2.fresh hU (fun q hq => .inr (by simp at hq; omega))
              have HU := Lib.hid (And.intro hA (And.intro hU hU0))
              clear hA hU hU0 hcell5 hji hj
              by_cases hlt : j2 < c.length
              · have hji : (j2 : Int) < c.length := by omega
                obtain ⟨gy, oy, rfl, kc⟩ := HCC.out (by omega)
                have e1 := HU.out.2.2.some (kc j2 _ (ints_get (List.getElem?_eq_getElem hlt))) (by simp)
                have hyl := HLT.out _ (List.getElem_mem hlt)
                have HTK := Lib.hid (show c.take (j2 + 1) = c.take j2 ++ [c[j2]] by rw [List.take_add_one, List.getElem?_eq_getElem hlt]; rfl)
                have HMM := Lib.hid (List.getElem_mem hlt)
                clear kc
                generalize c[j2] = y at *
                have ht := HG.out.no y HMM.out
                have c4 := HU.out.1.box.cell (i := 4) rfl
                have f4 := HU.out.1.box.free 4
                have HL := Lib.hid (show ∀ W : World, Upd [] wp W → Calls Try.prog 37 #[.pointer (some ⟨ab, 0, none⟩), .int .i64 y] W fun e w' => e = .returned (.int .i64 (lvl es y)) ∧ Upd [] W w' from fun W u => by
                  have := alevel_calls (HU.out.1.ext u) y ⟨by omega, by omega⟩
                  rwa [lvl_eq ht] at this)
                have HTP := Lib.hid (show top es (c.take (j2 + 1)) = max (top es (c.take j2)) (lvl es y) by rw [HTK.out, top_snoc])
                clear ht HTK
                generalize hm : top es (c.take j2) = m at *
                generalize hl : lvl es y = l at *
                clear hm hl
                go_upto_region 16 with fail
                refine wp_region_ord 11 1 [0, 1, 2, 3, 4, 5, 6, 8, 9, 10] [4] [0, 1, 2, 3, 4, 5, 6, 7, 8, 9, 10, 11] (fun w' => ∃ x : Ext wp, w' = x.val) (by kernel_rfl) (by kernel_rfl) (Ext.of ((Upd.refl _ _).drew)) ?_
                repeat (first | (refine wpOrd_load rfl rfl rfl rfl (fun K hK => ?_); go_big_quiet_step (fail); refine wpQuiet_nil ?_; refine hK _ ?_; clear hK K) | (refine wpOrd_free rfl rfl rfl (fun K hK => ?_); go_big_quiet_step (fail); refine wpQuiet_nil ?_; refine hK _ ?_; clear hK K))
                refine wpOrd_fix rfl rfl (fun K hK => ?_)
                go_wp2_with (go_at_call 37; (with_reducible refine (HL.out _ ((Upd.refl _ wp).drew)).mono ?_); rintro e w2 ⟨rfl, u2⟩)
                have U2 : Upd [] wp w2 := ((Upd.refl _ wp).drew).step u2
                refine ⟨fun _ => Ext.of U2, ?_⟩
                have c4' := U2.some c4 (by simp)
                have hB2 := HU.out.1.box.upd U2 (by simp)
                have f4' := hB2.free 4
                have us : Upd [ab] w2 (w2.setCell ⟨ab, 4, none⟩ (.int .i64 (max m l))) := (Upd.refl [ab] w2).set (.inl (by simp)) _
                have HX := Lib.hid (And.intro ((HU.out.1.ext U2).rebox us (hB2.set 4 (.int .i64 (max m l)))) ((HU.out.2.1.step U2).trans us))
                clear hB2 us
                repeat (first | (refine wpOrd_load rfl rfl rfl rfl (fun K hK => ?_); go_big_quiet_step (fail); refine wpQuiet_nil ?_; refine hK _ ?_; clear hK K) | (refine wpOrd_free rfl rfl rfl (fun K hK => ?_); go_big_quiet_step (fail); refine wpQuiet_nil ?_; refine hK _ ?_; clear hK K))
                refine wpOrd_fix rfl rfl (fun K hK => ?_)
                go_wp2_with fail
                refine ⟨fun hC => absurd hC (by decide), ?_⟩
                refine wpOrd_nil ?_
                go_wp2_with fail
                exact ⟨⟨j2 + 1, by go_num, by omega, by rw [HTP.out]; exact HX.out.1, HX.out.2⟩, by simp [numOf]; omega⟩
              · have hji : ¬ (j2 : Int) < c.length := by omega
                have htk : c.take j2 = c := List.take_of_length_le (by omega)
                have h6 := HU.out.1
                rw [htk] at h6
                have hcell6 := HU.out.2.2.some HCE.out (by simp)
                have hU56 : Upd [ab] w5 wp := HU.out.2.1
                have hb6 : Bk w wp ab b mb vars gL gP es now S (.slice (some ⟨gl, off, none⟩) L.length cL) (.slice none 0 0) (top es c) [] [] wp :=
                  ⟨⟨_, h6, fun y => by simp⟩, OwnV.nil _ _ _ _, H5.out.2.1.upd hU56 (by simp; omega), H5.out.2.2.1.upd hU56 (by simp; omega), Upd.refl _ _⟩
                have hl6 : Low wp ab mb gL gP S := ⟨hb6.an.elim fun _ h => h.1.box.lt, hb6.an.elim fun _ h => h.1.mp.lt, hb6.bL.lt, hb6.bP.lt, hb6.an.elim fun _ h => h.1.tr.lt⟩
                have H6 := Lib.hid (And.intro hb6 (And.intro hl6 HU.out.2.2))
                clear htk h6 hU56 hb6 hl6 HU H5
                go_upto_region 18 with fail
                clear hlt hji hj2
                have hne : gL ≠ ab ∧ gL ≠ mb ∧ gP ≠ ab ∧ gP ≠ mb := by omega
                have HNE := Lib.hid hne
                have hab : w.heap.size ≤ ab ∧ w.heap.size ≤ mb := by omega
                have HAB := Lib.hid hab
                clear hne hab q1 q2 q3 q4
                generalize hg : top es c = g at *
                have HGT := Lib.hid hg
                clear hg
                go_wp2_with fail
                go_loopw [80] (fun i wr => ∃ (k : Nat) (D : List Int), i = .int .i64 k ∧ k ≤ c.length ∧ D.Nodup ∧ (∀ z, z ∈ D ↔ z ∈ c.take k) ∧ Bk w wp ab b mb vars gL gP es now S (.slice (some ⟨gl, off, none⟩) L.length cL) (.slice none 0 0) g D [] wr) (fun i _ => c.length - (numOf i).toNat)
                case atStart => exact ⟨0, [], rfl, Nat.zero_le _, List.nodup_nil, fun z => by simp, H6.out.1⟩
                case round =>
                  obtain ⟨wq, rfl⟩ : ∃ wq : World, wq = wr := ⟨_, rfl⟩
                  obtain ⟨j3, D, rfl, hj3, hnD, hD, hB⟩ := hrel
                  have hU0 : Upd [] w wq := H6.out.2.2.fresh hB.u (fun q hq => .inr (by have := HAB.out; simp at hq; omega))
                  have HBD := Lib.hid (And.intro hnD (And.intro hD (And.intro hB hU0)))
                  clear hnD hD hB hU0 hcell6
                  by_cases hlt : j3 < c.length
                  · have hji : (j3 : Int) < c.length := by omega
                    obtain ⟨gy, oy, rfl, kc⟩ := HCC.out (by omega)
                    have e1 := HBD.out.2.2.2.some (kc j3 _ (ints_get (List.getElem?_eq_getElem hlt))) (by simp)
                    have hyl := HLT.out _ (List.getElem_mem hlt)
                    have HTK := Lib.hid (show c.take (j3 + 1) = c.take j3 ++ [c[j3]] by rw [List.take_add_one, List.getElem?_eq_getElem hlt]; rfl)
                    have HMM := Lib.hid (List.getElem_mem hlt)
                    clear kc
                    generalize c[j3] = z at *
                    have hzt := HG.out.no z HMM.out
                    have hfalse : ∀ u ∈ D, tval vars es u = -1 := fun u hu => HG.out.no u (List.mem_of_mem_take ((HBD.out.2.1 u).1 hu))
                    obtain ⟨C, hAz, hCz⟩ := HBD.out.2.2.1.an
                    have hzr := (tval_neg hzt).1
                    unfold isLit at hzr
                    simp only [decide_eq_true_eq] at hzr
                    have m1 := many_var g HBD.out.1 hfalse
                    have m2 := many_var 0 HBD.out.1 hfalse
                    have HAP := Lib.hid (aput_calls hAz z ⟨by omega, by omega⟩ ⟨by omega, by omega⟩ ⟨by omega, by omega⟩)
                    have HPU := Lib.hid (fun (W : World) => HBD.out.2.2.1.put (W' := W) H6.out.2.1 HNE.out hCz hzt)
                    have HN2 := Lib.hid (show ∀ u, u ∈ ins D z ↔ u ∈ c.take (j3 + 1) by
                      intro u
                      rw [ins_mem, HBD.out.2.1 u, HTK.out, List.mem_append, List.mem_singleton]
                      exact or_comm)
                    clear HTK HMM hzr hzt m1 m2 hAz hCz hfalse
                    go_wp2_with (go_at_call 38; (with_reducible refine HAP.out.mono ?_); rintro e w12 ⟨rfl, hA12, u12⟩)
                    exact ⟨⟨j3 + 1, ins D z, by go_num, by omega, ins_nodup HBD.out.1, HN2.out, HPU.out _ hA12 u12⟩, by simp [numOf]; omega⟩
                  · have hji : ¬ (j3 : Int) < c.length := by omega
                    have htk : c.take j3 = c := List.take_of_length_le (by omega)
                    have hb7 : Bk w wq ab b mb vars gL gP es now S (.slice (some ⟨gl, off, none⟩) L.length cL) (.slice none 0 0) g c [] wq := by
                      have h7 := HBD.out.2.2.1.same HBD.out.1 (ord_nodup HG.out.ord) (fun u => by rw [HBD.out.2.1 u, htk])
                      exact ⟨h7.an, OwnV.nil _ _ _ _, h7.bL, h7.bP, Upd.refl _ _⟩
                    have HU7 := Lib.hid HBD.out.2.2.2
                    have hlow7 : Low wq ab mb gL gP S := ⟨hb7.an.elim fun _ h => h.1.box.lt, hb7.an.elim fun _ h => h.1.mp.lt, hb7.bL.lt, hb7.bP.lt, hb7.an.elim fun _ h => h.1.tr.lt⟩
                    have HLW := Lib.hid hlow7
                    have HBC := Lib.hid (back_calls hb7 HCL.out HU7.out HAB.out.1 HAB.out.2 HNE.out hv HG.out [(k : Int)])
                    have HWF := Lib.hid hb7.wf
                    clear hb7 htk HBD H6 hlow7
                    go_upto_region 23 with fail
                    clear hji hlt hj3
                    by_cases hgo : (go L vars es g es.length c [(k : Int)]).1 = 14
                    · have HB14 := Lib.hid (show Calls Try.prog 39 #[.pointer (some ⟨ab, 0, none⟩)] wq (fun e w' => e = .returned (.int .i64 14) ∧ Upd [ab, mb] wq w') from HBC.out.mono (by
                        rintro e w' (⟨rfl, _, u⟩ | ⟨d, hs, vh', _, h2, _⟩)
                        · exact ⟨rfl, u⟩
                        · rw [h2] at hgo; cases hgo))
                      have HR := Lib.hid (show anL L vars es k = (14, [], 0, []) by
                        rw [HA2.out, if_pos]
                        rw [hgo]; decide)
                      clear HBC hgo HA2
                      go_wp2_with (go_at_call 39; (with_reducible refine HB14.out.mono ?_); rintro e w8 ⟨rfl, u8⟩)
                      have U8 : Upd [] w w8 := HU7.out.fresh u8 (fun q hq => .inr (by have := HAB.out; simp at hq; omega))
                      refine bodyPost_ret (results_tmp4 rfl _ _ _) rfl ?_
                      rw [HR.out]
                      exact ⟨_, _, rfl, HN.out _ U8, HN.out _ U8, by simp [Value.ownBlock]⟩
                    · have HB0 := Lib.hid (show Calls Try.prog 39 #[.pointer (some ⟨ab, 0, none⟩)] wq (fun e w' => ∃ d hs vh', e = .returned (.int .i64 0) ∧ go L vars es g es.length c [(k : Int)] = (0, d, hs.reverse ++ [(k : Int)]) ∧ Good vars es d ∧ Bk w wq ab b mb vars gL gP es now S (.slice (some ⟨gl, off, none⟩) L.length cL) vh' g d hs w') from HBC.out.mono (by
                        rintro e w' (⟨_, h2, _⟩ | h)
                        · exact absurd h2 hgo
                        · exact h))
                      clear HBC hgo
                      go_upto_region 26 with (go_at_call 39; (with_reducible refine HB0.out.mono ?_); rintro e w8 ⟨d, hs, vh', rfl, hgo, hgd, hbk⟩)
                      have hR : anL L vars es k = (0, d, second es g d, hs.reverse ++ [(k : Int)]) := by
                        rw [HA2.out, if_neg (by rw [hgo]; simp), hgo]
                      have HR := Lib.hid hR
                      have hhl : hs.length ≤ 65536 := by
                        have h1 := go_len (L := L) (vars := vars) (es := es) (g := g) es.length c [(k : Int)]
                        have h2 := HWF.out.len
                        rw [hgo] at h1
                        simp at h1
                        omega
                      obtain ⟨C, hA, hC⟩ := hbk.an
                      have far := hbk.far
                      have c8 := hA.box.cell (i := 8) rfl
                      have HRV := Lib.hid (Reverse_calls hbk.hint (by omega))
                      have H8 := Lib.hid (And.intro hbk (And.intro hA (And.intro hC hgd)))
                      clear hbk hA hC hgd hR hgo HA2 HB0
                      go_upto_region 27 with (go_at_call 40; (with_reducible refine HRV.out.mono ?_); rintro e w9 ⟨rfl, hh9, u9⟩)
                      have hA9 := H8.out.2.1.step u9 (fun q hq => ⟨fun h => far ab HLW.out.1 (h ▸ hq), fun h => far mb HLW.out.2.1 (h ▸ hq), fun h => far q (HLW.out.2.2.2.2 q h) hq⟩)
                      have U8 : Upd [] w w8 := HU7.out.fresh H8.out.1.u (fun q hq => .inr (by have := HAB.out; simp at hq; omega))
                      have U9 : Upd [] w w9 := U8.fresh u9 (fun q hq => .inr (by have := H8.out.1.hint.fresh q (by simpa using hq); have := HU7.out.size; omega))
                      have HRS := Lib.hid (result_calls hA9 H8.out.2.2.1 H8.out.2.2.2 hv)
                      have H9 := Lib.hid (And.intro hA9 (And.intro hh9 U9))
                      clear c8 HRV u9 hA9 hh9 U9 U8 far
                      go_upto_region 28 with (go_at_call 41; (with_reducible refine HRS.out.mono ?_); rintro e w10 ⟨sv, rfl, o10⟩)
                      have c8 := (H9.out.1.ext o10.u).box.cell (i := 8) rfl
                      have HH := Lib.hid (And.intro (H9.out.2.1.upd o10.u (by simp)) o10)
                      clear HRS o10
                      refine wp_region_lit ?_
                      refine wpList_cutH 7 (fun K hK => ?_)
                      simp only [List.take_succ_cons, List.take_zero]
                      go_wp2_with fail
                      refine Halt_.intro ?_; try simp only [List.drop_succ_cons, List.drop_zero]
                      refine wpList_push rfl rfl _ _ _ _ rfl rfl rfl 3 1 8 _ Try.underlying22 Trail.infoInt rfl (by decide) (by decide) (.int .i64 k) [.int .i64 k] rfl rfl rfl (ints_one [(k : Int)]) _ _ _ HH.out.1.row rfl rfl (by unfold maxLen; omega) (by omega) ?_
                      intro gg cap w11 o11 u11 k11
                      simp only [Act.put, List.setIfInBounds_toArray, List.set_cons_zero, List.set_cons_succ]
                      have z9 := H9.out.2.2.size
                      have z10 := HH.out.2.u.size
                      have zq := HU7.out.size
                      have fr : ∀ q, vh'.ownBlock = some q → w.heap.size ≤ q ∧ q < w9.heap.size := fun q hq => ⟨by have := HH.out.1.fresh q hq; omega, H9.out.2.1.lt q hq⟩
                      have HO1 := Lib.hid (show Own w sv d w11 from ⟨R14.ownsRow_upd HH.out.2.row u11 (fun q hq e => by
                          have h1 := (fr q (by simpa using hq)).2
                          have h2 := HH.out.2.fresh q e
                          omega), fun q hq => by have := HH.out.2.fresh q hq; omega, (H9.out.2.2.step HH.out.2.u).fresh u11 (fun q hq => .inr (fr q (by simpa using hq)).1)⟩)
                      have HO3 := Lib.hid (show Own w (.slice (some ⟨gg, 0, none⟩) (hs.length + 1) cap) (hs.reverse ++ [(k : Int)]) w11 from ⟨by
                          rw [show (hs.reverse ++ [(k : Int)]).length = hs.length + 1 by simp, show ints (hs.reverse ++ [(k : Int)]) = ints hs.reverse ++ [.int .i64 k] by unfold ints; rw [List.map_append]; rfl]
                          exact o11, fun q hq => by
                          simp only [Value.ownBlock, Option.some.injEq] at hq
                          subst hq
                          rcases k11 with h | h
                          · exact (fr _ h).1
                          · omega, HO1.out.u⟩)
                      have HAP := Lib.hid (show ∀ q, sv.ownBlock = some q → (Value.slice (some ⟨gg, 0, none⟩) (hs.length + 1) cap).ownBlock ≠ some q from fun q hq e => by
                        simp only [Value.ownBlock, Option.some.injEq] at e
                        subst e
                        have h1 := HH.out.2.fresh _ hq
                        have h2 := (HH.out.2.row.lt _ hq).2
                        rcases k11 with h | h
                        · have := (fr _ h).2; omega
                        · omega)
                      clear o11 u11 k11 fr z9 z10 zq HH H9 c8
                      go_wp2_with fail
                      refine bodyPost_ret (results_tmp4 rfl _ _ _) rfl ?_
                      rw [HR.out]
                      exact ⟨_, _, rfl, HO1.out, HO3.out, HAP.out⟩
      · have hb : (validErr c != 0) = true := by simpa using hva
        have HR := Lib.hid (show anL L vars es k = (validErr c, [], 0, []) by rw [HA0.out, if_pos hva])
        rw [HR.out]
        clear HR HA0
        generalize validErr c = z at *
        clear hva
        go_enter Try.func13, Try.ntmps13
        go_wp2_with (go_at_call 35; (with_reducible refine HVL.out.mono ?_); rintro e w3 ⟨rfl, u3⟩)
        refine bodyPost_ret (results_tmp4 rfl _ _ _) rfl ?_
        exact ⟨_, _, rfl, HN.out _ u3, HN.out _ u3, by simp [Value.ownBlock]⟩
end
end Learn
end Go.Proofs.Ytdhhohnaehdpkaa
