/- Walks through the reference of learning: Analyze. Conditions: none. -/
import Derived.Test.YtdhhohnaehdpkaaLearnT
import Derived.Test.YtdhhohnaehdpkaaLib2
import Derived.Test.YtdhhohnaehdpkaaLearnV
set_option linter.unusedVariables false
set_option linter.unusedSimpArgs false
set_option linter.unusedSectionVars false
open Go.RowKit
namespace Go.Proofs.Ytdhhohnaehdpkaa
open L
namespace Learn
open Trail Ref Cla R01 R14
theorem many_snoc (es : Es) (g : Int) (D : List Int) (x : Int) : many es g (D ++ [x]) = many es g D + if lvl es x = g then 1 else 0 := by
  unfold many
  rw [List.filter_append, List.length_append]
  by_cases h : lvl es x = g <;> simp [h]
section
variable {w : World} {b vars : Nat} {es : Es} {S : List Nat}
/-- What stands between two rounds of the model's way back. -/
structure Rw (w : World) (vars : Nat) (es : Es) (g : Int) (cv hv : Value) (D hs : List Int) (W : World) : Prop where
  good : Good vars es D
  c : SL W 1 cv D.length (ints D)
  h : SL W 1 hv hs.length (ints hs)
  u : Upd [] w W
theorem Rw.ext {W W' : World} {g : Int} {cv hv : Value} {D hs : List Int} (h : Rw w vars es g cv hv D hs W) (u : Upd [] W W') : Rw w vars es g cv hv D hs W' :=
  ⟨h.good, h.c.upd u (by simp), h.h.upd u (by simp), h.u.step u⟩
set_option maxRecDepth 100000 in
set_option maxHeartbeats 16000000 in
theorem RAnalyze_calls {aL : Option Addr} {cL : Nat} {L : List (List Int)} (h : Rf w b vars es S) (hL : CL w (.slice aL L.length cL) L) (hv : vars ≤ 65536) {cn : Int} (hcn : IsI64 cn) :
    Calls Try.prog 14 #[.slice aL L.length cL, .pointer (some ⟨b, 0, none⟩), .int .i64 cn] w fun e w' => ∃ v1 v3, e = .returned (.tuple #[v1, .int .i64 (anL L vars es cn).2.2.1, v3, .int .i64 (anL L vars es cn).1]) ∧ SL w' 1 v1 (anL L vars es cn).2.1.length (ints (anL L vars es cn).2.1) ∧ SL w' 1 v3 (anL L vars es cn).2.2.2.length (ints (anL L vars es cn).2.2.2) ∧ Upd [] w w' := by
  have nil : ∀ w' : World, SL w' 1 (.slice none 0 0) ([] : List Int).length (ints []) := fun w' => (Own.nil w').sl
  have HN := Lib.hid nil
  have HT := Lib.hid h
  have hsl := hL.form
  obtain ⟨_, _, he, hcl1, hcl2, hat⟩ := hsl
  cases he
  have hat : ∀ k, k < L.length → CellAt w aL k (L.getD k []) := hat
  have HAT := Lib.hid hat
  have HCL := Lib.hid hL
  have hlen := h.wf.len
  clear h hL hat nil
  by_cases h1 : cn < 0
  · have HR := Lib.hid (show anL L vars es cn = (1, [], 0, []) by unfold anL; rw [if_pos (.inl h1)])
    rw [HR.out]
    go_enter Try.func14, Try.ntmps14
    go_wp2_with fail
    refine bodyPost_ret (results_tmp4 rfl _ _ _) rfl ?_
    exact ⟨_, _, rfl, HN.out _, HN.out _, Upd.refl _ _⟩
  · by_cases h2 : cn ≥ (L.length : Int)
    · have HR := Lib.hid (show anL L vars es cn = (1, [], 0, []) by unfold anL; rw [if_pos (.inr h2)])
      rw [HR.out]
      go_enter Try.func14, Try.ntmps14
      go_wp2_with fail
      refine bodyPost_ret (results_tmp4 rfl _ _ _) rfl ?_
      exact ⟨_, _, rfl, HN.out _, HN.out _, Upd.refl _ _⟩
    · obtain ⟨k, rfl⟩ := Int.eq_ofNat_of_zero_le (show 0 ≤ cn by omega)
      have hk : k < L.length := by omega
      obtain ⟨gl, off, ay, capy, rfl, hcell, hsl, hq, hr2⟩ := HAT.out k hk
      have HA0 := Lib.hid (anL_in (L := L) (vars := vars) (es := es) hk)
      have HVL := Lib.hid (RValid_calls hsl)
      generalize L.getD k [] = c at *
      by_cases hva : validErr c = 0
      · have HLT := Lib.hid (listErr_lit (validErr_ok.1 hva).1).2
        have hcl := (listErr_lit (validErr_ok.1 hva).1).1
        have HVA := Lib.hid hva
        have HA1 := Lib.hid (show anL L vars es k = if ∃ x ∈ c, tval vars es x ≠ -1 then (13, [], 0, []) else
          if (go L vars es (top es c) es.length c [(k : Int)]).1 ≠ 0 then (14, [], 0, []) else
          (0, (go L vars es (top es c) es.length c [(k : Int)]).2.1, second es (top es c) (go L vars es (top es c) es.length c [(k : Int)]).2.1, (go L vars es (top es c) es.length c [(k : Int)]).2.2) by
          rw [HA0.out, if_neg (by rw [hva]; simp)])
        have HSL := Lib.hid hsl
        obtain ⟨_, _, he, _, _, hcc⟩ := SL.form hsl
        cases he
        have HCC := Lib.hid hcc
        rw [hva] at HVL
        clear hva HA0 hcc hsl
        go_enter Try.func14, Try.ntmps14
        go_upto_region 6 with (go_at_call 42; (with_reducible refine HVL.out.mono ?_); rintro e w3 ⟨rfl, u3⟩)
        have hcell3 := u3.some hcell (by simp)
        have HU3 := Lib.hid u3
        clear u3 hcell HVL
        go_wp2_with fail
        go_loopw [12, 13] (fun gv iv wr => ∃ j : Nat, iv = .int .i64 j ∧ gv = .int .i64 (top es (c.take j)) ∧ j ≤ c.length ∧ (∀ y ∈ c.take j, tval vars es y = -1) ∧ Upd [] w3 wr) (fun _ iv _ => c.length - (numOf iv).toNat)
        case atStart => exact ⟨0, rfl, rfl, Nat.zero_le _, by simp, Upd.refl _ _⟩
        case round =>
          obtain ⟨wo, rfl⟩ : ∃ wo : World, wo = wr := ⟨_, rfl⟩
          obtain ⟨j, rfl, rfl, hj, hy, hU⟩ := hrel
          have HU := Lib.hid (And.intro hy (And.intro hU (HU3.out.step hU)))
          clear hy hU hcell3
          by_cases hlt : j < c.length
          · have hji : (j : Int) < c.length := by omega
            obtain ⟨gy, oy, rfl, kc⟩ := HCC.out (by omega)
            have e1 := HU.out.2.2.some (kc j _ (ints_get (List.getElem?_eq_getElem hlt))) (by simp)
            have hyl := HLT.out _ (List.getElem_mem hlt)
            have HTK := Lib.hid (show c.take (j + 1) = c.take j ++ [c[j]] by rw [List.take_add_one, List.getElem?_eq_getElem hlt]; rfl)
            have HMM := Lib.hid (List.getElem_mem hlt)
            clear kc
            generalize c[j] = y at *
            have HRf := HT.out.ext HU.out.2.2
            have hyI : IsI64 y := ⟨by omega, by omega⟩
            have HV := Lib.hid (Ref.Value_calls HRf y hyI)
            by_cases ht : tval vars es y = -1
            · have e2 : (tval vars es y != -1) = false := by rw [ht]; rfl
              have HL := Lib.hid (RLevel_calls HRf hyI (tval_neg ht).2.1)
              have HY := Lib.hid (show ∀ z ∈ c.take (j + 1), tval vars es z = -1 by
                rw [HTK.out]
                intro z hz
                rcases List.mem_append.1 hz with hz | hz
                · exact HU.out.1 z hz
                · rw [List.mem_singleton] at hz; subst hz; exact ht)
              have HTP := Lib.hid (show top es (c.take (j + 1)) = max (top es (c.take j)) (lvl es y) by rw [HTK.out, top_snoc])
              clear HTK HRf
              generalize tval vars es y = tv at *
              generalize top es (c.take j) = m at *
              generalize lvl es y = l at *
              clear ht
              go_wp2_with (first | (go_at_call 43; (with_reducible refine HV.out.mono ?_); rintro e w5 ⟨rfl, rfl⟩) | (go_at_call 44; (with_reducible refine HL.out.mono ?_); rintro e w5 ⟨rfl, u5⟩))
              exact ⟨⟨j + 1, by go_num, by rw [HTP.out], by omega, HY.out, HU.out.2.1.step u5⟩, by simp [numOf]; omega⟩
            · have e2 : (tval vars es y != -1) = true := by simpa using ht
              have HR := Lib.hid (show anL L vars es k = (13, [], 0, []) by rw [HA1.out, if_pos ⟨y, HMM.out, ht⟩])
              clear HTK HA1 HRf
              generalize tval vars es y = tv at *
              clear ht
              go_wp2_with (go_at_call 43; (with_reducible refine HV.out.mono ?_); rintro e w5 ⟨rfl, rfl⟩)
              refine bodyPost_ret (results_tmp4 rfl _ _ _) rfl ?_
              rw [HR.out]
              exact ⟨_, _, rfl, HN.out _, HN.out _, HU.out.2.2⟩
          · have hji : ¬ (j : Int) < c.length := by omega
            have hgood : Good vars es c := ⟨HVA.out, fun x hx => HU.out.1 x (by rw [List.take_of_length_le (by omega)]; exact hx)⟩
            have HG := Lib.hid hgood
            have hA2 : anL L vars es k = if (go L vars es (top es c) es.length c [(k : Int)]).1 ≠ 0 then (14, [], 0, []) else
              (0, (go L vars es (top es c) es.length c [(k : Int)]).2.1, second es (top es c) (go L vars es (top es c) es.length c [(k : Int)]).2.1, (go L vars es (top es c) es.length c [(k : Int)]).2.2) := by
              rw [HA1.out, if_neg]
              rintro ⟨x, hx, hn⟩
              exact hn (hgood.no x hx)
            have HA2 := Lib.hid hA2
            have HUW := Lib.hid HU.out.2.2
            have hgt : top es (c.take j) = top es c := by rw [List.take_of_length_le (by omega)]
            rw [hgt]
            clear hgood hA2 HA1 HU hgt HLT HVA
            have HGG := Lib.hid (show top es c = top es c from rfl)
            generalize hg : top es c = g at HA2 HGG ⊢
            clear HGG hg
            go_upto_region 15 with fail
            clear hji hlt hj hcl
            have B := Blk.new wo [.int .i64 (k : Int)] 3
            have uA := (Upd.refl [] wo).alloc (.cells #[.int .i64 (k : Int)] 3)
            generalize hws : wo.heap.size = hb at *
            have uA2 : Upd [] wo (wo.alloc (.cells #[.int .i64 (k : Int)] 3)) := uA
            have B2 : Blk (wo.alloc (.cells #[.int .i64 (k : Int)] 3)) hb [.int .i64 (k : Int)] 3 := B
            generalize (wo.alloc (.cells #[.int .i64 (k : Int)] 3)) = wa at *
            have hR0 : Rw w vars es g (.slice ay c.length capy) (.slice (some ⟨hb, 0, none⟩) 1 1) c [(k : Int)] wa :=
              ⟨HG.out, HSL.out.upd (HUW.out.step uA2) (by simp), SL.of_blk (pad := []) (show Blk wa hb (ints [(k : Int)] ++ []) 3 from B2) rfl (Nat.le_refl _) (by unfold maxLen; omega), HUW.out.step uA2⟩
            have HR0 := Lib.hid hR0
            clear B B2 uA uA2 hws hR0 HUW
            obtain ⟨al, cl, ar, cr, av, cv, d1, d2, d3, hrow⟩ := HT.out.rows
            have HRW := Lib.hid (And.intro d1 (And.intro d2 (And.intro d3 hrow)))
            have c1 := HR0.out.u.some HRW.out.1 (by simp)
            clear hrow d2 d3 d1
            go_wp2_with fail
            go_loopw [11, 14, 15] (fun cv hv kv wr => ∃ (n : Nat) (c' h' : Value) (D hs : List Int), kv = .int .i64 ((n : Int) - 1) ∧ c' = cv ∧ h' = hv ∧ n ≤ es.length ∧ hs.length + n ≤ es.length + 1 ∧ go L vars es g es.length c [(k : Int)] = go L vars es g n D hs ∧ Rw w vars es g c' h' D hs wr) (fun _ _ kv _ => (numOf kv + 1).toNat)
            case atStart => exact ⟨es.length, _, _, c, [(k : Int)], rfl, rfl, rfl, Nat.le_refl _, by simp; omega, rfl, HR0.out⟩
            case round =>
              obtain ⟨wp, rfl⟩ : ∃ wp : World, wp = wr := ⟨_, rfl⟩
              obtain ⟨n, cv', hv', D, hs, rfl, rfl, rfl, hn, hnh, hgo, hR⟩ := hrel
              have HR := Lib.hid (And.intro hR hgo)
              clear hR hgo c1
              cases n with
              | zero =>
                have hm1 : ¬ (0 : Int) ≤ ((0 : Nat) : Int) - 1 := by omega
                have hfin : anL L vars es k = (0, D, second es g D, hs) := by
                  have h1 : go L vars es g es.length c [(k : Int)] = (0, D, hs) := HR.out.2
                  rw [HA2.out, h1]
                  rfl
                have HFIN := Lib.hid hfin
                obtain ⟨a2, cap2, rfl, q2, r2, hcc2⟩ := SL.form HR.out.1.c
                have HC2 := Lib.hid hcc2
                have hDI : ∀ x ∈ D, IsI64 x := fun x hx => by
                  have h0 := (tval_neg (HR.out.1.good.no x hx)).1
                  unfold isLit at h0
                  simp only [decide_eq_true_eq] at h0
                  exact ⟨by omega, by omega⟩
                have HDI := Lib.hid hDI
                have hDl := (listErr_lit (validErr_ok.1 HR.out.1.good.ok).1).1
                clear hfin hcc2 hDI HA2
                go_wp2_with fail
                go_loopw [21, 22] (fun tv iv wr => ∃ j : Nat, iv = .int .i64 j ∧ tv = .int .i64 (second es g (D.take j)) ∧ j ≤ D.length ∧ Upd [] wp wr) (fun _ iv _ => D.length - (numOf iv).toNat)
                case atStart => exact ⟨0, rfl, rfl, Nat.zero_le _, Upd.refl _ _⟩
                case round =>
                  obtain ⟨wq, rfl⟩ : ∃ wq : World, wq = wr := ⟨_, rfl⟩
                  obtain ⟨j, rfl, rfl, hj, hU⟩ := hrel
                  have HU := Lib.hid hU
                  clear hU hm1
                  by_cases hlt : j < D.length
                  · have hji : (j : Int) < D.length := by omega
                    obtain ⟨gy, oy, rfl, kc⟩ := HC2.out (by omega)
                    have e1 := HU.out.some (kc j _ (ints_get (List.getElem?_eq_getElem hlt))) (by simp)
                    have HTK := Lib.hid (show D.take (j + 1) = D.take j ++ [D[j]] by rw [List.take_add_one, List.getElem?_eq_getElem hlt]; rfl)
                    have HMM := Lib.hid (List.getElem_mem hlt)
                    clear kc
                    generalize D[j] = y at *
                    have HL := Lib.hid (fun (W : World) (u : Upd [] wq W) => RLevel_calls (HT.out.ext ((HR.out.1.u.step HU.out).step u)) (HDI.out y HMM.out) (tval_neg (HR.out.1.good.no y HMM.out)).2.1)
                    have HS := Lib.hid (show second es g (D.take (j + 1)) = if lvl es y ≠ g then max (second es g (D.take j)) (lvl es y) else second es g (D.take j) by rw [HTK.out, second_snoc'])
                    clear HTK HMM
                    generalize second es g (D.take j) = m at *
                    generalize lvl es y = l at *
                    by_cases hl : l = g
                    · have e2 : (l != g) = false := by simpa using hl
                      rw [if_neg (by simpa using hl)] at HS
                      clear hl
                      go_wp2_with (go_at_call 44; (with_reducible refine (HL.out _ (Upd.refl _ _)).mono ?_); rintro e w5 ⟨rfl, u5⟩)
                      exact ⟨⟨j + 1, by go_num, by rw [HS.out], by omega, HU.out.step u5⟩, by simp [numOf]; omega⟩
                    · have e2 : (l != g) = true := by simpa using hl
                      rw [if_pos hl] at HS
                      clear hl
                      go_upto_if 181 with (go_at_call 44; (with_reducible refine (HL.out _ (Upd.refl _ _)).mono ?_); rintro e w5 ⟨rfl, u5⟩)
                      have e3 := u5.some e1 (by simp)
                      clear e1
                      go_wp2_with (go_at_call 44; (with_reducible refine (HL.out _ u5).mono ?_); rintro e w6 ⟨rfl, u6⟩)
                      exact ⟨⟨j + 1, by go_num, by rw [HS.out], by omega, HU.out.step (u5.step u6)⟩, by simp [numOf]; omega⟩
                  · have hji : ¬ (j : Int) < D.length := by omega
                    have htk : D.take j = D := List.take_of_length_le (by omega)
                    rw [htk]
                    clear htk
                    go_upto_region 40 with fail
                    clear hlt hji hj
                    refine wp_region_lit ?_
                    refine wpList_cutH 2 (fun K hK => ?_)
                    simp only [List.take_succ_cons, List.take_zero]
                    go_wp2_with fail
                    refine Halt_.intro ?_; try simp only [List.drop_succ_cons, List.drop_zero]
                    have g0 := owns_none (w := wq) rfl 3
                    have s0 := (HR.out.1.ext HU.out).c.upd ((Upd.refl [] wq).alloc (.cells #[] 3)) (by simp)
                    have u0 := (Upd.refl [] wq).alloc (.cells #[] 3)
                    generalize hwn : wq.alloc (.cells #[] 3) = wn at *
                    refine wpList_appS rfl _ _ _ rfl 3 1 8 _ Try.underlying22 Trail.infoInt rfl (by decide) (.slice (some ⟨wq.heap.size, 0, none⟩) 0 0) 0 [] rfl (owns_blk g0 rfl (by unfold maxLen; omega)) _ D.length (ints D) rfl s0 (ints_one _) (by unfold maxLen; omega) (by omega) ?_
                    intro a5 cap5 w7 o7 u7 k7
                    rw [Nat.zero_add, List.nil_append] at o7
                    rw [Nat.zero_add] at k7 ⊢
                    simp only [Act.put, List.setIfInBounds_toArray, List.set_cons_zero, List.set_cons_succ]
                    have U7 : Upd [] wq w7 := u0.fresh u7 (fun q hq => .inr (by simp [Value.ownBlock] at hq; omega))
                    clear hwn g0 s0 u0 u7 k7
                    go_wp2_with fail
                    refine bodyPost_ret (results_tmp4 rfl _ _ _) rfl ?_
                    rw [HFIN.out]
                    exact ⟨_, _, rfl, SL.of_owns o7, HR.out.1.h.upd (HU.out.step U7) (by simp), HR.out.1.u.step (HU.out.step U7)⟩
              | succ m =>
                have hm1 : (0 : Int) ≤ (m : Int) := by omega
                have hm2 : ((m + 1 : Nat) : Int) - 1 = (m : Int) := by omega
                rw [hm2]
                have hmk : m < es.length := by omega
                have hmi : (m : Int) < es.length := by omega
                have HUP := Lib.hid HR.out.1.u
                have HF := Lib.hid (HT.out.ext HUP.out)
                obtain ⟨gl2, gr2, gv2, rfl, rfl, rfl, k1, k2, k3⟩ := HRW.out.2.2.2 m hmk
                have c1 := HUP.out.some HRW.out.1 (by simp)
                have c2 := HUP.out.some HRW.out.2.1 (by simp)
                have c3 := HUP.out.some HRW.out.2.2.1 (by simp)
                replace k1 := HUP.out.some k1 (by simp)
                replace k2 := HUP.out.some k2 (by simp)
                replace k3 := HUP.out.some k3 (by simp)
                have HW := Lib.hid HT.out.wf
                have hxl := HW.out.lit _ (at_mem hmk)
                have hrr := HW.out.rsn _ (at_mem hmk)
                have hvm := HW.out.max
                have HUD := Lib.hid (show Used es g D m ↔ (-(at_ es m).1 ∈ D ∧ (((lev es m : Nat) : Int) = 0 ∨ ((lev es m : Nat) : Int) = g ∧ many es g D ≠ 1)) from Iff.rfl)
                have HRS := Lib.hid (show rsn L es m = L.getD (at_ es m).2.toNat [] from rfl)
                have HFD := Lib.hid (fun (hf : Fits L vars es m) => (⟨hf.1, hf.2.1⟩ : 0 ≤ (at_ es m).2 ∧ (at_ es m).2 < L.length))
                have HRES := Lib.hid (fun (hf : Fits L vars es m) (hx : -(at_ es m).1 ∈ D) => res_ok hf.2.2.1 hf.2.2.2.1 HR.out.1.good hx (fun y hy hn => (hf.2.2.2.2 y hy hn).1) hv)
                have HGU := Lib.hid (fun (hu : Used es g D m) (hf : Fits L vars es m) => go_used (L := L) (vars := vars) hu hf (h := hs))
                have HLV := Lib.hid (lvl_at HW.out hmk)
                have hln : (0 : Int) ≤ ((lev es m : Nat) : Int) := by omega
                generalize (at_ es m).1 = y at *
                generalize (at_ es m).2 = r at *
                generalize ((lev es m : Nat) : Int) = l at *
                have hyI : IsI64 (-y) := ⟨by omega, by omega⟩
                have HHL := Lib.hid (Cla.Has_calls HR.out.1.c (-y))
                by_cases hyd : -y ∈ D
                · rw [hasB_iff.2 hyd] at HHL
                  have HYD := Lib.hid hyd
                  clear hyd hm2
                  obtain ⟨a2, cap2, rfl, q2, r2, hcc2⟩ := SL.form HR.out.1.c
                  have HC2 := Lib.hid hcc2
                  have hDI : ∀ x ∈ D, IsI64 x := fun x hx => by
                    have h0 := (tval_neg (HR.out.1.good.no x hx)).1
                    unfold isLit at h0
                    simp only [decide_eq_true_eq] at h0
                    exact ⟨by omega, by omega⟩
                  have HDI := Lib.hid hDI
                  have hDl := (listErr_lit (validErr_ok.1 HR.out.1.good.ok).1).1
                  have K12 := Lib.hid (And.intro k1 k2)
                  clear hcc2 hDI k2 c2
                  go_wp2_with (go_at_call 19; (with_reducible refine HHL.out.mono ?_); rintro e w5 ⟨rfl, rfl⟩)
                  go_loopw [16, 17] (fun tv iv wr => ∃ j : Nat, iv = .int .i64 j ∧ tv = .int .i64 (many es g (D.take j) : Nat) ∧ j ≤ D.length ∧ Upd [] wp wr) (fun _ iv _ => D.length - (numOf iv).toNat)
                  case atStart => exact ⟨0, rfl, rfl, Nat.zero_le _, Upd.refl _ _⟩
                  case round =>
                    obtain ⟨wq, rfl⟩ : ∃ wq : World, wq = wr := ⟨_, rfl⟩
                    obtain ⟨j, rfl, rfl, hj, hU⟩ := hrel
                    have HU := Lib.hid hU
                    clear hU HHL c1 k1
                    by_cases hlt : j < D.length
                    · have hji : (j : Int) < D.length := by omega
                      obtain ⟨gy, oy, rfl, kc⟩ := HC2.out (by omega)
                      have e1 := HU.out.some (kc j _ (ints_get (List.getElem?_eq_getElem hlt))) (by simp)
                      have HTK := Lib.hid (show D.take (j + 1) = D.take j ++ [D[j]] by rw [List.take_add_one, List.getElem?_eq_getElem hlt]; rfl)
                      have HMM := Lib.hid (List.getElem_mem hlt)
                      clear kc
                      generalize D[j] = z at *
                      have HL := Lib.hid (RLevel_calls (HT.out.ext (HUP.out.step HU.out)) (HDI.out z HMM.out) (tval_neg (HR.out.1.good.no z HMM.out)).2.1)
                      have HS := Lib.hid (show many es g (D.take (j + 1)) = many es g (D.take j) + if lvl es z = g then 1 else 0 by rw [HTK.out, many_snoc])
                      have hmb : many es g (D.take j) ≤ (D.take j).length := many_le _
                      rw [List.length_take] at hmb
                      have hmb2 : many es g (D.take j) ≤ 16777216 := by omega
                      clear HTK HMM HUD HGU HRES HFD hmb
                      generalize many es g (D.take j) = mm at *
                      generalize lvl es z = lz at *
                      by_cases hl : lz = g
                      · have e2 : (lz == g) = true := by simpa using hl
                        rw [if_pos hl] at HS
                        clear hl
                        go_wp2_with (go_at_call 44; (with_reducible refine HL.out.mono ?_); rintro e w5 ⟨rfl, u5⟩)
                        exact ⟨⟨j + 1, by go_num, by rw [HS.out]; go_num, by omega, HU.out.step u5⟩, by simp [numOf]; omega⟩
                      · have e2 : (lz == g) = false := by simpa using hl
                        rw [if_neg hl] at HS
                        clear hl
                        go_wp2_with (go_at_call 44; (with_reducible refine HL.out.mono ?_); rintro e w5 ⟨rfl, u5⟩)
                        exact ⟨⟨j + 1, by go_num, by rw [HS.out]; go_num, by omega, HU.out.step u5⟩, by simp [numOf]; omega⟩
                    · have hji : ¬ (j : Int) < D.length := by omega
                      have htk : D.take j = D := List.take_of_length_le (by omega)
                      rw [htk]
                      replace k3 := HU.out.some k3 (by simp)
                      replace c3 := HU.out.some c3 (by simp)
                      clear htk
                      go_upto_region 25 with fail
                      clear hlt hji hj
                      by_cases hu : Used es g D m
                      · have HUS := Lib.hid hu
                        clear hu
                        go_cut [125] (fun t w' => t = .bool false ∧ w' = wq)
                        case first =>
                          have hx := (HUD.out.1 HUS.out).2
                          clear HGU HRES HFD HUD HR HUS HA2 HC2
                          by_cases hl0 : l = 0
                          · have e1 : ¬ l > 0 := by omega
                            clear hx hl0
                            go_wp2_with fail
                            go_meet
                            case rel => exact ⟨rfl, rfl⟩
                          · have e1 : l > 0 := by omega
                            obtain ⟨h1, h2⟩ : l = g ∧ many es g D ≠ 1 := by
                              rcases hx with h | h
                              · exact absurd h hl0
                              · exact h
                            have e2 : (l != g) = false := by simpa using h1
                            have e3 : (((many es g D : Nat) : Int) == 1) = false := by rw [beq_eq_false_iff_ne]; omega
                            clear hx hl0 h1 h2
                            generalize ((many es g D : Nat) : Int) = mg at *
                            go_wp2_with fail
                            go_meet
                            case rel => exact ⟨rfl, rfl⟩
                        case rest =>
                          obtain ⟨rfl, rfl⟩ := hcut
                          have HFC := Lib.hid (RFits_calls (HT.out.ext (HUP.out.step HU.out)) (HCL.out.upd (HUP.out.step HU.out)) hmk)
                          by_cases hf : Fits L vars es m
                          · rw [fitsB_true hf] at HFC
                            have HGE := Lib.hid (HGU.out HUS.out hf)
                            have HRE := Lib.hid (HRES.out hf HYD.out)
                            obtain ⟨hr0, hrl⟩ := HFD.out hf
                            have HX := Lib.hid (And.intro HRE.out.2.1 HRE.out.1)
                            clear hf HGU HRES HFD HUD HUS
                            obtain ⟨rn, rfl⟩ := Int.eq_ofNat_of_zero_le hr0
                            have hrn : rn < L.length := by omega
                            have hrs : rsn L es m = L.getD rn [] := by rw [HRS.out, Int.toNat_natCast]
                            obtain ⟨g6, off6, ay6, capy6, hg6, hcell6, hsl6, hq6, hr6⟩ := HAT.out rn hrn
                            rw [← hrs] at hcell6 hsl6 hq6
                            cases hg6
                            go_upto_region 29 with (go_at_call 45; (with_reducible refine HFC.out.mono ?_); rintro e w8 ⟨rfl, u8⟩)
                            have U8 : Upd [] w w8 := HUP.out.step (HU.out.step u8)
                            have c1 := U8.some HRW.out.1 (by simp)
                            have c2 := U8.some HRW.out.2.1 (by simp)
                            have hc6 := U8.some hcell6 (by simp)
                            have k1 := (HU.out.step u8).some K12.out.1 (by simp)
                            have k2 := (HU.out.step u8).some K12.out.2 (by simp)
                            have HRC := Lib.hid (show ∀ W, Upd [] w8 W → Calls Try.prog 46 #[.slice ay6 (rsn L es m).length capy6, .slice a2 D.length cap2, .int .i64 y] W (PairE (resL (rsn L es m) D y) 0 W) from fun W u => by
                              have := RResolve_calls (hsl6.upd (U8.step u) (by simp)) (HR.out.1.c.upd (HU.out.step (u8.step u)) (by simp)) y
                              rwa [HX.out.2] at this)
                            have HU8 := Lib.hid (And.intro U8 (HR.out.1.ext (HU.out.step u8)))
                            have hrni : (rn : Int) < L.length := by omega
                            clear hcell6 U8 u8 c3 k3 HFC hrs hsl6
                            refine wp_region_ord 24 1 [0, 1, 2, 3, 4, 5, 6, 7, 8, 9, 10, 11, 12, 13, 14, 15, 16, 17, 19, 20, 21, 22, 23] [4, 7, 9, 14, 17] [0, 1, 2, 3, 4, 5, 6, 7, 8, 9, 10, 11, 12, 13, 14, 15, 16, 17, 18, 19, 20, 21, 22, 23] (fun w' => ∃ x : Ext w8, w' = x.val) (by kernel_rfl) (by kernel_rfl) (Ext.of ((Upd.refl _ _).drew)) ?_
                            repeat (first | (refine wpOrd_load rfl rfl rfl rfl (fun K hK => ?_); go_big_quiet_step (fail); refine wpQuiet_nil ?_; refine hK _ ?_; clear hK K) | (refine wpOrd_free rfl rfl rfl (fun K hK => ?_); go_big_quiet_step (fail); refine wpQuiet_nil ?_; refine hK _ ?_; clear hK K))
                            refine wpOrd_fix rfl rfl (fun K hK => ?_)
                            go_wp2_with (go_at_call 46; (with_reducible refine (HRC.out _ ((Upd.refl _ w8).drew)).mono ?_); rintro e w9 ⟨v9, rfl, s9, u9⟩)
                            have U9 : Upd [] w8 w9 := ((Upd.refl _ w8).drew).step u9
                            refine ⟨fun _ => Ext.of U9, ?_⟩
                            repeat (first | (refine wpOrd_load rfl rfl rfl rfl (fun K hK => ?_); go_big_quiet_step (fail); refine wpQuiet_nil ?_; refine hK _ ?_; clear hK K) | (refine wpOrd_free rfl rfl rfl (fun K hK => ?_); go_big_quiet_step (fail); refine wpQuiet_nil ?_; refine hK _ ?_; clear hK K))
                            refine wpOrd_nil ?_
                            replace c2 := U9.some c2 (by simp)
                            replace k2 := U9.some k2 (by simp)
                            have HR9 := Lib.hid (And.intro (HU8.out.2.ext U9) s9)
                            clear c1 k1 hc6 s9 u9 HRC HU8
                            go_upto_region 33 with fail
                            refine wp_region_lit ?_
                            refine wpList_cutH 9 (fun K hK => ?_)
                            simp only [List.take_succ_cons, List.take_zero]
                            go_wp2_with fail
                            refine Halt_.intro ?_; try simp only [List.drop_succ_cons, List.drop_zero]
                            have g0 := Blk.new w9 [.int .i64 (rn : Int)] 3
                            have u0 := (Upd.refl [] w9).alloc (.cells #[.int .i64 (rn : Int)] 3)
                            have s0 := HR9.out.1.h.upd u0 (by simp)
                            have O0 := owns_blk (size := 1) (n := 1) g0 rfl (by unfold maxLen; omega)
                            have hhl : hs.length ≤ 65537 := by omega
                            refine wpList_appS rfl _ _ _ rfl 3 1 8 _ Try.underlying22 Trail.infoInt rfl (by decide) (.slice (some ⟨w9.heap.size, 0, none⟩) 1 1) 1 _ rfl O0 _ hs.length (ints hs) rfl s0 (ints_one _) (by unfold maxLen; omega) (by omega) ?_
                            intro a5 cap5 w7 o7 u7 k7
                            simp only [Act.put, List.setIfInBounds_toArray, List.set_cons_zero, List.set_cons_succ]
                            have U7 : Upd [] w9 w7 := u0.fresh u7 (fun q hq => .inr (by simp [Value.ownBlock] at hq; omega))
                            have HFI := Lib.hid (show Rw w vars es g v9 (.slice a5 (1 + hs.length) cap5) (resL (rsn L es m) D y) ((rn : Int) :: hs) w7 from
                              ⟨HX.out.1, HR9.out.2.upd U7 (by simp), by
                                rw [show ((rn : Int) :: hs).length = 1 + hs.length by simp; omega]
                                exact SL.of_owns o7, HR9.out.1.u.step U7⟩)
                            have HG := Lib.hid (show go L vars es g es.length c [(k : Int)] = go L vars es g m (resL (rsn L es m) D y) ((rn : Int) :: hs) by
                              rw [HR.out.2, HGE.out])
                            clear g0 u0 s0 O0 u7 k7 o7 U7 HR9 HR HGE HX c2 k2
                            go_wp2_with fail
                            exact ⟨⟨m, _, _, _, _, by go_num, rfl, rfl, by omega, by simp; omega, HG.out, HFI.out⟩, by simp [numOf]⟩
                          · rw [fitsB_false hf] at HFC
                            have HBD := Lib.hid (show anL L vars es k = (14, [], 0, []) by
                              have h1 : go L vars es g es.length c [(k : Int)] = (14, [], []) := by rw [HR.out.2, go_bad HUS.out hf]
                              rw [HA2.out, h1]
                              rfl)
                            clear hf HGU HRES HFD HUD HUS HA2
                            go_wp2_with (go_at_call 45; (with_reducible refine HFC.out.mono ?_); rintro e w8 ⟨rfl, u8⟩)
                            refine bodyPost_ret (results_tmp4 rfl _ _ _) rfl ?_
                            rw [HBD.out]
                            exact ⟨_, _, rfl, HN.out _, HN.out _, HUP.out.step (HU.out.step u8)⟩
                      · have HUS := Lib.hid hu
                        have hl0 : l ≠ 0 := fun h => hu (HUD.out.2 ⟨HYD.out, .inl h⟩)
                        have hor : l = g → many es g D = 1 := fun h => Classical.byContradiction fun h1 => hu (HUD.out.2 ⟨HYD.out, .inr ⟨h, h1⟩⟩)
                        clear hu
                        go_cut [125] (fun t w' => t = .bool true ∧ w' = wq)
                        case first =>
                          clear HGU HRES HFD HUD HR HUS HA2 HC2
                          have e1 : l > 0 := by omega
                          by_cases h1 : l = g
                          · have e2 : (l != g) = false := by simpa using h1
                            have h2 := hor h1
                            have e3 : (((many es g D : Nat) : Int) == 1) = true := by rw [beq_iff_eq]; omega
                            clear hor hl0 h1 h2
                            generalize ((many es g D : Nat) : Int) = mg at *
                            go_wp2_with fail
                            go_meet
                            case rel => exact ⟨rfl, rfl⟩
                          · have e2 : (l != g) = true := by simpa using h1
                            clear hor hl0 h1
                            go_wp2_with fail
                            go_meet
                            case rel => exact ⟨rfl, rfl⟩
                        case rest =>
                          obtain ⟨rfl, rfl⟩ := hcut
                          have HG := Lib.hid (show go L vars es g es.length c [(k : Int)] = go L vars es g m D hs by
                            rw [HR.out.2]; exact go_skip HUS.out)
                          have HRE := Lib.hid (HR.out.1.ext HU.out)
                          clear hor HGU HRES HFD HUD
                          go_wp2_with fail
                          exact ⟨⟨m, _, _, D, hs, by go_num, rfl, rfl, by omega, by omega, HG.out, HRE.out⟩, by simp [numOf]⟩
                · rw [hasB_no.2 hyd] at HHL
                  have HG := Lib.hid (show go L vars es g es.length c [(k : Int)] = go L vars es g m D hs by
                    rw [HR.out.2]; exact go_skip (fun hu => hyd (HUD.out.1 hu).1))
                  clear hyd hm2 HGU HRES HFD HUD
                  go_wp2_with (go_at_call 19; (with_reducible refine HHL.out.mono ?_); rintro e w5 ⟨rfl, rfl⟩)
                  exact ⟨⟨m, _, _, D, hs, by go_num, rfl, rfl, by omega, by omega, HG.out, HR.out.1⟩, by simp [numOf]⟩
      · have hb : (validErr c != 0) = true := by simpa using hva
        have HR := Lib.hid (show anL L vars es k = (validErr c, [], 0, []) by rw [HA0.out, if_pos hva])
        rw [HR.out]
        clear HR HA0
        generalize validErr c = z at *
        clear hva
        go_enter Try.func14, Try.ntmps14
        go_wp2_with (go_at_call 42; (with_reducible refine HVL.out.mono ?_); rintro e w3 ⟨rfl, u3⟩)
        refine bodyPost_ret (results_tmp4 rfl _ _ _) rfl ?_
        exact ⟨_, _, rfl, HN.out _, HN.out _, u3⟩
end
end Learn
end Go.Proofs.Ytdhhohnaehdpkaa
