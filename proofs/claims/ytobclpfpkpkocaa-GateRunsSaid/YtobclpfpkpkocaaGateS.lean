/- Walks through the reference of gates: Valid, Clauses. Conditions: none. -/
import Derived.Test.YtobclpfpkpkocaaGateR
set_option linter.unusedVariables false
set_option linter.unusedSimpArgs false
set_option linter.unusedSectionVars false
open Go.RowKit
namespace Go.Proofs.Ytobclpfpkpkocaa
open L
namespace Gate
open Cla R14 R01
section
variable {w : World}
theorem gErr_no {k o : Int} {xs : List Int} (h : ¬ gOk k o xs = true) : gErr k o xs = 1 := gErr_bad (by simpa using h)
set_option maxRecDepth 100000 in
set_option maxHeartbeats 8000000 in
theorem ValidR_calls {xv : Value} {k o : Int} {xs : List Int} (h : SL w 1 xv xs.length (ints xs)) (hi : ∀ x ∈ xs, IsI64 x) :
    Calls Try.prog 14 #[.agg #[.int .i64 k, .int .i64 o, xv]] w fun e w' => e = .returned (.int .i64 (gErr k o xs)) ∧ Upd [] w w' := by
  have HS := Lib.hid h
  obtain ⟨a, cap, rfl, q1, r1, hc⟩ := SL.elems h
  have HC := Lib.hid hc
  clear h hc
  go_enter Try.func14, Try.ntmps14
  go_upto_region 1 with fail
  have NB := Blk.new w [.int .i64 k, .int .i64 o, .slice a xs.length cap] 24
  have U1 := (Upd.refl [] w).alloc (.cells #[.int .i64 k, .int .i64 o, .slice a xs.length cap] 24)
  generalize w.alloc (.cells #[.int .i64 k, .int .i64 o, .slice a xs.length cap] 24) = w1 at *
  generalize w.heap.size = b at *
  have c0 := NB.cell (i := 0) rfl
  have c1 := NB.cell (i := 1) rfl
  have c2 := NB.cell (i := 2) rfl
  have H1 := Lib.hid (And.intro NB (And.intro U1 (HS.out.upd U1 (by simp))))
  clear NB U1
  by_cases hk0 : k < 0
  · have HE := Lib.hid (gErr_no (show ¬ gOk k o xs = true by rw [gOk_iff]; intro h; omega))
    refine wp_region_qx (by kernel_rfl) (by kernel_rfl) ?_
    repeat (go_big_quiet_step ((fail)))
    refine wpQuiet_nil ?_
    intro x
    go_wp2_with fail
    go_ret
    exact ⟨ret_int HE.out.symm, H1.out.2.1.step x.upd⟩
  by_cases hk6 : 6 < k
  · have HE := Lib.hid (gErr_no (show ¬ gOk k o xs = true by rw [gOk_iff]; intro h; omega))
    refine wp_region_qx (by kernel_rfl) (by kernel_rfl) ?_
    repeat (go_big_quiet_step ((fail)))
    refine wpQuiet_nil ?_
    intro x
    go_wp2_with fail
    go_ret
    exact ⟨ret_int HE.out.symm, H1.out.2.1.step x.upd⟩
  by_cases ho1 : o < 1
  · have HE := Lib.hid (gErr_no (show ¬ gOk k o xs = true by rw [gOk_iff]; intro h; omega))
    refine wp_region_qx (by kernel_rfl) (by kernel_rfl) ?_
    repeat (go_big_quiet_step ((fail)))
    refine wpQuiet_nil ?_
    intro x
    go_wp2_with fail
    go_ret
    exact ⟨ret_int HE.out.symm, H1.out.2.1.step x.upd⟩
  by_cases ho2 : 1073741824 < o
  · have HE := Lib.hid (gErr_no (show ¬ gOk k o xs = true by rw [gOk_iff]; intro h; omega))
    refine wp_region_qx (by kernel_rfl) (by kernel_rfl) ?_
    repeat (go_big_quiet_step ((fail)))
    refine wpQuiet_nil ?_
    intro x
    go_wp2_with fail
    go_ret
    exact ⟨ret_int HE.out.symm, H1.out.2.1.step x.upd⟩
  by_cases hn : xs.length = ninp k
  · have hb : ((xs.length : Int) != (ninp k : Int)) = false := by simp [hn]
    have hn3 := ninp_le k
    by_cases hle : listErr xs = 0
    · have HN := Lib.hid (And.intro hn (listErr_lit hle).2)
      have HOK := Lib.hid (show (∀ x ∈ xs, (x.natAbs : Int) ≠ o) → gErr k o xs = 0 from fun h => gErr_good (gOk_iff.2 ⟨by omega, by omega, hn, fun x hx => ⟨(listErr_lit hle).2 x hx, by have := h x hx; omega, by have := h x hx; omega⟩⟩))
      have HBAD := Lib.hid (show ∀ x ∈ xs, (x.natAbs : Int) = o → gErr k o xs = 1 from fun x hx h => gErr_no (by rw [gOk_iff]; intro h2; have := h2.2.2.2 x hx; omega))
      have HLE := Lib.hid hle
      clear hn
      refine wp_region_qx (by kernel_rfl) (by kernel_rfl) ?_
      repeat (go_big_quiet_step (((first | (go_at_call 17; exact qx (InputsR_calls k (by omega) (by omega))) | (go_at_call 34; refine (qs (RList_calls (H1.out.2.2.upd (Ext.upd _) (by simp)))).mono ?_; rw [HLE.out]; exact fun _ _ h => h)))))
      refine wpQuiet_nil ?_
      intro x
      have H2 := Lib.hid (And.intro (H1.out.1.upd x.upd (by simp)) (H1.out.2.1.step x.upd))
      clear c0 c1 c2 hle
      generalize x.val = w2 at *
      go_wp2_with fail
      go_loopw [3] (fun i wr => ∃ j : Nat, i = .int .i64 j ∧ j ≤ xs.length ∧ (∀ x ∈ xs.take j, (x.natAbs : Int) ≠ o) ∧ Upd [] w2 wr) (fun i _ => xs.length - (intOf i).toNat)
      case atStart => exact ⟨0, rfl, Nat.zero_le _, by simp, Upd.refl _ _⟩
      case round =>
        obtain ⟨wo, rfl⟩ : ∃ wo : World, wo = wr := ⟨_, rfl⟩
        obtain ⟨j, rfl, hj, hlo, hu⟩ := hrel
        have B2 := H2.out.1.upd hu (by simp)
        have d1 := B2.cell (i := 1) rfl
        have d2 := B2.cell (i := 2) rfl
        have HLO := Lib.hid (And.intro hlo hu)
        clear hlo hu B2
        by_cases hlt : j < xs.length
        · obtain ⟨g, off, rfl, k1⟩ := HC.out (by omega)
          have e0 := (H2.out.2.step HLO.out.2).some (k1 j _ (ints_gd hlt)) (by simp)
          obtain ⟨_, hx1, hx2⟩ := HN.out.2 _ (gd_mem hlt)
          have hm := gd_mem hlt
          have hts : xs.take (j + 1) = xs.take j ++ [xs.getD j 0] := by rw [List.take_add_one, gd_some (d := 0) hlt]; rfl
          clear k1
          generalize xs.getD j 0 = y at *
          have HX := Lib.hid (And.intro hm hts)
          clear hm hts
          by_cases hyo : (y.natAbs : Int) = o
          · have HE := Lib.hid (HBAD.out y HX.out.1 hyo)
            have hbb : ((y.natAbs : Int) == o) = true := by simpa using hyo
            clear hyo
            go_wp2_with fail
            refine wp_region_qx (by kernel_rfl) (by kernel_rfl) ?_
            repeat (go_big_quiet_step (((go_at_call 35; exact qs (Var_calls y _ (by omega) (by omega))))))
            refine wpQuiet_nil ?_
            intro x
            go_wp2_with fail
            go_ret
            exact ⟨ret_int HE.out.symm, (H2.out.2.step HLO.out.2).step x.upd⟩
          · have HI := Lib.hid hyo
            have hbb : ((y.natAbs : Int) == o) = false := by simpa using hyo
            clear hyo
            go_wp2_with fail
            refine wp_region_qx (by kernel_rfl) (by kernel_rfl) ?_
            repeat (go_big_quiet_step (((go_at_call 35; exact qs (Var_calls y _ (by omega) (by omega))))))
            refine wpQuiet_nil ?_
            intro x
            go_wp2_with fail
            refine ⟨⟨j + 1, by go_num, by omega, fun z hz => ?_, HLO.out.2.step x.upd⟩, by simp [intOf]; omega⟩
            rw [HX.out.2] at hz
            rcases List.mem_append.1 hz with hz | hz
            · exact HLO.out.1 z hz
            · simp at hz; subst hz; exact HI.out
        · have HE := Lib.hid (HOK.out (by have := HLO.out.1; rwa [List.take_of_length_le (by omega)] at this))
          go_wp2_with fail
          go_ret
          exact ⟨ret_int HE.out.symm, H2.out.2.step HLO.out.2⟩
    · have HE := Lib.hid (gErr_no (show ¬ gOk k o xs = true by rw [gOk_iff]; intro h; exact hle (listErr_lits (by omega) fun x hx => (h.2.2.2 x hx).1)))
      have hb2 : (listErr xs != 0) = true := by simpa using hle
      clear hn hle
      refine wp_region_qx (by kernel_rfl) (by kernel_rfl) ?_
      repeat (go_big_quiet_step (((first | (go_at_call 17; exact qx (InputsR_calls k (by omega) (by omega))) | (go_at_call 34; exact qs (RList_calls (H1.out.2.2.upd (Ext.upd _) (by simp))))))))
      refine wpQuiet_nil ?_
      intro x
      go_wp2_with fail
      go_ret
      exact ⟨ret_int HE.out.symm, H1.out.2.1.step x.upd⟩
  · have hb : ((xs.length : Int) != (ninp k : Int)) = true := by simp; omega
    have HE := Lib.hid (gErr_no (show ¬ gOk k o xs = true by rw [gOk_iff]; intro h; exact hn h.2.2.1))
    clear hn
    refine wp_region_qx (by kernel_rfl) (by kernel_rfl) ?_
    repeat (go_big_quiet_step (((go_at_call 17; exact qx (InputsR_calls k (by omega) (by omega))))))
    refine wpQuiet_nil ?_
    intro x
    go_wp2_with fail
    go_ret
    exact ⟨ret_int HE.out.symm, H1.out.2.1.step x.upd⟩
theorem raw_row {k o : Int} {xs : List Int} {i : Nat} (hi : i < (rowsOf k).length) : (gRaw k o xs).getD i [] = ((rowsOf k).getD i []).map (litOf o xs) := by
  unfold gRaw
  simp [List.getD_eq_getElem?_getD, hi]
set_option maxRecDepth 100000 in
set_option maxHeartbeats 8000000 in
theorem ClausesR_calls {xv : Value} {k o : Int} {xs : List Int} (h : SL w 1 xv xs.length (ints xs)) (hi : ∀ x ∈ xs, IsI64 x) :
    Calls Try.prog 12 #[.agg #[.int .i64 k, .int .i64 o, xv]] w (ClsT k o xs w) := by
  have HS := Lib.hid (And.intro h hi)
  obtain ⟨a, cap, rfl, q1, r1, _⟩ := SL.elems h
  clear h hi
  go_enter Try.func12, Try.ntmps12
  go_upto_region 1 with fail
  have NB := Blk.new w [.int .i64 k, .int .i64 o, .slice a xs.length cap] 24
  have U1 := (Upd.refl [] w).alloc (.cells #[.int .i64 k, .int .i64 o, .slice a xs.length cap] 24)
  generalize w.alloc (.cells #[.int .i64 k, .int .i64 o, .slice a xs.length cap] 24) = w1 at *
  generalize w.heap.size = b at *
  have c0 := NB.cell (i := 0) rfl
  have c1 := NB.cell (i := 1) rfl
  have c2 := NB.cell (i := 2) rfl
  have H1 := Lib.hid (And.intro NB (And.intro U1 (HS.out.1.upd U1 (by simp))))
  clear NB U1
  cases hg : gOk k o xs with
  | false =>
    have HG := Lib.hid (And.intro hg (gErr_bad hg))
    clear hg
    go_wp2_with fail
    refine (ValidR_calls (k := k) (o := o) H1.out.2.2 HS.out.2).mono ?_
    rintro e w2 ⟨rfl, u2⟩
    rw [HG.out.2]
    have H2 := Lib.hid (H1.out.2.1.step u2)
    clear u2
    go_wp2_with fail
    go_ret2
    exact ⟨fun _ => ⟨rfl, H2.out⟩, fun h => absurd (HG.out.1.symm.trans h) (by decide)⟩
  | true =>
    have HG := Lib.hid (And.intro hg (gErr_good hg))
    obtain ⟨⟨hk0, hk6⟩, ⟨ho1, ho2⟩, hn, _⟩ := gOk_iff.1 hg
    obtain ⟨hr1, hr2⟩ := rowsOf_ok hk0 hk6
    have hq := gRaw_ok hg
    have hrl : (gRaw k o xs).length = (rowsOf k).length := by unfold gRaw; rw [List.length_map]
    have HR := Lib.hid (And.intro hr1 (And.intro hq (And.intro hn hrl)))
    clear hg hr1 hn hq
    go_wp2_with fail
    refine (ValidR_calls (k := k) (o := o) H1.out.2.2 HS.out.2).mono ?_
    rintro e w2 ⟨rfl, u2⟩
    rw [HG.out.2]
    replace c0 := u2.some c0 (by simp)
    have H2 := Lib.hid (And.intro (H1.out.1.upd u2 (by simp)) (H1.out.2.1.step u2))
    clear u2 c1 c2
    go_wp2_with fail
    refine (Rows_calls k hk0 hk6).mono ?_
    rintro e w3 ⟨v3, rfl, hcl, u3⟩
    obtain ⟨ar, capr, rfl, hq1, hq2, hrows⟩ := hcl.form
    have H3 := Lib.hid (And.intro (H2.out.1.upd u3 (by simp)) (And.intro (H2.out.2.step u3) hrows))
    clear hcl u3 hrows c0 H2
    go_wp2_with fail
    go_loopw [5, 6] (fun o' i wr => ∃ (j : Nat) (F : List Nat), i = .int .i64 j ∧ j ≤ (rowsOf k).length ∧ OwnL 22 w3 o' (keep ((gRaw k o xs).take j)) F wr ∧ (∀ b ∈ F, w3.heap.size ≤ b) ∧ Upd [] w3 wr) (fun _ i _ => (rowsOf k).length - (intOf i).toNat)
    case atStart => exact ⟨0, [], rfl, Nat.zero_le _, OwnL.nil _ _ _, by simp, Upd.refl _ _⟩
    case round =>
      obtain ⟨wo, rfl⟩ : ∃ wo : World, wo = wr := ⟨_, rfl⟩
      obtain ⟨j, F, rfl, hj, hO, hF, hu⟩ := hrel
      by_cases hlt : j < (rowsOf k).length
      · have hrow := (H3.out.2.2 j hlt).upd hu
        have HC := Lib.hid hrow
        obtain ⟨g, off, ay, capy, rfl, e1, hsl, hcy1, hcy2⟩ := hrow
        obtain ⟨r1, r2, r3⟩ := HR.out.1 _ (gd_memA (d := []) hlt)
        have hraw := raw_row (k := k) (o := o) (xs := xs) hlt
        have hok := HR.out.2.1.1 _ (gd_memA (d := []) (show j < (gRaw k o xs).length by omega))
        have hkt := keep_take (cs := gRaw k o xs) (show j < (gRaw k o xs).length by omega)
        have hkl := keep_len ((gRaw k o xs).take j)
        rw [List.length_take] at hkl
        rw [hraw] at hok hkt
        generalize (rowsOf k).getD j [] = row at *
        have HL := Lib.hid (And.intro hO (And.intro hF (And.intro hu (And.intro hkt (And.intro hok (And.intro r3 hsl))))))
        clear hO hF hu hkt hok hsl r3 hraw
        generalize keep ((gRaw k o xs).take j) = L at *
        go_wp2_with fail
        go_loopw [7, 8] (fun o' i wr => ∃ m : Nat, i = .int .i64 m ∧ m ≤ row.length ∧ Own wo o' ((row.take m).map (litOf o xs)) wr) (fun _ i _ => row.length - (intOf i).toNat)
        case atStart => exact ⟨0, rfl, Nat.zero_le _, Own.nil wo⟩
        case round =>
          obtain ⟨wi, rfl⟩ : ∃ wi : World, wi = wr := ⟨_, rfl⟩
          obtain ⟨m, rfl, hm, hown⟩ := hrel
          have hml : ((row.take m).map (litOf o xs)).length ≤ 4 := by rw [List.length_map, List.length_take]; omega
          have e1' := hown.u.some e1 (by simp)
          have HOW := Lib.hid hown
          obtain ⟨aw, cw, rfl, _, _⟩ := hown.form
          clear hown
          by_cases hltm : m < row.length
          · obtain ⟨_, _, he, _, _, k2⟩ := SL.elems (HL.out.2.2.2.2.2.2.upd HOW.out.u (by simp))
            cases he
            obtain ⟨g2, off2, rfl, k3⟩ := k2 (by omega)
            have e2 := k3 m _ (ints_gd hltm)
            have hnr := HL.out.2.2.2.2.2.1 _ (gd_mem hltm)
            have hts : (row.take (m + 1)).map (litOf o xs) = (row.take m).map (litOf o xs) ++ [litOf o xs (row.getD m 0)] := by rw [List.take_add_one, gd_some (d := 0) hltm]; simp
            clear k2 k3
            generalize row.getD m 0 = n at *
            have hn3 := ninp_le k
            have hlv := litVar_ok HG.out.1 hnr
            have HN := Lib.hid (fun (w : World) (h : SL w 1 (.slice a xs.length cap) xs.length (ints xs)) => Literal_calls (k := k) (o := o) (n := n) h (by have := HR.out.2.2.1; omega) hlv.2)
            have HT := Lib.hid hts
            have B4 := (H3.out.1.upd HL.out.2.2.1 (by simp)).upd HOW.out.u (by simp)
            have c0 := B4.cell (i := 0) rfl
            have c1 := B4.cell (i := 1) rfl
            have c2 := B4.cell (i := 2) rfl
            have HX := Lib.hid (((HS.out.1.upd H3.out.2.1 (by simp)).upd HL.out.2.2.1 (by simp)).upd HOW.out.u (by simp))
            clear hts hnr hlv B4 hn3
            generalize litOf o xs n = y at *
            generalize (row.take m).map (litOf o xs) = pre at *
            go_upto_region 12 with fail
            refine wp_region_ord 9 3 [0, 1, 2, 3, 4, 5, 6, 7, 8, 12] [1, 5, 8] [0, 1, 2, 3, 4, 5, 6, 7, 8, 9, 10, 11, 12] (fun w' => ∃ x : Ext wi, w' = x.val) (by kernel_rfl) (by kernel_rfl) (Ext.of (by iterate 25 (first | exact Upd.refl _ _ | assumption | refine Upd.alloc ?_ _ | refine Upd.drew ?_ | refine Upd.drewN ?_ _ | refine Upd.dl ?_ | refine Upd.step ?_ (Ext.upd _) | refine Upd.nil ?_ | skip))) ?_
            repeat (first | (refine wpOrd_load rfl rfl rfl rfl (fun K hK => ?_); go_big_quiet_step (fail); refine wpQuiet_nil ?_; refine hK _ ?_; clear hK K) | (refine wpOrd_free rfl rfl rfl (fun K hK => ?_); go_big_quiet_step (fail); refine wpQuiet_nil ?_; refine hK _ ?_; clear hK K))
            refine wpOrd_fix rfl rfl (fun K hK => ?_)
            go_wp2_with (go_at_call 30; refine (HN.out _ (HX.out.upd (S := []) (by iterate 25 (first | exact Upd.refl _ _ | assumption | refine Upd.alloc ?_ _ | refine Upd.drew ?_ | refine Upd.drewN ?_ _ | refine Upd.dl ?_ | refine Upd.step ?_ (Ext.upd _) | refine Upd.nil ?_ | skip)) (by simp))).mono ?_; rintro e w5 ⟨rfl, u5⟩)
            have H5 := Lib.hid (show Upd [] wi w5 from Upd.step (by iterate 25 (first | exact Upd.refl _ _ | assumption | refine Upd.alloc ?_ _ | refine Upd.drew ?_ | refine Upd.drewN ?_ _ | refine Upd.dl ?_ | refine Upd.step ?_ (Ext.upd _) | refine Upd.nil ?_ | skip)) u5)
            clear u5 c0 c1 c2 e1' e2
            refine ⟨fun hC => absurd hC (by decide), ?_⟩
            repeat (first | (refine wpOrd_load rfl rfl rfl rfl (fun K hK => ?_); go_big_quiet_step (fail); refine wpQuiet_nil ?_; refine hK _ ?_; clear hK K) | (refine wpOrd_free rfl rfl rfl (fun K hK => ?_); go_big_quiet_step (fail); refine wpQuiet_nil ?_; refine hK _ ?_; clear hK K))
            refine wpOrd_fix rfl rfl (fun K hK => ?_)
            go_wp2_with fail
            have N6 := Blk.new w5 [.int .i64 y] 3
            have u6 := (Upd.refl [] w5).alloc (.cells #[.int .i64 y] 3)
            generalize w5.alloc (.cells #[.int .i64 y] 3) = w6 at *
            generalize w5.heap.size = g6 at *
            have H6 := Lib.hid (And.intro N6 (HOW.out.quiet (H5.out.step u6)))
            clear N6 u6
            refine ⟨fun hC => absurd hC (by decide), ?_⟩
            repeat (first | (refine wpOrd_load rfl rfl rfl rfl (fun K hK => ?_); go_big_quiet_step (fail); refine wpQuiet_nil ?_; refine hK _ ?_; clear hK K) | (refine wpOrd_free rfl rfl rfl (fun K hK => ?_); go_big_quiet_step (fail); refine wpQuiet_nil ?_; refine hK _ ?_; clear hK K))
            refine wpOrd_fix rfl rfl (fun K hK => ?_)
            go_wp2_with (refine wpList_app rfl _ _ _ rfl 3 1 8 _ Try.underlying22 infoInt rfl (by decide) _ _ _ rfl H6.out.2.row g6 1 1 [.int .i64 y] 3 rfl rfl H6.out.1 (ints_one [y]) (by omega) (by unfold maxLen; omega) (by omega) ?_; intro g7 cap7 w7 o7 u7 k7; simp only [Act.put, List.setIfInBounds_toArray, List.set_cons_zero, List.set_cons_succ])
            have N7 := H6.out.2.push o7 u7 (k7.elim .inl (fun h => .inr (by omega)))
            have H7 := Lib.hid N7
            clear o7 u7 k7 N7
            refine ⟨fun hC => absurd hC (by decide), ?_⟩
            repeat (first | (refine wpOrd_load rfl rfl rfl rfl (fun K hK => ?_); go_big_quiet_step (fail); refine wpQuiet_nil ?_; refine hK _ ?_; clear hK K) | (refine wpOrd_free rfl rfl rfl (fun K hK => ?_); go_big_quiet_step (fail); refine wpQuiet_nil ?_; refine hK _ ?_; clear hK K))
            refine wpOrd_nil ?_
            go_wp2_with fail
            exact ⟨⟨m + 1, by go_num, by omega, by rw [HT.out]; exact H7.out⟩, by simp [intOf]; omega⟩
          · have hfull : (row.take m).map (litOf o xs) = row.map (litOf o xs) := by rw [List.take_of_length_le (by omega)]
            have hkt := HL.out.2.2.2.1
            obtain ⟨_, hc0, hc4, hcx⟩ := HL.out.2.2.2.2.1
            rw [hfull] at HOW hml ⊢
            generalize row.map (litOf o xs) = c at *
            have HN := Lib.hid (RNormal_callsF HOW.out.sl (by omega) hcx)
            have HW := Lib.hid (And.intro HL.out.1 (And.intro HL.out.2.1 (And.intro HL.out.2.2.1 HOW.out.u)))
            clear hfull HL hcx HOW e1 HC
            cases ht : taut c with
            | true =>
              have HK := Lib.hid (show keep ((gRaw k o xs).take (j + 1)) = L by rw [hkt, if_pos ht]; simp)
              have hb : tautB c = true := ht
              have HB := Lib.hid hb
              have hnl : nrm c = [] := by unfold nrm; rw [if_pos ht]
              clear ht hb hkt
              go_wp2_with fail
              refine HN.out.mono ?_
              rintro e w5 ⟨v5, rfl, s5, u5, k5⟩
              rw [hnl] at s5
              rw [HB.out]
              obtain ⟨a5, cap5, rfl, _⟩ := SL.elems s5
              have H5 := Lib.hid (HW.out.2.2.2.step u5)
              clear s5 u5 k5 hnl HN
              go_wp2_with fail
              exact ⟨⟨j + 1, F, by go_num, by omega, by rw [HK.out]; exact HW.out.1.upd H5.out (by simp), HW.out.2.1, HW.out.2.2.1.step H5.out⟩, by simp [intOf]; omega⟩
            | false =>
              have HK := Lib.hid (show keep ((gRaw k o xs).take (j + 1)) = L ++ [norm c] by rw [hkt, ht]; simp)
              have hb : tautB c = false := ht
              have HB := Lib.hid hb
              have hnl : nrm c = norm c := by unfold nrm; rw [ht]; simp
              clear ht hb hkt
              go_wp2_with fail
              refine HN.out.mono ?_
              rintro e w5 ⟨v5, rfl, s5, u5, k5⟩
              rw [hnl] at s5
              rw [HB.out]
              obtain ⟨a5, cap5, rfl, _⟩ := SL.elems s5
              have HO := Lib.hid (And.intro s5 (And.intro (HW.out.2.2.2.step u5) (fun g hg => Nat.le_trans HW.out.2.2.2.size (k5 g hg))))
              clear s5 u5 k5 hnl HN
              go_upto_region 15 with fail
              have C1 := HW.out.1.upd HO.out.2.1 (by simp)
              obtain ⟨vals, hv, hvs⟩ := C1.ex
              go_wp2_with (refine wpList_push rfl rfl _ _ _ _ rfl rfl rfl 22 1 24 _ Try.underlying28 infoInts rfl (by decide) (by decide) (.slice a5 (norm c).length cap5) [.slice a5 (norm c).length cap5] rfl rfl rfl (by simp [Value.oneCell']) _ _ _ hv.row rfl rfl (by unfold maxLen; omega) (by omega) ?_; intro g6 cap6 w6 o6 u6 k6)
              have hsz := HW.out.2.2.1.size
              have hsz2 := HO.out.2.1.size
              have L2 := C1.push (c := norm c) hv hvs (by omega) HO.out.1 (fun b hb => by
                have h2 := HO.out.2.2 b hb
                refine ⟨fun h => ?_, ?_⟩
                · have := HW.out.1.own_lt b h
                  omega
                · exact SLown_lt HO.out.1 (norm_pos hc0) hb) o6 u6 k6
              have U3 : Upd [] w3 w6 := (HW.out.2.2.1.step HO.out.2.1).fresh u6 (fun b hb => .inr (hv.fresh b (by simpa using hb)))
              refine ⟨⟨j + 1, F ++ (Value.slice a5 (norm c).length cap5).ownBlock.toList, by go_num, by omega, by rw [HK.out]; exact L2, fun b hb => ?_, U3⟩, by simp [intOf]; omega⟩
              rcases List.mem_append.1 hb with hb | hb
              · exact HW.out.2.1 b hb
              · have := HO.out.2.2 b (by simpa using hb); omega
      · have hcl := hO.cl
        rw [List.take_of_length_le (by rw [HR.out.2.2.2]; omega)] at hcl
        have HQ := Lib.hid (And.intro hcl hu)
        obtain ⟨ah, ch, rfl, _, _, _⟩ := hcl.form
        clear hcl hO hu
        go_wp2_with fail
        go_ret2
        exact ⟨fun h => absurd (HG.out.1.symm.trans h) (by decide), fun _ => ⟨_, rfl, HQ.out.1, H3.out.2.1.step HQ.out.2⟩⟩
end
end Gate
end Go.Proofs.Ytobclpfpkpkocaa
