/- Walks through package gate: run. Conditions: none. -/
import Derived.Test.YtobclpfpkpkocaaGateQ
set_option linter.unusedVariables false
set_option linter.unusedSimpArgs false
set_option linter.unusedSectionVars false
open Go.RowKit
namespace Go.Proofs.Ytobclpfpkpkocaa
open L
namespace Gate
open Cla R14 R01
theorem infoBool2 : (Try.prog.info? 4).map (fun i => (i.zero, i.size, i.bytes)) = some (some (.bool false), 1, 1) := by kernel_rfl
theorem max_abs (x : Int) : max x (-x) = (x.natAbs : Int) := by omega
/-- A row of one's own as a block. -/
theorem own_blk {w0 w : World} {a : Option Addr} {cap : Nat} {A : List Int} (h : Own w0 (.slice a A.length cap) A w) (h0 : 0 < A.length) : ∃ ga rest, a = some ⟨ga, 0, none⟩ ∧ Blk w ga (ints A ++ rest) 3 ∧ A.length ≤ cap ∧ cap ≤ maxLen ∧ A.length + rest.length = cap ∧ w0.heap.size ≤ ga := by
  obtain ⟨g, cb, he, _, _⟩ := owns_form h.row h0
  cases he
  obtain ⟨_, hrow⟩ := h.row
  rcases hrow with ⟨hr, _⟩ | ⟨g', cap', cur, he, _, hcur, hnc, hcm, hcs, htake⟩
  · cases hr
  cases he
  refine ⟨g, cur.toList.drop A.length, rfl, ?_, hnc, hcm, ?_, h.fresh g rfl⟩
  · unfold Blk
    rw [hcur]
    congr 2
    apply Array.toList_inj.1
    simp only [List.toList_toArray]
    rw [← htake]
    conv => lhs; rw [← List.take_append_drop A.length cur.toList]
    rw [Nat.mul_one]
  · simp only [List.length_drop, Array.length_toList]; omega
theorem own_of_blk {w0 w : World} {ga cap : Nat} {A rest : List _} (hB : Blk w ga (ints A ++ rest) 3) (h1 : A.length ≤ cap) (h2 : cap ≤ maxLen) (h3 : A.length + rest.length = cap) (hf : w0.heap.size ≤ ga) (hu : Upd [] w0 w) : Own w0 (.slice (some ⟨ga, 0, none⟩) A.length cap) A w :=
  ⟨⟨by rw [ints_length]; omega, .inr ⟨ga, cap, _, rfl, Nat.zero_le _, hB, h1, h2, by simp [ints_length]; omega, by simp only [List.toList_toArray]; rw [List.take_left' (by rw [ints_length]; simp)]⟩⟩, fun g hg => by simp only [Value.ownBlock, Option.some.injEq] at hg; omega, hu⟩
/-- What run leaves. -/
def RunT (k o : Int) (xs A : List Int) (w0 : World) (a : Option Addr) (cap : Nat) (e : Ending) (w' : World) : Prop :=
  e = .returned (.int .i64 (runErr o xs A)) ∧ Own w0 (.slice a A.length cap) (if runErr o xs A = 0 then runSet k o xs A else A) w'
section
variable {w0 w : World}
set_option maxRecDepth 100000 in
set_option maxHeartbeats 8000000 in
theorem RunG_calls {xv : Value} {k o : Int} {xs A : List Int} {a : Option Addr} {cap : Nat} (h : SL w0 1 xv xs.length (ints xs)) (hok : gOk k o xs = true) (hO : Own w0 (.slice a A.length cap) A w) (hA : ∀ x ∈ A, IsI64 x) :
    Calls Try.prog 46 #[.agg #[.int .i64 k, .int .i64 o, xv], .slice a A.length cap] w (RunT k o xs A w0 a cap) := by
  obtain ⟨ax, cx, rfl, q1, r1, hc⟩ := SL.elems h
  obtain ⟨⟨hk0, hk6⟩, ⟨ho1, ho2⟩, hxl, hxx⟩ := gOk_iff.1 hok
  have hx3 : xs.length ≤ 3 := by have := ninp_le k; omega
  obtain ⟨oN, rfl⟩ := Int.eq_ofNat_of_zero_le (show 0 ≤ o by omega)
  have HX := Lib.hid (And.intro hc (And.intro hxx (And.intro hxl hA)))
  have HO := Lib.hid hO
  obtain ⟨_, _, he, hcq, hcr, hcA⟩ := SL.elems hO.sl
  cases he
  have HA := Lib.hid hcA
  have HAG := Lib.hid (fun g (hg : (Value.slice a A.length cap).ownBlock = some g) => (hO.row.lt g hg).2)
  clear h hc hxx hxl hO hok hcA hA
  go_enter Try.func46, Try.ntmps46
  go_upto_region 1 with fail
  have NB := Blk.new w [.int .i64 k, .int .i64 oN, .slice ax xs.length cx] 32
  have U1 := (Upd.refl [] w).alloc (.cells #[.int .i64 k, .int .i64 oN, .slice ax xs.length cx] 32)
  generalize w.alloc (.cells #[.int .i64 k, .int .i64 oN, .slice ax xs.length cx] 32) = w1 at *
  have hbw : w.heap.size = w.heap.size := rfl
  generalize hb : w.heap.size = b at *
  have HBW := Lib.hid hb
  have c0 := NB.cell (i := 0) rfl
  have c1 := NB.cell (i := 1) rfl
  have c2 := NB.cell (i := 2) rfl
  have H1 := Lib.hid (And.intro NB (And.intro U1 (HO.out.quiet U1)))
  clear NB U1 hb hbw
  by_cases hlo : (A.length : Int) ≤ oN
  · have HE := Lib.hid (runErr_long (xs := xs) hlo)
    go_wp2_with fail
    go_ret
    exact ⟨ret_int HE.out.symm, by rw [HE.out]; exact H1.out.2.2⟩
  have hA0 : 0 < A.length := by omega
  go_wp2_with fail
  go_loopw [22] (fun i wr => ∃ j : Nat, i = .int .i64 j ∧ j ≤ xs.length ∧ (∀ x ∈ xs.take j, badV A x = false) ∧ wr = w1) (fun i _ => xs.length - (intOf i).toNat)
  case atStart => exact ⟨0, rfl, Nat.zero_le _, by simp, rfl⟩
  case round =>
    obtain ⟨j, rfl, hj, hlb, rfl⟩ := hrel
    have HLB := Lib.hid hlb
    clear hlb
    by_cases hlt : j < xs.length
    · obtain ⟨g, off, rfl, k1⟩ := HX.out.1 (by omega)
      have e0 := (HO.out.u.step H1.out.2.1).some (k1 j _ (ints_gd hlt)) (by simp)
      have hm := gd_mem hlt
      obtain ⟨⟨hx0, hx1, hx2⟩, _⟩ := HX.out.2.1 _ hm
      have hts : xs.take (j + 1) = xs.take j ++ [xs.getD j 0] := by rw [List.take_add_one, gd_some (d := 0) hlt]; rfl
      clear k1
      generalize xs.getD j 0 = x at *
      have HM := Lib.hid (And.intro hm hts)
      have hmx := max_abs x
      clear hm hts hx0
      by_cases hr : A.length ≤ x.natAbs
      · have hr2 : (A.length : Int) ≤ x.natAbs := by omega
        have HE := Lib.hid (runErr_bad (o := (oN : Int)) (A := A) HM.out.1 (by unfold badV; simp [hr]))
        go_wp2_with fail
        go_ret
        exact ⟨ret_int HE.out.symm, by rw [HE.out]; exact H1.out.2.2⟩
      · have hr3 : x.natAbs < A.length := by omega
        have hr2 : ¬ (A.length : Int) ≤ x.natAbs := by omega
        have hbv : badV A x = (decide (A.getD x.natAbs 0 < -1) || decide (1 < A.getD x.natAbs 0)) := by unfold badV; rw [decide_eq_false hr, Bool.false_or]
        obtain ⟨g2, off2, rfl, k2⟩ := HA.out (by omega)
        have e2 := H1.out.2.1.some (k2 x.natAbs _ (ints_gd hr3)) (by simp)
        have HBV := Lib.hid hbv
        clear k2 hbv
        generalize A.getD x.natAbs 0 = y at *
        by_cases hy1 : y < -1
        · have HE := Lib.hid (runErr_bad (o := (oN : Int)) (A := A) HM.out.1 (by rw [HBV.out]; simp [hy1]))
          go_wp2_with fail
          go_ret
          exact ⟨ret_int HE.out.symm, by rw [HE.out]; exact H1.out.2.2⟩
        by_cases hy2 : 1 < y
        · have HE := Lib.hid (runErr_bad (o := (oN : Int)) (A := A) HM.out.1 (by rw [HBV.out]; simp [hy2]))
          go_wp2_with fail
          go_ret
          exact ⟨ret_int HE.out.symm, by rw [HE.out]; exact H1.out.2.2⟩
        · have HN := Lib.hid (show badV A x = false by rw [HBV.out]; simp [hy1, hy2])
          go_wp2_with fail
          refine ⟨⟨j + 1, by go_num, by omega, fun z hz => ?_, by first | rfl | trivial⟩, by simp [intOf]; omega⟩
          rw [HM.out.2] at hz
          rcases List.mem_append.1 hz with hz | hz
          · exact HLB.out z hz
          · simp at hz; subst hz; exact HN.out
    · have hlb := HLB.out
      rw [List.take_of_length_le (by omega)] at hlb
      have HNB := Lib.hid hlb
      clear hlb HLB
      obtain ⟨w1, rfl⟩ : ∃ w1 : World, w1 = wr := ⟨_, rfl⟩
      go_upto_region 11 with (refine wpList_mk rfl _ _ _ rfl 4 1 1 _ Try.underlying41 infoBool2 rfl (by decide) _ _ _ _ xs.length rfl rfl rfl rfl (by omega) (by omega) ?_; simp only [Act.put, List.setIfInBounds_toArray, List.set_cons_zero, List.set_cons_succ]; rw [show (rows xs.length fun _ => (Value.bool false).cells.toList) = bools (known A xs 0) by show rows xs.length (fun _ => [Value.bool false]) = _; rw [rows_one, known_zero]; simp [bools]])
      have NI := Blk.new w1 (bools (known A xs 0)) 4
      have UI := (Upd.refl [] w1).alloc (.cells (bools (known A xs 0)).toArray 4)
      have hwz : w1.heap.size < (w1.alloc (.cells (bools (known A xs 0)).toArray 4)).heap.size := by simp
      generalize w1.alloc (.cells (bools (known A xs 0)).toArray 4) = w2 at *
      generalize hgi : w1.heap.size = gi at *
      have hg1 : w.heap.size ≤ gi := by rw [← hgi]; exact H1.out.2.1.size
      have hbg : b < gi := by rw [← hgi]; exact H1.out.1.lt
      have H2 := Lib.hid (And.intro NI (And.intro (H1.out.1.upd UI (by simp)) (And.intro (H1.out.2.2.quiet UI) hg1)))
      clear NI UI hg1 hgi H1 c0 c1 c2
      have c2 := H2.out.2.1.cell (i := 2) rfl
      go_wp2_with fail
      go_loopw [56] (fun i wr => ∃ j : Nat, i = .int .i64 j ∧ j ≤ xs.length ∧ (∀ x ∈ xs.take j, opn A x = false) ∧ Blk wr gi (bools (known A xs j)) 4 ∧ Upd [gi] w2 wr) (fun i _ => xs.length - (intOf i).toNat)
      case atStart => exact ⟨0, rfl, Nat.zero_le _, by simp, H2.out.1, Upd.refl _ _⟩
      case round =>
        obtain ⟨wi, rfl⟩ : ∃ wi : World, wi = wr := ⟨_, rfl⟩
        obtain ⟨j, rfl, hj, hlo, hB, hu⟩ := hrel
        have HLO := Lib.hid (And.intro hlo (And.intro hB hu))
        clear hlo hB hu
        by_cases hlj : j < xs.length
        · obtain ⟨g, off, rfl, k1⟩ := HX.out.1 (by omega)
          have u2 := HLO.out.2.2
          have e0 := (H2.out.2.2.1.u.fresh u2 (fun q hq => by simp at hq; subst hq; exact .inr (by have := H2.out.2.2.2; have := HO.out.u.size; omega))).some (k1 j _ (ints_gd hlj)) (by simp)
          have hm := gd_mem hlj
          obtain ⟨⟨hx0, hx1, hx2⟩, _⟩ := HX.out.2.1 _ hm
          have hts : xs.take (j + 1) = xs.take j ++ [xs.getD j 0] := by rw [List.take_add_one, gd_some (d := 0) hlj]; rfl
          have hkn := known_set (A := A) hlj
          have hnb := HNB.out _ hm
          obtain ⟨hb1, hb2, hb3⟩ := badV_no hnb
          have hisT := isT_eq (A := A) hx0 hnb
          have hmx := max_abs (xs.getD j 0)
          have e2 : ∃ ga oa, a = some ⟨ga, oa, none⟩ ∧ wi.cell? ⟨ga, oa + (xs.getD j 0).natAbs, none⟩ = some (.int .i64 (A.getD (xs.getD j 0).natAbs 0)) := by
            obtain ⟨ga, rest, rfl, hBA, _, _, _, hga⟩ := own_blk H2.out.2.2.1 hA0
            refine ⟨ga, 0, rfl, ?_⟩
            rw [Nat.zero_add]
            exact u2.some (hBA.cell (by rw [List.getElem?_append_left (by rw [ints_length]; exact hb1)]; exact ints_gd hb1)) (by
              have h1 := HAG.out ga rfl
              have h2 := H2.out.2.2.2
              simp only [List.mem_singleton]; omega)
          obtain ⟨ga, oa, rfl, e2⟩ := e2
          have e3 := HLO.out.2.1.cell (i := j) (bools_get (List.getElem?_eq_getElem (by rw [known_len hj]; exact hlj)))
          have f3 := HLO.out.2.1.free j
          have l3 := HLO.out.2.1.lt
          have d2 := (H2.out.2.1.upd u2 (by simp; omega)).cell (i := 2) rfl
          have hop : opn A (xs.getD j 0) = (A.getD (xs.getD j 0).natAbs 0 == 0) := rfl
          have HZ := Lib.hid (And.intro hm (And.intro hts (And.intro hkn (And.intro hisT hop))))
          clear k1 u2 hm hts hkn hisT hop hnb hx0
          generalize (known A xs j)[j]'_ = old at *
          generalize xs.getD j 0 = x at *
          generalize A.getD x.natAbs 0 = y at *
          by_cases hy0 : y = 0
          · have hy : (y == 0) = true := by simpa using hy0
            have HE := Lib.hid (runErr_opn (o := (oN : Int)) (A := A) (by omega) HNB.out HZ.out.1 (by rw [HZ.out.2.2.2.2]; exact hy))
            clear hy0
            go_wp2_with fail
            go_ret
            exact ⟨ret_int HE.out.symm, by rw [HE.out]; exact ⟨(ownsRow_upd H2.out.2.2.1.row HLO.out.2.2 (fun q hq h => by have h1 := HAG.out q h; have h2 := H2.out.2.2.2; simp at hq; omega)), H2.out.2.2.1.fresh, H2.out.2.2.1.u.fresh HLO.out.2.2 (fun q hq => by simp at hq; subst hq; exact .inr (by have := H2.out.2.2.2; have := HO.out.u.size; omega))⟩⟩
          · have hy : (y == 0) = false := by simpa using hy0
            have HI := Lib.hid (HZ.out.2.2.2.1 (by rw [HZ.out.2.2.2.2]; exact hy))
            have HOP := Lib.hid (show opn A x = false by rw [HZ.out.2.2.2.2]; exact hy)
            clear hy0
            go_wp2_with fail
            have BS := HLO.out.2.1.set j (.bool ((y == 1) == decide (0 < x)))
            rw [show (bools (known A xs j)).set j (.bool ((y == 1) == decide (0 < x))) = bools (known A xs (j + 1)) by rw [← HZ.out.2.2.1, HI.out]; simp [bools, List.map_set]] at BS
            refine ⟨⟨j + 1, by go_num, by omega, fun z hz => ?_, BS, HLO.out.2.2.set (by simp) _⟩, by simp [intOf]; omega⟩
            rw [HZ.out.2.1] at hz
            rcases List.mem_append.1 hz with hz | hz
            · exact HLO.out.1 z hz
            · simp at hz; subst hz; exact HOP.out
        · have hje : j = xs.length := by omega
          subst hje
          have hlo2 := HLO.out.1
          rw [List.take_of_length_le (Nat.le_refl _)] at hlo2
          have HE := Lib.hid (runErr_ok (o := (oN : Int)) (A := A) (by omega) HNB.out hlo2)
          have BI := HLO.out.2.1
          rw [known_full] at BI
          have OA : Own w0 (.slice a A.length cap) A wi := ⟨ownsRow_upd H2.out.2.2.1.row HLO.out.2.2 (fun q hq h => by have h1 := HAG.out q h; have h2 := H2.out.2.2.2; simp at hq; omega), H2.out.2.2.1.fresh, H2.out.2.2.1.u.fresh HLO.out.2.2 (fun q hq => by simp at hq; subst hq; exact .inr (by have := H2.out.2.2.2; have := HO.out.u.size; omega))⟩
          have BG := H2.out.2.1.upd HLO.out.2.2 (by simp; omega)
          obtain ⟨ga, rest, rfl, BA, hq1, hq2, hq3, hga⟩ := own_blk OA hA0
          have hgag := HAG.out ga rfl
          have hgig := H2.out.2.2.2
          have hbga : ga < gi := by omega
          have hbgb : ga < b := by have := HBW.out; omega
          have c1 := BG.cell (i := 1) rfl
          have c0 := BG.cell (i := 0) rfl
          have hoA : oN < A.length := by omega
          have eo := BA.cell (i := oN) (by rw [List.getElem?_append_left (by rw [ints_length]; exact hoA)]; exact ints_gd hoA)
          have fo := BA.free oN
          have lo := BA.lt
          have us : Upd [ga] wi (wi.setCell ⟨ga, oN, none⟩ (.int .i64 (-1))) := (Upd.refl [ga] wi).set (by simp) _
          have BA3 := BA.set oN (.int .i64 (-1))
          rw [List.set_append_left _ _ (by rw [ints_length]; exact hoA), show (ints A).set oN (.int .i64 (-1)) = ints (A.set oN (-1)) by simp [ints, List.map_set]] at BA3
          have BI3 := BI.setOther (p := ⟨ga, oN, none⟩) (by simp only; omega) (.int .i64 (-1))
          have BG3 := BG.setOther (p := ⟨ga, oN, none⟩) (by simp only; omega) (.int .i64 (-1))
          have HN := Lib.hid (And.intro BA3 (And.intro BI3 (And.intro BG3 (And.intro (OA.u.fresh us (fun q hq => by simp at hq; subst hq; exact .inr hga)) OA))))
          generalize A.getD oN 0 = yo at *
          clear BI OA BG BA us BA3 BI3 BG3 hlo2 c2
          go_wp2_with fail
          generalize wi.setCell ⟨ga, oN, none⟩ (.int .i64 (-1)) = w3 at *
          have hbl : (xs.map (isT A)).length = xs.length := List.length_map _
          have hvok : vOk k (xs.map (isT A)).length = true := by
            unfold vOk kOk
            rw [hbl, HX.out.2.2.1]
            simp [hk0, hk6]
          have hsl : SL w3 1 (.slice (some ⟨gi, 0, none⟩) xs.length xs.length) (xs.map (isT A)).length (bools (xs.map (isT A))) := by
            rw [hbl]
            exact SL.of_blk (pad := []) (by simpa using HN.out.2.1) (by simp [bools]) (Nat.le_refl _) (by unfold maxLen; omega)
          refine (Value_calls (k := k) hsl).mono ?_
          rintro e w4 ⟨rfl, u4⟩
          rw [hvok, Bool.true_and, if_pos rfl]
          have BG4 := HN.out.2.2.1.upd u4 (by simp)
          have d1 := BG4.cell (i := 1) rfl
          have BA4 := HN.out.1.upd u4 (by simp)
          have hla : (A.set oN (-1)).length = A.length := List.length_set
          have eo4 := BA4.cell (i := oN) (by rw [List.getElem?_append_left (by rw [ints_length]; omega)]; exact ints_gd (by omega))
          have fo4 := BA4.free oN
          have H4 := Lib.hid (And.intro BA4 (HN.out.2.2.2.1.step u4))
          have HS := Lib.hid (show runSet k oN xs A = A.set oN (if gVal k (xs.map (isT A)) = true then 1 else -1) by unfold runSet runVal; rw [Int.toNat_natCast])
          clear hsl hvok BG4 BA4 u4 HN c0 c1 eo fo hbl
          generalize (A.set oN (-1)).getD oN 0 = yo2 at *
          generalize gVal k (xs.map (isT A)) = vb at *
          cases vb with
          | true =>
            go_wp2_with fail
            go_ret
            refine ⟨ret_int HE.out.symm, ?_⟩
            rw [HE.out, if_pos rfl, HS.out]
            have BS := H4.out.1.set oN (.int .i64 1)
            rw [List.set_append_left _ _ (by rw [ints_length]; omega), show (ints (A.set oN (-1))).set oN (.int .i64 1) = ints (A.set oN 1) by simp [ints, List.map_set]] at BS
            have := own_of_blk (w0 := w0) BS (by rw [List.length_set]; exact hq1) hq2 (by rw [List.length_set]; exact hq3) hga (H4.out.2.set (.inr hga) _)
            rw [List.length_set] at this
            exact this
          | false =>
            go_wp2_with fail
            go_ret
            refine ⟨ret_int HE.out.symm, ?_⟩
            rw [HE.out, if_pos rfl, HS.out]
            have := own_of_blk (w0 := w0) H4.out.1 (by rw [List.length_set]; exact hq1) hq2 (by rw [List.length_set]; exact hq3) hga H4.out.2
            rw [List.length_set] at this
            exact this
end
end Gate
end Go.Proofs.Ytobclpfpkpkocaa
