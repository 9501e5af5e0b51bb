/- Walks through the reference of gates: Spoilt. Conditions: none. -/
import Derived.Test.YtobclpfpkpkocaaGateG
import Derived.Test.YtobclpfpkpkocaaReg3
set_option linter.unusedVariables false
set_option linter.unusedSimpArgs false
set_option linter.unusedSectionVars false
open Go.RowKit
namespace Go.Proofs.Ytobclpfpkpkocaa
open L
namespace Gate
open Cla R14 R01
def spoils (o y : Int) : List Int := [y, 0, -1, 1073741824, 1073741825, -1073741824, -1073741825, o, -o]
theorem spoils_i64 {o y : Int} (ho1 : 1 ≤ o) (ho2 : o ≤ 1000) (hy : IsI64 y) : ∀ x ∈ spoils o y, IsI64 x := by
  intro x hx
  unfold IsI64 at hy ⊢
  simp only [spoils, List.mem_cons, List.not_mem_nil, or_false] at hx
  omega
/-- A gate that was spoilt. -/
def SpoT (w : World) (e : Ending) (w' : World) : Prop :=
  ∃ (k o : Int) (xs : List Int) (v : Value), e = .returned (.agg #[.int .i64 k, .int .i64 o, v]) ∧ IsI64 k ∧ IsI64 o ∧ (∀ x ∈ xs, IsI64 x) ∧ SL w' 1 v xs.length (ints xs) ∧ Upd [] w w'
/-- The same, and the slice is new. -/
def SpoF (w : World) (e : Ending) (w' : World) : Prop :=
  ∃ (k o : Int) (xs : List Int) (v : Value), e = .returned (.agg #[.int .i64 k, .int .i64 o, v]) ∧ IsI64 k ∧ IsI64 o ∧ (∀ x ∈ xs, IsI64 x) ∧ SL w' 1 v xs.length (ints xs) ∧ Upd [] w w' ∧ ∀ b, v.ownBlock = some b → w.heap.size ≤ b
/-- The gate in its box, and the slice that is changed. -/
def SpoM (w0 : World) (b r : Nat) (v0 : Value) (t : Value) (w' : World) : Prop :=
  ∃ (k o : Int) (xs : List Int), IsI64 k ∧ IsI64 o ∧ (∀ x ∈ xs, IsI64 x) ∧ Blk w' b [.int .i64 k, .int .i64 o, v0] 24 ∧ Blk w' r [.int .i64 0, .int .i64 0, .slice none 0 0] 24 ∧ OwnV w0 3 1 t xs.length (ints xs) w' ∧ (∀ g, t.ownBlock = some g → r < g) ∧ Upd [] w0 w'
section
variable {w : World}
set_option maxRecDepth 100000 in
set_option maxHeartbeats 8000000 in
theorem Spoilt_callsF {xv : Value} {k o : Int} {xs : List Int} (h : SL w 1 xv xs.length (ints xs)) (hk : IsI64 k) (ho1 : 1 ≤ o) (ho2 : o ≤ 1000) (hx : ∀ x ∈ xs, IsI64 x) (hl0 : 1 ≤ xs.length) (hl3 : xs.length ≤ 3)
    (how at' by' : Int) (hh : IsI64 how) (ha : IsI64 at') (hb : IsI64 by') :
    Calls Try.prog 9 #[.agg #[.int .i64 k, .int .i64 o, xv], .int .i64 how, .int .i64 at', .int .i64 by'] w (SpoF w) := by
  have HS := Lib.hid (And.intro h (And.intro hk hx))
  obtain ⟨a, cap, rfl, q1, r1, _⟩ := SL.elems h
  clear h hk hx
  go_enter Try.func9, Try.ntmps9
  go_upto_region 1 with fail
  have U1 := (Upd.refl [] w).alloc (.cells #[.int .i64 k, .int .i64 o, .slice a xs.length cap] 24)
  have B1 := Blk.new w [.int .i64 k, .int .i64 o, .slice a xs.length cap] 24
  have hs1 : (w.alloc (.cells #[.int .i64 k, .int .i64 o, .slice a xs.length cap] 24)).heap.size = w.heap.size + 1 := by simp
  generalize w.alloc (.cells #[.int .i64 k, .int .i64 o, .slice a xs.length cap] 24) = w1 at *
  have U2 := U1.alloc (.cells #[.int .i64 0, .int .i64 0, .slice none 0 0] 24)
  have B2 := Blk.new w1 [.int .i64 0, .int .i64 0, .slice none 0 0] 24
  replace B1 := B1.alloc (.cells #[.int .i64 0, .int .i64 0, .slice none 0 0] 24)
  rw [hs1] at B2
  generalize w1.alloc (.cells #[.int .i64 0, .int .i64 0, .slice none 0 0] 24) = w2 at *
  obtain ⟨sz, hsz⟩ : ∃ sz : Nat, sz = w.heap.size := ⟨_, rfl⟩
  have HZ := Lib.hid hsz
  rw [← hsz] at B1 B2 ⊢
  clear hsz hs1
  have c0 := B1.cell (i := 0) rfl
  have c1 := B1.cell (i := 1) rfl
  have c2 := B1.cell (i := 2) rfl
  have hbl := B1.lt
  have hbl2 := B2.lt
  have H2 := Lib.hid (And.intro B1 (And.intro B2 (And.intro U2 (HS.out.1.upd U2 (by simp)))))
  clear B1 B2 U1 U2
  refine wp_region_lit ?_
  refine wpList_cutH 3 (fun K hK => ?_)
  simp only [List.take_succ_cons, List.take_zero]
  go_wp2_with fail
  refine Halt_.intro ?_; try simp only [List.drop_succ_cons, List.drop_zero]
  have g0 := owns_none (w := w2) rfl 3
  have u0 := (Upd.refl [] w2).alloc (.cells #[] 3)
  have S0 := H2.out.2.2.2.upd u0 (by simp)
  have hs3 : w2.heap.size < (w2.alloc (.cells #[] 3)).heap.size := by simp
  generalize w2.alloc (.cells #[] 3) = w3 at *
  refine wpList_appS rfl _ _ _ rfl 3 1 8 _ Try.underlying22 infoInt rfl (by decide) (.slice (some ⟨w2.heap.size, 0, none⟩) 0 0) 0 [] rfl (owns_blk g0 rfl (by unfold maxLen; omega)) (.slice a xs.length cap) xs.length (ints xs) rfl S0 (ints_one _) (by unfold maxLen; omega) (by omega) ?_
  intro a4 cap4 w4 o4 u4 k4
  simp only [Act.put, List.setIfInBounds_toArray, List.set_cons_zero, List.set_cons_succ]
  rw [List.nil_append] at o4
  simp only [Nat.zero_add] at o4 u4 k4 ⊢
  have N4 : Own w2 (.slice a4 xs.length cap4) xs w4 := ⟨o4, fun g hg => by rcases k4 with h | h <;> rw [hg] at h <;> simp [Value.ownBlock] at h <;> omega, u0.fresh u4 (fun j hj => .inr (by simp [Value.ownBlock] at hj; omega))⟩
  clear o4 u4 k4 g0 u0 S0 hs3
  have H4 := Lib.hid (And.intro (H2.out.1.upd N4.u (by simp)) (And.intro (H2.out.2.1.upd N4.u (by simp)) (And.intro N4 (H2.out.2.2.1.step N4.u))))
  replace c0 := N4.u.some c0 (by simp)
  replace c1 := N4.u.some c1 (by simp)
  replace c2 := N4.u.some c2 (by simp)
  clear N4 H2
  have hi0 := around_lo (n := by') (k := 9) (by omega)
  have hi1 := around_hi (n := by') (k := 9) (by omega)
  have HA := Lib.hid (fun (w : World) => Around_calls by' 9 w hb (by omega) (by omega))
  obtain ⟨ix, hix⟩ := Int.eq_ofNat_of_zero_le hi0
  rw [hix] at HA
  have hix9 : ix < 9 := by omega
  have HX := Lib.hid (And.intro (ints_gd (c := spoils o by') (show ix < 9 from hix9)) (spoils_i64 ho1 ho2 hb _ (gd_mem (c := spoils o by') (show ix < 9 from hix9))))
  clear hi0 hi1 hix
  generalize (spoils o by').getD ix 0 = sx at *
  go_upto_region 2 with fail
  go_cut [10] (fun t w' => t = .int .i64 sx ∧ Upd [] w4 w')
  case first =>
    refine wp_region_wa 12 12 (fun w' => ∃ x : Ext w4, w' = x.val) (by kernel_rfl) (by kernel_rfl) (Ext.of (by iterate 25 (first | exact Upd.refl _ _ | assumption | refine Upd.alloc ?_ _ | refine Upd.drew ?_ | refine Upd.drewN ?_ _ | refine Upd.dl ?_ | refine Upd.step ?_ (Ext.upd _) | refine Upd.nil ?_ | skip))) ?_
    (refine WA.free 0 rfl rfl (by kernel_rfl) (fun K hK => ?_); go_big_quiet_step (fail); refine wpQuiet_nil ?_; refine hK _ ?_; clear hK K); (refine WA.free 1 rfl rfl (by kernel_rfl) (fun K hK => ?_); go_big_quiet_step (fail); refine wpQuiet_nil ?_; refine hK _ ?_; clear hK K)
    (refine WA.load 2 0 rfl rfl (by kernel_rfl) (by kernel_rfl) (fun K hK => ?_); go_big_quiet_step (fail); refine wpQuiet_nil ?_; refine hK _ ?_; clear hK K)
    (refine WA.free 3 rfl rfl (by kernel_rfl) (fun K hK => ?_); go_big_quiet_step (fail); refine wpQuiet_nil ?_; refine hK _ ?_; clear hK K)
    (refine WA.load 4 0 rfl rfl (by kernel_rfl) (by kernel_rfl) (fun K hK => ?_); go_big_quiet_step (fail); refine wpQuiet_nil ?_; refine hK _ ?_; clear hK K)
    (refine WA.free 5 rfl rfl (by kernel_rfl) (fun K hK => ?_); go_big_quiet_step (fail); refine wpQuiet_nil ?_; refine hK _ ?_; clear hK K); (refine WA.free 7 rfl rfl (by kernel_rfl) (fun K hK => ?_); go_big_quiet_step (fail); refine wpQuiet_nil ?_; refine hK _ ?_; clear hK K)
    refine WA.two 6 8 (by kernel_rfl) (Do_.mk rfl (fun K hK => ?_)) (Do_.mk rfl (fun K hK => ?_))
    · go_wp2_with fail
      have BC : Blk (w4.alloc (.cells #[.int .i64 by', .int .i64 0, .int .i64 (-1), .int .i64 1073741824, .int .i64 1073741825, .int .i64 (-1073741824), .int .i64 (-1073741825), .int .i64 o, .int .i64 (-o)] 3)).drew w4.heap.size (ints (spoils o by')) 3 := (Blk.new w4 (ints (spoils o by')) 3).drew
      have uC := ((Upd.refl [] w4).alloc (.cells #[.int .i64 by', .int .i64 0, .int .i64 (-1), .int .i64 1073741824, .int .i64 1073741825, .int .i64 (-1073741824), .int .i64 (-1073741825), .int .i64 o, .int .i64 (-o)] 3)).drew
      generalize (w4.alloc (.cells #[.int .i64 by', .int .i64 0, .int .i64 (-1), .int .i64 1073741824, .int .i64 1073741825, .int .i64 (-1073741824), .int .i64 (-1073741825), .int .i64 o, .int .i64 (-o)] 3)).drew = w5 at *
      generalize w4.heap.size = g5 at *
      have e5 := BC.cell HX.out.1
      have HC := Lib.hid uC
      clear BC uC
      refine WA.keep (Ext.of HC.out) ?_
      refine WA.one 8 (by kernel_rfl) (Do_.mk rfl (fun K hK => ?_))
      go_wp2_with (go_at_call 20; refine (HA.out _).mono ?_; rintro e _ ⟨rfl, rfl⟩)
      refine WA.keep (Ext.of HC.out) ?_
      (refine WA.free 9 rfl rfl (by kernel_rfl) (fun K hK => ?_); go_big_quiet_step (fail); refine wpQuiet_nil ?_; refine hK _ ?_; clear hK K)
      refine WA.one 10 (by kernel_rfl) (Do_.mk rfl (fun K hK => ?_))
      go_wp2_with fail
      refine WA.keep (Ext.of HC.out) ?_
      (refine WA.free 11 rfl rfl (by kernel_rfl) (fun K hK => ?_); go_big_quiet_step (fail); refine wpQuiet_nil ?_; refine hK _ ?_; clear hK K)
      refine WA.nil (by kernel_rfl) ?_
      go_wp2_with fail
      go_meet
      case rel => exact ⟨rfl, HC.out⟩
    · go_wp2_with (go_at_call 20; refine (HA.out _).mono ?_; rintro e _ ⟨rfl, rfl⟩)
      refine WA.keep (Ext.of (by iterate 25 (first | exact Upd.refl _ _ | assumption | refine Upd.alloc ?_ _ | refine Upd.drew ?_ | refine Upd.drewN ?_ _ | refine Upd.dl ?_ | refine Upd.step ?_ (Ext.upd _) | refine Upd.nil ?_ | skip))) ?_
      refine WA.one 6 (by kernel_rfl) (Do_.mk rfl (fun K hK => ?_))
      go_wp2_with fail
      have BC : Blk (w4.alloc (.cells #[.int .i64 by', .int .i64 0, .int .i64 (-1), .int .i64 1073741824, .int .i64 1073741825, .int .i64 (-1073741824), .int .i64 (-1073741825), .int .i64 o, .int .i64 (-o)] 3)).drew w4.heap.size (ints (spoils o by')) 3 := (Blk.new w4 (ints (spoils o by')) 3).drew
      have uC := ((Upd.refl [] w4).alloc (.cells #[.int .i64 by', .int .i64 0, .int .i64 (-1), .int .i64 1073741824, .int .i64 1073741825, .int .i64 (-1073741824), .int .i64 (-1073741825), .int .i64 o, .int .i64 (-o)] 3)).drew
      generalize (w4.alloc (.cells #[.int .i64 by', .int .i64 0, .int .i64 (-1), .int .i64 1073741824, .int .i64 1073741825, .int .i64 (-1073741824), .int .i64 (-1073741825), .int .i64 o, .int .i64 (-o)] 3)).drew = w5 at *
      generalize w4.heap.size = g5 at *
      have e5 := BC.cell HX.out.1
      have HC := Lib.hid uC
      clear BC uC
      refine WA.keep (Ext.of HC.out) ?_
      (refine WA.free 9 rfl rfl (by kernel_rfl) (fun K hK => ?_); go_big_quiet_step (fail); refine wpQuiet_nil ?_; refine hK _ ?_; clear hK K)
      refine WA.one 10 (by kernel_rfl) (Do_.mk rfl (fun K hK => ?_))
      go_wp2_with fail
      refine WA.keep (Ext.of HC.out) ?_
      (refine WA.free 11 rfl rfl (by kernel_rfl) (fun K hK => ?_); go_big_quiet_step (fail); refine wpQuiet_nil ?_; refine hK _ ?_; clear hK K)
      refine WA.nil (by kernel_rfl) ?_
      go_wp2_with fail
      go_meet
      case rel => exact ⟨rfl, HC.out⟩
  case rest =>
  obtain ⟨rfl, hu⟩ := hcut
  have N4 := H4.out.2.2.1
  obtain ⟨g4, cb, he, _, _⟩ := owns_form N4.row (by omega)
  cases he
  have hg4 : sz + 1 < g4 := by have := N4.fresh g4 rfl; omega
  have O5 : OwnV w 3 1 (.slice (some ⟨g4, 0, none⟩) xs.length cap4) xs.length (ints xs) wc := ⟨ownsRow_upd N4.row hu (by simp), fun g hg => by have := N4.fresh g hg; have := HZ.out; omega⟩
  obtain ⟨_, hrow⟩ := O5.row
  rcases hrow with ⟨hr, _⟩ | ⟨g', cap', cur, he, _, hcur, hnc, hcm, hcs, htake⟩
  · cases hr
  cases he
  have BB : Blk wc g4 (ints xs ++ cur.toList.drop xs.length) 3 := by
    unfold Blk
    rw [hcur]
    congr 2
    apply Array.toList_inj.1
    simp only [List.toList_toArray]
    rw [← htake]
    conv => lhs; rw [← List.take_append_drop xs.length cur.toList]
    rw [Nat.mul_one]
  have hkk := HS.out.2
  have H5 := Lib.hid (And.intro (H4.out.1.upd hu (by simp)) (And.intro (H4.out.2.1.upd hu (by simp)) (And.intro O5 (And.intro (H4.out.2.2.2.step hu) (And.intro hkk.1 (And.intro hkk.2 (And.intro HX.out.2 BB)))))))
  clear N4 O5 hu HX HA c0 c1 c2 hcur htake BB H4 hkk
  have HCS := Lib.hid hcs
  clear hcs
  have hh0 := around_lo (n := how) (k := 5) (by omega)
  have hh1 := around_hi (n := how) (k := 5) (by omega)
  have HA := Lib.hid (Around_calls how 5 wc hh (by omega) (by omega))
  generalize around how 5 = q at *
  go_upto_block 0 with (go_at_call 20; refine HA.out.mono ?_; rintro e _ ⟨rfl, rfl⟩)
  have c0 := H5.out.1.cell (i := 0) rfl
  have c1 := H5.out.1.cell (i := 1) rfl
  have f0 := H5.out.1.free 0
  have f1 := H5.out.1.free 1
  have hbl5 := H5.out.1.lt
  go_cut [9] (fun t w' => SpoM w sz (sz + 1) (.slice a xs.length cap) t w')
  case first =>
    rcases (by omega : q = 0 ∨ q = 1 ∨ q = 2 ∨ q = 3 ∨ q = 4) with rfl | rfl | rfl | rfl | rfl
    · go_wp2_with fail
      have us : Upd [sz] wc (wc.setCell ⟨sz, 0, none⟩ (.int .i64 sx)) := (Upd.refl [sz] wc).set (by simp) _
      have hz := HZ.out
      have ho64 : IsI64 o := by unfold IsI64; omega
      go_meet
      case rel => exact ⟨sx, o, xs, H5.out.2.2.2.2.2.2.1, ho64, H5.out.2.2.2.2.2.1, H5.out.1.set 0 _, H5.out.2.1.setOther (by simp) _, H5.out.2.2.1.upd us (fun b hb h => by simp only [Value.ownBlock, Option.some.injEq] at h; simp at hb; omega), (fun g hg => by simp only [Value.ownBlock, Option.some.injEq] at hg; omega), H5.out.2.2.2.1.set (.inr (by simp; omega)) _⟩
    · go_wp2_with fail
      have us : Upd [sz] wc (wc.setCell ⟨sz, 1, none⟩ (.int .i64 sx)) := (Upd.refl [sz] wc).set (by simp) _
      have hz := HZ.out
      go_meet
      case rel => exact ⟨k, sx, xs, H5.out.2.2.2.2.1, H5.out.2.2.2.2.2.2.1, H5.out.2.2.2.2.2.1, H5.out.1.set 1 _, H5.out.2.1.setOther (by simp) _, H5.out.2.2.1.upd us (fun b hb h => by simp only [Value.ownBlock, Option.some.injEq] at h; simp at hb; omega), (fun g hg => by simp only [Value.ownBlock, Option.some.injEq] at hg; omega), H5.out.2.2.2.1.set (.inr (by simp; omega)) _⟩
    · go_wp2_with (refine wpList_push rfl rfl _ _ _ _ rfl rfl rfl 3 1 8 _ Try.underlying22 infoInt rfl (by decide) (by decide) (.int .i64 1) [.int .i64 1] rfl rfl rfl (ints_one [1]) _ _ _ H5.out.2.2.1.row rfl rfl (by unfold maxLen; omega) (by omega) ?_; intro g6 cap6 w6 o6 u6 k6)
      have N := H5.out.2.2.1.push H5.out.2.2.2.1.size o6 k6
      have hz := HZ.out
      have ho64 : IsI64 o := by unfold IsI64; omega
      go_meet
      case rel => exact ⟨k, o, xs ++ [1], H5.out.2.2.2.2.1, ho64, fun x hx => by
        rcases List.mem_append.1 hx with hx | hx
        · exact H5.out.2.2.2.2.2.1 x hx
        · simp at hx; subst hx; unfold IsI64; omega, H5.out.1.upd u6 (fun h => by simp [Value.ownBlock] at h; omega), H5.out.2.1.upd u6 (fun h => by simp [Value.ownBlock] at h; omega), by simpa [ints] using N, (fun g hg => by simp only [Value.ownBlock, Option.some.injEq] at hg; have hl6 := H5.out.2.1.lt; exact k6.elim (fun k6 => by simp [Value.ownBlock] at k6; omega) (fun k6 => by omega)), H5.out.2.2.2.1.fresh u6 (fun j hj => .inr (by simp [Value.ownBlock] at hj; omega))⟩
    · have e2 : ((xs.length : Int) / 2).toNat = xs.length / 2 := by omega
      have e3 : (0 : Int) ≤ (xs.length : Int) / 2 := by omega
      have e4 : (xs.length : Int) / 2 ≤ cap4 := by omega
      go_wp2_with fail
      have ho64 : IsI64 o := by unfold IsI64; omega
      have e5 : (xs.take (xs.length / 2)).length = xs.length / 2 := by rw [List.length_take]; omega
      have hrow := own_take (m := xs.length / 2) H5.out.2.2.1.row (by omega)
      go_meet
      case rel => exact ⟨k, o, xs.take (xs.length / 2), H5.out.2.2.2.2.1, ho64, fun x hx => H5.out.2.2.2.2.2.1 x (List.mem_of_mem_take hx), H5.out.1, H5.out.2.1, ⟨by rw [e5]; simpa [ints, List.map_take] using hrow, H5.out.2.2.1.fresh⟩, (fun g hg => by simp only [Value.ownBlock, Option.some.injEq] at hg; omega), H5.out.2.2.2.1⟩
    · have ha0 := around_lo (n := at') (k := xs.length) (by omega)
      have ha1 := around_hi (n := at') (k := xs.length) (by omega)
      have HA2 := Lib.hid (Around_calls at' xs.length wc ha (by omega) (by omega))
      obtain ⟨i2, hi2⟩ := Int.eq_ofNat_of_zero_le ha0
      rw [hi2] at HA2
      have hil : i2 < xs.length := by omega
      have ce := H5.out.2.2.2.2.2.2.2.cell (i := i2) (by rw [List.getElem?_append_left (by rw [ints_length]; omega)]; exact ints_gd hil)
      have fe := H5.out.2.2.2.2.2.2.2.free i2
      have le := H5.out.2.2.2.2.2.2.2.lt
      generalize xs.getD i2 0 = yo at *
      clear ha0 ha1 hi2
      go_wp2_with (go_at_call 20; refine HA2.out.mono ?_; rintro e _ ⟨rfl, rfl⟩)
      have us : Upd [g4] wc (wc.setCell ⟨g4, i2, none⟩ (.int .i64 sx)) := (Upd.refl [g4] wc).set (by simp) _
      have hz := HZ.out
      have ho64 : IsI64 o := by unfold IsI64; omega
      have BS := H5.out.2.2.2.2.2.2.2.set i2 (.int .i64 sx)
      rw [List.set_append_left _ _ (by rw [ints_length]; exact hil), show (ints xs).set i2 (.int .i64 sx) = ints (xs.set i2 sx) by simp [ints, List.map_set]] at BS
      go_meet
      case rel => 
        refine ⟨k, o, xs.set i2 sx, H5.out.2.2.2.2.1, ho64, fun x hx => ?_, H5.out.1.setOther (by simp; omega) _, H5.out.2.1.setOther (by simp; omega) _, ⟨?_, H5.out.2.2.1.fresh⟩, (fun g hg => by simp only [Value.ownBlock, Option.some.injEq] at hg; omega), H5.out.2.2.2.1.set (.inr (by simp; omega)) _⟩
        · rcases List.mem_or_eq_of_mem_set hx with h | rfl
          · exact H5.out.2.2.2.2.2.1 x h
          · exact H5.out.2.2.2.2.2.2.1
        · rw [List.length_set]
          refine ⟨by rw [ints_length, List.length_set]; omega, .inr ⟨g4, cap4, _, rfl, Nat.zero_le _, BS, hnc, hcm, ?_, ?_⟩⟩
          · have := HCS.out
            simp [ints_length]; omega
          · simp only [List.toList_toArray]
            rw [List.take_left' (by rw [ints_length, List.length_set]; simp)]
  case rest =>
  obtain ⟨k2, o2, ys, hk2, ho2, hys, B1, B2, O6, hfr, U6⟩ := hcut
  have d0 := B1.cell (i := 0) rfl
  have d1 := B1.cell (i := 1) rfl
  have d2 := B1.cell (i := 2) rfl
  have g2 := B1.free 2
  have e0 := B2.cell (i := 0) rfl
  have e1 := B2.cell (i := 1) rfl
  have e2 := B2.cell (i := 2) rfl
  have k0 := B2.free 0
  have k1 := B2.free 1
  have k2' := B2.free 2
  have l1 := B1.lt
  have l2 := B2.lt
  have H7 := Lib.hid (And.intro B1 (And.intro B2 (And.intro O6 (And.intro U6 (And.intro hk2 (And.intro ho2 (And.intro hys hfr)))))))
  clear B1 B2 O6 U6 hk2 ho2 hys hfr c0 c1 f0 f1
  obtain ⟨a7, c7, rfl, _⟩ := H7.out.2.2.1.sl.val
  go_wp2_with fail
  have us : Upd [sz, sz + 1] wc ((((wc.setCell ⟨sz, 2, none⟩ (.slice a7 ys.length c7)).setCell ⟨sz + 1, 0, none⟩ (.int .i64 k2)).setCell ⟨sz + 1, 1, none⟩ (.int .i64 o2)).setCell ⟨sz + 1, 2, none⟩ (.slice a7 ys.length c7)) :=
    ((((Upd.refl [sz, sz + 1] wc).set (by simp) _).set (by simp) _).set (by simp) _).set (by simp) _
  have BF := (((H7.out.2.1.setOther (p := ⟨sz, 2, none⟩) (by simp) (.slice a7 ys.length c7)).set 0 (.int .i64 k2)).set 1 (.int .i64 o2)).set 2 (.slice a7 ys.length c7)
  have hz := HZ.out
  refine ret_row rfl rfl BF Try.underlying24 (by kernel_rfl) rfl ⟨k2, o2, ys, _, rfl, H7.out.2.2.2.2.1, H7.out.2.2.2.2.2.1, H7.out.2.2.2.2.2.2.1, H7.out.2.2.1.sl.upd us (fun b hb h => ?_), H7.out.2.2.2.1.fresh us (fun j hj => .inr ?_), H7.out.2.2.1.fresh⟩
  · have := H7.out.2.2.2.2.2.2.2 b h
    simp at hb
    omega
  · simp at hj; omega
theorem Spoilt_calls {xv : Value} {k o : Int} {xs : List Int} (h : SL w 1 xv xs.length (ints xs)) (hk : IsI64 k) (ho1 : 1 ≤ o) (ho2 : o ≤ 1000) (hx : ∀ x ∈ xs, IsI64 x) (hl0 : 1 ≤ xs.length) (hl3 : xs.length ≤ 3)
    (how at' by' : Int) (hh : IsI64 how) (ha : IsI64 at') (hb : IsI64 by') :
    Calls Try.prog 9 #[.agg #[.int .i64 k, .int .i64 o, xv], .int .i64 how, .int .i64 at', .int .i64 by'] w (SpoT w) :=
  (Spoilt_callsF h hk ho1 ho2 hx hl0 hl3 how at' by' hh ha hb).mono fun _ _ ⟨k, o, xs, v, h1, h2, h3, h4, h5, h6, _⟩ => ⟨k, o, xs, v, h1, h2, h3, h4, h5, h6⟩
end
end Gate
end Go.Proofs.Ytobclpfpkpkocaa
