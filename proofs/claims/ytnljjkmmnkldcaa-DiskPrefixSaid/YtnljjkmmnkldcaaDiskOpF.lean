/- The law DiskRuns: its walk. Conditions: none. -/
import Derived.Test.YtnljjkmmnkldcaaDiskOpE
set_option linter.unusedVariables false
set_option linter.unusedSimpArgs false
set_option linter.unusedSectionVars false
open Go.RowKit
namespace Go.Proofs.Ytnljjkmmnkldcaa
open L
namespace Disk
open Wire R01
/-- A world in which five cells hold what they held. -/
def Five (p0 p1 p2 p3 p4 : Addr) (v0 v1 v2 v3 v4 : Value) : Type := { w : World // w.cell? p0 = some v0 ∧ w.cell? p1 = some v1 ∧ w.cell? p2 = some v2 ∧ w.cell? p3 = some v3 ∧ w.cell? p4 = some v4 }
section
variable {p0 p1 p2 p3 p4 : Addr} {v0 v1 v2 v3 v4 : Value}
theorem Five.c0 (x : Five p0 p1 p2 p3 p4 v0 v1 v2 v3 v4) : x.val.cell? p0 = some v0 := x.property.1
theorem Five.c1 (x : Five p0 p1 p2 p3 p4 v0 v1 v2 v3 v4) : x.val.cell? p1 = some v1 := x.property.2.1
theorem Five.c2 (x : Five p0 p1 p2 p3 p4 v0 v1 v2 v3 v4) : x.val.cell? p2 = some v2 := x.property.2.2.1
theorem Five.c3 (x : Five p0 p1 p2 p3 p4 v0 v1 v2 v3 v4) : x.val.cell? p3 = some v3 := x.property.2.2.2.1
theorem Five.c4 (x : Five p0 p1 p2 p3 p4 v0 v1 v2 v3 v4) : x.val.cell? p4 = some v4 := x.property.2.2.2.2
attribute [go_sem] Five.c0 Five.c1 Five.c2 Five.c3 Five.c4
theorem Five.of {w : World} (h0 : w.cell? p0 = some v0) (h1 : w.cell? p1 = some v1) (h2 : w.cell? p2 = some v2) (h3 : w.cell? p3 = some v3) (h4 : w.cell? p4 = some v4) : ∃ x : Five p0 p1 p2 p3 p4 v0 v1 v2 v3 v4, w = x.val := ⟨⟨w, h0, h1, h2, h3, h4⟩, rfl⟩
end
section
variable {w w' : World}
set_option maxRecDepth 100000 in
set_option maxHeartbeats 8000000 in
theorem DiskRuns_calls {x : Int} (hx : IsI64 x) {vl : Value} {xs : List Int} (h0 : SL w 1 vl xs.length (ints xs)) (hxs : ∀ x ∈ xs, IsI64 x) :
    Calls Try.prog 5 #[.int .i64 x, vl] w fun e w' => e = .returned (.bool true) ∧ Upd [] w w' := by
  have n0 := around_lo (n := x) (k := 40) (by omega)
  have n1 := around_hi (n := x) (k := 40) (by omega)
  have HA := Lib.hid (fun w : World => Around_calls x 40 w hx (by omega) (by omega))
  obtain ⟨n, hn⟩ := Int.eq_ofNat_of_zero_le n0
  rw [hn] at n1 HA
  clear n0 hn hx
  obtain ⟨va, vc, rfl, _⟩ := h0.val
  have H0 := Lib.hid (And.intro h0 hxs)
  clear h0 hxs
  have HN := Lib.hid (fun w : World => New_good (w := w) (room := 12 + n) (by omega))
  have HR := Lib.hid (fun w : World => RNew_calls (w := w) (room := 12 + n) (by omega))
  rw [show ((12 + n : Nat) : Int) = 12 + (n : Int) by omega] at HN HR
  go_enter Try.func5, Try.ntmps5
  go_upto_region 5 with (first
    | (go_at_call 12; (with_reducible refine (HA.out _).mono ?_); rintro e _ ⟨rfl, rfl⟩)
    | (go_at_call 11; (with_reducible refine (HN.out _).mono ?_); rintro e w1 ⟨p, S, rfl, h1, u1, k1⟩))
  have H1 := Lib.hid (And.intro h1 (And.intro u1 k1))
  clear h1 u1 k1
  go_upto_region 6 with (go_at_call 22; (with_reducible refine (HR.out _).mono ?_); rintro e w2 ⟨q, T, rfl, h2, u2, k2⟩)
  have hap := Apart.new k2 H1.out.1.lt
  have F2 := Lib.hid (And.intro (H1.out.1.quiet u2) (And.intro h2 (And.intro hap (And.intro (H1.out.2.1.step u2) (fun k hk => Nat.le_trans H1.out.2.1.size (k2 k hk))))))
  have HO := Lib.hid (Ops_calls (H0.out.1.upd F2.out.2.2.2.1 (by simp)) H0.out.2)
  clear h2 u2 k2 hap
  go_upto_region 7 with (go_at_call 23; refine HO.out.mono ?_; rintro e w3 ⟨vo, ops, rfl, ho⟩)
  have hT := Lib.hid (show Two w w2.heap.size w3.heap.size p q (newS (12 + n)) (newS (12 + n)) vo ops w3 from ⟨⟨S, T, F2.out.1.quiet ho.u, F2.out.2.1.quiet ho.u, F2.out.2.2.1.symm, fun k hk => ⟨H1.out.2.2 k hk, .inl (F2.out.1.lt k hk)⟩, fun k hk => ⟨F2.out.2.2.2.2 k hk, .inl (F2.out.2.1.lt k hk)⟩⟩, ho.opsL, F2.out.2.2.2.1.step ho.u⟩)
  obtain ⟨ao, co, hvo⟩ := ho.opsL.2.1
  have hol : ops.length ≤ maxLen := by obtain ⟨cs, hz, _⟩ := ho.ex; obtain ⟨_, _, _, _, z1, z2, _⟩ := hz.sl; omega
  clear ho HO F2 H1 H0 HN HR HA
  subst hvo
  generalize newS (12 + n) = s0 at *
  generalize w2.heap.size = lo at *
  generalize w3.heap.size = hi at *
  unfold maxLen at hol
  go_wp2_with fail
  go_loopw [10] (fun i wr => ∃ (k : Nat) (s : DS), i = .int .i64 k ∧ k ≤ ops.length ∧ Two w lo hi p q s s (.slice ao ops.length co) ops wr) (fun i _ => ops.length - (intOf i).toNat)
  case atStart => exact ⟨0, s0, rfl, Nat.zero_le _, hT.out⟩
  case round =>
    obtain ⟨wo, rfl⟩ : ∃ wo : World, wo = wr := ⟨_, rfl⟩
    obtain ⟨k, s, rfl, hk, hTw⟩ := hrel
    by_cases hlt : k < ops.length
    · have hli : (k : Int) < ops.length := by omega
      obtain ⟨g, cap, ab, cb, ak, ck, he, hat⟩ := hTw.at (List.getElem?_eq_getElem hlt)
      cases he
      generalize ops[k] = o at *
      have c0 := hat.c 0 _ rfl
      have c1 := hat.c 1 _ rfl
      have c2 := hat.c 2 _ rfl
      have c3 := hat.c 3 _ rfl
      have c4 := hat.c 4 _ rfl
      rw [Nat.add_zero] at c0
      have HT := Lib.hid (And.intro hTw hat)
      clear hTw hat
      have ne : Nonempty (Five ⟨g, k * 5, none⟩ ⟨g, k * 5 + 1, none⟩ ⟨g, k * 5 + 2, none⟩ ⟨g, k * 5 + 3, none⟩ ⟨g, k * 5 + 4, none⟩ (.int .i64 o.kind) (.int .i64 o.file) (.int .i64 o.n) (.slice ab o.b.length cb) (.slice ak o.keep.length ck)) := ⟨⟨wo, c0, c1, c2, c3, c4⟩⟩
      go_upto_region 10 with fail
      refine wp_region_ord 11 2 [0, 1, 2, 3, 4, 6, 7, 8, 9, 10, 12, 13, 14, 15, 17, 18] [4, 10] [0, 1, 2, 3, 4, 6, 7, 8, 9, 10, 5, 11, 12, 13, 14, 15, 16, 17, 18] (fun w' => ∃ x : Five ⟨g, k * 5, none⟩ ⟨g, k * 5 + 1, none⟩ ⟨g, k * 5 + 2, none⟩ ⟨g, k * 5 + 3, none⟩ ⟨g, k * 5 + 4, none⟩ (.int .i64 o.kind) (.int .i64 o.file) (.int .i64 o.n) (.slice ab o.b.length cb) (.slice ak o.keep.length ck), w' = x.val) (by kernel_rfl) (by kernel_rfl) (Five.of c0 c1 c2 c3 c4) ?_
      repeat (first | (refine wpOrd_load rfl rfl rfl rfl (fun K hK => ?_); go_big_quiet_step (fail); refine wpQuiet_nil ?_; refine hK _ ?_; clear hK K) | (refine wpOrd_free rfl rfl rfl (fun K hK => ?_); go_big_quiet_step (fail); refine wpQuiet_nil ?_; refine hK _ ?_; clear hK K))
      refine wpOrd_fix rfl rfl (fun K hK => ?_)
      go_wp2_with (go_at_call 24; refine (Two.doC (HT.out.1.quiet (by iterate 25 (first | exact Upd.refl _ _ | assumption | refine Upd.alloc ?_ _ | refine Upd.drew ?_ | refine Upd.drewN ?_ _ | refine Upd.dl ?_ | refine Upd.step ?_ (Ext.upd _) | refine Upd.nil ?_ | skip))) (HT.out.2.upd (T := []) (by iterate 25 (first | exact Upd.refl _ _ | assumption | refine Upd.alloc ?_ _ | refine Upd.drew ?_ | refine Upd.drewN ?_ _ | refine Upd.dl ?_ | refine Upd.step ?_ (Ext.upd _) | refine Upd.nil ?_ | skip)) (by simp))).mono ?_; rintro e w4 ⟨rfl, h4, a4⟩)
      have HR4 := Lib.hid (And.intro h4 a4)
      clear c0 c1 c2 c3 c4 HT h4 a4
      refine ⟨fun _ => Five.of (by have h := HR4.out.2.c 0 _ rfl; rw [Nat.add_zero] at h; exact h) (HR4.out.2.c 1 _ rfl) (HR4.out.2.c 2 _ rfl) (HR4.out.2.c 3 _ rfl) (HR4.out.2.c 4 _ rfl), ?_⟩
      repeat (first | (refine wpOrd_load rfl rfl rfl rfl (fun K hK => ?_); go_big_quiet_step (fail); refine wpQuiet_nil ?_; refine hK _ ?_; clear hK K) | (refine wpOrd_free rfl rfl rfl (fun K hK => ?_); go_big_quiet_step (fail); refine wpQuiet_nil ?_; refine hK _ ?_; clear hK K))
      refine wpOrd_fix rfl rfl (fun K hK => ?_)
      go_wp2_with (go_at_call 25; refine (Two.rdoC HR4.out.1 HR4.out.2).mono ?_; rintro e w5 ⟨rfl, h5⟩)
      have H5 := Lib.hid h5
      clear h5 HR4
      generalize (doS s o).1 = er at *
      refine ⟨fun hC => absurd hC (by decide), ?_⟩
      repeat (first | (refine wpOrd_load rfl rfl rfl rfl (fun K hK => ?_); go_big_quiet_step (fail); refine wpQuiet_nil ?_; refine hK _ ?_; clear hK K) | (refine wpOrd_free rfl rfl rfl (fun K hK => ?_); go_big_quiet_step (fail); refine wpQuiet_nil ?_; refine hK _ ?_; clear hK K))
      refine wpOrd_fix rfl rfl (fun K hK => ?_)
      go_wp2_with (go_at_call 26; refine (same_calls H5.out.pair).mono ?_; rintro e w6 ⟨rfl, u6⟩)
      have H6 := Lib.hid (H5.out.quiet u6)
      clear u6 H5
      refine ⟨fun hC => absurd hC (by decide), ?_⟩
      repeat (first | (refine wpOrd_load rfl rfl rfl rfl (fun K hK => ?_); go_big_quiet_step (fail); refine wpQuiet_nil ?_; refine hK _ ?_; clear hK K) | (refine wpOrd_free rfl rfl rfl (fun K hK => ?_); go_big_quiet_step (fail); refine wpQuiet_nil ?_; refine hK _ ?_; clear hK K))
      refine wpOrd_nil ?_
      go_wp2_with fail
      exact ⟨⟨k + 1, (doS s o).2, by go_num, by omega, H6.out⟩, by simp [intOf]; omega⟩
    · have hli : ¬ (k : Int) < ops.length := by omega
      have HT := Lib.hid hTw.u
      clear hTw
      go_wp2_with (go_at_call 19; refine lives_calls.mono ?_; rintro e w6 ⟨rfl, u6⟩)
      go_ret
      exact ⟨rfl, HT.out.step u6⟩
end
end Disk
end Go.Proofs.Ytnljjkmmnkldcaa
