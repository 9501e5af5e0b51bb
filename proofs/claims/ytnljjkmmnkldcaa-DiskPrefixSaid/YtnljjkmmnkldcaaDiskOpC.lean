/- An operation on a disk, on both sides. Conditions: none. -/
import Derived.Test.YtnljjkmmnkldcaaDiskOp
import Derived.Test.YtnljjkmmnkldcaaDiskJ
import Derived.Test.YtnljjkmmnkldcaaDiskZ
set_option linter.unusedVariables false
set_option linter.unusedSimpArgs false
set_option linter.unusedSectionVars false
open Go.RowKit
namespace Go.Proofs.Ytnljjkmmnkldcaa
open L
namespace Disk
open Wire R01
def doS (s : DS) (o : OpD) : Int × DS :=
  if o.kind = 0 then appendS s o.file o.b else if o.kind = 1 then syncS s else if o.kind = 2 then truncS s o.file o.n else if o.kind = 3 then (0, armS s o.n) else (0, crashS s o.keep o.n)
section
variable {w w' : World} {p : Nat} {s : DS} {S : List Nat}
theorem DkT.from {w1 : World} {v : Value} {s' : DS} {e : Ending} (h : DkT p S w1 v s' e w') (hu : Upd [] w w1) : DkT p S w v s' e w' := by
  obtain ⟨h1, S', h2, h3, h4⟩ := h
  exact ⟨h1, S', h2, (hu.nil (S := S)).trans h3, fun k hk => (h4 k hk).imp id (fun h => Nat.le_trans hu.size h)⟩
theorem RDkT.from {w1 : World} {v : Value} {s' : DS} {e : Ending} (h : RDkT p S w1 v s' e w') (hu : Upd [] w w1) : RDkT p S w v s' e w' := by
  obtain ⟨h1, S', h2, h3, h4⟩ := h
  exact ⟨h1, S', h2, (hu.nil (S := S)).trans h3, fun k hk => (h4 k hk).imp id (fun h => Nat.le_trans hu.size h)⟩
theorem DkT.mk {w1 : World} {T : List Nat} {s' : DS} (v : Value) (h : Dk w' p s' S) (hT : ∀ k ∈ T, k ∈ S) (hu1 : Upd [] w w1) (hu : Upd T w1 w') : DkT p S w v s' (.returned v) w' :=
  ⟨rfl, S, h, (hu1.nil (S := S)).trans (hu.wide (fun k hk => .inl (hT k hk))), fun _ hk => .inl hk⟩
theorem RDkT.mk {w1 : World} {T : List Nat} {s' : DS} (v : Value) (h : RDk w' p s' S) (hT : ∀ k ∈ T, k ∈ S) (hu1 : Upd [] w w1) (hu : Upd T w1 w') : RDkT p S w v s' (.returned v) w' :=
  ⟨rfl, S, h, (hu1.nil (S := S)).trans (hu.wide (fun k hk => .inl (hT k hk))), fun _ hk => .inl hk⟩
set_option maxRecDepth 100000 in
set_option maxHeartbeats 8000000 in
theorem do_calls (h : Dk w p s S) {o : OpD} {vb vk : Value} (hok : OpOk o) (hb : SL w 1 vb o.b.length (byts o.b)) (hk : SL w 1 vk o.keep.length (ints o.keep)) (hbS : ∀ g, vb.ownBlock = some g → g ∉ S) (hkS : ∀ g, vk.ownBlock = some g → g ∉ S) :
    Calls Try.prog 24 #[.pointer (some ⟨p, 0, none⟩), .agg #[.int .i64 o.kind, .int .i64 o.file, .int .i64 o.n, vb, vk]] w (DkT p S w (.int .i64 (doS s o).1) (doS s o).2) := by
  obtain ⟨kd, fl, n, b, keep⟩ := o
  obtain ⟨a1, a2, a3, a4, a5, a6, a7⟩ := hok
  simp only at *
  obtain ⟨ab, cb, rfl, _⟩ := hb.val
  obtain ⟨ak, ck, rfl, _⟩ := hk.val
  have u1 : Upd [] w (w.alloc (.cells #[.int .i64 kd, .int .i64 fl, .int .i64 n, .slice ab b.length cb, .slice ak keep.length ck] 48)) := (Upd.refl [] w).alloc _
  have b1 : Blk (w.alloc (.cells #[.int .i64 kd, .int .i64 fl, .int .i64 n, .slice ab b.length cb, .slice ak keep.length ck] 48)) w.heap.size [.int .i64 kd, .int .i64 fl, .int .i64 n, .slice ab b.length cb, .slice ak keep.length ck] 48 := Blk.new w _ _
  have e0 := b1.cell (i := 0) rfl
  have e1 := b1.cell (i := 1) rfl
  have e2 := b1.cell (i := 2) rfl
  have e3 := b1.cell (i := 3) rfl
  have e4 := b1.cell (i := 4) rfl
  have HD := Lib.hid (h.quiet u1)
  have H1 := Lib.hid (Append_calls HD.out (f := fl) a2 (hb.upd u1 (by simp)) a4 (by omega) hbS)
  have H2 := Lib.hid (Sync_calls HD.out)
  have H3 := Lib.hid (Trunc_calls HD.out (f := fl) (z := n) a2 a3)
  have H4 := Lib.hid (Arm_calls HD.out (n := n) a3)
  have H5 := Lib.hid (Crash_calls HD.out (keep := keep) (fp := n) (hk.upd u1 (by simp)) hkS a6 a3)
  have HU := Lib.hid u1
  have hp := h.p_mem
  clear h hb hk hbS hkS a4 a6 b1 u1 hp
  have hp := HD.out.p_mem
  go_enter Try.func24, Try.ntmps24
  go_upto_region 1 with fail
  generalize w.alloc (.cells #[.int .i64 kd, .int .i64 fl, .int .i64 n, .slice ab b.length cb, .slice ak keep.length ck] 48) = w1 at *
  generalize w.heap.size = g1 at *
  by_cases k0 : kd = 0
  · subst k0
    have HR := Lib.hid (show doS s ⟨0, fl, n, b, keep⟩ = appendS s fl b from rfl)
    clear H2 H3 H4 H5
    go_wp2_with (go_at_call 14; refine H1.out.mono ?_; rintro e w3 ⟨rfl, h3⟩)
    go_ret
    rw [HR.out]
    exact DkT.from ⟨rfl, h3⟩ HU.out
  · have k0b : (kd == 0) = false := by simp; omega
    by_cases k1 : kd = 1
    · subst k1
      have HR := Lib.hid (show doS s ⟨1, fl, n, b, keep⟩ = syncS s from rfl)
      clear H1 H3 H4 H5
      go_wp2_with (go_at_call 15; refine H2.out.mono ?_; rintro e w3 ⟨rfl, h3, u3⟩)
      go_ret
      rw [HR.out]
      exact DkT.mk _ h3 (fun _ h => h) HU.out u3
    · have k1b : (kd == 1) = false := by simp; omega
      by_cases k2 : kd = 2
      · subst k2
        have HR := Lib.hid (show doS s ⟨2, fl, n, b, keep⟩ = truncS s fl n from rfl)
        clear H1 H2 H4 H5
        go_wp2_with (go_at_call 20; refine H3.out.mono ?_; rintro e w3 ⟨rfl, h3, u3⟩)
        go_ret
        rw [HR.out]
        exact DkT.mk _ h3 (fun _ h => h) HU.out u3
      · have k2b : (kd == 2) = false := by simp; omega
        by_cases k3 : kd = 3
        · subst k3
          have HR := Lib.hid (show doS s ⟨3, fl, n, b, keep⟩ = (0, armS s n) from rfl)
          clear H1 H2 H3 H5
          go_wp2_with (go_at_call 28; refine H4.out.mono ?_; rintro e w3 ⟨rfl, h3, u3⟩)
          go_ret
          rw [HR.out]
          exact DkT.mk _ h3 (fun k h => by simp only [List.mem_singleton] at h; subst h; exact hp) HU.out u3
        · have k3b : (kd == 3) = false := by simp; omega
          have HR := Lib.hid (show doS s ⟨kd, fl, n, b, keep⟩ = (0, crashS s keep n) by unfold doS; rw [if_neg k0, if_neg k1, if_neg k2, if_neg k3])
          clear H1 H2 H3 H4 k0 k1 k2 k3
          go_wp2_with (go_at_call 16; refine H5.out.mono ?_; rintro e w3 ⟨rfl, h3, u3⟩)
          go_ret
          rw [HR.out]
          exact DkT.mk _ h3 (fun _ h => h) HU.out u3
set_option maxRecDepth 100000 in
set_option maxHeartbeats 8000000 in
theorem RDo_calls (h : RDk w p s S) {o : OpD} {vb vk : Value} (hok : OpOk o) (hb : SL w 1 vb o.b.length (byts o.b)) (hk : SL w 1 vk o.keep.length (ints o.keep)) (hbS : ∀ g, vb.ownBlock = some g → g ∉ S) (hkS : ∀ g, vk.ownBlock = some g → g ∉ S) :
    Calls Try.prog 25 #[.pointer (some ⟨p, 0, none⟩), .agg #[.int .i64 o.kind, .int .i64 o.file, .int .i64 o.n, vb, vk]] w (RDkT p S w (.int .i64 (doS s o).1) (doS s o).2) := by
  obtain ⟨kd, fl, n, b, keep⟩ := o
  obtain ⟨a1, a2, a3, a4, a5, a6, a7⟩ := hok
  simp only at *
  obtain ⟨ab, cb, rfl, _⟩ := hb.val
  obtain ⟨ak, ck, rfl, _⟩ := hk.val
  have u1 : Upd [] w (w.alloc (.cells #[.int .i64 kd, .int .i64 fl, .int .i64 n, .slice ab b.length cb, .slice ak keep.length ck] 48)) := (Upd.refl [] w).alloc _
  have b1 : Blk (w.alloc (.cells #[.int .i64 kd, .int .i64 fl, .int .i64 n, .slice ab b.length cb, .slice ak keep.length ck] 48)) w.heap.size [.int .i64 kd, .int .i64 fl, .int .i64 n, .slice ab b.length cb, .slice ak keep.length ck] 48 := Blk.new w _ _
  have e0 := b1.cell (i := 0) rfl
  have e1 := b1.cell (i := 1) rfl
  have e2 := b1.cell (i := 2) rfl
  have e3 := b1.cell (i := 3) rfl
  have e4 := b1.cell (i := 4) rfl
  have HD := Lib.hid (h.quiet u1)
  have H1 := Lib.hid (RAppend_calls HD.out (f := fl) a2 (hb.upd u1 (by simp)) a4 (by omega) hbS)
  have H2 := Lib.hid (RSync_calls HD.out)
  have H3 := Lib.hid (RTrunc_calls HD.out (f := fl) (z := n) a2 a3)
  have H4 := Lib.hid (RArm_calls HD.out (n := n) a3)
  have H5 := Lib.hid (RCrash_calls HD.out (keep := keep) (fp := n) (hk.upd u1 (by simp)) hkS a6 a3)
  have HU := Lib.hid u1
  have hp := h.p_mem
  clear h hb hk hbS hkS a4 a6 b1 u1 hp
  have hp := HD.out.p_mem
  go_enter Try.func25, Try.ntmps25
  go_upto_region 1 with fail
  generalize w.alloc (.cells #[.int .i64 kd, .int .i64 fl, .int .i64 n, .slice ab b.length cb, .slice ak keep.length ck] 48) = w1 at *
  generalize w.heap.size = g1 at *
  by_cases k0 : kd = 0
  · subst k0
    have HR := Lib.hid (show doS s ⟨0, fl, n, b, keep⟩ = appendS s fl b from rfl)
    clear H2 H3 H4 H5
    go_wp2_with (go_at_call 42; refine H1.out.mono ?_; rintro e w3 ⟨rfl, h3⟩)
    go_ret
    rw [HR.out]
    exact RDkT.from ⟨rfl, h3⟩ HU.out
  · have k0b : (kd == 0) = false := by simp; omega
    by_cases k1 : kd = 1
    · subst k1
      have HR := Lib.hid (show doS s ⟨1, fl, n, b, keep⟩ = syncS s from rfl)
      clear H1 H3 H4 H5
      go_wp2_with (go_at_call 43; refine H2.out.mono ?_; rintro e w3 ⟨rfl, h3, u3⟩)
      go_ret
      rw [HR.out]
      exact RDkT.mk _ h3 (fun _ h => h) HU.out u3
    · have k1b : (kd == 1) = false := by simp; omega
      by_cases k2 : kd = 2
      · subst k2
        have HR := Lib.hid (show doS s ⟨2, fl, n, b, keep⟩ = truncS s fl n from rfl)
        clear H1 H2 H4 H5
        go_wp2_with (go_at_call 44; refine H3.out.mono ?_; rintro e w3 ⟨rfl, h3, u3⟩)
        go_ret
        rw [HR.out]
        exact RDkT.mk _ h3 (fun _ h => h) HU.out u3
      · have k2b : (kd == 2) = false := by simp; omega
        by_cases k3 : kd = 3
        · subst k3
          have HR := Lib.hid (show doS s ⟨3, fl, n, b, keep⟩ = (0, armS s n) from rfl)
          clear H1 H2 H3 H5
          go_wp2_with (go_at_call 45; refine H4.out.mono ?_; rintro e w3 ⟨rfl, h3, u3⟩)
          go_ret
          rw [HR.out]
          exact RDkT.mk _ h3 (fun k h => by simp only [List.mem_singleton] at h; subst h; exact hp) HU.out u3
        · have k3b : (kd == 3) = false := by simp; omega
          have HR := Lib.hid (show doS s ⟨kd, fl, n, b, keep⟩ = (0, crashS s keep n) by unfold doS; rw [if_neg k0, if_neg k1, if_neg k2, if_neg k3])
          clear H1 H2 H3 H4 k0 k1 k2 k3
          go_wp2_with (go_at_call 46; refine H5.out.mono ?_; rintro e w3 ⟨rfl, h3⟩)
          go_ret
          rw [HR.out]
          exact RDkT.from ⟨rfl, h3⟩ HU.out
end
end Disk
end Go.Proofs.Ytnljjkmmnkldcaa
