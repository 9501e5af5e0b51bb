/- Walks through the laws of disks: the example. Conditions: none. -/
import Derived.Test.YtnljjkmmnkldcaaDiskJ
import Derived.Test.YtnljjkmmnkldcaaSameB
set_option linter.unusedVariables false
set_option linter.unusedSimpArgs false
set_option linter.unusedSectionVars false
open Go.RowKit
namespace Go.Proofs.Ytnljjkmmnkldcaa
open L
namespace Disk
open Wire R01
theorem sl_bytes {w : World} {g : Nat} {bs : List Int} (h : Blk w g (byts bs) 5) (hl : bs.length ≤ 1000000) : SL w 1 (.slice (some ⟨g, 0, none⟩) bs.length bs.length) bs.length (byts bs) := by
  refine SL.of_blk (pad := []) (e := 5) (by rw [List.append_nil]; exact h) (by simp [byts]) (Nat.le_refl _) (by unfold maxLen; omega)
theorem sl_ints {w : World} {g : Nat} {bs : List Int} (h : Blk w g (ints bs) 3) (hl : bs.length ≤ 1000000) : SL w 1 (.slice (some ⟨g, 0, none⟩) bs.length bs.length) bs.length (ints bs) := by
  refine SL.of_blk (pad := []) (e := 3) (by rw [List.append_nil]; exact h) (by simp [ints]) (Nat.le_refl _) (by unfold maxLen; omega)
def lv1 : DS := (appendS (newS 100) 3 [1, 2]).2
def lv2 : DS := (syncS lv1).2
def lv3 : DS := (appendS lv2 3 [255]).2
def lv4 : DS := crashS lv3 [1] 7
def lv5 : DS := crashS lv3 [] 7
def lv6 : DS := armS lv5 0
theorem lv_r4 : readS lv4 3 = ([1, 2, 254], 0) := by decide +kernel
theorem lv_r5 : readS lv5 3 = ([1, 2], 0) := by decide +kernel
theorem lv_a6 : (appendS lv6 1 []).1 = 23 := by decide +kernel
theorem lv_r7 : (readS (appendS lv6 1 []).2 3) = ([], 23) := by decide +kernel
section
variable {w w' : World}
def Apart (S T : List Nat) : Prop := ∀ k ∈ S, k ∉ T
theorem Apart.symm {S T : List Nat} (h : Apart S T) : Apart T S := fun k hk hm => h k hm hk
theorem Apart.next {S S' T : List Nat} (h : Apart S T) (hs : ∀ k ∈ S', k ∈ S ∨ w.heap.size ≤ k) (ht : ∀ k ∈ T, k < w.heap.size) : Apart S' T := fun k hk hm => by
  rcases hs k hk with h1 | h1
  · exact h k h1 hm
  · have := ht k hm; omega
theorem Apart.new {S T : List Nat} (hs : ∀ k ∈ S, w.heap.size ≤ k) (ht : ∀ k ∈ T, k < w.heap.size) : Apart S T := fun k hk hm => by
  have h1 := hs k hk; have h2 := ht k hm; omega
/-- All of S is new since w0, and nothing that was there has changed. -/
structure Fr (w0 : World) (S : List Nat) (w : World) : Prop where
  u : Upd [] w0 w
  new : ∀ k ∈ S, w0.heap.size ≤ k
theorem Fr.step {w0 : World} {S S' T : List Nat} (h : Fr w0 S w) (hu : Upd T w w') (hT : ∀ k ∈ T, k ∈ S ∨ w.heap.size ≤ k) (hs : ∀ k ∈ S', k ∈ S ∨ w.heap.size ≤ k) : Fr w0 S' w' :=
  ⟨h.u.fresh hu (fun k hk => .inr ((hT k hk).elim (h.new k) (fun h1 => Nat.le_trans h.u.size h1))), fun k hk => (hs k hk).elim (h.new k) (fun h1 => Nat.le_trans h.u.size h1)⟩
theorem Fr.quiet {w0 : World} {S : List Nat} (h : Fr w0 S w) (hu : Upd [] w w') : Fr w0 S w' := ⟨h.u.step hu, h.new⟩
theorem Fr.other {w0 : World} {S T : List Nat} (h : Fr w0 S w) (hu : Upd T w w') (hT : ∀ k ∈ T, w0.heap.size ≤ k) : Fr w0 S w' := ⟨h.u.fresh hu (fun k hk => .inr (hT k hk)), h.new⟩
set_option maxRecDepth 100000 in
set_option maxHeartbeats 8000000 in
theorem lives_calls : Calls Try.prog 19 #[] w fun e w' => e = .returned (.bool true) ∧ Upd [] w w' := by
  have HN := Lib.hid (show Calls Try.prog 11 #[.int .i64 100] w _ from New_good (w := w) (room := 100) (by omega))
  go_enter Try.func19, Try.ntmps19
  go_upto_region 4 with (go_at_call 11; refine HN.out.mono ?_; rintro e w1 ⟨q, S1, rfl, h1, u1, k1⟩)
  have u2 : Upd [] w1 (w1.alloc (.cells #[.int .u8 1, .int .u8 2] 5)) := (Upd.refl _ w1).alloc _
  have b2 : Blk (w1.alloc (.cells #[.int .u8 1, .int .u8 2] 5)) w1.heap.size (byts [1, 2]) 5 := Blk.new w1 (byts [1, 2]) 5
  have HA2 := Lib.hid (Append_calls (h1.quiet u2) (f := 3) ⟨by omega, by omega⟩ (sl_bytes b2 (by simp)) (by intro x hx; simp at hx; rcases hx with rfl | rfl <;> omega) (by simp) (fun g hg hm => by simp [Value.ownBlock] at hg; subst hg; have := h1.lt _ hm; omega))
  have hf2 : Fr w S1 (w1.alloc (.cells #[.int .u8 1, .int .u8 2] 5)) := ⟨u1.step u2, k1⟩
  have F2 := Lib.hid hf2
  clear u2 b2 hf2 u1 k1 h1 HN
  go_upto_region 5 with (go_at_call 14; refine HA2.out.mono ?_; rintro e w3 ⟨rfl, S3, h3, u3, k3⟩)
  have F3 := Lib.hid (And.intro h3 (F2.out.step u3 (fun k hk => .inl hk) k3))
  clear h3 u3 k3 HA2 F2
  have HS3 := Lib.hid (Sync_calls F3.out.1)
  go_upto_region 6 with (go_at_call 15; refine HS3.out.mono ?_; rintro e w4 ⟨rfl, h4, u4⟩)
  have F4 := Lib.hid (And.intro h4 (F3.out.2.step u4 (fun k hk => .inl hk) (fun k hk => .inl hk)))
  clear h4 u4 HS3 F3
  have u5 : Upd [] w4 (w4.alloc (.cells #[.int .u8 255] 5)) := (Upd.refl _ w4).alloc _
  have b5 : Blk (w4.alloc (.cells #[.int .u8 255] 5)) w4.heap.size (byts [255]) 5 := Blk.new w4 (byts [255]) 5
  have HA5 := Lib.hid (Append_calls (F4.out.1.quiet u5) (f := 3) ⟨by omega, by omega⟩ (sl_bytes b5 (by simp)) (by intro x hx; simp at hx; subst hx; omega) (by simp) (fun g hg hm => by simp [Value.ownBlock] at hg; subst hg; have := F4.out.1.lt _ hm; omega))
  have F5 := Lib.hid (F4.out.2.quiet u5)
  clear u5 b5
  go_upto_region 7 with (go_at_call 14; refine HA5.out.mono ?_; rintro e w6 ⟨rfl, S6, h6, u6, k6⟩)
  have F6 := Lib.hid (And.intro h6 (F5.out.step u6 (fun k hk => .inl hk) k6))
  clear h6 u6 k6 HA5 F5 F4
  rw [show (appendS (syncS (appendS (newS 100) 3 [1, 2]).2).2 3 [255]).2 = lv3 from rfl] at F6
  have HC6 := Lib.hid (Copy_calls F6.out.1)
  go_upto_region 8 with (go_at_call 30; refine HC6.out.mono ?_; rintro e w7 ⟨c, T7, rfl, h7, u7, k7⟩)
  have hap := Lib.hid (Apart.new k7 F6.out.1.lt)
  have F7 := Lib.hid (And.intro (F6.out.1.quiet u7) (And.intro (F6.out.2.quiet u7) (And.intro h7 (show Fr w T7 w7 from ⟨F6.out.2.u.step u7, fun k hk => Nat.le_trans F6.out.2.u.size (k7 k hk)⟩))))
  clear h7 u7 k7 HC6 F6
  have u8 : Upd [] w7 (w7.alloc (.cells #[.int .i64 1] 3)) := (Upd.refl _ w7).alloc _
  have b8 : Blk (w7.alloc (.cells #[.int .i64 1] 3)) w7.heap.size (ints [1]) 3 := Blk.new w7 (ints [1]) 3
  have HC8 := Lib.hid (Crash_calls (F7.out.1.quiet u8) (keep := [1]) (fp := 7) (sl_ints b8 (by simp)) (fun g hg hm => by simp [Value.ownBlock] at hg; subst hg; have := F7.out.1.lt _ hm; omega) (by intro x hx; simp at hx; subst hx; exact ⟨by omega, by omega⟩) ⟨by omega, by omega⟩)
  have F8 := Lib.hid (And.intro (F7.out.2.1.quiet u8) (And.intro (F7.out.2.2.1.quiet u8) (F7.out.2.2.2.quiet u8)))
  clear u8 b8
  go_upto_region 9 with (go_at_call 16; refine HC8.out.mono ?_; rintro e w9 ⟨rfl, h9, u9⟩)
  have F9 := Lib.hid (And.intro h9 (And.intro (F8.out.1.step u9 (fun k hk => .inl hk) (fun k hk => .inl hk)) (And.intro (F8.out.2.1.upd u9 (fun k hk => hap.out.symm k hk)) (F8.out.2.2.other u9 F8.out.1.new))))
  clear h9 u9 HC8 F8 F7
  rw [show crashS lv3 [1] 7 = lv4 from rfl] at F9
  have HC9 := Lib.hid (Crash_calls F9.out.2.2.1 (vk := .slice none 0 0) (keep := []) (fp := 7) ⟨rfl, none, 0, rfl, Nat.le_refl _, Nat.zero_le _, fun _ => rfl, .inl rfl⟩ (fun g hg => by simp [Value.ownBlock] at hg) (by simp) ⟨by omega, by omega⟩)
  go_upto_region 12 with (go_at_call 16; refine HC9.out.mono ?_; rintro e w10 ⟨rfl, h10, u10⟩)
  have FA := Lib.hid (And.intro (F9.out.1.upd u10 (fun k hk => hap.out k hk)) (And.intro (F9.out.2.1.other u10 F9.out.2.2.2.new) (And.intro h10 (F9.out.2.2.2.step u10 (fun k hk => .inl hk) (fun k hk => .inl hk)))))
  clear h10 u10 HC9 F9
  rw [show crashS lv3 [] 7 = lv5 from rfl] at FA
  have HR10 := Lib.hid (Read_calls FA.out.1 (f := 3) ⟨by omega, by omega⟩)
  rw [lv_r4] at HR10
  go_upto_region 13 with (go_at_call 17; refine HR10.out.mono ?_; rintro e w11 ⟨v11, rfl, o11, u11⟩; obtain ⟨_, a11, c11, rfl, _⟩ := SL.of_owns o11.row)
  have HR11 := Lib.hid (Read_calls (FA.out.2.2.1.quiet u11) (f := 3) ⟨by omega, by omega⟩)
  rw [lv_r5] at HR11
  have FB := Lib.hid (And.intro o11 (And.intro (FA.out.2.2.1.quiet u11) (FA.out.2.2.2.quiet u11)))
  have HD7a := FA.out.2.2.1.lt
  have HD7 := Lib.hid (And.intro HD7a (fun k hk => Nat.lt_of_lt_of_le (HD7a k hk) u11.size))
  clear o11 u11 HR10 FA HD7a
  go_upto_region 14 with (go_at_call 17; refine HR11.out.mono ?_; rintro e w12 ⟨v12, rfl, o12, u12⟩; obtain ⟨_, a12, c12, rfl, _⟩ := SL.of_owns o12.row)
  have FC := Lib.hid (And.intro (FB.out.1.upd u12 (by simp)) (And.intro o12 (And.intro (FB.out.2.1.quiet u12) (FB.out.2.2.quiet u12))))
  clear o12 u12 HR11 FB
  have HAR := Lib.hid (Arm_calls FC.out.2.2.1 (n := 0) ⟨by omega, by omega⟩)
  go_upto_region 15 with (go_at_call 28; refine HAR.out.mono ?_; rintro e w13 ⟨rfl, h13, u13⟩)
  have hnx : ∀ k ∈ T7, (Value.slice a11 [1, 2, 254].length c11).ownBlock ≠ some k := fun k hk e => by have h1 := HD7.out.1 k hk; have h2 := FC.out.1.fresh _ e; omega
  have hny : ∀ k ∈ T7, (Value.slice a12 [1, 2].length c12).ownBlock ≠ some k := fun k hk e => by have h1 := HD7.out.2 k hk; have h2 := FC.out.2.1.fresh _ e; omega
  have HNX := Lib.hid (And.intro hnx hny)
  have hcT := FC.out.2.2.1.p_mem
  have FD := Lib.hid (And.intro (FC.out.1.upd u13 (fun k hk => by simp only [List.mem_singleton] at hk; subst hk; exact hnx _ hcT)) (And.intro (FC.out.2.1.upd u13 (fun k hk => by simp only [List.mem_singleton] at hk; subst hk; exact hny _ hcT)) (And.intro h13 (FC.out.2.2.2.step u13 (fun k hk => .inl (by simp only [List.mem_singleton] at hk; subst hk; exact hcT)) (fun k hk => .inl hk)))))
  clear hnx hny hcT h13 u13 HAR FC
  have HAP := Lib.hid (Append_calls FD.out.2.2.1 (f := 1) (v := .slice none 0 0) (b := []) ⟨by omega, by omega⟩ ⟨rfl, none, 0, rfl, Nat.le_refl _, Nat.zero_le _, fun _ => rfl, .inl rfl⟩ (by simp) (by simp) (fun g hg => by simp [Value.ownBlock] at hg))
  rw [show armS lv5 0 = lv6 from rfl, lv_a6] at HAP
  go_upto_region 16 with (go_at_call 14; refine HAP.out.mono ?_; rintro e w14 ⟨rfl, T8, h14, u14, k14⟩)
  have FE := Lib.hid (And.intro (FD.out.1.upd u14 HNX.out.1) (And.intro (FD.out.2.1.upd u14 HNX.out.2) (And.intro h14 (FD.out.2.2.2.step u14 (fun k hk => .inl hk) k14))))
  clear h14 u14 k14 HAP FD
  have HR14 := Lib.hid (Read_calls FE.out.2.2.1 (f := 3) ⟨by omega, by omega⟩)
  rw [lv_r7] at HR14
  go_upto_region 17 with (go_at_call 17; refine HR14.out.mono ?_; rintro e w15 ⟨v15, rfl, o15, u15⟩; obtain ⟨_, a15, c15, rfl, _⟩ := SL.of_owns o15.row)
  have FF := Lib.hid (And.intro (FE.out.1.upd u15 (by simp)).sl (And.intro (FE.out.2.1.upd u15 (by simp)).sl (FE.out.2.2.2.quiet u15)))
  clear o15 u15 HR14 FE
  have u16 : Upd [] w15 (w15.alloc (.cells #[.int .u8 1, .int .u8 2, .int .u8 254] 5)) := (Upd.refl _ w15).alloc _
  have b16 : Blk (w15.alloc (.cells #[.int .u8 1, .int .u8 2, .int .u8 254] 5)) w15.heap.size (byts [1, 2, 254]) 5 := Blk.new w15 (byts [1, 2, 254]) 5
  have HS16 := Lib.hid (show Calls Try.prog 18 #[.slice a11 3 c11, .slice (some ⟨w15.heap.size, 0, none⟩) 3 3] (w15.alloc (.cells #[.int .u8 1, .int .u8 2, .int .u8 254] 5)) (fun e w' => e = .returned (.bool true) ∧ Upd [] (w15.alloc (.cells #[.int .u8 1, .int .u8 2, .int .u8 254] 5)) w') from (SameBytes_calls (FF.out.1.upd u16 (by simp)) (sl_bytes b16 (by simp))).mono (fun e w' h => by simpa using h))
  have HU := Lib.hid (And.intro u16 (And.intro FF.out.2.1 FF.out.2.2))
  clear u16 b16 FF
  go_wp2_with (first
    | (go_at_call 18; with_reducible refine HS16.out.mono ?_; rintro e w16 ⟨rfl, u17⟩;
       have u18 : Upd [] w16 (w16.alloc (.cells #[.int .u8 1, .int .u8 2] 5)) := (Upd.refl _ w16).alloc _;
       have b18 : Blk (w16.alloc (.cells #[.int .u8 1, .int .u8 2] 5)) w16.heap.size (byts [1, 2]) 5 := Blk.new w16 (byts [1, 2]) 5;
       have HS18 := Lib.hid (show Calls Try.prog 18 #[.slice a12 2 c12, .slice (some ⟨w16.heap.size, 0, none⟩) 2 2] (w16.alloc (.cells #[.int .u8 1, .int .u8 2] 5)) (fun e w' => e = .returned (.bool true) ∧ Upd [] (w16.alloc (.cells #[.int .u8 1, .int .u8 2] 5)) w') from (SameBytes_calls ((((HU.out.2.1.upd HU.out.1 (by simp)).upd u17 (by simp)).upd u18 (by simp))) (sl_bytes b18 (by simp))).mono (fun e w' h => by simpa using h));
       have HU2 := Lib.hid ((HU.out.2.2.quiet HU.out.1).quiet (u17.step u18)); clear u18 b18 u17)
    | (go_at_call 18; with_reducible refine HS18.out.mono ?_; rintro e w19 ⟨rfl, u19⟩))
  go_ret
  exact ⟨rfl, HU2.out.u.step u19⟩
end
end Disk
end Go.Proofs.Ytnljjkmmnkldcaa
