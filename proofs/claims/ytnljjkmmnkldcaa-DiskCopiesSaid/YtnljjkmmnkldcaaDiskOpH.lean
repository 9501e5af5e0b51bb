/- The law DiskCopies: its walk. Conditions: none. -/
import Derived.Test.YtnljjkmmnkldcaaDiskOpG
set_option linter.unusedVariables false
set_option linter.unusedSimpArgs false
set_option linter.unusedSectionVars false
open Go.RowKit
namespace Go.Proofs.Ytnljjkmmnkldcaa
open L
namespace Disk
open Wire R01
section
variable {w w' : World}
set_option maxRecDepth 100000 in
set_option maxHeartbeats 8000000 in
theorem DiskCopies_calls {x : Int} (hx : IsI64 x) {v1 v2 : Value} {xs ys : List Int} (h1 : SL w 1 v1 xs.length (ints xs)) (hxs : ∀ x ∈ xs, IsI64 x) (h2 : SL w 1 v2 ys.length (ints ys)) (hys : ∀ x ∈ ys, IsI64 x) :
    Calls Try.prog 8 #[.int .i64 x, v1, v2] w fun e w' => e = .returned (.bool true) ∧ Upd [] w w' := by
  obtain ⟨a1, c1, rfl, _⟩ := h1.val
  obtain ⟨a2, c2, rfl, _⟩ := h2.val
  have HM := Lib.hid (made_calls hx h1 hxs)
  have H2 := Lib.hid (And.intro h2 hys)
  clear h1 hxs h2 hys hx
  go_enter Try.func8, Try.ntmps8
  go_upto_region 4 with (go_at_call 27; refine HM.out.mono ?_; rintro e w1 ⟨p, q, s, rfl, P1⟩)
  have HC := Lib.hid P1.copy
  clear P1 HM
  go_upto_region 5 with (go_at_call 30; refine HC.out.mono ?_; rintro e w2 ⟨c, rfl, T2⟩)
  have HT := Lib.hid T2
  clear T2 HC
  go_upto_region 7 with (go_at_call 26; refine (same_calls HT.out.pairC).mono ?_; rintro e w3 ⟨rfl, u3⟩)
  have HT3 := Lib.hid (HT.out.quiet u3)
  clear u3 HT
  have HO := Lib.hid (Ops_calls (H2.out.1.upd HT3.out.u (by simp)) H2.out.2)
  go_upto_region 8 with (go_at_call 23; refine HO.out.mono ?_; rintro e w4 ⟨vo, ops, rfl, ho⟩)
  have hT := Lib.hid (HT3.out.led ho)
  obtain ⟨ao, co, hvo⟩ := ho.opsL.2.1
  have hol : ops.length ≤ maxLen := by obtain ⟨cs, hz, _⟩ := ho.ex; obtain ⟨_, _, _, _, z1, z2, _⟩ := hz.sl; omega
  clear ho HO HT3 H2
  subst hvo
  generalize w3.heap.size = lo at *
  generalize w4.heap.size = hi at *
  unfold maxLen at hol
  have hs0 : runS s (ops.take 0) = s := rfl
  have hsn : runS s (ops.take ops.length) = runS s ops := by rw [List.take_length]
  have HSN := Lib.hid hsn
  go_wp2_with fail
  go_loopw [11] (fun i wr => ∃ (k : Nat), i = .int .i64 k ∧ k ≤ ops.length ∧ Three w lo hi p c q s (runS s (ops.take k)) s (.slice ao ops.length co) ops wr) (fun i _ => ops.length - (intOf i).toNat)
  case atStart => exact ⟨0, rfl, Nat.zero_le _, hT.out⟩
  case round =>
    obtain ⟨wo, rfl⟩ : ∃ wo : World, wo = wr := ⟨_, rfl⟩
    obtain ⟨k, rfl, hk, hTw⟩ := hrel
    clear hs0 hsn hT
    by_cases hlt : k < ops.length
    · have hli : (k : Int) < ops.length := by omega
      obtain ⟨g, cap, ab, cb, ak, ck, he, hat⟩ := hTw.at (List.getElem?_eq_getElem hlt)
      cases he
      have HRT := Lib.hid (runS_take (s := s) (List.getElem?_eq_getElem hlt))
      generalize ops[k] = o at *
      have d0 := hat.c 0 _ rfl
      have d1 := hat.c 1 _ rfl
      have d2 := hat.c 2 _ rfl
      have d3 := hat.c 3 _ rfl
      have d4 := hat.c 4 _ rfl
      rw [Nat.add_zero] at d0
      have HC := Lib.hid (Three.doC hTw hat)
      clear hTw hat
      go_upto_region 10 with (go_at_call 24; refine HC.out.mono ?_; rintro e w5 ⟨rfl, h5, _⟩)
      rw [← HRT.out] at h5
      have H5 := Lib.hid h5
      clear h5 d0 d1 d2 d3 d4 HC
      go_wp2_with fail
      exact ⟨⟨k + 1, by go_num, by omega, H5.out⟩, by simp [intOf]; omega⟩
    · have hli : ¬ (k : Int) < ops.length := by omega
      have hkk : k = ops.length := by omega
      subst hkk
      rw [HSN.out] at hTw
      have HT := Lib.hid hTw
      clear hTw hlt
      go_upto_region 14 with (go_at_call 26; refine (same_calls HT.out.pairP).mono ?_; rintro e w6 ⟨rfl, u6⟩)
      have HT6 := Lib.hid (HT.out.quiet u6)
      have HCP := Lib.hid HT6.out.copyP
      clear u6 HT
      go_upto_region 15 with (go_at_call 30; refine HCP.out.mono ?_; rintro e w7 ⟨d, rfl, T7⟩)
      have HT7 := Lib.hid T7
      clear T7 HT6 HCP hli
      go_wp2_with fail
      obtain ⟨z, hz⟩ : ∃ z : World, z = w := ⟨_, rfl⟩
      go_loopw [13] (fun i wr => ∃ (k : Nat), i = .int .i64 k ∧ k ≤ ops.length ∧ Three w lo hi c d q (runS s ops) (runS s (ops.take k)) (runS s (ops.take k)) (.slice ao ops.length co) ops wr) (fun i _ => ops.length - (intOf i).toNat)
      case atStart => exact ⟨0, rfl, Nat.zero_le _, HT7.out⟩
      case round =>
        obtain ⟨wo, rfl⟩ : ∃ wo : World, wo = wr := ⟨_, rfl⟩
        obtain ⟨k, rfl, hk, hTw⟩ := hrel
        by_cases hlt : k < ops.length
        · have hli : (k : Int) < ops.length := by omega
          obtain ⟨g, cap, ab, cb, ak, ck, he, hat⟩ := hTw.at (List.getElem?_eq_getElem hlt)
          cases he
          have HRT := Lib.hid (runS_take (s := s) (List.getElem?_eq_getElem hlt))
          generalize ops[k] = o at *
          generalize runS s (ops.take k) = sk at *
          have c0 := hat.c 0 _ rfl
          have c1 := hat.c 1 _ rfl
          have c2 := hat.c 2 _ rfl
          have c3 := hat.c 3 _ rfl
          have c4 := hat.c 4 _ rfl
          rw [Nat.add_zero] at c0
          have HT := Lib.hid (And.intro hTw hat)
          clear hTw hat
          have ne : Nonempty (Five ⟨g, k * 5, none⟩ ⟨g, k * 5 + 1, none⟩ ⟨g, k * 5 + 2, none⟩ ⟨g, k * 5 + 3, none⟩ ⟨g, k * 5 + 4, none⟩ (.int .i64 o.kind) (.int .i64 o.file) (.int .i64 o.n) (.slice ab o.b.length cb) (.slice ak o.keep.length ck)) := ⟨⟨wo, c0, c1, c2, c3, c4⟩⟩
          go_upto_region 20 with fail
          refine wp_region_ord 11 2 [0, 1, 2, 3, 4, 6, 7, 8, 9, 10, 12] [4, 10] [0, 1, 2, 3, 4, 6, 7, 8, 9, 10, 5, 11, 12] (fun w' => ∃ x : Five ⟨g, k * 5, none⟩ ⟨g, k * 5 + 1, none⟩ ⟨g, k * 5 + 2, none⟩ ⟨g, k * 5 + 3, none⟩ ⟨g, k * 5 + 4, none⟩ (.int .i64 o.kind) (.int .i64 o.file) (.int .i64 o.n) (.slice ab o.b.length cb) (.slice ak o.keep.length ck), w' = x.val) (by kernel_rfl) (by kernel_rfl) (Five.of c0 c1 c2 c3 c4) ?_
          repeat (first | (refine wpOrd_load rfl rfl rfl rfl (fun K hK => ?_); go_big_quiet_step (fail); refine wpQuiet_nil ?_; refine hK _ ?_; clear hK K) | (refine wpOrd_free rfl rfl rfl (fun K hK => ?_); go_big_quiet_step (fail); refine wpQuiet_nil ?_; refine hK _ ?_; clear hK K))
          refine wpOrd_fix rfl rfl (fun K hK => ?_)
          go_wp2_with (go_at_call 24; refine (Three.doC (HT.out.1.quiet (by iterate 25 (first | exact Upd.refl _ _ | assumption | refine Upd.alloc ?_ _ | refine Upd.drew ?_ | refine Upd.drewN ?_ _ | refine Upd.dl ?_ | refine Upd.step ?_ (Ext.upd _) | refine Upd.nil ?_ | skip))) (HT.out.2.upd (T := []) (by iterate 25 (first | exact Upd.refl _ _ | assumption | refine Upd.alloc ?_ _ | refine Upd.drew ?_ | refine Upd.drewN ?_ _ | refine Upd.dl ?_ | refine Upd.step ?_ (Ext.upd _) | refine Upd.nil ?_ | skip)) (by simp))).mono ?_; rintro e w8 ⟨rfl, h8, a8⟩)
          have HR8 := Lib.hid (And.intro h8 a8)
          clear c0 c1 c2 c3 c4 HT h8 a8
          refine ⟨fun _ => Five.of (by have h := HR8.out.2.c 0 _ rfl; rw [Nat.add_zero] at h; exact h) (HR8.out.2.c 1 _ rfl) (HR8.out.2.c 2 _ rfl) (HR8.out.2.c 3 _ rfl) (HR8.out.2.c 4 _ rfl), ?_⟩
          repeat (first | (refine wpOrd_load rfl rfl rfl rfl (fun K hK => ?_); go_big_quiet_step (fail); refine wpQuiet_nil ?_; refine hK _ ?_; clear hK K) | (refine wpOrd_free rfl rfl rfl (fun K hK => ?_); go_big_quiet_step (fail); refine wpQuiet_nil ?_; refine hK _ ?_; clear hK K))
          refine wpOrd_fix rfl rfl (fun K hK => ?_)
          go_wp2_with (go_at_call 25; refine (Three.rdoC HR8.out.1 HR8.out.2).mono ?_; rintro e w9 ⟨rfl, h9⟩)
          rw [← HRT.out] at h9
          have H9 := Lib.hid h9
          clear h9 HR8 HRT
          generalize (doS sk o).1 = er at *
          refine ⟨fun hC => absurd hC (by decide), ?_⟩
          repeat (first | (refine wpOrd_load rfl rfl rfl rfl (fun K hK => ?_); go_big_quiet_step (fail); refine wpQuiet_nil ?_; refine hK _ ?_; clear hK K) | (refine wpOrd_free rfl rfl rfl (fun K hK => ?_); go_big_quiet_step (fail); refine wpQuiet_nil ?_; refine hK _ ?_; clear hK K))
          refine wpOrd_nil ?_
          go_wp2_with fail
          exact ⟨⟨k + 1, by go_num, by omega, H9.out⟩, by simp [intOf]; omega⟩
        · have hli : ¬ (k : Int) < ops.length := by omega
          have hkk : k = ops.length := by omega
          subst hkk
          rw [HSN.out] at hTw
          have HT := Lib.hid hTw
          clear hTw hlt
          have HSA := Lib.hid (same_calls HT.out.pairC)
          go_wp2_with (first
            | (go_at_call 26; (with_reducible refine HSA.out.mono ?_); rintro e w10 ⟨rfl, u10⟩; have HT10 := Lib.hid (HT.out.quiet u10); clear u10; have HSB := Lib.hid (same_calls HT10.out.pairP))
            | (go_at_call 26; (with_reducible refine HSB.out.mono ?_); rintro e w11 ⟨rfl, u11⟩)
            | (go_at_call 19; refine lives_calls.mono ?_; rintro e w12 ⟨rfl, u12⟩))
          go_ret
          exact ⟨rfl, (HT10.out.u.step u11).step u12⟩
end
end Disk
end Go.Proofs.Ytnljjkmmnkldcaa
