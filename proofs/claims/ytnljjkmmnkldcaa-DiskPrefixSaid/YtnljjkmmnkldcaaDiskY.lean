/- Walks through the reference of package disk: Copy. Conditions: none. -/
import Derived.Test.YtnljjkmmnkldcaaDiskX
set_option linter.unusedVariables false
set_option linter.unusedSimpArgs false
set_option linter.unusedSectionVars false
open Go.RowKit
namespace Go.Proofs.Ytnljjkmmnkldcaa
open L
namespace Disk
open Wire
attribute [-go_sem] sliced
section
variable {w w' : World} {p : Nat} {s : DS} {S : List Nat}
theorem RRot_calls (h : RDk w p s S) {f z : Int} (hf : IsI64 f) (hz : IsI64 z) :
    Calls Try.prog 35 #[.pointer (some ⟨p, 0, none⟩), .int .i64 f, .int .i64 z] w (RDkT p S w (.int .i64 (rotS s f z).1) (rotS s f z).2) := by
  by_cases hb : isF f = false ∨ z < 0 ∨ 8 * ((s.B f.toNat).length : Int) ≤ z
  · have hr : rotS s f z = (1, s) := by unfold rotS; rw [if_pos hb]
    rw [hr]
    exact (RRot_bad h hf hz hb).mono fun e w' ⟨h1, h2⟩ => ⟨h1, S, h2 ▸ h, h2 ▸ Upd.refl _ _, fun k hk => .inl hk⟩
  · simp only [not_or, Bool.not_eq_false, Int.not_lt, Int.not_le] at hb
    have h64 := isF_iff.1 hb.1
    obtain ⟨i, rfl⟩ := Int.eq_ofNat_of_zero_le h64.1
    obtain ⟨k, rfl⟩ := Int.eq_ofNat_of_zero_le hb.2.1
    rw [Int.toNat_natCast] at hb
    rw [rotS_eq (by omega) (by omega)]
    exact RRot_good h (by omega) (by omega)
theorem RTrunc_calls (h : RDk w p s S) {f z : Int} (hf : IsI64 f) (hz : IsI64 z) :
    Calls Try.prog 44 #[.pointer (some ⟨p, 0, none⟩), .int .i64 f, .int .i64 z] w fun e w' => e = .returned (.int .i64 (truncS s f z).1) ∧ RDk w' p (truncS s f z).2 S ∧ Upd S w w' := by
  by_cases hb : isF f = false ∨ z < 0 ∨ ((s.B f.toNat).length : Int) < z
  · have hr : truncS s f z = (1, s) := by unfold truncS; rw [if_pos hb]
    rw [hr]
    exact (RTrunc_bad h hf hz hb).mono fun e w' ⟨h1, h2⟩ => ⟨h1, h2 ▸ h, h2 ▸ Upd.refl _ _⟩
  · simp only [not_or, Bool.not_eq_false, Int.not_lt] at hb
    have h64 := isF_iff.1 hb.1
    obtain ⟨i, rfl⟩ := Int.eq_ofNat_of_zero_le h64.1
    obtain ⟨k, rfl⟩ := Int.eq_ofNat_of_zero_le hb.2.1
    rw [Int.toNat_natCast] at hb
    exact RTrunc_good h (by omega) (by omega)
/-- The copy of a model, so far: its bytes up to b, its marks up to f. -/
def copyM (s : DS) (b f : Nat) : DS := ⟨s.room, fun i => if i < b then s.B i else [], fun i => if i < f then s.F i else 0, false, -1⟩
theorem copyM_zero (s : DS) : copyM s 0 0 = newS s.room := by simp [copyM, newS]
theorem copyM_B (s : DS) (k : Nat) : copyM s (k + 1) k = { copyM s k k with B := setB (copyM s k k).B k (s.B k) } := by
  unfold copyM
  congr 1
  funext j
  unfold setB
  by_cases e : j = k
  · subst e; simp
  · by_cases h : j < k
    · simp [e, h, show j < k + 1 by omega]
    · simp [e, h, show ¬ j < k + 1 by omega]
theorem copyM_F (s : DS) (k : Nat) : copyM s (k + 1) (k + 1) = { copyM s (k + 1) k with F := setF (copyM s (k + 1) k).F k (s.F k) } := by
  unfold copyM
  congr 1
  funext j
  unfold setF
  by_cases e : j = k
  · subst e; simp
  · by_cases h : j < k
    · simp [e, h, show j < k + 1 by omega]
    · simp [e, h, show ¬ j < k + 1 by omega]
theorem DS.eq_of {a b : DS} (h1 : a.room = b.room) (h2 : a.B = b.B) (h3 : a.F = b.F) (h4 : a.off = b.off) (h5 : a.plan = b.plan) : a = b := by
  obtain ⟨_, _, _, _, _⟩ := a
  obtain ⟨_, _, _, _, _⟩ := b
  simp only at h1 h2 h3 h4 h5
  subst h1 h2 h3 h4 h5
  rfl
theorem copyM_end {s : DS} (h : s.Ok) : ({ copyM s 64 64 with off := s.off, plan := s.plan } : DS) = s := by
  refine DS.eq_of rfl (funext fun i => ?_) (funext fun i => ?_) rfl rfl
  · simp only [copyM]
    split
    · rfl
    · exact (h.out i (by omega)).symm
  · simp only [copyM]
    split
    · rfl
    · have h1 := h.firm i
      rw [h.out i (by omega)] at h1
      have h3 : s.F i = 0 := by simpa using h1
      exact h3.symm
theorem RDk0.head {s' : DS} (h : RDk0 w p s S) (hB : s'.B = s.B) (hF : s'.F = s.F) (hu : Upd [p] w w')
    (hb : ∀ x y, Blk w p [.int .i64 (s.room : Int), x, y, .bool s.off, .int .i64 s.plan] 58 → Blk w' p [.int .i64 (s'.room : Int), x, y, .bool s'.off, .int .i64 s'.plan] 58) : RDk0 w' p s' S := by
  obtain ⟨⟨bB, bF, V, h1, h2, h3, h4, h5, h6, h7, h8, h9, h10, h11⟩, hlt⟩ := h
  refine ⟨⟨bB, bF, V, hb _ _ h1, h2.upd hu (by simp; exact fun e => h4 e.symm), by rw [hF]; exact h3.upd hu (by simp; exact fun e => h5 e.symm), h4, h5, h6, h7, h8, h9, fun i hi => ?_, h11⟩, fun k hk => Nat.lt_of_lt_of_le (hlt k hk) hu.size⟩
  rw [hB]
  obtain ⟨a1, a2⟩ := h10 i hi
  exact ⟨ownsRow_updL a1 hu (fun b hb e => by simp at hb; exact (a2 b e).2.1 hb), a2⟩
theorem RDk0.cells (h : RDk0 w p s S) : ∃ x y, Blk w p [.int .i64 (s.room : Int), x, y, .bool s.off, .int .i64 s.plan] 58 := by obtain ⟨_, _, _, h1, _⟩ := h.ex; exact ⟨_, _, h1⟩
/-- A world in which four cells hold what they held. -/
def Four (p0 p1 p2 p3 : Addr) (v0 v1 v2 v3 : Value) : Type := { w : World // w.cell? p0 = some v0 ∧ w.cell? p1 = some v1 ∧ w.cell? p2 = some v2 ∧ w.cell? p3 = some v3 }
section
variable {p0 p1 p2 p3 : Addr} {v0 v1 v2 v3 : Value}
theorem Four.c0 (x : Four p0 p1 p2 p3 v0 v1 v2 v3) : x.val.cell? p0 = some v0 := x.property.1
theorem Four.c1 (x : Four p0 p1 p2 p3 v0 v1 v2 v3) : x.val.cell? p1 = some v1 := x.property.2.1
theorem Four.c2 (x : Four p0 p1 p2 p3 v0 v1 v2 v3) : x.val.cell? p2 = some v2 := x.property.2.2.1
theorem Four.c3 (x : Four p0 p1 p2 p3 v0 v1 v2 v3) : x.val.cell? p3 = some v3 := x.property.2.2.2
attribute [go_sem] Four.c0 Four.c1 Four.c2 Four.c3
theorem Four.of {w : World} (h0 : w.cell? p0 = some v0) (h1 : w.cell? p1 = some v1) (h2 : w.cell? p2 = some v2) (h3 : w.cell? p3 = some v3) : ∃ x : Four p0 p1 p2 p3 v0 v1 v2 v3, w = x.val := ⟨⟨w, h0, h1, h2, h3⟩, rfl⟩
end
set_option maxRecDepth 100000 in
set_option maxHeartbeats 8000000 in
theorem RCopy_calls (h : RDk w p s S) : Calls Try.prog 33 #[.pointer (some ⟨p, 0, none⟩)] w fun e w' => ∃ q S', e = .returned (.pointer (some ⟨q, 0, none⟩)) ∧ RDk w' q s S' ∧ Upd [] w w' ∧ ∀ k ∈ S', w.heap.size ≤ k := by
  obtain ⟨x, y, h1⟩ := h.cells
  have c0 := h1.cell (i := 0) rfl
  have c3 := h1.cell (i := 3) rfl
  have c4 := h1.cell (i := 4) rfl
  have HC := Lib.hid (And.intro c3 c4)
  have HN := Lib.hid (RNew_calls (w := w) h.ok.room)
  have H := Lib.hid h
  clear h h1 c3 c4
  go_enter Try.func33, Try.ntmps33
  go_upto_region 2 with (go_at_call 22; refine HN.out.mono ?_; rintro e w1 ⟨q, S1, rfl, h1, u1, k1⟩)
  have H1 := Lib.hid (And.intro h1 (And.intro u1 k1))
  clear h1 u1 k1 HN c0
  go_wp2_with fail
  go_loopw [4] (fun i wr => ∃ k : Nat, i = .int .i64 k ∧ k ≤ 64 ∧ ∃ S2, RDk0 wr q (copyM s k k) S2 ∧ Upd [] w wr ∧ ∀ j ∈ S2, w.heap.size ≤ j) (fun i _ => 64 - (intOf i).toNat)
  case atStart => exact ⟨0, rfl, Nat.zero_le _, S1, by rw [copyM_zero]; exact H1.out.1.to0, H1.out.2.1, H1.out.2.2⟩
  case round =>
    obtain ⟨wo, rfl⟩ : ∃ wo : World, wo = wr := ⟨_, rfl⟩
    obtain ⟨k, rfl, hk, S2, hd, hu, hs2⟩ := hrel
    by_cases hlt : k < 64
    · have hlti : (k : Int) < 64 := by omega
      obtain ⟨bB, aB, cB, d1, d2, _, hbBS0, hrowS, _⟩ := (H.out.quiet hu).to0.file hlt
      have hbBS := Lib.hid hbBS0
      clear hbBS0
      obtain ⟨bF, e1, e2, e3, _⟩ := (H.out.quiet hu).to0.mark hlt
      obtain ⟨qB, aQ, cQ, f1, f2, f3, hqS, hqrow, hqown, hput⟩ := hd.file hlt
      have hn0 : (copyM s k k).B k = [] := by simp [copyM]
      rw [hn0] at f2 hqrow hqown hput
      simp only [List.length_nil] at f2 hqrow hqown hput
      have hlB := H.out.ok.len k
      have hbl1 := World.block_lt_of_cell? _ _ d2
      have hbl2 := World.block_lt_of_cell? _ _ f2
      have HQ := Lib.hid (And.intro hqS (And.intro hqrow (And.intro hqown (And.intro hput (And.intro (SL.of_owns hrowS) (And.intro hd (And.intro hu hs2)))))))
      have HCE := Lib.hid (And.intro f2 f3)
      clear hqS hqrow hqown hput hrowS hd hu hs2 hn0
      go_wp2_with fail
      have ne : Nonempty (Four ⟨q, 1, none⟩ ⟨qB, k, none⟩ ⟨p, 1, none⟩ ⟨bB, k, none⟩ (.slice (some ⟨qB, 0, none⟩) 64 64) (.slice aQ 0 cQ) (.slice (some ⟨bB, 0, none⟩) 64 64) (.slice aB (s.B k).length cB)) := ⟨⟨wo, f1, f2, d1, d2⟩⟩
      have HMK := Lib.hid (And.intro f1 (And.intro f2 (And.intro d1 d2)))
      refine wp_region_ord 21 1 [0, 1, 2, 3, 4, 5, 6, 7, 8, 9, 10, 11, 12, 13, 14, 15, 16, 17, 18, 20] [3, 8, 11, 15, 18] [0, 1, 2, 3, 4, 5, 6, 7, 8, 9, 10, 11, 12, 13, 14, 15, 16, 17, 18, 19, 20, 21] (fun w' => ∃ x_ : Four ⟨q, 1, none⟩ ⟨qB, k, none⟩ ⟨p, 1, none⟩ ⟨bB, k, none⟩ (.slice (some ⟨qB, 0, none⟩) 64 64) (.slice aQ 0 cQ) (.slice (some ⟨bB, 0, none⟩) 64 64) (.slice aB (s.B k).length cB), w' = x_.val) (by kernel_rfl) (by kernel_rfl) (Four.of HMK.out.1 HMK.out.2.1 HMK.out.2.2.1 HMK.out.2.2.2) ?_
      clear f1 f2 d1 d2
      repeat (first | (refine wpOrd_load rfl rfl rfl rfl (fun K hK => ?_); go_big_quiet_step (fail); refine wpQuiet_nil ?_; refine hK _ ?_; clear hK K) | (refine wpOrd_free rfl rfl rfl (fun K hK => ?_); go_big_quiet_step (fail); refine wpQuiet_nil ?_; refine hK _ ?_; clear hK K))
      refine wpOrd_fix rfl rfl (fun K hK => ?_)
      have udr : Upd [] wo wo.drew := (Upd.refl _ _).drew
      have HUD := Lib.hid udr
      clear udr
      refine wpList_appS rfl _ _ _ rfl 5 1 1 _ Try.underlying27 infoByte rfl (by decide) (.slice aQ 0 cQ) 0 [] rfl (ownsRow_updL HQ.out.2.1 HUD.out (by simp)) _ _ _ rfl (HQ.out.2.2.2.2.1.upd HUD.out (by simp)) (byts_one _) (by unfold maxLen; omega) (by omega) ?_
      intro a3 cap3 w3 o3 u3 k3
      simp only [Nat.zero_add, List.nil_append] at o3 u3 k3 ⊢
      go_wp2_with fail
      simp only [Act.put, List.setIfInBounds_toArray, List.set_cons_zero, List.set_cons_succ]
      have hTq : ∀ b ∈ (Value.slice aQ 0 cQ).ownBlock.toList, b ∈ S2 ∧ b ≠ qB ∧ b ≠ q := fun b hb => HQ.out.2.2.1 b (by simpa using hb)
      have U03 : Upd (Value.slice aQ 0 cQ).ownBlock.toList wo w3 := (HUD.out.nil).trans u3
      have hpS := H.out.p_mem
      have g1 := U03.some HMK.out.1 (fun hm => (hTq _ hm).2.2 rfl)
      have g2 := U03.some HMK.out.2.1 (fun hm => (hTq _ hm).2.1 rfl)
      have g3 := U03.some HMK.out.2.2.1 (fun hm => by have h1 := HQ.out.2.2.2.2.2.2.2 _ (hTq _ hm).1; have h2 := H.out.lt _ hpS; simp only at h1; omega)
      have g4 := U03.some HMK.out.2.2.2 (fun hm => by have h1 := HQ.out.2.2.2.2.2.2.2 _ (hTq _ hm).1; have h2 := H.out.lt _ hbBS.out; simp only at h1; omega)
      refine ⟨fun _ => Four.of g1 g2 g3 g4, ?_⟩
      repeat (first | (refine wpOrd_load rfl rfl rfl rfl (fun K hK => ?_); go_big_quiet_step (fail); refine wpQuiet_nil ?_; refine hK _ ?_; clear hK K) | (refine wpOrd_free rfl rfl rfl (fun K hK => ?_); go_big_quiet_step (fail); refine wpQuiet_nil ?_; refine hK _ ?_; clear hK K))
      have hv3 : ∀ g, (Value.slice a3 (s.B k).length cap3).ownBlock = some g → (g ∉ S2 ∧ g < w3.heap.size) ∨ (Value.slice aQ 0 cQ).ownBlock = some g := fun g hg => by
        rcases k3 with k3 | k3
        · exact .inr (by rw [← k3, hg])
        · refine .inl ⟨fun hm => ?_, (o3.lt g hg).2⟩
          rw [hg] at k3
          have h1 := HQ.out.2.2.2.2.2.1.lt g hm
          simp at k3
          omega
      obtain ⟨q1, q2⟩ := HQ.out.2.2.2.1 _ w3 (.slice a3 (s.B k).length cap3) (s.B k) (fun b hb => .inr (by simpa using hb)) U03 o3 hv3
      have f3' := (U03.frozen (World.block_lt_of_cell? _ _ HCE.out.1) (fun hm => (hTq _ hm).2.1 rfl)).trans HCE.out.2
      refine wpOrd_fix rfl rfl (fun K hK => ?_)
      go_wp2_with fail
      try (refine ⟨fun hC => absurd hC (by decide), ?_⟩)
      refine wpOrd_nil ?_
      obtain ⟨w4, hw4⟩ : ∃ w4 : World, w4 = w3.setCell ⟨qB, k, none⟩ (.slice a3 (s.B k).length cap3) := ⟨_, rfl⟩
      rw [← hw4]
      rw [← hw4] at q1 q2
      rw [← copyM_B] at q1
      have hu4 : Upd [] w w4 := HQ.out.2.2.2.2.2.2.1.fresh q2 (fun b hb => .inr (by
        rcases List.mem_cons.1 hb with rfl | hb
        · exact HQ.out.2.2.2.2.2.2.2 _ HQ.out.1
        · exact HQ.out.2.2.2.2.2.2.2 _ (hTq b hb).1))
      have hs4 : ∀ j ∈ (Value.slice a3 (s.B k).length cap3).ownBlock.toList ++ S2, w.heap.size ≤ j := fun j hj => by
        rcases List.mem_append.1 hj with hj | hj
        · have hj2 : (Value.slice a3 (s.B k).length cap3).ownBlock = some j := by simpa using hj
          rcases k3 with k3 | k3
          · exact HQ.out.2.2.2.2.2.2.2 _ (HQ.out.2.2.1 j (by rw [← k3, hj2])).1
          · rw [hj2] at k3
            have h1 := HQ.out.2.2.2.2.2.2.1.size
            simp at k3
            omega
        · exact HQ.out.2.2.2.2.2.2.2 j hj
      have H4 := Lib.hid (And.intro q1 (And.intro hu4 hs4))
      clear hw4 q1 q2 hu4 hs4 f3' hv3 g1 g2 g3 g4 U03 o3 u3 k3 HUD ne e1 e2 e3
      obtain ⟨bF, e1, e2, e3, _⟩ := (H.out.quiet H4.out.2.1).to0.mark hlt
      obtain ⟨qF, f1, f2, f3, hfS, hmk⟩ := H4.out.1.mark hlt
      have hbl3 := World.block_lt_of_cell? _ _ e2
      have hbl4 := World.block_lt_of_cell? _ _ f2
      obtain ⟨m1, m2⟩ := hmk [] w4.drew (s.F k) (by simp) ((Upd.refl [] w4).drew)
      rw [← copyM_F] at m1
      have HM := Lib.hid (And.intro m1 (And.intro m2 hfS))
      clear hmk m1 m2 hfS
      go_wp2_with fail
      refine wp_region_ord 13 1 [0, 1, 2, 3, 4, 5, 6, 7, 8, 9, 10, 11, 12] [3, 8, 11] [0, 1, 2, 3, 4, 5, 6, 7, 8, 9, 10, 11, 12, 13] (fun w' => ∃ x : Ext w4, w' = x.val) (by kernel_rfl) (by kernel_rfl) (Ext.of (by iterate 25 (first | exact Upd.refl _ _ | assumption | refine Upd.alloc ?_ _ | refine Upd.drew ?_ | refine Upd.drewN ?_ _ | refine Upd.dl ?_ | refine Upd.step ?_ (Ext.upd _) | refine Upd.nil ?_ | skip))) ?_
      repeat (first | (refine wpOrd_load rfl rfl rfl rfl (fun K hK => ?_); go_big_quiet_step (fail); refine wpQuiet_nil ?_; refine hK _ ?_; clear hK K) | (refine wpOrd_free rfl rfl rfl (fun K hK => ?_); go_big_quiet_step (fail); refine wpQuiet_nil ?_; refine hK _ ?_; clear hK K))
      refine wpOrd_fix rfl rfl (fun K hK => ?_)
      go_wp2_with fail
      try (refine ⟨fun hC => absurd hC (by decide), ?_⟩)
      refine wpOrd_nil ?_
      go_wp2_with fail
      go_roundw
      case rel => exact ⟨k + 1, by go_num, by omega, _, HM.out.1, H4.out.2.1.fresh HM.out.2.1 (fun j hj => .inr (by simp only [List.mem_singleton] at hj; subst hj; exact H4.out.2.2 _ HM.out.2.2)), H4.out.2.2⟩
      case measure => simp [intOf]; omega
    · have hk64 : k = 64 := by omega
      subst hk64
      obtain ⟨x2, y2, h1⟩ := hd.cells
      have c3 := h1.cell (i := 3) rfl
      have c4 := h1.cell (i := 4) rfl
      have f3 := h1.free 3
      have f4 := h1.free 4
      have p3 := hu.some HC.out.1 (by simp)
      have p4 := hu.some HC.out.2 (by simp)
      have hqS : q ∈ S2 := by obtain ⟨_, _, _, _, _, _, _, _, _, h7, _⟩ := hd.ex; exact h7
      have hqp : q ≠ p := fun e => by have h1 := hs2 q hqS; have h2 := H.out.lt p H.out.p_mem; omega
      have HE := Lib.hid (And.intro hd (And.intro hu (And.intro hs2 hqS)))
      clear hd hu hs2 h1 hqS
      go_wp2_with fail
      go_ret
      have hu2 : Upd [q] wo ((wo.setCell ⟨q, 3, none⟩ (.bool s.off)).setCell ⟨q, 4, none⟩ (.int .i64 s.plan)) := ((Upd.refl _ wo).set (.inl (by simp)) _).set (.inl (by simp)) _
      have h9 := HE.out.1.head (s' := { copyM s 64 64 with off := s.off, plan := s.plan }) rfl rfl hu2 (fun x y hb => (hb.set 3 _).set 4 _)
      rw [copyM_end H.out.ok] at h9
      exact ⟨q, S2, rfl, h9.ok H.out.ok, HE.out.2.1.fresh hu2 (fun j hj => .inr (by simp only [List.mem_singleton] at hj; subst hj; exact HE.out.2.2.1 _ HE.out.2.2.2)), HE.out.2.2.1⟩
end
end Disk
end Go.Proofs.Ytnljjkmmnkldcaa
