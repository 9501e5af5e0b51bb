/- Walks through package disk: Copy. Conditions: none. -/
import Derived.Test.YtnljjkmmnkldcaaDiskG
set_option linter.unusedVariables false
set_option linter.unusedSimpArgs false
set_option linter.unusedSectionVars false
open Go.RowKit
namespace Go.Proofs.Ytnljjkmmnkldcaa
open L
namespace Disk
open Wire
/-- The copy of a disk, so far. -/
def copyK (s : DS) (left : Int → Bool) : DS := { s with B := fun i => if left i then [] else s.B i, F := fun i => if left i then 0 else s.F i }
theorem copyK_ok {s : DS} (h : s.Ok) (left : Int → Bool) : (copyK s left).Ok := by
  refine ⟨fun i hi => ?_, fun i => ?_, fun i x hx => ?_, h.plan, h.room, used_less h (fun i => ?_)⟩
  · simp only [copyK]; split
    · rfl
    · exact h.out i hi
  · simp only [copyK]; split
    · exact Nat.zero_le _
    · exact h.firm i
  · simp only [copyK] at hx; split at hx
    · simp at hx
    · exact h.u8 i x hx
  · simp only [copyK]; split
    · simp
    · exact Nat.le_refl _
theorem copyK_start {s : DS} (h : s.Ok) (G C : Nat → Nat) : copyK s (fun x => (fileF s G C x).isSome) = { s with B := fun _ => [], F := fun _ => 0 } := by
  unfold copyK
  have key : ∀ i : Nat, (fileF s G C (i : Int)).isSome = false → s.B i = [] ∧ s.F i = 0 := by
    intro i hi
    have hb : s.B i = [] := by
      by_cases h64 : i < 64
      · refine Classical.byContradiction fun hb => ?_
        unfold fileF at hi
        rw [if_pos ⟨by omega, by omega, by rw [Int.toNat_natCast]; exact hb⟩] at hi
        cases hi
      · exact h.out i (by omega)
    have := h.firm i
    rw [hb] at this
    exact ⟨hb, by simpa using this⟩
  congr 1
  · funext i
    cases hi : (fileF s G C (i : Int)).isSome with
    | true => exact if_pos hi
    | false => simp [(key i hi).1]
  · funext i
    cases hi : (fileF s G C (i : Int)).isSome with
    | true => exact if_pos hi
    | false => simp [(key i hi).2]
theorem copyK_step {s : DS} {left : Int → Bool} {i : Nat} (hi : left i = true) : copyK s (fun z => left z && !decide (z = (i : Int))) = { copyK s left with B := setB (copyK s left).B i (s.B i), F := setF (copyK s left).F i (s.F i) } := by
  unfold copyK
  congr 1
  · funext j
    simp only [setB]
    by_cases e : j = i
    · subst e; simp
    · have : decide ((j : Int) = (i : Int)) = false := decide_eq_false (by omega)
      simp [e, this]
  · funext j
    simp only [setF]
    by_cases e : j = i
    · subst e; simp
    · have : decide ((j : Int) = (i : Int)) = false := decide_eq_false (by omega)
      simp [e, this]
theorem copyK_end {s : DS} (h : s.Ok) {left : Int → Bool} (hl : ∀ x, IsI64 x → left x = false) : copyK s left = s := by
  have key : ∀ i : Nat, left i = true → s.B i = [] ∧ s.F i = 0 := by
    intro i hi
    have hb : s.B i = [] := by
      refine h.out i ?_
      refine Classical.byContradiction fun h64 => ?_
      rw [hl i ⟨by omega, by omega⟩] at hi
      cases hi
    have := h.firm i
    rw [hb] at this
    exact ⟨hb, by simpa using this⟩
  obtain ⟨room, B, F, off, plan⟩ := s
  unfold copyK
  congr 1
  · funext i
    cases hi : left (i : Int) with
    | true => exact (if_pos rfl).trans (key i hi).1.symm
    | false => simp
  · funext i
    cases hi : left (i : Int) with
    | true => exact (if_pos rfl).trans (key i hi).2.symm
    | false => simp
section
variable {w w' : World} {p : Nat} {s : DS} {S : List Nat}
theorem dk_blank {m : Nat} (h1 : Blk w p [.int .i64 (s.room : Int), .map (some m), .bool s.off, .int .i64 s.plan] 68) (h2 : MF Try.prog 3 w m 64 (fun _ => none)) (hpm : p ≠ m) (hok : s.Ok) (hb : ∀ i, s.B i = []) : Dk w p s [p, m] :=
  ⟨⟨m, fun _ => 0, fun _ => 0, h1, h2.congr (fun x => by unfold fileF; rw [if_neg (fun h => h.2.2 (hb _))]), hpm, by simp, by simp, fun i _ h => absurd (hb i) h, fun i j _ _ h => absurd (hb i) h⟩, hok, fun k hk => by
    simp only [List.mem_cons, List.not_mem_nil, or_false] at hk
    rcases hk with rfl | rfl
    · exact h1.lt
    · exact h2.lt⟩
set_option maxRecDepth 100000 in
set_option maxHeartbeats 4000000 in
theorem Copy_calls (h : Dk w p s S) : Calls Try.prog 30 #[.pointer (some ⟨p, 0, none⟩)] w fun e w' => ∃ q S', e = .returned (.pointer (some ⟨q, 0, none⟩)) ∧ Dk w' q s S' ∧ Upd [] w w' ∧ ∀ k ∈ S', w.heap.size ≤ k := by
  obtain ⟨m, G, C, h1, h2, h3, h4, h5, h6, h7⟩ := h.ex
  have c0 := h1.cell (i := 0) rfl
  have c1 := h1.cell (i := 1) rfl
  have c2 := h1.cell (i := 2) rfl
  have c3 := h1.cell (i := 3) rfl
  have hlt := h1.lt
  have hmm := @run_makeMap Try.prog
  have HRW := Lib.hid h6
  have H := Lib.hid (And.intro h (And.intro h1 h2))
  clear h h1 h2 h3 h4 h5 h6 h7
  go_enter Try.func30, Try.ntmps30
  go_wp2_with fail
  refine wp_region_ord 14 2 [0, 1, 2, 3, 5, 6, 7, 8, 9, 10, 11, 12, 13, 15] [3, 8, 12] [0, 1, 2, 3, 5, 6, 7, 8, 9, 10, 11, 12, 4, 13, 14, 15] (fun w' => ∃ x : Ext w, w' = x.val) (by kernel_rfl) (by kernel_rfl) (Ext.of (by iterate 25 (first | exact Upd.refl _ _ | assumption | refine Upd.alloc ?_ _ | refine Upd.drew ?_ | refine Upd.drewN ?_ _ | refine Upd.dl ?_ | refine Upd.step ?_ (Ext.upd _) | refine Upd.nil ?_ | skip))) ?_
  repeat (first | (refine wpOrd_load rfl rfl rfl rfl (fun K hK => ?_); go_big_quiet_step (fail); refine wpQuiet_nil ?_; refine hK _ ?_; clear hK K) | (refine wpOrd_free rfl rfl rfl (fun K hK => ?_); go_big_quiet_step (fail); refine wpQuiet_nil ?_; refine hK _ ?_; clear hK K))
  refine wpOrd_fix rfl rfl (fun K hK => ?_)
  go_wp2_with fail
  refine ⟨fun _ => Ext.of (by iterate 25 (first | exact Upd.refl _ _ | assumption | refine Upd.alloc ?_ _ | refine Upd.drew ?_ | refine Upd.drewN ?_ _ | refine Upd.dl ?_ | refine Upd.step ?_ (Ext.upd _) | refine Upd.nil ?_ | skip)), ?_⟩
  repeat (first | (refine wpOrd_load rfl rfl rfl rfl (fun K hK => ?_); go_big_quiet_step (fail); refine wpQuiet_nil ?_; refine hK _ ?_; clear hK K) | (refine wpOrd_free rfl rfl rfl (fun K hK => ?_); go_big_quiet_step (fail); refine wpQuiet_nil ?_; refine hK _ ?_; clear hK K))
  refine wpOrd_fix rfl rfl (fun K hK => ?_)
  go_wp2_with fail
  try (refine ⟨fun hC => absurd hC (by decide), ?_⟩)
  repeat (first | (refine wpOrd_load rfl rfl rfl rfl (fun K hK => ?_); go_big_quiet_step (fail); refine wpQuiet_nil ?_; refine hK _ ?_; clear hK K) | (refine wpOrd_free rfl rfl rfl (fun K hK => ?_); go_big_quiet_step (fail); refine wpQuiet_nil ?_; refine hK _ ?_; clear hK K))
  refine wpOrd_nil ?_
  have hq1 : w.heap.size + 1 ≠ w.heap.size := by omega
  obtain ⟨wA, hwA⟩ : ∃ wA : World, wA = ((w.alloc (.map #[] 0)).alloc (.cells #[.int .i64 (s.room : Int), .map (some w.heap.size), .bool s.off, .int .i64 s.plan] 68)).drew := ⟨_, rfl⟩
  have uA : Upd [] w wA := by rw [hwA]; exact (by iterate 25 (first | exact Upd.refl _ _ | assumption | refine Upd.alloc ?_ _ | refine Upd.drew ?_ | refine Upd.drewN ?_ _ | refine Upd.dl ?_ | refine Upd.step ?_ (Ext.upd _) | refine Upd.nil ?_ | skip))
  have bA : Blk wA (w.heap.size + 1) [.int .i64 (s.room : Int), .map (some w.heap.size), .bool s.off, .int .i64 s.plan] 68 := by
    rw [hwA]
    have := (Blk.new (w.alloc (.map #[] 0)) [.int .i64 (s.room : Int), .map (some w.heap.size), .bool s.off, .int .i64 s.plan] 68).drew
    simpa using this
  have mA : MF Try.prog 3 wA w.heap.size 64 (fun _ => none) := by
    rw [hwA]
    exact (MF.new w Try.prog 3 64 (by omega)).upd (S := []) (((Upd.refl [] _).alloc _).drew) (by simp)
  rw [← hwA]
  have hokA := copyK_ok H.out.1.ok (fun x => (fileF s G C x).isSome)
  have dA : Dk wA (w.heap.size + 1) (copyK s (fun x => (fileF s G C x).isSome)) [w.heap.size + 1, w.heap.size] := by
    rw [copyK_start H.out.1.ok] at hokA ⊢
    exact dk_blank bA mA hq1 hokA (fun _ => rfl)
  have HA := Lib.hid (And.intro uA (And.intro dA (H.out.2.2.upd uA (by simp))))
  have hmA := H.out.2.2.lt
  have c1A := (H.out.2.1.upd uA (by simp)).cell (i := 1) rfl
  clear hwA uA bA mA hokA dA hq1 c0 c1 c2 c3 hlt hmm
  generalize hqq : w.heap.size = z0 at *
  go_wp2_with (first | (at_range; refine wpList_mfrange (k := 3) Try.underlying3 Try.underlying66 rfl _ rfl m 64 _ rfl HA.out.2.2 ?_; intro w0 cnt0 hrg0 hu0 hs0) | go_in)
  go_frame
  clear hs0 c1A
  generalize hr : wA.heap.size = r at *
  have H0 := Lib.hid (And.intro hrg0 (And.intro hu0 hr))
  clear hrg0 hu0 hr
  go_loopw [4] (fun _ wr => ∃ (left : Int → Bool) (cnt : Nat) (S2 : List Nat), RG Try.prog 3 wr m r 64 (fileF s G C) left cnt ∧ Dk wr (z0 + 1) (copyK s left) S2 ∧ (∀ k ∈ S2, z0 ≤ k ∧ k ≠ r) ∧ Upd [] w wr) (fun _ wr => wr.rangeLeft m r)
  case atStart =>
    refine ⟨_, _, _, H0.out.1, HA.out.2.1.quiet H0.out.2.1, ?_, HA.out.1.step H0.out.2.1⟩
    intro k hk
    have h1 := HA.out.2.1.lt k hk
    have h2 := H0.out.2.2
    simp only [List.mem_cons, List.not_mem_nil, or_false] at hk
    omega
  case round =>
    obtain ⟨wo, rfl⟩ : ∃ wo : World, wo = wr := ⟨_, rfl⟩
    obtain ⟨left, cnt, S2, hrg, hd, hs2, hu⟩ := hrel
    have HUW := Lib.hid (And.intro hu (And.intro hd hs2))
    clear hu hd hs2
    go_wp2_with (first | (at_next; refine wpList_mfnext (k := 3) Try.underlying3 rfl _ rfl m r 64 _ left cnt rfl hrg ?_ ?_) | go_in)
    · intro hc0 hl0
      go_wp2_with fail
      go_ret
      have h9 := HUW.out.2.1
      rw [copyK_end H.out.1.ok hl0] at h9
      exact ⟨_, S2, rfl, h9, HUW.out.1, fun k hk => by rw [hqq]; exact (HUW.out.2.2 k hk).1⟩
    · intro x v w1 cnt1 hx0 hx hl hf hrg1 hlt hu1 hen
      obtain ⟨i, rfl, hi, hb, rfl⟩ := fileF_some hf
      unfold fileV at *
      have HS := Lib.hid (And.intro hl (And.intro hrg1 (And.intro hlt (And.intro hu1 (And.intro hb hrg)))))
      clear hl hrg1 hlt hu1 hf hb hrg
      go_upto_region 5 with fail
      obtain ⟨w2, hw2⟩ : ∃ w2 : World, w2 = w1.alloc (.cells #[.slice (some ⟨G i, 0, none⟩) (s.B i).length (C i), .int .i64 (s.F i : Int)] 71) := ⟨_, rfl⟩
      have ubx : Upd [] w1 w2 := by rw [hw2]; exact (Upd.refl _ w1).alloc _
      have bbx : Blk w2 w1.heap.size [.slice (some ⟨G i, 0, none⟩) (s.B i).length (C i), .int .i64 (s.F i : Int)] 71 := by rw [hw2]; exact Blk.new w1 _ _
      rw [← hw2]
      have hrr : z0 ≤ r := by have h1 := HA.out.1.size; have h2 := H0.out.2.2; omega
      have hrS : ∀ k ∈ [r], k ∉ S2 := fun k hk hm => by simp only [List.mem_singleton] at hk; exact (HUW.out.2.2 k hm).2 hk
      have hd2 := (HUW.out.2.1.upd HS.out.2.2.2.1 hrS).quiet ubx
      have hu2 : Upd [] w w2 := (HUW.out.1.fresh HS.out.2.2.2.1 (fun k hk => .inr (by simp only [List.mem_singleton] at hk; omega))).step ubx
      have hsl := (SL.of_owns (HRW.out i hi HS.out.2.2.2.2.1).1).upd hu2 (by simp)
      have hrg2 := HS.out.2.1.upd ubx (by simp) (by simp)
      have hlB := H.out.1.ok.len i
      have hBn : (copyK s left).B i = [] := by simp only [copyK]; rw [if_pos HS.out.1]
      obtain ⟨m2, f2, v2, hW, hM, _, _, hnil⟩ := hd2.out hi
      have hv2 := hnil hBn
      subst hv2
      have h1 : Blk w2 (z0 + 1) [.int .i64 (s.room : Int), .map (some m2), .bool s.off, .int .i64 s.plan] 68 := by obtain ⟨_, _, h1, _⟩ := hW.ex; exact h1
      have c1 := h1.cell (i := 1) rfl
      have hlt1 := h1.lt
      have hm2 : m2 ∈ S2 := by obtain ⟨_, _, _, _, _, _, _, h6, _⟩ := hW.ex; exact h6
      have hm2b := HUW.out.2.2 m2 hm2
      have e0 := bbx.cell (i := 0) rfl
      have e1 := bbx.cell (i := 1) rfl
      have hblt := bbx.lt
      have hlb := List.length_pos_iff.2 HS.out.2.2.2.2.1
      have HX := Lib.hid (And.intro hW (And.intro hM (And.intro hrg2 (And.intro hu2 (And.intro hsl (And.intro hm2 hm2b))))))
      clear hW hM hrg2 hu2 hsl h1 hm2 hm2b hd2 hBn hnil bbx ubx hrS hw2
      generalize w1.heap.size = qb at *
      refine wp_region_ord 11 1 [0, 1, 2, 3, 4, 5, 6, 8, 9, 10] [3, 6, 9] [0, 1, 2, 3, 4, 5, 6, 8, 9, 7, 10, 11] (fun w' => ∃ x : Ext w2, w' = x.val) (by kernel_rfl) (by kernel_rfl) (Ext.of (by iterate 25 (first | exact Upd.refl _ _ | assumption | refine Upd.alloc ?_ _ | refine Upd.drew ?_ | refine Upd.drewN ?_ _ | refine Upd.dl ?_ | refine Upd.step ?_ (Ext.upd _) | refine Upd.nil ?_ | skip))) ?_
      repeat (first | (refine wpOrd_load rfl rfl rfl rfl (fun K hK => ?_); go_big_quiet_step (fail); refine wpQuiet_nil ?_; refine hK _ ?_; clear hK K) | (refine wpOrd_free rfl rfl rfl (fun K hK => ?_); go_big_quiet_step (fail); refine wpQuiet_nil ?_; refine hK _ ?_; clear hK K))
      refine wpOrd_fix rfl rfl (fun K hK => ?_)
      go_wp2_with (go_at_call 41; refine (Clone_calls (HX.out.2.2.2.2.1.upd (S := []) (by iterate 25 (first | exact Upd.refl _ _ | assumption | refine Upd.alloc ?_ _ | refine Upd.drew ?_ | refine Upd.drewN ?_ _ | refine Upd.dl ?_ | refine Upd.step ?_ (Ext.upd _) | refine Upd.nil ?_ | skip)) (by simp)) (by omega)).mono ?_; rintro e w3 ⟨a3, k3, rfl, o3, u3⟩; have u3b : Upd [] w2 w3 := ((Upd.refl [] w2).drew).step u3)
      try (refine ⟨fun _ => Ext.of (by iterate 25 (first | exact Upd.refl _ _ | assumption | refine Upd.alloc ?_ _ | refine Upd.drew ?_ | refine Upd.drewN ?_ _ | refine Upd.dl ?_ | refine Upd.step ?_ (Ext.upd _) | refine Upd.nil ?_ | skip)), ?_⟩)
      repeat (first | (refine wpOrd_load rfl rfl rfl rfl (fun K hK => ?_); go_big_quiet_step (fail); refine wpQuiet_nil ?_; refine hK _ ?_; clear hK K) | (refine wpOrd_free rfl rfl rfl (fun K hK => ?_); go_big_quiet_step (fail); refine wpQuiet_nil ?_; refine hK _ ?_; clear hK K))
      refine wpOrd_fix rfl rfl (fun K hK => ?_)
      refine wpList_mfput (k := 3) Try.underlying3 Try.underlying66 rfl _ _ _ rfl m2 64 f2 (i : Int) (.agg #[.slice a3 (s.B i).length k3, .int .i64 (s.F i : Int)]) rfl rfl rfl (HX.out.2.1.upd (S := []) (by iterate 25 (first | exact Upd.refl _ _ | assumption | refine Upd.alloc ?_ _ | refine Upd.drew ?_ | refine Upd.drewN ?_ _ | refine Upd.dl ?_ | refine Upd.step ?_ (Ext.upd _) | refine Upd.nil ?_ | skip)) (by simp)) ⟨by omega, by omega⟩ ?_
      intro w4 hm4 u4
      go_wp2_with fail
      try (refine ⟨fun hC => absurd hC (by decide), ?_⟩)
      refine wpOrd_nil ?_
      have u23 : Upd [] w2 w3 := (by iterate 25 (first | exact Upd.refl _ _ | assumption | refine Upd.alloc ?_ _ | refine Upd.drew ?_ | refine Upd.drewN ?_ _ | refine Upd.dl ?_ | refine Upd.step ?_ (Ext.upd _) | refine Upd.nil ?_ | skip))
      obtain ⟨k1, k2, k3', k4, k5, k6, k7⟩ := HX.out
      obtain ⟨g3, cap3, he, hg3, _⟩ := owns_form o3.row hlb
      cases he
      have hgf : w2.heap.size ≤ g3 := by have := o3.fresh g3 rfl; simpa using this
      have hg3S : g3 ∉ S2 := fun hm => by have := k1.lt g3 hm; omega
      have hW3 := (k1.upd u23 (by simp)).more hg3S hg3
      have hok4 := copyK_ok H.out.1.ok (fun z => left z && !decide (z = (i : Int)))
      rw [copyK_step HS.out.1] at hok4
      have hd4 := hW3.close (b := s.B i) (n := s.F i) u4 (hm4.congr (fun x => by rw [if_neg HS.out.2.2.2.2.1])) o3.row (fun g hg => by cases hg; simp) hok4
      rw [← copyK_step HS.out.1] at hd4
      have hrlt := k3'.lt
      have hml := k3'.mf.lt
      have hrg4 : RG Try.prog 3 w4 m r 64 (fileF s G C) (fun z => left z && !decide (z = (i : Int))) cnt1 := (k3'.upd u23 (by simp) (by simp)).upd u4 (by simp only [List.mem_singleton]; omega) (by simp only [List.mem_singleton]; exact fun e => k7.2 e.symm)
      have U4 : Upd [] w w4 := (k4.step u23).fresh u4 (fun k hk => .inr (by simp only [List.mem_singleton] at hk; omega))
      have HE := Lib.hid (And.intro hd4 (And.intro hrg4 (And.intro U4 (And.intro (show ∀ k ∈ g3 :: S2, z0 ≤ k ∧ k ≠ r from fun k hk => by
        rcases List.mem_cons.1 hk with rfl | hk
        · exact ⟨by omega, by omega⟩
        · exact HUW.out.2.2 k hk) (And.intro HS.out.2.2.1 HS.out.2.2.2.2.2)))))
      clear hd4 hrg4 U4 k1 k2 k3' k4 k5 k6 k7 o3 u3 u3b u4 hm4 hW3 hok4 u23 hgf hg3S hrlt hml
      go_wp2_with fail
      simp only [Act.put, List.setIfInBounds_toArray, List.set_cons_zero, List.set_cons_succ]
      go_roundw
      case rel => exact ⟨_, cnt1, _, HE.out.2.1, HE.out.1, HE.out.2.2.2.1, HE.out.2.2.1⟩
      case measure => rw [HE.out.2.1.left_eq, HE.out.2.2.2.2.2.left_eq]; exact HE.out.2.2.2.2.1
end
end Disk
end Go.Proofs.Ytnljjkmmnkldcaa
