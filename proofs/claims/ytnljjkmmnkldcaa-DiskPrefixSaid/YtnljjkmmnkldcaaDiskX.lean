/- Walks through the reference of package disk: Rot, Sync. Conditions: none. -/
import Derived.Test.YtnljjkmmnkldcaaDiskW
set_option linter.unusedVariables false
set_option linter.unusedSimpArgs false
set_option linter.unusedSectionVars false
open Go.RowKit
namespace Go.Proofs.Ytnljjkmmnkldcaa
open L
namespace Disk
open Wire
attribute [-go_sem] sliced
theorem flip_shl (k : Nat) : (2 : Int) ^ (7 - k % 8) % 256 = 128 / 2 ^ (k % 8) := by
  have key : ∀ a : Fin 8, (2 : Int) ^ (7 - a.val) % 256 = 128 / 2 ^ a.val := by decide
  exact key ⟨k % 8, by omega⟩
section
variable {w w' : World} {p : Nat} {s : DS} {S : List Nat}
set_option maxRecDepth 100000 in
set_option maxHeartbeats 4000000 in
theorem RRot_good (h : RDk w p s S) {i z : Nat} (hi : i < 64) (hz : z < 8 * (s.B i).length) :
    Calls Try.prog 35 #[.pointer (some ⟨p, 0, none⟩), .int .i64 (i : Int), .int .i64 (z : Int)] w (RDkT p S w (.int .i64 0) { s with B := setB s.B i (flipL (s.B i) z) }) := by
  have hii : (i : Int) < 64 := by omega
  have hok := rotS_ok h.ok (f := (i : Int)) (bit := (z : Int))
  rw [rotS_eq hi hz] at hok
  obtain ⟨bB, aB, cB, d1, d2, d3, hbS, hrow, hown, hput⟩ := h.to0.file hi
  have hlB := h.ok.len i
  have hz8 : z / 8 < (s.B i).length := by omega
  have hz8i : (z : Int) / 8 < ((s.B i).length : Int) := by omega
  have hy := List.getElem?_eq_getElem hz8
  have HSF := Lib.hid (flipL_set hy)
  generalize hyy : (s.B i)[z / 8] = y at *
  have hcell := Lib.hid (And.intro d2 d3)
  have HF := Lib.hid (And.intro hbS (And.intro hrow (And.intro hown (And.intro hput (And.intro hok hy)))))
  have H := Lib.hid h
  clear hbS hrow hown hput hok hy h hyy
  go_enter Try.func35, Try.ntmps35
  go_upto_region 5 with (refine wpList_appS rfl _ _ _ rfl 5 1 1 _ Try.underlying27 infoByte rfl (by decide) (.slice none 0 0) 0 [] rfl (World.ownsRow_nil _ _ _ _) _ _ _ rfl (SL.of_owns HF.out.2.1) (byts_one _) (by unfold maxLen; omega) (by omega) ?_; intro a2 cap2 w2 o2 u2 k2; simp only [Act.put, List.setIfInBounds_toArray, List.set_cons_zero, List.set_cons_succ])
  simp only [Nat.zero_add, List.nil_append] at o2 u2 k2 ⊢
  have u12 : Upd [] w w2 := by simpa [Value.ownBlock] using u2
  have hbl2 := hb_none k2
  obtain ⟨g2, cap2', he, hg2, _⟩ := owns_form o2 (by omega)
  cases he
  have hgS : g2 ∉ S := fun hm => by
    have h1 := H.out.lt g2 hm
    have h2 := hbl2 g2 rfl
    omega
  obtain ⟨cur, hB, hcur, hset⟩ := row_set o2
  have e0 := hB.cell (hcur (z / 8) (.int .u8 y) (byts_get HF.out.2.2.2.2.2))
  have f0 := hB.free (z / 8)
  have hs7 : (7 : Int) - (z : Int) % 8 = ((7 - z % 8 : Nat) : Int) := by omega
  have H2 := Lib.hid (And.intro u12 (And.intro hB (And.intro hset (And.intro hgS (And.intro (hbl2 g2 rfl) hg2)))))
  clear o2 u2 k2 hbl2 u12 hB hset hcur hgS d2 d3
  go_upto_region 6 with fail
  rw [flip_shl]
  obtain ⟨w3, hw3⟩ : ∃ w3 : World, w3 = w2.setCell ⟨g2, z / 8, none⟩ (.int .u8 (flipB y z)) := ⟨_, rfl⟩
  have hw3' : w3 = w2.setCell ⟨g2, z / 8, none⟩ (.int .u8 (bits .xor .u8 y (128 / 2 ^ (z % 8)))) := hw3
  rw [← hw3']
  have b3 := H2.out.2.1.set (z / 8) (.int .u8 (flipB y z))
  rw [← hw3] at b3
  have row3 := H2.out.2.2.1 w3 _ _ hz8 b3
  rw [← HSF.out] at row3
  have u13 : Upd [] w w3 := by rw [hw3]; exact H2.out.1.set (.inr H2.out.2.2.2.2.1) _
  have hg3 : g2 < w3.heap.size := b3.lt
  obtain ⟨q1, q2⟩ := HF.out.2.2.2.1 [] w3 (.slice (some ⟨g2, 0, none⟩) (s.B i).length cap2) (flipL (s.B i) z) (by simp) u13 (by rw [flipL_length]; exact row3) (fun g hg => .inl (by simp [Value.ownBlock] at hg; subst hg; exact ⟨H2.out.2.2.2.1, hg3⟩))
  have c1 := u13.some d1 (by simp)
  have c2 := u13.some hcell.out.1 (by simp)
  have c3 := (u13.frozen (World.block_lt_of_cell? _ _ hcell.out.1) (by simp)).trans hcell.out.2
  have hbl := World.block_lt_of_cell? _ _ c2
  have HQ := Lib.hid (And.intro q1 q2)
  clear q1 q2 b3 row3 u13 hw3 hw3' e0 f0 d1
  go_wp2_with fail
  go_ret
  refine ⟨rfl, _, HQ.out.1.ok HF.out.2.2.2.2.1, HQ.out.2.wide (fun k hk => .inl (by simp only [List.mem_singleton] at hk; subst hk; exact HF.out.1)), fun k hk => ?_⟩
  rcases List.mem_append.1 hk with hk | hk
  · simp [Value.ownBlock] at hk; subst hk; exact .inr H2.out.2.2.2.2.1
  · exact .inl hk
/-- A Sync of the model, so far. -/
def syncM (s : DS) (k : Nat) : DS := { s with F := fun i => if i < k then (s.B i).length else s.F i }
theorem syncM_ok {s : DS} (h : s.Ok) (k : Nat) : (syncM s k).Ok :=
  ⟨h.out, fun i => by
    simp only [syncM]
    split
    · exact Nat.le_refl _
    · exact h.firm i, h.u8, h.plan, h.room, h.used⟩
theorem syncM_zero (s : DS) : syncM s 0 = s := by simp [syncM]
theorem syncM_step (s : DS) (k : Nat) : syncM s (k + 1) = { syncM s k with F := setF (syncM s k).F k (s.B k).length } := by
  unfold syncM
  congr 1
  funext j
  unfold setF
  by_cases e : j = k
  · subst e; simp
  · by_cases h : j < k
    · simp [e, h, show j < k + 1 by omega]
    · simp [e, h, show ¬ j < k + 1 by omega]
theorem syncM_end {s : DS} (h : s.Ok) : syncM s 64 = { s with F := fun i => (s.B i).length } := by
  unfold syncM
  congr 1
  funext i
  split
  · rfl
  · have h1 := h.firm i
    rw [h.out i (by omega)] at h1 ⊢
    simpa using h1
set_option maxRecDepth 100000 in
set_option maxHeartbeats 4000000 in
theorem RSync_calls (h : RDk w p s S) : Calls Try.prog 43 #[.pointer (some ⟨p, 0, none⟩)] w fun e w' => e = .returned (.int .i64 (syncS s).1) ∧ RDk w' p (syncS s).2 S ∧ Upd S w w' := by
  obtain ⟨x, y, h1⟩ := h.cells
  have c3 := h1.cell (i := 3) rfl
  have H := Lib.hid h
  clear h h1
  cases hoff : s.off with
  | true =>
    have HR := Lib.hid (show syncS s = (23, s) by unfold syncS; rw [if_pos hoff])
    rw [hoff] at c3
    clear hoff
    go_enter Try.func43, Try.ntmps43
    go_wp2_with fail
    go_ret
    rw [HR.out]
    exact ⟨rfl, H.out, Upd.refl _ _⟩
  | false =>
    rw [hoff] at c3
    have HFA := Lib.hid (RStep_calls H.out hoff)
    have hpS := Lib.hid H.out.p_mem
    cases hst : (stepS s).1 with
    | true =>
      have HR := Lib.hid (show syncS s = (23, (stepS s).2) by unfold syncS; rw [if_neg (by rw [hoff]; simp), if_pos hst])
      rw [hst] at HFA
      clear hoff hst
      go_enter Try.func43, Try.ntmps43
      go_wp2_with (go_at_call 54; refine HFA.out.mono ?_; rintro e w1 ⟨rfl, h6, u6⟩)
      go_ret
      rw [HR.out]
      exact ⟨rfl, h6, u6.wide (fun k hk => by simp at hk; subst hk; exact .inl hpS.out)⟩
    | false =>
      have HR := Lib.hid (show syncS s = (0, { (stepS s).2 with F := fun i => (s.B i).length }) by unfold syncS; rw [if_neg (by rw [hoff]; simp), if_neg (by rw [hst]; simp)])
      rw [hst] at HFA
      obtain ⟨hB, _, _⟩ := stepS_B s
      rw [← hB] at HR
      generalize (stepS s).2 = s1 at *
      clear hoff hst hB
      go_enter Try.func43, Try.ntmps43
      go_upto_region 6 with (go_at_call 54; refine HFA.out.mono ?_; rintro e w1 ⟨rfl, h6, u6⟩)
      have H1 := Lib.hid (And.intro h6 (u6.wide (T := S) (fun k hk => by simp at hk; subst hk; exact .inl hpS.out)))
      clear h6 u6 c3 HFA
      go_wp2_with fail
      go_loopw [4] (fun i wr => ∃ k : Nat, i = .int .i64 k ∧ k ≤ 64 ∧ RDk0 wr p (syncM s1 k) S ∧ Upd S w wr) (fun i _ => 64 - (intOf i).toNat)
      case atStart => exact ⟨0, rfl, Nat.zero_le _, by rw [syncM_zero]; exact H1.out.1.to0, H1.out.2⟩
      case round =>
        obtain ⟨wo, rfl⟩ : ∃ wo : World, wo = wr := ⟨_, rfl⟩
        obtain ⟨k, rfl, hk, hd, hu⟩ := hrel
        by_cases hlt : k < 64
        · have hlti : (k : Int) < 64 := by omega
          obtain ⟨bB, aB, cB, d1, d2, _⟩ := hd.file hlt
          obtain ⟨bF, e1, e2, e3, hfS, hmk⟩ := hd.mark hlt
          have hbl := World.block_lt_of_cell? _ _ e2
          have hbl2 := World.block_lt_of_cell? _ _ d2
          obtain ⟨m1, m2⟩ := hmk [] wo.drew (s1.B k).length (by simp) ((Upd.refl [] wo).drew)
          have hBk : (syncM s1 k).B k = s1.B k := rfl
          rw [hBk] at d2
          rw [← syncM_step] at m1
          have HM := Lib.hid (And.intro m1 (And.intro m2 (And.intro hfS hu)))
          clear hmk m1 m2 hfS hd hu hBk
          go_wp2_with fail
          refine wp_region_ord 14 1 [0, 1, 2, 3, 4, 5, 6, 7, 8, 9, 10, 11, 12, 13] [3, 8, 11] [0, 1, 2, 3, 4, 5, 6, 7, 8, 9, 10, 11, 12, 13, 14] (fun w' => ∃ x : Ext wo, w' = x.val) (by kernel_rfl) (by kernel_rfl) (Ext.of (by iterate 25 (first | exact Upd.refl _ _ | assumption | refine Upd.alloc ?_ _ | refine Upd.drew ?_ | refine Upd.drewN ?_ _ | refine Upd.dl ?_ | refine Upd.step ?_ (Ext.upd _) | refine Upd.nil ?_ | skip))) ?_
          repeat (first | (refine wpOrd_load rfl rfl rfl rfl (fun K hK => ?_); go_big_quiet_step (fail); refine wpQuiet_nil ?_; refine hK _ ?_; clear hK K) | (refine wpOrd_free rfl rfl rfl (fun K hK => ?_); go_big_quiet_step (fail); refine wpQuiet_nil ?_; refine hK _ ?_; clear hK K))
          refine wpOrd_fix rfl rfl (fun K hK => ?_)
          go_wp2_with fail
          try (refine ⟨fun hC => absurd hC (by decide), ?_⟩)
          refine wpOrd_nil ?_
          go_wp2_with fail
          go_roundw
          case rel => exact ⟨k + 1, by go_num, by omega, HM.out.1, HM.out.2.2.2.fresh HM.out.2.1 (fun j hj => .inl (by simp only [List.mem_singleton] at hj; subst hj; exact HM.out.2.2.1))⟩
          case measure => simp [intOf]; omega
        · have hk64 : k = 64 := by omega
          subst hk64
          have HE := Lib.hid (And.intro hd hu)
          clear hd hu
          go_wp2_with fail
          go_ret
          rw [HR.out]
          have h9 := HE.out.1.ok (syncM_ok H1.out.1.ok 64)
          rw [syncM_end H1.out.1.ok] at h9
          exact ⟨rfl, h9, HE.out.2⟩
end
end Disk
end Go.Proofs.Ytnljjkmmnkldcaa
