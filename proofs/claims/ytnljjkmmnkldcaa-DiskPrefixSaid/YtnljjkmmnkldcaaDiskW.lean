/- Walks through the reference of package disk: Truncate, Rot, Sync. Conditions: none. -/
import Derived.Test.YtnljjkmmnkldcaaDiskV
set_option linter.unusedVariables false
set_option linter.unusedSimpArgs false
set_option linter.unusedSectionVars false
open Go.RowKit
namespace Go.Proofs.Ytnljjkmmnkldcaa
open L
namespace Disk
open Wire
attribute [-go_sem] sliced
section
variable {w w' : World} {p : Nat} {s : DS} {S : List Nat}
theorem RDk0.wide {T : List Nat} (h : RDk0 w p s S) (hT : ∀ k ∈ S, k ∈ T) (hl : ∀ k ∈ T, k < w.heap.size) : RDk0 w p s T := by
  obtain ⟨⟨bB, bF, V, h1, h2, h3, h4, h5, h6, h7, h8, h9, h10, h11⟩, hlt⟩ := h
  exact ⟨⟨bB, bF, V, h1, h2, h3, h4, h5, h6, hT _ h7, hT _ h8, hT _ h9, fun i hi => ⟨(h10 i hi).1, fun g hg => ⟨hT _ ((h10 i hi).2 g hg).1, ((h10 i hi).2 g hg).2⟩⟩, h11⟩, hl⟩
set_option maxRecDepth 100000 in
set_option maxHeartbeats 4000000 in
theorem RTrunc_bad (h : RDk w p s S) {f z : Int} (hf : IsI64 f) (hz : IsI64 z) (hbad : isF f = false ∨ z < 0 ∨ ((s.B f.toNat).length : Int) < z) :
    Calls Try.prog 44 #[.pointer (some ⟨p, 0, none⟩), .int .i64 f, .int .i64 z] w fun e w' => e = .returned (.int .i64 1) ∧ w = w' := by
  cases hfile : isF f with
  | false =>
    rcases isF_no hfile with h0 | ⟨h0, h63⟩
    · clear hfile h hbad
      go_enter Try.func44, Try.ntmps44
      go_wp2_with fail
      go_ret
      exact ⟨rfl, rfl⟩
    · clear hfile h hbad
      go_enter Try.func44, Try.ntmps44
      go_wp2_with fail
      go_ret
      exact ⟨rfl, rfl⟩
  | true =>
    have h64 := isF_iff.1 hfile
    obtain ⟨i, rfl⟩ := Int.eq_ofNat_of_zero_le h64.1
    have hi : i < 64 := by omega
    have hii : (i : Int) < 64 := by omega
    rw [Int.toNat_natCast] at hbad
    by_cases hz0 : z < 0
    · clear hfile h hbad h64
      go_enter Try.func44, Try.ntmps44
      go_wp2_with fail
      go_ret
      exact ⟨rfl, rfl⟩
    · have hz2 : ((s.B i).length : Int) < z := by rcases hbad with h | h | h <;> first | exact h | omega | (rw [hfile] at h; cases h)
      have hz1 : 0 ≤ z := by omega
      obtain ⟨bB, aB, cB, d1, d2, _⟩ := h.to0.file hi
      clear h hfile hbad h64 hz0
      go_enter Try.func44, Try.ntmps44
      go_wp2_with fail
      go_ret
      exact ⟨rfl, rfl⟩
set_option maxRecDepth 100000 in
set_option maxHeartbeats 4000000 in
theorem RRot_bad (h : RDk w p s S) {f z : Int} (hf : IsI64 f) (hz : IsI64 z) (hbad : isF f = false ∨ z < 0 ∨ 8 * ((s.B f.toNat).length : Int) ≤ z) :
    Calls Try.prog 35 #[.pointer (some ⟨p, 0, none⟩), .int .i64 f, .int .i64 z] w fun e w' => e = .returned (.int .i64 1) ∧ w = w' := by
  cases hfile : isF f with
  | false =>
    rcases isF_no hfile with h0 | ⟨h0, h63⟩
    · clear hfile h hbad
      go_enter Try.func35, Try.ntmps35
      go_wp2_with fail
      go_ret
      exact ⟨rfl, rfl⟩
    · clear hfile h hbad
      go_enter Try.func35, Try.ntmps35
      go_wp2_with fail
      go_ret
      exact ⟨rfl, rfl⟩
  | true =>
    have h64 := isF_iff.1 hfile
    obtain ⟨i, rfl⟩ := Int.eq_ofNat_of_zero_le h64.1
    have hi : i < 64 := by omega
    have hii : (i : Int) < 64 := by omega
    rw [Int.toNat_natCast] at hbad
    by_cases hz0 : z < 0
    · clear hfile h hbad h64
      go_enter Try.func35, Try.ntmps35
      go_wp2_with fail
      go_ret
      exact ⟨rfl, rfl⟩
    · have hz2 : 8 * ((s.B i).length : Int) ≤ z := by rcases hbad with h | h | h <;> first | exact h | omega | (rw [hfile] at h; cases h)
      have hz1 : 0 ≤ z := by omega
      obtain ⟨zn, rfl⟩ := Int.eq_ofNat_of_zero_le hz1
      have hz3 : ((s.B i).length : Int) ≤ (zn : Int) / 8 := by omega
      have hzb : (zn : Int) / 8 ≤ 1152921504606846975 := by have := hz.2; omega
      obtain ⟨bB, aB, cB, d1, d2, _⟩ := h.to0.file hi
      clear h hfile hbad h64 hz0 hz2
      go_enter Try.func35, Try.ntmps35
      go_wp2_with fail
      go_ret
      exact ⟨rfl, rfl⟩
set_option maxRecDepth 100000 in
set_option maxHeartbeats 4000000 in
theorem RTrunc_good (h : RDk w p s S) {i z : Nat} (hi : i < 64) (hz : z ≤ (s.B i).length) :
    Calls Try.prog 44 #[.pointer (some ⟨p, 0, none⟩), .int .i64 (i : Int), .int .i64 (z : Int)] w fun e w' => e = .returned (.int .i64 (truncS s (i : Int) (z : Int)).1) ∧ RDk w' p (truncS s (i : Int) (z : Int)).2 S ∧ Upd S w w' := by
  have hfile : isF (i : Int) = true := isF_iff.2 ⟨by omega, by omega⟩
  have hii : (i : Int) < 64 := by omega
  have hnb : ¬ (isF (i : Int) = false ∨ (z : Int) < 0 ∨ ((s.B (i : Int).toNat).length : Int) < (z : Int)) := by rw [hfile, Int.toNat_natCast]; simp; omega
  have hzi : (z : Int) ≤ ((s.B i).length : Int) := by omega
  obtain ⟨bB, aB, cB, d1, d2, _⟩ := h.to0.file hi
  obtain ⟨x, y, h1⟩ := h.cells
  have c3 := h1.cell (i := 3) rfl
  have hlB := h.ok.len i
  have H := Lib.hid h
  clear h1 h hfile
  cases hoff : s.off with
  | true =>
    have HR := Lib.hid (show truncS s (i : Int) (z : Int) = (23, s) by unfold truncS; rw [if_neg hnb, if_pos hoff])
    rw [hoff] at c3
    clear hoff hnb
    go_enter Try.func44, Try.ntmps44
    go_wp2_with fail
    go_ret
    rw [HR.out]
    exact ⟨rfl, H.out, Upd.refl _ _⟩
  | false =>
    rw [hoff] at c3
    have HFA := Lib.hid (RStep_calls H.out hoff)
    have hpS := Lib.hid H.out.p_mem
    cases hst : (stepS s).1 with
    | true =>
      have HR := Lib.hid (show truncS s (i : Int) (z : Int) = (23, (stepS s).2) by unfold truncS; rw [if_neg hnb, if_neg (by rw [hoff]; simp), if_pos hst])
      rw [hst] at HFA
      clear hoff hnb hst
      go_enter Try.func44, Try.ntmps44
      go_wp2_with (go_at_call 54; refine HFA.out.mono ?_; rintro e w1 ⟨rfl, h6, u6⟩)
      go_ret
      rw [HR.out]
      exact ⟨rfl, h6, u6.wide (fun k hk => by simp at hk; subst hk; exact .inl hpS.out)⟩
    | false =>
      have HR := Lib.hid (show truncS s (i : Int) (z : Int) = (0, { (stepS s).2 with B := setB s.B i ((s.B i).take z), F := setF s.F i (min (s.F i) z) }) by
        unfold truncS; rw [if_neg hnb, if_neg (by rw [hoff]; simp), if_neg (by rw [hst]; simp), Int.toNat_natCast, Int.toNat_natCast])
      rw [hst] at HFA
      obtain ⟨hB, hF, hrm⟩ := stepS_B s
      rw [← hB, ← hF] at HR
      rw [← hB] at hz hlB hzi
      generalize hs1 : (stepS s).2 = s1 at *
      have HK := Lib.hid (And.intro hz hs1)
      rw [← hB] at d2
      clear hoff hnb hst hs1 hB hF hrm
      go_enter Try.func44, Try.ntmps44
      go_upto_region 8 with (go_at_call 54; refine HFA.out.mono ?_; rintro e w1 ⟨rfl, h6, u6⟩)
      have HUA := Lib.hid (And.intro h6 u6)
      clear c3 h6 u6 d1 d2
      obtain ⟨bC, aC, cC, d1, d2, d3, hbS, hrow, hown, hput⟩ := HUA.out.1.to0.file hi
      have hcap : (s1.B i).length ≤ cC := by
        obtain ⟨_, _, _, he, h2, _⟩ := SL.of_owns hrow
        cases he; exact h2
      have hsl := sliced_pre ((owns_addr hrow).elim (fun h => .inl h.1) (fun ⟨g, hg⟩ => .inr ⟨g, 0, hg⟩)) z cC
      have hzc : (z : Int) ≤ cC := by omega
      have hbl := World.block_lt_of_cell? _ _ d2
      have htl : ((s1.B i).take z).length = z := by rw [List.length_take]; omega
      have hrow2 := own_pre hrow hz
      rw [Nat.mul_one, byts_take] at hrow2
      obtain ⟨q1, q2⟩ := hput [] w1.drew (.slice aC z cC) ((s1.B i).take z) (by simp) ((Upd.refl [] w1).drew) (by rw [htl]; exact ownsRow_updL hrow2 ((Upd.refl [] w1).drew) (by simp)) (fun g hg => .inr (by rw [ob_eq aC _ z cC cC]; exact hg))
      have HQ := Lib.hid (And.intro q1 (And.intro q2 (And.intro hbS hown)))
      clear hput hrow hrow2 q1 q2 hbS hown
      refine wp_region_ord 15 1 [0, 1, 2, 3, 4, 5, 6, 7, 8, 9, 10, 11, 12, 13, 14] [3, 8, 11] [0, 1, 2, 3, 4, 5, 6, 7, 8, 9, 10, 11, 12, 13, 14, 15] (fun w' => ∃ x : Ext w1, w' = x.val) (by kernel_rfl) (by kernel_rfl) (Ext.of (by iterate 25 (first | exact Upd.refl _ _ | assumption | refine Upd.alloc ?_ _ | refine Upd.drew ?_ | refine Upd.drewN ?_ _ | refine Upd.dl ?_ | refine Upd.step ?_ (Ext.upd _) | refine Upd.nil ?_ | skip))) ?_
      repeat (first | (refine wpOrd_load rfl rfl rfl rfl (fun K hK => ?_); go_big_quiet_step (fail); refine wpQuiet_nil ?_; refine hK _ ?_; clear hK K) | (refine wpOrd_free rfl rfl rfl (fun K hK => ?_); go_big_quiet_step (fail); refine wpQuiet_nil ?_; refine hK _ ?_; clear hK K))
      refine wpOrd_fix rfl rfl (fun K hK => ?_)
      go_wp2_with fail
      try (refine ⟨fun hC => absurd hC (by decide), ?_⟩)
      refine wpOrd_nil ?_
      obtain ⟨w2, hw2⟩ : ∃ w2 : World, w2 = (w1.setCell ⟨bC, i, none⟩ (.slice aC z cC)).drew := ⟨_, rfl⟩
      rw [← hw2]
      have r1 : RDk0 w2 p { s1 with B := setB s1.B i ((s1.B i).take z) } S := by
        have h1 := HQ.out.1
        rw [hw2]
        refine RDk0.wide (S := (Value.slice aC z cC).ownBlock.toList ++ S) h1 (fun k hk => ?_) (fun k hk => ?_)
        · rcases List.mem_append.1 hk with hk | hk
          · exact (HQ.out.2.2.2 k (by rw [ob_eq aC _ z cC cC]; simpa using hk)).1
          · exact hk
        · exact h1.lt k (List.mem_append_right _ hk)
      have r2 : Upd S w w2 := by
        rw [hw2]
        have h2 := HQ.out.2.1
        exact (HUA.out.2.wide (T := S) (fun k hk => by simp at hk; subst hk; exact .inl hpS.out)).fresh (T := [bC]) h2 (fun k hk => .inl (by simp only [List.mem_singleton] at hk; subst hk; exact HQ.out.2.2.1))
      have HR1 := Lib.hid (And.intro r1 r2)
      clear hw2 r1 r2 d1 d2 d3 hsl
      obtain ⟨bF, e1, e2, e3, hfS, hmk⟩ := HR1.out.1.mark hi
      have hbl := World.block_lt_of_cell? _ _ e2
      have hmn : min (s1.F i : Int) (z : Int) = ((min (s1.F i) z : Nat) : Int) := by omega
      obtain ⟨m1, m2⟩ := hmk [] w2.drew (min (s1.F i) z) (by simp) ((Upd.refl [] w2).drew)
      have HM := Lib.hid (And.intro m1 (And.intro m2 (And.intro hfS hmn)))
      clear hmk m1 m2 hfS hmn
      go_wp2_with fail
      refine wp_region_ord 15 1 [0, 1, 2, 3, 4, 5, 6, 7, 8, 9, 10, 11, 12, 13, 14] [3, 8, 11] [0, 1, 2, 3, 4, 5, 6, 7, 8, 9, 10, 11, 12, 13, 14, 15] (fun w' => ∃ x : Ext w2, w' = x.val) (by kernel_rfl) (by kernel_rfl) (Ext.of (by iterate 25 (first | exact Upd.refl _ _ | assumption | refine Upd.alloc ?_ _ | refine Upd.drew ?_ | refine Upd.drewN ?_ _ | refine Upd.dl ?_ | refine Upd.step ?_ (Ext.upd _) | refine Upd.nil ?_ | skip))) ?_
      repeat (first | (refine wpOrd_load rfl rfl rfl rfl (fun K hK => ?_); go_big_quiet_step (fail); refine wpQuiet_nil ?_; refine hK _ ?_; clear hK K) | (refine wpOrd_free rfl rfl rfl (fun K hK => ?_); go_big_quiet_step (fail); refine wpQuiet_nil ?_; refine hK _ ?_; clear hK K))
      refine wpOrd_fix rfl rfl (fun K hK => ?_)
      go_wp2_with fail
      try (refine ⟨fun hC => absurd hC (by decide), ?_⟩)
      refine wpOrd_nil ?_
      go_wp2_with fail
      go_ret
      rw [HR.out, HM.out.2.2.2]
      exact ⟨rfl, HM.out.1.ok (trunc_F HUA.out.1.ok HK.out.1), HR1.out.2.fresh HM.out.2.1 (fun k hk => .inl (by simp only [List.mem_singleton] at hk; subst hk; exact HM.out.2.2.1))⟩
end
end Disk
end Go.Proofs.Ytnljjkmmnkldcaa
