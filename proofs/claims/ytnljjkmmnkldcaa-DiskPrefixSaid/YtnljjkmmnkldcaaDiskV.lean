/- Walks through the reference of package disk: Append, Truncate, Rot. Conditions: none. -/
import Derived.Test.YtnljjkmmnkldcaaDiskU
set_option linter.unusedVariables false
set_option linter.unusedSimpArgs false
set_option linter.unusedSectionVars false
open Go.RowKit
namespace Go.Proofs.Ytnljjkmmnkldcaa
open L
namespace Disk
open Wire
attribute [-go_sem] sliced
section
variable {w w' : World} {p : Nat} {s : DS} {S : List Nat}
/-- What a method that changes a model leaves. -/
def RDkT (p : Nat) (S : List Nat) (w : World) (v : Value) (s' : DS) (e : Ending) (w' : World) : Prop :=
  e = .returned v ∧ ∃ S', RDk w' p s' S' ∧ Upd S w w' ∧ ∀ k ∈ S', k ∈ S ∨ w.heap.size ≤ k
theorem isF_no {f : Int} (h : isF f = false) : f < 0 ∨ (0 ≤ f ∧ 63 < f) := by
  have : ¬ (0 ≤ f ∧ f < 64) := of_decide_eq_false h
  omega
theorem hb_none {v : Value} {n : Nat} (h : v.ownBlock = (Value.slice none 0 0).ownBlock ∨ v.ownBlock = some n) : ∀ b, v.ownBlock = some b → n ≤ b := fun b hb => by
  rcases h with h | h
  · rw [hb] at h; simp [Value.ownBlock] at h
  · rw [hb] at h; simp at h; omega
set_option maxRecDepth 100000 in
set_option maxHeartbeats 4000000 in
theorem RAppend_calls (h : RDk w p s S) {f : Int} (hf : IsI64 f) {v : Value} {b : List Int} (hv : SL w 1 v b.length (byts b)) (hb : ∀ x ∈ b, 0 ≤ x ∧ x ≤ 255) (hl : b.length ≤ 1000000000) (hvS : ∀ g, v.ownBlock = some g → g ∉ S) :
    Calls Try.prog 42 #[.pointer (some ⟨p, 0, none⟩), .int .i64 f, v] w (RDkT p S w (.int .i64 (appendS s f b).1) (appendS s f b).2) := by
  obtain ⟨va, vc, rfl, _⟩ := hv.val
  obtain ⟨x, y, h1⟩ := h.cells
  have c0 := h1.cell (i := 0) rfl
  have c3 := h1.cell (i := 3) rfl
  have hlt := h1.lt
  have hbi : (b.length : Int) ≤ 1000000000 := by omega
  have hroom := h.ok.room
  have hused := h.ok.used
  have HB := Lib.hid (And.intro hv (And.intro hb hvS))
  have H := Lib.hid h
  clear h hv hb hvS h1
  cases hfile : isF f with
  | false =>
    have HR := Lib.hid (show appendS s f b = (1, s) by unfold appendS; rw [if_pos hfile])
    rcases isF_no hfile with h0 | ⟨h0, h63⟩
    · clear hfile
      go_enter Try.func42, Try.ntmps42
      go_wp2_with fail
      go_ret
      rw [HR.out]
      exact ⟨rfl, S, H.out, Upd.refl _ _, fun k hk => .inl hk⟩
    · clear hfile
      go_enter Try.func42, Try.ntmps42
      go_wp2_with fail
      go_ret
      rw [HR.out]
      exact ⟨rfl, S, H.out, Upd.refl _ _, fun k hk => .inl hk⟩
  | true =>
    have h64 := isF_iff.1 hfile
    obtain ⟨i, rfl⟩ := Int.eq_ofNat_of_zero_le h64.1
    have hi : i < 64 := by omega
    have hii : (i : Int) < 64 := by omega
    cases hoff : s.off with
    | true =>
      have HR := Lib.hid (show appendS s (i : Int) b = (23, s) by unfold appendS; rw [if_neg (by rw [hfile]; simp), if_pos hoff])
      rw [hoff] at c3
      clear hfile hoff h64
      go_enter Try.func42, Try.ntmps42
      go_wp2_with fail
      go_ret
      rw [HR.out]
      exact ⟨rfl, S, H.out, Upd.refl _ _, fun k hk => .inl hk⟩
    | false =>
      rw [hoff] at c3
      have hui : ((used s : Nat) : Int) ≤ 16777216 := by omega
      have hri : (s.room : Int) ≤ 16777216 := by omega
      by_cases hfull : s.room < used s + b.length
      · have HR := Lib.hid (show appendS s (i : Int) b = (22, s) by unfold appendS; rw [if_neg (by rw [hfile]; simp), if_neg (by rw [hoff]; simp), if_pos hfull])
        have hfi : (s.room : Int) < (used s : Nat) + b.length := by omega
        clear hfile hoff hfull h64
        go_enter Try.func42, Try.ntmps42
        go_wp2_with fail
        refine wp_region_qx (by kernel_rfl) (by kernel_rfl) ?_
        repeat (go_big_quiet_step (((go_at_call 47; exact qs (RUsed_calls (H.out.quiet (Ext.upd _)))))))
        refine wpQuiet_nil ?_
        intro x
        go_wp2_with fail
        go_ret
        rw [HR.out]
        exact ⟨rfl, S, H.out.quiet (Ext.upd _), (Ext.upd _).nil, fun k hk => .inl hk⟩
      · have hr2 : used s + b.length ≤ s.room := by omega
        have HR := Lib.hid (show appendS s (i : Int) b = (if (stepS { s with B := setB s.B i (s.B i ++ b) }).1 then 23 else 0, (stepS { s with B := setB s.B i (s.B i ++ b) }).2) by unfold appendS; rw [if_neg (by rw [hfile]; simp), if_neg (by rw [hoff]; simp), if_neg hfull, Int.toNat_natCast])
        have HK := Lib.hid (append_ok H.out.ok hi HB.out.2.1 hr2)
        have HO := Lib.hid hoff
        have hfi : ((used s : Nat) : Int) + b.length ≤ s.room := by omega
        have hlB := H.out.ok.len i
        clear hfile hoff hfull h64
        go_enter Try.func42, Try.ntmps42
        go_wp2_with fail
        refine wp_region_qx (by kernel_rfl) (by kernel_rfl) ?_
        repeat (go_big_quiet_step (((go_at_call 47; exact qs (RUsed_calls (H.out.quiet (Ext.upd _)))))))
        refine wpQuiet_nil ?_
        intro x
        obtain ⟨w1, hx1⟩ : ∃ w1 : World, w1 = x.val := ⟨_, rfl⟩
        have hu1 : Upd [] w w1 := by rw [hx1]; exact x.property
        rw [← hx1]
        clear hx1 x
        have H1 := Lib.hid (H.out.quiet hu1)
        have HU1 := Lib.hid hu1
        have HB1 := Lib.hid (HB.out.1.upd hu1 (by simp))
        clear c0 c3 hlt hu1
        obtain ⟨bB, aB, cB, d1, d2, d3, hbS, hrow, hown, hput⟩ := H1.out.to0.file hi
        have hcell := Lib.hid (And.intro d2 d3)
        have HF := Lib.hid (And.intro hbS (And.intro hrow (And.intro hown hput)))
        clear hbS hrow hown hput
        go_upto_region 9 with (refine wpList_appS rfl _ _ _ rfl 5 1 1 _ Try.underlying27 infoByte rfl (by decide) (.slice none 0 0) 0 [] rfl (World.ownsRow_nil _ _ _ _) _ _ _ rfl (SL.of_owns HF.out.2.1) (byts_one _) (by unfold maxLen; omega) (by omega) ?_; intro a2 cap2 w2 o2 u2 k2; simp only [Act.put, List.setIfInBounds_toArray, List.set_cons_zero, List.set_cons_succ])
        simp only [Nat.zero_add, List.nil_append] at o2 u2 k2 ⊢
        have u12 : Upd [] w1 w2 := by simpa [Value.ownBlock] using u2
        have hbl2 := hb_none k2
        have H2 := Lib.hid (And.intro o2 (And.intro u12 (And.intro hbl2 (HB1.out.upd u12 (by simp)))))
        clear o2 u2 k2 hbl2 d2 d3
        refine wp_region_ord 9 1 [0, 1, 2, 3, 4, 5, 6, 8] [3] [0, 1, 2, 3, 4, 5, 6, 7, 8, 9] (fun w' => ∃ x : Ext w1, w' = x.val) (by kernel_rfl) (by kernel_rfl) (Ext.of (by iterate 25 (first | exact Upd.refl _ _ | assumption | refine Upd.alloc ?_ _ | refine Upd.drew ?_ | refine Upd.drewN ?_ _ | refine Upd.dl ?_ | refine Upd.step ?_ (Ext.upd _) | refine Upd.nil ?_ | skip))) ?_
        repeat (first | (refine wpOrd_load rfl rfl rfl rfl (fun K hK => ?_); go_big_quiet_step (fail); refine wpQuiet_nil ?_; refine hK _ ?_; clear hK K) | (refine wpOrd_free rfl rfl rfl (fun K hK => ?_); go_big_quiet_step (fail); refine wpQuiet_nil ?_; refine hK _ ?_; clear hK K))
        refine wpOrd_fix rfl rfl (fun K hK => ?_)
        refine wpList_appS rfl _ _ _ rfl 5 1 1 _ Try.underlying27 infoByte rfl (by decide) (.slice a2 (s.B i).length cap2) _ _ rfl (ownsRow_updL H2.out.1 ((Upd.refl [] w2).drew) (by simp)) _ _ _ rfl (H2.out.2.2.2.upd ((Upd.refl [] w2).drew) (by simp)) (byts_one _) (by unfold maxLen; omega) (by omega) ?_
        intro a3 cap3 w3 o3 u3 k3
        go_wp2_with fail
        have u13 : Upd [] w1 w3 := (H2.out.2.1.drew).fresh u3 (fun b hb => .inr (H2.out.2.2.1 b (by simpa using hb)))
        simp only [Act.put, List.setIfInBounds_toArray, List.set_cons_zero, List.set_cons_succ]
        refine ⟨fun _ => Ext.of u13, ?_⟩
        repeat (first | (refine wpOrd_load rfl rfl rfl rfl (fun K hK => ?_); go_big_quiet_step (fail); refine wpQuiet_nil ?_; refine hK _ ?_; clear hK K) | (refine wpOrd_free rfl rfl rfl (fun K hK => ?_); go_big_quiet_step (fail); refine wpQuiet_nil ?_; refine hK _ ?_; clear hK K))
        have hv3 : ∀ g, (Value.slice a3 ((s.B i).length + b.length) cap3).ownBlock = some g → (g ∉ S ∧ g < w3.heap.size) ∨ (Value.slice aB (s.B i).length cB).ownBlock = some g := fun g hg => by
          refine .inl ⟨fun hm => ?_, (o3.lt g hg).2⟩
          have h1 := H1.out.lt g hm
          rcases k3 with k3 | k3
          · rw [hg] at k3; have := H2.out.2.2.1 g k3.symm; omega
          · rw [hg] at k3; simp at k3; have := H2.out.2.1.size; omega
        rw [← List.length_append, ← byts_append] at o3
        obtain ⟨h4, u14⟩ := HF.out.2.2.2 [] w3 (.slice a3 ((s.B i).length + b.length) cap3) (s.B i ++ b) (by simp) u13 (by rw [List.length_append] at o3 ⊢; exact o3) hv3
        have d3' := (u13.frozen (World.block_lt_of_cell? _ _ hcell.out.1) (by simp)).trans hcell.out.2
        have d4' := u13.some hcell.out.1 (by simp)
        refine wpOrd_fix rfl rfl (fun K hK => ?_)
        go_wp2_with fail
        try (refine ⟨fun hC => absurd hC (by decide), ?_⟩)
        refine wpOrd_nil ?_
        have hS4 : ∀ k ∈ (Value.slice a3 ((s.B i).length + b.length) cap3).ownBlock.toList ++ S, k ∈ S ∨ w.heap.size ≤ k := fun k hk => by
          rcases List.mem_append.1 hk with hk | hk
          · have hk2 : (Value.slice a3 ((s.B i).length + b.length) cap3).ownBlock = some k := by simpa using hk
            rcases k3 with k3 | k3
            · rw [hk2] at k3
              exact .inr (Nat.le_trans HU1.out.size (H2.out.2.2.1 k k3.symm))
            · rw [hk2] at k3
              simp at k3
              have h1 := HU1.out.size
              have h2 := H2.out.2.1.size
              exact .inr (by omega)
          · exact .inl hk
        have HE := Lib.hid (And.intro (h4.ok HK.out) (And.intro ((HU1.out.nil (S := S)).fresh u14 (fun k hk => .inl (by simp at hk; subst hk; exact HF.out.1))) hS4))
        clear h4 u14 hS4 o3 u3 k3 u13 hv3 d3' d4' d1 u12
        generalize w3.setCell ⟨bB, i, none⟩ (.slice a3 ((s.B i).length + b.length) cap3) = w4 at *
        generalize hs1 : ({ s with B := setB s.B i (s.B i ++ b) } : DS) = s1 at *
        have hoff1 : s1.off = false := by rw [← hs1]; exact HO.out
        have HST := Lib.hid (RStep_calls HE.out.1 hoff1)
        have HS1 := Lib.hid hs1
        clear hs1 hoff1
        cases hst : (stepS s1).1 with
        | true =>
          rw [hst] at HST HR
          go_wp2_with (go_at_call 54; refine HST.out.mono ?_; rintro e w6 ⟨rfl, h6, u6⟩)
          go_ret
          rw [HR.out]
          exact ⟨rfl, _, h6, HE.out.2.1.fresh u6 (fun k hk => by simp at hk; subst hk; exact .inl H.out.p_mem), HE.out.2.2⟩
        | false =>
          rw [hst] at HST HR
          go_wp2_with (go_at_call 54; refine HST.out.mono ?_; rintro e w6 ⟨rfl, h6, u6⟩)
          go_ret
          rw [HR.out]
          exact ⟨rfl, _, h6, HE.out.2.1.fresh u6 (fun k hk => by simp at hk; subst hk; exact .inl H.out.p_mem), HE.out.2.2⟩
end
end Disk
end Go.Proofs.Ytnljjkmmnkldcaa
