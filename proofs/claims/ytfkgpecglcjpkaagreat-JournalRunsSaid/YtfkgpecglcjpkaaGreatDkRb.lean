/- Walks through the reference of package disk: Append, Truncate, Rot. Conditions: none. Walks through the reference of package disk: Truncate, Rot, Sync. Conditions: none. Walks through the reference of package disk: Rot, Sync. Conditions: none. Walks through the reference of package disk: Copy. Conditions: none. Walks through the reference of package disk: Crash. Conditions: none. -/
import Derived.Test.YtfkgpecglcjpkaaGreatDkRa
set_option linter.unusedVariables false
set_option linter.unusedSimpArgs false
set_option linter.unusedSectionVars false
section
open Go.RowKit
namespace Go.Proofs.YtfkgpecglcjpkaaGreat
open L
namespace Disk
open Wire
attribute [-go_sem] sliced
section
variable {w w' : World} {p : Nat} {s : DS} {S : List Nat}
/-- What a method that changes a model leaves. -/
def RDkT (p : Nat) (S : List Nat) (w : World) (v : Value) (s' : DS) (e : Ending) (w' : World) : Prop :=
  e = .returned v ∧ ∃ S', RDk w' p s' S' ∧ Upd S w w' ∧ ∀ k ∈ S', k ∈ S ∨ w.heap.size ≤ k
theorem isF_no {f : Int} (h : isF f = false) : f < 0 ∨ (0 ≤ f ∧ 63 < f) := by
  have : ¬ (0 ≤ f ∧ f < 64) := of_decide_eq_false h
  omega
theorem hb_none {v : Value} {n : Nat} (h : v.ownBlock = (Value.slice none 0 0).ownBlock ∨ v.ownBlock = some n) : ∀ b, v.ownBlock = some b → n ≤ b := fun b hb => by
  rcases h with h | h
  · rw [hb] at h; simp [Value.ownBlock] at h
  · rw [hb] at h; simp at h; omega
set_option maxRecDepth 100000 in
set_option maxHeartbeats 4000000 in
theorem RAppend_calls (h : RDk w p s S) {f : Int} (hf : IsI64 f) {v : Value} {b : List Int} (hv : SL w 1 v b.length (byts b)) (hb : ∀ x ∈ b, 0 ≤ x ∧ x ≤ 255) (hl : b.length ≤ 1000000000) (hvS : ∀ g, v.ownBlock = some g → g ∉ S) :
    Calls Tryz.prog 36 #[.pointer (some ⟨p, 0, none⟩), .int .i64 f, v] w (RDkT p S w (.int .i64 (appendS s f b).1) (appendS s f b).2) := by
  obtain ⟨va, vc, rfl, _⟩ := hv.val
  obtain ⟨x, y, h1⟩ := h.cells
  have c0 := h1.cell (i := 0) rfl
  have c3 := h1.cell (i := 3) rfl
  have hlt := h1.lt
  have hbi : (b.length : Int) ≤ 1000000000 := by omega
  have hroom := h.ok.room
  have hused := h.ok.used
  have HB := Lib.hid (And.intro hv (And.intro hb hvS))
  have H := Lib.hid h
  clear h hv hb hvS h1
  cases hfile : isF f with
  | false =>
    have HR := Lib.hid (show appendS s f b = (1, s) by unfold appendS; rw [if_pos hfile])
    rcases isF_no hfile with h0 | ⟨h0, h63⟩
    · clear hfile
      go_enter Tryz.func36, Tryz.ntmps36
      go_wp2_with fail
      go_ret
      rw [HR.out]
      exact ⟨rfl, S, H.out, Upd.refl _ _, fun k hk => .inl hk⟩
    · clear hfile
      go_enter Tryz.func36, Tryz.ntmps36
      go_wp2_with fail
      go_ret
      rw [HR.out]
      exact ⟨rfl, S, H.out, Upd.refl _ _, fun k hk => .inl hk⟩
  | true =>
    have h64 := isF_iff.1 hfile
    obtain ⟨i, rfl⟩ := Int.eq_ofNat_of_zero_le h64.1
    have hi : i < 64 := by omega
    have hii : (i : Int) < 64 := by omega
    cases hoff : s.off with
    | true =>
      have HR := Lib.hid (show appendS s (i : Int) b = (23, s) by unfold appendS; rw [if_neg (by rw [hfile]; simp), if_pos hoff])
      rw [hoff] at c3
      clear hfile hoff h64
      go_enter Tryz.func36, Tryz.ntmps36
      go_wp2_with fail
      go_ret
      rw [HR.out]
      exact ⟨rfl, S, H.out, Upd.refl _ _, fun k hk => .inl hk⟩
    | false =>
      rw [hoff] at c3
      have hui : ((used s : Nat) : Int) ≤ 16777216 := by omega
      have hri : (s.room : Int) ≤ 16777216 := by omega
      by_cases hfull : s.room < used s + b.length
      · have HR := Lib.hid (show appendS s (i : Int) b = (22, s) by unfold appendS; rw [if_neg (by rw [hfile]; simp), if_neg (by rw [hoff]; simp), if_pos hfull])
        have hfi : (s.room : Int) < (used s : Nat) + b.length := by omega
        clear hfile hoff hfull h64
        go_enter Tryz.func36, Tryz.ntmps36
        go_wp2_with fail
        refine wp_region_qx (by kernel_rfl) (by kernel_rfl) ?_
        repeat (go_big_quiet_step (((go_at_call 52; exact qs (RUsed_calls (H.out.quiet (Ext.upd _)))))))
        refine wpQuiet_nil ?_
        intro x
        go_wp2_with fail
        go_ret
        rw [HR.out]
        exact ⟨rfl, S, H.out.quiet (Ext.upd _), (Ext.upd _).nil, fun k hk => .inl hk⟩
      · have hr2 : used s + b.length ≤ s.room := by omega
        have HR := Lib.hid (show appendS s (i : Int) b = (if (stepS { s with B := setB s.B i (s.B i ++ b) }).1 then 23 else 0, (stepS { s with B := setB s.B i (s.B i ++ b) }).2) by unfold appendS; rw [if_neg (by rw [hfile]; simp), if_neg (by rw [hoff]; simp), if_neg hfull, Int.toNat_natCast])
        have HK := Lib.hid (append_ok H.out.ok hi HB.out.2.1 hr2)
        have HO := Lib.hid hoff
        have hfi : ((used s : Nat) : Int) + b.length ≤ s.room := by omega
        have hlB := H.out.ok.len i
        clear hfile hoff hfull h64
        go_enter Tryz.func36, Tryz.ntmps36
        go_wp2_with fail
        refine wp_region_qx (by kernel_rfl) (by kernel_rfl) ?_
        repeat (go_big_quiet_step (((go_at_call 52; exact qs (RUsed_calls (H.out.quiet (Ext.upd _)))))))
        refine wpQuiet_nil ?_
        intro x
        obtain ⟨w1, hx1⟩ : ∃ w1 : World, w1 = x.val := ⟨_, rfl⟩
        have hu1 : Upd [] w w1 := by rw [hx1]; exact x.property
        rw [← hx1]
        clear hx1 x
        have H1 := Lib.hid (H.out.quiet hu1)
        have HU1 := Lib.hid hu1
        have HB1 := Lib.hid (HB.out.1.upd hu1 (by simp))
        clear c0 c3 hlt hu1
        obtain ⟨bB, aB, cB, d1, d2, d3, hbS, hrow, hown, hput⟩ := H1.out.to0.file hi
        have hcell := Lib.hid (And.intro d2 d3)
        have HF := Lib.hid (And.intro hbS (And.intro hrow (And.intro hown hput)))
        clear hbS hrow hown hput
        go_upto_region 9 with (refine wpList_appS rfl _ _ _ rfl 5 1 1 _ Tryz.underlying39 infoByte rfl (by decide) (.slice none 0 0) 0 [] rfl (World.ownsRow_nil _ _ _ _) _ _ _ rfl (SL.of_owns HF.out.2.1) (byts_one _) (by unfold maxLen; omega) (by omega) ?_; intro a2 cap2 w2 o2 u2 k2; simp only [Act.put, List.setIfInBounds_toArray, List.set_cons_zero, List.set_cons_succ])
        simp only [Nat.zero_add, List.nil_append] at o2 u2 k2 ⊢
        have u12 : Upd [] w1 w2 := by simpa [Value.ownBlock] using u2
        have hbl2 := hb_none k2
        have H2 := Lib.hid (And.intro o2 (And.intro u12 (And.intro hbl2 (HB1.out.upd u12 (by simp)))))
        clear o2 u2 k2 hbl2 d2 d3
        refine wp_region_ord 9 1 [0, 1, 2, 3, 4, 5, 6, 8] [3] [0, 1, 2, 3, 4, 5, 6, 7, 8, 9] (fun w' => ∃ x : Ext w1, w' = x.val) (by kernel_rfl) (by kernel_rfl) (Ext.of (by iterate 25 (first | exact Upd.refl _ _ | assumption | refine Upd.alloc ?_ _ | refine Upd.drew ?_ | refine Upd.drewN ?_ _ | refine Upd.dl ?_ | refine Upd.step ?_ (Ext.upd _) | refine Upd.nil ?_ | skip))) ?_
        repeat (first | (refine wpOrd_load rfl rfl rfl rfl (fun K hK => ?_); go_big_quiet_step (fail); refine wpQuiet_nil ?_; refine hK _ ?_; clear hK K) | (refine wpOrd_free rfl rfl rfl (fun K hK => ?_); go_big_quiet_step (fail); refine wpQuiet_nil ?_; refine hK _ ?_; clear hK K))
        refine wpOrd_fix rfl rfl (fun K hK => ?_)
        refine wpList_appS rfl _ _ _ rfl 5 1 1 _ Tryz.underlying39 infoByte rfl (by decide) (.slice a2 (s.B i).length cap2) _ _ rfl (ownsRow_updL H2.out.1 ((Upd.refl [] w2).drew) (by simp)) _ _ _ rfl (H2.out.2.2.2.upd ((Upd.refl [] w2).drew) (by simp)) (byts_one _) (by unfold maxLen; omega) (by omega) ?_
        intro a3 cap3 w3 o3 u3 k3
        go_wp2_with fail
        have u13 : Upd [] w1 w3 := (H2.out.2.1.drew).fresh u3 (fun b hb => .inr (H2.out.2.2.1 b (by simpa using hb)))
        simp only [Act.put, List.setIfInBounds_toArray, List.set_cons_zero, List.set_cons_succ]
        refine ⟨fun _ => Ext.of u13, ?_⟩
        repeat (first | (refine wpOrd_load rfl rfl rfl rfl (fun K hK => ?_); go_big_quiet_step (fail); refine wpQuiet_nil ?_; refine hK _ ?_; clear hK K) | (refine wpOrd_free rfl rfl rfl (fun K hK => ?_); go_big_quiet_step (fail); refine wpQuiet_nil ?_; refine hK _ ?_; clear hK K))
        have hv3 : ∀ g, (Value.slice a3 ((s.B i).length + b.length) cap3).ownBlock = some g → (g ∉ S ∧ g < w3.heap.size) ∨ (Value.slice aB (s.B i).length cB).ownBlock = some g := fun g hg => by
          refine .inl ⟨fun hm => ?_, (o3.lt g hg).2⟩
          have h1 := H1.out.lt g hm
          rcases k3 with k3 | k3
          · rw [hg] at k3; have := H2.out.2.2.1 g k3.symm; omega
          · rw [hg] at k3; simp at k3; have := H2.out.2.1.size; omega
        rw [← List.length_append, ← byts_append] at o3
        obtain ⟨h4, u14⟩ := HF.out.2.2.2 [] w3 (.slice a3 ((s.B i).length + b.length) cap3) (s.B i ++ b) (by simp) u13 (by rw [List.length_append] at o3 ⊢; exact o3) hv3
        have d3' := (u13.frozen (World.block_lt_of_cell? _ _ hcell.out.1) (by simp)).trans hcell.out.2
        have d4' := u13.some hcell.out.1 (by simp)
        refine wpOrd_fix rfl rfl (fun K hK => ?_)
        go_wp2_with fail
        try (refine ⟨fun hC => absurd hC (by decide), ?_⟩)
        refine wpOrd_nil ?_
        have hS4 : ∀ k ∈ (Value.slice a3 ((s.B i).length + b.length) cap3).ownBlock.toList ++ S, k ∈ S ∨ w.heap.size ≤ k := fun k hk => by
          rcases List.mem_append.1 hk with hk | hk
          · have hk2 : (Value.slice a3 ((s.B i).length + b.length) cap3).ownBlock = some k := by simpa using hk
            rcases k3 with k3 | k3
            · rw [hk2] at k3
              exact .inr (Nat.le_trans HU1.out.size (H2.out.2.2.1 k k3.symm))
            · rw [hk2] at k3
              simp at k3
              have h1 := HU1.out.size
              have h2 := H2.out.2.1.size
              exact .inr (by omega)
          · exact .inl hk
        have HE := Lib.hid (And.intro (h4.ok HK.out) (And.intro ((HU1.out.nil (S := S)).fresh u14 (fun k hk => .inl (by simp at hk; subst hk; exact HF.out.1))) hS4))
        clear h4 u14 hS4 o3 u3 k3 u13 hv3 d3' d4' d1 u12
        generalize w3.setCell ⟨bB, i, none⟩ (.slice a3 ((s.B i).length + b.length) cap3) = w4 at *
        generalize hs1 : ({ s with B := setB s.B i (s.B i ++ b) } : DS) = s1 at *
        have hoff1 : s1.off = false := by rw [← hs1]; exact HO.out
        have HST := Lib.hid (RStep_calls HE.out.1 hoff1)
        have HS1 := Lib.hid hs1
        clear hs1 hoff1
        cases hst : (stepS s1).1 with
        | true =>
          rw [hst] at HST HR
          go_wp2_with (go_at_call 47; refine HST.out.mono ?_; rintro e w6 ⟨rfl, h6, u6⟩)
          go_ret
          rw [HR.out]
          exact ⟨rfl, _, h6, HE.out.2.1.fresh u6 (fun k hk => by simp at hk; subst hk; exact .inl H.out.p_mem), HE.out.2.2⟩
        | false =>
          rw [hst] at HST HR
          go_wp2_with (go_at_call 47; refine HST.out.mono ?_; rintro e w6 ⟨rfl, h6, u6⟩)
          go_ret
          rw [HR.out]
          exact ⟨rfl, _, h6, HE.out.2.1.fresh u6 (fun k hk => by simp at hk; subst hk; exact .inl H.out.p_mem), HE.out.2.2⟩
end
end Disk
end Go.Proofs.YtfkgpecglcjpkaaGreat
end
section
open Go.RowKit
namespace Go.Proofs.YtfkgpecglcjpkaaGreat
open L
namespace Disk
open Wire
attribute [-go_sem] sliced
section
variable {w w' : World} {p : Nat} {s : DS} {S : List Nat}
/-- Bytes stay. -/
def KB (w w' : World) : Prop := ∀ (b i : Nat) (x : Int), w.cell? ⟨b, i, none⟩ = some (.int .u8 x) → w'.cell? ⟨b, i, none⟩ = some (.int .u8 x)
theorem KB.refl (w : World) : KB w w := fun _ _ _ h => h
theorem KB.trans {a b c : World} (h : KB a b) (k : KB b c) : KB a c := fun i j x e => k i j x (h i j x e)
theorem KB.nil (hu : Upd [] w w') : KB w w' := fun _ _ _ h => hu.some h (by simp)
theorem KB.set {w1 : World} {b i : Nat} {v : Value} (h : KB w w1) (hc : w1.cell? ⟨b, i, none⟩ = some v) (hv : ∀ x, v ≠ .int .u8 x) (u : Value) : KB w (w1.setCell ⟨b, i, none⟩ u) := fun b' i' x e => by
  have h1 := h b' i' x e
  by_cases hb : b' = b
  · subst hb
    by_cases hi : i' = i
    · subst hi
      rw [hc] at h1
      exact absurd (Option.some.inj h1) (hv x)
    · rw [World.cell?_setCell_other w1 _ _ u (by intro h; cases h; exact hi rfl)]
      exact h1
  · exact ((Upd.refl [b] w1).set (.inl (by simp)) u).some h1 (by simpa using hb)
theorem KB.blk {c : List Value} {e : TypeId} {b : Nat} (hb : Blk w b c e) (hc : ∀ v ∈ c, ∀ x, v ≠ .int .u8 x) (hu : Upd [b] w w') : KB w w' := fun b' i x h => by
  by_cases e : b' = b
  · subst e
    rw [cell_of_row w b' i _ _ _ hb] at h
    exact absurd rfl (hc (.int .u8 x) (List.mem_of_getElem? (by simpa using h)) x)
  · exact hu.some h (by simpa using e)
theorem RDk.kb (h : RDk w p s S) (hu : Upd [p] w w') : KB w w' := by
  obtain ⟨_, _, _, h1, _⟩ := h.ex
  refine KB.blk h1 (fun v hv x => ?_) hu
  simp at hv
  rcases hv with rfl | rfl | rfl | rfl | rfl <;> simp
theorem RDk0.wide {T : List Nat} (h : RDk0 w p s S) (hT : ∀ k ∈ S, k ∈ T) (hl : ∀ k ∈ T, k < w.heap.size) : RDk0 w p s T := by
  obtain ⟨⟨bB, bF, V, h1, h2, h3, h4, h5, h6, h7, h8, h9, h10, h11⟩, hlt⟩ := h
  exact ⟨⟨bB, bF, V, h1, h2, h3, h4, h5, h6, hT _ h7, hT _ h8, hT _ h9, fun i hi => ⟨(h10 i hi).1, fun g hg => ⟨hT _ ((h10 i hi).2 g hg).1, ((h10 i hi).2 g hg).2⟩⟩, h11⟩, hl⟩
set_option maxRecDepth 100000 in
set_option maxHeartbeats 4000000 in
theorem RTrunc_bad (h : RDk w p s S) {f z : Int} (hf : IsI64 f) (hz : IsI64 z) (hbad : isF f = false ∨ z < 0 ∨ ((s.B f.toNat).length : Int) < z) :
    Calls Tryz.prog 27 #[.pointer (some ⟨p, 0, none⟩), .int .i64 f, .int .i64 z] w fun e w' => e = .returned (.int .i64 1) ∧ w = w' := by
  cases hfile : isF f with
  | false =>
    rcases isF_no hfile with h0 | ⟨h0, h63⟩
    · clear hfile h hbad
      go_enter Tryz.func27, Tryz.ntmps27
      go_wp2_with fail
      go_ret
      exact ⟨rfl, rfl⟩
    · clear hfile h hbad
      go_enter Tryz.func27, Tryz.ntmps27
      go_wp2_with fail
      go_ret
      exact ⟨rfl, rfl⟩
  | true =>
    have h64 := isF_iff.1 hfile
    obtain ⟨i, rfl⟩ := Int.eq_ofNat_of_zero_le h64.1
    have hi : i < 64 := by omega
    have hii : (i : Int) < 64 := by omega
    rw [Int.toNat_natCast] at hbad
    by_cases hz0 : z < 0
    · clear hfile h hbad h64
      go_enter Tryz.func27, Tryz.ntmps27
      go_wp2_with fail
      go_ret
      exact ⟨rfl, rfl⟩
    · have hz2 : ((s.B i).length : Int) < z := by rcases hbad with h | h | h <;> first | exact h | omega | (rw [hfile] at h; cases h)
      have hz1 : 0 ≤ z := by omega
      obtain ⟨bB, aB, cB, d1, d2, _⟩ := h.to0.file hi
      clear h hfile hbad h64 hz0
      go_enter Tryz.func27, Tryz.ntmps27
      go_wp2_with fail
      go_ret
      exact ⟨rfl, rfl⟩
set_option maxRecDepth 100000 in
set_option maxHeartbeats 4000000 in
theorem RTrunc_goodK (h : RDk w p s S) {i z : Nat} (hi : i < 64) (hz : z ≤ (s.B i).length) :
    Calls Tryz.prog 27 #[.pointer (some ⟨p, 0, none⟩), .int .i64 (i : Int), .int .i64 (z : Int)] w fun e w' => e = .returned (.int .i64 (truncS s (i : Int) (z : Int)).1) ∧ RDk w' p (truncS s (i : Int) (z : Int)).2 S ∧ Upd S w w' ∧ KB w w' := by
  have hfile : isF (i : Int) = true := isF_iff.2 ⟨by omega, by omega⟩
  have hii : (i : Int) < 64 := by omega
  have hnb : ¬ (isF (i : Int) = false ∨ (z : Int) < 0 ∨ ((s.B (i : Int).toNat).length : Int) < (z : Int)) := by rw [hfile, Int.toNat_natCast]; simp; omega
  have hzi : (z : Int) ≤ ((s.B i).length : Int) := by omega
  obtain ⟨bB, aB, cB, d1, d2, _⟩ := h.to0.file hi
  obtain ⟨x, y, h1⟩ := h.cells
  have c3 := h1.cell (i := 3) rfl
  have hlB := h.ok.len i
  have H := Lib.hid h
  clear h1 h hfile
  cases hoff : s.off with
  | true =>
    have HR := Lib.hid (show truncS s (i : Int) (z : Int) = (23, s) by unfold truncS; rw [if_neg hnb, if_pos hoff])
    rw [hoff] at c3
    clear hoff hnb
    go_enter Tryz.func27, Tryz.ntmps27
    go_wp2_with fail
    go_ret
    rw [HR.out]
    exact ⟨rfl, H.out, Upd.refl _ _, KB.refl _⟩
  | false =>
    rw [hoff] at c3
    have HFA := Lib.hid (RStep_calls H.out hoff)
    have hpS := Lib.hid H.out.p_mem
    cases hst : (stepS s).1 with
    | true =>
      have HR := Lib.hid (show truncS s (i : Int) (z : Int) = (23, (stepS s).2) by unfold truncS; rw [if_neg hnb, if_neg (by rw [hoff]; simp), if_pos hst])
      rw [hst] at HFA
      clear hoff hnb hst
      go_enter Tryz.func27, Tryz.ntmps27
      go_wp2_with (go_at_call 47; refine HFA.out.mono ?_; rintro e w1 ⟨rfl, h6, u6⟩)
      go_ret
      rw [HR.out]
      exact ⟨rfl, h6, u6.wide (fun k hk => by simp at hk; subst hk; exact .inl hpS.out), H.out.kb u6⟩
    | false =>
      have HR := Lib.hid (show truncS s (i : Int) (z : Int) = (0, { (stepS s).2 with B := setB s.B i ((s.B i).take z), F := setF s.F i (min (s.F i) z) }) by
        unfold truncS; rw [if_neg hnb, if_neg (by rw [hoff]; simp), if_neg (by rw [hst]; simp), Int.toNat_natCast, Int.toNat_natCast])
      rw [hst] at HFA
      obtain ⟨hB, hF, hrm⟩ := stepS_B s
      rw [← hB, ← hF] at HR
      rw [← hB] at hz hlB hzi
      generalize hs1 : (stepS s).2 = s1 at *
      have HK := Lib.hid (And.intro hz hs1)
      rw [← hB] at d2
      clear hoff hnb hst hs1 hB hF hrm
      go_enter Tryz.func27, Tryz.ntmps27
      go_upto_region 8 with (go_at_call 47; refine HFA.out.mono ?_; rintro e w1 ⟨rfl, h6, u6⟩)
      have HUA := Lib.hid (And.intro h6 u6)
      have HKA := Lib.hid (H.out.kb u6)
      clear c3 h6 u6 d1 d2
      obtain ⟨bC, aC, cC, d1, d2, d3, hbS, hrow, hown, hput⟩ := HUA.out.1.to0.file hi
      have hcap : (s1.B i).length ≤ cC := by
        obtain ⟨_, _, _, he, h2, _⟩ := SL.of_owns hrow
        cases he; exact h2
      have hsl := sliced_pre ((owns_addr hrow).elim (fun h => .inl h.1) (fun ⟨g, hg⟩ => .inr ⟨g, 0, hg⟩)) z cC
      have hzc : (z : Int) ≤ cC := by omega
      have hbl := World.block_lt_of_cell? _ _ d2
      have htl : ((s1.B i).take z).length = z := by rw [List.length_take]; omega
      have hrow2 := own_pre hrow hz
      rw [Nat.mul_one, byts_take] at hrow2
      obtain ⟨q1, q2⟩ := hput [] w1.drew (.slice aC z cC) ((s1.B i).take z) (by simp) ((Upd.refl [] w1).drew) (by rw [htl]; exact ownsRow_updL hrow2 ((Upd.refl [] w1).drew) (by simp)) (fun g hg => .inr (by rw [ob_eq aC _ z cC cC]; exact hg))
      have HQ := Lib.hid (And.intro q1 (And.intro q2 (And.intro hbS hown)))
      clear hput hrow hrow2 q1 q2 hbS hown
      refine wp_region_ord 15 1 [0, 1, 2, 3, 4, 5, 6, 7, 8, 9, 10, 11, 12, 13, 14] [3, 8, 11] [0, 1, 2, 3, 4, 5, 6, 7, 8, 9, 10, 11, 12, 13, 14, 15] (fun w' => ∃ x : Ext w1, w' = x.val) (by kernel_rfl) (by kernel_rfl) (Ext.of (by iterate 25 (first | exact Upd.refl _ _ | assumption | refine Upd.alloc ?_ _ | refine Upd.drew ?_ | refine Upd.drewN ?_ _ | refine Upd.dl ?_ | refine Upd.step ?_ (Ext.upd _) | refine Upd.nil ?_ | skip))) ?_
      repeat (first | (refine wpOrd_load rfl rfl rfl rfl (fun K hK => ?_); go_big_quiet_step (fail); refine wpQuiet_nil ?_; refine hK _ ?_; clear hK K) | (refine wpOrd_free rfl rfl rfl (fun K hK => ?_); go_big_quiet_step (fail); refine wpQuiet_nil ?_; refine hK _ ?_; clear hK K))
      refine wpOrd_fix rfl rfl (fun K hK => ?_)
      go_wp2_with fail
      try (refine ⟨fun hC => absurd hC (by decide), ?_⟩)
      refine wpOrd_nil ?_
      obtain ⟨w2, hw2⟩ : ∃ w2 : World, w2 = (w1.setCell ⟨bC, i, none⟩ (.slice aC z cC)).drew := ⟨_, rfl⟩
      rw [← hw2]
      have r1 : RDk0 w2 p { s1 with B := setB s1.B i ((s1.B i).take z) } S := by
        have h1 := HQ.out.1
        rw [hw2]
        refine RDk0.wide (S := (Value.slice aC z cC).ownBlock.toList ++ S) h1 (fun k hk => ?_) (fun k hk => ?_)
        · rcases List.mem_append.1 hk with hk | hk
          · exact (HQ.out.2.2.2 k (by rw [ob_eq aC _ z cC cC]; simpa using hk)).1
          · exact hk
        · exact h1.lt k (List.mem_append_right _ hk)
      have r2 : Upd S w w2 := by
        rw [hw2]
        have h2 := HQ.out.2.1
        exact (HUA.out.2.wide (T := S) (fun k hk => by simp at hk; subst hk; exact .inl hpS.out)).fresh (T := [bC]) h2 (fun k hk => .inl (by simp only [List.mem_singleton] at hk; subst hk; exact HQ.out.2.2.1))
      have HK2 := Lib.hid (show KB w w2 from by rw [hw2]; exact (HKA.out.set d2 (fun x => by simp) _).trans (KB.nil ((Upd.refl [] _).drew)))
      have HR1 := Lib.hid (And.intro r1 r2)
      clear hw2 r1 r2 d1 d2 d3 hsl
      obtain ⟨bF, e1, e2, e3, hfS, hmk⟩ := HR1.out.1.mark hi
      have hbl := World.block_lt_of_cell? _ _ e2
      have hmn : min (s1.F i : Int) (z : Int) = ((min (s1.F i) z : Nat) : Int) := by omega
      obtain ⟨m1, m2⟩ := hmk [] w2.drew (min (s1.F i) z) (by simp) ((Upd.refl [] w2).drew)
      have HM := Lib.hid (And.intro m1 (And.intro m2 (And.intro hfS hmn)))
      have HK3 := Lib.hid (fun u => (HK2.out.trans (KB.nil (show Upd [] w2 w2.drew from (Upd.refl [] w2).drew))).set (v := .int .i64 (s1.F i : Int)) e2 (fun x => by simp) u)
      clear hmk m1 m2 hfS hmn
      go_wp2_with fail
      refine wp_region_ord 15 1 [0, 1, 2, 3, 4, 5, 6, 7, 8, 9, 10, 11, 12, 13, 14] [3, 8, 11] [0, 1, 2, 3, 4, 5, 6, 7, 8, 9, 10, 11, 12, 13, 14, 15] (fun w' => ∃ x : Ext w2, w' = x.val) (by kernel_rfl) (by kernel_rfl) (Ext.of (by iterate 25 (first | exact Upd.refl _ _ | assumption | refine Upd.alloc ?_ _ | refine Upd.drew ?_ | refine Upd.drewN ?_ _ | refine Upd.dl ?_ | refine Upd.step ?_ (Ext.upd _) | refine Upd.nil ?_ | skip))) ?_
      repeat (first | (refine wpOrd_load rfl rfl rfl rfl (fun K hK => ?_); go_big_quiet_step (fail); refine wpQuiet_nil ?_; refine hK _ ?_; clear hK K) | (refine wpOrd_free rfl rfl rfl (fun K hK => ?_); go_big_quiet_step (fail); refine wpQuiet_nil ?_; refine hK _ ?_; clear hK K))
      refine wpOrd_fix rfl rfl (fun K hK => ?_)
      go_wp2_with fail
      try (refine ⟨fun hC => absurd hC (by decide), ?_⟩)
      refine wpOrd_nil ?_
      go_wp2_with fail
      go_ret
      rw [HR.out, HM.out.2.2.2]
      exact ⟨rfl, HM.out.1.ok (trunc_F HUA.out.1.ok HK.out.1), HR1.out.2.fresh HM.out.2.1 (fun k hk => .inl (by simp only [List.mem_singleton] at hk; subst hk; exact HM.out.2.2.1)), HK3.out _⟩
theorem RTrunc_good (h : RDk w p s S) {i z : Nat} (hi : i < 64) (hz : z ≤ (s.B i).length) :
    Calls Tryz.prog 27 #[.pointer (some ⟨p, 0, none⟩), .int .i64 (i : Int), .int .i64 (z : Int)] w fun e w' => e = .returned (.int .i64 (truncS s (i : Int) (z : Int)).1) ∧ RDk w' p (truncS s (i : Int) (z : Int)).2 S ∧ Upd S w w' :=
  (RTrunc_goodK h hi hz).mono fun _ _ h => ⟨h.1, h.2.1, h.2.2.1⟩
end
end Disk
end Go.Proofs.YtfkgpecglcjpkaaGreat
end
section
open Go.RowKit
namespace Go.Proofs.YtfkgpecglcjpkaaGreat
open L
namespace Disk
open Wire
attribute [-go_sem] sliced
theorem flip_shl (k : Nat) : (2 : Int) ^ (7 - k % 8) % 256 = 128 / 2 ^ (k % 8) := by
  have key : ∀ a : Fin 8, (2 : Int) ^ (7 - a.val) % 256 = 128 / 2 ^ a.val := by decide
  exact key ⟨k % 8, by omega⟩
section
variable {w w' : World} {p : Nat} {s : DS} {S : List Nat}
/-- A Sync of the model, so far. -/
def syncM (s : DS) (k : Nat) : DS := { s with F := fun i => if i < k then (s.B i).length else s.F i }
theorem syncM_ok {s : DS} (h : s.Ok) (k : Nat) : (syncM s k).Ok :=
  ⟨h.out, fun i => by
    simp only [syncM]
    split
    · exact Nat.le_refl _
    · exact h.firm i, h.u8, h.plan, h.room, h.used⟩
theorem syncM_zero (s : DS) : syncM s 0 = s := by simp [syncM]
theorem syncM_step (s : DS) (k : Nat) : syncM s (k + 1) = { syncM s k with F := setF (syncM s k).F k (s.B k).length } := by
  unfold syncM
  congr 1
  funext j
  unfold setF
  by_cases e : j = k
  · subst e; simp
  · by_cases h : j < k
    · simp [e, h, show j < k + 1 by omega]
    · simp [e, h, show ¬ j < k + 1 by omega]
theorem syncM_end {s : DS} (h : s.Ok) : syncM s 64 = { s with F := fun i => (s.B i).length } := by
  unfold syncM
  congr 1
  funext i
  split
  · rfl
  · have h1 := h.firm i
    rw [h.out i (by omega)] at h1 ⊢
    simpa using h1
set_option maxRecDepth 100000 in
set_option maxHeartbeats 4000000 in
theorem RSync_callsK (h : RDk w p s S) : Calls Tryz.prog 28 #[.pointer (some ⟨p, 0, none⟩)] w fun e w' => e = .returned (.int .i64 (syncS s).1) ∧ RDk w' p (syncS s).2 S ∧ Upd S w w' ∧ KB w w' := by
  obtain ⟨x, y, h1⟩ := h.cells
  have c3 := h1.cell (i := 3) rfl
  have H := Lib.hid h
  clear h h1
  cases hoff : s.off with
  | true =>
    have HR := Lib.hid (show syncS s = (23, s) by unfold syncS; rw [if_pos hoff])
    rw [hoff] at c3
    clear hoff
    go_enter Tryz.func28, Tryz.ntmps28
    go_wp2_with fail
    go_ret
    rw [HR.out]
    exact ⟨rfl, H.out, Upd.refl _ _, KB.refl _⟩
  | false =>
    rw [hoff] at c3
    have HFA := Lib.hid (RStep_calls H.out hoff)
    have hpS := Lib.hid H.out.p_mem
    cases hst : (stepS s).1 with
    | true =>
      have HR := Lib.hid (show syncS s = (23, (stepS s).2) by unfold syncS; rw [if_neg (by rw [hoff]; simp), if_pos hst])
      rw [hst] at HFA
      clear hoff hst
      go_enter Tryz.func28, Tryz.ntmps28
      go_wp2_with (go_at_call 47; refine HFA.out.mono ?_; rintro e w1 ⟨rfl, h6, u6⟩)
      go_ret
      rw [HR.out]
      exact ⟨rfl, h6, u6.wide (fun k hk => by simp at hk; subst hk; exact .inl hpS.out), H.out.kb u6⟩
    | false =>
      have HR := Lib.hid (show syncS s = (0, { (stepS s).2 with F := fun i => (s.B i).length }) by unfold syncS; rw [if_neg (by rw [hoff]; simp), if_neg (by rw [hst]; simp)])
      rw [hst] at HFA
      obtain ⟨hB, _, _⟩ := stepS_B s
      rw [← hB] at HR
      generalize (stepS s).2 = s1 at *
      clear hoff hst hB
      go_enter Tryz.func28, Tryz.ntmps28
      go_upto_region 6 with (go_at_call 47; refine HFA.out.mono ?_; rintro e w1 ⟨rfl, h6, u6⟩)
      have HKA := Lib.hid (H.out.kb u6)
      have H1 := Lib.hid (And.intro h6 (u6.wide (T := S) (fun k hk => by simp at hk; subst hk; exact .inl hpS.out)))
      clear h6 u6 c3 HFA
      go_wp2_with fail
      go_loopw [4] (fun i wr => ∃ k : Nat, i = .int .i64 k ∧ k ≤ 64 ∧ RDk0 wr p (syncM s1 k) S ∧ Upd S w wr ∧ KB w wr) (fun i _ => 64 - (intOf i).toNat)
      case atStart => exact ⟨0, rfl, Nat.zero_le _, by rw [syncM_zero]; exact H1.out.1.to0, H1.out.2, HKA.out⟩
      case round =>
        obtain ⟨wo, rfl⟩ : ∃ wo : World, wo = wr := ⟨_, rfl⟩
        obtain ⟨k, rfl, hk, hd, hu, hkb⟩ := hrel
        by_cases hlt : k < 64
        · have hlti : (k : Int) < 64 := by omega
          obtain ⟨bB, aB, cB, d1, d2, _⟩ := hd.file hlt
          obtain ⟨bF, e1, e2, e3, hfS, hmk⟩ := hd.mark hlt
          have hbl := World.block_lt_of_cell? _ _ e2
          have hbl2 := World.block_lt_of_cell? _ _ d2
          obtain ⟨m1, m2⟩ := hmk [] wo.drew (s1.B k).length (by simp) ((Upd.refl [] wo).drew)
          have hBk : (syncM s1 k).B k = s1.B k := rfl
          rw [hBk] at d2
          rw [← syncM_step] at m1
          have HM := Lib.hid (And.intro m1 (And.intro m2 (And.intro hfS hu)))
          have HK3 := Lib.hid (fun u => (hkb.trans (KB.nil (show Upd [] wo wo.drew from (Upd.refl [] wo).drew))).set (v := .int .i64 ((syncM s1 k).F k : Int)) e2 (fun x => by simp) u)
          clear hmk m1 m2 hfS hd hu hBk hkb
          go_wp2_with fail
          refine wp_region_ord 14 1 [0, 1, 2, 3, 4, 5, 6, 7, 8, 9, 10, 11, 12, 13] [3, 8, 11] [0, 1, 2, 3, 4, 5, 6, 7, 8, 9, 10, 11, 12, 13, 14] (fun w' => ∃ x : Ext wo, w' = x.val) (by kernel_rfl) (by kernel_rfl) (Ext.of (by iterate 25 (first | exact Upd.refl _ _ | assumption | refine Upd.alloc ?_ _ | refine Upd.drew ?_ | refine Upd.drewN ?_ _ | refine Upd.dl ?_ | refine Upd.step ?_ (Ext.upd _) | refine Upd.nil ?_ | skip))) ?_
          repeat (first | (refine wpOrd_load rfl rfl rfl rfl (fun K hK => ?_); go_big_quiet_step (fail); refine wpQuiet_nil ?_; refine hK _ ?_; clear hK K) | (refine wpOrd_free rfl rfl rfl (fun K hK => ?_); go_big_quiet_step (fail); refine wpQuiet_nil ?_; refine hK _ ?_; clear hK K))
          refine wpOrd_fix rfl rfl (fun K hK => ?_)
          go_wp2_with fail
          try (refine ⟨fun hC => absurd hC (by decide), ?_⟩)
          refine wpOrd_nil ?_
          go_wp2_with fail
          go_roundw
          case rel => exact ⟨k + 1, by go_num, by omega, HM.out.1, HM.out.2.2.2.fresh HM.out.2.1 (fun j hj => .inl (by simp only [List.mem_singleton] at hj; subst hj; exact HM.out.2.2.1)), HK3.out _⟩
          case measure => simp [intOf]; omega
        · have hk64 : k = 64 := by omega
          subst hk64
          have HE := Lib.hid (And.intro hd (And.intro hu hkb))
          clear hd hu hkb
          go_wp2_with fail
          go_ret
          rw [HR.out]
          have h9 := HE.out.1.ok (syncM_ok H1.out.1.ok 64)
          rw [syncM_end H1.out.1.ok] at h9
          exact ⟨rfl, h9, HE.out.2⟩
theorem RSync_calls (h : RDk w p s S) : Calls Tryz.prog 28 #[.pointer (some ⟨p, 0, none⟩)] w fun e w' => e = .returned (.int .i64 (syncS s).1) ∧ RDk w' p (syncS s).2 S ∧ Upd S w w' :=
  (RSync_callsK h).mono fun _ _ h => ⟨h.1, h.2.1, h.2.2.1⟩
end
end Disk
end Go.Proofs.YtfkgpecglcjpkaaGreat
end
section
open Go.RowKit
namespace Go.Proofs.YtfkgpecglcjpkaaGreat
open L
namespace Disk
open Wire
attribute [-go_sem] sliced
section
variable {w w' : World} {p : Nat} {s : DS} {S : List Nat}
theorem RTrunc_calls (h : RDk w p s S) {f z : Int} (hf : IsI64 f) (hz : IsI64 z) :
    Calls Tryz.prog 27 #[.pointer (some ⟨p, 0, none⟩), .int .i64 f, .int .i64 z] w fun e w' => e = .returned (.int .i64 (truncS s f z).1) ∧ RDk w' p (truncS s f z).2 S ∧ Upd S w w' := by
  by_cases hb : isF f = false ∨ z < 0 ∨ ((s.B f.toNat).length : Int) < z
  · have hr : truncS s f z = (1, s) := by unfold truncS; rw [if_pos hb]
    rw [hr]
    exact (RTrunc_bad h hf hz hb).mono fun e w' ⟨h1, h2⟩ => ⟨h1, h2 ▸ h, h2 ▸ Upd.refl _ _⟩
  · simp only [not_or, Bool.not_eq_false, Int.not_lt] at hb
    have h64 := isF_iff.1 hb.1
    obtain ⟨i, rfl⟩ := Int.eq_ofNat_of_zero_le h64.1
    obtain ⟨k, rfl⟩ := Int.eq_ofNat_of_zero_le hb.2.1
    rw [Int.toNat_natCast] at hb
    exact RTrunc_good h (by omega) (by omega)
/-- The copy of a model, so far: its bytes up to b, its marks up to f. -/
def copyM (s : DS) (b f : Nat) : DS := ⟨s.room, fun i => if i < b then s.B i else [], fun i => if i < f then s.F i else 0, false, -1⟩
theorem copyM_zero (s : DS) : copyM s 0 0 = newS s.room := by simp [copyM, newS]
theorem copyM_B (s : DS) (k : Nat) : copyM s (k + 1) k = { copyM s k k with B := setB (copyM s k k).B k (s.B k) } := by
  unfold copyM
  congr 1
  funext j
  unfold setB
  by_cases e : j = k
  · subst e; simp
  · by_cases h : j < k
    · simp [e, h, show j < k + 1 by omega]
    · simp [e, h, show ¬ j < k + 1 by omega]
theorem copyM_F (s : DS) (k : Nat) : copyM s (k + 1) (k + 1) = { copyM s (k + 1) k with F := setF (copyM s (k + 1) k).F k (s.F k) } := by
  unfold copyM
  congr 1
  funext j
  unfold setF
  by_cases e : j = k
  · subst e; simp
  · by_cases h : j < k
    · simp [e, h, show j < k + 1 by omega]
    · simp [e, h, show ¬ j < k + 1 by omega]
theorem DS.eq_of {a b : DS} (h1 : a.room = b.room) (h2 : a.B = b.B) (h3 : a.F = b.F) (h4 : a.off = b.off) (h5 : a.plan = b.plan) : a = b := by
  obtain ⟨_, _, _, _, _⟩ := a
  obtain ⟨_, _, _, _, _⟩ := b
  simp only at h1 h2 h3 h4 h5
  subst h1 h2 h3 h4 h5
  rfl
theorem copyM_end {s : DS} (h : s.Ok) : ({ copyM s 64 64 with off := s.off, plan := s.plan } : DS) = s := by
  refine DS.eq_of rfl (funext fun i => ?_) (funext fun i => ?_) rfl rfl
  · simp only [copyM]
    split
    · rfl
    · exact (h.out i (by omega)).symm
  · simp only [copyM]
    split
    · rfl
    · have h1 := h.firm i
      rw [h.out i (by omega)] at h1
      have h3 : s.F i = 0 := by simpa using h1
      exact h3.symm
theorem RDk0.head {s' : DS} (h : RDk0 w p s S) (hB : s'.B = s.B) (hF : s'.F = s.F) (hu : Upd [p] w w')
    (hb : ∀ x y, Blk w p [.int .i64 (s.room : Int), x, y, .bool s.off, .int .i64 s.plan] 50 → Blk w' p [.int .i64 (s'.room : Int), x, y, .bool s'.off, .int .i64 s'.plan] 50) : RDk0 w' p s' S := by
  obtain ⟨⟨bB, bF, V, h1, h2, h3, h4, h5, h6, h7, h8, h9, h10, h11⟩, hlt⟩ := h
  refine ⟨⟨bB, bF, V, hb _ _ h1, h2.upd hu (by simp; exact fun e => h4 e.symm), by rw [hF]; exact h3.upd hu (by simp; exact fun e => h5 e.symm), h4, h5, h6, h7, h8, h9, fun i hi => ?_, h11⟩, fun k hk => Nat.lt_of_lt_of_le (hlt k hk) hu.size⟩
  rw [hB]
  obtain ⟨a1, a2⟩ := h10 i hi
  exact ⟨ownsRow_updL a1 hu (fun b hb e => by simp at hb; exact (a2 b e).2.1 hb), a2⟩
theorem RDk0.cells (h : RDk0 w p s S) : ∃ x y, Blk w p [.int .i64 (s.room : Int), x, y, .bool s.off, .int .i64 s.plan] 50 := by obtain ⟨_, _, _, h1, _⟩ := h.ex; exact ⟨_, _, h1⟩
/-- A world in which four cells hold what they held. -/
def Four (p0 p1 p2 p3 : Addr) (v0 v1 v2 v3 : Value) : Type := { w : World // w.cell? p0 = some v0 ∧ w.cell? p1 = some v1 ∧ w.cell? p2 = some v2 ∧ w.cell? p3 = some v3 }
section
variable {p0 p1 p2 p3 : Addr} {v0 v1 v2 v3 : Value}
theorem Four.c0 (x : Four p0 p1 p2 p3 v0 v1 v2 v3) : x.val.cell? p0 = some v0 := x.property.1
theorem Four.c1 (x : Four p0 p1 p2 p3 v0 v1 v2 v3) : x.val.cell? p1 = some v1 := x.property.2.1
theorem Four.c2 (x : Four p0 p1 p2 p3 v0 v1 v2 v3) : x.val.cell? p2 = some v2 := x.property.2.2.1
theorem Four.c3 (x : Four p0 p1 p2 p3 v0 v1 v2 v3) : x.val.cell? p3 = some v3 := x.property.2.2.2
attribute [go_sem] Four.c0 Four.c1 Four.c2 Four.c3
theorem Four.of {w : World} (h0 : w.cell? p0 = some v0) (h1 : w.cell? p1 = some v1) (h2 : w.cell? p2 = some v2) (h3 : w.cell? p3 = some v3) : ∃ x : Four p0 p1 p2 p3 v0 v1 v2 v3, w = x.val := ⟨⟨w, h0, h1, h2, h3⟩, rfl⟩
end
end
end Disk
end Go.Proofs.YtfkgpecglcjpkaaGreat
end
section
open Go.RowKit
namespace Go.Proofs.YtfkgpecglcjpkaaGreat
open L
namespace Disk
open Wire
attribute [-go_sem] sliced
/-- The bytes of the files, where n of the surviving loose bytes were looked at. -/
def cutB (s : DS) (keep : List Int) (a : Int) (n : Nat) : Nat → List Int :=
  if 0 ≤ a ∧ a < 8 * (n : Int) then crashB s keep (some a.toNat) else crashB s keep none
theorem cutB_zero (s : DS) (keep : List Int) (a : Int) : cutB s keep a 0 = crashB s keep none := by unfold cutB; rw [if_neg (by omega)]
theorem cutB_skip {s : DS} {keep : List Int} {a : Int} {n : Nat} (h : a < 8 * (n : Int) ∨ 8 * (n : Int) + 8 ≤ a) : cutB s keep a (n + 1) = cutB s keep a n := by
  unfold cutB
  by_cases h1 : 0 ≤ a ∧ a < 8 * (n : Int)
  · rw [if_pos h1, if_pos (by omega)]
  · rw [if_neg h1, if_neg (by omega)]
theorem cutB_length {s : DS} (h : s.Ok) (keep : List Int) (a : Int) (n i : Nat) : (cutB s keep a n i).length = s.F i + keptN s keep i := by
  unfold cutB
  split
  · exact crashB_length s keep _ i h
  · exact crashB_length s keep _ i h
theorem cutB_hit {s : DS} (h : s.Ok) {keep : List Int} {q n i : Nat} {y : Int} (h1 : 8 * n ≤ q) (h2 : q < 8 * n + 8) (hi : i < 64) (ho : tot (keptN s keep) i ≤ n) (hn : n < tot (keptN s keep) i + keptN s keep i)
    (hy : (crashB s keep none i)[s.F i + (n - tot (keptN s keep) i)]? = some y) :
    cutB s keep (q : Int) (n + 1) = setB (cutB s keep (q : Int) n) i ((cutB s keep (q : Int) n i).set (s.F i + (n - tot (keptN s keep) i)) (flipB y (q - 8 * n))) := by
  have e1 : cutB s keep (q : Int) n = crashB s keep none := by unfold cutB; rw [if_neg (by omega)]
  have e2 : cutB s keep (q : Int) (n + 1) = crashB s keep (some q) := by unfold cutB; rw [if_pos ⟨by omega, by omega⟩, Int.toNat_natCast]
  have e3 := congrArg DS.B (crash_flip h (keep := keep) (i := i) (q := q) (by omega) (by omega) hi)
  simp only at e3
  rw [e1, e2, e3]
  congr 1
  unfold flipL
  have e4 : (8 * s.F i + (q - 8 * tot (keptN s keep) i)) / 8 = s.F i + (n - tot (keptN s keep) i) := by omega
  rw [e4]
  apply List.ext_getElem?
  intro j
  rw [List.getElem?_modify, List.getElem?_set]
  have hlt := (List.getElem?_eq_some_iff.1 hy).1
  by_cases e : s.F i + (n - tot (keptN s keep) i) = j
  · subst e
    rw [hy]
    have e5 : flipB y (8 * s.F i + (q - 8 * tot (keptN s keep) i)) = flipB y (q - 8 * n) := by
      unfold flipB
      rw [show (8 * s.F i + (q - 8 * tot (keptN s keep) i)) % 8 = (q - 8 * n) % 8 by omega]
    simp [hlt, e5]
  · simp [e]
def atOf (s : DS) (keep : List Int) (fp : Int) : Int := match crashAt s keep fp with
  | none => -1
  | some q => q
theorem cutB_end (s : DS) (keep : List Int) (fp : Int) : cutB s keep (atOf s keep fp) (tot (keptN s keep) 64) = crashB s keep (crashAt s keep fp) := by
  unfold cutB atOf crashAt
  by_cases h : 0 ≤ fp ∧ 0 < tot (keptN s keep) 64
  · rw [if_pos h]
    have hm := Nat.mod_lt fp.toNat (show 0 < 8 * tot (keptN s keep) 64 by omega)
    simp only [Int.toNat_natCast]
    rw [if_pos ⟨by omega, by omega⟩]
  · rw [if_neg h]
    simp only
    rw [if_neg (by omega)]
section
variable {w w' : World} {p : Nat} {s : DS} {S : List Nat}
set_option maxRecDepth 100000 in
set_option maxHeartbeats 8000000 in
theorem RCrash_calls (h : RDk w p s S) {vk : Value} {keep : List Int} {fp : Int} (hk : SL w 1 vk keep.length (ints keep)) (hkS : ∀ g, vk.ownBlock = some g → g ∉ S) (hkI : ∀ x ∈ keep, IsI64 x) (hfp : IsI64 fp) :
    Calls Tryz.prog 12 #[.pointer (some ⟨p, 0, none⟩), vk, .int .i64 fp] w (RDkT p S w (.tuple #[]) (crashS s keep fp)) := by
  obtain ⟨_, ak, ck, rfl, hk2⟩ := hk
  have HK := Lib.hid (And.intro (show SL w 1 (.slice ak keep.length ck) keep.length (ints keep) from ⟨ints_length _ |>.trans (by omega), ak, ck, rfl, hk2⟩) (And.intro hkS hkI))
  have HFL := Lib.hid (RFiles_calls h)
  have hfl := filesS_length s
  have H := Lib.hid h
  clear h hk2 hkS hkI
  go_enter Tryz.func12, Tryz.ntmps12
  go_upto_region 1 with (go_at_call 32; refine HFL.out.mono ?_; rintro e w2 ⟨v, rfl, o2, u2⟩; obtain ⟨_, va, vc, rfl, _⟩ := SL.of_owns o2.row)
  have H2 := Lib.hid (And.intro o2 u2)
  clear o2 u2 HFL
  generalize hfn : (filesS s).length = fn at *
  have HFN := Lib.hid hfn
  clear hfn
  have hs0 : ({ s with B := (crashK s keep 0).B } : DS) = s := by rw [crashK_zero]
  go_wp2_with fail
  go_loopw [7, 8] (fun mn i wr => ∃ k : Nat, i = .int .i64 k ∧ k ≤ fn ∧ mn = .int .i64 (sumL (keptN s keep) ((filesS s).take k) : Nat) ∧ OwnV w 3 1 (.slice va fn vc) fn (ints ((filesS s).map Int.ofNat)) wr ∧ Upd S w wr ∧ ∃ S2, RDk0 wr p { s with B := (crashK s keep k).B } S2 ∧ (∀ j ∈ S2, j ∈ S ∨ w.heap.size ≤ j ∧ some j ≠ (Value.slice va fn vc).ownBlock)) (fun _ i _ => fn - (intOf i).toNat)
  case atStart =>
    refine ⟨0, rfl, Nat.zero_le _, rfl, H2.out.1, H2.out.2.nil, S, ?_, fun j hj => .inl hj⟩
    rw [hs0]; exact H.out.to0.upd H2.out.2 (by simp)
  case round =>
    obtain ⟨wo, rfl⟩ : ∃ wo : World, wo = wr := ⟨_, rfl⟩
    obtain ⟨k, rfl, hk, rfl, ho, hu, S2, hd, hs2⟩ := hrel
    by_cases hlt : k < fn
    · have hlti : (k : Int) < fn := by omega
      have hkl : k < (filesS s).length := by rw [HFN.out]; exact hlt
      obtain ⟨i, hi⟩ : ∃ i, (filesS s)[k]? = some i := ⟨_, List.getElem?_eq_getElem hkl⟩
      obtain ⟨hi64, hne⟩ := filesS_mem.1 (List.mem_of_getElem? hi)
      obtain ⟨g0, hva⟩ : ∃ g, va = some ⟨g, 0, none⟩ := by
        obtain ⟨g, cap, he, _⟩ := owns_form ho.row (by omega)
        cases he
        exact ⟨g, rfl⟩
      subst hva
      have d0 := ho.row.cells (g := g0) rfl k _ (ints_get (x := (i : Int)) (by rw [List.getElem?_map, hi]; rfl))
      rw [addr_add, Nat.zero_add] at d0
      obtain ⟨hBi, _⟩ := crashK_at (keep := keep) hi
      obtain ⟨bB, aB, cB, f1, f2, f3, hbS, hrow, hown, hput⟩ := hd.file hi64
      obtain ⟨bF, e1, e2, e3, _⟩ := hd.mark hi64
      simp only [hBi] at f2 hrow hown hput
      have hcap : (s.B i).length ≤ cB := by
        obtain ⟨_, _, _, he, h2, _⟩ := SL.of_owns hrow
        cases he; exact h2
      have hlB := H.out.ok.len i
      have hF := H.out.ok.firm i
      have hkk := keptN_le s keep i
      have HKA := Lib.hid (kept_at (keep := keep) hi)
      have hbl1 := World.block_lt_of_cell? _ _ f2
      have hbl2 := World.block_lt_of_cell? _ _ e2
      have hiI : (i : Int) < 64 := by omega
      have HX := Lib.hid (And.intro hrow (And.intro hown (And.intro hput (And.intro hbS (And.intro ho (And.intro hu (And.intro hi (And.intro hd hs2))))))))
      have HCE := Lib.hid (And.intro f1 (And.intro f2 (And.intro f3 (And.intro e1 e2))))
      clear hrow hown hput hbS ho hu hi hne hd hs2 hBi hkl f3 e3 hs0
      generalize hfk : s.F i = F at *
      generalize hkn : keptN s keep i = kk at *
      generalize hln : (s.B i).length = ln at *
      have HQ := Lib.hid (And.intro hfk (And.intro hkn hln))
      clear hfk hkn hln
      go_upto_if 32 with fail
      go_cut [10] (fun t w' => t = .int .i64 (kk : Int) ∧ Upd [] wo w')
      case first =>
        by_cases hkp : k < keep.length
        · have hkpi : (k : Int) < keep.length := by omega
          have hx := List.getElem?_eq_getElem hkp
          have hkv := HKA.out
          rw [hx] at hkv
          have hxi := HK.out.2.2 _ (List.getElem_mem hkp)
          generalize keep[k] = x at *
          simp only at hkv
          obtain ⟨_, ak', ck', he, _, _, _, hc⟩ := HK.out.1
          cases he
          rcases hc with hc | ⟨gk, ok, rfl, hc⟩
          · omega
          · have dk := ((hc k _ (ints_get hx)))
            have dk4 := HX.out.2.2.2.2.2.1.some dk (fun hm => HK.out.2.1 gk rfl hm)
            clear dk hc hx
            have hfi : (F : Int) ≤ ln := by omega
            have hkv2 : max 0 (min x ((ln : Int) - F)) = kk := by omega
            have HKV := Lib.hid hkv2
            clear hkv hkv2
            go_wp2_with fail
            refine wp_region_qx (by kernel_rfl) (by kernel_rfl) ?_
            repeat (go_big_quiet_step ((fail)))
            refine wpQuiet_nil ?_
            intro x
            go_wp2_with fail
            go_meet
            case rel => exact ⟨by rw [HKV.out], Ext.upd _⟩
        · have hk0 : kk = 0 := by
            have := HKA.out
            rw [List.getElem?_eq_none (by omega)] at this
            exact this
          have hkpi : (keep.length : Int) ≤ k := by omega
          have HK0 := Lib.hid hk0
          clear hk0
          go_wp2_with fail
          go_meet
          case rel => exact ⟨by rw [HK0.out]; rfl, Upd.refl _ _⟩
      case rest =>
        obtain ⟨rfl, hu4⟩ := hcut
        have f1 := hu4.some HCE.out.1 (by simp)
        have f2 := hu4.some HCE.out.2.1 (by simp)
        have f3 := (hu4.frozen (World.block_lt_of_cell? _ _ HCE.out.2.1) (by simp)).trans HCE.out.2.2.1
        have e1 := hu4.some HCE.out.2.2.2.1 (by simp)
        have e2 := hu4.some HCE.out.2.2.2.2 (by simp)
        have hbl1 := World.block_lt_of_cell? _ _ f2
        have hbl2 := World.block_lt_of_cell? _ _ e2
        obtain ⟨fk, hfk⟩ : ∃ fk : Nat, fk = F + kk := ⟨_, rfl⟩
        have hfki : (F : Int) + (kk : Int) = (fk : Int) := by omega
        have hfv : (fk : Int) ≤ cB := by omega
        have hsl := sliced_pre ((owns_addr HX.out.1).elim (fun h => .inl h.1) (fun ⟨g, hg⟩ => .inr ⟨g, 0, hg⟩)) fk cB
        have HFK := Lib.hid hfk
        have HU4 := Lib.hid hu4
        clear hfk hu4
        go_upto_region 10 with fail
        refine wp_region_ord 25 1 [0, 1, 2, 3, 4, 5, 6, 7, 8, 9, 10, 11, 12, 13, 14, 15, 16, 17, 18, 19, 20, 21, 22, 24] [3, 9, 12, 16, 19] [0, 1, 2, 3, 4, 5, 6, 7, 8, 9, 10, 11, 12, 13, 14, 15, 16, 17, 18, 19, 20, 21, 22, 23, 24, 25] (fun w' => ∃ x : Ext wc, w' = x.val) (by kernel_rfl) (by kernel_rfl) (Ext.of (by iterate 25 (first | exact Upd.refl _ _ | assumption | refine Upd.alloc ?_ _ | refine Upd.drew ?_ | refine Upd.drewN ?_ _ | refine Upd.dl ?_ | refine Upd.step ?_ (Ext.upd _) | refine Upd.nil ?_ | skip))) ?_
        repeat (first | (refine wpOrd_load rfl rfl rfl rfl (fun K hK => ?_); go_big_quiet_step (fail); refine wpQuiet_nil ?_; refine hK _ ?_; clear hK K) | (refine wpOrd_free rfl rfl rfl (fun K hK => ?_); go_big_quiet_step (fail); refine wpQuiet_nil ?_; refine hK _ ?_; clear hK K))
        refine wpOrd_fix rfl rfl (fun K hK => ?_)
        have udr : Upd [] wo wc.drew := HU4.out.drew
        have hrow2 := ownsRow_updL (own_pre HX.out.1 (m := fk) (by have := HFK.out; omega)) udr (by simp)
        rw [Nat.mul_one, byts_take] at hrow2
        have HRW := Lib.hid (SL.of_owns hrow2)
        clear udr hrow2
        refine wpList_appS rfl _ _ _ rfl 5 1 1 _ Tryz.underlying39 infoByte rfl (by decide) (.slice none 0 0) 0 [] rfl (World.ownsRow_nil _ _ _ _) (.slice aB fk cB) _ _ rfl HRW.out (byts_one _) (by unfold maxLen; omega) (by omega) ?_
        intro a3 cap3 w3 o3 u3 k3
        simp only [Nat.zero_add, List.nil_append] at o3 u3 k3 ⊢
        go_wp2_with fail
        try (simp only [Act.put, List.setIfInBounds_toArray, List.set_cons_zero, List.set_cons_succ])
        have u3b : Upd [] wc.drew w3 := by simpa [Value.ownBlock] using u3
        have uc3 : Upd [] wc w3 := ((Upd.refl [] wc).drew).step u3b
        have uo3 : Upd [] wo w3 := HU4.out.step uc3
        have hbl3 := hb_none k3
        first | refine ⟨fun _ => Ext.of uc3, ?_⟩ | refine ⟨Ext.of uc3, ?_⟩
        repeat (first | (refine wpOrd_load rfl rfl rfl rfl (fun K hK => ?_); go_big_quiet_step (fail); refine wpQuiet_nil ?_; refine hK _ ?_; clear hK K) | (refine wpOrd_free rfl rfl rfl (fun K hK => ?_); go_big_quiet_step (fail); refine wpQuiet_nil ?_; refine hK _ ?_; clear hK K))
        have hlen : ((s.B i).take fk).length = fk := by rw [List.length_take, HQ.out.2.2]; have := HFK.out; omega
        have hwoc : wo.heap.size ≤ wc.drew.heap.size := HU4.out.size
        have hv3 : ∀ g, (Value.slice a3 fk cap3).ownBlock = some g → (g ∉ S2 ∧ g < w3.heap.size) ∨ (Value.slice aB ln cB).ownBlock = some g := fun g hg => by
          refine .inl ⟨fun hm => ?_, (o3.lt g hg).2⟩
          have h1 := HX.out.2.2.2.2.2.2.2.1.lt g hm
          have h2 := hbl3 g hg
          omega
        obtain ⟨q1, q2⟩ := HX.out.2.2.1 [] w3 (.slice a3 fk cap3) ((s.B i).take fk) (by simp) uo3 (by rw [hlen]; exact o3) hv3
        have g2' := uc3.some f2 (by simp)
        have g3' := (uc3.frozen (World.block_lt_of_cell? _ _ f2) (by simp)).trans f3
        have hstep := congrArg DS.B (crashK_step (keep := keep) HX.out.2.2.2.2.2.2.1)
        simp only at hstep
        rw [HQ.out.1, HQ.out.2.1, ← HFK.out] at hstep
        have hsum : sumL (keptN s keep) ((filesS s).take (k + 1)) = sumL (keptN s keep) ((filesS s).take k) + kk := by rw [List.take_add_one, HX.out.2.2.2.2.2.2.1, sumL_append, ← HQ.out.2.1]; simp [sumL]
        have hsb : sumL (keptN s keep) ((filesS s).take k) + kk ≤ 16777216 := by
          rw [before_at HX.out.2.2.2.2.2.2.1, ← HQ.out.2.1]
          have h1 := tot_mono2 (g := keptN s keep) hi64
          have hbt := tot_mono (n := 64) (g := keptN s keep) (h := fun i => (s.B i).length) (fun i _ => by have := keptN_le s keep i; omega)
          have hbt2 := H.out.ok.used
          have hbt3 := H.out.ok.room
          unfold used at hbt2
          omega
        rw [← hstep] at q1
        have HQ2 := Lib.hid (And.intro q1 (And.intro q2 (And.intro hsum hbl3)))
        clear q1 q2 hsum hstep hv3 o3 k3 hsl
        refine wpOrd_fix rfl rfl (fun K hK => ?_)
        go_wp2_with fail
        try (refine ⟨fun hC => absurd hC (by decide), ?_⟩)
        refine wpOrd_nil ?_
        clear g2' g3' f1 f2 f3 e1 e2
        generalize sumL (keptN s keep) ((filesS s).take k) = sk at *
        have hski : (sk : Int) + kk ≤ 16777216 := by omega
        clear hsb
        go_wp2_with fail
        go_roundw
        case rel =>
          obtain ⟨x1, x2, x3, x4, x5, x6, x7, x8, x9⟩ := HX.out
          have hbne : some bB ≠ (Value.slice (some ⟨g0, 0, none⟩) fn vc).ownBlock := by
            rcases x9 bB x4 with h | h
            · intro e
              have h1 := x5.fresh bB e.symm
              have h2 := H.out.lt bB h
              omega
            · exact h.2
          have hg0 := x5.lt g0 rfl
          refine ⟨k + 1, by go_num, by omega, by rw [HQ2.out.2.2.1]; go_num, x5.upd HQ2.out.2.1 (fun b hb e => by simp only [List.mem_singleton] at hb; subst hb; exact hbne e.symm), x6.fresh HQ2.out.2.1 (fun b hb => by simp only [List.mem_singleton] at hb; subst hb; exact (x9 b x4).imp id (fun h => h.1)), _, HQ2.out.1, fun j hj => ?_⟩
          rcases List.mem_append.1 hj with hj | hj
          · have h1 := HQ2.out.2.2.2 j (by simpa using hj)
            have h2 := x6.size
            refine .inr ⟨by omega, fun e => ?_⟩
            simp only [Value.ownBlock, Option.some.injEq] at e
            omega
          · exact x9 j hj
        case measure => simp [intOf]; omega
    · have hkn : k = fn := by omega
      subst hkn
      have hall : sumL (keptN s keep) ((filesS s).take k) = tot (keptN s keep) 64 := by rw [List.take_of_length_le (by rw [HFN.out]; exact Nat.le_refl _)]; exact kept_all s keep
      rw [hall]
      have hbt := tot_mono (n := 64) (g := keptN s keep) (h := fun i => (s.B i).length) (fun i _ => by have := keptN_le s keep i; omega)
      have hbt2 := H.out.ok.used
      have hbt3 := H.out.ok.room
      unfold used at hbt2
      have htot : tot (keptN s keep) 64 ≤ 16777216 := by omega
      have hBe : (crashK s keep k).B = crashB s keep none := by rw [← HFN.out, crashK_end H.out.ok]
      rw [hBe] at hd
      have HD := Lib.hid (And.intro hd (And.intro ho (And.intro hu (And.intro hs2 hall))))
      clear hd ho hu hs2 hall hBe hbt hbt2 hbt3 hs0
      go_upto_region 13 with fail
      go_cut [88] (fun t w' => t = .bool (decide (0 ≤ fp ∧ 0 < tot (keptN s keep) 64)) ∧ w' = wo)
      case first =>
        by_cases hf0 : 0 ≤ fp
        · by_cases ht0 : 0 < tot (keptN s keep) 64
          · have hti : (0 : Int) < (tot (keptN s keep) 64 : Nat) := by omega
            go_wp2_with fail
            go_meet
            case rel => exact ⟨by rw [decide_eq_true (show 0 ≤ fp ∧ 0 < tot (keptN s keep) 64 from ⟨hf0, ht0⟩)], rfl⟩
          · have hti : ¬ (0 : Int) < (tot (keptN s keep) 64 : Nat) := by omega
            go_wp2_with fail
            go_meet
            case rel => exact ⟨by rw [decide_eq_false (show ¬ (0 ≤ fp ∧ 0 < tot (keptN s keep) 64) from fun h => ht0 h.2)], rfl⟩
        · go_wp2_with fail
          go_meet
          case rel => exact ⟨by rw [decide_eq_false (show ¬ (0 ≤ fp ∧ 0 < tot (keptN s keep) 64) from fun h => by omega)], rfl⟩
      rename_i hcut
      obtain ⟨rfl, rfl⟩ := hcut
      go_upto_if 88 with fail
      go_cut [12] (fun t w' => t = .int .i64 (atOf s keep fp) ∧ w' = wc)
      case first =>
        by_cases hc : 0 ≤ fp ∧ 0 < tot (keptN s keep) 64
        · rw [decide_eq_true hc]
          obtain ⟨hf0, ht0⟩ := hc
          obtain ⟨fq, rfl⟩ := Int.eq_ofNat_of_zero_le hf0
          have hti : (0 : Int) < (tot (keptN s keep) 64 : Nat) := by omega
          have hat : atOf s keep (fq : Int) = (fq : Int) % (8 * ((tot (keptN s keep) 64 : Nat) : Int)) := by
            unfold atOf crashAt
            rw [if_pos ⟨hf0, ht0⟩]
            simp [Int.natCast_emod]
          have HAT := Lib.hid hat
          clear hat hf0
          go_wp2_with fail
          go_meet
          case rel => exact ⟨by rw [HAT.out], rfl⟩
        · have hat : atOf s keep fp = -1 := by
            unfold atOf crashAt
            rw [if_neg hc]
          have HAT := Lib.hid hat
          rw [decide_eq_false hc]
          clear hat hc
          go_wp2_with fail
          go_meet
          case rel => exact ⟨by rw [HAT.out], rfl⟩
      case rest =>
        obtain ⟨rfl, rfl⟩ := hcut
        have hatb : -1 ≤ atOf s keep fp ∧ atOf s keep fp ≤ 134217728 := by
          unfold atOf crashAt
          split
          · omega
          · rename_i q hq
            split at hq
            · have hm := Nat.mod_lt fp.toNat (show 0 < 8 * tot (keptN s keep) 64 by omega)
              cases hq
              omega
            · cases hq
        obtain ⟨hat0, hat1⟩ := hatb
        have HE := Lib.hid (cutB_end s keep fp)
        generalize atOf s keep fp = a0 at *
        go_wp2_with fail
        go_loopw [12, 13] (fun at_ i wr => ∃ j : Nat, i = .int .i64 j ∧ j ≤ k ∧ at_ = .int .i64 (a0 - 8 * (sumL (keptN s keep) ((filesS s).take j) : Nat)) ∧ RDk0 wr p { s with B := cutB s keep a0 (sumL (keptN s keep) ((filesS s).take j)) } S2 ∧ OwnV w 3 1 (.slice va k vc) k (ints ((filesS s).map Int.ofNat)) wr ∧ Upd S w wr) (fun _ i _ => k - (intOf i).toNat)
        case atStart => exact ⟨0, rfl, Nat.zero_le _, by simp [sumL], by rw [show sumL (keptN s keep) ((filesS s).take 0) = 0 by simp [sumL], cutB_zero]; exact HD.out.1, HD.out.2.1, HD.out.2.2.1⟩
        case round =>
          obtain ⟨wo, rfl⟩ : ∃ wo : World, wo = wr := ⟨_, rfl⟩
          obtain ⟨j, rfl, hj, rfl, hd, ho, hu⟩ := hrel
          by_cases hjk : j < k
          · have hjki : (j : Int) < k := by omega
            have hjl : j < (filesS s).length := by rw [HFN.out]; exact hjk
            obtain ⟨i, hi⟩ : ∃ i, (filesS s)[j]? = some i := ⟨_, List.getElem?_eq_getElem hjl⟩
            obtain ⟨hi64, hne⟩ := filesS_mem.1 (List.mem_of_getElem? hi)
            obtain ⟨g0, hva⟩ : ∃ g, va = some ⟨g, 0, none⟩ := by
              obtain ⟨g, cap, he, _⟩ := owns_form ho.row (by omega)
              cases he
              exact ⟨g, rfl⟩
            subst hva
            have d0 := ho.row.cells (g := g0) rfl j _ (ints_get (x := (i : Int)) (by rw [List.getElem?_map, hi]; rfl))
            rw [addr_add, Nat.zero_add] at d0
            obtain ⟨bF, e1, e2, e3, _⟩ := hd.mark hi64
            simp only at e2
            have hbe := before_at (keep := keep) hi
            have hkk := keptN_le s keep i
            have hlB := H.out.ok.len i
            have hFi := H.out.ok.firm i
            have hmono := tot_mono2 (g := keptN s keep) hi64
            have hstep : sumL (keptN s keep) ((filesS s).take (j + 1)) = sumL (keptN s keep) ((filesS s).take j) + keptN s keep i := by rw [List.take_add_one, hi, sumL_append]; simp [sumL]
            have HJ := Lib.hid (And.intro hi64 (And.intro hstep (And.intro hd (And.intro ho hu))))
            have hiI : (i : Int) < 64 := by omega
            rw [← hbe] at hmono
            have HBE := Lib.hid hbe
            clear hi hne hstep hd ho hu hjl hbe
            generalize hsj : sumL (keptN s keep) ((filesS s).take j) = sj at *
            have HSJ := Lib.hid hsj
            clear hsj
            generalize hkn : keptN s keep i = kk at *
            generalize hfn : s.F i = F at *
            have HKN := Lib.hid (And.intro hkn hfn)
            clear hkn hfn
            go_upto_block 4 with fail
            go_wp2_with fail
            go_loopw [12, 15] (fun at_ kx wr => ∃ n : Nat, n ≤ kk ∧ kx = .int .i64 ((F + n : Nat) : Int) ∧ at_ = .int .i64 (a0 - 8 * ((sj + n : Nat) : Int)) ∧ RDk0 wr p { s with B := cutB s keep a0 (sj + n) } S2 ∧ OwnV w 3 1 (.slice (some ⟨g0, 0, none⟩) k vc) k (ints ((filesS s).map Int.ofNat)) wr ∧ Upd S w wr) (fun _ kx _ => (F + kk) - (intOf kx).toNat)
            case atStart => exact ⟨0, Nat.zero_le _, rfl, rfl, HJ.out.2.2.1, HJ.out.2.2.2.1, HJ.out.2.2.2.2⟩
            case round =>
              clear d0 e1 e2 e3
              obtain ⟨wx, rfl⟩ : ∃ wo : World, wo = wr := ⟨_, rfl⟩
              obtain ⟨n, hn, rfl, rfl, hd, ho, hu⟩ := hrel
              have hcl := cutB_length H.out.ok keep a0 (sj + n) i
              rw [HKN.out.1, HKN.out.2] at hcl
              obtain ⟨bB, aB, cB, f1, f2, f3, _⟩ := hd.file hi64
              simp only [hcl] at f2
              have hbl1 := World.block_lt_of_cell? _ _ f2
              have HI := Lib.hid (And.intro hd (And.intro ho (And.intro hu hcl)))
              clear ho hu hcl
              by_cases hnk : n < kk
              · have hnki : ((F + n : Nat) : Int) < ((F + kk : Nat) : Int) := by omega
                by_cases hneg : a0 < 8 * ((sj + n : Nat) : Int)
                · have hsk := Lib.hid (cutB_skip (s := s) (keep := keep) (a := a0) (n := sj + n) (.inl hneg))
                  have hneg2 : a0 - 8 * ((sj + n : Nat) : Int) < 0 := by omega
                  have hlo : -268435456 ≤ a0 - 8 * ((sj + n : Nat) : Int) := by omega
                  obtain ⟨ax, hax⟩ : ∃ ax : Int, ax = a0 - 8 * ((sj + n : Nat) : Int) := ⟨_, rfl⟩
                  rw [← hax] at hneg2 hlo ⊢
                  have HAX := Lib.hid hax
                  clear hax hneg hd
                  go_wp2_with fail
                  go_roundw
                  case rel => exact ⟨n + 1, by omega, by go_num, congrArg (Value.int .i64) (by have := HAX.out; omega), by rw [← Nat.add_assoc, hsk.out]; exact HI.out.1, HI.out.2.1, HI.out.2.2.1⟩
                  case measure => simp [intOf]; omega
                · by_cases h8 : 8 * ((sj + n : Nat) : Int) + 8 ≤ a0
                  · have hsk := Lib.hid (cutB_skip (s := s) (keep := keep) (a := a0) (n := sj + n) (.inr h8))
                    have hneg2 : 8 ≤ a0 - 8 * ((sj + n : Nat) : Int) := by omega
                    have hhi : a0 - 8 * ((sj + n : Nat) : Int) ≤ 134217728 := by omega
                    obtain ⟨ax, hax⟩ : ∃ ax : Int, ax = a0 - 8 * ((sj + n : Nat) : Int) := ⟨_, rfl⟩
                    rw [← hax] at hneg2 hhi ⊢
                    have HAX := Lib.hid hax
                    clear hax hneg hd h8
                    go_wp2_with fail
                    go_roundw
                    case rel => exact ⟨n + 1, by omega, by go_num, congrArg (Value.int .i64) (by have := HAX.out; omega), by rw [← Nat.add_assoc, hsk.out]; exact HI.out.1, HI.out.2.1, HI.out.2.2.1⟩
                    case measure => simp [intOf]; omega
                  · obtain ⟨q, rfl⟩ := Int.eq_ofNat_of_zero_le (show 0 ≤ a0 by omega)
                    obtain ⟨ax, hax⟩ : ∃ ax : Nat, ax = q - 8 * (sj + n) := ⟨_, rfl⟩
                    have hax8 : ax < 8 := by omega
                    have haxi : (q : Int) - 8 * ((sj + n : Nat) : Int) = (ax : Int) := by omega
                    rw [haxi]
                    have hax8i : (ax : Int) < 8 := by omega
                    have hs7 : (7 : Int) - (ax : Int) = ((7 - ax % 8 : Nat) : Int) := by omega
                    have hcn : cutB s keep (q : Int) (sj + n) = crashB s keep none := by unfold cutB; rw [if_neg (by omega)]
                    have hix : F + n < (cutB s keep (q : Int) (sj + n) i).length := by rw [HI.out.2.2.2]; omega
                    have hy := List.getElem?_eq_getElem hix
                    have hpk := hd.poke hi64 (by intro e; have := HI.out.2.2.2; simp only at e; rw [e] at this; simp at this; omega)
                    obtain ⟨bC, gC, cC, p1, p2, hgS, hpc, hpp⟩ := hpk
                    simp only [HI.out.2.2.2] at p2 hpp
                    have hpc2 := hpc (F + n) _ hy
                    have hhit := cutB_hit H.out.ok (keep := keep) (q := q) (n := sj + n) (i := i) (y := (cutB s keep (q : Int) (sj + n) i)[F + n]) (by omega) (by omega) hi64 (by rw [← HBE.out]; omega) (by rw [← HBE.out, HKN.out.1]; omega) (by rw [← HBE.out, HKN.out.2, show F + (sj + n - sj) = F + n by omega, ← hcn]; exact hy)
                    rw [← HBE.out, HKN.out.2, show F + (sj + n - sj) = F + n by omega, ← hax] at hhit
                    generalize (cutB s keep (q : Int) (sj + n) i)[F + n] = y at *
                    obtain ⟨pc1, pc2⟩ := hpc2
                    have hq := hpp wx.drew (F + n) (flipB y ax) ((Upd.refl [] wx).drew) (by omega)
                    try simp only at hq
                    rw [← hhit] at hq
                    have HP := Lib.hid (And.intro hq (And.intro hgS (show flipB y ax = bits .xor .u8 y (2 ^ (7 - ax % 8) % 256) by unfold flipB; rw [flip_shl])))
                    have HAX := Lib.hid (And.intro hax (show 8 * (sj + n) ≤ q by omega))
                    have hgl := World.block_lt_of_cell? _ _ pc1
                    have hbl2 := World.block_lt_of_cell? _ _ p2
                    clear hq hgS hpc hpp hhit hy hix hcn hd h8 hneg haxi hax f1 f2 f3 hbl1
                    go_wp2_with fail
                    refine wp_region_ord 24 1 [0, 1, 2, 3, 4, 5, 6, 7, 8, 9, 10, 11, 12, 13, 14, 15, 16, 17, 18, 19, 20, 21, 22, 23] [3, 6, 11, 14, 17] [0, 1, 2, 3, 4, 5, 6, 7, 8, 9, 10, 11, 12, 13, 14, 15, 16, 17, 18, 19, 20, 21, 22, 23, 24] (fun w' => ∃ x : Ext wx, w' = x.val) (by kernel_rfl) (by kernel_rfl) (Ext.of (by iterate 25 (first | exact Upd.refl _ _ | assumption | refine Upd.alloc ?_ _ | refine Upd.drew ?_ | refine Upd.drewN ?_ _ | refine Upd.dl ?_ | refine Upd.step ?_ (Ext.upd _) | refine Upd.nil ?_ | skip))) ?_
                    repeat (first | (refine wpOrd_load rfl rfl rfl rfl (fun K hK => ?_); go_big_quiet_step (fail); refine wpQuiet_nil ?_; refine hK _ ?_; clear hK K) | (refine wpOrd_free rfl rfl rfl (fun K hK => ?_); go_big_quiet_step (fail); refine wpQuiet_nil ?_; refine hK _ ?_; clear hK K))
                    refine wpOrd_fix rfl rfl (fun K hK => ?_)
                    go_wp2_with fail
                    try (refine ⟨fun hC => absurd hC (by decide), ?_⟩)
                    refine wpOrd_nil ?_
                    rw [← HP.out.2.2]
                    obtain ⟨w7, hw7⟩ : ∃ w7 : World, w7 = (wx.setCell ⟨gC, F + n, none⟩ (.int .u8 (flipB y ax))).drew := ⟨_, rfl⟩
                    have r1 : RDk0 w7 p { s with B := cutB s keep (q : Int) (sj + n + 1) } S2 := by rw [hw7]; exact HP.out.1
                    have r2 : Upd [gC] wx w7 := by rw [hw7]; exact ((Upd.refl _ wx).set (.inl (by simp)) _).drew
                    rw [← hw7]
                    have hgc := HD.out.2.2.2.1 gC HP.out.2.1
                    have r3 := HI.out.2.1.upd r2 (fun b hb e => by
                      simp only [List.mem_singleton] at hb
                      subst hb
                      rcases hgc with h | h
                      · have h1 := HI.out.2.1.fresh b e
                        have h2 := H.out.lt b h
                        omega
                      · exact h.2 e.symm)
                    have r4 := HI.out.2.2.1.fresh r2 (fun b hb => by simp only [List.mem_singleton] at hb; subst hb; exact hgc.imp id (fun h => h.1))
                    have HR7 := Lib.hid (And.intro r1 (And.intro r3 r4))
                    clear hw7 r1 r2 r3 r4 hgc pc1 pc2 p1 p2
                    go_wp2_with fail
                    go_roundw
                    case rel => exact ⟨n + 1, by omega, by go_num, congrArg (Value.int .i64) (by have := HAX.out; omega), by rw [← Nat.add_assoc]; exact HR7.out.1, HR7.out.2.1, HR7.out.2.2⟩
                    case measure => simp [intOf]; omega
              · have hnk2 : n = kk := by omega
                subst hnk2
                clear hd
                go_wp2_with fail
                go_roundw
                case rel => exact ⟨j + 1, by go_num, by omega, by rw [HJ.out.2.1], by rw [HJ.out.2.1]; exact HI.out.1, HI.out.2.1, HI.out.2.2.1⟩
                case measure => simp [intOf]; omega
          · have hjk2 : j = k := by omega
            subst hjk2
            rw [HD.out.2.2.2.2, HE.out] at hd
            have hs9 := crashS_ok H.out.ok keep fp
            have HS9 := Lib.hid hs9
            have hst0 : ({ s with B := crashB s keep (crashAt s keep fp) } : DS) = syncM { s with B := crashB s keep (crashAt s keep fp) } 0 := (syncM_zero _).symm
            rw [hst0] at hd
            have hend : ({ syncM { s with B := crashB s keep (crashAt s keep fp) } 64 with off := false, plan := -1 } : DS) = crashS s keep fp := by
              refine DS.eq_of rfl rfl (funext fun i => ?_) rfl rfl
              simp only [syncM, crashS]
              split
              · rfl
              · have h1 := H.out.ok.firm i
                rw [H.out.ok.out i (by omega)] at h1
                rw [crashB_length s keep _ i H.out.ok, kept_nil (H.out.ok.out i (by omega))]
                simp
            have HEND := Lib.hid hend
            generalize ({ s with B := crashB s keep (crashAt s keep fp) } : DS) = s3 at *
            have H3 := Lib.hid (And.intro hd hu)
            clear hd hu ho hs9 hst0 hend
            go_wp2_with fail
            go_loopw [16] (fun i wr => ∃ n : Nat, i = .int .i64 n ∧ n ≤ 64 ∧ RDk0 wr p (syncM s3 n) S2 ∧ Upd S w wr) (fun i _ => 64 - (intOf i).toNat)
            case atStart => exact ⟨0, rfl, Nat.zero_le _, H3.out.1, H3.out.2⟩
            case round =>
              obtain ⟨wx, rfl⟩ : ∃ wo : World, wo = wr := ⟨_, rfl⟩
              obtain ⟨n, rfl, hn, hd, hu⟩ := hrel
              by_cases hlt : n < 64
              · have hlti : (n : Int) < 64 := by omega
                obtain ⟨bB, aB, cB, d1, d2, _⟩ := hd.file hlt
                obtain ⟨bF, e1, e2, e3, hfS, hmk⟩ := hd.mark hlt
                have hbl := World.block_lt_of_cell? _ _ e2
                have hbl2 := World.block_lt_of_cell? _ _ d2
                obtain ⟨m1, m2⟩ := hmk [] wx.drew (s3.B n).length (by simp) ((Upd.refl [] wx).drew)
                have hBk : (syncM s3 n).B n = s3.B n := rfl
                rw [hBk] at d2
                rw [← syncM_step] at m1
                have HM := Lib.hid (And.intro m1 (And.intro m2 (And.intro hfS hu)))
                clear hmk m1 m2 hfS hd hu hBk
                go_wp2_with fail
                refine wp_region_ord 14 1 [0, 1, 2, 3, 4, 5, 6, 7, 8, 9, 10, 11, 12, 13] [3, 8, 11] [0, 1, 2, 3, 4, 5, 6, 7, 8, 9, 10, 11, 12, 13, 14] (fun w' => ∃ x : Ext wx, w' = x.val) (by kernel_rfl) (by kernel_rfl) (Ext.of (by iterate 25 (first | exact Upd.refl _ _ | assumption | refine Upd.alloc ?_ _ | refine Upd.drew ?_ | refine Upd.drewN ?_ _ | refine Upd.dl ?_ | refine Upd.step ?_ (Ext.upd _) | refine Upd.nil ?_ | skip))) ?_
                repeat (first | (refine wpOrd_load rfl rfl rfl rfl (fun K hK => ?_); go_big_quiet_step (fail); refine wpQuiet_nil ?_; refine hK _ ?_; clear hK K) | (refine wpOrd_free rfl rfl rfl (fun K hK => ?_); go_big_quiet_step (fail); refine wpQuiet_nil ?_; refine hK _ ?_; clear hK K))
                refine wpOrd_fix rfl rfl (fun K hK => ?_)
                go_wp2_with fail
                try (refine ⟨fun hC => absurd hC (by decide), ?_⟩)
                refine wpOrd_nil ?_
                go_wp2_with fail
                go_roundw
                case rel => exact ⟨n + 1, by go_num, by omega, HM.out.1, HM.out.2.2.2.fresh HM.out.2.1 (fun b hb => by simp only [List.mem_singleton] at hb; subst hb; exact (HD.out.2.2.2.1 b HM.out.2.2.1).imp id (fun h => h.1))⟩
                case measure => simp [intOf]; omega
              · have hn64 : n = 64 := by omega
                subst hn64
                obtain ⟨x2, y2, h1⟩ := hd.cells
                have c3 := h1.cell (i := 3) rfl
                have c4 := h1.cell (i := 4) rfl
                have f3 := h1.free 3
                have f4 := h1.free 4
                have HX := Lib.hid (And.intro hd hu)
                clear hd hu h1
                go_wp2_with fail
                go_end0
                have hu2 : Upd [p] wx ((wx.setCell ⟨p, 3, none⟩ (.bool false)).setCell ⟨p, 4, none⟩ (.int .i64 (-1))) := ((Upd.refl _ wx).set (.inl (by simp)) _).set (.inl (by simp)) _
                have h9 := HX.out.1.head (s' := { syncM s3 64 with off := false, plan := -1 }) rfl rfl hu2 (fun x y hb => (hb.set 3 _).set 4 _)
                rw [HEND.out] at h9
                exact ⟨rfl, S2, h9.ok HS9.out, HX.out.2.fresh hu2 (fun b hb => .inl (by simp only [List.mem_singleton] at hb; subst hb; exact H.out.p_mem)), fun b hb => (HD.out.2.2.2.1 b hb).imp id (fun h => h.1)⟩
end
end Disk
end Go.Proofs.YtfkgpecglcjpkaaGreat
end
