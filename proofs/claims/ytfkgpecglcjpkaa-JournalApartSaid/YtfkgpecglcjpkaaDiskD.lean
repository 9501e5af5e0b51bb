/- Walks through package disk: Append, Read. Conditions: none. -/
import Derived.Test.YtfkgpecglcjpkaaDiskC
set_option linter.unusedVariables false
set_option linter.unusedSimpArgs false
set_option linter.unusedSectionVars false
open Go.RowKit
namespace Go.Proofs.Ytfkgpecglcjpkaa
open L
namespace Disk
open Wire
theorem setF_self (F : Nat → Nat) (i : Nat) : setF F i (F i) = F := by
  funext j
  unfold setF
  split
  · rename_i h; rw [h]
  · rfl
section
variable {w w' : World} {p : Nat} {s : DS} {S : List Nat}
/-- What a method that changes a disk leaves. -/
def DkT (p : Nat) (S : List Nat) (w : World) (v : Value) (s' : DS) (e : Ending) (w' : World) : Prop :=
  e = .returned v ∧ ∃ S', Dk w' p s' S' ∧ Upd S w w' ∧ ∀ k ∈ S', k ∈ S ∨ w.heap.size ≤ k
set_option maxRecDepth 100000 in
set_option maxHeartbeats 4000000 in
theorem Append_calls (h : Dk w p s S) {f : Int} (hf : IsI64 f) {v : Value} {b : List Int} (hv : SL w 1 v b.length (byts b)) (hb : ∀ x ∈ b, 0 ≤ x ∧ x ≤ 255) (hl : b.length ≤ 1000000000) (hvS : ∀ g, v.ownBlock = some g → g ∉ S) :
    Calls Try.prog 35 #[.pointer (some ⟨p, 0, none⟩), .int .i64 f, v] w (DkT p S w (.int .i64 (appendS s f b).1) (appendS s f b).2) := by
  obtain ⟨va, vc, rfl, _⟩ := hv.val
  have c2 : ∃ m, Blk w p [.int .i64 (s.room : Int), .map (some m), .bool s.off, .int .i64 s.plan] 89 := by obtain ⟨m, _, _, h1, _⟩ := h.ex; exact ⟨m, h1⟩
  obtain ⟨m, h1⟩ := c2
  have c0 := h1.cell (i := 0) rfl
  have c1 := h1.cell (i := 1) rfl
  have c2 := h1.cell (i := 2) rfl
  have hlt := h1.lt
  have hbi : (b.length : Int) ≤ 1000000000 := by omega
  have hroom := h.ok.room
  have hused := h.ok.used
  have HB := Lib.hid (And.intro hv (And.intro hb hvS))
  have H := Lib.hid h
  clear h hv hb hvS h1
  cases hfile : isF f with
  | false =>
    have HR := Lib.hid (show appendS s f b = (1, s) by unfold appendS; rw [if_pos hfile])
    have HI := Lib.hid (isFile_calls (w := w) f)
    rw [hfile] at HI
    clear hfile
    go_enter Try.func35, Try.ntmps35
    go_wp2_with (go_at_call 54; refine (HI.out).mono ?_; rintro e w' ⟨rfl, rfl⟩)
    go_ret
    rw [HR.out]
    exact ⟨rfl, S, H.out, Upd.refl _ _, fun k hk => .inl hk⟩
  | true =>
    have HI := Lib.hid (isFile_calls (w := w) f)
    rw [hfile] at HI
    cases hoff : s.off with
    | true =>
      have HR := Lib.hid (show appendS s f b = (23, s) by unfold appendS; rw [if_neg (by rw [hfile]; simp), if_pos hoff])
      rw [hoff] at c2
      clear hfile hoff
      go_enter Try.func35, Try.ntmps35
      go_wp2_with (go_at_call 54; refine (HI.out).mono ?_; rintro e w' ⟨rfl, rfl⟩)
      go_ret
      rw [HR.out]
      exact ⟨rfl, S, H.out, Upd.refl _ _, fun k hk => .inl hk⟩
    | false =>
      rw [hoff] at c2
      by_cases hfull : s.room < used s + b.length
      · have HR := Lib.hid (show appendS s f b = (22, s) by unfold appendS; rw [if_neg (by rw [hfile]; simp), if_neg (by rw [hoff]; simp), if_pos hfull])
        have hfi : (s.room : Int) - (used s : Nat) < b.length := by omega
        have hui : ((used s : Nat) : Int) ≤ 16777216 := by omega
        have hri : (s.room : Int) ≤ 16777216 := by omega
        clear hfile hoff hfull
        go_enter Try.func35, Try.ntmps35
        go_wp2_with (go_at_call 54; refine (HI.out).mono ?_; rintro e w' ⟨rfl, rfl⟩)
        refine wp_region_qx (by kernel_rfl) (by kernel_rfl) ?_
        repeat (go_big_quiet_step (((go_at_call 31; exact qx (Used_calls (H.out.quiet (Ext.upd _)))))))
        refine wpQuiet_nil ?_
        intro x
        go_wp2_with fail
        go_ret
        rw [HR.out]
        exact ⟨rfl, S, H.out.quiet (Ext.upd _), (Ext.upd _).nil, fun k hk => .inl hk⟩
      · have hr2 : used s + b.length ≤ s.room := by omega
        have h64 : 0 ≤ f ∧ f < 64 := of_decide_eq_true hfile
        obtain ⟨i, rfl⟩ := Int.eq_ofNat_of_zero_le h64.1
        have hi : i < 64 := by omega
        have HR := Lib.hid (show appendS s (i : Int) b = (if (stepS { s with B := setB s.B i (s.B i ++ b) }).1 then 23 else 0, (stepS { s with B := setB s.B i (s.B i ++ b) }).2) by unfold appendS; rw [if_neg (by rw [hfile]; simp), if_neg (by rw [hoff]; simp), if_neg hfull, Int.toNat_natCast])
        have HK := Lib.hid (append_ok H.out.ok hi HB.out.2.1 hr2)
        have hfi : (b.length : Int) ≤ (s.room : Int) - (used s : Nat) := by omega
        have hui : ((used s : Nat) : Int) ≤ 16777216 := by omega
        have hri : (s.room : Int) ≤ 16777216 := by omega
        have hlB := H.out.ok.len i
        clear hfile hoff hfull h64
        go_enter Try.func35, Try.ntmps35
        go_wp2_with (go_at_call 54; refine (HI.out).mono ?_; rintro e w' ⟨rfl, rfl⟩)
        refine wp_region_qx (by kernel_rfl) (by kernel_rfl) ?_
        repeat (go_big_quiet_step (((go_at_call 31; exact qx (Used_calls (H.out.quiet (Ext.upd _)))))))
        refine wpQuiet_nil ?_
        intro x
        obtain ⟨w1, hx1⟩ : ∃ w1 : World, w1 = x.val := ⟨_, rfl⟩
        have hu1 : Upd [] w w1 := by rw [hx1]; exact x.property
        rw [← hx1]
        clear hx1 x
        have H1 := H.out.quiet hu1
        have HU1 := Lib.hid hu1
        have HB1 := Lib.hid (HB.out.1.upd hu1 (by simp))
        clear c0 c1 c2 hlt hu1
        obtain ⟨m1, fm, v1, hW, hM, hval, hrow, _⟩ := H1.out hi
        obtain ⟨_, va1, vc1, rfl, _⟩ := SL.of_owns hrow
        have h1 : Blk w1 p [.int .i64 (s.room : Int), .map (some m1), .bool s.off, .int .i64 s.plan] 89 := by obtain ⟨_, _, h1, _⟩ := hW.ex; exact h1
        have c1 := h1.cell (i := 1) rfl
        have hlt := h1.lt
        have HW := Lib.hid (And.intro hW (And.intro hrow H1))
        have HM := Lib.hid hM
        have HV := Lib.hid hval
        clear hW hrow hM hval h1 H1
        go_upto_region 8 with (first | (at_lookup; refine wpList_mflook (k := 3) Try.underlying3 Try.underlying87 infoFile _ _ rfl rfl m1 64 fm (i : Int) rfl rfl HM.out ⟨by omega, by omega⟩ ?_; rw [HV.out]) | go_in)
        have ubx : Upd [] w1 (w1.alloc (.cells #[.slice va1 (s.B i).length vc1, .int .i64 (s.F i : Int)] 91)) := (Upd.refl _ w1).alloc _
        have bbx := Blk.new w1 [.slice va1 (s.B i).length vc1, .int .i64 (s.F i : Int)] 91
        have hqS : w1.heap.size ∉ S := fun hm => by have := HW.out.1.lt _ hm; omega
        have hqw : w.heap.size ≤ w1.heap.size := HU1.out.size
        have hq2 : w1.heap.size < (w1.alloc (.cells #[.slice va1 (s.B i).length vc1, .int .i64 (s.F i : Int)] 91)).heap.size := by simp
        have H2 := Lib.hid (And.intro (HW.out.1.upd ubx (by simp)) (And.intro (ownsRow_updL HW.out.2.1 ubx (by simp)) (And.intro (HB1.out.upd ubx (by simp)) (And.intro (HU1.out.step ubx) (And.intro bbx (And.intro hqS (And.intro hqw hq2)))))))
        clear ubx bbx hqS hqw hq2 HW HB1 HU1 HV HM c1 hlt
        generalize hq : w1.heap.size = q at *
        have e0 := H2.out.2.2.2.2.1.cell (i := 0) rfl
        generalize w1.alloc (.cells #[.slice va1 (s.B i).length vc1, .int .i64 (s.F i : Int)] 91) = w2 at *
        have hqT : q ∉ (Value.slice va1 (s.B i).length vc1).ownBlock.toList := fun hm => H2.out.2.2.2.2.2.1 (H2.out.1.own q hm).1
        have HQT := Lib.hid hqT
        clear hqT hq
        go_upto_region 9 with (refine wpList_appS rfl _ _ _ rfl 5 1 1 _ Try.underlying23 infoByte rfl (by decide) (.slice va1 (s.B i).length vc1) _ _ rfl H2.out.2.1 _ _ _ rfl H2.out.2.2.1 (byts_one _) (by unfold maxLen; omega) (by omega) ?_; intro a3 cap3 w3 o3 u3 k3; have b3 := H2.out.2.2.2.2.1.upd u3 HQT.out; have d0 := b3.cell (i := 0) rfl; have g0 := b3.free 0; simp only [Act.put, List.setIfInBounds_toArray, List.set_cons_zero, List.set_cons_succ])
        obtain ⟨S4, T4, hW4, hv4, hs4, hm4, row4, b4, U4⟩ : ∃ S4 T4, DkW (w3.setCell ⟨q, 0, none⟩ (.slice a3 ((s.B i).length + b.length) cap3)) p m1 fm s S4 i T4 ∧ (∀ g, (Value.slice a3 ((s.B i).length + b.length) cap3).ownBlock = some g → g ∈ T4) ∧ (∀ k ∈ S4, k ∈ S ∨ w.heap.size ≤ k) ∧ m1 ∈ S ∧
            (w3.setCell ⟨q, 0, none⟩ (.slice a3 ((s.B i).length + b.length) cap3)).ownsRow 0 5 1 (.slice a3 ((s.B i).length + b.length) cap3) (s.B i ++ b).length (byts (s.B i ++ b)) ∧ Blk (w3.setCell ⟨q, 0, none⟩ (.slice a3 ((s.B i).length + b.length) cap3)) q [.slice a3 ((s.B i).length + b.length) cap3, .int .i64 (s.F i : Int)] 91 ∧
            Upd S w (w3.setCell ⟨q, 0, none⟩ (.slice a3 ((s.B i).length + b.length) cap3)) := by
          obtain ⟨hW2, row2, hb2, hu2, bb2, hqS, hqw, hq2⟩ := H2.out
          have U34 : Upd [q] w3 (w3.setCell ⟨q, 0, none⟩ (.slice a3 ((s.B i).length + b.length) cap3)) := (Upd.refl _ w3).set (.inl (by simp)) _
          have hW3 := hW2.upd u3 (fun k hk => .inl hk)
          have hW4 := hW3.upd U34 (fun k hk => .inr (by simp at hk; subst hk; exact hqS))
          have hTS : ∀ k ∈ (Value.slice va1 (s.B i).length vc1).ownBlock.toList, k ∈ S := fun k hk => (hW2.own k hk).1
          have hmS : m1 ∈ S := by obtain ⟨_, _, _, _, _, _, _, h6, _⟩ := hW2.ex; exact h6
          have hneq : ∀ k ∈ [q], (Value.slice a3 ((s.B i).length + b.length) cap3).ownBlock ≠ some k := by
            intro k hk e
            simp only [List.mem_singleton] at hk
            subst hk
            rcases k3 with k3 | k3
            · exact hqS (hTS _ (by rw [← k3, e]; simp))
            · rw [e] at k3; simp at k3; omega
          have row4 := ownsRow_updL o3 U34 hneq
          rw [← byts_append, ← List.length_append] at row4
          have Uall : Upd S w (w3.setCell ⟨q, 0, none⟩ (.slice a3 ((s.B i).length + b.length) cap3)) := ((hu2.nil (S := S)).fresh u3 (fun k hk => .inl (hTS k hk))).fresh U34 (fun k hk => .inr (by simp at hk; subst hk; exact hqw))
          rw [List.length_append] at row4
          rw [List.length_append]
          rcases k3 with k3 | k3
          · exact ⟨S, _, hW4, fun g hg => by rw [← k3, hg]; simp, fun k hk => .inl hk, hmS, row4, b3.set 0 _, Uall⟩
          · have hlt4 : w2.heap.size < (w3.setCell ⟨q, 0, none⟩ (.slice a3 ((s.B i).length + b.length) cap3)).heap.size := by
              have h5 : ∃ g, (Value.slice a3 ((s.B i).length + b.length) cap3).ownBlock = some g ∧ g = w2.heap.size := ⟨_, k3, rfl⟩
              obtain ⟨g, hg, rfl⟩ := h5
              exact (row4.lt _ hg).2
            refine ⟨w2.heap.size :: S, w2.heap.size :: _, hW4.more (fun hm => ?_) hlt4, fun g hg => ?_, fun k hk => ?_, hmS, row4, b3.set 0 _, Uall⟩
            · have := hW2.lt _ hm; omega
            · rw [k3] at hg; cases hg; simp
            · rcases List.mem_cons.1 hk with rfl | hk
              · exact .inr hu2.size
              · exact .inl hk
        have HX := Lib.hid (And.intro hW4 (And.intro hv4 (And.intro hs4 (And.intro hm4 (And.intro row4 U4)))))
        clear hW4 hv4 hs4 hm4 row4 U4 o3 u3 k3 H2 b3 d0 g0 e0 HQT
        have d0 := b4.cell (i := 0) rfl
        have d1 := b4.cell (i := 1) rfl
        clear b4
        generalize w3.setCell ⟨q, 0, none⟩ (.slice a3 ((s.B i).length + b.length) cap3) = w4 at *
        have HPC := Lib.hid (put_calls HX.out.1 (n := s.F i) HX.out.2.2.2.2.1 HX.out.2.1 (by rw [setF_self]; exact HK.out))
        rw [setF_self] at HPC
        generalize hs1 : ({ s with B := setB s.B i (s.B i ++ b) } : DS) = s1 at *
        go_upto_region 10 with (go_at_call 55; refine HPC.out.mono ?_; rintro e w5 ⟨rfl, h5, u5⟩)
        have H5 := Lib.hid (And.intro h5 u5)
        clear h5 u5 HPC d0 d1
        have HFA := Lib.hid (fails_calls H5.out.1)
        cases hst : (stepS s1).1 with
        | true =>
          rw [hst] at HFA HR
          go_wp2_with (go_at_call 56; refine HFA.out.mono ?_; rintro e w6 ⟨rfl, h6, u6⟩)
          go_ret
          rw [HR.out]
          exact ⟨rfl, S4, h6, (HX.out.2.2.2.2.2.trans (H5.out.2.wide (fun k hk => by simp at hk; subst hk; exact .inl HX.out.2.2.2.1))).fresh u6 (fun k hk => by simp at hk; subst hk; exact .inl H.out.p_mem), HX.out.2.2.1⟩
        | false =>
          rw [hst] at HFA HR
          go_wp2_with (go_at_call 56; refine HFA.out.mono ?_; rintro e w6 ⟨rfl, h6, u6⟩)
          go_ret
          rw [HR.out]
          exact ⟨rfl, S4, h6, (HX.out.2.2.2.2.2.trans (H5.out.2.wide (fun k hk => by simp at hk; subst hk; exact .inl HX.out.2.2.2.1))).fresh u6 (fun k hk => by simp at hk; subst hk; exact .inl H.out.p_mem), HX.out.2.2.1⟩
end
end Disk
end Go.Proofs.Ytfkgpecglcjpkaa
