/- Walks through package trail: the functions that change a trail. Conditions: none. -/
import Derived.Test.YtdhhohnaehdpkaaTrailB
set_option linter.unusedVariables false
set_option linter.unusedSimpArgs false
set_option linter.unusedSectionVars false
open Go.RowKit
namespace Go.Proofs.Ytdhhohnaehdpkaa
open L
namespace Trail
section
variable {w : World} {b vars : Nat} {es : Es} {now : Int} {S : List Nat}
theorem infoEntry : (Try.prog.info? 89).map (fun i => (i.zero, i.size, i.bytes)) = some (some (.agg #[.int .i64 0, .int .i64 0, .int .i64 0]), 3, 24) := by kernel_rfl

set_option maxHeartbeats 800000 in
theorem assign_calls (h : Tr w b vars es now S) (lit reason : Int) (hl : isLit vars lit = true) (hp : pos es lit.natAbs = 0) (hr : -1 ≤ reason ∧ reason ≤ 9223372036854775807) (hn : now = decs (es ++ [(lit, reason)])) :
    Calls Try.prog 49 #[.pointer (some ⟨b, 0, none⟩), .int .i64 lit, .int .i64 reason] w fun e w' => e = .returned (.tuple #[]) ∧ ∃ S', Tr w' b vars (es ++ [(lit, reason)]) now S' ∧ Upd S w w' ∧ ∀ k ∈ S', k ∈ S ∨ w.heap.size ≤ k := by
  have hv := h.wf.max
  have hlen := h.wf.len
  obtain ⟨h0, pb, pcap, lv, pad, rfl, h1, h2, h3, h4, h5, h6, h7, h8⟩ := h
  have c0 := h1.cell (i := 0) rfl
  have c1 := h1.cell (i := 1) rfl
  have c2 := h1.cell (i := 2) rfl
  have f1 := h1.free 1
  have hlt := h1.lt
  have HN := Lib.hid hn
  clear hn
  go_enter Try.func49, Try.ntmps49
  go_wp2_with fail
  refine wp_region_ord 13 3 [0, 1, 2, 3, 4, 5, 6, 7, 8, 9, 10, 11, 14, 15] [4, 9] [0, 1, 2, 3, 4, 5, 6, 7, 8, 9, 10, 11, 12, 13, 14, 15, 16] (fun w' => ∃ x : Ext w, w' = x.val) (by kernel_rfl) (by kernel_rfl) (Ext.of (by iterate 25 (first | exact Upd.refl _ _ | assumption | refine Upd.alloc ?_ _ | refine Upd.drew ?_ | refine Upd.drewN ?_ _ | refine Upd.dl ?_ | refine Upd.step ?_ (Ext.upd _) | refine Upd.nil ?_ | skip))) ?_
  repeat (first | (refine wpOrd_load rfl rfl rfl rfl (fun K hK => ?_); go_big_quiet_step (fail); refine wpQuiet_nil ?_; refine hK _ ?_; clear hK K) | (refine wpOrd_free rfl rfl rfl (fun K hK => ?_); go_big_quiet_step (fail); refine wpQuiet_nil ?_; refine hK _ ?_; clear hK K))
  refine wpOrd_fix rfl rfl (fun K hK => ?_)
  go_wp2_with fail
  refine ⟨fun _ => Ext.of (by iterate 25 (first | exact Upd.refl _ _ | assumption | refine Upd.alloc ?_ _ | refine Upd.drew ?_ | refine Upd.drewN ?_ _ | refine Upd.dl ?_ | refine Upd.step ?_ (Ext.upd _) | refine Upd.nil ?_ | skip)), ?_⟩
  repeat (first | (refine wpOrd_load rfl rfl rfl rfl (fun K hK => ?_); go_big_quiet_step (fail); refine wpQuiet_nil ?_; refine hK _ ?_; clear hK K) | (refine wpOrd_free rfl rfl rfl (fun K hK => ?_); go_big_quiet_step (fail); refine wpQuiet_nil ?_; refine hK _ ?_; clear hK K))
  refine wpOrd_fix rfl rfl (fun K hK => ?_)
  refine wpList_app rfl _ _ _ rfl 89 3 24 _ Try.underlying85 infoEntry rfl (by decide) lv _ _ rfl (ownsRow_upd h5 (S := []) (by iterate 25 (first | exact Upd.refl _ _ | assumption | refine Upd.alloc ?_ _ | refine Upd.drew ?_ | refine Upd.drewN ?_ _ | refine Upd.dl ?_ | refine Upd.step ?_ (Ext.upd _) | refine Upd.nil ?_ | skip)) (by simp)) _ 1 1 [.int .i64 lit, .int .i64 now, .int .i64 reason] 89 rfl rfl (Blk.new w _ _).drew ?_ (by omega) ?_ ?_ ?_
  · intro u hu
    simp only [List.mem_cons, List.not_mem_nil, or_false] at hu
    rcases hu with rfl | rfl | rfl <;> rfl
  · unfold maxLen; omega
  · omega
  intro g cap w1 o1 u1 k1
  go_wp2_with fail
  simp only [Act.put, List.setIfInBounds_toArray, List.set_cons_zero, List.set_cons_succ]
  refine ⟨fun hC => absurd hC (by decide), ?_⟩
  repeat (first | (refine wpOrd_load rfl rfl rfl rfl (fun K hK => ?_); go_big_quiet_step (fail); refine wpQuiet_nil ?_; refine hK _ ?_; clear hK K) | (refine wpOrd_free rfl rfl rfl (fun K hK => ?_); go_big_quiet_step (fail); refine wpQuiet_nil ?_; refine hK _ ?_; clear hK K))
  have U1 : Upd lv.ownBlock.toList w w1 := Upd.trans (by iterate 25 (first | exact Upd.refl _ _ | assumption | refine Upd.alloc ?_ _ | refine Upd.drew ?_ | refine Upd.drewN ?_ _ | refine Upd.dl ?_ | refine Upd.step ?_ (Ext.upd _) | refine Upd.nil ?_ | skip)) u1
  have nb : b ∉ lv.ownBlock.toList := by simpa using h7
  have npb : pb ∉ lv.ownBlock.toList := by simpa using h8
  have B1 := h1.upd U1 nb
  have P1 := h2.upd U1 npb
  have e1 := B1.cell (i := 1) rfl
  have e2 := B1.free 1
  refine wpOrd_fix rfl rfl (fun K hK => ?_)
  go_wp2_with fail
  refine ⟨fun hC => absurd hC (by decide), ?_⟩
  refine wpOrd_nil ?_
  have B2 := B1.set 1 (.slice (some ⟨g, 0, none⟩) (es.length + 1) cap)
  have P2 := P1.setOther (p := ⟨b, 1, none⟩) h6 (.slice (some ⟨g, 0, none⟩) (es.length + 1) cap)
  have U2 : Upd (b :: pb :: lv.ownBlock.toList) w (w1.setCell ⟨b, 1, none⟩ (.slice (some ⟨g, 0, none⟩) (es.length + 1) cap)) := (U1.wide (fun k hk => .inl (by simp at hk ⊢; simp [hk]))).set (by simp) _
  have O2 : (w1.setCell ⟨b, 1, none⟩ (.slice (some ⟨g, 0, none⟩) (es.length + 1) cap)).ownsRow 0 89 3 (.slice (some ⟨g, 0, none⟩) (es.length + 1) cap) (es.length + 1) _ :=
    ownsRow_upd o1 (S := [b]) ((Upd.refl _ _).set (by simp) _) (by rintro k hk; simp at hk; subst hk; rcases k1 with k1 | k1 <;> simp [Value.ownBlock] <;> rintro rfl <;> first | exact h7 k1 | (simp at k1; omega))
  have gb : g ≠ b ∧ g ≠ pb := by
    have := h2.lt
    simp at k1
    rcases k1 with k1 | k1
    · exact ⟨fun e => h7 (by rw [k1, e]), fun e => h8 (by rw [k1, e])⟩
    · constructor <;> omega
  generalize w1.setCell ⟨b, 1, none⟩ (.slice (some ⟨g, 0, none⟩) (es.length + 1) cap) = w2 at *
  clear c0 c1 c2 f1 e1 e2 B1 P1 U1 u1 o1
  have c0 := B2.cell (i := 0) rfl
  have c1 := B2.cell (i := 1) rfl
  have hl2 := hl
  simp only [isLit, decide_eq_true_eq] at hl2
  have cp : w2.cell? ⟨pb, lit.natAbs, none⟩ = some (.int .i32 (pos es lit.natAbs)) := P2.cell (by rw [List.getElem?_append_left (by rw [places_length]; omega)]; exact places_get (by omega))
  have fp := P2.free lit.natAbs
  go_wp2_with fail
  refine wp_region_ord 13 1 [0, 1, 2, 3, 4, 6, 7, 8, 9, 10, 11, 12] [3, 9] [0, 1, 2, 3, 4, 6, 7, 8, 9, 10, 11, 5, 12, 13] (fun w' => ∃ x : Ext w2, w' = x.val) (by kernel_rfl) (by kernel_rfl) (Ext.of (by iterate 25 (first | exact Upd.refl _ _ | assumption | refine Upd.alloc ?_ _ | refine Upd.drew ?_ | refine Upd.drewN ?_ _ | refine Upd.dl ?_ | refine Upd.step ?_ (Ext.upd _) | refine Upd.nil ?_ | skip))) ?_
  repeat (first | (refine wpOrd_load rfl rfl rfl rfl (fun K hK => ?_); go_big_quiet_step (fail); refine wpQuiet_nil ?_; refine hK _ ?_; clear hK K) | (refine wpOrd_free rfl rfl rfl (fun K hK => ?_); go_big_quiet_step (fail); refine wpQuiet_nil ?_; refine hK _ ?_; clear hK K))
  refine wpOrd_fix rfl rfl (fun K hK => ?_)
  go_wp2_with (go_at_call 61; refine (variable_calls _ _ (by omega)).mono ?_; rintro e w' ⟨rfl, rfl⟩)
  refine ⟨fun _ => Ext.of (by iterate 25 (first | exact Upd.refl _ _ | assumption | refine Upd.alloc ?_ _ | refine Upd.drew ?_ | refine Upd.drewN ?_ _ | refine Upd.dl ?_ | refine Upd.step ?_ (Ext.upd _) | refine Upd.nil ?_ | skip)), ?_⟩
  repeat (first | (refine wpOrd_load rfl rfl rfl rfl (fun K hK => ?_); go_big_quiet_step (fail); refine wpQuiet_nil ?_; refine hK _ ?_; clear hK K) | (refine wpOrd_free rfl rfl rfl (fun K hK => ?_); go_big_quiet_step (fail); refine wpQuiet_nil ?_; refine hK _ ?_; clear hK K))
  refine wpOrd_fix rfl rfl (fun K hK => ?_)
  go_wp2_with fail
  refine ⟨fun hC => absurd hC (by decide), ?_⟩
  refine wpOrd_nil ?_
  go_wp2_with fail
  go_end0
  have e3 : (((es.length : Int) + 1) : Int) = ((es.length + 1 : Nat) : Int) := by omega
  rw [e3]
  have B3 := B2.setOther (p := ⟨pb, lit.natAbs, none⟩) (Ne.symm h6) (.int .i32 (es.length + 1 : Nat))
  have P3 := P2.set lit.natAbs (.int .i32 (es.length + 1 : Nat))
  rw [List.set_append_left _ _ (by rw [places_length]; omega), ← places_snoc vars es (lit, reason) hp] at P3
  have U3 := (U2.set (p := ⟨pb, lit.natAbs, none⟩) (by simp) (.int .i32 (es.length + 1 : Nat))).drew
  have O3 := ownsRow_upd O2 (S := [pb]) (((Upd.refl _ w2).set (p := ⟨pb, lit.natAbs, none⟩) (by simp) (.int .i32 (es.length + 1 : Nat))).drew) (by intro k hk; simp at hk; subst hk; simp [Value.ownBlock]; exact gb.2)
  refine ⟨rfl, b :: pb :: [g], ⟨h0.snoc hl hp hr, pb, pcap, _, pad, rfl, B3, P3, h3, h4, ?_, h6, ?_, ?_⟩, U3, ?_⟩
  · rw [rows_snoc, ← HN.out]
    simpa using O3
  · simpa [Value.ownBlock] using gb.1
  · simpa [Value.ownBlock] using gb.2
  · intro k hk
    simp only [List.mem_cons, List.not_mem_nil, or_false] at hk
    rcases hk with rfl | rfl | rfl
    · simp
    · simp
    · rcases k1 with k1 | k1
      · simp [k1]
      · right; simp at k1; omega
end
end Trail
end Go.Proofs.Ytdhhohnaehdpkaa
