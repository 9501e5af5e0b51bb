/- Walks through package trail: Copy. Conditions: none. -/
import Derived.Test.YtlfcabmbakjklaaEnc
import Derived.Test.YtlfcabmbakjklaaLib2
set_option linter.unusedVariables false
set_option linter.unusedSimpArgs false
set_option linter.unusedSectionVars false
open Go.RowKit
namespace Go.Proofs.Ytlfcabmbakjklaa
open L
namespace Trail
/-- A copy of a slice: a new one. -/
def ClonePT (n : Nat) (cs : List Value) (w : World) (e : Ending) (w' : World) : Prop :=
  ∃ a cap, e = .returned (.slice a n cap) ∧ OwnV w 21 1 (.slice a n cap) n cs w' ∧ Upd [] w w'
set_option maxRecDepth 100000 in
set_option maxHeartbeats 1000000 in
theorem CloneP_calls {w : World} {v : Value} {n : Nat} {cs : List Value} (h : SL w 1 v n cs) (h1 : ∀ u ∈ cs, u.oneCell' = true) (hb : n ≤ 4194305) : Calls Try.prog 61 #[v] w (ClonePT n cs w) := by
  obtain ⟨hl, a, cap, rfl, hc, hm, hnil, hcell⟩ := h
  have H : SL w 1 (.slice a n cap) n cs := ⟨hl, a, cap, rfl, hc, hm, hnil, hcell⟩
  have hnl := fun (w : World) (a : Option Addr) (n c : Nat) => Lib.run_eql_slice_nil (P := Try.prog) w 73 _ a n c 0 0 Try.underlying73
  cases a with
  | none =>
    have hc0 : cap = 0 := hnil rfl
    have h0 : n = 0 := by omega
    subst h0
    have hx : cs = [] := List.eq_nil_of_length_eq_zero (by simpa using hl)
    subst hx
    subst hc0
    clear hl hcell H hnil h1
    go_enter Try.func61, Try.ntmps61
    go_wp2_with fail
    go_ret
    exact ⟨none, 0, rfl, OwnV.nil _ _ _ _, Upd.refl _ _⟩
  | some ad =>
    clear hl hcell hnil
    have HH := Lib.hid (And.intro H h1)
    clear H h1
    go_enter Try.func61, Try.ntmps61
    go_upto_region 3 with fail
    refine wp_region_lit ?_
    refine wpList_cutH 2 (fun K hK => ?_)
    simp only [List.take_succ_cons, List.take_zero]
    go_wp2_with fail
    refine Halt_.intro ?_; try simp only [List.drop_succ_cons, List.drop_zero]
    have g0 := owns_none (w := w) rfl 21
    have u0 := (Upd.refl [] w).alloc (.cells #[] 21)
    have H0 := HH.out.1.upd u0 (by simp)
    have hs : (w.alloc (.cells #[] 21)).heap.size = w.heap.size + 1 := by simp
    generalize w.alloc (.cells #[] 21) = w0 at *
    refine wpList_appS rfl _ _ _ rfl 21 1 4 _ Try.underlying73 infoI32 rfl (by decide) (.slice (some ⟨w.heap.size, 0, none⟩) 0 0) 0 [] rfl (owns_blk g0 (by simp) (by unfold maxLen; omega)) (.slice (some ad) n cap) n cs rfl H0 HH.out.2 (by unfold maxLen; omega) (by omega) ?_
    intro a1 cap1 w1 o1 u1 k1
    rw [Nat.zero_add, List.nil_append] at o1
    rw [Nat.zero_add] at k1 ⊢
    simp only [Act.put, List.setIfInBounds_toArray, List.set_cons_zero, List.set_cons_succ]
    have U1 : Upd [] w w1 := u0.fresh u1 (by simp [Value.ownBlock])
    go_wp2_with fail
    go_ret
    refine ⟨a1, cap1, rfl, ⟨o1, fun g hg => ?_⟩, U1⟩
    rcases k1 with k1 | k1 <;> rw [hg] at k1 <;> simp [Value.ownBlock] at k1 <;> omega
/-- A copy of a slice: a new one. -/
def CloneET (n : Nat) (cs : List Value) (w : World) (e : Ending) (w' : World) : Prop :=
  ∃ a cap, e = .returned (.slice a n cap) ∧ OwnV w 79 3 (.slice a n cap) n cs w' ∧ Upd [] w w'
set_option maxRecDepth 100000 in
set_option maxHeartbeats 1000000 in
theorem CloneE_calls {w : World} {v : Value} {n : Nat} {cs : List Value} (h : SL w 3 v n cs) (h1 : ∀ u ∈ cs, u.oneCell' = true) (hb : n ≤ 4194305) : Calls Try.prog 62 #[v] w (CloneET n cs w) := by
  obtain ⟨hl, a, cap, rfl, hc, hm, hnil, hcell⟩ := h
  have H : SL w 3 (.slice a n cap) n cs := ⟨hl, a, cap, rfl, hc, hm, hnil, hcell⟩
  have hnl := fun (w : World) (a : Option Addr) (n c : Nat) => Lib.run_eql_slice_nil (P := Try.prog) w 74 _ a n c 0 0 Try.underlying74
  cases a with
  | none =>
    have hc0 : cap = 0 := hnil rfl
    have h0 : n = 0 := by omega
    subst h0
    have hx : cs = [] := List.eq_nil_of_length_eq_zero (by simpa using hl)
    subst hx
    subst hc0
    clear hl hcell H hnil h1
    go_enter Try.func62, Try.ntmps62
    go_wp2_with fail
    go_ret
    exact ⟨none, 0, rfl, OwnV.nil _ _ _ _, Upd.refl _ _⟩
  | some ad =>
    clear hl hcell hnil
    have HH := Lib.hid (And.intro H h1)
    clear H h1
    go_enter Try.func62, Try.ntmps62
    go_upto_region 3 with fail
    refine wp_region_lit ?_
    refine wpList_cutH 2 (fun K hK => ?_)
    simp only [List.take_succ_cons, List.take_zero]
    go_wp2_with fail
    refine Halt_.intro ?_; try simp only [List.drop_succ_cons, List.drop_zero]
    have g0 := owns_none (w := w) rfl 79
    have u0 := (Upd.refl [] w).alloc (.cells #[] 79)
    have H0 := HH.out.1.upd u0 (by simp)
    have hs : (w.alloc (.cells #[] 79)).heap.size = w.heap.size + 1 := by simp
    generalize w.alloc (.cells #[] 79) = w0 at *
    refine wpList_appS rfl _ _ _ rfl 79 3 24 _ Try.underlying74 infoEntry rfl (by decide) (.slice (some ⟨w.heap.size, 0, none⟩) 0 0) 0 [] rfl (owns_blk g0 (by simp) (by unfold maxLen; omega)) (.slice (some ad) n cap) n cs rfl H0 HH.out.2 (by unfold maxLen; omega) (by omega) ?_
    intro a1 cap1 w1 o1 u1 k1
    rw [Nat.zero_add, List.nil_append] at o1
    rw [Nat.zero_add] at k1 ⊢
    simp only [Act.put, List.setIfInBounds_toArray, List.set_cons_zero, List.set_cons_succ]
    have U1 : Upd [] w w1 := u0.fresh u1 (by simp [Value.ownBlock])
    go_wp2_with fail
    go_ret
    refine ⟨a1, cap1, rfl, ⟨o1, fun g hg => ?_⟩, U1⟩
    rcases k1 with k1 | k1 <;> rw [hg] at k1 <;> simp [Value.ownBlock] at k1 <;> omega
theorem places_one (vs : Nat) (es : Es) : ∀ u ∈ places vs es, u.oneCell' = true := by
  intro u hu
  simp only [places, List.mem_map] at hu
  obtain ⟨_, _, rfl⟩ := hu
  rfl
theorem ents_one (es : Es) (n : Nat) : ∀ u ∈ rows n (ent es), u.oneCell' = true := by
  intro u hu
  simp only [rows, List.mem_flatMap] at hu
  obtain ⟨i, _, hu⟩ := hu
  simp only [ent, List.mem_cons, List.not_mem_nil, or_false] at hu
  rcases hu with rfl | rfl | rfl <;> rfl
section
variable {w : World} {b vars : Nat} {es : Es} {now : Int} {S : List Nat}
def CopyT (vars : Nat) (es : Es) (now : Int) (w : World) (e : Ending) (w' : World) : Prop :=
  ∃ b S, e = .returned (.pointer (some ⟨b, 0, none⟩)) ∧ Tr w' b vars es now S ∧ Upd [] w w' ∧ ∀ j ∈ S, w.heap.size ≤ j
set_option maxRecDepth 100000 in
set_option maxHeartbeats 2000000 in
theorem Copy_calls (h : Tr w b vars es now S) : Calls Try.prog 38 #[.pointer (some ⟨b, 0, none⟩)] w (CopyT vars es now w) := by
  have hv := h.wf.max
  have hlen := h.wf.len
  have HT := Lib.hid h
  obtain ⟨h0, pb, pcap, lv, pad, rfl, B, hp, hpc, hpm, hO, hd⟩ := h
  have c0 := B.cell (i := 0) rfl
  have c1 := B.cell (i := 1) rfl
  have c2 := B.cell (i := 2) rfl
  have SP : SL w 1 (.slice (some ⟨pb, 0, none⟩) (vars + 1) pcap) (vars + 1) (places vars es) := SL.of_blk hp (by simp [places]) (by omega) hpm
  have SE := SL.of_owns hO
  obtain ⟨al, cl, rfl, _⟩ := SE.val
  have HS := Lib.hid (And.intro SP SE)
  clear SP SE B hp hO hd h0
  go_enter Try.func38, Try.ntmps38
  go_wp2_with fail
  refine wp_region_ord 15 3 [0, 1, 2, 3, 5, 6, 7, 8, 10, 11, 12, 13, 14, 16] [3, 8, 13] [0, 1, 2, 3, 5, 6, 7, 8, 10, 11, 12, 13, 4, 9, 14, 15, 16] (fun w' => ∃ x : Ext w, w' = x.val) (by kernel_rfl) (by kernel_rfl) (Ext.of (by iterate 25 (first | exact Upd.refl _ _ | assumption | refine Upd.alloc ?_ _ | refine Upd.drew ?_ | refine Upd.drewN ?_ _ | refine Upd.dl ?_ | refine Upd.step ?_ (Ext.upd _) | refine Upd.nil ?_ | skip))) ?_
  repeat (first | (refine wpOrd_load rfl rfl rfl rfl (fun K hK => ?_); go_big_quiet_step (fail); refine wpQuiet_nil ?_; refine hK _ ?_; clear hK K) | (refine wpOrd_free rfl rfl rfl (fun K hK => ?_); go_big_quiet_step (fail); refine wpQuiet_nil ?_; refine hK _ ?_; clear hK K))
  refine wpOrd_fix rfl rfl (fun K hK => ?_)
  go_wp2_with (go_at_call 61; refine (CloneP_calls (HS.out.1.upd (S := []) (by iterate 25 (first | exact Upd.refl _ _ | assumption | refine Upd.alloc ?_ _ | refine Upd.drew ?_ | refine Upd.drewN ?_ _ | refine Upd.dl ?_ | refine Upd.step ?_ (Ext.upd _) | refine Upd.nil ?_ | skip)) (by simp)) (places_one _ _) (by omega)).mono ?_; rintro e w1 ⟨ap, cp, rfl, op, up⟩)
  have U1 : Upd [] w w1 := Upd.step (by iterate 25 (first | exact Upd.refl _ _ | assumption | refine Upd.alloc ?_ _ | refine Upd.drew ?_ | refine Upd.drewN ?_ _ | refine Upd.dl ?_ | refine Upd.step ?_ (Ext.upd _) | refine Upd.nil ?_ | skip)) up
  have H1 := Lib.hid (And.intro op U1)
  clear op up
  refine ⟨fun _ => Ext.of H1.out.2, ?_⟩
  repeat (first | (refine wpOrd_load rfl rfl rfl rfl (fun K hK => ?_); go_big_quiet_step (fail); refine wpQuiet_nil ?_; refine hK _ ?_; clear hK K) | (refine wpOrd_free rfl rfl rfl (fun K hK => ?_); go_big_quiet_step (fail); refine wpQuiet_nil ?_; refine hK _ ?_; clear hK K))
  refine wpOrd_fix rfl rfl (fun K hK => ?_)
  go_wp2_with (go_at_call 62; refine (CloneE_calls (HS.out.2.upd (S := []) H1.out.2 (by simp)) (ents_one _ _) (by omega)).mono ?_; rintro e w2 ⟨ae, ce, rfl, oe, ue⟩)
  have H2 := Lib.hid (And.intro oe (And.intro (H1.out.2.step ue) ue))
  clear oe ue U1
  refine ⟨fun _ => Ext.of H2.out.2.1, ?_⟩
  repeat (first | (refine wpOrd_load rfl rfl rfl rfl (fun K hK => ?_); go_big_quiet_step (fail); refine wpQuiet_nil ?_; refine hK _ ?_; clear hK K) | (refine wpOrd_free rfl rfl rfl (fun K hK => ?_); go_big_quiet_step (fail); refine wpQuiet_nil ?_; refine hK _ ?_; clear hK K))
  refine wpOrd_fix rfl rfl (fun K hK => ?_)
  go_wp2_with fail
  refine ⟨fun hC => absurd hC (by decide), ?_⟩
  repeat (first | (refine wpOrd_load rfl rfl rfl rfl (fun K hK => ?_); go_big_quiet_step (fail); refine wpQuiet_nil ?_; refine hK _ ?_; clear hK K) | (refine wpOrd_free rfl rfl rfl (fun K hK => ?_); go_big_quiet_step (fail); refine wpQuiet_nil ?_; refine hK _ ?_; clear hK K))
  refine wpOrd_nil ?_
  go_wp2_with fail
  go_ret
  obtain ⟨gp, cp', he, hgp, _⟩ := owns_form H1.out.1.row (show 0 < vars + 1 by omega)
  cases he
  obtain ⟨_, hr⟩ := H1.out.1.row
  rcases hr with ⟨hr, _⟩ | ⟨g', cap', cur, he, _, hcur, hnc, hcm, hcs, htake⟩
  · cases hr
  cases he
  have uB := (Upd.refl [] w2).alloc (.cells #[.slice (some ⟨gp, 0, none⟩) (vars + 1) cp, .slice ae es.length ce, .int .i64 now] 76)
  have hz1 := H1.out.2.size
  have hz2 := H2.out.2.2.size
  have hpf := H1.out.1.fresh gp rfl
  have hef := H2.out.1.fresh
  have hel := H2.out.1.lt
  have BP : Blk w1 gp (places vars es ++ cur.toList.drop (vars + 1)) 21 := by
    unfold Blk
    rw [hcur]
    congr 2
    apply Array.toList_inj.1
    simp only [List.toList_toArray]
    rw [← htake]
    have hpl : (places vars es).length = vars + 1 := places_length vars es
    conv => lhs; rw [← List.take_append_drop (vars + 1) cur.toList]
    congr 1
    rw [Nat.mul_one]
  have hcl : cur.toList.length = cp := by simp; omega
  refine ⟨w2.heap.size, w2.heap.size :: gp :: (Value.slice ae es.length ce).ownBlock.toList, rfl, ⟨HT.out.wf, gp, cp, .slice ae es.length ce, cur.toList.drop (vars + 1), rfl, Blk.new w2 [.slice (some ⟨gp, 0, none⟩) (vars + 1) cp, .slice ae es.length ce, .int .i64 now] 76,
    (BP.upd H2.out.2.2 (by simp)).upd uB (by simp), by rw [List.length_drop, hcl]; omega, hcm, ownsRow_updL H2.out.1.row uB (by simp), by omega, fun h => by have := hel _ h; omega, fun h => by have := hef _ h; omega⟩, H2.out.2.1.step uB, fun j hj => ?_⟩
  simp only [List.mem_cons, Option.mem_toList] at hj
  rcases hj with rfl | rfl | hj
  · have := H2.out.2.1.size; omega
  · exact hpf
  · have := hef j hj; omega
end
end Trail
end Go.Proofs.Ytlfcabmbakjklaa
