/- Walks through package trim: uses, Uses. Conditions: none. -/
import Derived.Test.YtnmfihgdedifoaaTrimI
set_option linter.unusedVariables false
set_option linter.unusedSimpArgs false
set_option linter.unusedSectionVars false
open Go.RowKit Go.Shelf
namespace Go.Proofs.Ytnmfihgdedifoaa
open L
attribute [local go_sem] Oper.semAt_some
namespace Trim
/-- On which steps the last one rests. -/
def lastOn (l : List StepD) : Nat → Bool := down l l.length (fun k => decide ((k : Int) = (l.length : Int) - 1))
/-- The marks set so far. -/
def setOf (pre : List Nat) : Nat → Bool := fun k => pre.contains k
theorem setOf_snoc (pre : List Nat) (x : Nat) : (fun j => setOf pre j || j == x) = setOf (pre ++ [x]) := by
  funext j
  unfold setOf
  rw [List.contains_eq_any_beq, List.contains_eq_any_beq, List.any_append]
  simp
theorem setOf_visits {l : List StepD} (hh : ∀ (i : Nat) (st : StepD), l[i]? = some st → ∀ h ∈ st.hints, 0 ≤ h ∧ h < (i : Int)) (hn : 0 < l.length) : ∀ k, k < l.length → setOf (visits l (l.length - 1 + 1) (fun k => k == l.length - 1)) k = lastOn l k := by
  intro k hk
  have hl : ∀ (i : Nat), ∀ h ∈ hintsOf l i, h < (i : Int) := fun i h hm => by
    unfold hintsOf at hm
    cases e : l[i]? with
    | none => rw [e] at hm; cases hm
    | some st => rw [e] at hm; exact (hh i st e h hm).2
  have e1 : (fun k : Nat => k == l.length - 1) = fun k : Nat => decide ((k : Int) = (l.length : Int) - 1) := by
    funext j
    by_cases h : j = l.length - 1
    · have : (j : Int) = (l.length : Int) - 1 := by omega
      simp [h]; omega
    · have : ¬ (j : Int) = (l.length : Int) - 1 := by omega
      simp [h, this]
  have e2 : l.length - 1 + 1 = l.length := by omega
  rw [e2, e1]
  unfold setOf lastOn
  have h := visits_mem hl l.length (fun k => decide ((k : Int) = (l.length : Int) - 1)) k
  cases hd : down l l.length (fun k => decide ((k : Int) = (l.length : Int) - 1)) k with
  | true => rw [List.contains_iff_mem]; exact h.2 ⟨hk, hd⟩
  | false =>
    rw [← Bool.not_eq_true, List.contains_iff_mem]
    intro hm
    have := (h.1 hm).2
    rw [hd] at this; cases this
/-- What lies between two rounds. -/
structure Us (w : World) (n : Nat) (pre : List Nat) (W : World) : Prop where
  row : Blk W w.heap.size (bools (tab n (setOf pre))) 4
  box : Blk W (w.heap.size + 1) [.slice (some ⟨w.heap.size, 0, none⟩) n n] 31
  u : Upd [] w W
theorem Us.upd {w : World} {n : Nat} {pre : List Nat} {S : List Nat} {A B : World} (hS : ∀ k ∈ S, w.heap.size + 4 ≤ k) (h : Us w n pre A) (u : Upd S A B) : Us w n pre B :=
  ⟨h.row.upd u (fun hm => by have := hS _ hm; omega), h.box.upd u (fun hm => by have := hS _ hm; omega), h.u.fresh u (fun k hk => .inr (by have := hS k hk; omega))⟩
theorem Us.own_ {w : World} {n : Nat} : OwnFrom (w.heap.size + 4) (Us w n) := fun s A B row h hg hr =>
  h.upd (S := row.toList) (fun k hk => (hr k (by simpa using hk)).1) ((Upd.refl _ A).grown hg (fun k e => .inl (by simp [e])))
set_option maxRecDepth 100000 in
set_option maxHeartbeats 4000000 in
theorem uses_calls {w : World} {v : Value} {l : List StepD} (hS : StL w v l) (hlen : l.length ≤ 1048576) (hh : ∀ (i : Nat) (st : StepD), l[i]? = some st → ∀ h ∈ st.hints, 0 ≤ h ∧ h < (i : Int)) :
    Calls Try.prog 32 #[v] w fun e w' => ∃ g, e = .returned (.slice (some ⟨g, 0, none⟩) l.length l.length) ∧ Blk w' g (bools (tab l.length (lastOn l))) 4 ∧ w.heap.size ≤ g ∧ Upd [] w w' := by
  obtain ⟨a, cap, rfl, q1, r1, _⟩ := hS.at_
  by_cases hn0 : l.length = 0
  · rw [hn0] at hS q1 ⊢
    have hz : bools (tab 0 (lastOn l)) = [] := rfl
    have hb : ((0 : Int) == 0) = true := rfl
    clear hh hlen hS
    rw [hz]
    have b1 := Blk.new w [] 4
    have u1 := (Upd.refl [] w).alloc (.cells #[] 4)
    have b2 := b1.alloc (.cells #[.slice (some ⟨w.heap.size, 0, none⟩) 0 0] 31)
    have u2 := u1.alloc (.cells #[.slice (some ⟨w.heap.size, 0, none⟩) 0 0] 31)
    have HB := Lib.hid (And.intro b2 u2)
    clear b1 b2 u1 u2
    go_enter Try.func32, Try.ntmps32
    go_wp2_with (refine wpList_mk rfl _ _ _ rfl 4 1 1 _ Try.underlying31 infoBool rfl (by decide) _ _ _ _ 0 rfl rfl rfl rfl (by omega) (by omega) ?_; change wpList _ _ _ _ _ (w.alloc (.cells #[] 4)))
    go_ret
    exact ⟨w.heap.size, rfl, HB.out.1, Nat.le_refl _, HB.out.2⟩
  · have hpos : 0 < l.length := by omega
    have hb : ((l.length : Int) == 0) = false := beq_eq_false_iff_ne.2 (by omega)
    have HS := Lib.hid (And.intro hS hh)
    clear hS hh hn0
    have b1 := Blk.new w (bools (tab l.length fun _ => false)) 4
    have b2 := Blk.new (w.alloc (.cells (bools (tab l.length fun _ => false)).toArray 4)) [.slice (some ⟨w.heap.size, 0, none⟩) l.length l.length] 31
    have u1 := (Upd.refl [] w).alloc (.cells (bools (tab l.length fun _ => false)).toArray 4)
    rw [show (w.alloc (.cells (bools (tab l.length fun _ => false)).toArray 4)).heap.size = w.heap.size + 1 by simp] at b2
    have HB := Lib.hid (And.intro b1 (And.intro b2 u1))
    clear b1 b2 u1
    refine (callsIn_wide (n := 9)).1 ?_
    refine callsIn_of_wp_marks Try.func32 rfl trivial ?_ rfl
    simp only [Try.ntmps32, List.size_toArray, List.length_cons, List.length_nil, Nat.reduceAdd, Nat.reduceSub, Array.replicate_succ, Array.replicate_zero, List.push_toArray, List.append_toArray, List.nil_append, List.cons_append]
    gi_wp2_with (first | (refine ⟨trivial, ?_⟩; gi_at_call 33; refine (callsIn_wide.2 below_calls).mono ?_; rintro e w' ⟨rfl, rfl⟩) | (refine wpListIn_mk rfl _ _ _ rfl 4 1 1 _ Try.underlying31 infoBool rfl (by decide) _ _ _ _ l.length rfl rfl rfl rfl (by omega) (by omega) ?_; change wpListIn _ _ _ _ _ _ _ (w.alloc (.cells (rows l.length fun _ => [.bool false]).toArray 4)); rw [← tab_false]))
    obtain ⟨b1, b2, u1⟩ := HB.out
    have hz1 : (w.alloc (.cells (bools (tab l.length fun _ => false)).toArray 4)).heap.size = w.heap.size + 1 := by simp
    have hzz : (((((w.alloc (.cells (bools (tab l.length fun _ => false)).toArray 4)).alloc (.cells #[.slice (some ⟨w.heap.size, 0, none⟩) l.length l.length] 31)).alloc (.cells #[.slice a l.length cap] 28)).alloc (.cells #[.int .i64 ((l.length : Int) - 1)] 3))).heap.size = w.heap.size + 4 := by simp
    have u2 := (u1.alloc (.cells #[.slice (some ⟨w.heap.size, 0, none⟩) l.length l.length] 31))
    have hz2 : ((w.alloc (.cells (bools (tab l.length fun _ => false)).toArray 4)).alloc (.cells #[.slice (some ⟨w.heap.size, 0, none⟩) l.length l.length] 31)).heap.size = w.heap.size + 2 := by simp
    have b1' := b1.alloc (.cells #[.slice (some ⟨w.heap.size, 0, none⟩) l.length l.length] 31)
    generalize ((w.alloc (.cells (bools (tab l.length fun _ => false)).toArray 4)).alloc (.cells #[.slice (some ⟨w.heap.size, 0, none⟩) l.length l.length] 31)) = w2 at *
    clear b1 u1 hz1 HB
    have b3 := Blk.new w2 [.slice a l.length cap] 28
    have b4 := Blk.new (w2.alloc (.cells #[.slice a l.length cap] 28)) [.int .i64 ((l.length : Int) - 1)] 3
    have u4 := ((Upd.refl [] w2).alloc (.cells #[.slice a l.length cap] 28)).alloc (.cells #[.int .i64 ((l.length : Int) - 1)] 3)
    have b3' := b3.alloc (.cells #[.int .i64 ((l.length : Int) - 1)] 3)
    rw [show (w2.alloc (.cells #[.slice a l.length cap] 28)).heap.size = w.heap.size + 3 by simp; omega] at b4
    rw [hz2] at b3'
    generalize ((w2.alloc (.cells #[.slice a l.length cap] 28)).alloc (.cells #[.int .i64 ((l.length : Int) - 1)] 3)) = w4 at *
    have b1'' := b1'.upd u4 (by simp)
    have b2'' := b2.upd u4 (by simp)
    have U4 := u2.step u4
    clear b3 b1' b2 u2 u4
    have hpi : (l.length : Int) - 1 = ((l.length - 1 : Nat) : Int) := by omega
    rw [hpi] at b4 ⊢
    refine wpIn_rangeU rfl (by omega) (gf := 47) (lb := #[.pointer (some ⟨w.heap.size + 3, 0, none⟩), .pointer (some ⟨w.heap.size + 2, 0, none⟩)]) rfl trivial (enters_of Try.func47 (by kernel_rfl) rfl)
      (below1_seq _ (by omega) (w.heap.size + 3) (w.heap.size + 2) (l.length - 1) [w.heap.size] (.slice a l.length cap) l w w4 HS.out.1 (fun k hk => U4.block k hk (by simp)) U4.size (by simp) (by simp; omega) (by simp) (by simp) (by omega) hlen HS.out.2 (b4.cell (i := 0) rfl) (b3'.cell (i := 0) rfl))
      KX.trans (KX.put (Nat.le_refl _)) (fun _ => rfl)
      (fun pre W => Us w l.length pre W) (by rw [hzz]; exact Us.own_) (fun pre S A B hS h u => h.upd (fun k hk => by have := hS k hk; omega) u) ⟨show Blk w4 w.heap.size (bools (tab l.length (setOf []))) 4 from b1'', b2'', U4⟩ (fun pre x => fun _ _ _ _ h _ _ => h)
      (fun x => { tmps := #[.slice a l.length cap, undef, .slice none 0 0, .pointer (some ⟨w.heap.size + 1, 0, none⟩), .int .i64 x, .slice a l.length cap, .int .i64 l.length, .slice (some ⟨w.heap.size, 0, none⟩) l.length l.length, .slice a l.length cap, .int .i64 l.length, .bool false, undef, .slice a l.length cap, .slice a l.length cap, .int .i64 l.length, .int .i64 ((l.length - 1 : Nat) : Int), .func (.func 47) #[] #[.pointer (some ⟨w.heap.size + 3, 0, none⟩), .pointer (some ⟨w.heap.size + 2, 0, none⟩)], .int .i64 x, undef, undef, undef, undef], defers := [] }) ?assign ?body ?done
    case assign =>
      intro lp x W K hK
      gi_wp2
      exact hK
    case body => as_aux_lemma =>
      rintro lp pre x W hB hA
      have c1 := hB.box.cell (i := 0) rfl
      have hx : x < l.length := by have := hA.1; omega
      have hxi : (x : Int) < l.length := by omega
      have d1 := hB.row.cell (i := x) (bools_get (tab_get hx))
      have f1 := hB.row.free x
      have hR := hB.row.set x (.bool true)
      rw [tab_set hx, setOf_snoc] at hR
      have us : Upd [w.heap.size] W (W.setCell ⟨w.heap.size, x, none⟩ (.bool true)) := (Upd.refl _ W).set (.inl (by simp)) _
      have HH := Lib.hid (And.intro hB (And.intro hR us))
      clear hB hR us
      gi_wp2
      refine ⟨keepsFrom_upd HH.out.2.2 (fun k hk => ?_), KX.of_upd HH.out.2.2 (fun k hk => hk), HH.out.2.1, HH.out.1.box.upd HH.out.2.2 (by simp), HH.out.1.u.fresh HH.out.2.2 (fun k hk => .inr (by simp at hk; omega))⟩
      simp only [List.mem_singleton] at hk
      left; omega
    case done => as_aux_lemma =>
      rintro D xs W hD rfl hB hK
      have c1 := hB.box.cell (i := 0) rfl
      have HH := Lib.hid (And.intro hB hK)
      clear hB hK
      gi_wp2
      have hDl := (Array.getElem?_eq_some_iff.1 HH.out.2).1
      have uo : Upd [D] W (W.putObj D (.deferred none)) := (Upd.refl [D] W).grown (grownBy_putObj' _ D _) (fun k e => by cases e; simp)
      have hUs := HH.out.1.upd (S := [D]) (by simp; omega) uo
      have hrow := hUs.row
      rw [show tab l.length (setOf (visits l (l.length - 1 + 1) fun k => k == l.length - 1)) = tab l.length (lastOn l) from tab_congr (setOf_visits HS.out.2 hpos)] at hrow
      refine ⟨by simp, .inl ⟨_, _, rfl, run_takeDeferred HH.out.2, ?_⟩⟩
      exact ⟨_, results_tmp rfl _ _ _, w.heap.size, rfl, hrow, Nat.le_refl _, hUs.u⟩
theorem Wf.hints {p : PrfD} (h : Wf p) : ∀ (i : Nat) (st : StepD), p.steps[i]? = some st → ∀ x ∈ st.hints, 0 ≤ x ∧ x < (i : Int) := h.hint
set_option maxRecDepth 100000 in
set_option maxHeartbeats 4000000 in
theorem Uses_good {w : World} {v : Value} {p : PrfD} (h : PrL w v p) (hc : check p = 0) :
    Calls Try.prog 11 #[v] w fun e w' => ∃ g, e = .returned (.tuple #[.slice (some ⟨g, 0, none⟩) p.steps.length p.steps.length, .int .i64 0]) ∧ Blk w' g (bools (tab p.steps.length (lastOn p.steps))) 4 ∧ w.heap.size ≤ g ∧ Upd [] w w' := by
  have hwf := wf_check.1 hc
  obtain ⟨vl, vs, rfl, hL, hS⟩ := h
  obtain ⟨al, cl, rfl, ql, rl⟩ := hL.form
  obtain ⟨a2, c2, rfl, qs, rs, _⟩ := hS.at_
  have HV := Lib.hid (fun (w' : World) (u : Upd [] w w') => show Calls Try.prog 31 #[.agg #[.slice al p.lemmas.length cl, .slice a2 p.steps.length c2]] w' fun e w'' => e = .returned (.int .i64 0) ∧ Upd [] w' w'' from by
    have h := valid_calls (w := w') (p := p) ⟨_, _, rfl, hL.ext u, hS.ext u⟩
    rw [hc] at h; exact h)
  have HU := Lib.hid (fun (w' : World) (u : Upd [] w w') => uses_calls (hS.ext u) hwf.len hwf.hints)
  clear hL hS hc hwf
  have b1 := Blk.new w [.slice al p.lemmas.length cl, .slice a2 p.steps.length c2] 30
  have u1 := (Upd.refl [] w).alloc (.cells #[.slice al p.lemmas.length cl, .slice a2 p.steps.length c2] 30)
  have c0 := b1.cell (i := 0) rfl
  have c1 := b1.cell (i := 1) rfl
  have hb : ((0 : Int) != 0) = false := rfl
  go_enter Try.func11, Try.ntmps11
  go_wp2_with (first | (go_at_call 31; (with_reducible refine (HV.out _ u1).mono ?_); rintro e _ ⟨rfl, u3⟩; obtain ⟨x3, rfl⟩ := Ext.of u3) | (go_at_call 32; (with_reducible refine (HU.out _ (u1.step x3.upd)).mono ?_); rintro e w4 ⟨g, rfl, hB4, hg4, u4⟩))
  go_ret2
  have hsz := (u1.step x3.upd).size
  exact ⟨g, rfl, hB4, by omega, (u1.step x3.upd).step u4⟩
set_option maxRecDepth 100000 in
set_option maxHeartbeats 4000000 in
theorem Uses_bad {w : World} {v : Value} {p : PrfD} (h : PrL w v p) (hc : check p ≠ 0) :
    Calls Try.prog 11 #[v] w fun e w' => e = .returned (.tuple #[.slice none 0 0, .int .i64 (check p)]) ∧ Upd [] w w' := by
  obtain ⟨vl, vs, rfl, hL, hS⟩ := h
  obtain ⟨al, cl, rfl, ql, rl⟩ := hL.form
  obtain ⟨a2, c2, rfl, qs, rs, _⟩ := hS.at_
  have HV := Lib.hid (fun (w' : World) (u : Upd [] w w') => valid_calls (w := w') (p := p) ⟨_, _, rfl, hL.ext u, hS.ext u⟩)
  have hb : (check p != 0) = true := by simpa using hc
  generalize check p = z at *
  clear hL hS hc
  have b1 := Blk.new w [.slice al p.lemmas.length cl, .slice a2 p.steps.length c2] 30
  have u1 := (Upd.refl [] w).alloc (.cells #[.slice al p.lemmas.length cl, .slice a2 p.steps.length c2] 30)
  have c0 := b1.cell (i := 0) rfl
  have c1 := b1.cell (i := 1) rfl
  go_enter Try.func11, Try.ntmps11
  go_wp2_with (first | (go_at_call 31; (with_reducible refine (HV.out _ u1).mono ?_); rintro e _ ⟨rfl, u3⟩; obtain ⟨x3, rfl⟩ := Ext.of u3))
  go_ret2
  exact ⟨rfl, u1.step x3.upd⟩
end Trim
end Go.Proofs.Ytnmfihgdedifoaa
