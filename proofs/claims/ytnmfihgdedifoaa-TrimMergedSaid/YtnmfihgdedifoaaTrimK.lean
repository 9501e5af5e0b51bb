/- Walks through package trim: Premises. Conditions: none. -/
import Derived.Test.YtnmfihgdedifoaaTrimJ
import Derived.Test.YtnmfihgdedifoaaTrimE
import Derived.Test.YtnmfihgdedifoaaMapS
import Derived.Test.YtnmfihgdedifoaaSortK
set_option linter.unusedVariables false
set_option linter.unusedSimpArgs false
set_option linter.unusedSectionVars false
open Go.RowKit Go.Shelf Go.Maps
namespace Go.Proofs.Ytnmfihgdedifoaa
open L
attribute [local go_sem] Oper.semAt_some
namespace Trim
/-- The name of an assertion that is marked. -/
def asserted (l : List StepD) (u : Nat → Bool) (x : ByteArray) : Prop := ∃ (k : Nat) (st : StepD), l[k]? = some st ∧ u k = true ∧ st.kind = 1 ∧ st.name = x
/-- The names, in order, each once. -/
def PremOf (l : List StepD) (u : Nat → Bool) (R : List ByteArray) : Prop := R.Pairwise (fun x y => x.data.toList < y.data.toList) ∧ ∀ x, x ∈ R ↔ asserted l u x
theorem ascending_eq : ∀ {R R' : List ByteArray}, R.Pairwise (fun x y => x.data.toList < y.data.toList) → R'.Pairwise (fun x y => x.data.toList < y.data.toList) → (∀ x, x ∈ R ↔ x ∈ R') → R = R'
  | [], [], _, _, _ => rfl
  | [], y :: _, _, _, h => absurd ((h y).2 (by simp)) (by simp)
  | x :: _, [], _, _, h => absurd ((h x).1 (by simp)) (by simp)
  | x :: R, y :: R', h1, h2, h => by
    rw [List.pairwise_cons] at h1 h2
    have hxy : x = y := by
      rcases List.mem_cons.1 ((h x).1 (by simp)) with e | e
      · exact e
      · rcases List.mem_cons.1 ((h y).2 (by simp)) with e' | e'
        · exact e'.symm
        · exact absurd (List.lt_trans (h1.1 y e') (h2.1 x e)) (List.lt_irrefl _)
    subst hxy
    congr 1
    refine ascending_eq h1.2 h2.2 (fun z => ?_)
    have hz := h z
    rw [List.mem_cons, List.mem_cons] at hz
    constructor
    · intro hm
      rcases hz.1 (.inr hm) with e | e
      · subst e; exact absurd (h1.1 z hm) (List.lt_irrefl _)
      · exact e
    · intro hm
      rcases hz.2 (.inr hm) with e | e
      · subst e; exact absurd (h2.1 z hm) (List.lt_irrefl _)
      · exact e
theorem PremOf.eq {l : List StepD} {u : Nat → Bool} {R R' : List ByteArray} (h : PremOf l u R) (h' : PremOf l u R') : R = R' := ascending_eq h.1 h'.1 (fun x => (h.2 x).trans (h'.2 x).symm)
theorem asserted_congr {l : List StepD} {u u' : Nat → Bool} (h : ∀ k, k < l.length → u k = u' k) (x : ByteArray) : asserted l u x ↔ asserted l u' x := by
  constructor
  · rintro ⟨k, st, h1, h2, h3⟩; exact ⟨k, st, h1, by rw [← h k (List.getElem?_eq_some_iff.1 h1).1]; exact h2, h3⟩
  · rintro ⟨k, st, h1, h2, h3⟩; exact ⟨k, st, h1, by rw [h k (List.getElem?_eq_some_iff.1 h1).1]; exact h2, h3⟩
/-- The map of the names asserted by the steps come so far. -/
noncomputable def namesM (l : List StepD) (pre : List Nat) : List UInt8 → Option Value := fun x => by classical exact if asserted l (setOf pre) ⟨x.toArray⟩ then some (.bool true) else none
theorem baT (x : ByteArray) : (⟨x.data.toList.toArray⟩ : ByteArray) = x := by cases x; simp
theorem asserted_snoc {l : List StepD} {pre : List Nat} {m : Nat} {st : StepD} (hs : l[m]? = some st) (x : ByteArray) : asserted l (setOf (pre ++ [m])) x ↔ asserted l (setOf pre) x ∨ (st.kind = 1 ∧ st.name = x) := by
  unfold asserted setOf
  constructor
  · rintro ⟨k, s, h1, h2, h3⟩
    rw [List.contains_iff_mem, List.mem_append, List.mem_singleton] at h2
    rcases h2 with h2 | rfl
    · exact .inl ⟨k, s, h1, List.contains_iff_mem.2 h2, h3⟩
    · rw [hs] at h1; cases h1; exact .inr h3
  · rintro (⟨k, s, h1, h2, h3⟩ | h3)
    · exact ⟨k, s, h1, List.contains_iff_mem.2 (List.mem_append_left _ (List.contains_iff_mem.1 h2)), h3⟩
    · exact ⟨m, st, hs, List.contains_iff_mem.2 (by simp), h3⟩
theorem namesM_eq {l : List StepD} {pre pre' : List Nat} {x : List UInt8} (h : asserted l (setOf pre) ⟨x.toArray⟩ ↔ asserted l (setOf pre') ⟨x.toArray⟩) : namesM l pre x = namesM l pre' x := by
  classical
  unfold namesM
  by_cases h1 : asserted l (setOf pre) ⟨x.toArray⟩
  · rw [if_pos h1, if_pos (h.1 h1)]
  · rw [if_neg h1, if_neg (fun h2 => h1 (h.2 h2))]
theorem namesM_some {l : List StepD} {pre : List Nat} {x : List UInt8} : (namesM l pre x).isSome = true ↔ asserted l (setOf pre) ⟨x.toArray⟩ := by
  classical
  unfold namesM
  by_cases h1 : asserted l (setOf pre) ⟨x.toArray⟩
  · rw [if_pos h1]; simp [h1]
  · rw [if_neg h1]; simp [h1]
theorem namesM_other {l : List StepD} {pre : List Nat} {m : Nat} {st : StepD} (hs : l[m]? = some st) (hk : ¬ st.kind = 1) (x : List UInt8) : namesM l pre x = namesM l (pre ++ [m]) x := by
  refine namesM_eq ?_
  rw [asserted_snoc hs]
  exact ⟨.inl, fun h => h.resolve_right (fun h => hk h.1)⟩
theorem namesM_put {l : List StepD} {pre : List Nat} {m : Nat} {st : StepD} (hs : l[m]? = some st) (hk : st.kind = 1) (x : List UInt8) : (if x = st.name.data.toList then some (.bool true) else namesM l pre x) = namesM l (pre ++ [m]) x := by
  by_cases e : x = st.name.data.toList
  · subst e
    classical
    rw [if_pos rfl]
    unfold namesM
    rw [if_pos]
    rw [asserted_snoc hs, baT]
    exact .inr ⟨hk, rfl⟩
  · rw [if_neg e]
    refine namesM_eq ?_
    rw [asserted_snoc hs]
    exact ⟨.inl, fun h => h.resolve_right (fun h => e (by rw [h.2]))⟩
theorem setOf_rests {l : List StepD} (hl : ∀ (i : Nat), ∀ h ∈ hintsOf l i, h < (i : Int)) (s k : Nat) : setOf (visits l (s + 1) (fun k => k == s)) k = rests l s k := by
  have h := visits_mem hl (s + 1) (fun k => k == s) k
  have h2 := down_above hl (s + 1) (fun k => k == s) k
  unfold setOf rests
  cases hd : down l (s + 1) (fun k => k == s) k with
  | true =>
    rw [List.contains_iff_mem]
    refine h.2 ⟨?_, hd⟩
    apply Decidable.byContradiction
    intro hk
    have := h2 (by omega)
    rw [hd] at this
    have : k = s := by simpa using this.symm
    omega
  | false =>
    rw [← Bool.not_eq_true, List.contains_iff_mem]
    intro hm
    have := (h.1 hm).2
    rw [hd] at this; cases this
/-- Sorted keys are the names in order. -/
theorem premOf_sorted {l : List StepD} {pre : List Nat} {ks ss : List (List UInt8)} (hnd : ks.Nodup) (hm : ∀ x, x ∈ ks ↔ (namesM l pre x).isSome = true) (hp : ss.Perm ks) :
    PremOf l (setOf pre) ((ss.mergeSort fun x y => decide (x ≤ y)).map fun x => (⟨x.toArray⟩ : ByteArray)) := by
  have tr : ∀ a b c : List UInt8, leB a b = true → leB b c = true → leB a c = true := fun a b c h1 h2 => by simp only [leB, decide_eq_true_eq] at *; exact List.le_trans h1 h2
  have tot : ∀ a b : List UInt8, (leB a b || leB b a) = true := fun a b => by simp only [leB, Bool.or_eq_true, decide_eq_true_eq]; exact List.le_total a b
  have hs := List.pairwise_mergeSort tr tot ss
  have hpm := List.mergeSort_perm ss leB
  have hn2 : (ss.mergeSort leB).Nodup := (hpm.trans hp).nodup_iff.2 hnd
  refine ⟨?_, fun x => ?_⟩
  · refine List.pairwise_map.2 ?_
    refine (hs.and hn2).imp ?_
    rintro a b ⟨h1, h2⟩
    simp only [leB, decide_eq_true_eq] at h1
    by_cases h3 : a < b
    · simpa using h3
    · exact absurd (List.le_antisymm h1 (List.not_lt.1 h3)) h2
  · rw [List.mem_map]
    constructor
    · rintro ⟨y, hy, rfl⟩
      exact namesM_some.1 ((hm y).1 (hp.mem_iff.1 (hpm.mem_iff.1 hy)))
    · intro h
      refine ⟨x.data.toList, hpm.mem_iff.2 (hp.mem_iff.2 ((hm _).2 (namesM_some.2 ?_))), by simp⟩
      rw [baT]; exact h
theorem ownsRow_low {w : World} {base : Nat} {e : TypeId} {size : Nat} {v : Value} {n : Nat} {xs : List Value} (h : w.ownsRow base e size v n xs) : w.ownsRow 0 e size v n xs := by
  refine ⟨h.1, ?_⟩
  rcases h.2 with hw | ⟨g, cap, cur, rfl, hb, hg, hr⟩
  · exact .inl hw
  · exact .inr ⟨g, cap, cur, rfl, Nat.zero_le _, hg, hr⟩
theorem ownsRow_base {w : World} {base : Nat} {e : TypeId} {size : Nat} {v : Value} {n : Nat} {xs : List Value} (h : w.ownsRow base e size v n xs) {g : Nat} (hg : v.ownBlock = some g) : base ≤ g := by
  rcases h.2 with ⟨rfl, _⟩ | ⟨b, cap, cur, rfl, hb, _⟩
  · simp [Value.ownBlock] at hg
  · simp only [Value.ownBlock, Option.some.injEq] at hg; omega
structure Pm (w : World) (l : List StepD) (pb mb : Nat) (pc : List Value) (pre : List Nat) (W : World) : Prop where
  pbox : Blk W pb pc 30
  box : Blk W (mb + 1) [.map (some mb)] 68
  map : MS Try.prog 9 W mb pre.length (namesM l pre)
  u : Upd [] w W
theorem Pm.upd {w : World} {l : List StepD} {pb mb : Nat} {pc : List Value} {pre : List Nat} {S : List Nat} {A B : World} (hpb : pb < mb) (hmb : w.heap.size ≤ mb) (hS : ∀ k ∈ S, mb + 2 ≤ k) (h : Pm w l pb mb pc pre A) (u : Upd S A B) : Pm w l pb mb pc pre B :=
  ⟨h.pbox.upd u (fun hm => by have := hS _ hm; omega), h.box.upd u (fun hm => by have := hS _ hm; omega), h.map.upd u (fun hm => by have := hS _ hm; omega), h.u.fresh u (fun k hk => .inr (by have := hS k hk; omega))⟩
theorem Pm.own_ {w : World} {l : List StepD} {pb mb : Nat} {pc : List Value} (hpb : pb < mb) (hmb : w.heap.size ≤ mb) : OwnFrom (mb + 4) (Pm w l pb mb pc) := fun s A B row h hg hr =>
  h.upd (S := row.toList) hpb hmb (fun k hk => by have := (hr k (by simpa using hk)).1; omega) ((Upd.refl _ A).grown hg (fun k e => .inl (by simp [e])))
set_option maxRecDepth 100000 in
set_option maxHeartbeats 4000000 in
theorem Prem_good {w : World} {v : Value} {p : PrfD} (h : PrL w v p) (hc : check p = 0) {s : Nat} (hs : s < p.steps.length) :
    Calls Try.prog 13 #[v, .int .i64 s] w fun e w' => ∃ (v' : Value) (R : List ByteArray), e = .returned (.tuple #[v', .int .i64 0]) ∧ NmL w' v' R ∧ PremOf p.steps (rests p.steps s) R ∧ Upd [] w w' := by
  have hwf := wf_check.1 hc
  obtain ⟨vl, vs, rfl, hL, hS⟩ := h
  obtain ⟨al, cl, rfl, ql, rl⟩ := hL.form
  obtain ⟨a2, c2, rfl, qs, rs, hat⟩ := hS.at_
  have HAT := Lib.hid hat
  have hlen := hwf.len
  have HV := Lib.hid (fun (w' : World) (u : Upd [] w w') => show Calls Try.prog 31 #[.agg #[.slice al p.lemmas.length cl, .slice a2 p.steps.length c2]] w' fun e w'' => e = .returned (.int .i64 0) ∧ Upd [] w' w'' from by
    have h := valid_calls (w := w') (p := p) ⟨_, _, rfl, hL.ext u, hS.ext u⟩
    rw [hc] at h; exact h)
  have HS := Lib.hid (And.intro hS hwf)
  clear hL hS hc hwf hat
  have b1 := Blk.new w [.slice al p.lemmas.length cl, .slice a2 p.steps.length c2] 30
  have u1 := (Upd.refl [] w).alloc (.cells #[.slice al p.lemmas.length cl, .slice a2 p.steps.length c2] 30)
  have c0 := b1.cell (i := 0) rfl
  have c1 := b1.cell (i := 1) rfl
  have hb : ((0 : Int) != 0) = false := rfl
  have hs0 : (0 : Int) ≤ s := by omega
  have hs1 : (s : Int) < p.steps.length := by omega
  have hmm := @run_makeMap Try.prog
  refine (callsIn_wide (n := 9)).1 ?_
  refine callsIn_of_wp_marks Try.func13 rfl trivial ?_ rfl
  simp only [Try.ntmps13, List.size_toArray, List.length_cons, List.length_nil, Nat.reduceAdd, Nat.reduceSub, Array.replicate_succ, Array.replicate_zero, List.push_toArray, List.append_toArray, List.nil_append, List.cons_append]
  gi_wp2_with (first | (refine ⟨trivial, ?_⟩; gi_at_call 31; (with_reducible refine (callsIn_wide.2 (HV.out _ u1)).mono ?_); rintro e _ ⟨rfl, u3⟩; obtain ⟨x3, rfl⟩ := Ext.of u3; have d1 := ((x3.upd.alloc (.map #[] 0)).alloc (.cells #[.map (some x3.val.heap.size)] 68)).some c1 (by simp)) | (refine ⟨trivial, ?_⟩; gi_at_call 33; refine (callsIn_wide.2 below_calls).mono ?_; rintro e w' ⟨rfl, rfl⟩))
  have U3 := u1.step x3.upd
  have P3 := b1.upd x3.upd (by simp)
  have hz0 : w.heap.size < x3.val.heap.size := by have := x3.upd.size; simp at this; omega
  clear d1 c0 c1 b1 u1 HV
  generalize x3.val = w3 at *
  have m5 := (MS.new w3 Try.prog 9).upd ((Upd.refl [] _).alloc (.cells #[.map (some w3.heap.size)] 68)) (by simp)
  have b5 := Blk.new (w3.alloc (.map #[] 0)) [.map (some w3.heap.size)] 68
  rw [show (w3.alloc (.map #[] 0)).heap.size = w3.heap.size + 1 by simp] at b5
  have u5 := ((Upd.refl [] w3).alloc (.map #[] 0)).alloc (.cells #[.map (some w3.heap.size)] 68)
  have hz5 : ((w3.alloc (.map #[] 0)).alloc (.cells #[.map (some w3.heap.size)] 68)).heap.size = w3.heap.size + 2 := by simp
  generalize ((w3.alloc (.map #[] 0)).alloc (.cells #[.map (some w3.heap.size)] 68)) = w5 at *
  have b3 := Blk.new w5 [.slice a2 p.steps.length c2] 28
  have b4 := Blk.new (w5.alloc (.cells #[.slice a2 p.steps.length c2] 28)) [.int .i64 s] 3
  have u4 := ((Upd.refl [] w5).alloc (.cells #[.slice a2 p.steps.length c2] 28)).alloc (.cells #[.int .i64 s] 3)
  have b3' := b3.alloc (.cells #[.int .i64 s] 3)
  rw [show (w5.alloc (.cells #[.slice a2 p.steps.length c2] 28)).heap.size = w3.heap.size + 3 by simp; omega] at b4
  rw [hz5] at b3'
  have hz6 : ((w5.alloc (.cells #[.slice a2 p.steps.length c2] 28)).alloc (.cells #[.int .i64 s] 3)).heap.size = w3.heap.size + 4 := by simp; omega
  generalize ((w5.alloc (.cells #[.slice a2 p.steps.length c2] 28)).alloc (.cells #[.int .i64 s] 3)) = w6 at *
  have U6 := (U3.step u5).step u4
  have P6 := (P3.upd u5 (by simp)).upd u4 (by simp)
  have M6 := m5.upd u4 (by simp)
  have B6 := b5.upd u4 (by simp)
  clear b3 m5 b5 u5 u4 P3
  have hpb : w.heap.size < w3.heap.size := hz0
  refine wpIn_rangeU rfl (by omega) (gf := 47) (lb := #[.pointer (some ⟨w3.heap.size + 3, 0, none⟩), .pointer (some ⟨w3.heap.size + 2, 0, none⟩)]) rfl trivial (enters_of Try.func47 (by kernel_rfl) rfl)
    (below1_seq _ (by omega) (w3.heap.size + 3) (w3.heap.size + 2) s [w3.heap.size] (.slice a2 p.steps.length c2) p.steps w w6 HS.out.1 (fun k hk => U6.block k hk (by simp)) U6.size (by simp; omega) (by simp; omega) (by simp) (by simp) hs hlen HS.out.2.hints (b4.cell (i := 0) rfl) (b3'.cell (i := 0) rfl))
    KX.trans (KX.put (Nat.le_refl _)) (fun _ => rfl)
    (fun pre W => Pm w p.steps w.heap.size w3.heap.size [.slice al p.lemmas.length cl, .slice a2 p.steps.length c2] pre W) (by rw [hz6]; exact Pm.own_ hpb (by omega)) (fun pre S A B hS h u => h.upd hpb (by omega) (fun k hk => by have := hS k hk; omega) u) ⟨P6, B6, M6.congr (fun x => by
      have h := namesM_some (l := p.steps) (pre := []) (x := x)
      cases e : namesM p.steps [] x with
      | none => rfl
      | some v =>
        rw [e] at h
        obtain ⟨k, st, _, h2, _⟩ := h.1 rfl
        cases h2), U6⟩ (fun pre x => fun _ _ _ _ h _ _ => h)
    (fun x => { tmps := #[.agg #[.slice al p.lemmas.length cl, .slice a2 p.steps.length c2], .int .i64 s, .pointer (some ⟨w.heap.size, 0, none⟩), undef, .slice none 0 0, .int .i64 0, .int .i64 0, .pointer (some ⟨w3.heap.size + 1, 0, none⟩), .int .i64 x, .agg #[.slice al p.lemmas.length cl, .slice a2 p.steps.length c2], .int .i64 0, .int .i64 0, .bool false, undef, .int .i64 s, .bool (decide ((s : Int) < 0)), .bool (decide ((s : Int) < 0)), .int .i64 s, .pointer (some ⟨w.heap.size, 1, none⟩), .slice a2 p.steps.length c2, .int .i64 p.steps.length, .bool false, .bool (decide ((s : Int) < 0)), .map (some w3.heap.size), .pointer (some ⟨w.heap.size, 1, none⟩), .slice a2 p.steps.length c2, .int .i64 s, .func (.func 47) #[] #[.pointer (some ⟨w3.heap.size + 3, 0, none⟩), .pointer (some ⟨w3.heap.size + 2, 0, none⟩)], .int .i64 x, undef, undef, undef, undef, undef, undef, undef, undef, undef, undef, undef, undef, undef, undef, undef, undef, undef], defers := [] }) ?assign ?body ?done
  case assign =>
    intro lp x W K hK
    gi_wp2
    exact hK
  case body => as_aux_lemma =>
    rintro lp pre x W hB ⟨hxs, hpl⟩
    have hxn : x < p.steps.length := by omega
    have hxi : (x : Int) < p.steps.length := by omega
    have hs' := List.getElem?_eq_getElem hxn
    obtain ⟨g, vp, vl, vh, rfl, hcell, hR⟩ := HAT.out x _ hs'
    generalize p.steps[x] = st at *
    have e0 := hB.u.some (hcell 0 _ rfl) (by simp)
    have e4 := hB.u.some (hcell 4 _ rfl) (by simp)
    rw [Nat.add_zero] at e0
    have c1 := hB.pbox.cell (i := 1) rfl
    have cb := hB.box.cell (i := 0) rfl
    have hnm : st.name.size ≤ maxLen := by have := hR.2.2.2.2.2.2.2.2.2; unfold maxLen; omega
    have HH := Lib.hid (And.intro hB (And.intro hs' hnm))
    clear hB hcell hR hs' hnm
    by_cases hk : st.kind = 1
    · have hb1 : (st.kind == 1) = true := by simp [hk]
      have HK := Lib.hid hk
      clear hk
      obtain ⟨w', hrun, hms, hup⟩ := MS.put (HH.out.1.map.upd ((Upd.refl [] W).drew) (by simp)) Try.underlying9 Try.underlying68 (by unfold maxLen; omega) HH.out.2.2 (.bool true)
      have HM := Lib.hid (And.intro (hms.congr (fun y => namesM_put HH.out.2.1 HK.out y)) hup)
      clear hms hup
      have hu : Upd [w3.heap.size] W w' := ((Upd.refl _ W).drew).trans HM.out.2
      have HQ := Lib.hid (show KeepsFrom w6.heap.size W w' ∧ KX w6.heap.size [w3.heap.size] W w' ∧ Pm w p.steps w.heap.size w3.heap.size [.slice al p.lemmas.length cl, .slice (some ⟨g, 0, none⟩) p.steps.length c2] (pre ++ [x]) w' from by
        refine ⟨keepsFrom_upd hu (fun k hk => ?_), KX.of_upd hu (fun k hk => hk), HH.out.1.pbox.upd hu (by simp; omega), HH.out.1.box.upd hu (by simp), ?_, HH.out.1.u.fresh hu (fun k hk => .inr (by simp at hk; omega))⟩
        · simp only [List.mem_singleton] at hk
          left; omega
        · rw [List.length_append, List.length_singleton]
          exact HM.out.1)
      clear hu
      gi_wp2
      gi_region
      all_goals exact ⟨rfl, HQ.out⟩
    · have hb1 : (st.kind == 1) = false := by simpa using hk
      have HK := Lib.hid hk
      clear hk
      gi_wp2
      refine ⟨KeepsFrom.refl _ _, KX.refl _ _ _, HH.out.1.pbox, HH.out.1.box, ?_, HH.out.1.u⟩
      exact (HH.out.1.map.mono (by simp)).congr (fun y => namesM_other HH.out.2.1 HK.out y)
  case done => as_aux_lemma =>
    rintro D xs W hD rfl hB hK
    have c1 := hB.box.cell (i := 0) rfl
    have HH := Lib.hid (And.intro hB hK)
    clear hB hK
    obtain ⟨Dm, hown, hnd, hmem, hsz⟩ := MS.keys Try.underlying9 HH.out.1.map
    have hlx := visits_length (l := p.steps) (s + 1) (fun k => k == s)
    have HSO := Lib.hid (Try.sortedKeys w3.heap.size _ Dm heldS W hown (by unfold maxLen; omega) (by omega))
    have HKS := Lib.hid (And.intro hnd (And.intro hmem hown.lt))
    clear hown hnd hmem hsz
    gi_wp2_with (first | (refine ⟨trivial, ?_⟩; gi_at_call 35; refine (callsIn_wide.2 (Try.mapsKeys _ _)).mono ?_; rintro e w' ⟨rfl, rfl⟩) | (refine ⟨trivial, ?_⟩; gi_at_call 34; (with_reducible refine (callsIn_wide.2 HSO.out).mono ?_); rintro e w' ⟨v9, ss, rfl, hperm, hrow, hnil, hbel⟩))
    have hPO := premOf_sorted HKS.out.1 HKS.out.2.1 hperm
    have hln : (List.map (fun x => (⟨x.toArray⟩ : ByteArray)) (ss.mergeSort fun x y => decide (x ≤ y))).length = ss.length := by rw [List.length_map, List.length_mergeSort]
    have hst : strs (List.map (fun x => (⟨x.toArray⟩ : ByteArray)) (ss.mergeSort fun x y => decide (x ≤ y))) = List.map encStr (ss.mergeSort fun x y => decide (x ≤ y)) := by unfold strs; rw [List.map_map]; rfl
    rw [← hln, ← hst] at hrow
    generalize (List.map (fun x => (⟨x.toArray⟩ : ByteArray)) (ss.mergeSort fun x y => decide (x ≤ y))) = R at *
    have u9 := ((Upd.refl [] W).alloc (.cells #[.map (some w3.heap.size)] 68)).step (Upd.of_below hbel)
    have hDl := (Array.getElem?_eq_some_iff.1 HH.out.2).1
    have hK9 := (u9.block D hDl (by simp)).trans HH.out.2
    have uo : Upd [D] w' (w'.putObj D (.deferred none)) := (Upd.refl [D] w').grown (grownBy_putObj' _ D _) (fun k e => by cases e; simp)
    refine ⟨by simp, .inl ⟨_, _, rfl, run_takeDeferred hK9, ?_⟩⟩
    refine ⟨_, results_tmp2 rfl _ _ _, v9, R, rfl, ?_, ⟨hPO.1, fun x => (hPO.2 x).trans (asserted_congr (fun k _ => setOf_rests (fun i h hm => (hints_lt HS.out.2 i h hm).2) s k) x)⟩, (HH.out.1.u.step u9).fresh uo (fun k hk => .inr (by simp at hk; omega))⟩
    refine ownsRow_updL (ownsRow_low hrow) uo (fun k hk h => ?_)
    have := ownsRow_base hrow h
    simp at hk this
    omega
end Trim
end Go.Proofs.Ytnmfihgdedifoaa
