/- Walks through package trim: the iterator of the steps below, uses, Uses. Conditions: none. -/
import Derived.Test.YtnmfihgdedifoaaTrimC
import Derived.Test.YtnmfihgdedifoaaRangeU
set_option linter.unusedVariables false
set_option linter.unusedSimpArgs false
set_option linter.unusedSectionVars false
open Go.RowKit Go.Shelf
namespace Go.Proofs.Ytnmfihgdedifoaa
open L
attribute [local go_sem] Oper.semAt_some
namespace Trim
theorem below_calls {w : World} {a : Option Addr} {len cap : Nat} {s : Int} : Calls Try.prog 33 #[.slice a len cap, .int .i64 s] w fun e w' => e = .returned (.func (.func 47) #[] #[.pointer (some ⟨w.heap.size + 1, 0, none⟩), .pointer (some ⟨w.heap.size, 0, none⟩)]) ∧ w' = (w.alloc (.cells #[.slice a len cap] 28)).alloc (.cells #[.int .i64 s] 3) := by
  go_enter Try.func33, Try.ntmps33
  go_wp2_with fail
  go_ret
  exact ⟨by simp, rfl⟩
theorem cell_old {w0 W : World} {p : Addr} {u : Value} (h : ∀ k, k < w0.heap.size → W.heap[k]? = w0.heap[k]?) (hc : w0.cell? p = some u) : W.cell? p = some u :=
  (World.cell?_of_block (w := w0) (h p.block (World.block_lt_of_cell? w0 p hc))).trans hc
theorem mark_true {l : List StepD} {m : Nat} {u : Nat → Bool} (h : u m = true) : mark l m u = fun k => u k || (hintsOf l m).contains (k : Int) := by unfold mark; rw [if_pos h]
theorem mark_false {l : List StepD} {m : Nat} {u : Nat → Bool} (h : u m = false) : mark l m u = u := by unfold mark; rw [if_neg (by rw [h]; simp)]
theorem visits_true {l : List StepD} {m : Nat} {u : Nat → Bool} (h : u m = true) : visits l (m + 1) u = m :: visits l m (mark l m u) := by rw [visits, if_pos h]; rfl
theorem visits_false {l : List StepD} {m : Nat} {u : Nat → Bool} (h : u m = false) : visits l (m + 1) u = visits l m u := by rw [visits, if_neg (by rw [h]; simp), mark_false h]; rfl
theorem visits_length {l : List StepD} : ∀ (n : Nat) (u : Nat → Bool), (visits l n u).length ≤ n
  | 0, _ => by simp [visits]
  | n + 1, u => by
    have h := visits_length (l := l) n (mark l n u)
    rw [visits, List.length_append]
    split <;> simp <;> omega
/-- One more hint marked. -/
theorem tab_hint {n t yn : Nat} {u : Nat → Bool} {h : List Int} (hyn : yn < n) (hg : h[t]? = some (yn : Int)) : (bools (tab n fun j => u j || (h.take t).contains (j : Int))).set yn (.bool true) = bools (tab n fun j => u j || (h.take (t + 1)).contains (j : Int)) := by
  rw [tab_set hyn]
  congr 1
  refine tab_congr (fun j _ => ?_)
  rw [List.take_add_one, hg, Option.toList_some, List.contains_eq_any_beq, List.contains_eq_any_beq, List.any_append, Bool.or_assoc]
  congr 1
  congr 1
  by_cases e : j = yn
  · subst e; simp
  · have e2 : (j : Int) ≠ (yn : Int) := by omega
    show (j == yn) = (((j : Int) == (yn : Int)) || false)
    rw [beq_eq_false_iff_ne.2 e, beq_eq_false_iff_ne.2 e2]
    rfl
set_option maxRecDepth 100000 in
set_option maxHeartbeats 4000000 in
theorem below1_seq (nn : Nat) (hnn : 1 ≤ nn) (Bs Bl s : Nat) (M : List Nat) (v : Value) (l : List StepD) (w0 w : World) (hS : StL w0 v l) (h0 : ∀ k, k < w0.heap.size → w.heap[k]? = w0.heap[k]?) (hz0 : w0.heap.size ≤ w.heap.size) (hM : ∀ k ∈ M, w0.heap.size ≤ k) (hMw : ∀ k ∈ M, k < w.heap.size)
    (hBs : Bs ∉ M) (hBl : Bl ∉ M) (hs : s < l.length) (hlen : l.length ≤ 1048576) (hh : ∀ (i : Nat) (st : StepD), l[i]? = some st → ∀ h ∈ st.hints, 0 ≤ h ∧ h < (i : Int)) (cs : w.cell? ⟨Bs, 0, none⟩ = some (.int .i64 s)) (cl : w.cell? ⟨Bl, 0, none⟩ = some v) :
    SeqU Fence.wide nn Try.prog 47 #[.pointer (some ⟨Bs, 0, none⟩), .pointer (some ⟨Bl, 0, none⟩)] (fun x : Nat => #[.int .i64 x]) (KX w.heap.size M) (fun pre x _ => x ≤ s ∧ pre.length ≤ 2000000) (fun xs => xs = visits l (s + 1) (fun k => k == s)) w := fun lp J W hW _ hJu hY hJ0 => by
  obtain ⟨a, cap, rfl, q1, r1, hat⟩ := hS.at_
  have HAT := Lib.hid hat
  have HH := Lib.hid hh
  have hbs := World.block_lt_of_cell? _ _ cs
  have hbl := World.block_lt_of_cell? _ _ cl
  have hzW := hW.size
  have cs0 := cell_old (W := W) (fun k hk => hW.block k hk) cs
  have cl0 := cell_old (W := W) (fun k hk => hW.block k hk) cl
  have hold : ∀ k, k < w0.heap.size → W.heap[k]? = w0.heap[k]? := fun k hk => (hW.block k (by omega)).trans (h0 k hk)
  have HOLD := Lib.hid hold
  clear hS hat hh h0 hW hold
  have hsi : (s : Int) < l.length := by omega
  refine callsIn_of_wp Try.func47 rfl trivial ?_ rfl
  simp only [Try.ntmps47, List.size_toArray, List.length_cons, List.length_nil, Nat.reduceAdd, Nat.reduceSub, Array.replicate_succ, Array.replicate_zero, List.push_toArray, List.append_toArray, List.nil_append, List.cons_append]
  have bS := Blk.new W ((bools (tab (s + 1) fun _ => false)).set s (.bool true)) 4
  have uS := (Upd.refl [] W).alloc (.cells ((bools (tab (s + 1) fun _ => false)).set s (.bool true)).toArray 4)
  have cs1 := uS.some cs0 (by simp)
  have cl1 := uS.some cl0 (by simp)
  have bU := Blk.new W (bools (tab (s + 1) fun _ => false)) 4
  have uU := (Upd.refl [] W).alloc (.cells (bools (tab (s + 1) fun _ => false)).toArray 4)
  have cs2 := uU.some cs0 (by simp)
  have dU := bU.cell (i := s) (bools_get (tab_get (show s < s + 1 by omega)))
  have fU := bU.free s
  have HU := Lib.hid (And.intro bS (And.intro uS (show (W.alloc (.cells ((bools (tab (s + 1) fun _ => false)).set s (.bool true)).toArray 4)).heap.size = W.heap.size + 1 by simp)))
  clear bS uS bU uU
  gi_wp2_with (refine wpListIn_mk rfl _ _ _ rfl 4 1 1 _ Try.underlying31 infoBool rfl (by decide) _ _ _ _ (s + 1) rfl rfl (by omega) (by omega) (by omega) (by omega) ?_; change wpListIn _ _ _ _ _ _ _ (W.alloc (.cells (rows (s + 1) fun _ => [.bool false]).toArray 4)); rw [← tab_false])
  obtain ⟨bS, uS, hz2⟩ := HU.out
  rw [tab_set (show s < s + 1 by omega)] at bS uS hz2 ⊢
  generalize (W.alloc (.cells (bools (tab (s + 1) fun j => false || j == s)).toArray 4)) = w2 at *
  have H2 := Lib.hid (And.intro (show [] ++ visits l (s + 1) (fun k => k == s) = visits l (s + 1) (fun k => k == s) from rfl) (And.intro (hJu [] [] W w2 (by simp) hJ0 uS) (And.intro (show Blk w2 W.heap.size (bools (tab (s + 1) fun k => k == s)) 4 by simpa using bS)
    (And.intro (show w2.cell? ⟨Bs, 0, none⟩ = _ from uS.some cs0 (by simp)) (And.intro (show w2.cell? ⟨Bl, 0, none⟩ = _ from uS.some cl0 (by simp)) (And.intro (show ∀ k, k < w0.heap.size → w2.heap[k]? = w0.heap[k]? from fun k hk => (uS.block k (by omega) (by simp)).trans (HOLD.out k hk)) (show W.heap.size + 1 ≤ w2.heap.size by omega)))))))
  clear bS uS hz2 HU dU fU hJ0 cs0 cl0 cs1 cl1 cs2
  gi_loopw [5] (fun i wr => ∃ (m : Nat) (x : Int) (u : Nat → Bool) (pre : List Nat), i = .int .i64 x ∧ x + 1 = (m : Int) ∧ m ≤ s + 1 ∧ pre ++ visits l m u = visits l (s + 1) (fun k => k == s) ∧ J pre wr ∧ Blk wr W.heap.size (bools (tab (s + 1) u)) 4 ∧ wr.cell? ⟨Bs, 0, none⟩ = some (.int .i64 s) ∧ wr.cell? ⟨Bl, 0, none⟩ = some (.slice a l.length cap) ∧ (∀ k, k < w0.heap.size → wr.heap[k]? = w0.heap[k]?) ∧ W.heap.size + 1 ≤ wr.heap.size) (fun i _ => (intOf i + 1).toNat)
  case atStart => exact ⟨s + 1, (s : Int), _, [], rfl, by omega, Nat.le_refl _, H2.out⟩
  case round =>
    obtain ⟨wo, rfl⟩ : ∃ wo : World, wo = wr := ⟨_, rfl⟩
    obtain ⟨m, x, u, pre, rfl, hx, hm, hv, hJ, hB, hc1, hc2, hO, hz⟩ := hrel
    have HD := Lib.hid (And.intro hv (And.intro hJ (And.intro hB (And.intro hO hz))))
    clear H2 HOLD
    cases m with
    | zero =>
      obtain rfl : x = -1 := by omega
      clear hv hJ hB hO
      gi_wp2
      go_end0
      refine ⟨⟨_, rfl⟩, pre, ?_, HD.out.2.1⟩
      have h := HD.out.1
      rw [visits, List.append_nil] at h
      exact h
    | succ m =>
      obtain rfl : x = (m : Int) := by omega
      clear hx
      have hml : m < l.length := by omega
      have hs' := List.getElem?_eq_getElem hml
      obtain ⟨g, vp, vl, vh, rfl, hcell, hR⟩ := HAT.out m _ hs'
      generalize l[m] = st at *
      have hho : hintsOf l m = st.hints := by unfold hintsOf; rw [hs']
      have hmi : (m : Int) < l.length := by omega
      have hmj : (m : Int) < (s : Int) + 1 := by omega
      obtain ⟨ah, ch, rfl, qh, rh, hhc⟩ := hR.2.2.1.cells
      have e6 := hcell 6 _ rfl
      have HHI := Lib.hid (And.intro hho (And.intro hhc (And.intro (HH.out m st hs') e6)))
      have dm := hB.cell (i := m) (bools_get (tab_get (u := u) (show m < s + 1 by omega)))
      clear hcell hR hhc hho hs' e6
      cases hu : u m with
      | false =>
        rw [hu] at dm
        have HV := Lib.hid (show pre ++ visits l m u = visits l (s + 1) (fun k => k == s) by rw [← HD.out.1, visits_false hu])
        clear hu hv hJ hB hO
        gi_wp2
        exact ⟨⟨m, (m : Int) - 1, u, pre, rfl, by omega, by omega, HV.out, HD.out.2.1, HD.out.2.2.1, hc1, hc2, HD.out.2.2.2⟩, by simp [intOf]⟩
      | true =>
        rw [hu] at dm
        have HV := Lib.hid (And.intro (show (pre ++ [m]) ++ visits l m (mark l m u) = visits l (s + 1) (fun k => k == s) by rw [← HD.out.1, visits_true hu, List.append_assoc]; rfl) (And.intro (mark_true (l := l) hu) hu))
        obtain ⟨fn, tmps, assign, body, hy, hRR⟩ := hY pre m wo hJ ⟨by omega, by have h := congrArg List.length hv; rw [List.length_append] at h; have h2 := visits_length (l := l) (s + 1) (fun k => k == s); omega⟩
        have HRR := Lib.hid hRR
        clear hu hv hJ hB hO hRR
        gi_wp2
        refine HRR.out.mono ?_
        rintro e W3 ⟨rfl, hJ3, hk3⟩
        have hBU := hk3.blk HD.out.2.2.1 (fun h => by have := hMw _ h; omega)
        have hc3 : W3.cell? ⟨Bs, 0, none⟩ = some (.int .i64 s) := (World.cell?_of_block (w := wo) (hk3.2 Bs (by omega) hBs (.inl hbs))).trans hc1
        have hc4 : W3.cell? ⟨Bl, 0, none⟩ = some (.slice (some ⟨g, 0, none⟩) l.length cap) := (World.cell?_of_block (w := wo) (hk3.2 Bl (by omega) hBl (.inl hbl))).trans hc2
        have hO3 := hk3.old HD.out.2.2.2.1 hz0 (by omega) hM
        have hz3 : W.heap.size + 1 ≤ W3.heap.size := by have := hk3.1; omega
        have e6 := cell_old hO3 HHI.out.2.2.2
        have H3 := Lib.hid (And.intro hJ3 (And.intro hBU (And.intro hO3 hz3)))
        clear hJ3 hk3 hBU hO3 hz3 hc1 hc2 dm hy HD HRR
        gi_wp2
        gi_loopw [34] (fun i wr => ∃ t : Nat, i = .int .i64 t ∧ t ≤ st.hints.length ∧ J (pre ++ [m]) wr ∧ Blk wr W.heap.size (bools (tab (s + 1) fun j => u j || (st.hints.take t).contains (j : Int))) 4 ∧ (∀ k, k < w0.heap.size → wr.heap[k]? = w0.heap[k]?) ∧ W.heap.size + 1 ≤ wr.heap.size ∧ wr.cell? ⟨Bs, 0, none⟩ = some (.int .i64 s) ∧ wr.cell? ⟨Bl, 0, none⟩ = some (.slice (some ⟨g, 0, none⟩) l.length cap)) (fun i _ => st.hints.length - (intOf i).toNat)
        case atStart => exact ⟨0, rfl, Nat.zero_le _, H3.out.1, by simpa using H3.out.2.1, H3.out.2.2.1, H3.out.2.2.2, hc3, hc4⟩
        case round =>
          obtain ⟨wi, rfl⟩ : ∃ wi : World, wi = wr := ⟨_, rfl⟩
          obtain ⟨t, rfl, ht, hJ, hB, hO, hz, hc5, hc6⟩ := hrel
          have HI := Lib.hid (And.intro hJ (And.intro hB (And.intro hO hz)))
          clear H3 hc3 hc4
          by_cases hzt : t < st.hints.length
          · have hzi : (t : Int) < st.hints.length := by omega
            have hg := List.getElem?_eq_getElem hzt
            obtain ⟨z0, z1⟩ := HHI.out.2.2.1 _ (List.getElem_mem hzt)
            obtain ⟨gh, rfl, hc⟩ := HHI.out.2.1 t _ hg
            generalize st.hints[t] = y at *
            obtain ⟨yn, rfl⟩ := Int.eq_ofNat_of_zero_le z0
            have hyn : yn < s + 1 := by omega
            have hyi : (yn : Int) < (s : Int) + 1 := by omega
            have dh := cell_old hO hc
            have dy := hB.cell (i := yn) (bools_get (tab_get (u := fun j => u j || (st.hints.take t).contains (j : Int)) hyn))
            have fy := hB.free yn
            have hB2 := hB.set yn (.bool true)
            rw [tab_hint hyn hg] at hB2
            have us : Upd [W.heap.size] wi (wi.setCell ⟨W.heap.size, yn, none⟩ (.bool true)) := (Upd.refl _ wi).set (.inl (by simp)) _
            have H4 := Lib.hid (And.intro (hJu (pre ++ [m]) [W.heap.size] _ _ (by simp) HI.out.1 us) (And.intro hB2 (And.intro (show ∀ k, k < w0.heap.size → (wi.setCell ⟨W.heap.size, yn, none⟩ (.bool true)).heap[k]? = w0.heap[k]? from fun k hk => (us.block k (by omega) (by simp; omega)).trans (HI.out.2.2.1 k hk))
              (And.intro (show W.heap.size + 1 ≤ (wi.setCell ⟨W.heap.size, yn, none⟩ (.bool true)).heap.size from Nat.le_trans HI.out.2.2.2 us.size) (And.intro (us.some hc5 (by simp; omega)) (us.some hc6 (by simp; omega)))))))
            clear hB2 us hc hg z0 hyn hJ hB hO
            gi_wp2
            exact ⟨⟨t + 1, by go_num, by omega, H4.out⟩, by simp [intOf]; omega⟩
          · have htl : t = st.hints.length := by omega
            subst htl
            have hzi : ¬ (st.hints.length : Int) < st.hints.length := by omega
            have HE := Lib.hid (show Blk wi W.heap.size (bools (tab (s + 1) (mark l m u))) 4 by
              have h := HI.out.2.1
              rw [List.take_of_length_le (Nat.le_refl _)] at h
              rw [HV.out.2.1, HHI.out.1]
              exact h)
            clear hJ hB hO
            gi_wp2
            exact ⟨⟨m, (m : Int) - 1, mark l m u, pre ++ [m], rfl, by omega, by omega, HV.out.1, HI.out.1, HE.out, hc5, hc6, HI.out.2.2⟩, by simp [intOf]⟩
end Trim
end Go.Proofs.Ytnmfihgdedifoaa
