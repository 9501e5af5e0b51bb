/- Walks through the reference of trails: Put. Conditions: none. -/
import Derived.Test.YtdhhohnaehdpkaaRefA
set_option linter.unusedVariables false
set_option linter.unusedSimpArgs false
set_option linter.unusedSectionVars false
open Go.RowKit
namespace Go.Proofs.Ytdhhohnaehdpkaa
open L
namespace Ref
open Trail
section
variable {w : World} {b vars : Nat} {es : Es} {S : List Nat}
theorem lits_snoc (es : Es) (x : Int × Int) : lits (es ++ [x]) = lits es ++ [x.1] := by simp [lits]
theorem rsns_snoc (es : Es) (x : Int × Int) : rsns (es ++ [x]) = rsns es ++ [x.2] := by simp [rsns]
theorem levs_snoc (es : Es) (x : Int × Int) : levs (es ++ [x]) = levs es ++ [(decs (es ++ [x]) : Int)] := by
  unfold levs
  rw [List.length_append, List.length_singleton, List.range_succ, List.map_append]
  congr 1
  · apply List.map_congr_left
    intro i hi
    rw [lev_append [x] (by simpa using hi)]
  · simp [lev_last]
theorem pos_findI {es : Es} {v : Int} : findI es v < 0 ↔ pos es v.natAbs = 0 := by unfold findI; omega

theorem Now_raw {w : World} {b : Nat} {k : Int} (h : ∃ (rv : Value) (xs : List Int), w.cell? ⟨b, 2, none⟩ = some rv ∧ SL w 1 rv xs.length (ints xs) ∧ ((xs.filter fun x => decide (x < 0)).length : Int) = k ∧ xs.length ≤ 4194304) :
    Calls Try.prog 57 #[.pointer (some ⟨b, 0, none⟩)] w fun e w' => e = .returned (.int .i64 k) ∧ w = w' := by
  obtain ⟨rv, xs, c1, hsl, rfl, hlen⟩ := h
  obtain ⟨_, a, cap, rfl, _, _, _, hc⟩ := hsl
  have HC := Lib.hid hc
  clear hc
  go_enter Try.func57, Try.ntmps57
  go_wp2_with fail
  go_loop [3, 4] (fun n i => ∃ k : Nat, k ≤ xs.length ∧ i = .int .i64 k ∧ n = .int .i64 ((xs.take k).filter fun x => decide (x < 0)).length) (fun _ i => xs.length - (intOf i).toNat)
  case atStart => exact ⟨0, Nat.zero_le _, rfl, rfl⟩
  case round =>
    obtain ⟨k, hk, rfl, rfl⟩ := hrel
    have hd : ((xs.take k).filter fun x => decide (x < 0)).length ≤ k := Nat.le_trans (List.length_filter_le _ _) (List.length_take_le _ _)
    by_cases hlt : k < xs.length
    · obtain ⟨g, off, rfl, hcc⟩ : ∃ g off, a = some ⟨g, off, none⟩ ∧ ∀ j u, (ints xs)[j]? = some u → w.cell? ⟨g, off + j, none⟩ = some u := by
        rcases HC.out with h | h
        · omega
        · exact h
      have e0 := hcc k _ (ints_get (List.getElem?_eq_getElem hlt))
      have HD : Hid (((xs.take (k + 1)).filter fun x => decide (x < 0)).length = ((xs.take k).filter fun x => decide (x < 0)).length + if xs[k] < 0 then 1 else 0) := by
        unfold Hid
        rw [List.take_add_one, List.getElem?_eq_getElem hlt, List.filter_append, List.length_append]
        simp only [Option.toList_some, List.filter_cons, List.filter_nil, decide_eq_true_eq]
        split <;> simp
      clear hcc
      generalize xs[k] = y at *
      generalize ((xs.take k).filter fun x => decide (x < 0)).length = d at *
      by_cases hy : y < 0
      · go_wp2_with fail
        refine ⟨⟨k + 1, by omega, by go_num, by rw [HD.out, if_pos hy]; go_num⟩, by simp [intOf]; omega⟩
      · go_wp2_with fail
        refine ⟨⟨k + 1, by omega, by go_num, by rw [HD.out, if_neg hy]; rfl⟩, by simp [intOf]; omega⟩
    · have hke : k = xs.length := by omega
      subst hke
      go_wp2_with fail
      go_ret
      exact ⟨ret_int (by first | rfl | rw [List.take_length]), rfl⟩

set_option maxHeartbeats 1000000 in
theorem Put_good (h : Rf w b vars es S) (lit reason : Int) (hl : isLit vars lit = true) (hp : pos es lit.natAbs = 0) (hr : -1 ≤ reason ∧ reason ≤ 9223372036854775807) (hlI : IsI64 lit) :
    Calls Try.prog 24 #[.pointer (some ⟨b, 0, none⟩), .int .i64 lit, .int .i64 reason] w fun e w' => e = .returned (.int .i64 0) ∧ ∃ S', Rf w' b vars (es ++ [(lit, reason)]) S' ∧ Upd S w w' ∧ ∀ k ∈ S', k ∈ S ∨ w.heap.size ≤ k := by
  have hv := h.wf.max
  have hlen := h.wf.len
  have H := h
  have hf := pos_findI.2 hp
  have hwf := h.wf.snoc (x := (lit, reason)) hl hp hr
  have hrl : (rsns es).length = es.length := by simp [rsns]
  obtain ⟨h0, lv, rv, vv, hS, B, O1, O2, O3, n1, n2, n3⟩ := h
  have hr1 : ¬ reason < -1 := by omega
  have HRL := Lib.hid hrl
  clear hrl
  go_enter Try.func24, Try.ntmps24
  go_upto_region 6 with (first | (go_at_call 55; refine (Has_calls H lit).mono ?_; rintro e w' ⟨rfl, rfl⟩) | (go_at_call 56; refine (Find_calls H lit hlI).mono ?_; rintro e w' ⟨rfl, rfl⟩))
  have UU := Upd.refl [b] w
  clear hf hr1 h0 hl hp

  -- the region that writes field 1
  have hlt1 := B.lt
  have c1 := B.cell (i := 1) rfl
  refine wp_region_lit ?_
  refine wpList_cutH 6 (fun K hK => ?_)
  simp only [List.take_succ_cons, List.take_zero]
  go_wp2_with fail
  refine Halt_.intro ?_; try simp only [List.drop_succ_cons, List.drop_zero]
  have g0 := owns_none (w := w) rfl 3
  have s0 := (SL.of_owns O1).upd ((Upd.refl [] w).alloc (.cells #[] 3)) (by simp)
  have u0 := (Upd.refl [] w).alloc (.cells #[] 3)
  have z0 : (w.alloc (.cells #[] 3)).heap.size = w.heap.size + 1 := by simp
  generalize w.alloc (.cells #[] 3) = w0 at *
  refine wpList_appS rfl _ _ _ rfl 3 1 8 _ Try.underlying22 infoInt rfl (by decide) (.slice (some ⟨w.heap.size, 0, none⟩) 0 0) 0 [] rfl (owns_blk g0 rfl (by unfold maxLen; omega)) lv es.length (ints (lits es)) rfl s0 (ints_one _) (by unfold maxLen; omega) (by omega) ?_
  intro a1 cap1 w1 o1 u1 k1
  rw [Nat.zero_add, List.nil_append] at o1
  rw [Nat.zero_add] at k1 ⊢
  simp only [Act.put, List.setIfInBounds_toArray, List.set_cons_zero, List.set_cons_succ]
  have U1 : Upd [] w w1 := u0.fresh u1 (by simp [Value.ownBlock])
  have K1 : ∀ k, (Value.slice a1 es.length cap1).ownBlock = some k → w.heap.size ≤ k := by
    intro k hk
    rcases k1 with k1 | k1 <;> rw [hk] at k1 <;> simp [Value.ownBlock] at k1 <;> omega
  clear g0 s0 u0 z0 u1 k1
  refine wpList_cutH 2 (fun K hK => ?_)
  simp only [List.take_succ_cons, List.take_zero]
  go_wp2_with fail
  refine Halt_.intro ?_; try simp only [List.drop_succ_cons, List.drop_zero]
  refine wpList_app rfl _ _ _ rfl 3 1 8 _ Try.underlying22 infoInt rfl (by decide) (.slice a1 es.length cap1) es.length (ints (lits es)) rfl (ownsRow_upd o1 ((Upd.refl [] w1).alloc _) (by simp)) w1.heap.size 1 1 [.int .i64 lit] 3 rfl rfl (Blk.new w1 _ _) (ints_one [lit]) (by omega) (by unfold maxLen; omega) (by omega) ?_
  intro g1 p1 w2 o2 u2 k2
  simp only [Act.put, List.setIfInBounds_toArray, List.set_cons_zero, List.set_cons_succ]
  have U2 : Upd [] w w2 := (U1.alloc _).fresh u2 (by intro k hk; right; exact K1 k (by simpa using hk))
  have G1 : w.heap.size ≤ g1 := by
    rcases k2 with k2 | k2
    · exact K1 _ k2
    · have := U1.size; simp at k2; omega
  have B2 := B.upd U2 (by simp)
  have e1 := B2.cell (i := 1) rfl
  have d1 := B2.free 1
  clear U1 K1 o1 u2 k2 c1
  go_upto_region 7 with fail
  have Bn := B2.set 1 (.slice (some ⟨g1, 0, none⟩) (es.length + 1) p1)
  have Un : Upd [b] w (w2.setCell ⟨b, 1, none⟩ (.slice (some ⟨g1, 0, none⟩) (es.length + 1) p1)) := (U2.nil).set (by simp) _
  have N1 := ownsRow_upd o2 ((Upd.refl [b] w2).set (p := ⟨b, 1, none⟩) (by simp) (.slice (some ⟨g1, 0, none⟩) (es.length + 1) p1)) (by simp [Value.ownBlock]; omega)
  clear U2 B2 o2 e1 d1
  generalize w2.setCell ⟨b, 1, none⟩ (.slice (some ⟨g1, 0, none⟩) (es.length + 1) p1) = wa at *
  replace O2 := ownsRow_upd O2 Un (by simpa using n2)
  replace O3 := ownsRow_upd O3 Un (by simpa using n3)
  have Hwa := Un.size
  replace UU := UU.trans Un
  clear Un B
  have B := Bn
  clear Bn

  -- the region that writes field 2
  have hlt2 := B.lt
  have c2 := B.cell (i := 2) rfl
  refine wp_region_lit ?_
  refine wpList_cutH 6 (fun K hK => ?_)
  simp only [List.take_succ_cons, List.take_zero]
  go_wp2_with fail
  refine Halt_.intro ?_; try simp only [List.drop_succ_cons, List.drop_zero]
  have g0 := owns_none (w := wa) rfl 3
  have s0 := (SL.of_owns O2).upd ((Upd.refl [] wa).alloc (.cells #[] 3)) (by simp)
  have u0 := (Upd.refl [] wa).alloc (.cells #[] 3)
  have z0 : (wa.alloc (.cells #[] 3)).heap.size = wa.heap.size + 1 := by simp
  generalize wa.alloc (.cells #[] 3) = w0 at *
  refine wpList_appS rfl _ _ _ rfl 3 1 8 _ Try.underlying22 infoInt rfl (by decide) (.slice (some ⟨wa.heap.size, 0, none⟩) 0 0) 0 [] rfl (owns_blk g0 rfl (by unfold maxLen; omega)) rv es.length (ints (rsns es)) rfl s0 (ints_one _) (by unfold maxLen; omega) (by omega) ?_
  intro a1 cap1 w1 o1 u1 k1
  rw [Nat.zero_add, List.nil_append] at o1
  rw [Nat.zero_add] at k1 ⊢
  simp only [Act.put, List.setIfInBounds_toArray, List.set_cons_zero, List.set_cons_succ]
  have U1 : Upd [] wa w1 := u0.fresh u1 (by simp [Value.ownBlock])
  have K1 : ∀ k, (Value.slice a1 es.length cap1).ownBlock = some k → wa.heap.size ≤ k := by
    intro k hk
    rcases k1 with k1 | k1 <;> rw [hk] at k1 <;> simp [Value.ownBlock] at k1 <;> omega
  clear g0 s0 u0 z0 u1 k1
  refine wpList_cutH 2 (fun K hK => ?_)
  simp only [List.take_succ_cons, List.take_zero]
  go_wp2_with fail
  refine Halt_.intro ?_; try simp only [List.drop_succ_cons, List.drop_zero]
  refine wpList_app rfl _ _ _ rfl 3 1 8 _ Try.underlying22 infoInt rfl (by decide) (.slice a1 es.length cap1) es.length (ints (rsns es)) rfl (ownsRow_upd o1 ((Upd.refl [] w1).alloc _) (by simp)) w1.heap.size 1 1 [.int .i64 reason] 3 rfl rfl (Blk.new w1 _ _) (ints_one [reason]) (by omega) (by unfold maxLen; omega) (by omega) ?_
  intro g2 p2 w2 o2 u2 k2
  simp only [Act.put, List.setIfInBounds_toArray, List.set_cons_zero, List.set_cons_succ]
  have U2 : Upd [] wa w2 := (U1.alloc _).fresh u2 (by intro k hk; right; exact K1 k (by simpa using hk))
  have G2 : wa.heap.size ≤ g2 := by
    rcases k2 with k2 | k2
    · exact K1 _ k2
    · have := U1.size; simp at k2; omega
  have B2 := B.upd U2 (by simp)
  have e2 := B2.cell (i := 2) rfl
  have d2 := B2.free 2
  clear U1 K1 o1 u2 k2 c2
  go_upto_region 8 with fail
  have Bn := B2.set 2 (.slice (some ⟨g2, 0, none⟩) (es.length + 1) p2)
  have Un : Upd [b] wa (w2.setCell ⟨b, 2, none⟩ (.slice (some ⟨g2, 0, none⟩) (es.length + 1) p2)) := (U2.nil).set (by simp) _
  have N2 := ownsRow_upd o2 ((Upd.refl [b] w2).set (p := ⟨b, 2, none⟩) (by simp) (.slice (some ⟨g2, 0, none⟩) (es.length + 1) p2)) (by simp [Value.ownBlock]; omega)
  clear U2 B2 o2 e2 d2
  generalize w2.setCell ⟨b, 2, none⟩ (.slice (some ⟨g2, 0, none⟩) (es.length + 1) p2) = wb at *
  replace N1 := ownsRow_upd N1 Un (by simp [Value.ownBlock]; omega)
  replace O3 := ownsRow_upd O3 Un (by simpa using n3)
  have Hwb := Un.size
  replace UU := UU.trans Un
  clear Un B
  have B := Bn
  clear Bn

  -- the region that writes field 3
  have hlt3 := B.lt
  have c3 := B.cell (i := 3) rfl
  refine wp_region_lit ?_
  refine wpList_cutH 6 (fun K hK => ?_)
  simp only [List.take_succ_cons, List.take_zero]
  go_wp2_with fail
  refine Halt_.intro ?_; try simp only [List.drop_succ_cons, List.drop_zero]
  have g0 := owns_none (w := wb) rfl 3
  have s0 := (SL.of_owns O3).upd ((Upd.refl [] wb).alloc (.cells #[] 3)) (by simp)
  have u0 := (Upd.refl [] wb).alloc (.cells #[] 3)
  have z0 : (wb.alloc (.cells #[] 3)).heap.size = wb.heap.size + 1 := by simp
  generalize wb.alloc (.cells #[] 3) = w0 at *
  refine wpList_appS rfl _ _ _ rfl 3 1 8 _ Try.underlying22 infoInt rfl (by decide) (.slice (some ⟨wb.heap.size, 0, none⟩) 0 0) 0 [] rfl (owns_blk g0 rfl (by unfold maxLen; omega)) vv es.length (ints (levs es)) rfl s0 (ints_one _) (by unfold maxLen; omega) (by omega) ?_
  intro a1 cap1 w1 o1 u1 k1
  rw [Nat.zero_add, List.nil_append] at o1
  rw [Nat.zero_add] at k1 ⊢
  simp only [Act.put, List.setIfInBounds_toArray, List.set_cons_zero, List.set_cons_succ]
  have U1 : Upd [] wb w1 := u0.fresh u1 (by simp [Value.ownBlock])
  have K1 : ∀ k, (Value.slice a1 es.length cap1).ownBlock = some k → wb.heap.size ≤ k := by
    intro k hk
    rcases k1 with k1 | k1 <;> rw [hk] at k1 <;> simp [Value.ownBlock] at k1 <;> omega
  clear g0 s0 u0 z0 u1 k1
  have HR : ∃ (rv' : Value) (xs : List Int), w1.cell? ⟨b, 2, none⟩ = some rv' ∧ SL w1 1 rv' xs.length (ints xs) ∧ ((xs.filter fun x => decide (x < 0)).length : Int) = decs (es ++ [(lit, reason)]) ∧ xs.length ≤ 4194304 := by
    refine ⟨_, rsns es ++ [reason], U1.some (B.cell (i := 2) rfl) (by simp), ?_, ?_, ?_⟩
    · have e : (rsns es ++ [reason]).length = es.length + 1 := by rw [List.length_append, HRL.out]; rfl
      rw [e, ints_append]
      exact (SL.of_owns (ownsRow_upd N2 U1 (by simp)))
    · by_cases hneg : reason < 0 <;> simp [decs, rsns, List.filter_append, List.filter_map, Function.comp_def, hneg]
    · have e : (rsns es ++ [reason]).length = es.length + 1 := by rw [List.length_append, HRL.out]; rfl
      have := hwf.len
      simp at this
      omega
  refine wpList_cutH 3 (fun K hK => ?_)
  simp only [List.take_succ_cons, List.take_zero]
  go_wp2_with (go_at_call 57; refine (Now_raw HR).mono ?_; rintro e w' ⟨rfl, rfl⟩)
  refine Halt_.intro ?_; try simp only [List.drop_succ_cons, List.drop_zero]
  refine wpList_app rfl _ _ _ rfl 3 1 8 _ Try.underlying22 infoInt rfl (by decide) (.slice a1 es.length cap1) es.length (ints (levs es)) rfl (ownsRow_upd o1 ((Upd.refl [] w1).alloc _) (by simp)) w1.heap.size 1 1 [.int .i64 (decs (es ++ [(lit, reason)]))] 3 rfl rfl (Blk.new w1 _ _) (ints_one [(decs (es ++ [(lit, reason)]))]) (by omega) (by unfold maxLen; omega) (by omega) ?_
  intro g3 p3 w2 o2 u2 k2
  simp only [Act.put, List.setIfInBounds_toArray, List.set_cons_zero, List.set_cons_succ]
  have U2 : Upd [] wb w2 := (U1.alloc _).fresh u2 (by intro k hk; right; exact K1 k (by simpa using hk))
  have G3 : wb.heap.size ≤ g3 := by
    rcases k2 with k2 | k2
    · exact K1 _ k2
    · have := U1.size; simp at k2; omega
  have B2 := B.upd U2 (by simp)
  have e3 := B2.cell (i := 3) rfl
  have d3 := B2.free 3
  clear U1 K1 o1 u2 k2 c3
  go_upto_region 9 with fail
  have Bn := B2.set 3 (.slice (some ⟨g3, 0, none⟩) (es.length + 1) p3)
  have Un : Upd [b] wb (w2.setCell ⟨b, 3, none⟩ (.slice (some ⟨g3, 0, none⟩) (es.length + 1) p3)) := (U2.nil).set (by simp) _
  have N3 := ownsRow_upd o2 ((Upd.refl [b] w2).set (p := ⟨b, 3, none⟩) (by simp) (.slice (some ⟨g3, 0, none⟩) (es.length + 1) p3)) (by simp [Value.ownBlock]; omega)
  clear U2 B2 o2 e3 d3
  generalize w2.setCell ⟨b, 3, none⟩ (.slice (some ⟨g3, 0, none⟩) (es.length + 1) p3) = wc at *
  replace N1 := ownsRow_upd N1 Un (by simp [Value.ownBlock]; omega)
  replace N2 := ownsRow_upd N2 Un (by simp [Value.ownBlock]; omega)
  have Hwc := Un.size
  replace UU := UU.trans Un
  clear Un B
  have B := Bn
  clear Bn
  go_wp2_with fail
  go_ret
  have e1 : (es ++ [(lit, reason)]).length = es.length + 1 := by simp
  refine ⟨rfl, b :: ([g1] ++ [g2] ++ [g3]), ⟨hwf, _, _, _, rfl, B, ?_, ?_, ?_, ?_, ?_, ?_⟩, ?_, ?_⟩
  · rw [e1, lits_snoc, ints_append]; exact N1
  · rw [e1, rsns_snoc, ints_append]; exact N2
  · rw [e1, levs_snoc, ints_append]; exact N3
  · simp [Value.ownBlock]; omega
  · simp [Value.ownBlock]; omega
  · simp [Value.ownBlock]; omega
  · exact UU.wide (by rw [hS]; simp)
  · intro k hk
    simp at hk
    rw [hS]
    rcases hk with rfl | rfl | rfl | rfl
    · simp
    · right; omega
    · right; omega
    · right; omega
end
end Ref
end Go.Proofs.Ytdhhohnaehdpkaa
