/- Walks through the reference of trails: the functions that only read. Conditions: none. -/
import Derived.Test.YtdhhohnaehdpkaaTrailF
set_option linter.unusedVariables false
set_option linter.unusedSimpArgs false
set_option linter.unusedSectionVars false
open Go.RowKit
namespace Go.Proofs.Ytdhhohnaehdpkaa
open L
namespace Ref
open Trail
def rsns (es : Es) : List Int := es.map (·.2)
def levs (es : Es) : List Int := (List.range es.length).map fun i => (lev es i : Int)
/-- The model at block b: S are its blocks. -/
structure Rf (w : World) (b vars : Nat) (es : Es) (S : List Nat) : Prop where
  wf : TWf vars es
  mem : ∃ lv rv vv, S = b :: (lv.ownBlock.toList ++ rv.ownBlock.toList ++ vv.ownBlock.toList) ∧ Blk w b [.int .i64 vars, lv, rv, vv] 42 ∧
    w.ownsRow 0 3 1 lv es.length (ints (lits es)) ∧ w.ownsRow 0 3 1 rv es.length (ints (rsns es)) ∧ w.ownsRow 0 3 1 vv es.length (ints (levs es)) ∧
    lv.ownBlock ≠ some b ∧ rv.ownBlock ≠ some b ∧ vv.ownBlock ≠ some b
theorem Rf.upd {w w' : World} {b vars : Nat} {es : Es} {S T : List Nat} (h : Rf w b vars es S) (hu : Upd T w w') (hd : ∀ k ∈ S, k ∉ T) : Rf w' b vars es S := by
  obtain ⟨h0, lv, rv, vv, rfl, h1, h2, h3, h4, h5⟩ := h
  refine ⟨h0, lv, rv, vv, rfl, h1.upd hu (hd _ (by simp)), ownsRow_upd h2 hu ?_, ownsRow_upd h3 hu ?_, ownsRow_upd h4 hu ?_, h5⟩ <;>
    exact fun k hk hv => hd k (by simp [hv]) hk
theorem Rf.lt {w : World} {b vars : Nat} {es : Es} {S : List Nat} (h : Rf w b vars es S) : ∀ k ∈ S, k < w.heap.size := by
  obtain ⟨h0, lv, rv, vv, rfl, h1, h2, h3, h4, h5⟩ := h
  intro k hk
  simp only [List.mem_cons, List.mem_append, Option.mem_toList] at hk
  rcases hk with rfl | (hk | hk) | hk
  · exact h1.lt
  · exact (h2.lt k hk).2
  · exact (h3.lt k hk).2
  · exact (h4.lt k hk).2
theorem own_form {w : World} {base : Nat} {e : TypeId} {v : Value} {xs : List Int} (h : w.ownsRow base e 1 v xs.length (ints xs)) :
    ∃ a cap, v = .slice a xs.length cap ∧ xs.length ≤ cap ∧ cap ≤ 9223372036854775807 ∧ (0 < xs.length → ∃ g, a = some ⟨g, 0, none⟩ ∧ ∀ i x, xs[i]? = some x → w.cell? ⟨g, i, none⟩ = some (.int .i64 x)) := by
  obtain ⟨h1, a, cap, rfl, h2, h3, _, h4⟩ := SL.of_owns h
  refine ⟨a, cap, rfl, h2, h3, fun hn => ?_⟩
  rcases h.2 with ⟨he, h0⟩ | ⟨g, cap', cur, he, _⟩
  · omega
  · simp only [Value.slice.injEq] at he
    obtain ⟨rfl, _⟩ := he
    refine ⟨g, rfl, fun i x hx => ?_⟩
    rcases h4 with h4 | ⟨b, off, hb, h4⟩
    · omega
    · simp only [Option.some.injEq, Addr.mk.injEq, and_true] at hb
      obtain ⟨rfl, rfl⟩ := hb
      have := h4 i _ (ints_get hx)
      rwa [Nat.zero_add] at this
section
variable {w : World} {b vars : Nat} {es : Es} {S : List Nat}
theorem Has_calls (h : Rf w b vars es S) (lit : Int) : Calls Try.prog 55 #[.pointer (some ⟨b, 0, none⟩), .int .i64 lit] w fun e w' => e = .returned (.bool (isLit vars lit)) ∧ w = w' := by
  have hv := h.wf.max
  obtain ⟨h0, lv, rv, vv, rfl, h1, h2, h3, h4, h5⟩ := h
  have c0 := h1.cell (i := 0) rfl
  clear h0 h1 h2 h3 h4 h5
  by_cases h0 : lit = 0
  · subst h0
    go_enter Try.func55, Try.ntmps55
    go_wp2
    go_ret
    exact ⟨ret_bool (by simp [isLit]), rfl⟩
  · rcases (by omega : (-(vars : Int) ≤ lit ∧ lit ≤ vars) ∨ (-(vars : Int) ≤ lit ∧ ¬ lit ≤ vars) ∨ (¬ -(vars : Int) ≤ lit ∧ lit ≤ vars)) with ⟨h1, h2⟩ | ⟨h1, h2⟩ | ⟨h1, h2⟩
    all_goals
      go_enter Try.func55, Try.ntmps55
      go_wp2
      go_ret
      exact ⟨ret_bool (by simp [isLit, h0, h1, h2]), rfl⟩
theorem pos_eq {es : Es} {v k : Nat} (hk : k < es.length) (h1 : ∀ j, j < k → (at_ es j).1.natAbs ≠ v) (h2 : (at_ es k).1.natAbs = v) : pos es v = k + 1 := by
  unfold pos
  have : es.findIdx? (fun e => e.1.natAbs == v) = some k := by
    rw [List.findIdx?_eq_some_iff_getElem]
    have ha : ∀ j (hj : j < es.length), at_ es j = es[j] := fun j hj => by unfold at_; rw [List.getD_eq_getElem?_getD, List.getElem?_eq_getElem hj]; rfl
    refine ⟨hk, by simpa [← ha] using h2, fun j hj => ?_⟩
    simpa [← ha] using h1 j hj
  rw [this]; rfl
theorem pos_none {es : Es} {v : Nat} (h1 : ∀ j, j < es.length → (at_ es j).1.natAbs ≠ v) : pos es v = 0 := by
  rw [pos_zero]
  intro e he
  obtain ⟨j, hj, rfl⟩ := List.getElem_of_mem he
  have := h1 j hj
  unfold at_ at this
  rwa [List.getD_eq_getElem?_getD, List.getElem?_eq_getElem hj] at this
def findI (es : Es) (v : Int) : Int := (pos es v.natAbs : Int) - 1
theorem Find_calls (h : Rf w b vars es S) (v : Int) (hvI : IsI64 v) : Calls Try.prog 56 #[.pointer (some ⟨b, 0, none⟩), .int .i64 v] w fun e w' => e = .returned (.int .i64 (findI es v)) ∧ w = w' := by
  have hv := h.wf.max
  have hlen := h.wf.len
  obtain ⟨h0, lv, rv, vv, rfl, h1, h2, h3, h4, h5⟩ := h
  have hl : (lits es).length = es.length := by simp [lits]
  rw [← hl] at h2
  obtain ⟨a, cap, rfl, _, _, hc⟩ := own_form h2
  rw [hl] at hc h1
  have c1 := h1.cell (i := 1) rfl
  have HI := Lib.hid hvI
  clear h1 h2 h3 h4 h5 hl hvI
  go_enter Try.func56, Try.ntmps56
  go_wp2_with fail
  go_loop [5] (fun i => ∃ k : Nat, k ≤ es.length ∧ i = .int .i64 k ∧ ∀ j, j < k → (at_ es j).1.natAbs ≠ v.natAbs) (fun i => es.length - (intOf i).toNat)
  case atStart => exact ⟨0, Nat.zero_le _, rfl, fun j hj => by omega⟩
  case round =>
    obtain ⟨k, hk, rfl, hno⟩ := hrel
    have HNO := Lib.hid hno
    clear hno
    by_cases hlt : k < es.length
    · obtain ⟨g, rfl, hcc⟩ := hc (by omega)
      have e0 := hcc k _ (lits_at hlt)
      clear hcc
      have hm := h0.lit _ (at_mem hlt)
      have hwr : wrap64 (-v) = -v ∨ v = -9223372036854775808 ∧ wrap64 (-v) = -9223372036854775808 := by
        have := HI.out
        unfold IsI64 at this
        by_cases hx : v = -9223372036854775808
        · exact .inr ⟨hx, by subst hx; decide +kernel⟩
        · exact .inl (IntWalk.wrap64_in _ ⟨by omega, by omega⟩)
      by_cases hy : (at_ es k).1.natAbs = v.natAbs
      · have HR := Lib.hid (show findI es v = k by unfold findI; rw [pos_eq hlt HNO.out hy]; omega)
        by_cases ha : (at_ es k).1 = v
        · have hb : ((at_ es k).1 == v) = true := by simpa using ha
          clear ha hwr hm hy
          generalize (at_ es k).1 = y at *
          go_wp2_with fail
          go_ret
          exact ⟨ret_int HR.out.symm, rfl⟩
        · have hb : ((at_ es k).1 == v) = false := by simpa using ha
          have hb2 : ((at_ es k).1 == wrap64 (-v)) = true := by
            rcases hwr with hwr | ⟨_, hwr⟩ <;> rw [hwr] <;> simp <;> omega
          clear ha hwr hm hy
          generalize (at_ es k).1 = y at *
          go_wp2_with fail
          go_ret
          exact ⟨ret_int HR.out.symm, rfl⟩
      · have hb : ((at_ es k).1 == v) = false := by simp; intro h; exact hy (by rw [h])
        have hb2 : ((at_ es k).1 == wrap64 (-v)) = false := by
          rcases hwr with hwr | ⟨_, hwr⟩ <;> rw [hwr] <;> simp <;> omega
        have HY := Lib.hid hy
        clear hwr hm hy
        generalize hya : (at_ es k).1 = y at *
        have HYA := Lib.hid hya
        clear hya
        go_wp2_with fail
        refine ⟨⟨k + 1, by omega, by go_num, fun j hj => ?_⟩, by simp [intOf]; omega⟩
        rcases Nat.lt_or_ge j k with h | h
        · exact HNO.out j h
        · obtain rfl : j = k := by omega
          rw [HYA.out]; exact HY.out
    · have HR := Lib.hid (show findI es v = -1 by unfold findI; rw [pos_none (fun j hj => HNO.out j (by omega))]; omega)
      go_wp2_with fail
      go_ret
      exact ⟨ret_int HR.out.symm, rfl⟩
theorem tval_find {vars : Nat} {es : Es} (hw : TWf vars es) {v : Int} : tval vars es v = if findI es v < 0 ∨ v = 0 then 0 else if (at_ es (findI es v).toNat).1 = v then 1 else -1 := by
  unfold tval findI
  by_cases hp : pos es v.natAbs = 0
  · simp only [hp, if_true, ite_self]
    rw [if_pos (.inl (by omega))]
  · have ha := pos_at hp
    have hm := hw.lit _ (at_mem ha.2)
    rw [ha.1] at hm
    have hl : isLit vars v = true := by simp [isLit]; omega
    have hv0 : v ≠ 0 := by omega
    have h2 : ¬ ((pos es v.natAbs : Int) - 1 < 0 ∨ v = 0) := by
      rintro (h | h)
      · omega
      · exact hv0 h
    rw [if_pos hl, if_neg hp]
    simp only [h2, if_false]
    rw [show ((pos es v.natAbs : Int) - 1).toNat = pos es v.natAbs - 1 by omega]
theorem Value_calls (h : Rf w b vars es S) (v : Int) (hvI : IsI64 v) : Calls Try.prog 43 #[.pointer (some ⟨b, 0, none⟩), .int .i64 v] w fun e w' => e = .returned (.int .i64 (tval vars es v)) ∧ w = w' := by
  have H := h
  have hw := h.wf
  have hlen := h.wf.len
  have hv := h.wf.max
  have HT := Lib.hid (tval_find hw (v := v))
  obtain ⟨h0, lv, rv, vv, rfl, h1, h2, h3, h4, h5⟩ := h
  have hl : (lits es).length = es.length := by simp [lits]
  rw [← hl] at h2
  obtain ⟨a, cap, rfl, _, _, hc⟩ := own_form h2
  rw [hl] at hc h1
  have c1 := h1.cell (i := 1) rfl
  have hf : findI es v < es.length ∧ -1 ≤ findI es v := by have := pos_le es v.natAbs; unfold findI; omega
  clear h1 h2 h3 h4 h5 hl hw
  by_cases hneg : findI es v < 0
  · go_enter Try.func43, Try.ntmps43
    go_wp2_with (go_at_call 56; refine (Find_calls H v hvI).mono ?_; rintro e w' ⟨rfl, rfl⟩)
    go_ret
    exact ⟨ret_int (by rw [HT.out, if_pos (.inl hneg)]), rfl⟩
  · by_cases hz : v = 0
    · exact absurd hneg (by
        subst hz
        unfold findI
        have : pos es (0 : Int).natAbs = 0 := by
          rw [pos_zero]; intro e he; have := h0.lit e he; simp at this ⊢; omega
        rw [this]; simp)
    · obtain ⟨k, hk⟩ : ∃ k : Nat, findI es v = k := ⟨(findI es v).toNat, by omega⟩
      rw [hk] at hf HT
      obtain ⟨g, rfl, hcc⟩ := hc (by omega)
      have e0 := hcc k _ (lits_at (by omega))
      have HK := Lib.hid hk
      have HVI := Lib.hid hvI
      have hz0 : (v == 0) = false := by simpa using hz
      clear hk hcc hc hneg h0 hvI
      by_cases hy : (at_ es k).1 = v
      · have HR := Lib.hid (show tval vars es v = 1 by rw [HT.out, if_neg (by omega), Int.toNat_natCast, if_pos hy])
        have hb : ((at_ es k).1 == v) = true := by simpa using hy
        clear hy HT
        generalize (at_ es k).1 = y at *
        go_enter Try.func43, Try.ntmps43
        go_wp2_with (go_at_call 56; refine (Find_calls H v HVI.out).mono ?_; rintro e w' ⟨rfl, rfl⟩; rw [HK.out])
        go_ret
        exact ⟨ret_int HR.out.symm, rfl⟩
      · have HR := Lib.hid (show tval vars es v = -1 by rw [HT.out, if_neg (by omega), Int.toNat_natCast, if_neg hy])
        have hb : ((at_ es k).1 == v) = false := by simpa using hy
        clear hy HT
        generalize (at_ es k).1 = y at *
        go_enter Try.func43, Try.ntmps43
        go_wp2_with (go_at_call 56; refine (Find_calls H v HVI.out).mono ?_; rintro e w' ⟨rfl, rfl⟩; rw [HK.out])
        go_ret
        exact ⟨ret_int HR.out.symm, rfl⟩
theorem Now_calls (h : Rf w b vars es S) : Calls Try.prog 57 #[.pointer (some ⟨b, 0, none⟩)] w fun e w' => e = .returned (.int .i64 (decs es)) ∧ w = w' := by
  have hlen := h.wf.len
  have hv := h.wf.max
  obtain ⟨h0, lv, rv, vv, rfl, h1, h2, h3, h4, h5⟩ := h
  have hl : (rsns es).length = es.length := by simp [rsns]
  rw [← hl] at h3
  obtain ⟨a, cap, rfl, _, _, hc⟩ := own_form h3
  rw [hl] at hc h1
  have c1 := h1.cell (i := 2) rfl
  clear h1 h2 h3 h4 h5 hl
  go_enter Try.func57, Try.ntmps57
  go_wp2_with fail
  go_loop [3, 4] (fun n i => ∃ k : Nat, k ≤ es.length ∧ i = .int .i64 k ∧ n = .int .i64 (decs (es.take k))) (fun _ i => es.length - (intOf i).toNat)
  case atStart => exact ⟨0, Nat.zero_le _, rfl, rfl⟩
  case round =>
    obtain ⟨k, hk, rfl, rfl⟩ := hrel
    have hd := decs_le (es.take k)
    have hl2 : (es.take k).length ≤ k := List.length_take_le _ _
    by_cases hlt : k < es.length
    · obtain ⟨g, rfl, hcc⟩ := hc (by omega)
      have e0 := hcc k (at_ es k).2 (by unfold rsns at_; rw [List.getElem?_map, List.getD_eq_getElem?_getD, List.getElem?_eq_getElem hlt]; simp)
      have HD : Hid (decs (es.take (k + 1)) = decs (es.take k) + if (at_ es k).2 < 0 then 1 else 0) := by
        unfold Hid
        rw [List.take_add_one, decs_append]
        unfold at_
        rw [List.getD_eq_getElem?_getD, List.getElem?_eq_getElem hlt]
        simp only [decs, Option.toList_some, Option.getD_some, List.filter_cons, List.filter_nil, decide_eq_true_eq]
        split <;> simp
      clear hcc hc
      generalize (at_ es k).2 = y at *
      generalize decs (es.take k) = d at *
      by_cases hy : y < 0
      · go_wp2_with fail
        refine ⟨⟨k + 1, by omega, by go_num, by rw [HD.out, if_pos hy]; go_num⟩, by simp [intOf]; omega⟩
      · go_wp2_with fail
        refine ⟨⟨k + 1, by omega, by go_num, by rw [HD.out, if_neg hy]; rfl⟩, by simp [intOf]; omega⟩
    · have hke : k = es.length := by omega
      subst hke
      go_wp2_with fail
      go_ret
      exact ⟨ret_int (by first | rfl | rw [List.take_length]), rfl⟩
end
end Ref
end Go.Proofs.Ytdhhohnaehdpkaa
