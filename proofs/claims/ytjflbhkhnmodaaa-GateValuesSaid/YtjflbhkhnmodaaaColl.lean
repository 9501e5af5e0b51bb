/- Walks through package clause: Compact, collected, Normal. Conditions: none. -/
import Derived.Test.YtjflbhkhnmodaaaSort2
set_option linter.unusedVariables false
set_option linter.unusedSimpArgs false
set_option linter.unusedSectionVars false
open Go.RowKit
namespace Go.Proofs.Ytjflbhkhnmodaaa
open L
namespace Cla
open R01 R14 Go.Sort
section
variable {w : World}
set_option maxRecDepth 100000 in
theorem Compact_calls {w0 : World} {a : Option Addr} {cap : Nat} {xs : List Int} (h : Own w0 (.slice a xs.length cap) xs w) (hl : xs.length ≤ 1000000) :
    Calls Try.prog 34 #[.slice a xs.length cap] w fun e w' => e = .returned (.slice a (Lib.compact xs).length cap) ∧ Own w0 (.slice a (Lib.compact xs).length cap) (Lib.compact xs) w' := by
  have hcl := compact_length xs
  by_cases h0 : xs = []
  · subst h0
    have hS := Try.slices_Compact_int_empty a cap w
    refine hS.mono ?_
    rintro e w' ⟨rfl, rfl⟩
    exact ⟨rfl, h⟩
  · obtain ⟨hlen, hrow⟩ := h.row
    rcases hrow with ⟨_, h2⟩ | ⟨g, cap', cur, he, _, hg, hnc, hcm, hcs, htake⟩
    · exact absurd (List.eq_nil_of_length_eq_zero h2) h0
    · cases he
      have hB : Blk w g cur.toList 3 := by unfold Blk; rw [Array.toArray_toList]; exact hg
      have hcu : xs.length ≤ cur.toList.length := by have := Array.length_toList (xs := cur); omega
      have htk : cur.toList.take xs.length = ints xs := by simpa using htake
      have hH : Holds (Value.int .i64) w g 0 xs.toArray := fun j hj => by
        simp only [List.size_toArray] at hj
        refine ⟨?_, hB.free _⟩
        rw [Nat.zero_add]
        have e1 : (ints xs)[j]? = some (.int .i64 (xs.toArray[j]!)) := by
          rw [ints_get (List.getElem?_eq_getElem hj)]
          simp [hj]
        refine hB.cell ?_
        rw [← htk, List.getElem?_take, if_pos hj] at e1
        exact e1
      have hS := Try.slices_Compact_int g 0 cap xs w hH (by omega) hnc
      refine hS.mono ?_
      rintro e w' ⟨rfl, q, rfl⟩
      have hbs := blk_sorted (Value.int .i64) hB (Lib.compact xs ++ List.replicate (xs.length - (Lib.compact xs).length) 0) (by simp; omega) q #[]
      rw [grow_empty] at hbs
      refine ⟨rfl, ⟨by rw [ints_length]; simp, .inr ⟨g, cap, _, rfl, Nat.zero_le _, hbs.1, by omega, hcm, ?_, ?_⟩⟩, h.fresh, h.u.fresh hbs.2 (fun j hj => .inr (by simp at hj; subst hj; exact h.fresh _ rfl))⟩
      · simp; omega
      · rw [List.map_append, List.append_assoc]
        simp only [List.toList_toArray]
        rw [List.take_left' (by simp)]
        rfl
theorem gd_norm {c : List Int} {k : Nat} (hk : k < (norm c).length) (h : ∀ x ∈ c, LitR x) : LitR ((norm c).getD k 0) := h _ ((norm_mem c _).1 (gd_mem hk))
def oppB (c : List Int) : Bool := oppo (norm c)
set_option maxRecDepth 100000 in
set_option maxHeartbeats 2000000 in
theorem Collected_callsF {v : Value} {c : List Int} (h : SL w 1 v c.length (ints c)) (hl : c.length ≤ 1000000) (hr : ∀ x ∈ c, LitR x) : Calls Try.prog 26 #[v] w (PairF (norm c) (oppB c) w) := by
  have HN := Lib.hid (Clone_calls h (by omega))
  have hnl := norm_length c
  have HR := Lib.hid hr
  have HD := Lib.hid (show norm c = Lib.compact (srt c) from rfl)
  have HRS := Lib.hid (show ∀ x ∈ srt c, LitR x from fun x hx => hr x ((srt_mem c x).1 hx))
  have hsl := srt_length c
  have HSL := Lib.hid hsl
  clear h hr hsl
  go_enter Try.func26, Try.ntmps26
  go_wp2_with fail
  refine HN.out.mono ?_
  rintro e w1 ⟨a, cap, rfl, ho⟩
  have HO := Lib.hid (Sort_calls ho HR.out hl)
  clear ho
  go_wp2_with fail
  refine HO.out.mono ?_
  rintro e w2 ⟨rfl, ho2⟩
  have hz := ho2
  have ho3 : Own w (.slice a (srt c).length cap) (srt c) w2 := by rw [HSL.out]; exact ho2
  have hcm := Compact_calls ho3 (by rw [HSL.out]; exact hl)
  rw [HSL.out, ← HD.out] at hcm
  have HC := Lib.hid hcm
  clear hcm ho3 hz ho2 HO
  go_wp2_with fail
  refine HC.out.mono ?_
  rintro e w3 ⟨rfl, ho4⟩
  have hf := ho4.form
  obtain ⟨a', cap', he, hcl, hform⟩ := hf
  cases he
  have HF := Lib.hid (And.intro hform ho4)
  clear hform ho4 HC
  go_wp2_with fail
  go_loopw [5, 6] (fun t i wr => ∃ k : Nat, 1 ≤ k ∧ (k ≤ (norm c).length ∨ k = 1) ∧ i = .int .i64 k ∧ t = .bool (oppoUp (norm c) k) ∧ Upd [] w3 wr) (fun _ i _ => (norm c).length + 1 - (intOf i).toNat)
  case atStart => exact ⟨1, by omega, by omega, rfl, by simp [oppoUp, List.range_succ], Upd.refl _ _⟩
  case round =>
    obtain ⟨k, hk1, hk, rfl, rfl, hu⟩ := hrel
    have HU := Lib.hid hu
    clear hu
    by_cases hlt : k < (norm c).length
    · obtain ⟨g, rfl, k1⟩ := HF.out.1 (by omega)
      have e1 := HU.out.some (k1 k _ (gd_some (d := 0) hlt)) (by simp)
      have e2 := HU.out.some (k1 (k - 1) _ (gd_some (d := 0) (show k - 1 < (norm c).length by omega))) (by simp)
      have i1 : ((k : Int) - 1).toNat = k - 1 := by omega
      obtain ⟨hx1, hx2⟩ := gd_norm hlt HR.out
      obtain ⟨hy1, hy2⟩ := gd_norm (show k - 1 < (norm c).length by omega) HR.out
      have HS := Lib.hid (oppoUp_succ (norm c) k)
      clear k1
      generalize hgx : (norm c).getD k 0 = x at *
      generalize hgy : (norm c).getD (k - 1) 0 = y at *
      generalize hgo : oppoUp (norm c) k = ob at *
      have HG := Lib.hid (And.intro hgx (And.intro hgy hgo))
      clear hgx hgy hgo
      cases ob with
      | true =>
        go_wp2_with fail
        refine wp_region_qx (by kernel_rfl) (by kernel_rfl) ?_
        repeat (go_big_quiet_step ((fail)))
        refine wpQuiet_nil ?_
        intro x
        go_wp2_with fail
        refine ⟨⟨k + 1, by omega, by omega, by go_num, ?_, HU.out.step x.upd⟩, by simp [intOf]; omega⟩
        rw [HS.out]; rfl
      | false =>
        by_cases hxy : x = -y
        · have hb : (x == -y) = true := by simpa using hxy
          have HX := Lib.hid hxy
          clear hxy
          go_wp2_with fail
          refine wp_region_qx (by kernel_rfl) (by kernel_rfl) ?_
          repeat (go_big_quiet_step ((fail)))
          refine wpQuiet_nil ?_
          intro x
          go_wp2_with fail
          refine ⟨⟨k + 1, by omega, by omega, by go_num, ?_, HU.out.step (Ext.upd _)⟩, by simp [intOf]; omega⟩
          rw [HS.out]; simp [HX.out]; omega
        · have hb : (x == -y) = false := by simpa using hxy
          have HX := Lib.hid hxy
          clear hxy
          go_wp2_with fail
          refine wp_region_qx (by kernel_rfl) (by kernel_rfl) ?_
          repeat (go_big_quiet_step ((fail)))
          refine wpQuiet_nil ?_
          intro x
          go_wp2_with fail
          refine ⟨⟨k + 1, by omega, by omega, by go_num, ?_, HU.out.step (Ext.upd _)⟩, by simp [intOf]; omega⟩
          rw [HS.out]; simp [HX.out]
    · have hop : oppoUp (norm c) k = oppB c := by
        rcases (by omega : k = (norm c).length ∨ (norm c).length = 0 ∧ k = 1) with rfl | ⟨h1, rfl⟩
        · rfl
        · have : norm c = [] := List.eq_nil_of_length_eq_zero h1
          unfold oppB
          rw [this]; rfl
      have HP := Lib.hid hop
      rw [hop]
      clear hop
      go_wp2_with fail
      go_ret2
      exact ⟨_, rfl, (HF.out.2.quiet HU.out).sl, (HF.out.2.quiet HU.out).u, HF.out.2.fresh⟩
theorem Collected_calls {v : Value} {c : List Int} (h : SL w 1 v c.length (ints c)) (hl : c.length ≤ 1000000) (hr : ∀ x ∈ c, LitR x) : Calls Try.prog 26 #[v] w (PairT (norm c) (oppB c) w) :=
  (Collected_callsF h hl hr).mono fun _ _ ⟨v', h1, h2, h3, _⟩ => ⟨v', h1, h2, h3⟩
/-- What Normal returns. -/
def nB (c : List Int) : Bool := decide (listErr c = 0 ∧ taut c = true)
def nL (c : List Int) : List Int := if listErr c = 0 then nrm c else []
def TrioF (l : List Int) (b : Bool) (r : Int) (w : World) (e : Ending) (w' : World) : Prop := ∃ v, e = .returned (.tuple #[v, .bool b, .int .i64 r]) ∧ SL w' 1 v l.length (ints l) ∧ Upd [] w w' ∧ ∀ g, v.ownBlock = some g → w.heap.size ≤ g
def TrioT (l : List Int) (b : Bool) (r : Int) (w : World) (e : Ending) (w' : World) : Prop := ∃ v, e = .returned (.tuple #[v, .bool b, .int .i64 r]) ∧ SL w' 1 v l.length (ints l) ∧ Upd [] w w'
theorem Normal_callsF {v : Value} {c : List Int} (h : SL w 1 v c.length (ints c)) : Calls Try.prog 23 #[v] w (TrioF (nL c) (nB c) (listErr c) w) := by
  have HL := Lib.hid (listError_calls h)
  by_cases hle : listErr c = 0
  · have hlit := listErr_lit hle
    have HC := Lib.hid (Collected_callsF h (by omega) (fun x hx => (hlit.2 x hx).2))
    have hop : oppB c = taut c := oppo_norm (fun x hx => (hlit.2 x hx).1)
    rw [hop] at HC
    have HZ := Lib.hid hle
    cases ht : taut c with
    | true =>
      rw [ht] at HC
      have HE := Lib.hid (And.intro (show nB c = true by unfold nB; rw [decide_eq_true_eq]; exact ⟨hle, ht⟩) (show nL c = [] by unfold nL nrm; rw [if_pos hle, if_pos ht]))
      clear h hlit hop hle ht
      go_enter Try.func23, Try.ntmps23
      go_wp2_with fail
      refine HL.out.mono ?_
      rintro e _ ⟨rfl, rfl⟩
      rw [HZ.out]
      go_wp2_with fail
      refine HC.out.mono ?_
      rintro e w2 ⟨v2, rfl, hs2, hu2, hk2⟩
      go_wp2_with fail
      go_ret3
      refine ⟨.slice none 0 0, by rw [HE.out.1, HZ.out]; rfl, ?_, hu2, by simp [Value.ownBlock]⟩
      rw [HE.out.2]
      exact (Own.nil w2).sl
    | false =>
      rw [ht] at HC
      have HE := Lib.hid (And.intro (show nB c = false by unfold nB; rw [decide_eq_false_iff_not]; rintro ⟨_, h2⟩; rw [ht] at h2; cases h2) (show nL c = norm c by unfold nL nrm; rw [if_pos hle, ht]; simp))
      clear h hlit hop hle ht
      go_enter Try.func23, Try.ntmps23
      go_wp2_with fail
      refine HL.out.mono ?_
      rintro e _ ⟨rfl, rfl⟩
      rw [HZ.out]
      go_wp2_with fail
      refine HC.out.mono ?_
      rintro e w2 ⟨v2, rfl, hs2, hu2, hk2⟩
      obtain ⟨a2, c2, rfl, _, _, _⟩ := SL.elems hs2
      have HS := Lib.hid hs2
      have HK := Lib.hid hk2
      clear hs2 hk2
      go_wp2_with fail
      go_ret3
      refine ⟨.slice a2 (norm c).length c2, by rw [HE.out.1, HZ.out]; rfl, ?_, hu2, HK.out⟩
      rw [HE.out.2]
      exact HS.out
  · have HE := Lib.hid (And.intro (show nB c = false by unfold nB; rw [decide_eq_false_iff_not]; rintro ⟨h2, _⟩; exact hle h2) (show nL c = [] by unfold nL; rw [if_neg hle]))
    have hb : (listErr c != 0) = true := by simpa using hle
    clear h hle
    generalize listErr c = er at *
    go_enter Try.func23, Try.ntmps23
    go_wp2_with fail
    refine HL.out.mono ?_
    rintro e _ ⟨rfl, rfl⟩
    go_wp2_with fail
    go_ret3
    refine ⟨.slice none 0 0, by rw [HE.out.1]; rfl, ?_, Upd.refl _ _, by simp [Value.ownBlock]⟩
    rw [HE.out.2]
    exact (Own.nil w).sl
theorem Normal_calls {v : Value} {c : List Int} (h : SL w 1 v c.length (ints c)) : Calls Try.prog 23 #[v] w (TrioT (nL c) (nB c) (listErr c) w) :=
  (Normal_callsF h).mono fun _ _ ⟨v', h1, h2, h3, _⟩ => ⟨v', h1, h2, h3⟩
end
end Cla
end Go.Proofs.Ytjflbhkhnmodaaa
