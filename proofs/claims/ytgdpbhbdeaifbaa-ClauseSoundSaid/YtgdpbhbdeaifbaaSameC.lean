/- Walks through the laws of clauses: ClauseSame. Conditions: none. -/
import Derived.Test.YtgdpbhbdeaifbaaLives14
import Derived.Test.YtgdpbhbdeaifbaaRef14c
import Derived.Test.YtgdpbhbdeaifbaaAll
import Derived.Test.YtgdpbhbdeaifbaaColl
set_option linter.unusedVariables false
set_option linter.unusedSimpArgs false
set_option linter.unusedSectionVars false
open Go.RowKit
namespace Go.Proofs.Ytgdpbhbdeaifbaa
open L
namespace Law
open R01 R14 Cla
/-- Literals of few variables. -/
def Few (v : Nat) (c : List Int) : Prop := ∀ x ∈ c, x ≠ 0 ∧ x.natAbs ≤ v
theorem asg_val {v : Nat} {t : List Int} (h : Asg v t) {x : Int} (h0 : x ≠ 0) (h1 : x.natAbs ≤ v) : lval t x = 1 ∨ lval t x = -1 := by
  unfold lval
  have := h.2.2 x.natAbs (by omega) h1
  split <;> omega
theorem asg_neg {v : Nat} {t : List Int} (h : Asg v t) {x : Int} (h0 : x ≠ 0) (h1 : x.natAbs ≤ v) : lval t (-x) = -(lval t x) := by
  unfold lval
  rw [Int.natAbs_neg]
  by_cases hx : x < 0
  · rw [if_neg (by omega), if_pos hx]; omega
  · rw [if_pos (by omega), if_neg hx]
theorem listErr_few {v : Nat} {c : List Int} (h : Few v c) (hv : v ≤ 100) (hl : c.length ≤ 65536) : listErr c = 0 := by
  unfold listErr
  rw [if_neg (by omega), if_pos]
  rw [List.all_eq_true]
  intro x hx
  have := h x hx
  simp [isL, this.1]; omega
theorem state_asg {v : Nat} {c t : List Int} (hc : Few v c) (hv : v ≤ 100) (hl : c.length ≤ 65536) (ht : Asg v t) : stateRes c t = (trueB c t, [], 0) := by
  unfold stateRes
  have hb : ∀ x ∈ c, badV t x = false := fun x hx => by
    have h1 := hc x hx
    have h2 := ht.2.2 x.natAbs (by omega) h1.2
    have h3 := ht.1
    rw [Bool.eq_false_iff, ne_eq, badV_iff]
    omega
  rw [if_neg (by rw [listErr_few hc hv hl]; simp), if_neg (by
    intro h
    rw [List.any_eq_true] at h
    obtain ⟨x, hx, h2⟩ := h
    rw [hb x hx] at h2; cases h2)]
  have hf : c.filter (fun x => lval t x == 0) = [] := by
    rw [List.filter_eq_nil_iff]
    intro x hx
    have h1 := hc x hx
    have := asg_val ht h1.1 h1.2
    simp; omega
  rw [hf]
  rfl
theorem nrm_few {v : Nat} {c : List Int} (h : Few v c) : Few v (nrm c) := by
  unfold nrm
  split
  · intro x hx; simp at hx
  · intro x hx; exact h x ((norm_mem c x).1 hx)
theorem same_true {v : Nat} {c t : List Int} (hc : Few v c) (ht : Asg v t) : trueB c t = (trueB (nrm c) t || tautB c) := by
  unfold tautB
  cases h : taut c with
  | true =>
    rw [Bool.or_true]
    unfold taut at h
    rw [List.any_eq_true] at h
    obtain ⟨x, hx, hn⟩ := h
    rw [List.contains_iff_mem] at hn
    have h1 := hc x hx
    unfold trueB
    rw [List.any_eq_true]
    rcases asg_val ht h1.1 h1.2 with h2 | h2
    · exact ⟨x, hx, by rw [h2]; rfl⟩
    · exact ⟨-x, hn, by rw [asg_neg ht h1.1 h1.2, h2]; rfl⟩
  | false =>
    rw [Bool.or_false]
    unfold nrm
    rw [h]
    simp only [Bool.false_eq_true, if_false]
    unfold trueB
    rw [Bool.eq_iff_iff, List.any_eq_true, List.any_eq_true]
    constructor
    · rintro ⟨x, hx, h2⟩; exact ⟨x, (norm_mem c x).2 hx, h2⟩
    · rintro ⟨x, hx, h2⟩; exact ⟨x, (norm_mem c x).1 hx, h2⟩
theorem asg_i64 {v : Nat} {t : List Int} (h : Asg v t) : ∀ x ∈ t, IsI64 x := by
  intro x hx
  obtain ⟨i, hi, rfl⟩ := List.getElem_of_mem hx
  have e : t.getD i 0 = t[i] := by rw [List.getD_eq_getElem?_getD, List.getElem?_eq_getElem hi]; rfl
  rw [← e]
  by_cases h0 : i = 0
  · subst h0; rw [h.2.1]; unfold IsI64; omega
  · have := h.2.2 i (by omega) (by have := h.1; omega)
    unfold IsI64; omega
section
variable {w : World}
set_option maxRecDepth 100000 in
set_option maxHeartbeats 8000000 in
theorem ClauseSame_calls {lv : Value} {xs : List Int} (hx : ∀ x ∈ xs, IsI64 x) (hl : SL w 1 lv xs.length (ints xs)) :
    Calls Try.prog 9 #[lv] w fun e w' => e = .returned (.bool true) ∧ Upd [] w w' := by
  obtain ⟨a, cap, rfl, q1, r1, hc⟩ := SL.elems hl
  have HC := Lib.hid (And.intro hc hx)
  clear hc hl hx
  go_enter Try.func9, Try.ntmps9
  go_wp2_with fail
  go_loopw [3, 4] (fun o i wr => ∃ (k : Nat) (c : List Int), k ≤ 8 ∧ k ≤ xs.length ∧ i = .int .i64 k ∧ c.length = k ∧ Own w o c wr ∧ Few 4 c) (fun _ i _ => 8 - (intOf i).toNat)
  case atStart => exact ⟨0, [], by omega, by omega, rfl, rfl, Own.nil w, by intro x hx; simp at hx⟩
  case round =>
    obtain ⟨k, c, hk8, hk, rfl, hcl, ho, hf⟩ := hrel
    have HO := Lib.hid (And.intro hcl (And.intro ho hf))
    have hcl2 : c.length ≤ 8 := by omega
    clear hcl hf
    by_cases hlt : k < xs.length ∧ k < 8
    · clear ho
      obtain ⟨hlt, hlt8⟩ := hlt
      obtain ⟨g, off, rfl, k1⟩ := HC.out.1 (by omega)
      have e0 := HO.out.2.1.u.some (k1 k _ (ints_gd hlt)) (by simp)
      have hxi := HC.out.2 _ (gd_mem hlt)
      clear k1
      generalize xs.getD k 0 = x at *
      have ha0 := around_lo (n := x) (k := 8) (by omega)
      have ha1 := around_hi (n := x) (k := 8) (by omega)
      have HA := Lib.hid (fun w => Around_calls x 8 w hxi (by omega) (by omega))
      generalize around x 8 = y at *
      have few_push : ∀ z : Int, z ≠ 0 → -4 ≤ z → z ≤ 4 → Few 4 (c ++ [z]) := fun z h0 h1 h2 u hu => by
        rcases List.mem_append.1 hu with hu | hu
        · exact HO.out.2.2 u hu
        · simp at hu; subst hu; exact ⟨h0, by omega⟩
      have HFP := Lib.hid few_push
      clear few_push
      by_cases h4 : 4 ≤ y
      · go_wp2_with (first | (go_at_call 13; refine (HA.out _).mono ?_; rintro e w' ⟨rfl, rfl⟩) | (refine wpList_push rfl rfl _ _ _ _ rfl rfl rfl 3 1 8 _ Try.underlying22 infoInt rfl (by decide) (by decide) (.int .i64 (y - 4 + 1)) [.int .i64 (y - 4 + 1)] rfl rfl rfl (ints_one [y - 4 + 1]) _ _ _ HO.out.2.1.row rfl rfl (by unfold maxLen; omega) (by omega) ?_; intro g4 cap4 w4 o4 u4 k4))
        have N4 := HO.out.2.1.push o4 u4 k4
        exact ⟨⟨k + 1, c ++ [y - 4 + 1], by omega, by omega, by go_num, by have := HO.out.1; simp; omega, by simpa using N4, HFP.out _ (by omega) (by omega) (by omega)⟩, by simp [intOf]; omega⟩
      · go_wp2_with (first | (go_at_call 13; refine (HA.out _).mono ?_; rintro e w' ⟨rfl, rfl⟩) | (refine wpList_push rfl rfl _ _ _ _ rfl rfl rfl 3 1 8 _ Try.underlying22 infoInt rfl (by decide) (by decide) (.int .i64 (y - 4)) [.int .i64 (y - 4)] rfl rfl rfl (ints_one [y - 4]) _ _ _ HO.out.2.1.row rfl rfl (by unfold maxLen; omega) (by omega) ?_; intro g4 cap4 w4 o4 u4 k4))
        have N4 := HO.out.2.1.push o4 u4 k4
        exact ⟨⟨k + 1, c ++ [y - 4], by omega, by omega, by go_num, by have := HO.out.1; simp; omega, by simpa using N4, HFP.out _ (by omega) (by omega) (by omega)⟩, by simp [intOf]; omega⟩
    · obtain ⟨ac, cc, rfl, _, _⟩ := ho.form
      have HS := Lib.hid (And.intro ho.sl (And.intro ho.u HO.out.2.2))
      have HN : Hid (k < xs.length → 8 ≤ k) := by unfold Hid; omega
      have key : ∀ (Q : Prop), (k < xs.length → 8 ≤ k → Q) → (¬ k < xs.length → Q) → Q := fun Q h1 h2 => if h : k < xs.length then h1 h (HN.out h) else h2 h
      clear ho HO
      refine key _ (fun h1 h2 => ?_) (fun h1 => ?_)
      all_goals
        clear hlt key
        go_wp2_with fail
        refine (Normal_calls HS.out.1).mono ?_
        rintro e w2 ⟨v2, rfl, s2, u2⟩
        have hle := listErr_few HS.out.2.2 (by omega) (by omega)
        have hnl : nL c = nrm c := by unfold nL; rw [if_pos hle]
        have hnb : nB c = tautB c := by unfold nB tautB; rw [hle]; simp
        rw [hle, hnb]
        rw [hnl] at s2
        have hnn : (nrm c).length ≤ 65536 := by
          have := norm_length c
          unfold nrm; split
          · simp
          · omega
        obtain ⟨a2, c2, rfl, _, _, _⟩ := SL.elems s2
        have H2 := Lib.hid (And.intro (HS.out.1.upd u2 (by simp)) (And.intro s2 (HS.out.2.1.step u2)))
        have HNF := Lib.hid (And.intro HS.out.2.2 (And.intro (nrm_few HS.out.2.2) hnn))
        clear s2 u2 hle hnl hnb hnn
        generalize htb : tautB c = tb at *
        have HTB := Lib.hid htb
        clear htb
        go_wp2_with fail
        refine (All_calls 4 (by omega)).mono ?_
        rintro e w3 ⟨v3, T, rfl, hT, hTl, hTA, u3⟩
        obtain ⟨at_, ct, rfl, _, _, hct⟩ := hT.form
        have H3 := Lib.hid (And.intro (H2.out.1.upd u3 (by simp)) (And.intro (H2.out.2.1.upd u3 (by simp)) (And.intro (H2.out.2.2.step u3) (And.intro hct hTA))))
        clear hT hTl hTA u3 hct H2
        go_wp2_with fail
        obtain ⟨wo, rfl⟩ : ∃ wo : World, wo = wr := ⟨_, rfl⟩
        go_loopw [10] (fun i wr => ∃ j : Nat, j ≤ T.length ∧ i = .int .i64 j ∧ Upd [] w3 wr) (fun i _ => T.length - (intOf i).toNat)
        case atStart => exact ⟨0, Nat.zero_le _, rfl, Upd.refl _ _⟩
        case round =>
          obtain ⟨j, hj, rfl, hu⟩ := hrel
          by_cases hltj : j < T.length
          · obtain ⟨g, off, ay, capy, rfl, e1, hsl, _, _⟩ := (H3.out.2.2.2.1 j hltj).upd hu
            have hta := H3.out.2.2.2.2 _ (gd_memA (d := []) hltj)
            have HU := Lib.hid (And.intro hu (And.intro hsl hta))
            generalize T.getD j [] = t at *
            clear hu hsl hta
            go_wp2_with fail
            refine (State_calls (H3.out.1.upd HU.out.1 (by simp)) HU.out.2.1 (asg_i64 HU.out.2.2)).mono ?_
            rintro e w5 ⟨v5, rfl, o5⟩
            rw [state_asg HNF.out.1 (by omega) (by omega) HU.out.2.2] at o5 ⊢
            obtain ⟨a5, c5, he5, hl5, hf5⟩ := o5.form
            subst he5
            clear hl5 hf5
            have e2 := o5.u.some e1 (by simp)
            have H5 := Lib.hid (HU.out.1.step o5.u)
            have HU2 := Lib.hid (And.intro (HU.out.2.1.upd o5.u (by simp)) HU.out.2.2)
            clear o5 e1 HU
            simp only [List.length_nil]
            go_wp2_with fail
            refine (State_calls (H3.out.2.1.upd H5.out (by simp)) HU2.out.1 (asg_i64 HU2.out.2)).mono ?_
            rintro e w6 ⟨v6, rfl, o6⟩
            rw [state_asg HNF.out.2.1 (by omega) HNF.out.2.2 HU2.out.2] at o6 ⊢
            obtain ⟨a6, c6, he6, hl6, hf6⟩ := o6.form
            subst he6
            clear hl6 hf6
            have H6 := Lib.hid (H5.out.step o6.u)
            have hst := same_true HNF.out.1 HU2.out.2
            rw [HTB.out] at hst
            clear o6 e2
            simp only [List.length_nil]
            generalize trueB c t = b1 at *
            generalize trueB (nrm c) t = b2 at *
            have hbb : (tb != tb) = false := by simp
            cases b2 with
            | true =>
              rw [Bool.true_or] at hst
              subst hst
              go_wp2_with fail
              exact ⟨⟨j + 1, by omega, by go_num, H6.out⟩, by simp [intOf]; omega⟩
            | false =>
              rw [Bool.false_or] at hst
              subst hst
              go_wp2_with fail
              exact ⟨⟨j + 1, by omega, by go_num, H6.out⟩, by simp [intOf]; omega⟩
          · go_wp2_with fail
            refine (lives_calls).mono ?_
            rintro e w4 ⟨rfl, u4⟩
            go_wp2_with fail
            go_ret
            exact ⟨rfl, (H3.out.2.2.1.step hu).step u4⟩
end
end Law
end Go.Proofs.Ytgdpbhbdeaifbaa
