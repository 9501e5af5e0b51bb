/- Walks through the reference of clauses: Normal, without, Value, True, Subsumes, State. Conditions: none. -/
import Derived.Test.YtgdpbhbdeaifbaaRef14
set_option linter.unusedVariables false
set_option linter.unusedSimpArgs false
set_option linter.unusedSectionVars false
open Go.RowKit
namespace Go.Proofs.Ytgdpbhbdeaifbaa
open L
namespace Cla
open R01 R14
def nrm (c : List Int) : List Int := if taut c = true then [] else norm c
def tautB (c : List Int) : Bool := taut c
theorem taut_no {c : List Int} : taut c = false ↔ ∀ x ∈ c, -x ∉ c := by
  unfold taut
  rw [List.any_eq_false]
  constructor
  · intro h x hx h2; exact h x hx (List.contains_iff_mem.2 h2)
  · intro h x hx h2; exact h x hx (List.contains_iff_mem.1 h2)
theorem taut_yes {c : List Int} {x : Int} (hx : x ∈ c) (h : -x ∈ c) : taut c = true := by
  unfold taut
  rw [List.any_eq_true]
  exact ⟨x, hx, List.contains_iff_mem.2 h⟩
theorem putAll_length (c : List Int) : (putAll c).length ≤ c.length := by
  unfold putAll
  have : ∀ (c l : List Int), (c.foldl put l).length ≤ l.length + c.length := by
    intro c
    induction c with
    | nil => intro l; simp
    | cons x c ih => intro l; rw [List.foldl_cons]; have := ih (put l x); have := put_length l x; simp; omega
  have := this c []
  simpa using this
section
variable {w : World}
def PairT (l : List Int) (b : Bool) (w : World) (e : Ending) (w' : World) : Prop := ∃ v, e = .returned (.tuple #[v, .bool b]) ∧ SL w' 1 v l.length (ints l) ∧ Upd [] w w'
set_option maxRecDepth 100000 in
set_option maxHeartbeats 2000000 in
theorem RNormal_calls {v : Value} {c : List Int} (h : SL w 1 v c.length (ints c)) (hl : c.length ≤ 900000) (hr : ∀ x ∈ c, x ≠ 0 ∧ LitR x) : Calls Try.prog 21 #[v] w (PairT (nrm c) (tautB c) w) := by
  obtain ⟨a, cap, rfl, q1, r1, hc⟩ := SL.elems h
  have HC := Lib.hid (And.intro hc (And.intro h hr))
  clear hc h hr
  go_enter Try.func21, Try.ntmps21
  go_wp2_with fail
  go_loopw [4, 5] (fun o i wr => ∃ k : Nat, k ≤ c.length ∧ i = .int .i64 k ∧ (∀ x ∈ c.take k, -x ∉ c) ∧ SL wr 1 o (putAll (c.take k)).length (ints (putAll (c.take k))) ∧ Upd [] w wr) (fun _ i _ => c.length - (intOf i).toNat)
  case atStart => exact ⟨0, Nat.zero_le _, rfl, by simp, by simpa [putAll, ints] using (Own.nil w).sl, Upd.refl _ _⟩
  case round =>
    obtain ⟨k, hk, rfl, hlo, hs, hu⟩ := hrel
    have HLO := Lib.hid (And.intro hlo (And.intro hs hu))
    clear hlo hs hu
    by_cases hlt : k < c.length
    · obtain ⟨g, off, rfl, k1⟩ := HC.out.1 (by omega)
      have e1 := HLO.out.2.2.some (k1 k _ (ints_gd hlt)) (by simp)
      obtain ⟨hx0, hx1, hx2⟩ := HC.out.2.2 _ (gd_mem hlt)
      clear k1
      generalize hgx : c.getD k 0 = x at *
      have HG := Lib.hid (And.intro hgx hx0)
      clear hgx hx0
      by_cases hx : hasB c (-x) = true
      · have HX := Lib.hid hx
        clear hx
        have hha := Has_calls (HC.out.2.1.upd HLO.out.2.2 (by simp)) (-x)
        rw [HX.out] at hha
        have HHA := Lib.hid hha
        clear hha
        go_wp2_with (go_at_call 41; refine HHA.out.mono ?_; rintro e w' ⟨rfl, rfl⟩)
        go_ret2
        have ht := taut_yes (by rw [← HG.out.1]; exact gd_mem hlt) (hasB_iff.1 HX.out)
        refine ⟨.slice none 0 0, ?_, ?_, HLO.out.2.2⟩
        · rw [show tautB c = true from ht]; rfl
        · rw [show nrm c = [] by unfold nrm; rw [if_pos ht]]
          exact (Own.nil wr).sl
      · have HX := Lib.hid (show hasB c (-x) = false by simpa using hx)
        clear hx
        have hha := Has_calls (HC.out.2.1.upd HLO.out.2.2 (by simp)) (-x)
        rw [HX.out] at hha
        have hpl := putAll_length (c.take k)
        have hpu := Put_calls HLO.out.2.1 (by rw [List.length_take] at hpl; omega) (fun y hy => (HC.out.2.2 y (List.mem_of_mem_take ((putAll_mem _ _).1 hy))).2) x ⟨hx1, hx2⟩
        have HHA := Lib.hid (And.intro hha hpu)
        clear hha hpu hpl
        go_wp2_with (first | (go_at_call 41; refine HHA.out.1.mono ?_; rintro e w' ⟨rfl, rfl⟩) | (go_at_call 46; refine HHA.out.2.mono ?_; rintro e w4 ⟨v4, rfl, hs4, hu4⟩; have HP := Lib.hid (And.intro hs4 hu4); clear hs4 hu4))
        have hts : c.take (k + 1) = c.take k ++ [x] := by rw [List.take_add_one, gd_some (d := 0) hlt, HG.out.1]; rfl
        refine ⟨⟨k + 1, by omega, by go_num, ?_, ?_, HLO.out.2.2.step HP.out.2⟩, by simp [intOf]; omega⟩
        · intro y hy
          rw [hts] at hy
          rcases List.mem_append.1 hy with hy | hy
          · exact HLO.out.1 y hy
          · simp at hy; subst hy; exact hasB_no.1 HX.out
        · rw [hts, putAll_snoc]
          exact HP.out.1
    · have HE := Lib.hid (show c.take k = c from List.take_of_length_le (by omega))
      have ht : taut c = false := taut_no.2 (by have := HLO.out.1; rwa [HE.out] at this)
      have HT := Lib.hid ht
      have hsl := HLO.out.2.1
      rw [HE.out, putAll_norm (fun x hx => (HC.out.2.2 x hx).1) ht] at hsl
      obtain ⟨ao, co, rfl, _, _, _⟩ := SL.elems hsl
      have HS := Lib.hid hsl
      clear ht hsl
      go_wp2_with fail
      go_ret2
      refine ⟨.slice ao (norm c).length co, by rw [show tautB c = false from HT.out]; rfl, ?_, HLO.out.2.2⟩
      rw [show nrm c = norm c by unfold nrm; rw [HT.out]; simp]
      exact HS.out
def wout (c : List Int) (n : Int) : List Int := c.filter fun x => x != n
set_option maxRecDepth 100000 in
set_option maxHeartbeats 2000000 in
theorem Without_calls {v : Value} {c : List Int} (h : SL w 1 v c.length (ints c)) (hl : c.length ≤ 900000) (n : Int) : Calls Try.prog 49 #[v, .int .i64 n] w fun e w' => ∃ a cap, e = .returned (.slice a (wout c n).length cap) ∧ Own w (.slice a (wout c n).length cap) (wout c n) w' := by
  obtain ⟨a, cap, rfl, q1, r1, hc⟩ := SL.elems h
  have HC := Lib.hid hc
  clear hc h
  go_enter Try.func49, Try.ntmps49
  go_wp2_with fail
  go_loopw [5, 6] (fun o i wr => ∃ k : Nat, k ≤ c.length ∧ i = .int .i64 k ∧ Own w o (wout (c.take k) n) wr) (fun _ i _ => c.length - (intOf i).toNat)
  case atStart => exact ⟨0, Nat.zero_le _, rfl, by simpa [wout] using Own.nil w⟩
  case round =>
    obtain ⟨k, hk, rfl, ho⟩ := hrel
    have hol : (wout (c.take k) n).length ≤ c.length := Nat.le_trans (List.length_filter_le _ _) (by rw [List.length_take]; omega)
    have HO := Lib.hid ho
    clear ho
    by_cases hlt : k < c.length
    · obtain ⟨g, off, rfl, k1⟩ := HC.out (by omega)
      have e1 := HO.out.u.some (k1 k _ (ints_gd hlt)) (by simp)
      clear k1
      have hts : c.take (k + 1) = c.take k ++ [c.getD k 0] := by rw [List.take_add_one, gd_some (d := 0) hlt]; rfl
      generalize c.getD k 0 = x at *
      have HTS := Lib.hid hts
      clear hts
      by_cases hx : x = n
      · subst hx
        go_wp2_with fail
        refine ⟨⟨k + 1, by omega, by go_num, ?_⟩, by simp [intOf]; omega⟩
        rw [HTS.out]
        simpa [wout, List.filter_append] using HO.out
      · have hb : (x != n) = true := by simpa using hx
        have HX := Lib.hid hb
        clear hx
        go_wp2_with (refine wpList_push rfl rfl _ _ _ _ rfl rfl rfl 3 1 8 _ Try.underlying22 infoInt rfl (by decide) (by decide) (.int .i64 x) [.int .i64 x] rfl rfl rfl (ints_one [x]) _ _ _ HO.out.row rfl rfl (by unfold maxLen; omega) (by omega) ?_; intro g4 cap4 w4 o4 u4 k4)
        have N4 := HO.out.push o4 u4 k4
        refine ⟨⟨k + 1, by omega, by go_num, ?_⟩, by simp [intOf]; omega⟩
        rw [HTS.out, show wout (c.take k ++ [x]) n = wout (c.take k) n ++ [x] by simp [wout, List.filter_append, HX.out]]
        simpa using N4
    · have HE := Lib.hid (show c.take k = c from List.take_of_length_le (by omega))
      have ho := HO.out
      rw [HE.out] at ho
      obtain ⟨ao, co, rfl, _, _⟩ := ho.form
      have HO2 := Lib.hid ho
      clear ho
      go_wp2_with fail
      go_ret
      exact ⟨ao, co, rfl, HO2.out⟩
theorem Value_calls {av : Value} {a : List Int} (ha : SL w 1 av a.length (ints a)) (x : Int) (hx : -9223372036854775808 < x) (hr : x.natAbs < a.length) (hv : -9223372036854775808 < a.getD x.natAbs 0 ∧ a.getD x.natAbs 0 ≤ 9223372036854775807) :
    Calls Try.prog 50 #[.int .i64 x, av] w fun e w' => e = .returned (.int .i64 (lval a x)) ∧ w = w' := by
  obtain ⟨aa, cap, rfl, q1, r1, hc⟩ := SL.elems ha
  obtain ⟨g, off, rfl, k1⟩ := hc (by omega)
  have e1 := k1 _ _ (ints_gd hr)
  have HV := Lib.hid (show lval a x = if x < 0 then -(a.getD x.natAbs 0) else a.getD x.natAbs 0 from rfl)
  clear k1 hc ha
  obtain ⟨hv1, hv2⟩ := hv
  generalize a.getD x.natAbs 0 = y at *
  by_cases h : x < 0
  · have i1 : (-x).toNat = x.natAbs := by omega
    have i2 : -x < a.length := by omega
    rw [if_pos h] at HV
    go_enter Try.func50, Try.ntmps50
    go_wp2_with fail
    go_ret
    exact ⟨ret_int HV.out.symm, rfl⟩
  · have i1 : x.toNat = x.natAbs := by omega
    have i2 : x < a.length := by omega
    have i3 : 0 ≤ x := by omega
    rw [if_neg h] at HV
    go_enter Try.func50, Try.ntmps50
    go_wp2_with fail
    go_ret
    exact ⟨ret_int HV.out.symm, rfl⟩
/-- Is a clause true under an assignment? -/
def trueB (c a : List Int) : Bool := c.any fun x => lval a x == 1
set_option maxHeartbeats 1000000 in
theorem True_calls {cv av : Value} {c a : List Int} (hc : SL w 1 cv c.length (ints c)) (ha : SL w 1 av a.length (ints a)) (hb : ∀ x ∈ c, LitR x ∧ x.natAbs < a.length) (hv : ∀ y ∈ a, -9223372036854775808 < y ∧ y ≤ 9223372036854775807) :
    Calls Try.prog 32 #[cv, av] w fun e w' => e = .returned (.bool (trueB c a)) ∧ w = w' := by
  obtain ⟨ac, capc, rfl, q1, r1, kc⟩ := SL.elems hc
  have HC := Lib.hid (And.intro kc (And.intro hb hv))
  have HA := Lib.hid ha
  clear kc hc ha hb hv
  go_enter Try.func32, Try.ntmps32
  go_wp2_with fail
  go_loop [5] (fun i => ∃ k : Nat, k ≤ c.length ∧ i = .int .i64 k ∧ trueB (c.take k) a = false) (fun i => c.length - (intOf i).toNat)
  case atStart => exact ⟨0, Nat.zero_le _, rfl, by simp [trueB]⟩
  case round =>
    obtain ⟨k, hk, rfl, hlo⟩ := hrel
    have HLO := Lib.hid hlo
    clear hlo
    by_cases hlt : k < c.length
    · obtain ⟨g, off, rfl, k1⟩ := HC.out.1 (by omega)
      have e1 := k1 k _ (ints_gd hlt)
      obtain ⟨⟨hx1, hx2⟩, hx3⟩ := HC.out.2.1 _ (gd_mem hlt)
      have hmem := gd_mem hlt
      clear k1
      generalize hgx : c.getD k 0 = x at *
      have HG := Lib.hid (And.intro hgx hmem)
      clear hgx hmem
      have HV := Lib.hid (Value_calls HA.out x (by omega) hx3 (HC.out.2.2 _ (gd_mem hx3)))
      by_cases hx : lval a x = 1
      · have HX := Lib.hid hx
        clear hx
        go_wp2_with (go_at_call 50; refine HV.out.mono ?_; rintro e w' ⟨rfl, rfl⟩; rw [HX.out])
        go_ret
        refine ⟨ret_bool ?_, rfl⟩
        unfold trueB
        rw [eq_comm, List.any_eq_true]
        exact ⟨x, HG.out.2, by rw [HX.out]; rfl⟩
      · have HX := Lib.hid hx
        have hb : (lval a x == 1) = false := by simpa using hx
        clear hx
        generalize hly : lval a x = ly at *
        have HY := Lib.hid hly
        clear hly
        go_wp2_with (go_at_call 50; refine HV.out.mono ?_; rintro e w' ⟨rfl, rfl⟩)
        refine ⟨⟨k + 1, by omega, by go_num, ?_⟩, by simp [intOf]; omega⟩
        rw [List.take_add_one, gd_some (d := 0) hlt, HG.out.1]
        have := HLO.out
        unfold trueB at this ⊢
        rw [List.any_append, this]
        simpa [HY.out] using HX.out
    · have HE := Lib.hid (show trueB c a = false by have := HLO.out; rwa [List.take_of_length_le (by omega)] at this)
      go_wp2_with fail
      go_ret
      exact ⟨ret_bool HE.out.symm, rfl⟩
/-- What Subsumes returns. -/
def subsB (a b : List Int) : Bool := decide (listErr a = 0 ∧ listErr b = 0 ∧ ∀ x ∈ a, x ∈ b)
def subsE (a b : List Int) : Int := if listErr a ≠ 0 then listErr a else listErr b
set_option maxRecDepth 100000 in
set_option maxHeartbeats 2000000 in
theorem RSubs_calls {v1 v2 : Value} {a b : List Int} (h1 : SL w 1 v1 a.length (ints a)) (h2 : SL w 1 v2 b.length (ints b)) :
    Calls Try.prog 24 #[v1, v2] w fun e w' => e = .returned (.tuple #[.bool (subsB a b), .int .i64 (subsE a b)]) ∧ w = w' := by
  have HL1 := Lib.hid (RList_calls h1)
  have HL2 := Lib.hid (RList_calls h2)
  obtain ⟨aa, cap, rfl, q1, r1, hc⟩ := SL.elems h1
  have HC := Lib.hid (And.intro hc h2)
  clear h1 hc h2
  by_cases e1 : listErr a = 0
  · have E1 := Lib.hid e1
    by_cases e2 : listErr b = 0
    · have E2 := Lib.hid e2
      have HE := Lib.hid (show subsE a b = 0 by unfold subsE; rw [if_neg (by rw [e1]; simp), e2])
      clear e1 e2
      go_enter Try.func24, Try.ntmps24
      go_wp2_with fail
      refine HL1.out.mono ?_
      rintro e _ ⟨rfl, rfl⟩
      rw [E1.out]
      go_wp2_with fail
      refine HL2.out.mono ?_
      rintro e _ ⟨rfl, rfl⟩
      rw [E2.out]
      go_wp2_with fail
      go_loop [8] (fun i => ∃ k : Nat, k ≤ a.length ∧ i = .int .i64 k ∧ ∀ x ∈ a.take k, x ∈ b) (fun i => a.length - (intOf i).toNat)
      case atStart => exact ⟨0, Nat.zero_le _, rfl, by simp⟩
      case round =>
        obtain ⟨k, hk, rfl, hlo⟩ := hrel
        have HLO := Lib.hid hlo
        clear hlo
        by_cases hlt : k < a.length
        · obtain ⟨g, off, rfl, k1⟩ := HC.out.1 (by omega)
          have e1 := k1 k _ (ints_gd hlt)
          have hmem := gd_mem hlt
          clear k1
          generalize hgx : a.getD k 0 = x at *
          have HG := Lib.hid (And.intro hgx hmem)
          clear hgx hmem
          have hh := Has_calls HC.out.2 x
          by_cases hx : x ∈ b
          · rw [hasB_iff.2 hx] at hh
            have HH := Lib.hid (And.intro hh hx)
            clear hh hx
            go_wp2_with (go_at_call 41; refine HH.out.1.mono ?_; rintro e w' ⟨rfl, rfl⟩)
            refine ⟨⟨k + 1, by omega, by go_num, ?_⟩, by simp [intOf]; omega⟩
            rw [List.take_add_one, gd_some (d := 0) hlt, HG.out.1]
            intro y hy
            rcases List.mem_append.1 hy with hy | hy
            · exact HLO.out y hy
            · simp at hy; subst hy; exact HH.out.2
          · rw [hasB_no.2 hx] at hh
            have HH := Lib.hid (And.intro hh hx)
            clear hh hx
            go_wp2_with (go_at_call 41; refine HH.out.1.mono ?_; rintro e w' ⟨rfl, rfl⟩)
            go_ret2
            rw [HE.out, show subsB a b = false by unfold subsB; rw [decide_eq_false_iff_not]; rintro ⟨_, _, h⟩; exact HH.out.2 (h x HG.out.2)]
            exact ⟨rfl, rfl⟩
        · have HA := Lib.hid (show ∀ x ∈ a, x ∈ b by have := HLO.out; rwa [List.take_of_length_le (by omega)] at this)
          go_wp2_with fail
          go_ret2
          rw [HE.out, show subsB a b = true by unfold subsB; rw [decide_eq_true_eq]; exact ⟨E1.out, E2.out, HA.out⟩]
          exact ⟨rfl, rfl⟩
    · have HE := Lib.hid (And.intro (show subsE a b = listErr b by unfold subsE; rw [if_neg (by rw [e1]; simp)]) (show subsB a b = false by unfold subsB; rw [decide_eq_false_iff_not]; rintro ⟨_, h, _⟩; exact e2 h))
      have hb : (listErr b != 0) = true := by simpa using e2
      clear e1 e2
      generalize listErr b = er at *
      go_enter Try.func24, Try.ntmps24
      go_wp2_with fail
      refine HL1.out.mono ?_
      rintro e _ ⟨rfl, rfl⟩
      rw [E1.out]
      go_wp2_with fail
      refine HL2.out.mono ?_
      rintro e _ ⟨rfl, rfl⟩
      go_wp2_with fail
      go_ret2
      rw [HE.out.1, HE.out.2]
      exact ⟨rfl, rfl⟩
  · have HE := Lib.hid (And.intro (show subsE a b = listErr a by unfold subsE; rw [if_pos e1]) (show subsB a b = false by unfold subsB; rw [decide_eq_false_iff_not]; rintro ⟨h, _⟩; exact e1 h))
    have hb : (listErr a != 0) = true := by simpa using e1
    clear e1
    generalize listErr a = er at *
    go_enter Try.func24, Try.ntmps24
    go_wp2_with fail
    refine HL1.out.mono ?_
    rintro e _ ⟨rfl, rfl⟩
    go_wp2_with fail
    go_ret2
    rw [HE.out.1, HE.out.2]
    exact ⟨rfl, rfl⟩
end
end Cla
end Go.Proofs.Ytgdpbhbdeaifbaa
