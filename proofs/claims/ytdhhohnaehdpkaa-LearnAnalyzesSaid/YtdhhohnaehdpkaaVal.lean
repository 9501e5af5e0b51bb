/- Walks through package clause and its reference: Valid, examine, List, Has, Contains, Clone. Conditions: none. -/
import Derived.Test.YtdhhohnaehdpkaaClause
import Derived.Test.YtdhhohnaehdpkaaSome
import Derived.Test.YtdhhohnaehdpkaaNorm
set_option linter.unusedVariables false
set_option linter.unusedSimpArgs false
set_option linter.unusedSectionVars false
open Go.RowKit
namespace Go.Proofs.Ytdhhohnaehdpkaa
open L
namespace Cla
open R01 R14
def validErr (c : List Int) : Int := if listErr c ≠ 0 then listErr c else if ordB c = true then 0 else 10
theorem validErr_ok {c : List Int} : validErr c = 0 ↔ listErr c = 0 ∧ Ord c := by
  unfold validErr
  by_cases h : listErr c = 0
  · by_cases h2 : ordB c = true
    · simp [h, h2, (ordB_iff c).1 h2]
    · have : ¬ Ord c := fun h3 => h2 ((ordB_iff c).2 h3)
      simp [h, h2, this]
  · simp [h]
theorem ordUp_false {c : List Int} {k : Nat} (hk : k < c.length) (h0 : 0 < k) (h : ¬ (c.getD (k - 1) 0).natAbs < (c.getD k 0).natAbs) : ordB c = false := by
  rw [Bool.eq_false_iff]
  intro h2
  unfold ordB at h2
  rw [List.all_eq_true] at h2
  have := h2 k (by simp [hk])
  simp only [Bool.or_eq_true, decide_eq_true_eq] at this
  omega
theorem ints_gd {c : List Int} {k : Nat} (h : k < c.length) : (ints c)[k]? = some (.int .i64 (c.getD k 0)) := ints_get (by rw [List.getD_eq_getElem?_getD, List.getElem?_eq_getElem h]; rfl)
theorem gd_mem {c : List Int} {k : Nat} (h : k < c.length) : c.getD k 0 ∈ c := by
  rw [List.getD_eq_getElem?_getD, List.getElem?_eq_getElem h]
  exact List.getElem_mem h
/-- Is a number in a list? -/
def hasB (c : List Int) (n : Int) : Bool := c.contains n
theorem hasB_iff {c : List Int} {n : Int} : hasB c n = true ↔ n ∈ c := by unfold hasB; exact List.contains_iff_mem
theorem hasB_no {c : List Int} {n : Int} : hasB c n = false ↔ n ∉ c := by rw [Bool.eq_false_iff, ne_eq, hasB_iff]
def IdxT (c : List Int) (n : Int) (w : World) (e : Ending) (w' : World) : Prop := (∃ i : Int, e = .returned (.int .i64 i) ∧ (0 ≤ i ↔ n ∈ c) ∧ -1 ≤ i) ∧ w = w'
section
variable {w : World}
set_option maxRecDepth 100000 in
set_option maxHeartbeats 2000000 in
theorem Valid_calls {v : Value} {c : List Int} (h : SL w 1 v c.length (ints c)) : Calls Try.prog 35 #[v] w fun e w' => e = .returned (.int .i64 (validErr c)) ∧ Upd [] w w' := by
  have HL := Lib.hid (listError_calls h)
  obtain ⟨a, cap, rfl, q1, r1, hc⟩ := SL.form h
  have HC := Lib.hid hc
  clear h hc
  by_cases hle : listErr c = 0
  · have HLIT := Lib.hid (listErr_lit hle).2
    have hcl := (listErr_lit hle).1
    have HR := Lib.hid (show validErr c = if ordB c = true then 0 else 10 by unfold validErr; rw [if_neg (by rw [hle]; simp)])
    have HLE := Lib.hid hle
    clear hle
    go_enter Try.func35, Try.ntmps35
    go_wp2_with fail
    refine HL.out.mono ?_
    rintro e _ ⟨rfl, rfl⟩
    rw [HLE.out]
    go_wp2_with fail
    go_loopw [4] (fun i wr => ∃ k : Nat, 1 ≤ k ∧ (k ≤ c.length ∨ k = 1) ∧ i = .int .i64 k ∧ ordUp c k = true ∧ Upd [] w wr) (fun i _ => c.length + 1 - (intOf i).toNat)
    case atStart => exact ⟨1, by omega, by omega, rfl, by simp [ordUp, List.range_succ], Upd.refl _ _⟩
    case round =>
      obtain ⟨k, hk1, hk, rfl, ho, hu⟩ := hrel
      have HO := Lib.hid (And.intro ho hu)
      clear ho hu
      by_cases hlt : k < c.length
      · obtain ⟨g, off, rfl, k1⟩ := HC.out (by omega)
        have e1 := HO.out.2.some (k1 k _ (ints_gd hlt)) (by simp)
        have e2 := HO.out.2.some (k1 (k - 1) _ (ints_gd (show k - 1 < c.length by omega))) (by simp)
        have i1 : ((k : Int) - 1).toNat = k - 1 := by omega
        obtain ⟨_, hx1, hx2⟩ := HLIT.out _ (gd_mem hlt)
        obtain ⟨_, hy1, hy2⟩ := HLIT.out _ (gd_mem (show k - 1 < c.length by omega))
        clear k1
        generalize hgx : c.getD k 0 = x at *
        generalize hgy : c.getD (k - 1) 0 = y at *
        have HG := Lib.hid (And.intro hgx hgy)
        clear hgx hgy
        by_cases hxy : y.natAbs < x.natAbs
        · have hb : ¬ ((x.natAbs : Int) ≤ y.natAbs) := by omega
          go_wp2_with fail
          refine wp_region_qx (by kernel_rfl) (by kernel_rfl) ?_
          repeat (go_big_quiet_step (((first | (go_at_call 51; exact qs (var_calls x (by omega) (by omega))) | (go_at_call 51; exact qs (var_calls y (by omega) (by omega)))))))
          refine wpQuiet_nil ?_
          intro x
          go_wp2_with fail
          refine ⟨⟨k + 1, by omega, by omega, by go_num, ?_, HO.out.2.step x.upd⟩, by simp [intOf]; omega⟩
          rw [ordUp_succ, HO.out.1, HG.out.1, HG.out.2]
          simp [hxy]
        · have hb : ((x.natAbs : Int) ≤ y.natAbs) := by omega
          go_wp2_with fail
          refine wp_region_qx (by kernel_rfl) (by kernel_rfl) ?_
          repeat (go_big_quiet_step (((first | (go_at_call 51; exact qs (var_calls x (by omega) (by omega))) | (go_at_call 51; exact qs (var_calls y (by omega) (by omega)))))))
          refine wpQuiet_nil ?_
          intro x
          go_wp2_with fail
          go_ret
          refine ⟨ret_int ?_, HO.out.2.step x.upd⟩
          rw [HR.out, ordUp_false hlt (by omega) (by rw [HG.out.1, HG.out.2]; exact hxy)]
          rfl
      · go_wp2_with fail
        go_ret
        refine ⟨ret_int ?_, HO.out.2⟩
        rw [HR.out, if_pos]
        rcases (by omega : k = c.length ∨ c.length = 0) with hk | hk
        · subst hk
          exact HO.out.1
        · have : c = [] := List.eq_nil_of_length_eq_zero (by omega)
          subst this; rfl
  · have HR := Lib.hid (show validErr c = listErr c by unfold validErr; rw [if_pos hle])
    generalize listErr c = er at *
    have hb : (er != 0) = true := by simpa using hle
    clear hle
    go_enter Try.func35, Try.ntmps35
    go_wp2_with fail
    refine HL.out.mono ?_
    rintro e _ ⟨rfl, rfl⟩
    go_wp2_with fail
    go_ret
    exact ⟨ret_int HR.out.symm, Upd.refl _ _⟩
set_option maxHeartbeats 1000000 in
theorem RList_calls {v : Value} {c : List Int} (h : SL w 1 v c.length (ints c)) : Calls Try.prog 73 #[v] w fun e w' => e = .returned (.int .i64 (listErr c)) ∧ w = w' := by
  obtain ⟨a, cap, rfl, q1, r1, hc⟩ := SL.form h
  have HC := Lib.hid hc
  clear h hc
  by_cases hl : 65536 < c.length
  · have hl2 : (65536 : Int) < c.length := by omega
    have HR := Lib.hid (show listErr c = 4 by simp [listErr, hl])
    go_enter Try.func73, Try.ntmps73
    go_wp2_with fail
    go_ret
    exact ⟨ret_int HR.out.symm, rfl⟩
  · have hl2 : ¬ (65536 : Int) < c.length := by omega
    have HR := Lib.hid (show listErr c = if c.all isL = true then 0 else 1 by simp [listErr, hl])
    go_enter Try.func73, Try.ntmps73
    go_wp2_with fail
    go_loop [3] (fun i => ∃ k : Nat, k ≤ c.length ∧ i = .int .i64 k ∧ (c.take k).all isL = true) (fun i => c.length - (intOf i).toNat)
    case atStart => exact ⟨0, Nat.zero_le _, rfl, by simp⟩
    case round =>
      obtain ⟨k, hk, rfl, hlo⟩ := hrel
      have HLO := Lib.hid hlo
      clear hlo
      by_cases hlt : k < c.length
      · obtain ⟨g, off, rfl, k1⟩ := HC.out (by omega)
        have e1 := k1 k _ (ints_get (List.getElem?_eq_getElem hlt))
        have HG := Lib.hid (show c[k]? = some c[k] from List.getElem?_eq_getElem hlt)
        clear k1
        generalize c[k] = x at *
        by_cases hx : isL x = true
        · have hx2 : x ≠ 0 ∧ -1073741824 ≤ x ∧ x ≤ 1073741824 := by simpa [isL] using hx
          obtain ⟨hx0, hx1, hx2⟩ := hx2
          have hb : (x == 0) = false := by simpa using hx0
          have HX := Lib.hid hx
          clear hx hx0
          go_wp2_with fail
          refine ⟨⟨k + 1, by omega, by go_num, ?_⟩, by simp [intOf]; omega⟩
          rw [List.take_add_one, HG.out, List.all_append, HLO.out]
          simp [HX.out]
        · have HE := Lib.hid (show listErr c = 1 by
            rw [HR.out, if_neg]
            intro ha
            rw [List.all_eq_true] at ha
            exact hx (ha x (List.mem_of_getElem? HG.out)))
          have hx2 : x = 0 ∨ (x ≠ 0 ∧ x < -1073741824) ∨ (x ≠ 0 ∧ 1073741824 < x) := by
            simp [isL] at hx; omega
          clear hx
          rcases hx2 with rfl | ⟨h0, h1⟩ | ⟨h0, h1⟩
          · go_wp2_with fail
            go_ret
            exact ⟨ret_int HE.out.symm, rfl⟩
          · have hb : (x == 0) = false := by simpa using h0
            clear h0
            go_wp2_with fail
            go_ret
            exact ⟨ret_int HE.out.symm, rfl⟩
          · have hb : (x == 0) = false := by simpa using h0
            clear h0
            go_wp2_with fail
            go_ret
            exact ⟨ret_int HE.out.symm, rfl⟩
      · have HE := Lib.hid (show listErr c = 0 by
          have := HLO.out
          rw [List.take_of_length_le (by omega)] at this
          rw [HR.out, if_pos this])
        go_wp2_with fail
        go_ret
        exact ⟨ret_int HE.out.symm, rfl⟩
set_option maxRecDepth 100000 in
set_option maxHeartbeats 2000000 in
theorem RValid_calls {v : Value} {c : List Int} (h : SL w 1 v c.length (ints c)) : Calls Try.prog 42 #[v] w fun e w' => e = .returned (.int .i64 (validErr c)) ∧ Upd [] w w' := by
  have HL := Lib.hid (RList_calls h)
  obtain ⟨a, cap, rfl, q1, r1, hc⟩ := SL.form h
  have HC := Lib.hid hc
  clear h hc
  by_cases hle : listErr c = 0
  · have HLIT := Lib.hid (listErr_lit hle).2
    have hcl := (listErr_lit hle).1
    have HR := Lib.hid (show validErr c = if ordB c = true then 0 else 10 by unfold validErr; rw [if_neg (by rw [hle]; simp)])
    have HLE := Lib.hid hle
    clear hle
    go_enter Try.func42, Try.ntmps42
    go_wp2_with fail
    refine HL.out.mono ?_
    rintro e _ ⟨rfl, rfl⟩
    rw [HLE.out]
    go_wp2_with fail
    go_loopw [4] (fun i wr => ∃ k : Nat, 1 ≤ k ∧ (k ≤ c.length ∨ k = 1) ∧ i = .int .i64 k ∧ ordUp c k = true ∧ Upd [] w wr) (fun i _ => c.length + 1 - (intOf i).toNat)
    case atStart => exact ⟨1, by omega, by omega, rfl, by simp [ordUp, List.range_succ], Upd.refl _ _⟩
    case round =>
      obtain ⟨k, hk1, hk, rfl, ho, hu⟩ := hrel
      have HO := Lib.hid (And.intro ho hu)
      clear ho hu
      by_cases hlt : k < c.length
      · obtain ⟨g, off, rfl, k1⟩ := HC.out (by omega)
        have e1 := HO.out.2.some (k1 k _ (ints_gd hlt)) (by simp)
        have e2 := HO.out.2.some (k1 (k - 1) _ (ints_gd (show k - 1 < c.length by omega))) (by simp)
        have i1 : ((k : Int) - 1).toNat = k - 1 := by omega
        obtain ⟨_, hx1, hx2⟩ := HLIT.out _ (gd_mem hlt)
        obtain ⟨_, hy1, hy2⟩ := HLIT.out _ (gd_mem (show k - 1 < c.length by omega))
        clear k1
        generalize hgx : c.getD k 0 = x at *
        generalize hgy : c.getD (k - 1) 0 = y at *
        have HG := Lib.hid (And.intro hgx hgy)
        clear hgx hgy
        by_cases hxy : y.natAbs < x.natAbs
        · have hb : ¬ ((x.natAbs : Int) ≤ y.natAbs) := by omega
          go_wp2_with fail
          refine wp_region_qx (by kernel_rfl) (by kernel_rfl) ?_
          repeat (go_big_quiet_step (((first | (go_at_call 74; exact qs (Var_calls x _ (by omega) (by omega))) | (go_at_call 74; exact qs (Var_calls y _ (by omega) (by omega)))))))
          refine wpQuiet_nil ?_
          intro x
          go_wp2_with fail
          refine ⟨⟨k + 1, by omega, by omega, by go_num, ?_, HO.out.2.step x.upd⟩, by simp [intOf]; omega⟩
          rw [ordUp_succ, HO.out.1, HG.out.1, HG.out.2]
          simp [hxy]
        · have hb : ((x.natAbs : Int) ≤ y.natAbs) := by omega
          go_wp2_with fail
          refine wp_region_qx (by kernel_rfl) (by kernel_rfl) ?_
          repeat (go_big_quiet_step (((first | (go_at_call 74; exact qs (Var_calls x _ (by omega) (by omega))) | (go_at_call 74; exact qs (Var_calls y _ (by omega) (by omega)))))))
          refine wpQuiet_nil ?_
          intro x
          go_wp2_with fail
          go_ret
          refine ⟨ret_int ?_, HO.out.2.step x.upd⟩
          rw [HR.out, ordUp_false hlt (by omega) (by rw [HG.out.1, HG.out.2]; exact hxy)]
          rfl
      · go_wp2_with fail
        go_ret
        refine ⟨ret_int ?_, HO.out.2⟩
        rw [HR.out, if_pos]
        rcases (by omega : k = c.length ∨ c.length = 0) with hk | hk
        · subst hk
          exact HO.out.1
        · have : c = [] := List.eq_nil_of_length_eq_zero (by omega)
          subst this; rfl
  · have HR := Lib.hid (show validErr c = listErr c by unfold validErr; rw [if_pos hle])
    generalize listErr c = er at *
    have hb : (er != 0) = true := by simpa using hle
    clear hle
    go_enter Try.func42, Try.ntmps42
    go_wp2_with fail
    refine HL.out.mono ?_
    rintro e _ ⟨rfl, rfl⟩
    go_wp2_with fail
    go_ret
    exact ⟨ret_int HR.out.symm, Upd.refl _ _⟩
set_option maxHeartbeats 1000000 in
theorem Has_calls {v : Value} {c : List Int} (h : SL w 1 v c.length (ints c)) (n : Int) : Calls Try.prog 19 #[v, .int .i64 n] w fun e w' => e = .returned (.bool (hasB c n)) ∧ w = w' := by
  obtain ⟨a, cap, rfl, q1, r1, hc⟩ := SL.form h
  have HC := Lib.hid hc
  clear h hc
  go_enter Try.func19, Try.ntmps19
  go_wp2_with fail
  go_loop [5] (fun i => ∃ k : Nat, k ≤ c.length ∧ i = .int .i64 k ∧ n ∉ c.take k) (fun i => c.length - (intOf i).toNat)
  case atStart => exact ⟨0, Nat.zero_le _, rfl, by simp⟩
  case round =>
    obtain ⟨k, hk, rfl, hlo⟩ := hrel
    have HLO := Lib.hid hlo
    clear hlo
    by_cases hlt : k < c.length
    · obtain ⟨g, off, rfl, k1⟩ := HC.out (by omega)
      have e1 := k1 k _ (ints_get (List.getElem?_eq_getElem hlt))
      have HG := Lib.hid (show c[k]? = some c[k] from List.getElem?_eq_getElem hlt)
      clear k1
      generalize c[k] = x at *
      by_cases hx : x = n
      · subst hx
        go_wp2_with fail
        go_ret
        have := List.mem_of_getElem? HG.out
        exact ⟨ret_bool (hasB_iff.2 this).symm, rfl⟩
      · have hb : (x == n) = false := by simpa using hx
        have HX := Lib.hid hx
        clear hx
        go_wp2_with fail
        refine ⟨⟨k + 1, by omega, by go_num, ?_⟩, by simp [intOf]; omega⟩
        have h2 := HLO.out
        rw [List.take_add_one, HG.out]
        simp only [Option.toList_some, List.mem_append, List.mem_singleton] at h2 ⊢
        rintro (h3 | h3)
        · exact h2 h3
        · exact HX.out h3.symm
    · have HE := Lib.hid (show n ∉ c by
        have := HLO.out
        rwa [List.take_of_length_le (by omega)] at this)
      go_wp2_with fail
      go_ret
      exact ⟨ret_bool (hasB_no.2 HE.out).symm, rfl⟩
end
end Cla
end Go.Proofs.Ytdhhohnaehdpkaa
