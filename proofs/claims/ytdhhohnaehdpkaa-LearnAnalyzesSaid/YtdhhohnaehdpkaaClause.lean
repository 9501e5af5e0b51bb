/- Walks through package clause: listError, State. Conditions: none. -/
import Derived.Test.YtdhhohnaehdpkaaLib2
import Derived.Test.YtdhhohnaehdpkaaOwn
set_option linter.unusedVariables false
set_option linter.unusedSimpArgs false
set_option linter.unusedSectionVars false
open Go.RowKit
namespace Go.Proofs.Ytdhhohnaehdpkaa
open L
namespace Cla
open R01 R14
def isL (x : Int) : Bool := decide (x ≠ 0 ∧ -1073741824 ≤ x ∧ x ≤ 1073741824)
def listErr (c : List Int) : Int := if 65536 < c.length then 4 else if c.all isL = true then 0 else 1
section
variable {w : World}
theorem isLit_calls (x : Int) : Calls Try.prog 77 #[.int .i64 x] w fun e w' => e = .returned (.bool (isL x)) ∧ w = w' := by
  by_cases h0 : x = 0
  · have HR := Lib.hid (show isL x = false by simp [isL, h0])
    subst h0
    go_enter Try.func77, Try.ntmps77
    go_wp2_with fail
    go_ret
    exact ⟨ret_bool HR.out.symm, rfl⟩
  · have hb : (x != 0) = true := by simpa using h0
    by_cases h1 : -1073741824 ≤ x
    · by_cases h2 : x ≤ 1073741824
      · have HR := Lib.hid (show isL x = true by simp [isL, h0, h1, h2])
        clear h0
        go_enter Try.func77, Try.ntmps77
        go_wp2_with fail
        go_ret
        exact ⟨ret_bool HR.out.symm, rfl⟩
      · have HR := Lib.hid (show isL x = false by simp [isL, h2])
        clear h0
        go_enter Try.func77, Try.ntmps77
        go_wp2_with fail
        go_ret
        exact ⟨ret_bool HR.out.symm, rfl⟩
    · have HR := Lib.hid (show isL x = false by simp [isL, h1])
      clear h0
      go_enter Try.func77, Try.ntmps77
      go_wp2_with fail
      go_ret
      exact ⟨ret_bool HR.out.symm, rfl⟩
theorem var_calls (x : Int) (h1 : -9223372036854775808 < x) (h2 : x ≤ 9223372036854775807) : Calls Try.prog 51 #[.int .i64 x] w fun e w' => e = .returned (.int .i64 (x.natAbs : Int)) ∧ w = w' := by
  go_enter Try.func51, Try.ntmps51
  go_wp2_with fail
  all_goals go_ret
  all_goals exact ⟨ret_int (by omega), rfl⟩
theorem listError_calls {v : Value} {c : List Int} (h : SL w 1 v c.length (ints c)) : Calls Try.prog 50 #[v] w fun e w' => e = .returned (.int .i64 (listErr c)) ∧ w = w' := by
  obtain ⟨a, cap, rfl, q1, r1, hc⟩ := SL.form h
  have HC := Lib.hid hc
  clear h hc
  by_cases hl : 65536 < c.length
  · have hl2 : (65536 : Int) < c.length := by omega
    have HR := Lib.hid (show listErr c = 4 by simp [listErr, hl])
    go_enter Try.func50, Try.ntmps50
    go_wp2_with fail
    go_ret
    exact ⟨ret_int HR.out.symm, rfl⟩
  · have hl2 : ¬ (65536 : Int) < c.length := by omega
    have HR := Lib.hid (show listErr c = if c.all isL = true then 0 else 1 by simp [listErr, hl])
    go_enter Try.func50, Try.ntmps50
    go_wp2_with fail
    go_loop [10] (fun i => ∃ k : Nat, k ≤ c.length ∧ i = .int .i64 k ∧ (c.take k).all isL = true) (fun i => c.length - (intOf i).toNat)
    case atStart => exact ⟨0, Nat.zero_le _, rfl, by simp⟩
    case round =>
      obtain ⟨k, hk, rfl, hlo⟩ := hrel
      have HLO := Lib.hid hlo
      clear hlo
      by_cases hlt : k < c.length
      · obtain ⟨g, off, rfl, k1⟩ := HC.out (by omega)
        have e1 := k1 k _ (ints_get (List.getElem?_eq_getElem hlt))
        have HG := Lib.hid (show c[k]? = some c[k] from List.getElem?_eq_getElem hlt)
        clear k1
        generalize c[k] = x at *
        cases hx : isL x with
        | true =>
          have HX := Lib.hid hx
          clear hx
          go_wp2_with (go_at_call 77; refine (isLit_calls x).mono ?_; rintro e w' ⟨rfl, rfl⟩; rw [HX.out])
          refine ⟨⟨k + 1, by omega, by go_num, ?_⟩, by simp [intOf]; omega⟩
          rw [List.take_add_one, HG.out, List.all_append, HLO.out]
          simp [HX.out]
        | false =>
          have HX := Lib.hid hx
          have HE := Lib.hid (show listErr c = 1 by
            rw [HR.out, if_neg]
            intro ha
            rw [List.all_eq_true] at ha
            have := ha x (List.mem_of_getElem? HG.out)
            rw [hx] at this; cases this)
          clear hx
          go_wp2_with (go_at_call 77; refine (isLit_calls x).mono ?_; rintro e w' ⟨rfl, rfl⟩; rw [HX.out])
          go_ret
          exact ⟨ret_int HE.out.symm, rfl⟩
      · have HE := Lib.hid (show listErr c = 0 by
          have := HLO.out
          rw [List.take_of_length_le (by omega)] at this
          rw [HR.out, if_pos this])
        go_wp2_with fail
        go_ret
        exact ⟨ret_int HE.out.symm, rfl⟩
/-- The value of a literal under an assignment. -/
def lval (a : List Int) (x : Int) : Int := if x < 0 then -(a.getD x.natAbs 0) else a.getD x.natAbs 0
def badV (a : List Int) (x : Int) : Bool := decide (a.length ≤ x.natAbs) || decide (a.getD x.natAbs 0 < -1) || decide (1 < a.getD x.natAbs 0)
def stateRes (c a : List Int) : Bool × List Int × Int :=
  if listErr c ≠ 0 then (false, [], listErr c) else if c.any (badV a) = true then (false, [], 5) else (c.any (fun x => lval a x == 1), c.filter (fun x => lval a x == 0), 0)
def StateT (w : World) (r : Bool × List Int × Int) (e : Ending) (w' : World) : Prop := ∃ v, e = .returned (.tuple #[.bool r.1, v, .int .i64 r.2.2]) ∧ Own w v r.2.1 w'
theorem listErr_lit {c : List Int} (h : listErr c = 0) : c.length ≤ 65536 ∧ ∀ x ∈ c, x ≠ 0 ∧ -1073741824 ≤ x ∧ x ≤ 1073741824 := by
  unfold listErr at h
  split at h
  · cases h
  · split at h
    · rename_i h1 h2
      rw [List.all_eq_true] at h2
      exact ⟨by omega, fun x hx => by have := h2 x hx; simpa [isL] using this⟩
    · cases h
set_option maxRecDepth 100000 in
set_option maxHeartbeats 4000000 in
theorem State_calls {cv av : Value} {c a : List Int} (hc : SL w 1 cv c.length (ints c)) (ha : SL w 1 av a.length (ints a)) (hi : ∀ x ∈ a, IsI64 x) :
    Calls Try.prog 22 #[cv, av] w (StateT w (stateRes c a)) := by
  obtain ⟨ac, capc, rfl, q1, r1, kc⟩ := SL.form hc
  obtain ⟨aa, capa, rfl, q2, r2, ka⟩ := SL.form ha
  have HC := Lib.hid kc
  have HA := Lib.hid ka
  have HL := Lib.hid (listError_calls hc)
  clear hc ha kc ka
  by_cases hle : listErr c = 0
  · have HLE := Lib.hid hle
    have HRR := Lib.hid (show stateRes c a = if c.any (badV a) = true then (false, [], 5) else (c.any (fun x => lval a x == 1), c.filter (fun x => lval a x == 0), 0) by unfold stateRes; rw [if_neg (by rw [hle]; simp)])
    obtain ⟨hcl, hlit⟩ := listErr_lit hle
    have HLIT := Lib.hid hlit
    clear hle hlit
    go_enter Try.func22, Try.ntmps22
    go_wp2_with fail
    refine HL.out.mono ?_
    rintro e _ ⟨rfl, rfl⟩
    rw [HLE.out]
    go_wp2_with fail
    go_loop [23] (fun i => ∃ k : Nat, k ≤ c.length ∧ i = .int .i64 k ∧ (c.take k).any (badV a) = false) (fun i => c.length - (intOf i).toNat)
    case atStart => exact ⟨0, Nat.zero_le _, rfl, by simp⟩
    case round =>
      obtain ⟨k, hk, rfl, hlo⟩ := hrel
      have HLO := Lib.hid hlo
      clear hlo
      by_cases hlt : k < c.length
      · obtain ⟨g, off, rfl, k1⟩ := HC.out (by omega)
        have e1 := k1 k _ (ints_get (List.getElem?_eq_getElem hlt))
        have HG := Lib.hid (show c[k]? = some c[k] from List.getElem?_eq_getElem hlt)
        obtain ⟨hx0, hx1, hx2⟩ := HLIT.out _ (List.getElem_mem hlt)
        clear k1
        generalize c[k] = x at *
        have HX0 := Lib.hid hx0
        clear hx0
        by_cases hb : badV a x = true
        · have HE := Lib.hid (show stateRes c a = (false, [], 5) by
            rw [HRR.out, if_pos]
            rw [List.any_eq_true]
            exact ⟨x, List.mem_of_getElem? HG.out, hb⟩)
          by_cases hr : a.length ≤ x.natAbs
          · have hr2 : (a.length : Int) ≤ x.natAbs := by omega
            clear hb
            go_wp2_with (go_at_call 51; refine (var_calls x (by omega) (by omega)).mono ?_; rintro e w' ⟨rfl, rfl⟩)
            go_ret3
            rw [HE.out]
            exact ⟨_, rfl, Own.nil w⟩
          · have hr3 : x.natAbs < a.length := by omega
            have hr2 : ¬ (a.length : Int) ≤ x.natAbs := by omega
            obtain ⟨g2, off2, rfl, k2⟩ := HA.out (by omega)
            have e2 := k2 x.natAbs _ (ints_get (List.getElem?_eq_getElem hr3))
            have hv : a.getD x.natAbs 0 = a[x.natAbs] := by simp [hr3]
            have hbv : a[x.natAbs] < -1 ∨ 1 < a[x.natAbs] := by simpa [badV, hr, hv, hr3] using hb
            clear k2 hv hb
            generalize a[x.natAbs] = y at *
            rcases hbv with hy | hy
            · go_wp2_with (go_at_call 51; refine (var_calls x (by omega) (by omega)).mono ?_; rintro e w' ⟨rfl, rfl⟩)
              go_ret3
              rw [HE.out]
              exact ⟨_, rfl, Own.nil w⟩
            · go_wp2_with (go_at_call 51; refine (var_calls x (by omega) (by omega)).mono ?_; rintro e w' ⟨rfl, rfl⟩)
              go_ret3
              rw [HE.out]
              exact ⟨_, rfl, Own.nil w⟩
        · have hb' : badV a x = false := by simpa using hb
          have hr3 : x.natAbs < a.length := by simp [badV] at hb'; omega
          have hr2 : ¬ (a.length : Int) ≤ x.natAbs := by omega
          obtain ⟨g2, off2, rfl, k2⟩ := HA.out (by omega)
          have e2 := k2 x.natAbs _ (ints_get (List.getElem?_eq_getElem hr3))
          have hv : a.getD x.natAbs 0 = a[x.natAbs] := by simp [hr3]
          have hbv : -1 ≤ a[x.natAbs] ∧ a[x.natAbs] ≤ 1 := by simp [badV, hr3] at hb'; omega
          have HB := Lib.hid hb'
          clear k2 hv hb hb'
          generalize a[x.natAbs] = y at *
          go_wp2_with (go_at_call 51; refine (var_calls x (by omega) (by omega)).mono ?_; rintro e w' ⟨rfl, rfl⟩)
          refine ⟨⟨k + 1, by omega, by go_num, ?_⟩, by simp [intOf]; omega⟩
          rw [List.take_add_one, HG.out, List.any_append, HLO.out]
          simp [HB.out]
      · have HNB := Lib.hid (show c.any (badV a) = false by
          have := HLO.out
          rwa [List.take_of_length_le (by omega)] at this)
        have HE := Lib.hid (show stateRes c a = (c.any (fun x => lval a x == 1), c.filter (fun x => lval a x == 0), 0) by rw [HRR.out, if_neg (by rw [HNB.out]; simp)])
        go_wp2_with fail
        clear hk hlt HLO HRR
        go_loopw [11, 12, 50] (fun t o i wr => ∃ k : Nat, k ≤ c.length ∧ i = .int .i64 k ∧ t = .bool ((c.take k).any fun x => lval a x == 1) ∧ Own w o ((c.take k).filter fun x => lval a x == 0) wr) (fun _ _ i _ => c.length - (intOf i).toNat)
        case atStart => exact ⟨0, Nat.zero_le _, rfl, by simp, Own.nil w⟩
        case round =>
          obtain ⟨k, hk, rfl, rfl, ho⟩ := hrel
          by_cases hlt : k < c.length
          · obtain ⟨g, off, rfl, k1⟩ := HC.out (by omega)
            have e1 := ho.u.some (k1 k _ (ints_get (List.getElem?_eq_getElem hlt))) (by simp)
            have HG := Lib.hid (show c[k]? = some c[k] from List.getElem?_eq_getElem hlt)
            obtain ⟨hx0, hx1, hx2⟩ := HLIT.out _ (List.getElem_mem hlt)
            have hb' : badV a c[k] = false := by
              have := HNB.out
              rw [List.any_eq_false] at this
              simpa using this _ (List.getElem_mem hlt)
            have hfl : ((c.take k).filter fun x => lval a x == 0).length ≤ c.length := Nat.le_trans (List.length_filter_le _ _) (by rw [List.length_take]; omega)
            clear k1
            generalize c[k] = x at *
            have hr3 : x.natAbs < a.length := by simp [badV] at hb'; omega
            obtain ⟨g2, off2, rfl, k2⟩ := HA.out (by omega)
            have e2 := ho.u.some (k2 x.natAbs _ (ints_get (List.getElem?_eq_getElem hr3))) (by simp)
            have hv : a.getD x.natAbs 0 = a[x.natAbs] := by simp [hr3]
            have hbv : -1 ≤ a[x.natAbs] ∧ a[x.natAbs] ≤ 1 := by simp [badV, hr3] at hb'; omega
            have HV := Lib.hid (show lval a x = if x < 0 then -a[x.natAbs] else a[x.natAbs] by unfold lval; rw [hv])
            have HO := Lib.hid ho
            have HX0 := Lib.hid hx0
            clear k2 hv hb' ho hx0
            generalize a[x.natAbs] = y at *
            have HT := Lib.hid (show ((c.take (k + 1)).any fun x => lval a x == 1) = (((c.take k).any fun x => lval a x == 1) || lval a x == 1) by rw [List.take_add_one, HG.out, List.any_append]; simp)
            have HF := Lib.hid (show ((c.take (k + 1)).filter fun x => lval a x == 0) = ((c.take k).filter fun x => lval a x == 0) ++ (if lval a x = 0 then [x] else []) by
              rw [List.take_add_one, HG.out, List.filter_append]
              by_cases h0 : lval a x = 0 <;> simp [h0])
            generalize hfe : ((c.take k).filter fun x => lval a x == 0) = fs at *
            generalize hte : ((c.take k).any fun x => lval a x == 1) = tb at *
            have HFT := Lib.hid (And.intro hfe hte)
            clear hfe hte
            by_cases hneg : x < 0
            · rw [if_pos hneg] at HV
              rcases (by omega : y = 0 ∨ y = 1 ∨ y = -1) with hy | hy | hy
              · subst hy
                go_wp2_with (first | (go_at_call 51; refine (var_calls x (by omega) (by omega)).mono ?_; rintro e w' ⟨rfl, rfl⟩) | (refine wpList_push rfl rfl _ _ _ _ rfl rfl rfl 3 1 8 _ Try.underlying22 infoInt rfl (by decide) (by decide) (.int .i64 x) [.int .i64 x] rfl rfl rfl (ints_one [x]) _ _ _ HO.out.row rfl rfl (by unfold maxLen; omega) (by omega) ?_; intro g4 cap4 w4 o4 u4 k4))
                have N4 := HO.out.push o4 u4 k4
                refine ⟨⟨k + 1, by omega, by go_num, ?_, ?_⟩, by simp [intOf]; omega⟩
                · rw [HT.out, HV.out]; simp
                · rw [HF.out, HV.out]; simpa using N4
              · subst hy
                go_wp2_with (first | (go_at_call 51; refine (var_calls x (by omega) (by omega)).mono ?_; rintro e w' ⟨rfl, rfl⟩) | (refine wpList_push rfl rfl _ _ _ _ rfl rfl rfl 3 1 8 _ Try.underlying22 infoInt rfl (by decide) (by decide) (.int .i64 x) [.int .i64 x] rfl rfl rfl (ints_one [x]) _ _ _ HO.out.row rfl rfl (by unfold maxLen; omega) (by omega) ?_; intro g4 cap4 w4 o4 u4 k4))
                refine ⟨⟨k + 1, by omega, by go_num, ?_, ?_⟩, by simp [intOf]; omega⟩
                · rw [HT.out, HV.out]; simp
                · rw [HF.out, HV.out]; simpa using HO.out
              · subst hy
                go_wp2_with (first | (go_at_call 51; refine (var_calls x (by omega) (by omega)).mono ?_; rintro e w' ⟨rfl, rfl⟩) | (refine wpList_push rfl rfl _ _ _ _ rfl rfl rfl 3 1 8 _ Try.underlying22 infoInt rfl (by decide) (by decide) (.int .i64 x) [.int .i64 x] rfl rfl rfl (ints_one [x]) _ _ _ HO.out.row rfl rfl (by unfold maxLen; omega) (by omega) ?_; intro g4 cap4 w4 o4 u4 k4))
                refine ⟨⟨k + 1, by omega, by go_num, ?_, ?_⟩, by simp [intOf]; omega⟩
                · rw [HT.out, HV.out]; simp
                · rw [HF.out, HV.out]; simpa using HO.out
            · rw [if_neg hneg] at HV
              rcases (by omega : y = 0 ∨ y = 1 ∨ y = -1) with hy | hy | hy
              · subst hy
                go_wp2_with (first | (go_at_call 51; refine (var_calls x (by omega) (by omega)).mono ?_; rintro e w' ⟨rfl, rfl⟩) | (refine wpList_push rfl rfl _ _ _ _ rfl rfl rfl 3 1 8 _ Try.underlying22 infoInt rfl (by decide) (by decide) (.int .i64 x) [.int .i64 x] rfl rfl rfl (ints_one [x]) _ _ _ HO.out.row rfl rfl (by unfold maxLen; omega) (by omega) ?_; intro g4 cap4 w4 o4 u4 k4))
                have N4 := HO.out.push o4 u4 k4
                refine ⟨⟨k + 1, by omega, by go_num, ?_, ?_⟩, by simp [intOf]; omega⟩
                · rw [HT.out, HV.out]; simp
                · rw [HF.out, HV.out]; simpa using N4
              · subst hy
                go_wp2_with (first | (go_at_call 51; refine (var_calls x (by omega) (by omega)).mono ?_; rintro e w' ⟨rfl, rfl⟩) | (refine wpList_push rfl rfl _ _ _ _ rfl rfl rfl 3 1 8 _ Try.underlying22 infoInt rfl (by decide) (by decide) (.int .i64 x) [.int .i64 x] rfl rfl rfl (ints_one [x]) _ _ _ HO.out.row rfl rfl (by unfold maxLen; omega) (by omega) ?_; intro g4 cap4 w4 o4 u4 k4))
                refine ⟨⟨k + 1, by omega, by go_num, ?_, ?_⟩, by simp [intOf]; omega⟩
                · rw [HT.out, HV.out]; simp
                · rw [HF.out, HV.out]; simpa using HO.out
              · subst hy
                go_wp2_with (first | (go_at_call 51; refine (var_calls x (by omega) (by omega)).mono ?_; rintro e w' ⟨rfl, rfl⟩) | (refine wpList_push rfl rfl _ _ _ _ rfl rfl rfl 3 1 8 _ Try.underlying22 infoInt rfl (by decide) (by decide) (.int .i64 x) [.int .i64 x] rfl rfl rfl (ints_one [x]) _ _ _ HO.out.row rfl rfl (by unfold maxLen; omega) (by omega) ?_; intro g4 cap4 w4 o4 u4 k4))
                refine ⟨⟨k + 1, by omega, by go_num, ?_, ?_⟩, by simp [intOf]; omega⟩
                · rw [HT.out, HV.out]; simp
                · rw [HF.out, HV.out]; simpa using HO.out
          · have hkc : k = c.length := by omega
            rw [hkc, List.take_length] at ho
            obtain ⟨ao, co, rfl, _, _⟩ := ho.form
            have HO := Lib.hid ho
            have HK := Lib.hid (show ((c.take k).any fun x => lval a x == 1) = c.any fun x => lval a x == 1 by rw [hkc, List.take_length])
            rw [HK.out]
            clear ho
            go_wp2_with fail
            go_ret3
            rw [HE.out]
            exact ⟨_, rfl, HO.out⟩
  · have HR := Lib.hid (show stateRes c a = (false, [], listErr c) by simp [stateRes, hle])
    generalize listErr c = er at *
    have hb : (er != 0) = true := by simpa using hle
    clear hle
    go_enter Try.func22, Try.ntmps22
    go_wp2_with fail
    refine HL.out.mono ?_
    rintro e _ ⟨rfl, rfl⟩
    go_wp2_with fail
    go_ret3
    rw [HR.out]
    exact ⟨_, rfl, Own.nil w⟩
end
end Cla
end Go.Proofs.Ytdhhohnaehdpkaa
