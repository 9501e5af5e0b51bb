/- Walks through package clause: listError, State. Conditions: none. -/
import Derived.Test.YtjflbhkhnmodaaaLib2
import Derived.Test.YtjflbhkhnmodaaaOwn
set_option linter.unusedVariables false
set_option linter.unusedSimpArgs false
set_option linter.unusedSectionVars false
open Go.RowKit
namespace Go.Proofs.Ytjflbhkhnmodaaa
open L
namespace Cla
open R01 R14
def isL (x : Int) : Bool := decide (x ≠ 0 ∧ -1073741824 ≤ x ∧ x ≤ 1073741824)
def listErr (c : List Int) : Int := if 65536 < c.length then 4 else if c.all isL = true then 0 else 1
section
variable {w : World}
theorem isLit_calls (x : Int) : Calls Try.prog 28 #[.int .i64 x] w fun e w' => e = .returned (.bool (isL x)) ∧ w = w' := by
  by_cases h0 : x = 0
  · have HR := Lib.hid (show isL x = false by simp [isL, h0])
    subst h0
    go_enter Try.func28, Try.ntmps28
    go_wp2_with fail
    go_ret
    exact ⟨ret_bool HR.out.symm, rfl⟩
  · have hb : (x != 0) = true := by simpa using h0
    by_cases h1 : -1073741824 ≤ x
    · by_cases h2 : x ≤ 1073741824
      · have HR := Lib.hid (show isL x = true by simp [isL, h0, h1, h2])
        clear h0
        go_enter Try.func28, Try.ntmps28
        go_wp2_with fail
        go_ret
        exact ⟨ret_bool HR.out.symm, rfl⟩
      · have HR := Lib.hid (show isL x = false by simp [isL, h2])
        clear h0
        go_enter Try.func28, Try.ntmps28
        go_wp2_with fail
        go_ret
        exact ⟨ret_bool HR.out.symm, rfl⟩
    · have HR := Lib.hid (show isL x = false by simp [isL, h1])
      clear h0
      go_enter Try.func28, Try.ntmps28
      go_wp2_with fail
      go_ret
      exact ⟨ret_bool HR.out.symm, rfl⟩
theorem var_calls (x : Int) (h1 : -9223372036854775808 < x) (h2 : x ≤ 9223372036854775807) : Calls Try.prog 27 #[.int .i64 x] w fun e w' => e = .returned (.int .i64 (x.natAbs : Int)) ∧ w = w' := by
  go_enter Try.func27, Try.ntmps27
  go_wp2_with fail
  all_goals go_ret
  all_goals exact ⟨ret_int (by omega), rfl⟩
theorem listError_calls {v : Value} {c : List Int} (h : SL w 1 v c.length (ints c)) : Calls Try.prog 25 #[v] w fun e w' => e = .returned (.int .i64 (listErr c)) ∧ w = w' := by
  obtain ⟨a, cap, rfl, q1, r1, hc⟩ := SL.form h
  have HC := Lib.hid hc
  clear h hc
  by_cases hl : 65536 < c.length
  · have hl2 : (65536 : Int) < c.length := by omega
    have HR := Lib.hid (show listErr c = 4 by simp [listErr, hl])
    go_enter Try.func25, Try.ntmps25
    go_wp2_with fail
    go_ret
    exact ⟨ret_int HR.out.symm, rfl⟩
  · have hl2 : ¬ (65536 : Int) < c.length := by omega
    have HR := Lib.hid (show listErr c = if c.all isL = true then 0 else 1 by simp [listErr, hl])
    go_enter Try.func25, Try.ntmps25
    go_wp2_with fail
    go_loop [10] (fun i => ∃ k : Nat, k ≤ c.length ∧ i = .int .i64 k ∧ (c.take k).all isL = true) (fun i => c.length - (intOf i).toNat)
    case atStart => exact ⟨0, Nat.zero_le _, rfl, by simp⟩
    case round =>
      obtain ⟨k, hk, rfl, hlo⟩ := hrel
      have HLO := Lib.hid hlo
      clear hlo
      by_cases hlt : k < c.length
      · obtain ⟨g, off, rfl, k1⟩ := HC.out (by omega)
        have e1 := k1 k _ (ints_get (List.getElem?_eq_getElem hlt))
        have HG := Lib.hid (show c[k]? = some c[k] from List.getElem?_eq_getElem hlt)
        clear k1
        generalize c[k] = x at *
        cases hx : isL x with
        | true =>
          have HX := Lib.hid hx
          clear hx
          go_wp2_with (go_at_call 28; refine (isLit_calls x).mono ?_; rintro e w' ⟨rfl, rfl⟩; rw [HX.out])
          refine ⟨⟨k + 1, by omega, by go_num, ?_⟩, by simp [intOf]; omega⟩
          rw [List.take_add_one, HG.out, List.all_append, HLO.out]
          simp [HX.out]
        | false =>
          have HX := Lib.hid hx
          have HE := Lib.hid (show listErr c = 1 by
            rw [HR.out, if_neg]
            intro ha
            rw [List.all_eq_true] at ha
            have := ha x (List.mem_of_getElem? HG.out)
            rw [hx] at this; cases this)
          clear hx
          go_wp2_with (go_at_call 28; refine (isLit_calls x).mono ?_; rintro e w' ⟨rfl, rfl⟩; rw [HX.out])
          go_ret
          exact ⟨ret_int HE.out.symm, rfl⟩
      · have HE := Lib.hid (show listErr c = 0 by
          have := HLO.out
          rw [List.take_of_length_le (by omega)] at this
          rw [HR.out, if_pos this])
        go_wp2_with fail
        go_ret
        exact ⟨ret_int HE.out.symm, rfl⟩
/-- The value of a literal under an assignment. -/
def lval (a : List Int) (x : Int) : Int := if x < 0 then -(a.getD x.natAbs 0) else a.getD x.natAbs 0
def badV (a : List Int) (x : Int) : Bool := decide (a.length ≤ x.natAbs) || decide (a.getD x.natAbs 0 < -1) || decide (1 < a.getD x.natAbs 0)
def stateRes (c a : List Int) : Bool × List Int × Int :=
  if listErr c ≠ 0 then (false, [], listErr c) else if c.any (badV a) = true then (false, [], 5) else (c.any (fun x => lval a x == 1), c.filter (fun x => lval a x == 0), 0)
def StateT (w : World) (r : Bool × List Int × Int) (e : Ending) (w' : World) : Prop := ∃ v, e = .returned (.tuple #[.bool r.1, v, .int .i64 r.2.2]) ∧ Own w v r.2.1 w'
theorem listErr_lit {c : List Int} (h : listErr c = 0) : c.length ≤ 65536 ∧ ∀ x ∈ c, x ≠ 0 ∧ -1073741824 ≤ x ∧ x ≤ 1073741824 := by
  unfold listErr at h
  split at h
  · cases h
  · split at h
    · rename_i h1 h2
      rw [List.all_eq_true] at h2
      exact ⟨by omega, fun x hx => by have := h2 x hx; simpa [isL] using this⟩
    · cases h
end
end Cla
end Go.Proofs.Ytjflbhkhnmodaaa
