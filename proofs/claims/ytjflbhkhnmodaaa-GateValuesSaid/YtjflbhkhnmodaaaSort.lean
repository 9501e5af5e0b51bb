/- Walks through package clause: collected, Normal (sorting by the library's contract). Conditions: none. -/
import Derived.Test.YtjflbhkhnmodaaaRef14b
import Derived.Test.YtjflbhkhnmodaaaShelf
set_option linter.unusedVariables false
set_option linter.unusedSimpArgs false
set_option linter.unusedSectionVars false
open Go.RowKit
namespace Go.Proofs.Ytjflbhkhnmodaaa
open L
namespace Cla
open R01 R14 Go.Sort
abbrev LitN := { x : Int // LitR x }
instance : Inhabited LitN := ⟨⟨0, by unfold LitR; omega⟩⟩
def encL (x : LitN) : Value := .int .i64 x.1
section
variable {w : World}
theorem isNaN_calls (x : Int) : Calls Try.prog 37 #[.int .i64 x] w fun e w' => e = .returned (.bool false) ∧ w = w' := by
  go_enter Try.func37, Try.ntmps37
  go_wp2_with fail
  go_ret
  exact ⟨ret_bool (by simp), rfl⟩
theorem Compare_calls (x y : Int) : Calls Try.prog 33 #[.int .i64 x, .int .i64 y] w fun e w' => e = .returned (.int .i64 (Lib.compareInt x y)) ∧ w = w' := by
  have HC := Lib.hid (show Lib.compareInt x y = if x < y then -1 else if y < x then 1 else 0 from rfl)
  generalize Lib.compareInt x y = r at *
  rcases (by omega : x < y ∨ (¬ x < y ∧ y < x) ∨ (¬ x < y ∧ ¬ y < x)) with h | ⟨h, h2⟩ | ⟨h, h2⟩
  · rw [if_pos h] at HC
    go_enter Try.func33, Try.ntmps33
    go_wp2_with (go_at_call 37; refine (isNaN_calls _).mono ?_; rintro e w' ⟨rfl, rfl⟩)
    go_ret
    exact ⟨ret_int HC.out.symm, rfl⟩
  · rw [if_neg h, if_pos h2] at HC
    go_enter Try.func33, Try.ntmps33
    go_wp2_with (go_at_call 37; refine (isNaN_calls _).mono ?_; rintro e w' ⟨rfl, rfl⟩)
    go_ret
    exact ⟨ret_int HC.out.symm, rfl⟩
  · rw [if_neg h, if_neg h2] at HC
    go_enter Try.func33, Try.ntmps33
    go_wp2_with (go_at_call 37; refine (isNaN_calls _).mono ?_; rintro e w' ⟨rfl, rfl⟩)
    go_ret
    exact ⟨ret_int HC.out.symm, rfl⟩
/-- cmp.Or of two numbers. -/
theorem Or_calls {v : Value} (x y : Int) (h : SL w 1 v 2 [.int .i64 x, .int .i64 y]) : Calls Try.prog 32 #[v] w fun e w' => e = .returned (.int .i64 (if x ≠ 0 then x else y)) ∧ w = w' := by
  obtain ⟨a, cap, rfl, q1, r1, hc⟩ := SL.elems h
  obtain ⟨g, off, rfl, k1⟩ := hc (by omega)
  have e0 : w.cell? ⟨g, off, none⟩ = some (.int .i64 x) := by simpa using k1 0 _ rfl
  have e1 := k1 1 _ rfl
  clear k1 hc h
  have HV := Lib.hid (show (if x ≠ 0 then x else y) = if x ≠ 0 then x else y from rfl)
  generalize hr : (if x ≠ 0 then x else y) = r at HV ⊢
  have HR := Lib.hid hr
  clear hr HV
  go_enter Try.func32, Try.ntmps32
  go_wp2_with fail
  by_cases hx : x = 0
  · have hb : (x != 0) = false := by simpa using hx
    have HX := Lib.hid hx
    clear hx
    by_cases hy : y = 0
    · have hb2 : (y != 0) = false := by simpa using hy
      have HY := Lib.hid hy
      clear hy
      refine wp_loop_rounds 3 ?_
      rw [rounds_succ]
      go_wp2_with fail
      rw [rounds_succ]
      go_wp2_with fail
      rw [rounds_succ]
      go_wp2_with fail
      go_ret
      exact ⟨ret_int (by rw [← HR.out, HX.out, HY.out]; rfl), rfl⟩
    · have hb2 : (y != 0) = true := by simpa using hy
      have HY := Lib.hid hy
      clear hy
      refine wp_loop_rounds 2 ?_
      rw [rounds_succ]
      go_wp2_with fail
      rw [rounds_succ]
      go_wp2_with fail
      go_ret
      exact ⟨ret_int (by rw [← HR.out, HX.out]; rfl), rfl⟩
  · have hb : (x != 0) = true := by simpa using hx
    have HX := Lib.hid hx
    clear hx
    refine wp_loop_rounds 1 ?_
    rw [rounds_succ]
    go_wp2_with fail
    go_ret
    exact ⟨ret_int (by rw [← HR.out, if_pos HX.out]), rfl⟩
end
end Cla
end Go.Proofs.Ytjflbhkhnmodaaa
