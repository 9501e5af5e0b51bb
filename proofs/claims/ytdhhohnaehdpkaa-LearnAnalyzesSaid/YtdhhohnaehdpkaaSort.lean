/- Walks through package clause: collected, Normal (sorting by the library's contract). Conditions: none. -/
import Derived.Test.YtdhhohnaehdpkaaRef14b
import Derived.Test.YtdhhohnaehdpkaaShelf
set_option linter.unusedVariables false
set_option linter.unusedSimpArgs false
set_option linter.unusedSectionVars false
open Go.RowKit
namespace Go.Proofs.Ytdhhohnaehdpkaa
open L
namespace Cla
open R01 R14 Go.Sort
abbrev LitN := { x : Int // LitR x }
instance : Inhabited LitN := ⟨⟨0, by unfold LitR; omega⟩⟩
def encL (x : LitN) : Value := .int .i64 x.1
section
variable {w : World}
theorem isNaN_calls (x : Int) : Calls Try.prog 86 #[.int .i64 x] w fun e w' => e = .returned (.bool false) ∧ w = w' := by
  go_enter Try.func86, Try.ntmps86
  go_wp2_with fail
  go_ret
  exact ⟨ret_bool (by simp), rfl⟩
theorem Compare_calls (x y : Int) : Calls Try.prog 72 #[.int .i64 x, .int .i64 y] w fun e w' => e = .returned (.int .i64 (Lib.compareInt x y)) ∧ w = w' := by
  have HC := Lib.hid (show Lib.compareInt x y = if x < y then -1 else if y < x then 1 else 0 from rfl)
  generalize Lib.compareInt x y = r at *
  rcases (by omega : x < y ∨ (¬ x < y ∧ y < x) ∨ (¬ x < y ∧ ¬ y < x)) with h | ⟨h, h2⟩ | ⟨h, h2⟩
  · rw [if_pos h] at HC
    go_enter Try.func72, Try.ntmps72
    go_wp2_with (go_at_call 86; refine (isNaN_calls _).mono ?_; rintro e w' ⟨rfl, rfl⟩)
    go_ret
    exact ⟨ret_int HC.out.symm, rfl⟩
  · rw [if_neg h, if_pos h2] at HC
    go_enter Try.func72, Try.ntmps72
    go_wp2_with (go_at_call 86; refine (isNaN_calls _).mono ?_; rintro e w' ⟨rfl, rfl⟩)
    go_ret
    exact ⟨ret_int HC.out.symm, rfl⟩
  · rw [if_neg h, if_neg h2] at HC
    go_enter Try.func72, Try.ntmps72
    go_wp2_with (go_at_call 86; refine (isNaN_calls _).mono ?_; rintro e w' ⟨rfl, rfl⟩)
    go_ret
    exact ⟨ret_int HC.out.symm, rfl⟩
end
end Cla
end Go.Proofs.Ytdhhohnaehdpkaa
