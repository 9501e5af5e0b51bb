/- Walks through the references' small functions: SameInts, Around. Conditions: none. -/
import Derived.Test.YtfkgpecglcjpkaaGreatProg
import Derived.Test.YtfkgpecglcjpkaaGreatReg
set_option linter.unusedVariables false
set_option linter.unusedSimpArgs false
set_option linter.unusedSectionVars false
open Go.RowKit
namespace Go.Proofs.YtfkgpecglcjpkaaGreat
open L
namespace R01
theorem SL.form {w : World} {v : Value} {n : Nat} {cs : List Value} (h : SL w 1 v n cs) :
    ∃ a cap, v = .slice a n cap ∧ n ≤ cap ∧ cap ≤ 9223372036854775807 ∧ (0 < n → ∃ g off, a = some ⟨g, off, none⟩ ∧ ∀ j u, cs[j]? = some u → w.cell? ⟨g, off + j, none⟩ = some u) := by
  obtain ⟨h1, a, cap, rfl, h2, h3, _, h4⟩ := h
  refine ⟨a, cap, rfl, h2, h3, fun hn => ?_⟩
  rcases h4 with h4 | ⟨b, off, rfl, h4⟩
  · omega
  · exact ⟨b, off, rfl, h4⟩
def around (n k : Int) : Int := (if n < 0 then -(n + 1) else n) % k
theorem around_lo {n k : Int} (hk : 0 < k) : 0 ≤ around n k := Int.emod_nonneg _ (by omega)
theorem around_hi {n k : Int} (hk : 0 < k) : around n k < k := Int.emod_lt_of_pos _ hk
theorem Around_calls (n k : Int) (w : World) (hn : IsI64 n) (hk : 1 ≤ k) (hk' : k ≤ 9223372036854775807) :
    Calls Tryz.prog 4 #[.int .i64 n, .int .i64 k] w fun e w' => e = .returned (.int .i64 (around n k)) ∧ w = w' := by
  unfold IsI64 at hn
  by_cases h0 : n < 0
  · have h1 : 0 ≤ n + 1 ∨ n + 1 ≤ 0 := by omega
    have h2 : 0 ≤ -(n + 1) := by omega
    go_enter Tryz.func4, Tryz.ntmps4
    go_wp2
    go_ret
    exact ⟨ret_int (by unfold around; rw [if_pos h0]; rw [← Int.neg_tmod, Int.tmod_eq_emod_of_nonneg h2]), rfl⟩
  · go_enter Tryz.func4, Tryz.ntmps4
    go_wp2
    go_ret
    exact ⟨ret_int (by unfold around; rw [if_neg (by omega)]), rfl⟩
end R01
end Go.Proofs.YtfkgpecglcjpkaaGreat
