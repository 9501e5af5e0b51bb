/- Learning as plain data: the result at a number in range; the hints' length; a return of four values. Conditions: none. -/
import Derived.Test.YtdhhohnaehdpkaaLrnE
set_option linter.unusedVariables false
set_option linter.unusedSimpArgs false
set_option linter.unusedSectionVars false
open Go.RowKit
namespace Go.Proofs.Ytdhhohnaehdpkaa
open L R01 R14
namespace Learn
open Cla Trail
variable {vars : Nat} {es : Es} {L : List (List Int)} {g : Int}
theorem anL_in {k : Nat} (hk : k < L.length) : anL L vars es k = if validErr (L.getD k []) ≠ 0 then (validErr (L.getD k []), [], 0, []) else
    if ∃ x ∈ L.getD k [], tval vars es x ≠ -1 then (13, [], 0, []) else
    if (go L vars es (top es (L.getD k [])) es.length (L.getD k []) [(k : Int)]).1 ≠ 0 then (14, [], 0, []) else
    (0, (go L vars es (top es (L.getD k [])) es.length (L.getD k []) [(k : Int)]).2.1,
      second es (top es (L.getD k [])) (go L vars es (top es (L.getD k [])) es.length (L.getD k []) [(k : Int)]).2.1,
      (go L vars es (top es (L.getD k [])) es.length (L.getD k []) [(k : Int)]).2.2) := by
  unfold anL
  rw [if_neg (by omega), Int.toNat_natCast]
theorem go_len : ∀ (n : Nat) (c h : List Int), (go L vars es g n c h).2.2.length ≤ n + h.length
  | 0, c, h => by simp [go]
  | n + 1, c, h => by
    rw [go]
    split
    · split
      · exact Nat.le_trans (go_len n _ _) (by simp; omega)
      · simp
    · exact Nat.le_trans (go_len n _ _) (by omega)
theorem top_snoc (es : Es) (c : List Int) (x : Int) : top es (c ++ [x]) = max (top es c) (lvl es x) := by unfold top; rw [List.foldl_append]; rfl
theorem lvl_nn (es : Es) (x : Int) : 0 ≤ lvl es x := by unfold lvl; omega
theorem lvl_le (es : Es) (x : Int) : lvl es x ≤ es.length := by
  unfold lvl lev
  have := decs_le (es.take (pos es x.natAbs - 1 + 1))
  rw [List.length_take] at this
  omega
theorem second_snoc' (es : Es) (g : Int) (D : List Int) (x : Int) : second es g (D ++ [x]) = if lvl es x ≠ g then max (second es g D) (lvl es x) else second es g D := by
  unfold second
  rw [List.foldl_append]
  rfl
theorem go_fine : ∀ (n : Nat) (c h : List Int), (go L vars es g n c h).1 = 0 ∨ (go L vars es g n c h).1 = 14
  | 0, c, h => by simp [go]
  | n + 1, c, h => by
    rw [go]
    split
    · split
      · exact go_fine n _ _
      · simp
    · exact go_fine n _ _
theorem results_tmp4 {fn : Func} {t u v s : Tmp} (h : fn.results = #[.tmp t, .tmp u, .tmp v, .tmp s]) (tmps : Array Value) (P : Program) (w : World) :
    (results fn tmps).run P w = .ok (.tuple #[tmps.getD t undef, tmps.getD u undef, tmps.getD v undef, tmps.getD s undef]) w := by
  simp [results, h]
end Learn
end Go.Proofs.Ytdhhohnaehdpkaa
