/- Walks through the laws of gates: lives, GateClauses. Conditions: none. -/
import Derived.Test.YtjflbhkhnmodaaaGateS
import Derived.Test.YtjflbhkhnmodaaaGateH
set_option linter.unusedVariables false
set_option linter.unusedSimpArgs false
set_option linter.unusedSectionVars false
open Go.RowKit
namespace Go.Proofs.Ytjflbhkhnmodaaa
open L
namespace Gate
open Cla R14 R01
theorem keep_put {cs : List (List Int)} (h : ∀ c ∈ cs, ∀ x ∈ c, x ≠ 0) : keep cs = (cs.filter fun c => !(taut c)).map putAll := by
  unfold keep
  refine List.map_congr_left fun c hc => ?_
  obtain ⟨h1, h2⟩ := List.mem_filter.1 hc
  exact (putAll_norm (h c h1) (by simpa using h2)).symm
theorem ex1 : gCl 1 5 [2, -3] = [[2, -5], [-3, -5], [-2, 3, 5]] := by
  unfold gCl
  rw [keep_put (by decide)]
  decide
theorem ex2 : gCl 1 5 [2, -2] = [[2, -5], [-2, -5]] := by
  unfold gCl
  rw [keep_put (by decide)]
  decide
section
variable {w : World}
set_option maxRecDepth 100000 in
set_option maxHeartbeats 4000000 in
theorem lives_calls : Calls Try.prog 8 #[] w fun e w' => e = .returned (.bool true) ∧ Upd [] w w' := by
  go_enter Try.func8, Try.ntmps8
  go_wp2_with fail
  have B1 := Blk.new w [.int .i64 2, .int .i64 (-3)] 3
  have U1 := (Upd.refl [] w).alloc (.cells #[.int .i64 2, .int .i64 (-3)] 3)
  generalize w.alloc (.cells #[.int .i64 2, .int .i64 (-3)] 3) = w1 at *
  have S1 : SL w1 1 (.slice (some ⟨w.heap.size, 0, none⟩) 2 2) [(2 : Int), -3].length (ints [2, -3]) := SL.of_blk (pad := []) (show Blk w1 _ (ints [2, -3] ++ []) 3 from B1) rfl (Nat.le_refl _) (by unfold maxLen; omega)
  generalize w.heap.size = g1 at *
  refine (GClauses_calls (k := 1) (o := 5) S1).mono ?_
  intro e w2 hc
  obtain ⟨v2, rfl, C2, u2⟩ := hc.2 (by decide)
  rw [ex1] at C2
  obtain ⟨a2, cap2, rfl, _⟩ := C2.form
  have H2 := Lib.hid (And.intro C2 (U1.step u2))
  clear hc C2 u2 U1 S1 B1
  go_wp2_with fail
  have B1 := Blk.new w2 [.int .i64 2, .int .i64 (-2)] 3
  have U1 := (Upd.refl [] w2).alloc (.cells #[.int .i64 2, .int .i64 (-2)] 3)
  generalize w2.alloc (.cells #[.int .i64 2, .int .i64 (-2)] 3) = w3 at *
  have S1 : SL w3 1 (.slice (some ⟨w2.heap.size, 0, none⟩) 2 2) [(2 : Int), -2].length (ints [2, -2]) := SL.of_blk (pad := []) (show Blk w3 _ (ints [2, -2] ++ []) 3 from B1) rfl (Nat.le_refl _) (by unfold maxLen; omega)
  generalize w2.heap.size = g2 at *
  refine (GClauses_calls (k := 1) (o := 5) S1).mono ?_
  intro e w4 hc
  obtain ⟨v4, rfl, C4, u4⟩ := hc.2 (by decide)
  rw [ex2] at C4
  obtain ⟨a4, cap4, rfl, _⟩ := C4.form
  have H4 := Lib.hid (And.intro C4 (And.intro ((H2.out.1.upd U1).upd u4) ((H2.out.2.step U1).step u4)))
  clear hc C4 u4 U1 S1 B1 H2
  go_wp2_with fail
  have L5 := lits_cl w4 [[2, -5], [-3, -5], [-2, 3, 5]] (by simp) (by simp)
  have C5 := SameL_calls (H4.out.2.1.upd L5.2) L5.1
  refine C5.mono ?_
  rintro e w5 ⟨rfl, u5⟩
  have H5 := Lib.hid (And.intro (H4.out.1.upd (L5.2.step u5)) (H4.out.2.2.step (L5.2.step u5)))
  clear L5 C5 u5 H4
  go_wp2_with fail
  have L6 := lits_cl w5 [[2, -5], [-2, -5]] (by simp) (by simp)
  have C6 := SameL_calls (H5.out.1.upd L6.2) L6.1
  refine C6.mono ?_
  rintro e w6 ⟨rfl, u6⟩
  have H6 := Lib.hid (H5.out.2.step (L6.2.step u6))
  clear L6 C6 u6 H5
  go_wp2_with fail
  go_ret
  exact ⟨rfl, H6.out⟩
end
end Gate
end Go.Proofs.Ytjflbhkhnmodaaa
