/- Walks through the reference of gates: Inputs, Valid, rows, literal, Clauses. Conditions: none. -/
import Derived.Test.YtobclpfpkpkocaaGateC
set_option linter.unusedVariables false
set_option linter.unusedSimpArgs false
set_option linter.unusedSectionVars false
open Go.RowKit
namespace Go.Proofs.Ytobclpfpkpkocaa
open L
namespace Gate
open Cla R14 R01
section
variable {w : World}
def inps : List Int := [1, 2, 2, 2, 3, 3, 3]
set_option maxRecDepth 100000 in
set_option maxHeartbeats 8000000 in
theorem InputsR_calls (k : Int) (h0 : 0 ≤ k) (h6 : k ≤ 6) : Calls Try.prog 17 #[.int .i64 k] w fun e w' => e = .returned (.int .i64 (ninp k)) ∧ Upd [] w w' := by
  have HU := Lib.hid ((Upd.refl [] w).alloc (.cells (ints inps).toArray 3))
  rcases (by omega : k = 0 ∨ k = 1 ∨ k = 2 ∨ k = 3 ∨ k = 4 ∨ k = 5 ∨ k = 6) with rfl | rfl | rfl | rfl | rfl | rfl | rfl
  all_goals
    go_enter Try.func17, Try.ntmps17
    go_wp2_with fail
    go_ret
    exact ⟨rfl, HU.out⟩
set_option maxRecDepth 100000 in
set_option maxHeartbeats 8000000 in
theorem Rows_calls (k : Int) (h0 : 0 ≤ k) (h6 : k ≤ 6) : Calls Try.prog 29 #[.int .i64 k] w (LsT (rowsOf k) w) := by
  have HL := Lib.hid (lits_cl w (rowsOf k) (fun c hc => by have := ((rowsOf_ok h0 h6).1 c hc).2.1; omega) (by have := (rowsOf_ok h0 h6).2; omega))
  rcases (by omega : k = 0 ∨ k = 1 ∨ k = 2 ∨ k = 3 ∨ k = 4 ∨ k = 5 ∨ k = 6) with rfl | rfl | rfl | rfl | rfl | rfl | rfl
  all_goals
    go_enter Try.func29, Try.ntmps29
    go_wp2_with fail
    go_ret
    exact ⟨_, rfl, HL.out⟩
set_option maxRecDepth 100000 in
theorem Literal_calls {xv : Value} {k o n : Int} {xs : List Int} (h : SL w 1 xv xs.length (ints xs)) (hn : n.natAbs = 4 ∨ (1 ≤ n.natAbs ∧ n.natAbs ≤ xs.length ∧ n.natAbs ≤ 3))
    (hv : -1073741824 ≤ litVar o xs n.natAbs ∧ litVar o xs n.natAbs ≤ 1073741824) :
    Calls Try.prog 30 #[.agg #[.int .i64 k, .int .i64 o, xv], .int .i64 n] w fun e w' => e = .returned (.int .i64 (litOf o xs n)) ∧ Upd [] w w' := by
  obtain ⟨a, cap, rfl, q1, r1, hc⟩ := SL.elems h
  have HC := Lib.hid hc
  clear h hc
  obtain ⟨hv1, hv2⟩ := hv
  have HL := Lib.hid (show litOf o xs n = if n < 0 then -litVar o xs n.natAbs else litVar o xs n.natAbs from rfl)
  have HLV := Lib.hid (show litVar o xs n.natAbs = if n.natAbs < 4 then xs.getD (n.natAbs - 1) 0 else o from rfl)
  go_enter Try.func30, Try.ntmps30
  go_upto_region 1 with fail
  have NB := Blk.new w [.int .i64 k, .int .i64 o, .slice a xs.length cap] 24
  have U1 := (Upd.refl [] w).alloc (.cells #[.int .i64 k, .int .i64 o, .slice a xs.length cap] 24)
  generalize w.alloc (.cells #[.int .i64 k, .int .i64 o, .slice a xs.length cap] 24) = w1 at *
  generalize w.heap.size = bb at *
  have c1 := NB.cell (i := 1) rfl
  have c2 := NB.cell (i := 2) rfl
  have HU := Lib.hid U1
  by_cases h4 : n.natAbs < 4
  · have h4' : (n.natAbs : Int) < 4 := by omega
    obtain ⟨g, off, rfl, k1⟩ := HC.out (by omega)
    have e0 := U1.some (k1 (n.natAbs - 1) _ (ints_gd (by omega))) (by simp)
    have i1 : ((n.natAbs : Int) - 1).toNat = n.natAbs - 1 := by omega
    have HV := Lib.hid (show litVar o xs n.natAbs = xs.getD (n.natAbs - 1) 0 by rw [HLV.out, if_pos h4])
    rw [HV.out] at hv1 hv2 HL
    clear NB U1 k1
    generalize xs.getD (n.natAbs - 1) 0 = y at *
    by_cases hneg : n < 0
    · have HE := Lib.hid (show litOf o xs n = -y by rw [HL.out, if_pos hneg])
      go_wp2_with (go_at_call 35; refine (Var_calls n _ (by omega) (by omega)).mono ?_; rintro e w' ⟨rfl, rfl⟩)
      go_ret
      exact ⟨ret_int HE.out.symm, HU.out⟩
    · have HE := Lib.hid (show litOf o xs n = y by rw [HL.out, if_neg hneg])
      go_wp2_with (go_at_call 35; refine (Var_calls n _ (by omega) (by omega)).mono ?_; rintro e w' ⟨rfl, rfl⟩)
      go_ret
      exact ⟨ret_int HE.out.symm, HU.out⟩
  · have h4' : ¬ (n.natAbs : Int) < 4 := by omega
    have HV := Lib.hid (show litVar o xs n.natAbs = o by rw [HLV.out, if_neg h4])
    rw [HV.out] at hv1 hv2 HL
    clear NB U1
    by_cases hneg : n < 0
    · have HE := Lib.hid (show litOf o xs n = -o by rw [HL.out, if_pos hneg])
      go_wp2_with (go_at_call 35; refine (Var_calls n _ (by omega) (by omega)).mono ?_; rintro e w' ⟨rfl, rfl⟩)
      go_ret
      exact ⟨ret_int HE.out.symm, HU.out⟩
    · have HE := Lib.hid (show litOf o xs n = o by rw [HL.out, if_neg hneg])
      go_wp2_with (go_at_call 35; refine (Var_calls n _ (by omega) (by omega)).mono ?_; rintro e w' ⟨rfl, rfl⟩)
      go_ret
      exact ⟨ret_int HE.out.symm, HU.out⟩
end
end Gate
end Go.Proofs.Ytobclpfpkpkocaa
