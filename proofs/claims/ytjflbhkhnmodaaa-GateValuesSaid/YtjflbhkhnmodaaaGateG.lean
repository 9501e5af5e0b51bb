/- Walks through the reference of gates: the generators, and SameLists. Conditions: none. -/
import Derived.Test.YtjflbhkhnmodaaaGateR
import Derived.Laws.Rows
set_option linter.unusedVariables false
set_option linter.unusedSimpArgs false
set_option linter.unusedSectionVars false
open Go.RowKit
namespace Go.Proofs.Ytjflbhkhnmodaaa
open L
namespace Gate
open Cla R14 R01
theorem ret_row {fn : Func} {R : Ending → World → Prop} {a : Act} {w : World} {p : Tmp} {ty t : TypeId} {g : Nat} {cs : List Value} {fs : _} (h : fn.results = #[.cell p ty]) (hp : a.tmps.getD p undef = .pointer (some ⟨g, 0, none⟩)) (hB : Blk w g cs t)
    (hu : Try.prog.underlying ty = some (.struct fs)) (hi : (Try.prog.info? ty).map (·.size) = some cs.length) (hdf : a.defers = []) (hR : R (.returned (.agg cs.toArray)) w) :
    bodyPost Try.prog fn R .ret a w :=
  bodyPost_ret (results_cell_row h a.tmps w g t cs.toArray (0, 0) (.struct fs) hp hB hu rfl (by simpa using hi)) hdf hR
section
variable {w : World}
set_option maxRecDepth 100000 in
set_option maxHeartbeats 4000000 in
theorem SameL_calls {v1 v2 : Value} {L : List (List Int)} (h1 : CL w v1 L) (h2 : CL w v2 L) : Calls Try.prog 18 #[v1, v2] w fun e w' => e = .returned (.bool true) ∧ Upd [] w w' := by
  obtain ⟨a1, cap1, rfl, q1, r1, k1⟩ := h1.form
  obtain ⟨a2, cap2, rfl, q2, r2, k2⟩ := h2.form
  have HC := Lib.hid (And.intro k1 k2)
  have hb : ((L.length : Int) != (L.length : Int)) = false := by simp
  clear h1 h2 k1 k2
  go_enter Try.func18, Try.ntmps18
  go_wp2_with fail
  go_loopw [5] (fun i wr => ∃ k : Nat, i = .int .i64 k ∧ k ≤ L.length ∧ Upd [] w wr) (fun i _ => L.length - (intOf i).toNat)
  case atStart => exact ⟨0, rfl, Nat.zero_le _, Upd.refl _ _⟩
  case round =>
    obtain ⟨wo, rfl⟩ : ∃ wo : World, wo = wr := ⟨_, rfl⟩
    obtain ⟨k, rfl, hk, hu⟩ := hrel
    by_cases hlt : k < L.length
    · obtain ⟨g, off, ay, capy, rfl, e1, s1, _, _⟩ := (HC.out.1 k hlt).upd hu
      obtain ⟨g', off', ay', capy', rfl, e2, s2, _, _⟩ := (HC.out.2 k hlt).upd hu
      generalize L.getD k [] = c at *
      have HS := Lib.hid (And.intro hu (SameInts_calls s1 s2))
      have HS2 := Lib.hid (And.intro s1 s2)
      clear hu s1 s2
      go_wp2_with fail
      refine wp_region_qx (by kernel_rfl) (by kernel_rfl) ?_
      repeat (go_big_quiet_step (((go_at_call 21; exact qx ((SameInts_calls (HS2.out.1.upd (Ext.upd _) (by simp)) (HS2.out.2.upd (Ext.upd _) (by simp))).mono (fun e w' h => by simpa using h))))))
      refine wpQuiet_nil ?_
      intro x
      go_wp2_with fail
      exact ⟨⟨k + 1, by go_num, by omega, HS.out.1.step x.upd⟩, by simp [intOf]; omega⟩
    · go_wp2_with fail
      go_ret
      exact ⟨rfl, hu⟩
/-- A gate that was made from a number. -/
def SomeT (out : Int) (w : World) (e : Ending) (w' : World) : Prop :=
  ∃ (k : Int) (xs : List Int) (v : Value), e = .returned (.agg #[.int .i64 k, .int .i64 out, v]) ∧ 0 ≤ k ∧ k ≤ 6 ∧ xs.length = ninp k ∧ (∀ x ∈ xs, 1 ≤ x.natAbs ∧ (x.natAbs : Int) ≤ max 1 (out - 1)) ∧ Own w v xs w'
end
end Gate
end Go.Proofs.Ytjflbhkhnmodaaa
