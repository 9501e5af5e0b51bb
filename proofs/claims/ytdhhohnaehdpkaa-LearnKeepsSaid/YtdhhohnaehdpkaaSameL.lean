/- Walks through the reference of gates: SameLists. Conditions: none. -/
import Derived.Test.YtdhhohnaehdpkaaLists
import Derived.Test.YtdhhohnaehdpkaaSame
set_option linter.unusedVariables false
set_option linter.unusedSimpArgs false
set_option linter.unusedSectionVars false
open Go.RowKit
namespace Go.Proofs.Ytdhhohnaehdpkaa
open L
namespace Learn
open R01
section
variable {w : World}
def nOf : Value → Int
  | .int _ q => q
  | _ => 0
set_option maxRecDepth 100000 in
theorem SameL_calls {v1 v2 : Value} {L : List (List Int)} (h1 : CL w v1 L) (h2 : CL w v2 L) : Calls Try.prog 21 #[v1, v2] w fun e w' => e = .returned (.bool true) ∧ Upd [] w w' := by
  obtain ⟨a1, cap1, rfl, q1, r1, k1⟩ := h1.form
  obtain ⟨a2, cap2, rfl, q2, r2, k2⟩ := h2.form
  have HC := Lib.hid (And.intro k1 k2)
  have hb : ((L.length : Int) != (L.length : Int)) = false := by simp
  clear h1 h2 k1 k2
  go_enter Try.func21, Try.ntmps21
  go_wp2_with fail
  go_loopw [5] (fun i wr => ∃ k : Nat, i = .int .i64 k ∧ k ≤ L.length ∧ Upd [] w wr) (fun i _ => L.length - (nOf i).toNat)
  case atStart => exact ⟨0, rfl, Nat.zero_le _, Upd.refl _ _⟩
  case round =>
    obtain ⟨wo, rfl⟩ : ∃ wo : World, wo = wr := ⟨_, rfl⟩
    obtain ⟨k, rfl, hk, hu⟩ := hrel
    by_cases hlt : k < L.length
    · obtain ⟨g, off, ay, capy, rfl, e1, s1, _, _⟩ := (HC.out.1 k hlt).upd hu
      obtain ⟨g', off', ay', capy', rfl, e2, s2, _, _⟩ := (HC.out.2 k hlt).upd hu
      generalize L.getD k [] = c at *
      have HS := Lib.hid (And.intro hu (SameInts_calls s1 s2))
      have HS2 := Lib.hid (And.intro s1 s2)
      clear hu s1 s2
      go_wp2_with fail
      refine wp_region_qx (by kernel_rfl) (by kernel_rfl) ?_
      repeat (go_big_quiet_step (((go_at_call 15; exact qx ((SameInts_calls (HS2.out.1.upd (Ext.upd _) (by simp)) (HS2.out.2.upd (Ext.upd _) (by simp))).mono (fun e w' h => by simpa using h))))))
      refine wpQuiet_nil ?_
      intro x
      go_wp2_with fail
      exact ⟨⟨k + 1, by go_num, by omega, HS.out.1.step x.upd⟩, by simp [nOf]; omega⟩
    · go_wp2_with fail
      go_ret
      exact ⟨rfl, hu⟩
end
end Learn
end Go.Proofs.Ytdhhohnaehdpkaa
