/- Walks through the reference of package wire: Uint, Zigzag, Int. Conditions: none. -/
import Derived.Test.YtfkgpecglcjpkaaGreatOwnB
set_option linter.unusedVariables false
set_option linter.unusedSimpArgs false
set_option linter.unusedSectionVars false
open Go.RowKit
namespace Go.Proofs.YtfkgpecglcjpkaaGreat
open L
namespace R02
open Wire
section
variable {w : World}
def BytT (xs : List Int) (w : World) (e : Ending) (w' : World) : Prop := ∃ a cap, e = .returned (.slice a xs.length cap) ∧ OwnB w (.slice a xs.length cap) xs w'
set_option maxRecDepth 100000 in
set_option maxHeartbeats 2000000 in
theorem Uint_calls (n : Nat) (hn : n < 18446744073709551616) : Calls Tryz.prog 55 #[.int .u64 n] w (BytT (ub n) w) := by
  have HN := Lib.hid hn
  clear hn
  go_enter Tryz.func55, Tryz.ntmps55
  go_wp2_with fail
  go_loopw [0, 3] (fun nv o wr => ∃ (m f : Nat) (pre : List Int), nv = .int .u64 m ∧ f ≤ 9 ∧ m < 2 * 128 ^ f ∧ ub n = pre ++ ubF f m ∧ pre.length + f = 9 ∧ OwnB w o pre wr) (fun nv _ _ => (intOf nv).toNat)
  case atStart => exact ⟨n, 9, [], rfl, by omega, by have := HN.out; omega, rfl, rfl, OwnB.nil w⟩
  case round =>
    obtain ⟨m, f, pre, rfl, hf, hm, hub, hpl, ho⟩ := hrel
    have hm64 : m < 18446744073709551616 := by
      have : 128 ^ f ≤ 128 ^ 9 := Nat.pow_le_pow_right (by omega) hf
      omega
    obtain ⟨a, cap, rfl, _⟩ := ho.form
    have hpl9 : pre.length ≤ 9 := by omega
    have HX := Lib.hid (And.intro hm (And.intro hub (And.intro hpl hm64)))
    have HO := Lib.hid ho
    clear hm hub hpl hm64 ho
    by_cases hlt : m < 128
    · have hlt2 : ¬ (127 : Int) < m := by omega
      go_wp2_with (refine wpList_push rfl rfl _ _ _ _ rfl rfl rfl 5 1 1 _ Tryz.underlying39 infoByte rfl (by decide) (by decide) (.int .u8 _) [.int .u8 _] rfl rfl rfl (byts_one [_]) _ _ _ HO.out.row rfl rfl (by unfold maxLen; omega) (by omega) ?_; intro g1 cap1 w1 o1 u1 k1)
      have N := HO.out.push o1 u1 k1
      have e2 : ubF f m = [(m : Int)] := by
        cases f with
        | zero => rfl
        | succ f => rw [ubF, if_pos hlt]
      go_ret
      refine ⟨some ⟨g1, 0, none⟩, cap1, ?_, ?_⟩
      · rw [HX.out.2.1, e2]; simp
      · rw [HX.out.2.1, e2]; simpa using N
    · have hlt2 : (127 : Int) < m := by omega
      go_wp2_with (refine wpList_push rfl rfl _ _ _ _ rfl rfl rfl 5 1 1 _ Tryz.underlying39 infoByte rfl (by decide) (by decide) (.int .u8 _) [.int .u8 _] rfl rfl rfl (byts_one [_]) _ _ _ HO.out.row rfl rfl (by unfold maxLen; omega) (by omega) ?_; intro g1 cap1 w1 o1 u1 k1)
      have N := HO.out.push o1 u1 k1
      obtain ⟨hm, hub, hpl, hm64⟩ := HX.out
      cases f with
      | zero => simp at hm; omega
      | succ f =>
        have hub2 : ubF (f + 1) m = ((m % 128 + 128 : Nat) : Int) :: ubF f (m / 128) := by rw [ubF, if_neg hlt]
        have hbit : (128 : Int) + (m : Int) % 128 = ((m % 128 + 128 : Nat) : Int) := by omega
        have hw : IntKind.u64.wrap ((m : Int) / 128) = ((m / 128 : Nat) : Int) := by rw [IntKind.wrap_u64]; omega
        rw [hbit] at N
        rw [hw]
        refine ⟨⟨m / 128, f, pre ++ [((m % 128 + 128 : Nat) : Int)], rfl, by omega, ?_, ?_, by simp; omega, by simpa using N⟩, by simp [intOf]; omega⟩
        · rw [Nat.pow_succ] at hm; omega
        · rw [hub, hub2]; simp
theorem Zig_calls (n : Int) (hn : IsI64 n) : Calls Tryz.prog 84 #[.int .i64 n] w fun e w' => e = .returned (.int .u64 (zz n)) ∧ w = w' := by
  obtain ⟨h0, h1⟩ := hn
  by_cases hneg : n < 0
  · have HZ := Lib.hid (show (zz n : Int) = -2 * n - 1 by unfold zz; rw [if_neg (by omega)]; omega)
    go_enter Tryz.func84, Tryz.ntmps84
    go_wp2_with fail
    go_ret
    exact ⟨ret_int (by rw [HZ.out]; try omega), rfl⟩
  · have HZ := Lib.hid (show (zz n : Int) = 2 * n by unfold zz; rw [if_pos (by omega)]; omega)
    go_enter Tryz.func84, Tryz.ntmps84
    go_wp2_with fail
    go_ret
    exact ⟨ret_int (by rw [HZ.out]; try omega), rfl⟩
theorem Int_calls (n : Int) (hn : IsI64 n) : Calls Tryz.prog 67 #[.int .i64 n] w (BytT (ib n) w) := by
  have HZ := Lib.hid (Zig_calls (w := w) n hn)
  have HU := Lib.hid (Uint_calls (w := w) (zz n) (zz_lt hn))
  clear hn
  go_enter Tryz.func67, Tryz.ntmps67
  go_wp2_with fail
  refine HZ.out.mono ?_
  rintro e _ ⟨rfl, rfl⟩
  go_wp2_with fail
  refine HU.out.mono ?_
  rintro e w1 ⟨a, cap, rfl, ho⟩
  go_wp2_with fail
  go_ret
  exact ⟨a, cap, rfl, ho⟩
end
end R02
end Go.Proofs.YtfkgpecglcjpkaaGreat
