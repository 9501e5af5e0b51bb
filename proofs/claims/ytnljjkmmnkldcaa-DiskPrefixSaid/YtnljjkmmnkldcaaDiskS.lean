/- Walks through the reference of package disk: counting, the numbers of files, making a disk. Conditions: none. -/
import Derived.Test.YtnljjkmmnkldcaaDiskR
set_option linter.unusedVariables false
set_option linter.unusedSimpArgs false
set_option linter.unusedSectionVars false
open Go.RowKit
namespace Go.Proofs.Ytnljjkmmnkldcaa
open L
namespace Disk
open Wire
theorem infoInt : (Try.prog.info? 3).map (fun i => (i.zero, i.size, i.bytes)) = some (some (.int .i64 0), 1, 8) := by kernel_rfl
section
variable {w w' : World} {p : Nat} {s : DS} {S : List Nat}
set_option maxRecDepth 100000 in
set_option maxHeartbeats 2000000 in
theorem RUsed_calls (h : RDk w p s S) : Calls Try.prog 47 #[.pointer (some ⟨p, 0, none⟩)] w fun e w' => e = .returned (.int .i64 (used s : Nat)) ∧ w = w' := by
  obtain ⟨bB, bF, V, h1, h2, h3, _, _, _, _, _, _, h10, _⟩ := h.ex
  have c1 := h1.cell (i := 1) rfl
  have HB := Lib.hid (And.intro h2 h10)
  have HU := Lib.hid (And.intro h.ok.used h.ok.room)
  have HL := Lib.hid h.ok.len
  clear h h1 h2 h3 h10
  go_enter Try.func47, Try.ntmps47
  go_wp2_with fail
  go_loopw [3, 4] (fun sum i wr => ∃ k : Nat, i = .int .i64 k ∧ k ≤ 64 ∧ sum = .int .i64 (tot (fun i => (s.B i).length) k : Nat) ∧ wr = w) (fun _ i _ => 64 - (intOf i).toNat)
  case atStart => exact ⟨0, rfl, Nat.zero_le _, rfl, rfl⟩
  case round =>
    obtain ⟨k, rfl, hk, rfl, rfl⟩ := hrel
    by_cases hlt : k < 64
    · have hlti : (k : Int) < 64 := by omega
      obtain ⟨_, a, c, hv, _⟩ := SL.of_owns (HB.out.2 k hlt).1
      have d0 := HB.out.1.cell (vl_get V hlt)
      rw [hv] at d0
      have hle := tot_mono2 (g := fun i => (s.B i).length) hlt
      have hsum : tot (fun i => (s.B i).length) k + (s.B k).length ≤ 16777216 := by have := HU.out; unfold used at this; omega
      have hsi : ((tot (fun i => (s.B i).length) k : Nat) : Int) + ((s.B k).length : Int) ≤ 16777216 := by omega
      have hst := Lib.hid (tot_succ (fun i => (s.B i).length) k)
      clear hv hle hsum
      generalize tot (fun i => (s.B i).length) k = tk at *
      generalize (s.B k).length = lk at *
      go_wp2_with fail
      go_roundw
      case rel => exact ⟨k + 1, by go_num, by omega, by rw [hst.out]; go_num, trivial⟩
      case measure => simp [intOf]; omega
    · have hk64 : k = 64 := by omega
      subst hk64
      go_wp2_with fail
      go_ret
      exact ⟨rfl, rfl⟩
set_option maxRecDepth 100000 in
set_option maxHeartbeats 2000000 in
theorem RFiles_calls (h : RDk w p s S) : Calls Try.prog 49 #[.pointer (some ⟨p, 0, none⟩)] w fun e w' => ∃ v, e = .returned v ∧ OwnV w 3 1 v (filesS s).length (ints ((filesS s).map Int.ofNat)) w' ∧ Upd [] w w' := by
  have H := Lib.hid h
  obtain ⟨bB, bF, V, h1, h2, h3, _, _, _, _, _, _, h10, _⟩ := h.ex
  have c1 := h1.cell (i := 1) rfl
  have HB := Lib.hid (And.intro h1 (And.intro h2 h10))
  have HL := Lib.hid h.ok.len
  clear h h1 h2 h3 h10
  go_enter Try.func49, Try.ntmps49
  go_wp2_with fail
  go_loopw [3, 4] (fun v i wr => ∃ k : Nat, i = .int .i64 k ∧ k ≤ 64 ∧ OwnV w 3 1 v (fl_ s.B k).length (ints ((fl_ s.B k).map Int.ofNat)) wr ∧ Upd [] w wr) (fun _ i _ => 64 - (intOf i).toNat)
  case atStart => exact ⟨0, rfl, Nat.zero_le _, OwnV.nil _ _ _ _, Upd.refl _ _⟩
  case round =>
    obtain ⟨wo, rfl⟩ : ∃ wo : World, wo = wr := ⟨_, rfl⟩
    obtain ⟨k, rfl, hk, ho, hu⟩ := hrel
    obtain ⟨_, aO, cO, rfl, _⟩ := SL.of_owns ho.row
    have hfl : (fl_ s.B k).length ≤ k := Nat.le_trans (List.length_filter_le _ _) (by simp)
    by_cases hlt : k < 64
    · have hlti : (k : Int) < 64 := by omega
      obtain ⟨_, a, c, hv, _⟩ := SL.of_owns (HB.out.2.2 k hlt).1
      have d0 := hu.some (HB.out.2.1.cell (vl_get V hlt)) (by simp)
      have c1' := hu.some c1 (by simp)
      rw [hv] at d0
      have hsu := fl_succ s.B k
      have hbl := HL.out k
      have HO := Lib.hid (And.intro ho hu)
      clear hv c1 ho hu
      by_cases hb : s.B k = []
      · rw [if_pos hb, List.append_nil] at hsu
        have hl0 : (s.B k).length = 0 := by rw [hb]; rfl
        rw [hl0] at d0
        have HS := Lib.hid hsu
        clear hsu hl0 hbl
        go_wp2_with fail
        go_roundw
        case rel => exact ⟨k + 1, by go_num, by omega, by rw [HS.out]; exact HO.out.1, HO.out.2⟩
        case measure => simp [intOf]; omega
      · rw [if_neg hb] at hsu
        have hl0 : 0 < (s.B k).length := List.length_pos_iff.2 hb
        have hl1 : (0 : Int) < ((s.B k).length : Int) := by omega
        have HS := Lib.hid hsu
        clear hsu hb
        generalize (s.B k).length = lk at *
        generalize fl_ s.B k = fk at *
        go_wp2_with (refine wpList_push rfl rfl _ _ _ _ rfl rfl rfl 3 1 8 _ Try.underlying33 infoInt rfl (by decide) (by decide) (.int .i64 (k : Int)) [.int .i64 (k : Int)] rfl rfl rfl (ints_one [(k : Int)]) (.slice aO fk.length cO) _ _ HO.out.1.row rfl rfl (by unfold maxLen; omega) (by omega) ?_; intro g1 cap1 w1 o1 u1 k1)
        have N := HO.out.1.push HO.out.2.size o1 k1
        have U := HO.out.2.fresh u1 (fun b hb => .inr (HO.out.1.fresh b (by simpa using hb)))
        refine ⟨⟨k + 1, by go_num, by omega, ?_, U⟩, by simp [intOf]; omega⟩
        rw [HS.out, List.length_append, List.map_append, ints_append]
        exact N
    · have hk64 : k = 64 := by omega
      subst hk64
      have HO := Lib.hid (And.intro ho hu)
      clear ho hu
      go_wp2_with fail
      go_ret
      exact ⟨_, rfl, HO.out.1, HO.out.2⟩
end
end Disk
end Go.Proofs.Ytnljjkmmnkldcaa
