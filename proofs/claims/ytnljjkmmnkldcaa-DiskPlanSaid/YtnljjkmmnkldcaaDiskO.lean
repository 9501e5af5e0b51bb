/- Walks through the laws of disks: DiskPlan. Conditions: none. -/
import Derived.Test.YtnljjkmmnkldcaaDiskN
import Derived.Test.YtnljjkmmnkldcaaSame
set_option linter.unusedVariables false
set_option linter.unusedSimpArgs false
set_option linter.unusedSectionVars false
open Go.RowKit
namespace Go.Proofs.Ytnljjkmmnkldcaa
open L
namespace Disk
open Wire R01
attribute [-go_sem] sliced
section
variable {w w' : World}
set_option maxRecDepth 100000 in
set_option maxHeartbeats 16000000 in
theorem DiskPlan_calls {a0 : Int} {v : Value} {kk : List Int} (ha : IsI64 a0) (h0 : SL w 1 v kk.length (ints kk)) (hk : ∀ x ∈ kk, IsI64 x) :
    Calls Try.prog 7 #[.int .i64 a0, v] w fun e w' => e = .returned (.bool true) ∧ Upd [] w w' := by
  obtain ⟨hkl0, va, vc, rfl, hv1, hv2, hv3, hcell⟩ := h0
  have hkl : kk.length ≤ 9223372036854775807 := by unfold maxLen at hv2; omega
  have HN := Lib.hid (show Calls Try.prog 11 #[.int .i64 1000] w _ from New_good (w := w) (room := 1000) (by omega))
  have n0 := around_lo (n := a0) (k := 8) (by omega)
  have n1 := around_hi (n := a0) (k := 8) (by omega)
  have HA := Lib.hid (fun w : World => Around_calls a0 8 w ha (by omega) (by omega))
  have HKK := Lib.hid (And.intro hcell hk)
  obtain ⟨most, hm⟩ := Int.eq_ofNat_of_zero_le n0
  rw [hm] at n1 HA
  have hmi : (most : Int) < 8 := n1
  clear hcell hk ha n0 n1 hm hkl0 hv3
  go_enter Try.func7, Try.ntmps7
  go_upto_region 5 with (first | (go_at_call 11; refine HN.out.mono ?_; rintro e w1 ⟨q, S1, rfl, h1, u1, k1⟩) | (go_at_call 12; refine (HA.out _).mono ?_; rintro e _ ⟨rfl, rfl⟩))
  have F1 := Lib.hid (And.intro h1 (show Fr w S1 w1 from ⟨u1, k1⟩))
  clear h1 u1 k1 HN HA
  have HAR := Lib.hid (Arm_calls F1.out.1 (n := (most : Int)) ⟨by omega, by omega⟩)
  go_upto_region 6 with (go_at_call 28; refine HAR.out.mono ?_; rintro e w2 ⟨rfl, h2, u2⟩)
  have hpl : Pl most 0 (armS (newS 1000) (most : Int)) 0 := by
    have e : armS (newS 1000) (most : Int) = { newS 1000 with plan := (most : Int) } := by
      unfold armS
      rw [if_neg (by simp [newS])]
      congr 1
      omega
    rw [e]
    exact ⟨rfl, fun _ _ => rfl, rfl, Nat.le_refl _, fun _ => ⟨rfl, by simp⟩, fun h => by omega⟩
  have F2 := Lib.hid (And.intro h2 (And.intro (F1.out.2.step u2 (fun k hk => .inl (by simp only [List.mem_singleton] at hk; subst hk; exact F1.out.1.p_mem)) (fun k hk => .inl hk)) hpl))
  clear h2 u2 hpl HAR F1
  generalize armS (newS 1000) (most : Int) = s0 at *
  go_wp2_with fail
  go_loopw [8, 9] (fun sz i wr => ∃ (k n : Nat) (s : DS) (S : List Nat), i = .int .i64 k ∧ k ≤ 12 ∧ k ≤ kk.length ∧ sz = .int .i64 n ∧ Dk wr q s S ∧ Fr w S wr ∧ Pl most k s n) (fun _ i _ => 12 - (intOf i).toNat)
  case atStart => exact ⟨0, 0, s0, S1, rfl, by omega, Nat.zero_le _, rfl, F2.out.1, F2.out.2.1, F2.out.2.2⟩
  case round =>
    obtain ⟨wo, rfl⟩ : ∃ wo : World, wo = wr := ⟨_, rfl⟩
    obtain ⟨i, n, s, S, rfl, hi12, hil, rfl, hd, hf, hp⟩ := hrel
    have hn12 := hp.le
    by_cases hlt : i < kk.length ∧ i < 12
    · obtain ⟨hl1, hl2⟩ := hlt
      have hl1i : (i : Int) < kk.length := by omega
      have hl2i : (i : Int) < 12 := by omega
      have hkx := List.getElem?_eq_getElem hl1
      have hxi := HKK.out.2 _ (List.getElem_mem hl1)
      obtain ⟨ga, oa, rfl⟩ : ∃ g o, va = some ⟨g, o, none⟩ := by
        rcases HKK.out.1 with h | ⟨g, o, h, _⟩
        · omega
        · exact ⟨g, o, h⟩
      have dk : w.cell? ⟨ga, oa + i, none⟩ = some (.int .i64 kk[i]) := by
        rcases HKK.out.1 with h | ⟨g, o, he, h⟩
        · omega
        · cases he; exact h i _ (ints_get hkx)
      have d0 := hf.u.some dk (by simp)
      generalize kk[i] = x at *
      have m0 := around_lo (n := x) (k := 3) (by omega)
      have m1 := around_hi (n := x) (k := 3) (by omega)
      have HA := Lib.hid (fun w : World => Around_calls x 3 w hxi (by omega) (by omega))
      generalize around x 3 = y at *
      have HF := Lib.hid (And.intro hd (And.intro hf hp))
      clear hd hf hp hkx hxi dk hv2
      rcases Nat.lt_trichotomy i most with ht | ht | ht
      · have hti : (i : Int) < most := by omega
        rcases (show y = 0 ∨ y = 1 ∨ y = 2 by omega) with rfl | rfl | rfl
        · have b8 : Blk (wo.alloc (.cells #[.int .u8 5] 5)) wo.heap.size (byts [5]) 5 := Blk.new wo (byts [5]) 5
          have u8 : Upd [] wo (wo.alloc (.cells #[.int .u8 5] 5)) := (Upd.refl _ wo).alloc _
          have HOP := Lib.hid (Append_calls (HF.out.1.quiet u8) (f := 1) ⟨by omega, by omega⟩ (sl_bytes b8 (by simp)) (by intro x hx; simp at hx; subst hx; omega) (by simp) (fun g hg hm => by simp [Value.ownBlock] at hg; subst hg; have := HF.out.1.lt _ hm; omega))
          have HB := Lib.hid u8
          clear b8 u8
          have hpo := HF.out.2.2.app hl2
          have hTF : decide (i < most) = true := decide_eq_true ht
          rw [if_pos ht, if_pos (show i ≤ most by omega)] at hpo
          rw [hTF] at hpo
          rw [hpo.1] at HOP
          have PO := Lib.hid hpo
          clear hpo hTF
          go_wp2_with (first
            | (go_at_call 12; refine (HA.out _).mono ?_; rintro e _ ⟨rfl, rfl⟩)
            | (go_at_call 14; refine HOP.out.mono ?_; rintro e w3 ⟨rfl, S3, h3, u3, k3⟩; have F3 := Lib.hid (And.intro h3 ((HF.out.2.1.quiet HB.out).step u3 (fun k hk => .inl hk) k3)); have HON := Lib.hid (On_calls F3.out.1); rw [PO.out.2.2] at HON; have HUS := Lib.hid (Used_calls F3.out.1); rw [PO.out.2.1.used] at HUS; clear h3 u3)
            | (go_at_call 29; refine (HON.out).mono ?_; rintro e w' ⟨rfl, rfl⟩)
            | (go_at_call 21; refine HUS.out.mono ?_; rintro e w4 ⟨rfl, u4⟩))
          go_roundw
          case rel => exact ⟨i + 1, n + 1, _, _, by go_num, by omega, by omega, by go_num, F3.out.1.quiet u4, F3.out.2.quiet u4, PO.out.2.1⟩
          case measure => simp [intOf]; omega
        · have HOP := Lib.hid (Sync_calls HF.out.1)
          have hpo := HF.out.2.2.sync
          have hTF : decide (i < most) = true := decide_eq_true ht
          rw [if_pos ht] at hpo
          rw [hTF] at hpo
          rw [hpo.1] at HOP
          have PO := Lib.hid hpo
          clear hpo hTF
          go_wp2_with (first
            | (go_at_call 12; refine (HA.out _).mono ?_; rintro e _ ⟨rfl, rfl⟩)
            | (go_at_call 15; refine HOP.out.mono ?_; rintro e w3 ⟨rfl, h3, u3⟩; have F3 := Lib.hid (And.intro h3 (HF.out.2.1.step u3 (fun k hk => .inl hk) (fun k hk => .inl hk))); have HON := Lib.hid (On_calls F3.out.1); rw [PO.out.2.2] at HON; have HUS := Lib.hid (Used_calls F3.out.1); rw [PO.out.2.1.used] at HUS; clear h3 u3)
            | (go_at_call 29; refine (HON.out).mono ?_; rintro e w' ⟨rfl, rfl⟩)
            | (go_at_call 21; refine HUS.out.mono ?_; rintro e w4 ⟨rfl, u4⟩))
          go_roundw
          case rel => exact ⟨i + 1, n, _, _, by go_num, by omega, by omega, rfl, F3.out.1.quiet u4, F3.out.2.quiet u4, PO.out.2.1⟩
          case measure => simp [intOf]; omega
        · by_cases hn0 : 0 < n
          · have hn0i : (0 : Int) < n := by omega
            have HOP := Lib.hid (Trunc_calls HF.out.1 (f := 1) (z := (n : Int) - 1) ⟨by omega, by omega⟩ ⟨by omega, by omega⟩)
            have hpo := HF.out.2.2.trunc hn0
            have hTF : decide (i < most) = true := decide_eq_true ht
            rw [if_pos ht, if_pos ht] at hpo
            rw [hTF] at hpo
            rw [hpo.1] at HOP
            have PO := Lib.hid hpo
            clear hpo hTF
            go_wp2_with (first
              | (go_at_call 12; refine (HA.out _).mono ?_; rintro e _ ⟨rfl, rfl⟩)
              | (go_at_call 20; refine HOP.out.mono ?_; rintro e w3 ⟨rfl, h3, u3⟩; have F3 := Lib.hid (And.intro h3 (HF.out.2.1.step u3 (fun k hk => .inl hk) (fun k hk => .inl hk))); have HON := Lib.hid (On_calls F3.out.1); rw [PO.out.2.2] at HON; have HUS := Lib.hid (Used_calls F3.out.1); rw [PO.out.2.1.used] at HUS; clear h3 u3)
              | (go_at_call 29; refine (HON.out).mono ?_; rintro e w' ⟨rfl, rfl⟩)
              | (go_at_call 21; refine HUS.out.mono ?_; rintro e w4 ⟨rfl, u4⟩))
            go_roundw
            case rel => exact ⟨i + 1, n - 1, _, _, by go_num, by omega, by omega, congrArg (Value.int .i64) (by omega), F3.out.1.quiet u4, F3.out.2.quiet u4, PO.out.2.1⟩
            case measure => simp [intOf]; omega
          · have hn0i : ¬ (0 : Int) < n := by omega
            have HOP := Lib.hid (Sync_calls HF.out.1)
            have hpo := HF.out.2.2.sync
            have hTF : decide (i < most) = true := decide_eq_true ht
            rw [if_pos ht] at hpo
            rw [hTF] at hpo
            rw [hpo.1] at HOP
            have PO := Lib.hid hpo
            clear hpo hTF
            go_wp2_with (first
              | (go_at_call 12; refine (HA.out _).mono ?_; rintro e _ ⟨rfl, rfl⟩)
              | (go_at_call 15; refine HOP.out.mono ?_; rintro e w3 ⟨rfl, h3, u3⟩; have F3 := Lib.hid (And.intro h3 (HF.out.2.1.step u3 (fun k hk => .inl hk) (fun k hk => .inl hk))); have HON := Lib.hid (On_calls F3.out.1); rw [PO.out.2.2] at HON; have HUS := Lib.hid (Used_calls F3.out.1); rw [PO.out.2.1.used] at HUS; clear h3 u3)
              | (go_at_call 29; refine (HON.out).mono ?_; rintro e w' ⟨rfl, rfl⟩)
              | (go_at_call 21; refine HUS.out.mono ?_; rintro e w4 ⟨rfl, u4⟩))
            go_roundw
            case rel => exact ⟨i + 1, n, _, _, by go_num, by omega, by omega, rfl, F3.out.1.quiet u4, F3.out.2.quiet u4, PO.out.2.1⟩
            case measure => simp [intOf]; omega
      · have hti : (i : Int) = most := by omega
        have ht1 : (i : Int) ≤ most := by omega
        have ht2 : ¬ (i : Int) < most := by omega
        have ht3 : (most : Int) ≤ i := by omega
        clear hti
        have HTE := Lib.hid ht
        replace ht : most ≤ i ∧ i ≤ most := by omega
        rcases (show y = 0 ∨ y = 1 ∨ y = 2 by omega) with rfl | rfl | rfl
        · have b8 : Blk (wo.alloc (.cells #[.int .u8 5] 5)) wo.heap.size (byts [5]) 5 := Blk.new wo (byts [5]) 5
          have u8 : Upd [] wo (wo.alloc (.cells #[.int .u8 5] 5)) := (Upd.refl _ wo).alloc _
          have HOP := Lib.hid (Append_calls (HF.out.1.quiet u8) (f := 1) ⟨by omega, by omega⟩ (sl_bytes b8 (by simp)) (by intro x hx; simp at hx; subst hx; omega) (by simp) (fun g hg hm => by simp [Value.ownBlock] at hg; subst hg; have := HF.out.1.lt _ hm; omega))
          have HB := Lib.hid u8
          clear b8 u8
          have hpo := HF.out.2.2.app hl2
          have hTF : decide (i < most) = false := decide_eq_false (by omega)
          rw [if_neg (show ¬ i < most by omega), if_pos (show i ≤ most by omega)] at hpo
          rw [hTF] at hpo
          rw [hpo.1] at HOP
          have PO := Lib.hid hpo
          clear hpo hTF
          go_wp2_with (first
            | (go_at_call 12; refine (HA.out _).mono ?_; rintro e _ ⟨rfl, rfl⟩)
            | (go_at_call 14; refine HOP.out.mono ?_; rintro e w3 ⟨rfl, S3, h3, u3, k3⟩; have F3 := Lib.hid (And.intro h3 ((HF.out.2.1.quiet HB.out).step u3 (fun k hk => .inl hk) k3)); have HON := Lib.hid (On_calls F3.out.1); rw [PO.out.2.2] at HON; have HUS := Lib.hid (Used_calls F3.out.1); rw [PO.out.2.1.used] at HUS; clear h3 u3)
            | (go_at_call 29; refine (HON.out).mono ?_; rintro e w' ⟨rfl, rfl⟩)
            | (go_at_call 21; refine HUS.out.mono ?_; rintro e w4 ⟨rfl, u4⟩))
          go_roundw
          case rel => exact ⟨i + 1, n + 1, _, _, by go_num, by omega, by omega, by go_num, F3.out.1.quiet u4, F3.out.2.quiet u4, PO.out.2.1⟩
          case measure => simp [intOf]; omega
        · have HOP := Lib.hid (Sync_calls HF.out.1)
          have hpo := HF.out.2.2.sync
          have hTF : decide (i < most) = false := decide_eq_false (by omega)
          rw [if_neg (show ¬ i < most by omega)] at hpo
          rw [hTF] at hpo
          rw [hpo.1] at HOP
          have PO := Lib.hid hpo
          clear hpo hTF
          go_wp2_with (first
            | (go_at_call 12; refine (HA.out _).mono ?_; rintro e _ ⟨rfl, rfl⟩)
            | (go_at_call 15; refine HOP.out.mono ?_; rintro e w3 ⟨rfl, h3, u3⟩; have F3 := Lib.hid (And.intro h3 (HF.out.2.1.step u3 (fun k hk => .inl hk) (fun k hk => .inl hk))); have HON := Lib.hid (On_calls F3.out.1); rw [PO.out.2.2] at HON; have HUS := Lib.hid (Used_calls F3.out.1); rw [PO.out.2.1.used] at HUS; clear h3 u3)
            | (go_at_call 29; refine (HON.out).mono ?_; rintro e w' ⟨rfl, rfl⟩)
            | (go_at_call 21; refine HUS.out.mono ?_; rintro e w4 ⟨rfl, u4⟩))
          go_roundw
          case rel => exact ⟨i + 1, n, _, _, by go_num, by omega, by omega, rfl, F3.out.1.quiet u4, F3.out.2.quiet u4, PO.out.2.1⟩
          case measure => simp [intOf]; omega
        · by_cases hn0 : 0 < n
          · have hn0i : (0 : Int) < n := by omega
            have HOP := Lib.hid (Trunc_calls HF.out.1 (f := 1) (z := (n : Int) - 1) ⟨by omega, by omega⟩ ⟨by omega, by omega⟩)
            have hpo := HF.out.2.2.trunc hn0
            have hTF : decide (i < most) = false := decide_eq_false (by omega)
            rw [if_neg (show ¬ i < most by omega), if_neg (show ¬ i < most by omega)] at hpo
            rw [hTF] at hpo
            rw [hpo.1] at HOP
            have PO := Lib.hid hpo
            clear hpo hTF
            go_wp2_with (first
              | (go_at_call 12; refine (HA.out _).mono ?_; rintro e _ ⟨rfl, rfl⟩)
              | (go_at_call 20; refine HOP.out.mono ?_; rintro e w3 ⟨rfl, h3, u3⟩; have F3 := Lib.hid (And.intro h3 (HF.out.2.1.step u3 (fun k hk => .inl hk) (fun k hk => .inl hk))); have HON := Lib.hid (On_calls F3.out.1); rw [PO.out.2.2] at HON; have HUS := Lib.hid (Used_calls F3.out.1); rw [PO.out.2.1.used] at HUS; clear h3 u3)
              | (go_at_call 29; refine (HON.out).mono ?_; rintro e w' ⟨rfl, rfl⟩)
              | (go_at_call 21; refine HUS.out.mono ?_; rintro e w4 ⟨rfl, u4⟩))
            go_roundw
            case rel => exact ⟨i + 1, n, _, _, by go_num, by omega, by omega, rfl, F3.out.1.quiet u4, F3.out.2.quiet u4, PO.out.2.1⟩
            case measure => simp [intOf]; omega
          · have hn0i : ¬ (0 : Int) < n := by omega
            have HOP := Lib.hid (Sync_calls HF.out.1)
            have hpo := HF.out.2.2.sync
            have hTF : decide (i < most) = false := decide_eq_false (by omega)
            rw [if_neg (show ¬ i < most by omega)] at hpo
            rw [hTF] at hpo
            rw [hpo.1] at HOP
            have PO := Lib.hid hpo
            clear hpo hTF
            go_wp2_with (first
              | (go_at_call 12; refine (HA.out _).mono ?_; rintro e _ ⟨rfl, rfl⟩)
              | (go_at_call 15; refine HOP.out.mono ?_; rintro e w3 ⟨rfl, h3, u3⟩; have F3 := Lib.hid (And.intro h3 (HF.out.2.1.step u3 (fun k hk => .inl hk) (fun k hk => .inl hk))); have HON := Lib.hid (On_calls F3.out.1); rw [PO.out.2.2] at HON; have HUS := Lib.hid (Used_calls F3.out.1); rw [PO.out.2.1.used] at HUS; clear h3 u3)
              | (go_at_call 29; refine (HON.out).mono ?_; rintro e w' ⟨rfl, rfl⟩)
              | (go_at_call 21; refine HUS.out.mono ?_; rintro e w4 ⟨rfl, u4⟩))
            go_roundw
            case rel => exact ⟨i + 1, n, _, _, by go_num, by omega, by omega, rfl, F3.out.1.quiet u4, F3.out.2.quiet u4, PO.out.2.1⟩
            case measure => simp [intOf]; omega
      · have hti : (most : Int) < i := by omega
        rcases (show y = 0 ∨ y = 1 ∨ y = 2 by omega) with rfl | rfl | rfl
        · have b8 : Blk (wo.alloc (.cells #[.int .u8 5] 5)) wo.heap.size (byts [5]) 5 := Blk.new wo (byts [5]) 5
          have u8 : Upd [] wo (wo.alloc (.cells #[.int .u8 5] 5)) := (Upd.refl _ wo).alloc _
          have HOP := Lib.hid (Append_calls (HF.out.1.quiet u8) (f := 1) ⟨by omega, by omega⟩ (sl_bytes b8 (by simp)) (by intro x hx; simp at hx; subst hx; omega) (by simp) (fun g hg hm => by simp [Value.ownBlock] at hg; subst hg; have := HF.out.1.lt _ hm; omega))
          have HB := Lib.hid u8
          clear b8 u8
          have hpo := HF.out.2.2.app hl2
          have hTF : decide (i < most) = false := decide_eq_false (by omega)
          rw [if_neg (show ¬ i < most by omega), if_neg (show ¬ i ≤ most by omega)] at hpo
          rw [hTF] at hpo
          rw [hpo.1] at HOP
          have PO := Lib.hid hpo
          clear hpo hTF
          go_wp2_with (first
            | (go_at_call 12; refine (HA.out _).mono ?_; rintro e _ ⟨rfl, rfl⟩)
            | (go_at_call 14; refine HOP.out.mono ?_; rintro e w3 ⟨rfl, S3, h3, u3, k3⟩; have F3 := Lib.hid (And.intro h3 ((HF.out.2.1.quiet HB.out).step u3 (fun k hk => .inl hk) k3)); have HON := Lib.hid (On_calls F3.out.1); rw [PO.out.2.2] at HON; have HUS := Lib.hid (Used_calls F3.out.1); rw [PO.out.2.1.used] at HUS; clear h3 u3)
            | (go_at_call 29; refine (HON.out).mono ?_; rintro e w' ⟨rfl, rfl⟩)
            | (go_at_call 21; refine HUS.out.mono ?_; rintro e w4 ⟨rfl, u4⟩))
          go_roundw
          case rel => exact ⟨i + 1, n, _, _, by go_num, by omega, by omega, rfl, F3.out.1.quiet u4, F3.out.2.quiet u4, PO.out.2.1⟩
          case measure => simp [intOf]; omega
        · have HOP := Lib.hid (Sync_calls HF.out.1)
          have hpo := HF.out.2.2.sync
          have hTF : decide (i < most) = false := decide_eq_false (by omega)
          rw [if_neg (show ¬ i < most by omega)] at hpo
          rw [hTF] at hpo
          rw [hpo.1] at HOP
          have PO := Lib.hid hpo
          clear hpo hTF
          go_wp2_with (first
            | (go_at_call 12; refine (HA.out _).mono ?_; rintro e _ ⟨rfl, rfl⟩)
            | (go_at_call 15; refine HOP.out.mono ?_; rintro e w3 ⟨rfl, h3, u3⟩; have F3 := Lib.hid (And.intro h3 (HF.out.2.1.step u3 (fun k hk => .inl hk) (fun k hk => .inl hk))); have HON := Lib.hid (On_calls F3.out.1); rw [PO.out.2.2] at HON; have HUS := Lib.hid (Used_calls F3.out.1); rw [PO.out.2.1.used] at HUS; clear h3 u3)
            | (go_at_call 29; refine (HON.out).mono ?_; rintro e w' ⟨rfl, rfl⟩)
            | (go_at_call 21; refine HUS.out.mono ?_; rintro e w4 ⟨rfl, u4⟩))
          go_roundw
          case rel => exact ⟨i + 1, n, _, _, by go_num, by omega, by omega, rfl, F3.out.1.quiet u4, F3.out.2.quiet u4, PO.out.2.1⟩
          case measure => simp [intOf]; omega
        · by_cases hn0 : 0 < n
          · have hn0i : (0 : Int) < n := by omega
            have HOP := Lib.hid (Trunc_calls HF.out.1 (f := 1) (z := (n : Int) - 1) ⟨by omega, by omega⟩ ⟨by omega, by omega⟩)
            have hpo := HF.out.2.2.trunc hn0
            have hTF : decide (i < most) = false := decide_eq_false (by omega)
            rw [if_neg (show ¬ i < most by omega), if_neg (show ¬ i < most by omega)] at hpo
            rw [hTF] at hpo
            rw [hpo.1] at HOP
            have PO := Lib.hid hpo
            clear hpo hTF
            go_wp2_with (first
              | (go_at_call 12; refine (HA.out _).mono ?_; rintro e _ ⟨rfl, rfl⟩)
              | (go_at_call 20; refine HOP.out.mono ?_; rintro e w3 ⟨rfl, h3, u3⟩; have F3 := Lib.hid (And.intro h3 (HF.out.2.1.step u3 (fun k hk => .inl hk) (fun k hk => .inl hk))); have HON := Lib.hid (On_calls F3.out.1); rw [PO.out.2.2] at HON; have HUS := Lib.hid (Used_calls F3.out.1); rw [PO.out.2.1.used] at HUS; clear h3 u3)
              | (go_at_call 29; refine (HON.out).mono ?_; rintro e w' ⟨rfl, rfl⟩)
              | (go_at_call 21; refine HUS.out.mono ?_; rintro e w4 ⟨rfl, u4⟩))
            go_roundw
            case rel => exact ⟨i + 1, n, _, _, by go_num, by omega, by omega, rfl, F3.out.1.quiet u4, F3.out.2.quiet u4, PO.out.2.1⟩
            case measure => simp [intOf]; omega
          · have hn0i : ¬ (0 : Int) < n := by omega
            have HOP := Lib.hid (Sync_calls HF.out.1)
            have hpo := HF.out.2.2.sync
            have hTF : decide (i < most) = false := decide_eq_false (by omega)
            rw [if_neg (show ¬ i < most by omega)] at hpo
            rw [hTF] at hpo
            rw [hpo.1] at HOP
            have PO := Lib.hid hpo
            clear hpo hTF
            go_wp2_with (first
              | (go_at_call 12; refine (HA.out _).mono ?_; rintro e _ ⟨rfl, rfl⟩)
              | (go_at_call 15; refine HOP.out.mono ?_; rintro e w3 ⟨rfl, h3, u3⟩; have F3 := Lib.hid (And.intro h3 (HF.out.2.1.step u3 (fun k hk => .inl hk) (fun k hk => .inl hk))); have HON := Lib.hid (On_calls F3.out.1); rw [PO.out.2.2] at HON; have HUS := Lib.hid (Used_calls F3.out.1); rw [PO.out.2.1.used] at HUS; clear h3 u3)
              | (go_at_call 29; refine (HON.out).mono ?_; rintro e w' ⟨rfl, rfl⟩)
              | (go_at_call 21; refine HUS.out.mono ?_; rintro e w4 ⟨rfl, u4⟩))
            go_roundw
            case rel => exact ⟨i + 1, n, _, _, by go_num, by omega, by omega, rfl, F3.out.1.quiet u4, F3.out.2.quiet u4, PO.out.2.1⟩
            case measure => simp [intOf]; omega
    · have HF := Lib.hid (And.intro hd (And.intro hf hp))
      have hlt2 : i = kk.length ∨ i = 12 := by omega
      have hx : ∀ (P : Prop), (i = kk.length → P) → (i < kk.length → i = 12 → P) → P := fun P h1 h2 => by
        by_cases h : i < kk.length
        · exact h2 h (by omega)
        · exact h1 (by omega)
      have b8 : Blk (wo.alloc (.cells #[.int .i64 1000] 3)) wo.heap.size (ints [1000]) 3 := Blk.new wo (ints [1000]) 3
      have u8 : Upd [] wo (wo.alloc (.cells #[.int .i64 1000] 3)) := (Upd.refl _ wo).alloc _
      have HCR := Lib.hid (Crash_calls (hd.quiet u8) (keep := [1000]) (fp := -1) (sl_ints b8 (by simp)) (fun g hg hm => by simp [Value.ownBlock] at hg; subst hg; have := hd.lt _ hm; omega) (by intro x hx; simp at hx; subst hx; exact ⟨by omega, by omega⟩) ⟨by omega, by omega⟩)
      have HF8 := Lib.hid (hf.quiet u8)
      have hcr := hp.crash hd.ok (by omega)
      have HC := Lib.hid hcr
      clear hd hf hp b8 u8 hcr hlt2
      by_cases h : i < kk.length
      · have hi : i = 12 := by omega
        have h1i : (i : Int) < kk.length := by omega
        subst hi
        go_upto_region 29 with (go_at_call 16; refine HCR.out.mono ?_; rintro e w3 ⟨rfl, h3, u3⟩)
        have F3 := Lib.hid (And.intro h3 (HF8.out.step u3 (fun k hk => .inl hk) (fun k hk => .inl hk)))
        have HRD := Lib.hid (Read_calls F3.out.1 (f := 1) ⟨by omega, by omega⟩)
        rw [HC.out.1, HC.out.2.1] at HRD
        clear h3 u3 HCR
        go_upto_region 30 with (go_at_call 17; refine HRD.out.mono ?_; rintro e w4 ⟨v4, rfl, o4, u4⟩; obtain ⟨_, a4, c4, rfl, _⟩ := SL.of_owns o4.row)
        have F4 := Lib.hid (And.intro (F3.out.1.quiet u4) (F3.out.2.quiet u4))
        have HON := Lib.hid (On_calls F4.out.1)
        rw [HC.out.2.2.1] at HON
        have HSY := Lib.hid (Sync_calls F4.out.1)
        rw [HC.out.2.2.2] at HSY
        clear o4 u4 HRD F3
        go_wp2_with (first
          | (go_at_call 29; refine (HON.out).mono ?_; rintro e w' ⟨rfl, rfl⟩)
          | (go_at_call 15; refine HSY.out.mono ?_; rintro e w5 ⟨rfl, h5, u5⟩)
          | (go_at_call 19; refine lives_calls.mono ?_; rintro e w6 ⟨rfl, u6⟩))
        go_ret
        exact ⟨rfl, (F4.out.2.step u5 (fun k hk => .inl hk) (fun k hk => .inl hk)).u.step u6⟩
      · have h1i : ¬ (i : Int) < kk.length := by omega
        go_upto_region 29 with (go_at_call 16; refine HCR.out.mono ?_; rintro e w3 ⟨rfl, h3, u3⟩)
        have F3 := Lib.hid (And.intro h3 (HF8.out.step u3 (fun k hk => .inl hk) (fun k hk => .inl hk)))
        have HRD := Lib.hid (Read_calls F3.out.1 (f := 1) ⟨by omega, by omega⟩)
        rw [HC.out.1, HC.out.2.1] at HRD
        clear h3 u3 HCR
        go_upto_region 30 with (go_at_call 17; refine HRD.out.mono ?_; rintro e w4 ⟨v4, rfl, o4, u4⟩; obtain ⟨_, a4, c4, rfl, _⟩ := SL.of_owns o4.row)
        have F4 := Lib.hid (And.intro (F3.out.1.quiet u4) (F3.out.2.quiet u4))
        have HON := Lib.hid (On_calls F4.out.1)
        rw [HC.out.2.2.1] at HON
        have HSY := Lib.hid (Sync_calls F4.out.1)
        rw [HC.out.2.2.2] at HSY
        clear o4 u4 HRD F3
        go_wp2_with (first
          | (go_at_call 29; refine (HON.out).mono ?_; rintro e w' ⟨rfl, rfl⟩)
          | (go_at_call 15; refine HSY.out.mono ?_; rintro e w5 ⟨rfl, h5, u5⟩)
          | (go_at_call 19; refine lives_calls.mono ?_; rintro e w6 ⟨rfl, u6⟩))
        go_ret
        exact ⟨rfl, (F4.out.2.step u5 (fun k hk => .inl hk) (fun k hk => .inl hk)).u.step u6⟩
end
end Disk
end Go.Proofs.Ytnljjkmmnkldcaa
