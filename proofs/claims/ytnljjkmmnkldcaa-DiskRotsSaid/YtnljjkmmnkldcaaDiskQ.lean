/- Walks through the laws of disks: DiskHash. Conditions: none. -/
import Derived.Test.YtnljjkmmnkldcaaDiskM
import Derived.Test.YtnljjkmmnkldcaaHashS
set_option linter.unusedVariables false
set_option linter.unusedSimpArgs false
set_option linter.unusedSectionVars false
open Go.RowKit
namespace Go.Proofs.Ytnljjkmmnkldcaa
open L
namespace Disk
open Wire R01 Hash
attribute [-go_sem] sliced
/-- One file of a disk, whole. -/
def oneS (b : List Int) : DS := { newS 100 with B := setB (newS 100).B 0 b }
theorem one_rank (b : List Int) (i : Nat) (h : i ≤ 0) : rank (oneS b).B i = 0 := by
  have : i = 0 := by omega
  subst this
  rfl
theorem one_kept (b : List Int) (hb : b ≠ []) (hl : b.length ≤ 8) (i : Nat) : keptN (oneS b) [8] i = if i = 0 then b.length else 0 := by
  unfold keptN
  by_cases h : i = 0
  · subst h
    have e : (oneS b).B 0 = b := by simp [oneS, setB]
    rw [e, if_neg hb, one_rank b 0 (Nat.le_refl _)]
    simp [oneS, newS]
    omega
  · have e : (oneS b).B i = [] := by simp [oneS, setB, h, newS]
    rw [e, if_pos rfl, if_neg h]
theorem one_tot (b : List Int) (hb : b ≠ []) (hl : b.length ≤ 8) : tot (keptN (oneS b) [8]) 64 = b.length := by
  have h := tot_one (n := 64) (g := keptN (oneS b) [8]) (h := fun _ => 0) (i := 0) (by omega) (fun j _ hne => by rw [one_kept b hb hl, if_neg hne])
  have h2 := tot_zero (g := fun _ => 0) (n := 64) (fun _ _ => rfl)
  rw [one_kept b hb hl, if_pos rfl] at h
  omega
theorem one_crash (b : List Int) (hb : b ≠ []) (hl : b.length ≤ 8) (hu : ∀ x ∈ b, 0 ≤ x ∧ x ≤ 255) (flip : Int) : (crashS (oneS b) [8] flip).B 0 = if 0 ≤ flip then flipL b (flip.toNat % (8 * b.length)) else b := by
  have hlp := List.length_pos_iff.2 hb
  show crashB (oneS b) [8] (crashAt (oneS b) [8] flip) 0 = _
  have e0 : (oneS b).B 0 = b := by simp [oneS, setB]
  have eF : (oneS b).F 0 = 0 := rfl
  unfold crashAt
  rw [one_tot b hb hl]
  by_cases hf : 0 ≤ flip
  · rw [if_pos ⟨hf, hlp⟩, if_pos hf]
    have hm := Nat.mod_lt flip.toNat (show 0 < 8 * b.length by omega)
    unfold crashB
    simp only [e0, eF, one_kept b hb hl, if_pos, tot, Nat.zero_add, Nat.mul_zero, Nat.sub_zero, Nat.zero_le, true_and, hm, List.take_length]
  · rw [if_neg (fun h => hf h.1), if_neg hf]
    unfold crashB
    simp only [e0, eF, one_kept b hb hl, if_pos, Nat.zero_add, List.take_length]
def oneF (b : List Int) : DS := { oneS b with F := fun i => ((oneS b).B i).length }
theorem one_syncS (b : List Int) : (syncS (oneS b)).2 = oneF b := by
  unfold syncS
  rw [if_neg (by simp [oneS, newS]), if_neg (by simp [stepS, oneS, newS])]
  simp [stepS, oneS, newS, oneF]
theorem oneF_kept (b : List Int) (i : Nat) : keptN (oneF b) [8] i = 0 := by
  have h : keptN (oneF b) [8] i ≤ ((oneS b).B i).length - ((oneS b).B i).length := keptN_le (oneF b) [8] i
  omega
theorem one_sync (b : List Int) (flip : Int) : (crashS (syncS (oneS b)).2 [8] flip).B 0 = b := by
  rw [one_syncS]
  have ht : tot (keptN (oneF b) [8]) 64 = 0 := tot_zero (fun i _ => oneF_kept b i)
  show crashB (oneF b) [8] (crashAt (oneF b) [8] flip) 0 = b
  unfold crashAt
  rw [ht, if_neg (by omega)]
  unfold crashB
  rw [oneF_kept]
  have e0 : (oneF b).B 0 = b := by simp [oneF, oneS, setB]
  have e1 : (oneF b).F 0 = b.length := by simp [oneF, oneS, setB]
  simp only [e0, e1]
  simp
theorem flip_hash {lw : List Nat} {ll k : Nat} {b : List Int} (hlw : ∀ w ∈ lw, w < 18446744073709551616) (hll : ll < 18446744073709551616) (hl : b.length ≤ 1000000) (hu : ∀ x ∈ b, 0 ≤ x ∧ x ≤ 255) (hk : k < 8 * b.length) : bytesN lw ll (flipL b k) ≠ bytesN lw ll b := by
  have hi : k / 8 < b.length := by omega
  have hy := hu _ (List.getElem_mem hi)
  have hf := flipB_u8 hy k
  have e : flipL b k = b.set (k / 8) (flipB b[k / 8] k) := by
    unfold flipL
    apply List.ext_getElem?
    intro j
    rw [List.getElem?_modify, List.getElem?_set]
    by_cases e : k / 8 = j
    · subst e; simp [hi]
    · simp [e]
  rw [e]
  exact bytesN_set hlw hll (by omega) hu hf.1 hi hf.2.1
def fS : ByteArray := { data := #[102] }
theorem fS_size : fS.size = 1 := rfl
theorem fS_W : labW fS = [102] := by decide
theorem fS_lt : ∀ w ∈ labW fS, w < 18446744073709551616 := by rw [fS_W]; simp
section
variable {w w' : World}
/-- The tail of DiskHash: what the crash left is read and hashed. -/
theorem app_one {b : List Int} (hl : b.length ≤ 8) : (appendS (newS 100) 0 b).2 = oneS b := by
  rw [app_new (by decide) (by omega)]
  rfl
set_option maxRecDepth 100000 in
set_option maxHeartbeats 8000000 in
theorem DiskHash_calls {v : Value} {bb : List Int} {flip : Int} {sy : Bool} (h0 : SL w 1 v bb.length (byts bb)) (hb : ∀ x ∈ bb, IsU8 x) (hf : IsI64 flip) :
    Calls Try.prog 9 #[v, .int .i64 flip, .bool sy] w fun e w' => e = .returned (.bool true) ∧ Upd [] w w' := by
  obtain ⟨va, vc, rfl, _⟩ := h0.val
  have HN := Lib.hid (show Calls Try.prog 11 #[.int .i64 100] w _ from New_good (w := w) (room := 100) (by omega))
  have HZ := Lib.hid (And.intro h0 (And.intro hb hf))
  clear h0 hb hf
  go_enter Try.func9, Try.ntmps9
  go_upto_region 4 with (go_at_call 11; refine HN.out.mono ?_; rintro e w1 ⟨q, S1, rfl, h1, u1, k1⟩)
  have F1 := Lib.hid (And.intro h1 (show Fr w S1 w1 from ⟨u1, k1⟩))
  have HFW := Lib.hid (Few_calls (HZ.out.1.upd u1 (by simp)) 7 (by omega))
  have hol : (bb.take 7).length ≤ 7 := by rw [List.length_take]; omega
  have ho8 := u8_take HZ.out.2.1 7
  have HO8 := Lib.hid (show ∀ x ∈ bb.take 7, 0 ≤ x ∧ x ≤ 255 from ho8)
  clear h1 u1 k1 HN ho8
  generalize bb.take 7 = own0 at *
  go_upto_region 5 with (first
    | (go_at_call 13; refine HFW.out.mono ?_; rintro e w2 ⟨a2, c2, rfl, o2, u2⟩; have F2 := Lib.hid (And.intro o2 u2); clear o2 u2)
    | (refine wpList_push rfl rfl _ _ _ _ rfl rfl rfl 5 1 1 _ Try.underlying27 infoByte rfl (by decide) (by decide) (.int .u8 1) [.int .u8 1] rfl rfl rfl (byts_one [1]) (.slice a2 own0.length c2) _ _ F2.out.1.row rfl rfl (by unfold maxLen; omega) (by omega) ?_; intro g3 cap3 w3 o3 u3 k3))
  have N3 := F2.out.1.push F2.out.2.size o3 k3
  have e3 : byts own0 ++ [Value.int .u8 1] = byts (own0 ++ [1]) := by simp [byts]
  rw [e3] at N3
  have hlen3 : (own0 ++ [1]).length = own0.length + 1 := by simp
  rw [← hlen3] at N3 ⊢
  have U13 : Upd [] w1 w3 := F2.out.2.fresh u3 (fun b hb => .inr (F2.out.1.fresh b (by simpa using hb)))
  have hu8 : ∀ x ∈ own0 ++ [1], 0 ≤ x ∧ x ≤ 255 := fun x hx => by
    rcases List.mem_append.1 hx with hx | hx
    · exact HO8.out x hx
    · simp at hx; subst hx; omega
  have hne : own0 ++ [1] ≠ [] := by simp
  have hol2 : (own0 ++ [1]).length ≤ 8 := by omega
  have HO := Lib.hid (And.intro hu8 hne)
  have F3 := Lib.hid (And.intro (F1.out.1.quiet U13) (And.intro (F1.out.2.quiet U13) N3))
  have hoS : ∀ g, (Value.slice (some ⟨g3, 0, none⟩) (own0 ++ [1]).length cap3).ownBlock = some g → g ∉ S1 := fun g hg hm => by have h1 := N3.fresh g hg; have h2 := F1.out.1.lt g hm; omega
  clear o3 u3 k3 N3 e3 hu8 hne U13 F2 HFW hlen3 hol
  have HOS := Lib.hid hoS
  clear hoS
  generalize own0 ++ [1] = own at *
  have HAP := Lib.hid (Append_calls F3.out.1 (f := 0) ⟨by omega, by omega⟩ F3.out.2.2.sl HO.out.1 (by omega) HOS.out)
  rw [app_one hol2] at HAP
  go_upto_region 6 with (go_at_call 14; refine HAP.out.mono ?_; rintro e w4 ⟨rfl, S4, h4, u4, k4⟩)
  have hoS4 : ∀ k ∈ S4, (Value.slice (some ⟨g3, 0, none⟩) own.length cap3).ownBlock ≠ some k := fun k hk e => by
    rcases k4 k hk with h | h
    · exact HOS.out k e h
    · have := F3.out.2.2.lt k e; omega
  have F4 := Lib.hid (And.intro h4 (And.intro (F3.out.2.1.step u4 (fun k hk => .inl hk) k4) (And.intro (F3.out.2.2.upd u4 (fun k hk e => HOS.out k e hk)) hoS4)))
  clear h4 u4 k4 hoS4 HAP F3 F1
  cases sy with
  | true =>
    have HSY := Lib.hid (Sync_calls F4.out.1)
    go_upto_region 8 with (go_at_call 15; refine HSY.out.mono ?_; rintro e w5 ⟨rfl, h5, u5⟩)
    have F5 := Lib.hid (And.intro h5 (And.intro (F4.out.2.1.step u5 (fun k hk => .inl hk) (fun k hk => .inl hk)) (And.intro (F4.out.2.2.1.upd u5 (fun k hk => F4.out.2.2.2 k hk)) F4.out.2.2.2)))
    clear h5 u5 HSY
    have b6 : Blk (w5.alloc (.cells #[.int .i64 8] 3)) w5.heap.size (ints [8]) 3 := Blk.new w5 (ints [8]) 3
    have u6 : Upd [] w5 (w5.alloc (.cells #[.int .i64 8] 3)) := (Upd.refl _ w5).alloc _
    have HCR := Lib.hid (Crash_calls (F5.out.1.quiet u6) (keep := [8]) (fp := flip) (sl_ints b6 (by simp)) (fun g hg hm => by simp [Value.ownBlock] at hg; subst hg; have := F5.out.1.lt _ hm; omega) (by intro x hx; simp at hx; subst hx; exact ⟨by omega, by omega⟩) HZ.out.2.2)
    have F6 := Lib.hid (And.intro (F5.out.2.1.quiet u6) (F5.out.2.2.1.upd u6 (by simp)))
    have hcr := one_sync own flip
    have hrd : readS (crashS (syncS (oneS own)).2 [8] flip) 0 = ((crashS (syncS (oneS own)).2 [8] flip).B 0, 0) := rfl
    clear b6 u6
    go_upto_region 9 with (go_at_call 16; refine HCR.out.mono ?_; rintro e w7 ⟨rfl, h7, u7⟩)
    have F7 := Lib.hid (And.intro h7 (And.intro (F6.out.1.step u7 (fun k hk => .inl hk) (fun k hk => .inl hk)) (F6.out.2.upd u7 (fun k hk => F4.out.2.2.2 k hk))))
    have HRD := Lib.hid (Read_calls F7.out.1 (f := 0) ⟨by omega, by omega⟩)
    rw [hrd] at HRD
    have HX8 := Lib.hid F7.out.1.ok.u8
    have hx8 := HX8.out 0
    rw [hcr] at HRD hx8
    have HXX := Lib.hid hx8
    clear h7 u7 HCR hcr hrd hx8 HX8
    go_upto_region 10 with (go_at_call 17; refine HRD.out.mono ?_; rintro e w8 ⟨v8, rfl, o8, u8⟩; obtain ⟨_, a8, c8, rfl, _⟩ := SL.of_owns o8.row)
    replace o8 : OwnV w7 5 1 (.slice a8 (own).length c8) (own).length (byts (own)) w8 := o8
    have F8 := Lib.hid (And.intro (F7.out.2.1.quiet u8) (And.intro (F7.out.2.2.upd u8 (by simp)) o8))
    have HB1 := Lib.hid (show Calls Try.prog 32 #[.string { data := #[102] }, .slice a8 (own).length c8] w8 _ from BytesP_calls fS (by rw [fS_size]; omega) o8.sl HXX.out (by omega) o8.lt)
    clear o8 u8 HRD
    go_wp2_with (first
      | (go_at_call 32; (with_reducible refine HB1.out.mono ?_); rintro e w9 ⟨rfl, u9⟩; have HB2 := Lib.hid (show Calls Try.prog 32 #[.string { data := #[102] }, .slice (some ⟨g3, 0, none⟩) own.length cap3] w9 _ from BytesP_calls (w := w9) fS (by rw [fS_size]; omega) (F8.out.2.1.upd u9 (by simp)).sl HO.out.1 (by omega) (F8.out.2.1.upd u9 (by simp)).lt); have F9 := Lib.hid (F8.out.1.quiet u9); clear u9)
      | (go_at_call 32; (with_reducible refine HB2.out.mono ?_); rintro e w10 ⟨rfl, u10⟩)
      | (go_at_call 19; refine lives_calls.mono ?_; rintro e w11 ⟨rfl, u11⟩))
    go_ret
    exact ⟨rfl, F9.out.u.step (u10.step u11)⟩
  | false =>
    by_cases hfl : 0 ≤ flip
    · have hm := Nat.mod_lt flip.toNat (show 0 < 8 * own.length by have := List.length_pos_iff.2 HO.out.2; omega)
      have hnh := flip_hash (lw := labW fS) (ll := fS.size) (b := own) fS_lt (by rw [fS_size]; omega) (by omega) HO.out.1 hm
      have hne2 : ¬ ((bytesN (labW fS) fS.size (flipL own (flip.toNat % (8 * own.length))) : Nat) : Int) = ((bytesN (labW fS) fS.size own : Nat) : Int) := by omega
      have HNE := Lib.hid hne2
      clear hnh hm hne2
      have F5 := Lib.hid F4.out
      go_upto_region 8 with fail
      have b6 : Blk (w4.alloc (.cells #[.int .i64 8] 3)) w4.heap.size (ints [8]) 3 := Blk.new w4 (ints [8]) 3
      have u6 : Upd [] w4 (w4.alloc (.cells #[.int .i64 8] 3)) := (Upd.refl _ w4).alloc _
      have HCR := Lib.hid (Crash_calls (F5.out.1.quiet u6) (keep := [8]) (fp := flip) (sl_ints b6 (by simp)) (fun g hg hm => by simp [Value.ownBlock] at hg; subst hg; have := F5.out.1.lt _ hm; omega) (by intro x hx; simp at hx; subst hx; exact ⟨by omega, by omega⟩) HZ.out.2.2)
      have F6 := Lib.hid (And.intro (F5.out.2.1.quiet u6) (F5.out.2.2.1.upd u6 (by simp)))
      have hcr := (one_crash own HO.out.2 hol2 HO.out.1 flip).trans (if_pos hfl)
      have hrd : readS (crashS (oneS own) [8] flip) 0 = ((crashS (oneS own) [8] flip).B 0, 0) := rfl
      clear b6 u6
      go_upto_region 9 with (go_at_call 16; refine HCR.out.mono ?_; rintro e w7 ⟨rfl, h7, u7⟩)
      have F7 := Lib.hid (And.intro h7 (And.intro (F6.out.1.step u7 (fun k hk => .inl hk) (fun k hk => .inl hk)) (F6.out.2.upd u7 (fun k hk => F4.out.2.2.2 k hk))))
      have HRD := Lib.hid (Read_calls F7.out.1 (f := 0) ⟨by omega, by omega⟩)
      rw [hrd] at HRD
      have HX8 := Lib.hid F7.out.1.ok.u8
      have hx8 := HX8.out 0
      rw [hcr] at HRD hx8
      have HXX := Lib.hid hx8
      clear h7 u7 HCR hcr hrd hx8 HX8
      have hne3 := HNE.out
      generalize flip.toNat % (8 * own.length) = kf at *
      have hbq : (((bytesN (labW fS) fS.size (flipL own kf) : Nat) : Int) == ((bytesN (labW fS) fS.size own : Nat) : Int)) = false := by simpa using hne3
      have hfq : decide (flip < 0) = false := decide_eq_false (by omega)
      go_upto_region 10 with (go_at_call 17; refine HRD.out.mono ?_; rintro e w8 ⟨v8, rfl, o8, u8⟩; obtain ⟨_, a8, c8, rfl, _⟩ := SL.of_owns o8.row)
      replace o8 : OwnV w7 5 1 (.slice a8 (flipL own kf).length c8) (flipL own kf).length (byts (flipL own kf)) w8 := o8
      have F8 := Lib.hid (And.intro (F7.out.2.1.quiet u8) (And.intro (F7.out.2.2.upd u8 (by simp)) o8))
      have HB1 := Lib.hid (show Calls Try.prog 32 #[.string { data := #[102] }, .slice a8 (flipL own kf).length c8] w8 _ from BytesP_calls fS (by rw [fS_size]; omega) o8.sl HXX.out (by rw [flipL_length]; omega) o8.lt)
      clear o8 u8 HRD
      rw [flipL_length] at HB1 ⊢
      go_wp2_with (first
        | (go_at_call 32; (with_reducible refine HB1.out.mono ?_); rintro e w9 ⟨rfl, u9⟩; have HB2 := Lib.hid (show Calls Try.prog 32 #[.string { data := #[102] }, .slice (some ⟨g3, 0, none⟩) own.length cap3] w9 _ from BytesP_calls (w := w9) fS (by rw [fS_size]; omega) (F8.out.2.1.upd u9 (by simp)).sl HO.out.1 (by omega) (F8.out.2.1.upd u9 (by simp)).lt); have F9 := Lib.hid (F8.out.1.quiet u9); clear u9)
        | (go_at_call 32; (with_reducible refine HB2.out.mono ?_); rintro e w10 ⟨rfl, u10⟩)
        | (go_at_call 19; refine lives_calls.mono ?_; rintro e w11 ⟨rfl, u11⟩))
      go_ret
      exact ⟨rfl, F9.out.u.step (u10.step u11)⟩
    · have F5 := Lib.hid F4.out
      go_upto_region 8 with fail
      have b6 : Blk (w4.alloc (.cells #[.int .i64 8] 3)) w4.heap.size (ints [8]) 3 := Blk.new w4 (ints [8]) 3
      have u6 : Upd [] w4 (w4.alloc (.cells #[.int .i64 8] 3)) := (Upd.refl _ w4).alloc _
      have HCR := Lib.hid (Crash_calls (F5.out.1.quiet u6) (keep := [8]) (fp := flip) (sl_ints b6 (by simp)) (fun g hg hm => by simp [Value.ownBlock] at hg; subst hg; have := F5.out.1.lt _ hm; omega) (by intro x hx; simp at hx; subst hx; exact ⟨by omega, by omega⟩) HZ.out.2.2)
      have F6 := Lib.hid (And.intro (F5.out.2.1.quiet u6) (F5.out.2.2.1.upd u6 (by simp)))
      have hcr := (one_crash own HO.out.2 hol2 HO.out.1 flip).trans (if_neg hfl)
      have hrd : readS (crashS (oneS own) [8] flip) 0 = ((crashS (oneS own) [8] flip).B 0, 0) := rfl
      clear b6 u6
      go_upto_region 9 with (go_at_call 16; refine HCR.out.mono ?_; rintro e w7 ⟨rfl, h7, u7⟩)
      have F7 := Lib.hid (And.intro h7 (And.intro (F6.out.1.step u7 (fun k hk => .inl hk) (fun k hk => .inl hk)) (F6.out.2.upd u7 (fun k hk => F4.out.2.2.2 k hk))))
      have HRD := Lib.hid (Read_calls F7.out.1 (f := 0) ⟨by omega, by omega⟩)
      rw [hrd] at HRD
      have HX8 := Lib.hid F7.out.1.ok.u8
      have hx8 := HX8.out 0
      rw [hcr] at HRD hx8
      have HXX := Lib.hid hx8
      clear h7 u7 HCR hcr hrd hx8 HX8
      have hfl2 : flip < 0 := by omega
      clear hfl
      go_upto_region 10 with (go_at_call 17; refine HRD.out.mono ?_; rintro e w8 ⟨v8, rfl, o8, u8⟩; obtain ⟨_, a8, c8, rfl, _⟩ := SL.of_owns o8.row)
      replace o8 : OwnV w7 5 1 (.slice a8 (own).length c8) (own).length (byts (own)) w8 := o8
      have F8 := Lib.hid (And.intro (F7.out.2.1.quiet u8) (And.intro (F7.out.2.2.upd u8 (by simp)) o8))
      have HB1 := Lib.hid (show Calls Try.prog 32 #[.string { data := #[102] }, .slice a8 (own).length c8] w8 _ from BytesP_calls fS (by rw [fS_size]; omega) o8.sl HXX.out (by omega) o8.lt)
      clear o8 u8 HRD
      go_wp2_with (first
        | (go_at_call 32; (with_reducible refine HB1.out.mono ?_); rintro e w9 ⟨rfl, u9⟩; have HB2 := Lib.hid (show Calls Try.prog 32 #[.string { data := #[102] }, .slice (some ⟨g3, 0, none⟩) own.length cap3] w9 _ from BytesP_calls (w := w9) fS (by rw [fS_size]; omega) (F8.out.2.1.upd u9 (by simp)).sl HO.out.1 (by omega) (F8.out.2.1.upd u9 (by simp)).lt); have F9 := Lib.hid (F8.out.1.quiet u9); clear u9)
        | (go_at_call 32; (with_reducible refine HB2.out.mono ?_); rintro e w10 ⟨rfl, u10⟩)
        | (go_at_call 19; refine lives_calls.mono ?_; rintro e w11 ⟨rfl, u11⟩))
      go_ret
      exact ⟨rfl, F9.out.u.step (u10.step u11)⟩
end
end Disk
end Go.Proofs.Ytnljjkmmnkldcaa
