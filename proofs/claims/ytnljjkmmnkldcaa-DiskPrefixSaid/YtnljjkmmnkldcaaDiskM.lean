/- Walks through the laws of disks: DiskArguments. Conditions: none. -/
import Derived.Test.YtnljjkmmnkldcaaDiskL
set_option linter.unusedVariables false
set_option linter.unusedSimpArgs false
set_option linter.unusedSectionVars false
open Go.RowKit
namespace Go.Proofs.Ytnljjkmmnkldcaa
open L
namespace Disk
open Wire R01
attribute [-go_sem] sliced
theorem u8_take {bb : List Int} (h : ∀ x ∈ bb, IsU8 x) (n : Nat) : ∀ x ∈ bb.take n, IsU8 x := fun x hx => h x (List.mem_of_mem_take hx)
theorem isF_not {f : Int} (h : isF f = false) : f < 0 ∨ (0 ≤ f ∧ 63 < f) := by
  have : ¬ (0 ≤ f ∧ f < 64) := of_decide_eq_false h
  omega
theorem used_new (r : Nat) : used (newS r) = 0 := by
  unfold used
  exact tot_zero (fun _ _ => rfl)
theorem app_new {r : Nat} {f : Int} {b : List Int} (hf : isF f = true) (hb : b.length ≤ r) : appendS (newS r) f b = (0, { newS r with B := setB (newS r).B f.toNat b }) := by
  unfold appendS
  rw [if_neg (by rw [hf]; simp), if_neg (by simp [newS]), if_neg (by rw [used_new]; simp only [newS]; omega)]
  simp [stepS, newS]
theorem app_full {r : Nat} {f : Int} {b : List Int} (hf : isF f = true) (hb : r < b.length) : appendS (newS r) f b = (22, newS r) := by
  unfold appendS
  rw [if_neg (by rw [hf]; simp), if_neg (by simp [newS]), if_pos (by rw [used_new]; simp only [newS]; omega)]
theorem used_one {r i : Nat} {b : List Int} (hi : i < 64) : used { newS r with B := setB (newS r).B i b } = b.length := by
  unfold used
  have h := tot_one (n := 64) (g := fun j => (setB (newS r).B i b j).length) (h := fun j => ((newS r).B j).length) (i := i) hi (fun j _ hne => by simp only [setB, if_neg hne])
  have h2 := used_new r
  unfold used at h2
  simp only [setB, if_pos, newS, List.length_nil] at h h2 ⊢
  omega
section
variable {w w' : World}
set_option maxRecDepth 100000 in
set_option maxHeartbeats 8000000 in
theorem DiskArguments_calls {room file size : Int} {v : Value} {bb : List Int} (hr : IsI64 room) (hf : IsI64 file) (hz : IsI64 size) (h0 : SL w 1 v bb.length (byts bb)) (hb : ∀ x ∈ bb, IsU8 x) :
    Calls Try.prog 4 #[.int .i64 room, .int .i64 file, .int .i64 size, v] w fun e w' => e = .returned (.bool true) ∧ Upd [] w w' := by
  obtain ⟨va, vc, rfl, _⟩ := h0.val
  by_cases hroom : room < 0 ∨ 16777216 < room
  · have HN := Lib.hid (New_bad (w := w) hroom)
    by_cases hneg : room < 0
    · clear hroom
      go_enter Try.func4, Try.ntmps4
      go_wp2_with (first | (go_at_call 11; refine (HN.out).mono ?_; rintro e w' ⟨rfl, rfl⟩) | (go_at_call 19; refine lives_calls.mono ?_; rintro e w2 ⟨rfl, u2⟩))
      go_ret
      exact ⟨rfl, u2⟩
    · have hbig : 16777216 < room := by omega
      clear hroom
      go_enter Try.func4, Try.ntmps4
      go_wp2_with (first | (go_at_call 11; refine (HN.out).mono ?_; rintro e w' ⟨rfl, rfl⟩) | (go_at_call 19; refine lives_calls.mono ?_; rintro e w2 ⟨rfl, u2⟩))
      go_ret
      exact ⟨rfl, u2⟩
  · obtain ⟨r, rfl⟩ := Int.eq_ofNat_of_zero_le (show 0 ≤ room by omega)
    have hrr : r ≤ 16777216 := by omega
    have hri : (r : Int) ≤ 16777216 := by omega
    have HN := Lib.hid (New_good (w := w) hrr)
    have HZ := Lib.hid (And.intro hf (And.intro hz (And.intro h0 hb)))
    clear hroom hr hf hz h0 hb
    go_enter Try.func4, Try.ntmps4
    go_upto_region 6 with (go_at_call 11; refine HN.out.mono ?_; rintro e w1 ⟨q, S1, rfl, h1, u1, k1⟩)
    have F1 := Lib.hid (And.intro h1 (show Fr w S1 w1 from ⟨u1, k1⟩))
    have HFW := Lib.hid (Few_calls (HZ.out.2.2.1.upd u1 (by simp)) 60 (by omega))
    have hol : (bb.take 60).length ≤ 60 := by rw [List.length_take]; omega
    have ho8 := u8_take HZ.out.2.2.2 60
    have HO8 := Lib.hid (show ∀ x ∈ bb.take 60, 0 ≤ x ∧ x ≤ 255 from ho8)
    clear h1 u1 k1 HN ho8
    generalize bb.take 60 = own at *
    go_upto_region 7 with (go_at_call 13; refine HFW.out.mono ?_; rintro e w2 ⟨a2, c2, rfl, o2, u2⟩)
    have F2 := Lib.hid (And.intro (F1.out.1.quiet u2) (And.intro (F1.out.2.quiet u2) o2))
    have hoS : ∀ g, (Value.slice a2 own.length c2).ownBlock = some g → g ∉ S1 := fun g hg hm => by have h1 := o2.fresh g hg; have h2 := F1.out.1.lt g hm; omega
    have HAP := Lib.hid (Append_calls F2.out.1 HZ.out.1 o2.sl HO8.out (by omega) hoS)
    have HOS := Lib.hid hoS
    clear o2 u2 hoS HFW F1
    go_upto_region 8 with (go_at_call 14; refine HAP.out.mono ?_; rintro e w3 ⟨rfl, S3, h3, u3, k3⟩)
    have hoS3 : ∀ k ∈ S3, (Value.slice a2 own.length c2).ownBlock ≠ some k := fun k hk e => by
      rcases k3 k hk with h | h
      · exact HOS.out k e h
      · have := F2.out.2.2.lt k e; omega
    have hoS1 : ∀ k ∈ S1, (Value.slice a2 own.length c2).ownBlock ≠ some k := fun k hk e => HOS.out k e hk
    have F3 := Lib.hid (And.intro h3 (And.intro (F2.out.2.1.step u3 (fun k hk => .inl hk) k3) (And.intro (F2.out.2.2.upd u3 hoS1) hoS3)))
    clear h3 u3 k3 hoS3 hoS1 HAP F2
    have HRD := Lib.hid (Read_calls F3.out.1 HZ.out.1)
    cases hfile : isF file with
    | false =>
      have hap1 : (appendS (newS r) file own).1 = 1 := by unfold appendS; rw [if_pos hfile]
      have hap2 : (appendS (newS r) file own).2 = newS r := by unfold appendS; rw [if_pos hfile]
      rw [hap1]
      rw [hap2] at F3 HRD
      have hrd : readS (newS r) file = ([], 1) := by unfold readS; rw [if_pos hfile]
      rw [hrd] at HRD
      have HIF := Lib.hid hfile
      clear hap1 hap2 hrd
      rcases isF_not hfile with hneg | ⟨hnn, hbig⟩
      · clear hfile
        go_upto_region 10 with (go_at_call 17; refine HRD.out.mono ?_; rintro e w4 ⟨v4, rfl, o4, u4⟩; obtain ⟨_, a4, c4, rfl, _⟩ := SL.of_owns o4.row)
        have F4 := Lib.hid (And.intro (F3.out.1.quiet u4) (F3.out.2.1.quiet u4))
        have HT := Lib.hid (Trunc_calls F4.out.1 HZ.out.1 (z := 0) ⟨by omega, by omega⟩)
        have htr : truncS (newS r) file 0 = (1, newS r) := by unfold truncS; rw [if_pos (.inl HIF.out)]
        rw [htr] at HT
        clear o4 u4 htr HRD
        go_wp2_with (first
          | (go_at_call 20; refine HT.out.mono ?_; rintro e w5 ⟨rfl, h5, u5⟩; have F5 := Lib.hid (And.intro h5 (F4.out.2.step u5 (fun k hk => .inl hk) (fun k hk => .inl hk))); have HU := Lib.hid (Used_calls (s := newS r) F5.out.1); rw [used_new] at HU; clear h5 u5)
          | (go_at_call 21; refine HU.out.mono ?_; rintro e w6 ⟨rfl, u6⟩)
          | (go_at_call 19; refine lives_calls.mono ?_; rintro e w7 ⟨rfl, u7⟩))
        go_ret
        exact ⟨rfl, F5.out.2.u.step (u6.step u7)⟩
      · clear hfile
        go_upto_region 10 with (go_at_call 17; refine HRD.out.mono ?_; rintro e w4 ⟨v4, rfl, o4, u4⟩; obtain ⟨_, a4, c4, rfl, _⟩ := SL.of_owns o4.row)
        have F4 := Lib.hid (And.intro (F3.out.1.quiet u4) (F3.out.2.1.quiet u4))
        have HT := Lib.hid (Trunc_calls F4.out.1 HZ.out.1 (z := 0) ⟨by omega, by omega⟩)
        have htr : truncS (newS r) file 0 = (1, newS r) := by unfold truncS; rw [if_pos (.inl HIF.out)]
        rw [htr] at HT
        clear o4 u4 htr HRD
        go_wp2_with (first
          | (go_at_call 20; refine HT.out.mono ?_; rintro e w5 ⟨rfl, h5, u5⟩; have F5 := Lib.hid (And.intro h5 (F4.out.2.step u5 (fun k hk => .inl hk) (fun k hk => .inl hk))); have HU := Lib.hid (Used_calls (s := newS r) F5.out.1); rw [used_new] at HU; clear h5 u5)
          | (go_at_call 21; refine HU.out.mono ?_; rintro e w6 ⟨rfl, u6⟩)
          | (go_at_call 19; refine lives_calls.mono ?_; rintro e w7 ⟨rfl, u7⟩))
        go_ret
        exact ⟨rfl, F5.out.2.u.step (u6.step u7)⟩
    | true =>
      have h64 := isF_iff.1 hfile
      obtain ⟨i, rfl⟩ := Int.eq_ofNat_of_zero_le h64.1
      have hi : i < 64 := by omega
      have hii : (i : Int) < 64 := by omega
      by_cases hfull : r < own.length
      · have hap1 : (appendS (newS r) (i : Int) own).1 = 22 := by rw [app_full hfile hfull]
        have hap2 : (appendS (newS r) (i : Int) own).2 = newS r := by rw [app_full hfile hfull]
        have hrd : readS (newS r) (i : Int) = ([], 0) := by unfold readS; rw [if_neg (by rw [hfile]; simp), if_neg (by simp [newS])]; simp [newS]
        rw [hap1]
        rw [hap2] at F3 HRD
        rw [hrd] at HRD
        have hfi : (r : Int) < own.length := by omega
        clear hap1 hap2 hrd hfile h64
        go_upto_region 12 with (go_at_call 17; refine HRD.out.mono ?_; rintro e w4 ⟨v4, rfl, o4, u4⟩; obtain ⟨_, a4, c4, rfl, _⟩ := SL.of_owns o4.row)
        have F4 := Lib.hid (And.intro (F3.out.1.quiet u4) (F3.out.2.1.quiet u4))
        have HU := Lib.hid (Used_calls F4.out.1)
        rw [used_new] at HU
        clear o4 u4 HRD
        go_wp2_with (first
          | (go_at_call 21; refine HU.out.mono ?_; rintro e w6 ⟨rfl, u6⟩)
          | (go_at_call 19; refine lives_calls.mono ?_; rintro e w7 ⟨rfl, u7⟩))
        go_ret
        exact ⟨rfl, F4.out.2.u.step (u6.step u7)⟩
      · have hfit : own.length ≤ r := by omega
        have hap1 : (appendS (newS r) (i : Int) own).1 = 0 := by rw [app_new hfile hfit]
        have hap2 : (appendS (newS r) (i : Int) own).2 = { newS r with B := setB (newS r).B i own } := by rw [app_new hfile hfit, Int.toNat_natCast]
        rw [hap1]
        rw [hap2] at F3 HRD
        have hus := used_one (r := r) (b := own) hi
        have hrd : readS { newS r with B := setB (newS r).B i own } (i : Int) = (own, 0) := by unfold readS; rw [if_neg (by rw [hfile]; simp), if_neg (by simp [newS]), Int.toNat_natCast]; simp [setB]
        have hBi : ({ newS r with B := setB (newS r).B i own } : DS).B i = own := by simp [setB]
        have htr : ∀ z : Nat, z ≤ own.length → (truncS { newS r with B := setB (newS r).B i own } (i : Int) (z : Int)).1 = 0 ∧ readS (truncS { newS r with B := setB (newS r).B i own } (i : Int) (z : Int)).2 (i : Int) = (own.take z, 0) := fun z hz => by
          have e : truncS { newS r with B := setB (newS r).B i own } (i : Int) (z : Int) = (0, { newS r with B := setB (setB (newS r).B i own) i (own.take z), F := setF (newS r).F i (min ((newS r).F i) z) }) := by
            unfold truncS
            rw [if_neg (by rw [hfile, Int.toNat_natCast, hBi]; simp; omega), if_neg (by simp [newS]), if_neg (by simp [stepS, newS]), Int.toNat_natCast, Int.toNat_natCast]
            simp [stepS, newS, setB]
          rw [e]
          refine ⟨rfl, ?_⟩
          unfold readS
          rw [if_neg (by rw [hfile]; simp), if_neg (by simp [newS]), Int.toNat_natCast]
          simp [setB]
        have htb : size < 0 ∨ (own.length : Int) < size → truncS { newS r with B := setB (newS r).B i own } (i : Int) size = (1, { newS r with B := setB (newS r).B i own }) := fun h => by
          unfold truncS
          rw [if_pos (.inr (by rw [Int.toNat_natCast, hBi]; exact h))]
        generalize ({ newS r with B := setB (newS r).B i own } : DS) = s1 at *
        rw [hrd] at HRD
        have HTR := Lib.hid (And.intro hus (And.intro htr htb))
        have hfi : ¬ (r : Int) < own.length := by omega
        clear hap1 hap2 hrd hfile h64 hus hBi htr htb hfull
        go_upto_region 13 with (go_at_call 17; refine HRD.out.mono ?_; rintro e w4 ⟨v4, rfl, o4, u4⟩; obtain ⟨_, a4, c4, rfl, _⟩ := SL.of_owns o4.row)
        have F4 := Lib.hid (And.intro (F3.out.1.quiet u4) (And.intro (F3.out.2.1.quiet u4) (And.intro (F3.out.2.2.1.upd u4 (by simp)) F3.out.2.2.2)))
        have HSB := Lib.hid (show Calls Try.prog 18 #[.slice a4 own.length c4, .slice a2 own.length c2] w4 (fun e w' => e = .returned (.bool true) ∧ Upd [] w4 w') from (SameBytes_calls o4.sl F4.out.2.2.1.sl).mono (fun e w' h => by simpa using h))
        clear o4 u4 HRD
        go_upto_region 15 with (go_at_call 18; refine HSB.out.mono ?_; rintro e w5 ⟨rfl, u5⟩)
        have F5 := Lib.hid (And.intro (F4.out.1.quiet u5) (And.intro (F4.out.2.1.quiet u5) (F4.out.2.2.1.upd u5 (by simp))))
        clear u5 HSB
        have HT := Lib.hid (Trunc_calls F5.out.1 HZ.out.1 HZ.out.2.1)
        by_cases hsz : size < 0 ∨ (own.length : Int) < size
        · rw [HTR.out.2.2 hsz] at HT
          by_cases hsn : size < 0
          · clear hsz
            go_wp2_with (first
              | (go_at_call 20; refine HT.out.mono ?_; rintro e w6 ⟨rfl, h6, u6⟩; have F6 := Lib.hid (And.intro h6 (F5.out.2.1.step u6 (fun k hk => .inl hk) (fun k hk => .inl hk))); have HU := Lib.hid (Used_calls (s := s1) F6.out.1); rw [HTR.out.1] at HU; clear h6 u6)
              | (go_at_call 21; refine HU.out.mono ?_; rintro e w7 ⟨rfl, u7⟩)
              | (go_at_call 19; refine lives_calls.mono ?_; rintro e w8 ⟨rfl, u8⟩))
            go_ret
            exact ⟨rfl, F6.out.2.u.step (u7.step u8)⟩
          · have hsb : (own.length : Int) < size := by omega
            clear hsz
            go_wp2_with (first
              | (go_at_call 20; refine HT.out.mono ?_; rintro e w6 ⟨rfl, h6, u6⟩; have F6 := Lib.hid (And.intro h6 (F5.out.2.1.step u6 (fun k hk => .inl hk) (fun k hk => .inl hk))); have HU := Lib.hid (Used_calls (s := s1) F6.out.1); rw [HTR.out.1] at HU; clear h6 u6)
              | (go_at_call 21; refine HU.out.mono ?_; rintro e w7 ⟨rfl, u7⟩)
              | (go_at_call 19; refine lives_calls.mono ?_; rintro e w8 ⟨rfl, u8⟩))
            go_ret
            exact ⟨rfl, F6.out.2.u.step (u7.step u8)⟩
        · obtain ⟨z, rfl⟩ := Int.eq_ofNat_of_zero_le (show 0 ≤ size by omega)
          have hzl : z ≤ own.length := by omega
          have hzli : (z : Int) ≤ own.length := by omega
          obtain ⟨t1, t2⟩ := HTR.out.2.1 z hzl
          rw [t1] at HT
          have HT2 := Lib.hid t2
          clear hsz t1 t2
          go_upto_region 18 with (go_at_call 20; refine HT.out.mono ?_; rintro e w6 ⟨rfl, h6, u6⟩)
          have hoS3 : ∀ k ∈ S3, (Value.slice a2 own.length c2).ownBlock ≠ some k := F4.out.2.2.2
          have F6 := Lib.hid (And.intro h6 (And.intro (F5.out.2.1.step u6 (fun k hk => .inl hk) (fun k hk => .inl hk)) (F5.out.2.2.upd u6 hoS3)))
          have HRD2 := Lib.hid (Read_calls F6.out.1 HZ.out.1)
          rw [HT2.out] at HRD2
          clear h6 u6 HT hoS3
          have hc2 : own.length ≤ c2 := by
            obtain ⟨_, _, _, he, h2, _⟩ := SL.of_owns F6.out.2.2.row
            cases he; exact h2
          have hzc : (z : Int) ≤ c2 := by omega
          have hsl := sliced_pre ((owns_addr F6.out.2.2.row).elim (fun h => .inl h.1) (fun ⟨g, hg⟩ => .inr ⟨g, 0, hg⟩)) z c2
          go_upto_region 19 with (go_at_call 17; refine HRD2.out.mono ?_; rintro e w7 ⟨v7, rfl, o7, u7⟩; obtain ⟨_, a7, c7, rfl, _⟩ := SL.of_owns o7.row)
          have htl : (own.take z).length = z := by rw [List.length_take]; omega
          have hrow := own_pre (F6.out.2.2.upd u7 (by simp)).row hzl
          rw [Nat.mul_one, byts_take] at hrow
          have hs2 : SL w7 1 (.slice a2 z c2) (own.take z).length (byts (own.take z)) := by rw [htl]; exact SL.of_owns hrow
          have HSB := Lib.hid (show Calls Try.prog 18 #[.slice a7 (own.take z).length c7, .slice a2 z c2] w7 (fun e w' => e = .returned (.bool true) ∧ Upd [] w7 w') from (SameBytes_calls o7.sl hs2).mono (fun e w' h => by simpa using h))
          have F7 := Lib.hid (F6.out.2.1.quiet u7)
          clear o7 u7 hrow hs2 HRD2
          rw [htl] at HSB
          go_wp2_with (first
            | (go_at_call 18; refine HSB.out.mono ?_; rintro e w8 ⟨rfl, u8⟩)
            | (go_at_call 19; refine lives_calls.mono ?_; rintro e w9 ⟨rfl, u9⟩))
          go_ret
          exact ⟨rfl, F7.out.u.step (u8.step u9)⟩
end
end Disk
end Go.Proofs.Ytnljjkmmnkldcaa
