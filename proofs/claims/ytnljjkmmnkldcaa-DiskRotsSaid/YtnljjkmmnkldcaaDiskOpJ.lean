/- The law DiskRots: its walk (begun). Conditions: none. -/
import Derived.Test.YtnljjkmmnkldcaaDiskOpI
import Derived.Test.YtnljjkmmnkldcaaDiskQ
set_option linter.unusedVariables false
set_option linter.unusedSimpArgs false
set_option linter.unusedSectionVars false
open Go.RowKit
namespace Go.Proofs.Ytnljjkmmnkldcaa
open L
namespace Disk
open Wire R01 Hash
attribute [-go_sem] sliced
theorem SL_cut {w : World} {a : Option Addr} {i n m cap : Nat} {cs : List Value} (h : SL w 1 (.slice a n cap) n cs) (hm : m ≤ n) (hi : i ≤ m) : SL w 1 (sliced a i m cap 1) (m - i) ((cs.take m).drop i) := by
  have h' : SL w 1 (.slice a m cap) m (cs.take m) := by
    obtain ⟨h1, a', cap', he, h2, h3, h5, h4⟩ := h
    cases he
    refine ⟨by rw [List.length_take]; omega, a, cap, rfl, by omega, h3, h5, ?_⟩
    rcases h4 with h4 | ⟨b, off, rfl, h4⟩
    · left; omega
    · right
      refine ⟨b, off, rfl, fun j u hj => h4 j u ?_⟩
      rw [List.getElem?_take] at hj
      split at hj
      · exact hj
      · cases hj
  exact h'.from_ hi
theorem sliced_ownD {a : Option Addr} {i m n cap c b : Nat} (h : (sliced a i m cap 1).ownBlock = some b) : (Value.slice a n c).ownBlock = some b := by
  cases a with
  | none => unfold sliced at h; split at h <;> simp [Value.ownBlock] at h
  | some a =>
    have hb : a.block = b := by
      unfold sliced at h
      have e2 : ∀ k, (a.add k).block = a.block := fun k => by unfold Addr.add; split <;> rfl
      split at h <;> simp only [Value.ownBlock, Option.map_some, Option.some.injEq, e2] at h <;> exact h
    exact congrArg some hb
def rS : ByteArray := { data := #[114, 111, 116] }
theorem rS_size : rS.size = 3 := rfl
theorem rS_W : labW rS = [114 + 256 * 111 + 65536 * 116] := by decide
theorem rS_lt : ∀ w ∈ labW rS, w < 18446744073709551616 := by rw [rS_W]; simp
section
variable {w w' : World}
theorem PairB.quiet {w0 : World} {p q g : Nat} {c : List Value} {s : DS} (h : PairB w0 p q g c s w) (hu : Upd [] w w') : PairB w0 p q g c s w' := by
  obtain ⟨S, T, h1, h2, h3⟩ := h.ex
  exact ⟨⟨S, T, h1.quiet hu, h2.quiet hu, h3⟩, h.b.upd hu (by simp), h.u.step hu⟩
set_option maxRecDepth 100000 in
set_option maxHeartbeats 8000000 in
theorem DiskRots_calls {x f z : Int} (hx : IsI64 x) (hf : IsI64 f) (hz : IsI64 z) {v1 : Value} {xs : List Int} (h1 : SL w 1 v1 xs.length (ints xs)) (hxs : ∀ x ∈ xs, IsI64 x) :
    Calls Try.prog 10 #[.int .i64 x, v1, .int .i64 f, .int .i64 z] w fun e w' => e = .returned (.bool true) ∧ Upd [] w w' := by
  obtain ⟨a1, c1, rfl, _⟩ := h1.val
  have HM := Lib.hid (made_calls hx h1 hxs)
  have n0 := around_lo (n := f) (k := 4) (by omega)
  have n1 := around_hi (n := f) (k := 4) (by omega)
  have HA := Lib.hid (fun w : World => Around_calls f 4 w hf (by omega) (by omega))
  obtain ⟨i, hi⟩ := Int.eq_ofNat_of_zero_le n0
  rw [hi] at n1 HA
  have hi4 : i < 4 := by omega
  have HZ := Lib.hid hz
  clear h1 hxs hx hf n0 hi hz
  go_enter Try.func10, Try.ntmps10
  go_upto_region 5 with (first
    | (go_at_call 27; (with_reducible refine HM.out.mono ?_); rintro e w1 ⟨p, q, s, rfl, P1⟩)
    | (go_at_call 12; (with_reducible refine (HA.out _).mono ?_); rintro e _ ⟨rfl, rfl⟩))
  obtain ⟨S, T, k1, k2, _⟩ := P1.ex
  obtain ⟨bB, bF, V, b1, b2, b3, _, _, _, _, _, _, b10, _⟩ := k2.ex
  have hlen := k1.ok.len i
  have HOK := Lib.hid k1.ok
  have c1' := b1.cell (i := 1) rfl
  have hrow := (b10 i (by omega)).1
  obtain ⟨_, aV, cV, hV, _⟩ := SL.of_owns hrow
  have e0 := b2.cell (vl_get V (show i < 64 by omega))
  rw [hV] at e0
  obtain ⟨n, hn⟩ : ∃ n, n = (s.B i).length := ⟨_, rfl⟩
  rw [← hn] at e0 hlen
  have HN := Lib.hid hn
  have HA2 := Lib.hid (fun w : World => Around_calls z (8 * (n : Int) + 2) w HZ.out (by omega) (by omega))
  have HP := Lib.hid P1
  have m0 := around_lo (n := z) (k := 8 * (n : Int) + 2) (by omega)
  have m1 := around_hi (n := z) (k := 8 * (n : Int) + 2) (by omega)
  clear P1 k1 k2 b1 b2 b3 b10 hrow hV hn HM HA
  go_upto_region 6 with (go_at_call 12; (with_reducible refine (HA2.out _).mono ?_); rintro e _ ⟨rfl, rfl⟩)
  generalize around z (8 * (n : Int) + 2) = z2 at *
  have HB := Lib.hid (HP.out.block ((Upd.refl [] w1).alloc _) (Blk.new w1 [.int .i64 z, .int .i64 z2] 3) (Nat.le_refl _))
  have hz64 : IsI64 z2 := ⟨by omega, by omega⟩
  clear HP HA2 c1' e0
  generalize w1.alloc (.cells #[.int .i64 z, .int .i64 z2] 3) = w2 at *
  generalize w1.heap.size = gB at *
  have HZ2 := Lib.hid hz64
  clear m0 m1 hz64
  go_wp2_with fail
  go_loopw [13] (fun i wr => ∃ k : Nat, i = .int .i64 k ∧ k ≤ 2 ∧ PairB w p q gB [.int .i64 z, .int .i64 z2] s wr) (fun i _ => 2 - (intOf i).toNat)
  case atStart => exact ⟨0, rfl, by omega, HB.out⟩
  case round =>
    obtain ⟨wo, rfl⟩ : ∃ wo : World, wo = wr := ⟨_, rfl⟩
    obtain ⟨k, rfl, hk, hP⟩ := hrel
    by_cases hlt : k < 2
    · obtain ⟨y, hy, hy64⟩ : ∃ y, [Value.int .i64 z, Value.int .i64 z2][k]? = some (.int .i64 y) ∧ IsI64 y := by
        rcases (show k = 0 ∨ k = 1 by omega) with rfl | rfl
        · exact ⟨z, rfl, HZ.out⟩
        · exact ⟨z2, rfl, HZ2.out⟩
      have hli : (k : Int) < 2 := by omega
      have HY := Lib.hid hy
      have HY64 := Lib.hid hy64
      have hi64 : IsI64 (i : Int) := ⟨by omega, by omega⟩
      have HRC := Lib.hid hP.rcopy
      clear hP hy hy64
      go_upto_region 10 with (go_at_call 33; refine HRC.out.mono ?_; rintro e w3 ⟨t, rfl, h3⟩)
      have c0 := h3.b.cell HY.out
      have H3 := Lib.hid h3
      have HRP := Lib.hid (h3.rotP (f := (i : Int)) (z := y) hi64 HY64.out)
      clear h3 HRC
      go_upto_region 11 with (go_at_call 34; refine HRP.out.mono ?_; rintro e w4 ⟨rfl, h4⟩)
      clear c0
      have c0 := h4.b.cell HY.out
      have H4 := Lib.hid h4
      have HRT := Lib.hid (h4.rotT (f := (i : Int)) (z := y) hi64 HY64.out)
      clear h4 HRP H3
      obtain ⟨rr, hrr⟩ : ∃ rr, rr = rotS s (i : Int) y := ⟨_, rfl⟩
      rw [← hrr] at H4 HRT ⊢
      have HRR := Lib.hid hrr
      go_upto_region 13 with (first
        | (go_at_call 35; (with_reducible refine HRT.out.mono ?_); rintro e w5 ⟨rfl, h5⟩; have H5 := Lib.hid h5; clear h5; have HSM := Lib.hid (same_calls H5.out.pairT))
        | (go_at_call 26; (with_reducible refine HSM.out.mono ?_); rintro e w6 ⟨rfl, u6⟩))
      have hok6 := HOK.out
      have H6 := Lib.hid (H5.out.quiet u6)
      have c3 : w6.cell? ⟨q, 3, none⟩ = some (.bool s.off) := by
        obtain ⟨_, _, _, _, k2, _⟩ := H6.out.ex
        obtain ⟨_, _, k3⟩ := k2.cells
        exact k3.cell (i := 3) rfl
      have f3 : (rotS s (i : Int) y).1 = rr.1 := by rw [HRR.out]
      rw [f3]
      clear f3 u6 H5 HSM HRT H4 c0
      have HTW := Lib.hid (show rotS rr.2 (i : Int) y = (rr.1, s) by rw [HRR.out]; exact Prod.ext (rot_twice HOK.out _ _).1 (rot_twice HOK.out _ _).2)
      have HRQ0 := Lib.hid (fun (w' : World) (hu : Upd [] w6 w') => by have h := (H6.out.quiet hu).rotP (f := (i : Int)) (z := y) hi64 HY64.out; rw [HTW.out] at h; exact h)
      have HCZ := Lib.hid (fun (w' : World) (hu : Upd [] w6 w') => (H6.out.quiet hu).b.cell HY.out)
      have HR1 := Lib.hid (show rr.1 = (rotS s (i : Int) y).1 by rw [HRR.out])
      generalize rr.1 = r1 at *
      have hcs : (r1 = 0 ∧ s.off = false) ∨ ((r1 == 0) = false) ∨ (r1 = 0 ∧ s.off = true) := by
        by_cases e : r1 = 0
        · cases h : s.off
          · exact .inl ⟨e, rfl⟩
          · exact .inr (.inr ⟨e, rfl⟩)
        · exact .inr (.inl (by simpa using e))
      rcases hcs with hc | hc | hc
      · obtain ⟨rfl, hoff⟩ := hc
        have hy2 : isF (i : Int) = true ∧ 0 ≤ y ∧ y < 8 * ((s.B i).length : Int) := by
          have h := HR1.out
          unfold rotS at h
          split at h
          · cases h
          · rename_i h2
            rw [Int.toNat_natCast] at h2
            exact ⟨isF_iff.2 ⟨by omega, by omega⟩, by omega, by omega⟩
        have hrr2 : rr.2 = { s with B := setB s.B i (flipL (s.B i) y.toNat) } := by
          rw [HRR.out]; unfold rotS
          rw [if_neg (by rw [hy2.1, Int.toNat_natCast]; simp; omega), Int.toNat_natCast]
        have hread : readS rr.2 (i : Int) = (flipL (s.B i) y.toNat, 0) := by
          rw [hrr2]
          exact (readS_on (s := { s with B := setB s.B i (flipL (s.B i) y.toNat) }) (i := i) (by omega) hoff).trans (by simp [setB])
        obtain ⟨m, rfl⟩ := Int.eq_ofNat_of_zero_le hy2.2.1
        have hm8 : m < 8 * (s.B i).length := by omega
        rw [Int.toNat_natCast] at hread
        have HRD := Lib.hid (show Calls Try.prog 17 #[.pointer (some ⟨p, 0, none⟩), .int .i64 (i : Int)] w6 _ from by
          obtain ⟨_, _, _, k1, _⟩ := H6.out.ex
          have h := Read_calls k1 (f := (i : Int)) hi64
          rw [hread] at h
          exact h)
        rw [hoff] at c3
        have c0 := HCZ.out _ (Upd.refl [] w6)
        have hm8n : m < 8 * n := by rw [HN.out]; exact hm8
        obtain ⟨am, ham⟩ : ∃ am : Nat, am = m / 8 := ⟨_, rfl⟩
        have hq1 : (m : Int) / 8 = (am : Int) := by omega
        have hq2 : (am : Int) ≤ 16777216 := by omega
        obtain ⟨tl, htl⟩ : ∃ tl : Nat, tl = min n (am + 8) := ⟨_, rfl⟩
        have hq3 : min (n : Int) ((am : Int) + 8) = (tl : Int) := by omega
        have HTL := Lib.hid (And.intro ham htl)
        clear ham htl
        go_upto_region 16 with (go_at_call 17; refine HRD.out.mono ?_; rintro e w7 ⟨v7, rfl, o7, u7⟩; obtain ⟨_, a7, c7, rfl, _⟩ := SL.of_owns o7.row)
        obtain ⟨_, _, _, _, k2, _⟩ := (H6.out.quiet u7).ex
        obtain ⟨bB2, bF2, V2, b1, b2, b3, _, _, _, _, _, _, b10, _⟩ := k2.ex
        have d1 := b1.cell (i := 1) rfl
        have hrow := (b10 i (by omega)).1
        obtain ⟨_, aW, cW, hW, _⟩ := SL.of_owns hrow
        have e0 := b2.cell (vl_get V2 (show i < 64 by omega))
        rw [hW] at e0
        have HWO := Lib.hid (show ∀ b, (Value.slice aW (s.B i).length cW).ownBlock = some b → b < w7.heap.size by rw [← hW]; exact fun b hb => k2.lt _ ((b10 i (by omega)).2 b hb).1)
        have HW := Lib.hid (show SL w7 1 (.slice aW (s.B i).length cW) (s.B i).length (byts (s.B i)) by rw [← hW]; exact SL.of_owns hrow)
        have hfl : (flipL (s.B i) m).length = (s.B i).length := flipL_length _ _
        rw [hfl] at o7 ⊢
        have HO7 := Lib.hid o7
        have HU7 := Lib.hid u7
        rw [← HN.out] at hm8
        clear b1 b2 b3 b10 hrow hW k2 o7 hfl
        rw [← HN.out] at e0 HO7 HW HWO ⊢
        have htl1 : am ≤ tl := by have := HTL.out; omega
        have htl2 : tl ≤ n := by have := HTL.out; omega
        have hti1 : (am : Int) ≤ tl := by omega
        have hti2 : (tl : Int) ≤ n := by omega
        have sA := SL_cut HO7.out.sl htl2 htl1
        have sB := SL_cut HW.out htl2 htl1
        have hcA : n ≤ c7 := by obtain ⟨_, _, _, he, h2, _⟩ := HO7.out.sl; cases he; exact h2
        have hcB : n ≤ cW := by obtain ⟨_, _, _, he, h2, _⟩ := HW.out; cases he; exact h2
        have hti3 : (tl : Int) ≤ c7 := by omega
        have hti4 : (tl : Int) ≤ cW := by omega
        obtain ⟨_, aA, cA, hA, _⟩ := id sA
        obtain ⟨_, aB, cB, hB2, _⟩ := id sB
        rw [hA] at sA
        rw [hB2] at sB
        have hflu : ∀ x ∈ flipL (s.B i) m, 0 ≤ x ∧ x ≤ 255 := flipL_u8 (HOK.out.u8 i) m
        have eA : ((byts (flipL (s.B i) m)).take tl).drop am = byts (((flipL (s.B i) m).take tl).drop am) := by simp [byts, List.map_take, List.map_drop]
        have eB : ((byts (s.B i)).take tl).drop am = byts (((s.B i).take tl).drop am) := by simp [byts, List.map_take, List.map_drop]
        have lA : (((flipL (s.B i) m).take tl).drop am).length = tl - am := by rw [List.length_drop, List.length_take, flipL_length, ← HN.out]; omega
        have lB : (((s.B i).take tl).drop am).length = tl - am := by rw [List.length_drop, List.length_take, ← HN.out]; omega
        rw [eA] at sA
        rw [eB] at sB
        have oA : ∀ b, (Value.slice aA (tl - am) cA).ownBlock = some b → b < w7.heap.size := by
          intro b hb; exact HO7.out.lt b (by rw [← hA] at hb; exact sliced_ownD hb)
        have oB : ∀ b, (Value.slice aB (tl - am) cB).ownBlock = some b → b < w7.heap.size := by
          intro b hb; exact HWO.out b (by rw [← hB2] at hb; exact sliced_ownD hb)
        have HB1 := Lib.hid (fun (w' : World) (hu : Upd [] w7 w') => show Calls Try.prog 32 #[.string { data := #[114, 111, 116] }, .slice aA (tl - am) cA] w' _ from BytesP_calls (w := w') rS (by rw [rS_size]; omega) (by rw [lA]; exact sA.upd hu (by simp)) (fun x hx => hflu x (List.mem_of_mem_take (List.mem_of_mem_drop hx))) (by rw [lA]; omega) (fun b hb => Nat.lt_of_lt_of_le (oA b hb) hu.size))
        have HB2 := Lib.hid (fun (w' : World) (hu : Upd [] w7 w') => show Calls Try.prog 32 #[.string { data := #[114, 111, 116] }, .slice aB (tl - am) cB] w' _ from BytesP_calls (w := w') rS (by rw [rS_size]; omega) (by rw [lB]; exact sB.upd hu (by simp)) (fun x hx => HOK.out.u8 i x (List.mem_of_mem_take (List.mem_of_mem_drop hx))) (by rw [lB]; omega) (fun b hb => Nat.lt_of_lt_of_le (oB b hb) hu.size))
        have hne := flip_hash (lw := labW rS) (ll := rS.size) (b := ((s.B i).take tl).drop am) (k := m % 8) rS_lt (by rw [rS_size]; omega) (by rw [lB]; omega) (fun x hx => HOK.out.u8 i x (List.mem_of_mem_take (List.mem_of_mem_drop hx))) (by rw [lB]; have := HTL.out; omega)
        have hpart := flipL_part (l := s.B i) (k := m) (m := tl) (by rw [← HN.out]; exact hm8)
        have HNE := Lib.hid hne
        clear sA sB
        go_upto_region 19 with fail
        refine wp_region_ord 15 4 [0, 1, 2, 3, 5, 6, 7, 8, 9, 10, 11, 12, 13, 14, 16] [8, 11] [0, 1, 2, 3, 5, 6, 7, 8, 9, 10, 11, 12, 13, 14, 4, 15, 16] (fun w' => ∃ x : Ext w7, w' = x.val) (by kernel_rfl) (by kernel_rfl) (Ext.of (by iterate 25 (first | exact Upd.refl _ _ | assumption | refine Upd.alloc ?_ _ | refine Upd.drew ?_ | refine Upd.drewN ?_ _ | refine Upd.dl ?_ | refine Upd.step ?_ (Ext.upd _) | refine Upd.nil ?_ | skip))) ?_
        repeat (first | (refine wpOrd_load rfl rfl rfl rfl (fun K hK => ?_); go_big_quiet_step (fail); refine wpQuiet_nil ?_; refine hK _ ?_; clear hK K) | (refine wpOrd_free rfl rfl rfl (fun K hK => ?_); go_big_quiet_step (fail); refine wpQuiet_nil ?_; refine hK _ ?_; clear hK K))
        refine wpOrd_fix rfl rfl (fun K hK => ?_)
        go_wp2_with (go_at_call 32; refine (HB1.out _ (show Upd [] w7 _ from (by iterate 25 (first | exact Upd.refl _ _ | assumption | refine Upd.alloc ?_ _ | refine Upd.drew ?_ | refine Upd.drewN ?_ _ | refine Upd.dl ?_ | refine Upd.step ?_ (Ext.upd _) | refine Upd.nil ?_ | skip)))).mono ?_; rintro e w8 ⟨rfl, u8⟩)
        have u8' : Upd [] w7 w8 := Upd.step (by iterate 25 (first | exact Upd.refl _ _ | assumption | refine Upd.alloc ?_ _ | refine Upd.drew ?_ | refine Upd.drewN ?_ _ | refine Upd.dl ?_ | refine Upd.step ?_ (Ext.upd _) | refine Upd.nil ?_ | skip)) u8
        refine ⟨fun _ => Ext.of u8', ?_⟩
        have HU8 := Lib.hid u8'
        clear u8 u8'
        repeat (first | (refine wpOrd_load rfl rfl rfl rfl (fun K hK => ?_); go_big_quiet_step (fail); refine wpQuiet_nil ?_; refine hK _ ?_; clear hK K) | (refine wpOrd_free rfl rfl rfl (fun K hK => ?_); go_big_quiet_step (fail); refine wpQuiet_nil ?_; refine hK _ ?_; clear hK K))
        refine wpOrd_fix rfl rfl (fun K hK => ?_)
        go_wp2_with (go_at_call 32; refine (HB2.out _ (show Upd [] w7 _ from (by iterate 25 (first | exact Upd.refl _ _ | assumption | refine Upd.alloc ?_ _ | refine Upd.drew ?_ | refine Upd.drewN ?_ _ | refine Upd.dl ?_ | refine Upd.step ?_ (Ext.upd _) | refine Upd.nil ?_ | skip)))).mono ?_; rintro e w9 ⟨rfl, u9⟩)
        have HU9 := Lib.hid (show Upd [] w7 w9 from Upd.step (by iterate 25 (first | exact Upd.refl _ _ | assumption | refine Upd.alloc ?_ _ | refine Upd.drew ?_ | refine Upd.drewN ?_ _ | refine Upd.dl ?_ | refine Upd.step ?_ (Ext.upd _) | refine Upd.nil ?_ | skip)) u9)
        clear u9
        refine ⟨fun hC => absurd hC (by decide), ?_⟩
        repeat (first | (refine wpOrd_load rfl rfl rfl rfl (fun K hK => ?_); go_big_quiet_step (fail); refine wpQuiet_nil ?_; refine hK _ ?_; clear hK K) | (refine wpOrd_free rfl rfl rfl (fun K hK => ?_); go_big_quiet_step (fail); refine wpQuiet_nil ?_; refine hK _ ?_; clear hK K))
        refine wpOrd_nil ?_
        have hU69 : Upd [] w6 w9 := HU7.out.step HU9.out
        have c0 := HCZ.out _ hU69
        have HRQ := Lib.hid (HRQ0.out _ hU69)
        have hne2 := HNE.out
        rw [← HTL.out.1] at hpart
        rw [← hpart] at hne2
        have hbq : (((bytesN (labW rS) rS.size (((flipL (s.B i) m).take tl).drop am) : Nat) : Int) == ((bytesN (labW rS) rS.size (((s.B i).take tl).drop am) : Nat) : Int)) = false := by
          rw [beq_eq_false_iff_ne]; intro h; exact hne2 (by omega)
        clear hne2 hU69 hA hB2 hpart hne
        go_wp2_with (first
          | (go_at_call 34; (with_reducible refine HRQ.out.mono ?_); rintro e w10 ⟨rfl, h8⟩; have H8 := Lib.hid h8.pairB; clear h8; have HS8 := Lib.hid (same_calls H8.out.pair))
          | (go_at_call 26; (with_reducible refine HS8.out.mono ?_); rintro e w11 ⟨rfl, u11⟩))
        go_roundw
        case rel => exact ⟨k + 1, by go_num, by omega, H8.out.quiet u11⟩
        case measure => simp [intOf]; omega
      · have c0 := HCZ.out _ (Upd.refl [] w6)
        have HRQ := Lib.hid (HRQ0.out _ (Upd.refl [] w6))
        go_wp2_with (first
          | (go_at_call 34; (with_reducible refine HRQ.out.mono ?_); rintro e w8 ⟨rfl, h8⟩; have H8 := Lib.hid h8.pairB; clear h8; have HS8 := Lib.hid (same_calls H8.out.pair))
          | (go_at_call 26; (with_reducible refine HS8.out.mono ?_); rintro e w9 ⟨rfl, u9⟩))
        go_roundw
        case rel => exact ⟨k + 1, by go_num, by omega, H8.out.quiet u9⟩
        case measure => simp [intOf]; omega
      · obtain ⟨rfl, hoff⟩ := hc
        rw [hoff] at c3
        have c0 := HCZ.out _ (Upd.refl [] w6)
        have HRQ := Lib.hid (HRQ0.out _ (Upd.refl [] w6))
        clear hoff
        go_wp2_with (first
          | (go_at_call 34; (with_reducible refine HRQ.out.mono ?_); rintro e w8 ⟨rfl, h8⟩; have H8 := Lib.hid h8.pairB; clear h8; have HS8 := Lib.hid (same_calls H8.out.pair))
          | (go_at_call 26; (with_reducible refine HS8.out.mono ?_); rintro e w9 ⟨rfl, u9⟩))
        go_roundw
        case rel => exact ⟨k + 1, by go_num, by omega, H8.out.quiet u9⟩
        case measure => simp [intOf]; omega
    · have hk2 : k = 2 := by omega
      subst hk2
      have HPE := Lib.hid hP
      have HRB := Lib.hid (show Calls Try.prog 34 #[.pointer (some ⟨p, 0, none⟩), .int .i64 64, .int .i64 0] wo (fun e w' => e = .returned (.int .i64 1) ∧ wo = w') from by
        obtain ⟨_, _, k1, _⟩ := HPE.out.ex
        exact Rot_bad k1 (f := 64) (z := 0) ⟨by omega, by omega⟩ ⟨by omega, by omega⟩ (.inl (by decide)))
      clear hP
      go_wp2_with (first
        | (go_at_call 34; (with_reducible refine HRB.out.mono ?_); rintro e _ ⟨rfl, rfl⟩)
        | (go_at_call 19; refine lives_calls.mono ?_; rintro e w9 ⟨rfl, u9⟩))
      go_ret
      exact ⟨rfl, HPE.out.u.step u9⟩
end
end Disk
end Go.Proofs.Ytnljjkmmnkldcaa
