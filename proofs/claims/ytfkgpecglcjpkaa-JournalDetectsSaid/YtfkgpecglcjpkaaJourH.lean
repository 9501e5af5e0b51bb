/- Walks through the laws of journals: JournalDetects. Conditions: none. -/
import Derived.Test.YtfkgpecglcjpkaaJourG
set_option linter.unusedVariables false
set_option linter.unusedSimpArgs false
set_option linter.unusedSectionVars false
open Go.RowKit
namespace Go.Proofs.Ytfkgpecglcjpkaa
open L
namespace Jour
open Wire Hash R01 R02
theorem flip8 {y : Int} (hy : IsU8 y) (j : Nat) : IsU8 (bits .xor .u8 y (2 ^ (j % 8) % 256)) ∧ y ≠ bits .xor .u8 y (2 ^ (j % 8) % 256) := by
  obtain ⟨h0, h1⟩ := hy
  obtain ⟨n, rfl⟩ := Int.eq_ofNat_of_zero_le h0
  have key : ∀ (a : Fin 256) (s : Fin 8), 0 ≤ bits .xor .u8 ((a.val : Nat) : Int) (2 ^ s.val % 256) ∧ bits .xor .u8 ((a.val : Nat) : Int) (2 ^ s.val % 256) ≤ 255 ∧ ((a.val : Nat) : Int) ≠ bits .xor .u8 ((a.val : Nat) : Int) (2 ^ s.val % 256) := by decide +kernel
  have h := key ⟨n, by omega⟩ ⟨j % 8, by omega⟩
  exact ⟨⟨h.1, h.2.1⟩, h.2.2⟩
section
variable {w : World}
set_option maxRecDepth 100000 in
set_option maxHeartbeats 16000000 in
theorem JournalDetects_calls {v0 : Value} {bb : List Int} {bit : Int} (h0 : SL w 1 v0 bb.length (byts bb)) (hb : ∀ x ∈ bb, IsU8 x) (hbit : IsI64 bit) :
    Calls Try.prog 5 #[v0, .int .i64 bit] w fun e w' => e = .returned (.bool true) ∧ Upd [] w w' := by
  obtain ⟨a0, c0, rfl, _⟩ := h0.val
  have hol : (bb.take 200).length ≤ 200 := by rw [List.length_take]; omega
  have HO8 := Lib.hid (u8_take hb 200)
  have HFW := Lib.hid (Few_calls h0 200 (by omega))
  have HBIT := Lib.hid hbit
  clear h0 hb hbit
  generalize bb.take 200 = own at *
  go_enter Try.func5, Try.ntmps5
  go_upto_region 2 with (go_at_call 10; refine HFW.out.mono ?_; rintro e w1 ⟨a1, c1, rfl, o1, u1⟩; have H1 := Lib.hid (And.intro o1 u1); clear o1 u1)
  have HF1 := Lib.hid (Frame_calls (w := w1) 0 ⟨by omega, by omega⟩ H1.out.1.sl HO8.out (by omega) H1.out.1.lt)
  have hfl := frB_length 0 own
  have hcl := coreB_length 0 own
  have hc8 := coreB_u8 (k := 0) ⟨by omega, by omega⟩ HO8.out (by omega)
  have hf8 := frB_u8 (k := 0) ⟨by omega, by omega⟩ HO8.out (by omega)
  have HC8 := Lib.hid (And.intro hc8 hf8)
  have HDE := Lib.hid (And.intro (fun (i : Nat) (v : Int) => scn_turned (own := own) (i := i) (v := v) HO8.out (by omega)) (And.intro (scn_one own) (show frB 0 own = rb (coreB 0 own) ++ ub (bytesN frW 5 (coreB 0 own)) from rfl)))
  have HCO := Lib.hid (show coreB 0 own = ib 0 ++ rb own from rfl)
  have hbn := bytesN_lt frW 5 (coreB 0 own)
  clear hc8 hf8
  generalize hf : frB 0 own = f at *
  generalize hc : coreB 0 own = c at *
  have HFC := Lib.hid (And.intro hf hc)
  clear hf hc
  go_upto_region 3 with (go_at_call 12; refine HF1.out.mono ?_; rintro e w2 ⟨a2, c2, rfl, o2⟩; have H2 := Lib.hid o2; clear o2)
  have s3 := WtF.start w2
  have u3 := (Upd.refl [] w2).alloc (.cells #[.slice none 0 0] 37)
  have H3 := Lib.hid (And.intro s3 ((H1.out.1.upd H2.out.u (by simp)).upd u3 (by simp)))
  clear s3 u3
  go_upto_region 4 with fail
  generalize hq3 : w2.heap.size = q3 at *
  generalize w2.alloc (.cells #[.slice none 0 0] 37) = w3 at *
  have H1l := Lib.hid (And.intro H1.out.1 (And.intro H1.out.2 H2.out.u))
  have hil := ib_length 0
  have hrl := rb_length own
  go_upto_region 5 with (go_at_call 20; refine (Int_f H3.out.1 0 ⟨by omega, by omega⟩ (by simp)).mono ?_; rintro e w4 ⟨rfl, s4⟩)
  rw [List.nil_append] at s4
  have HR4 := Lib.hid (Raw_f s4 (((H1l.out.1.upd H1l.out.2.2 (by simp)).upd s4.u (by simp)).sl) (fun g hg => Nat.lt_of_lt_of_le (H1l.out.1.lt g hg) H1l.out.2.2.size) (by omega) (by omega))
  have HC0 := HCO.out
  rw [← HC0] at HR4
  clear s4 HC0
  go_upto_region 6 with (go_at_call 21; refine HR4.out.mono ?_; rintro e w5 ⟨rfl, s5⟩)
  obtain ⟨S5, t5, f5⟩ := s5.ex
  have HD5 := Lib.hid (And.intro (Done_calls t5 (by omega)) s5.u)
  clear s5 t5 f5 HR4 H3
  go_upto_region 7 with (go_at_call 22; refine HD5.out.1.mono ?_; rintro e w6 ⟨a6, c6, rfl, o6, u6⟩)
  have H6 := Lib.hid (And.intro o6 (And.intro (HD5.out.2.step u6) (H2.out.quiet (HD5.out.2.step u6))))
  clear o6 u6 HD5
  have s7 := WtF.start w6
  have H7 := Lib.hid s7
  clear s7
  go_upto_region 8 with fail
  generalize hq7 : w6.heap.size = q7 at *
  generalize w6.alloc (.cells #[.slice none 0 0] 37) = w7 at *
  have hcn : c.length < 18446744073709551616 := by omega
  have hci : (c.length : Int) < 18446744073709551616 := by omega
  have hul := ub_length c.length
  have HU7 := Lib.hid (Uint_f H7.out c.length hcn (by simp))
  generalize hu : ub c.length = uc at *
  have HUC := Lib.hid hu
  clear hu
  go_upto_region 9 with (go_at_call 23; refine HU7.out.mono ?_; rintro e w8 ⟨rfl, s8⟩)
  rw [List.nil_append] at s8
  obtain ⟨S8, t8, f8⟩ := s8.ex
  have HD8 := Lib.hid (And.intro (Done_calls t8 (by omega)) s8)
  clear s8 t8 f8 HU7 H7
  go_upto_region 10 with (go_at_call 22; refine HD8.out.1.mono ?_; rintro e w9 ⟨a9, c9, rfl, o9, u9⟩)
  have H9 := Lib.hid (HD8.out.2.quiet u9)
  clear o9 u9 HD8
  have HR9 := Lib.hid (Raw_f H9.out ((H6.out.1.upd H9.out.u (by simp)).sl) (fun g hg => by have := H6.out.1.lt g hg; omega) (by omega) (by omega))
  go_upto_region 11 with (go_at_call 21; refine HR9.out.mono ?_; rintro e w10 ⟨rfl, s10⟩)
  have H10 := Lib.hid (And.intro (H6.out.1.upd s10.u (by simp)) (H6.out.2.2.quiet s10.u))
  have HU10 := Lib.hid (((H1l.out.2.1.step H1l.out.2.2).step H6.out.2.1).step s10.u)
  clear s10 HR9 H9 H6
  have hfe : f.length = uc.length + c.length + (ub (bytesN frW 5 c)).length := by rw [HDE.out.2.2, List.length_append]; unfold rb; rw [List.length_append, HUC.out]
  have hul2 := ub_length (bytesN frW 5 c)
  have hfu : (uc.length : Int) < f.length := by omega
  have hfu2 : uc.length < f.length := by omega
  have HFE := Lib.hid hfe
  clear hfe hul2
  obtain ⟨M, hM⟩ : ∃ M : Nat, M = 8 * (f.length - uc.length) := ⟨_, rfl⟩
  have hMi : 8 * ((f.length : Int) - uc.length) = (M : Int) := by omega
  have n0 := around_lo (n := bit) (k := M) (by omega)
  have n1 := around_hi (n := bit) (k := M) (by omega)
  have HA := Lib.hid (fun w : World => Around_calls bit M w HBIT.out (by omega) (by omega))
  obtain ⟨j, hj⟩ : ∃ j : Nat, around bit M = j := ⟨(around bit M).toNat, by omega⟩
  rw [hj] at n0 n1 HA
  have hj8 : uc.length + j / 8 < f.length := by omega
  have HM := Lib.hid (And.intro hM (And.intro hj hMi))
  have HJ8 := Lib.hid hj8
  clear hM hj hMi hj8
  have HFW2 := Lib.hid (Few_calls (H10.out.2.sl) f.length (by omega))
  rw [List.take_length] at HFW2
  have hff : f.length ≤ 240 := by omega
  have hffi : (f.length : Int) ≤ 240 := by omega
  have hui : (uc.length : Int) ≤ 10 := by omega
  have HBN := Lib.hid (And.intro hbn (And.intro hcn hcl))
  clear hfl hcl hil hrl hul hcn hci hbn hol
  go_upto_region 15 with (first | (go_at_call 19; rw [HM.out.2.2]; refine (HA.out _).mono ?_; rintro e _ ⟨rfl, rfl⟩) | (go_at_call 10; refine HFW2.out.mono ?_; rintro e w12 ⟨a12, c12, rfl, o12, u12⟩))
  have hj8 := HJ8.out
  obtain ⟨g, cap, he, hgl, hgc⟩ := owns_form o12.row (by have := HJ8.out; omega)
  cases he
  have hcell := o12.row.cells (g := g) rfl (uc.length + j / 8) _ (byts_get (List.getElem?_eq_getElem hj8))
  rw [addr_add, Nat.zero_add] at hcell
  have hy8 := HC8.out.2 _ (List.getElem_mem hj8)
  have HNE := Lib.hid (fun (v : Int) (hv : IsU8 v) (h : f[uc.length + j / 8] ≠ v) => HDE.out.1 (uc.length + j / 8) v (by omega) HJ8.out hv h)
  generalize f[uc.length + j / 8] = y at *
  obtain ⟨x8, hx8⟩ : ∃ x8 : Nat, x8 = uc.length + j / 8 := ⟨_, rfl⟩
  have hxi : (uc.length : Int) + (j : Int) / 8 = (x8 : Int) := by omega
  have hxl : (x8 : Int) < f.length := by omega
  rw [← hx8] at hcell
  have hfz : w12.frozen? ⟨g, x8, none⟩ = false := by
    rcases o12.row.2 with ⟨h1, _⟩ | ⟨g', cap', cur, hv, hb, hg, _⟩
    · cases h1
    · simp only [Value.slice.injEq, Option.some.injEq, Addr.mk.injEq, and_true] at hv
      obtain ⟨rfl, _, rfl⟩ := hv
      have hB : Blk w12 g cur.toList 5 := by unfold Blk; rw [hg]
      exact hB.free x8
  have H12 := Lib.hid (And.intro o12 (And.intro u12 hx8))
  clear o12 u12 hx8 hj8
  go_upto_region 16 with fail
  have hfp := flip8 hy8 j
  generalize bits .xor .u8 y (2 ^ (j % 8) % 256) = vv at *
  have hown13 := ownsRow_set H12.out.1.row (.int .u8 vv) (show x8 < f.length by omega)
  rw [byts_set] at hown13
  have hu13 : Upd [] w10 (w12.setCell ⟨g, x8, none⟩ (.int .u8 vv)) := H12.out.2.1.set (p := ⟨g, x8, none⟩) (.inr (H12.out.1.fresh g rfl)) _
  have hsl13 := SL.of_owns hown13
  have hls : (f.set x8 vv).length = f.length := List.length_set
  have HSN := Lib.hid (show Scn (f.set x8 vv) [] by have h := HNE.out vv hfp.1 hfp.2; rw [H12.out.2.2]; exact h)
  have HLS := Lib.hid hls
  have HS13 := Lib.hid (Scan_calls (v := .slice (some ⟨g, 0, none⟩) f.length c12) (b := f.set x8 vv) (by rw [HLS.out]; exact hsl13) (u8_set HC8.out.2 x8 hfp.1) (by rw [HLS.out]; omega) (fun b hb => (hown13.lt b hb).2))
  have H13 := Lib.hid hu13
  clear hsl13 hls hown13 hu13 hfp HNE
  generalize f.set x8 vv = tf at *
  go_upto_region 17 with (go_at_call 15; refine HS13.out.mono ?_; rintro e w14 ⟨l1, a14, c14, rfl, s14, b14, u14⟩)
  obtain rfl : l1 = [] := s14.uniq HSN.out (by rw [HLS.out]; omega)
  have H14 := Lib.hid (H13.out.step u14)
  clear s14 b14 u14 HS13
  have hof2 := H10.out.2
  have HF14 := Lib.hid (And.intro (hof2.row |> fun _ => (hof2.toV.upd H14.out (by simp))) (HU10.out.step H14.out))
  have HS14 := Lib.hid (Scan_calls HF14.out.1.sl HC8.out.2 (by omega) HF14.out.1.lt)
  have hcf : (cat 0 [own]).length = f.length := by simp only [cat, List.append_nil]; rw [show ((0 : Nat) : Int) = 0 from rfl, HFC.out.1]
  have HCF := Lib.hid hcf
  clear hof2 hcf
  go_upto_region 18 with (go_at_call 15; refine HS14.out.mono ?_; rintro e w15 ⟨l2, a15, c15, rfl, s15, b15, u15⟩)
  obtain rfl : l2 = [own] := s15.uniq HDE.out.2.1 (by omega)
  rw [HCF.out]
  have H15 := Lib.hid (And.intro (HF14.out.1.upd u15 (by simp)) (And.intro (HF14.out.2.step u15) (H10.out.1.upd (H14.out.step u15) (by simp))))
  clear s15 b15 u15 HS14
  have hrd : rdR f 0 0 = (c, (rb c).length, 0) := by
    have h := rdR_write [] c (ub (bytesN frW 5 c)) HBN.out.2.1
    simp only [List.nil_append, List.length_nil, Nat.zero_add] at h
    rw [HDE.out.2.2]; exact h
  have hru : rdU f (rb c).length 0 = (bytesN frW 5 c, f.length, 0) := by
    have h := rdU_write (rb c) [] HBN.out.1
    rw [List.append_nil] at h
    rw [HDE.out.2.2, h, List.length_append]
  have HRD := Lib.hid (And.intro hrd hru)
  clear hrd hru
  have HRE := Lib.hid (Read_calls H15.out.1.sl HC8.out.2 (by omega))
  go_upto_region 21 with (go_at_call 24; refine HRE.out.mono ?_; rintro e w16 ⟨q16, S16, rfl, r16, u16, k16⟩)
  have hqS := r16.q_memB
  have HKQ := Lib.hid (And.intro (k16 _ hqS) H15.out.2.2.lt)
  have RR16 := Lib.hid (r16.lt _ hqS)
  have HRR := Lib.hid (RRaw_calls r16 (by omega))
  rw [HRD.out.1] at HRR
  have H16 := Lib.hid (And.intro (H15.out.2.1.step u16) (And.intro (fun j hj => Nat.le_trans H15.out.2.1.size (k16 j hj)) (And.intro (H15.out.2.2.upd u16 (by simp)) (fun g (h : (Value.slice a6 c.length c6).ownBlock = some g) => Nat.lt_of_lt_of_le (H15.out.2.2.lt g h) (Nat.le_refl _)))))
  clear r16 u16 HRE
  go_upto_region 22 with (go_at_call 25; refine HRR.out.mono ?_; rintro e w17 ⟨v17, rfl, r17, o17, u17⟩)
  obtain ⟨a17, c17, rfl, _⟩ := o17.sl.val
  have hq17 : ∀ b ∈ [q16], w.heap.size ≤ b := fun b hb => by simp at hb; subst hb; exact H16.out.2.1 _ hqS
  have HUR := Lib.hid (Uint_r_calls r17)
  rw [HRD.out.2] at HUR
  have hfr17 := r17.q_memB
  have hin17 : ∀ b ∈ [q16], (Value.slice a17 c.length c17).ownBlock ≠ some b := by
    intro b hb h
    simp at hb
    subst hb
    have h1 := o17.fresh _ h
    have h2 := RR16.out
    omega
  have H17 := Lib.hid (And.intro (H16.out.1.fresh u17 (fun b hb => .inr (hq17 b hb))) (And.intro (And.intro o17.sl hin17) (And.intro hq17 u17.size)))
  have hc17 := Lib.hid (H16.out.2.2.1.upd u17 (by intro b hb h; simp at hb; subst hb; have h1 := HKQ.out.1; have h2 := HKQ.out.2 _ h; omega))
  clear r17 u17 o17 HRR hq17
  go_upto_region 23 with (go_at_call 26; refine HUR.out.mono ?_; rintro e w18 ⟨rfl, r18, u18⟩)
  have U18 := H17.out.1.fresh u18 (fun b hb => .inr (H17.out.2.2.1 b hb))
  have HEN := Lib.hid (End_calls r18)
  have H18 := Lib.hid (And.intro U18 (And.intro (hc17.out.upd u18 (by intro b hb h; simp at hb; subst hb; have h1 := HKQ.out.1; have h2 := HKQ.out.2 _ h; omega)) (H17.out.2.1.1.upd u18 H17.out.2.1.2)))
  clear U18 r18 u18 HUR

  have HE0 : (if (0 : Int) ≠ 0 then (0 : Int) else if f.length < f.length then 2 else 0) = 0 := by simp
  rw [HE0] at HEN
  clear HE0
  have HC8' := Lib.hid HC8.out.1
  have HIN := Lib.hid H18.out.2.2
  go_wp2_with (first
    | (go_at_call 27; refine HEN.out.mono ?_; rintro e w19 ⟨rfl, u19⟩)
    | (go_at_call 11; refine (SameBytes_calls (HIN.out.upd u19 (by simp)) (H18.out.2.1.sl.upd u19 (by simp))).mono ?_; rintro e w20 ⟨rfl, u20⟩)
    | (go_at_call 28; refine (BytesP_calls frS (by rw [frS_size]; omega) (H18.out.2.1.sl.upd (u19.step u20) (by simp)) HC8'.out (by have := HFE.out; omega) (fun b hb => Nat.lt_of_lt_of_le (H18.out.2.1.lt b hb) (u19.step u20).size)).mono ?_; rintro e w21 ⟨rfl, u21⟩)
    | (go_at_call 18; refine lives_calls.mono ?_; rintro e w22 ⟨rfl, u22⟩))
  go_ret
  exact ⟨rfl, H18.out.1.step (((u19.step u20).step u21).step u22)⟩
end
end Jour
end Go.Proofs.Ytfkgpecglcjpkaa
