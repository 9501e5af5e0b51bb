/- Walks through the laws of journals: lives. Conditions: none. -/
import Derived.Test.YtfkgpecglcjpkaaGreatJourE
import Derived.Test.YtfkgpecglcjpkaaGreatJourQ
import Derived.Test.YtfkgpecglcjpkaaGreatAppK
set_option linter.unusedVariables false
set_option linter.unusedSimpArgs false
set_option linter.unusedSectionVars false
open Go.RowKit
namespace Go.Proofs.YtfkgpecglcjpkaaGreat
open L
namespace Jour
open Wire Hash R01 R02
theorem core07 : coreB 0 [7] = [0, 1, 7] := by decide
theorem fr07 : frB 0 [7] = rb [0, 1, 7] ++ ub (bytesN frW 5 [0, 1, 7]) := by unfold frB; rw [core07]; rfl
theorem scn07 {l : List (List Int)} (h : Scn (frB 0 [7] ++ [3, 0, 1]) l) : l = [[7]] := by
  have hb : (frB 0 [7] ++ [3, 0, 1]).length < 1000000000000 := by
    have := frB_length 0 [7]
    rw [List.length_append]
    simp only [List.length_cons, List.length_nil] at this ⊢
    omega
  have e : cat 0 [[7]] = frB 0 [7] := by simp [cat]
  refine h.uniq ⟨by rw [e]; exact ⟨_, rfl⟩, fun x hx => ?_⟩ hb
  rw [e, List.drop_left] at hx
  have h1 := hx.length_le
  have h2 := frB_length (([[7]] : List (List Int)).length : Nat) x
  simp only [List.length_cons, List.length_nil] at h1 h2
  omega
section
variable {w : World}
theorem sl_lit {w : World} {b : Nat} {xs : List Int} (h : Blk w b (byts xs) 5) (hl : xs.length ≤ 1000) : SL w 1 (.slice (some ⟨b, 0, none⟩) xs.length xs.length) xs.length (byts xs) :=
  SL.of_blk (pad := []) (by simpa using h) (by simp [byts]) (Nat.le_refl _) (by unfold maxLen; omega)
theorem lit_upd (w : World) : Upd [] w ((w.alloc (.cells #[.int .u8 7] 5)).alloc (.cells #[.slice (some ⟨w.heap.size, 0, none⟩) 1 1] 39)) := ((Upd.refl [] w).alloc _).alloc _
theorem bl_lit (w : World) : BL ((w.alloc (.cells #[.int .u8 7] 5)).alloc (.cells #[.slice (some ⟨w.heap.size, 0, none⟩) 1 1] 39)) (.slice (some ⟨w.heap.size + 1, 0, none⟩) 1 1) [[7]] := by
  have b1 : Blk (w.alloc (.cells #[.int .u8 7] 5)) w.heap.size (byts [7]) 5 := Blk.new w [.int .u8 7] 5
  have b2 := Blk.new (w.alloc (.cells #[.int .u8 7] 5)) [.slice (some ⟨w.heap.size, 0, none⟩) 1 1] 39
  have u2 := (Upd.refl [] (w.alloc (.cells #[.int .u8 7] 5))).alloc (.cells #[.slice (some ⟨w.heap.size, 0, none⟩) 1 1] 39)
  rw [show (w.alloc (.cells #[.int .u8 7] 5)).heap.size = w.heap.size + 1 by simp] at b2
  refine ⟨[.slice (some ⟨w.heap.size, 0, none⟩) 1 1], SL.of_blk (pad := []) b2 rfl (Nat.le_refl _) (by unfold maxLen; omega), fun i c hi => ?_⟩
  cases i with
  | zero =>
    simp at hi
    subst hi
    exact ⟨_, rfl, (sl_lit b1 (by simp)).upd u2 (by simp)⟩
  | succ i => simp at hi
set_option maxRecDepth 100000 in
set_option maxHeartbeats 8000000 in
theorem lives_calls : Calls Tryz.prog 21 #[] w fun e w' => e = .returned (.bool true) ∧ Upd [] w w' := by
  have b1 : Blk (w.alloc (.cells #[.int .u8 7] 5)) w.heap.size (byts [7]) 5 := Blk.new w [.int .u8 7] 5
  have u1 := (Upd.refl [] w).alloc (.cells #[.int .u8 7] 5)
  have HF := Lib.hid (Frame_calls (w := w.alloc (.cells #[.int .u8 7] 5)) 0 ⟨by omega, by omega⟩ (xs := [7]) (sl_lit b1 (by simp)) (by intro x hx; simp at hx; subst hx; exact ⟨by omega, by omega⟩) (by simp) (by intro g hg; simp [Value.ownBlock] at hg; subst hg; simp))
  have hfl := frB_length 0 [7]
  have H1 := Lib.hid u1
  clear b1 u1
  go_enter Tryz.func21, Tryz.ntmps21
  go_wp2_with (go_at_call 35; refine HF.out.mono ?_; rintro e w1 ⟨a1, c1, rfl, o1⟩)
  have hf8 := frB_u8 (k := 0) (b := [7]) ⟨by omega, by omega⟩ (by intro x hx; simp at hx; subst hx; exact ⟨by omega, by omega⟩) (by simp)
  have HE := Lib.hid (And.intro fr07 (And.intro (fun l => scn07 (l := l)) hf8))
  have hh := bytesN_lt frW 5 [0, 1, 7]
  have hcl : (cat 0 [[7]]).length = (frB 0 [7]).length := by simp [cat]
  have HCL := Lib.hid hcl
  clear hf8 hcl HF
  simp only [List.length_cons, List.length_nil] at hfl
  generalize frB 0 [7] = f at *
  have H2 := Lib.hid (And.intro o1.row (H1.out.step o1.u))
  have z1 := o1.u.size
  have HFR := Lib.hid (fun g hg => Nat.le_trans (show w.heap.size ≤ (w.alloc (.cells #[.int .u8 7] 5)).heap.size by simp) (o1.fresh g hg))
  clear o1 H1
  have s3 := Wt.start w1
  have u3 := (Upd.refl [] w1).alloc (.cells #[.slice none 0 0] 74)
  have b4 : Blk ((w1.alloc (.cells #[.slice none 0 0] 74)).alloc (.cells #[.int .u8 0, .int .u8 1, .int .u8 7] 5)) (w1.heap.size + 1) (byts [0, 1, 7]) 5 := by
    have h := Blk.new (w1.alloc (.cells #[.slice none 0 0] 74)) (byts [0, 1, 7]) 5
    rw [show (w1.alloc (.cells #[.slice none 0 0] 74)).heap.size = w1.heap.size + 1 by simp] at h
    exact h
  have u4 := (Upd.refl [] (w1.alloc (.cells #[.slice none 0 0] 74))).alloc (.cells #[.int .u8 0, .int .u8 1, .int .u8 7] 5)
  have s4 := s3.upd u4 (by simp)
  have HR := Lib.hid (Raw_calls s4 (sl_lit b4 (by simp)) (by intro b hb h; simp [Value.ownBlock] at h; simp at hb; omega) (by simp) (by simp))
  have U4 := Lib.hid ((H2.out.2.step u3).step u4)
  have O4 := Lib.hid (ownsRow_updL (ownsRow_updL H2.out.1 u3 (by simp)) u4 (by simp))
  clear s3 u3 b4 u4 s4
  go_upto_region 3 with fail
  go_wp2_with (go_at_call 40; refine HR.out.mono ?_; rintro e w5 ⟨rfl, S5, s5, u5, k5⟩)
  rw [List.nil_append] at s5
  have hq5 : ∀ j ∈ S5, w1.heap.size ≤ j := fun j hj => by
    rcases k5 j hj with h | h
    · simp at h; omega
    · simp at h; omega
  have hof : ∀ g, (Value.slice a1 f.length c1).ownBlock = some g → g < w1.heap.size := fun g hg => (H2.out.1.lt g hg).2
  have U5 := U4.out.fresh u5 (fun j hj => .inr (by simp at hj; have := H2.out.2.size; omega))
  have O5 := ownsRow_updL O4.out u5 (by intro b hb h; simp at hb; have := hof b h; omega)
  have b6 : Blk (w5.alloc (.cells #[.int .u8 0, .int .u8 1, .int .u8 7] 5)) w5.heap.size (byts [0, 1, 7]) 5 := Blk.new w5 (byts [0, 1, 7]) 5
  have u6 := (Upd.refl [] w5).alloc (.cells #[.int .u8 0, .int .u8 1, .int .u8 7] 5)
  have HB := Lib.hid (BytesP_calls (w := w5.alloc (.cells #[.int .u8 0, .int .u8 1, .int .u8 7] 5)) frS (by rw [frS_size]; omega) (sl_lit b6 (by simp)) (by intro x hx; simp at hx; rcases hx with rfl | rfl | rfl <;> exact ⟨by omega, by omega⟩) (by simp) (by intro g hg; simp [Value.ownBlock] at hg; subst hg; simp))
  rw [frS_W, frS_size] at HB
  have H6 := Lib.hid (And.intro (s5.upd u6 (by simp)) (And.intro (U5.step u6) (And.intro (ownsRow_updL O5 u6 (by simp)) (And.intro hq5 hof))))
  have hz6 : w1.heap.size ≤ (w5.alloc (.cells #[.int .u8 0, .int .u8 1, .int .u8 7] 5)).heap.size := by have := u5.size; simp at this; simp; omega
  clear s5 u5 k5 hq5 hof U5 O5 b6 u6 HR U4 O4
  generalize bytesN frW 5 [0, 1, 7] = h at *
  have hrl := rb_length [0, 1, 7]
  simp only [List.length_cons, List.length_nil] at hrl
  generalize rb [0, 1, 7] = r at *
  generalize w5.alloc (.cells #[.int .u8 0, .int .u8 1, .int .u8 7] 5) = w6 at *
  go_upto_region 5 with (first | (go_at_call 42; refine HB.out.mono ?_; rintro e w7 ⟨rfl, u7⟩; have H7 := Lib.hid (And.intro u7 (Uint_calls (H6.out.1.upd u7 (by simp)) h hh (by omega))); clear u7) | (go_at_call 41; refine H7.out.2.mono ?_; rintro e w8 ⟨rfl, S8, s8, u8, k8⟩))
  have U7 := H6.out.2.1.step H7.out.1
  have z0 := H2.out.2.size
  have U8 := U7.fresh u8 (fun j hj => .inr (by have := H6.out.2.2.2.1 j hj; omega))
  have O8 := ownsRow_updL (ownsRow_updL H6.out.2.2.1 H7.out.1 (by simp)) u8 (by intro b hb h; have := H6.out.2.2.2.1 b hb; have := H6.out.2.2.2.2 b h; omega)
  have hq8 : ∀ j ∈ S8, w1.heap.size ≤ j := fun j hj => by
    rcases k8 j hj with h | h
    · exact H6.out.2.2.2.1 j h
    · have := H7.out.1.size; omega
  have b9 : Blk (w8.alloc (.cells #[.int .u8 3, .int .u8 0, .int .u8 1] 5)) w8.heap.size (byts [3, 0, 1]) 5 := Blk.new w8 (byts [3, 0, 1]) 5
  have u9 := (Upd.refl [] w8).alloc (.cells #[.int .u8 3, .int .u8 0, .int .u8 1] 5)
  have hrf : r ++ ub h = f := HE.out.1.symm
  rw [hrf] at s8
  have H9 := Lib.hid (And.intro b9 (And.intro (s8.upd u9 (by simp)) (And.intro (U8.step u9) (And.intro (ownsRow_updL O8 u9 (by simp)) (And.intro hq8 H6.out.2.2.2.2)))))
  clear s8 u8 k8 U8 O8 hq8 b9 u9 hrf H7 H6 HB U7
  have HSC := Lib.hid (fun (w : World) (g cap : Nat) (h : w.ownsRow 0 5 1 (.slice (some ⟨g, 0, none⟩) (f.length + 3) cap) (f.length + 3) (byts f ++ byts [3, 0, 1])) => Scan_calls (w := w) (v := .slice (some ⟨g, 0, none⟩) (f.length + 3) cap) (b := f ++ [3, 0, 1]) (by have h2 := SL.of_owns h; rw [List.length_append, byts_append]; exact h2)
    (by intro x hx; rcases List.mem_append.1 hx with hx | hx; exact HE.out.2.2 x hx; simp at hx; rcases hx with rfl | rfl | rfl <;> exact ⟨by omega, by omega⟩) (by rw [List.length_append]; simp; omega) (fun b hb => (h.lt b hb).2))
  go_upto_region 6 with fail
  refine wp_region_lit ?_
  refine wpList_cutH 2 (fun K hK => ?_)
  simp only [List.take_succ_cons, List.take_zero]
  go_wp2_with fail
  refine Halt_.intro ?_; try simp only [List.drop_succ_cons, List.drop_zero]
  generalize hg9 : w8.heap.size = g9 at *
  generalize w8.alloc (.cells #[.int .u8 3, .int .u8 0, .int .u8 1] 5) = w9 at *
  refine wpList_appK rfl _ _ _ rfl 5 1 1 _ Tryz.underlying39 infoByte rfl (by decide) (.slice a1 f.length c1) f.length (byts f) rfl H9.out.2.2.2.1 g9 3 3 (byts [3, 0, 1]) 5 rfl rfl H9.out.1 (byts_one _) (by omega) (by unfold maxLen; omega) (by omega) ?_
  intro g cap w10 o10 u10 k10 s10
  simp only [Act.put, List.setIfInBounds_toArray, List.set_cons_zero, List.set_cons_succ]
  have U10 := H9.out.2.2.1.fresh u10 (fun j hj => .inr (by simp only [Option.mem_toList] at hj; exact HFR.out j hj))
  have S10 := H9.out.2.1.upd u10 (by intro k hk hm; simp only [Option.mem_toList] at hm; have := H9.out.2.2.2.2.1 k hk; have := H9.out.2.2.2.2.2 k hm; omega)
  have H10 := Lib.hid (And.intro (HSC.out w10 g cap o10) (And.intro s10 (And.intro U10 S10)))
  clear u10 k10 s10 U10 S10 H9 HSC o10
  go_wp2_with (go_at_call 23; refine H10.out.1.mono ?_; rintro e w11 ⟨l, a11, c11, rfl, hsc, hbl, u11⟩)
  obtain rfl : l = [[7]] := HE.out.2.1 l hsc
  have U11 := H10.out.2.2.1.step u11
  have S11 := H10.out.2.2.2.upd u11 (by simp)
  have F11 := H10.out.2.1.upd u11 (by simp)
  have H11 := Lib.hid (And.intro hbl (And.intro U11 (And.intro F11 (Done_calls S11 (by omega)))))
  rw [HCL.out]
  clear hsc hbl u11 U11 S11 F11 H10
  have h4 : (4 : Int) < f.length := by omega
  go_upto_region 7 with fail
  go_wp2_with (first | (go_at_call 43; refine H11.out.2.2.2.mono ?_; rintro e w12 ⟨a12, c12, rfl, o12, u12⟩; have H12 := Lib.hid (And.intro u12 (SameBytes_calls (w := w12) (H11.out.2.2.1.upd u12 (by simp)) o12.sl)); clear o12 u12) | (go_at_call 20; refine H12.out.2.mono ?_; rintro e w13 ⟨rfl, u13⟩; have H13 := Lib.hid (And.intro (H11.out.1.upd ((H12.out.1.step u13))) (And.intro ((H11.out.2.1.step H12.out.1).step u13) (And.intro (bl_lit w13) (lit_upd w13)))); clear u13) | (go_at_call 13; refine (SameL_calls (H13.out.1.upd H13.out.2.2.2) H13.out.2.2.1).mono ?_; rintro e w14 ⟨rfl, u14⟩))
  go_ret
  refine ⟨?_, (H13.out.2.1.step H13.out.2.2.2).step u14⟩
  simp
end
end Jour
end Go.Proofs.YtfkgpecglcjpkaaGreat
