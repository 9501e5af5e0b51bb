/- Walks through the laws of clauses: lives. Conditions: none. -/
import Derived.Test.YtgdpbhbdeaifbaaL14
set_option linter.unusedVariables false
set_option linter.unusedSimpArgs false
set_option linter.unusedSectionVars false
open Go.RowKit
namespace Go.Proofs.Ytgdpbhbdeaifbaa
open L
namespace Law
open R01 R14 Cla
theorem ve_12 : validErr [1, 2] = 0 := by decide
theorem ve_n13 : validErr [-1, 3] = 0 := by decide
theorem res_ex : resE [1, 2] [-1, 3] 1 = 0 ∧ resL [1, 2] [-1, 3] 1 = [2, 3] := by
  have h1 : rest2 [1, 2] [-1, 3] 1 = [2, 3] := by decide
  have h2 := norm_id (c := [2, 3]) (by unfold Cla.Ord; decide) (by decide)
  have h3 : resE [1, 2] [-1, 3] 1 = 0 := by
    unfold resE
    rw [h1, h2.2, ve_12, ve_n13]
    decide
  exact ⟨h3, by unfold resL; rw [if_pos h3, h1, h2.1]⟩
theorem chain_ex1 : chainRes [2] [[1, 2], [-1, 2]] = 0 := by decide
theorem chain_ex2 : chainRes [2] [[1, 2]] = 14 := by decide
section
variable {w : World}
theorem cl_one {w0 w : World} {v : Value} {c : List Int} (h : Blk w w0.heap.size [v] 22) (hv : SL w 1 v c.length (ints c)) : CL w (.slice (some ⟨w0.heap.size, 0, none⟩) 1 1) [c] :=
  CL.of_blk (cs := [c]) h rfl (by simp) (fun i d hd => by
    match i with
    | 0 => cases hd; exact ⟨_, rfl, hv⟩
    | (i + 1) => simp at hd)
theorem cl_two {w0 w : World} {v1 v2 : Value} {c d : List Int} (h : Blk w w0.heap.size [v1, v2] 22) (h1 : SL w 1 v1 c.length (ints c)) (h2 : SL w 1 v2 d.length (ints d)) : CL w (.slice (some ⟨w0.heap.size, 0, none⟩) 2 2) [c, d] :=
  CL.of_blk (cs := [c, d]) h rfl (by simp) (fun i e hd => by
    match i with
    | 0 => cases hd; exact ⟨_, rfl, h1⟩
    | 1 => cases hd; exact ⟨_, rfl, h2⟩
    | (i + 2) => simp at hd)
set_option maxRecDepth 100000 in
set_option maxHeartbeats 4000000 in
theorem lives_calls : Calls Try.prog 16 #[] w fun e w' => e = .returned (.bool true) ∧ Upd [] w w' := by
  go_enter Try.func16, Try.ntmps16
  go_upto_region 1 with fail
  refine wp_region_lit ?_
  refine wpList_cutH 1 (fun K hK => ?_)
  simp only [List.take_succ_cons, List.take_zero]
  go_wp2_with fail
  refine Halt_.intro ?_; try simp only [List.drop_succ_cons, List.drop_zero]
  have B1 := Blk.new w [.int .i64 1, .int .i64 2] 3
  have U1 := (Upd.refl [] w).alloc (.cells #[.int .i64 1, .int .i64 2] 3)
  generalize w.alloc (.cells #[.int .i64 1, .int .i64 2] 3) = w1 at *
  have H1 := Lib.hid (And.intro (sl_lit [1, 2] B1 (by simp)) U1)
  clear B1 U1
  refine wpList_cutH 1 (fun K hK => ?_)
  simp only [List.take_succ_cons, List.take_zero]
  go_wp2_with fail
  refine Halt_.intro ?_; try simp only [List.drop_succ_cons, List.drop_zero]
  have B2 := Blk.new w1 [.int .i64 (-1), .int .i64 3] 3
  have U2 := (Upd.refl [] w1).alloc (.cells #[.int .i64 (-1), .int .i64 3] 3)
  generalize w1.alloc (.cells #[.int .i64 (-1), .int .i64 3] 3) = w2 at *
  have H2 := Lib.hid (And.intro (Resolve_calls (H1.out.1.upd U2 (by simp)) (sl_lit [-1, 3] B2 (by simp)) 1) (H1.out.2.step U2))
  clear B2 U2 H1
  go_wp2_with fail
  refine H2.out.1.mono ?_
  rintro e w3 ⟨v3, rfl, s3, u3⟩
  rw [res_ex.1]
  rw [res_ex.2] at s3
  have H3 := Lib.hid (And.intro s3 (H2.out.2.step u3))
  clear s3 u3 H2
  go_upto_region 2 with fail
  refine wp_region_lit ?_
  refine wpList_cutH 1 (fun K hK => ?_)
  simp only [List.take_succ_cons, List.take_zero]
  go_wp2_with fail
  refine Halt_.intro ?_; try simp only [List.drop_succ_cons, List.drop_zero]
  have B4 := Blk.new w3 [.int .i64 2] 3
  have U4 := (Upd.refl [] w3).alloc (.cells #[.int .i64 2] 3)
  generalize w3.alloc (.cells #[.int .i64 2] 3) = w4 at *
  have H4 := Lib.hid (And.intro (sl_lit [2] B4 (by simp)) (And.intro (H3.out.1.upd U4 (by simp)) (H3.out.2.step U4)))
  clear B4 U4 H3
  refine wpList_cutH 1 (fun K hK => ?_)
  simp only [List.take_succ_cons, List.take_zero]
  go_wp2_with fail
  refine Halt_.intro ?_; try simp only [List.drop_succ_cons, List.drop_zero]
  have B5 := Blk.new w4 [.int .i64 1, .int .i64 2] 3
  have U5 := (Upd.refl [] w4).alloc (.cells #[.int .i64 1, .int .i64 2] 3)
  generalize w4.alloc (.cells #[.int .i64 1, .int .i64 2] 3) = w5 at *
  have H5 := Lib.hid (And.intro (sl_lit [1, 2] B5 (by simp)) (And.intro (H4.out.1.upd U5 (by simp)) (And.intro (H4.out.2.1.upd U5 (by simp)) (H4.out.2.2.step U5))))
  clear B5 U5 H4
  refine wpList_cutH 1 (fun K hK => ?_)
  simp only [List.take_succ_cons, List.take_zero]
  go_wp2_with fail
  refine Halt_.intro ?_; try simp only [List.drop_succ_cons, List.drop_zero]
  have B6 := Blk.new w5 [.int .i64 (-1), .int .i64 2] 3
  have U6 := (Upd.refl [] w5).alloc (.cells #[.int .i64 (-1), .int .i64 2] 3)
  generalize w5.alloc (.cells #[.int .i64 (-1), .int .i64 2] 3) = w6 at *
  have H6 := Lib.hid (And.intro (sl_lit [-1, 2] B6 (by simp)) (And.intro (H5.out.1.upd U6 (by simp)) (And.intro (H5.out.2.1.upd U6 (by simp)) (And.intro (H5.out.2.2.1.upd U6 (by simp)) (H5.out.2.2.2.step U6)))))
  clear B6 U6 H5
  refine wpList_cutH 1 (fun K hK => ?_)
  simp only [List.take_succ_cons, List.take_zero]
  go_wp2_with fail
  refine Halt_.intro ?_; try simp only [List.drop_succ_cons, List.drop_zero]
  have B7 := Blk.new w6 [.slice (some ⟨w4.heap.size, 0, none⟩) 2 2, .slice (some ⟨w5.heap.size, 0, none⟩) 2 2] 22
  have U7 := (Upd.refl [] w6).alloc (.cells #[.slice (some ⟨w4.heap.size, 0, none⟩) 2 2, .slice (some ⟨w5.heap.size, 0, none⟩) 2 2] 22)
  generalize w6.alloc (.cells #[.slice (some ⟨w4.heap.size, 0, none⟩) 2 2, .slice (some ⟨w5.heap.size, 0, none⟩) 2 2] 22) = w7 at *
  have hch := Chain_calls (c := [2]) (hs := [[1, 2], [-1, 2]]) (H6.out.2.2.1.upd U7 (by simp)) (cl_two B7 (H6.out.2.1.upd U7 (by simp)) (H6.out.1.upd U7 (by simp))) (by simp)
  rw [chain_ex1] at hch
  have H7 := Lib.hid (And.intro hch (And.intro (H6.out.2.2.2.1.upd U7 (by simp)) (H6.out.2.2.2.2.step U7)))
  clear B7 U7 H6 hch
  go_wp2_with fail
  refine H7.out.1.mono ?_
  rintro e w8 ⟨rfl, u8⟩
  have H8 := Lib.hid (And.intro (H7.out.2.1.upd u8 (by simp)) (H7.out.2.2.step u8))
  clear u8 H7
  go_upto_region 3 with fail
  refine wp_region_lit ?_
  refine wpList_cutH 1 (fun K hK => ?_)
  simp only [List.take_succ_cons, List.take_zero]
  go_wp2_with fail
  refine Halt_.intro ?_; try simp only [List.drop_succ_cons, List.drop_zero]
  have B9 := Blk.new w8 [.int .i64 2] 3
  have U9 := (Upd.refl [] w8).alloc (.cells #[.int .i64 2] 3)
  generalize w8.alloc (.cells #[.int .i64 2] 3) = w9 at *
  have H9 := Lib.hid (And.intro (sl_lit [2] B9 (by simp)) (And.intro (H8.out.1.upd U9 (by simp)) (H8.out.2.step U9)))
  clear B9 U9 H8
  refine wpList_cutH 1 (fun K hK => ?_)
  simp only [List.take_succ_cons, List.take_zero]
  go_wp2_with fail
  refine Halt_.intro ?_; try simp only [List.drop_succ_cons, List.drop_zero]
  have Ba := Blk.new w9 [.int .i64 1, .int .i64 2] 3
  have Ua := (Upd.refl [] w9).alloc (.cells #[.int .i64 1, .int .i64 2] 3)
  generalize w9.alloc (.cells #[.int .i64 1, .int .i64 2] 3) = wa at *
  have Ha := Lib.hid (And.intro (sl_lit [1, 2] Ba (by simp)) (And.intro (H9.out.1.upd Ua (by simp)) (And.intro (H9.out.2.1.upd Ua (by simp)) (H9.out.2.2.step Ua))))
  clear Ba Ua H9
  refine wpList_cutH 1 (fun K hK => ?_)
  simp only [List.take_succ_cons, List.take_zero]
  go_wp2_with fail
  refine Halt_.intro ?_; try simp only [List.drop_succ_cons, List.drop_zero]
  have Bb := Blk.new wa [.slice (some ⟨w9.heap.size, 0, none⟩) 2 2] 22
  have Ub := (Upd.refl [] wa).alloc (.cells #[.slice (some ⟨w9.heap.size, 0, none⟩) 2 2] 22)
  generalize wa.alloc (.cells #[.slice (some ⟨w9.heap.size, 0, none⟩) 2 2] 22) = wb at *
  have hch := Chain_calls (c := [2]) (hs := [[1, 2]]) (Ha.out.2.1.upd Ub (by simp)) (cl_one Bb (Ha.out.1.upd Ub (by simp))) (by simp)
  rw [chain_ex2] at hch
  have Hb := Lib.hid (And.intro hch (And.intro (Ha.out.2.2.1.upd Ub (by simp)) (Ha.out.2.2.2.step Ub)))
  clear Bb Ub Ha hch
  go_wp2_with fail
  refine Hb.out.1.mono ?_
  rintro e wc ⟨rfl, uc⟩
  have Hc := Lib.hid (And.intro (Hb.out.2.1.upd uc (by simp)) (Hb.out.2.2.step uc))
  clear uc Hb
  go_upto_region 4 with fail
  refine wp_region_lit ?_
  refine wpList_cutH 5 (fun K hK => ?_)
  simp only [List.take_succ_cons, List.take_zero]
  go_wp2_with fail
  refine Halt_.intro ?_; try simp only [List.drop_succ_cons, List.drop_zero]
  have Bd := Blk.new wc [.int .i64 2, .int .i64 3] 3
  have Ud := (Upd.refl [] wc).alloc (.cells #[.int .i64 2, .int .i64 3] 3)
  generalize wc.alloc (.cells #[.int .i64 2, .int .i64 3] 3) = wd at *
  have Hd := Lib.hid (And.intro (SameInts_calls (Hc.out.1.upd Ud (by simp)) (sl_lit [2, 3] Bd (by simp))) (Hc.out.2.step Ud))
  clear Bd Ud Hc
  go_wp2_with fail
  refine Hd.out.1.mono ?_
  rintro e we ⟨rfl, ue⟩
  simp only [decide_true]
  go_wp2_with fail
  go_ret
  exact ⟨rfl, Hd.out.2.step ue⟩
end
end Law
end Go.Proofs.Ytgdpbhbdeaifbaa
