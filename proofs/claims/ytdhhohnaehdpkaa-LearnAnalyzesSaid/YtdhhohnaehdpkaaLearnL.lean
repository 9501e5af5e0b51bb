/- Walks through the laws of learning: lives. Conditions: none. -/
import Derived.Test.YtdhhohnaehdpkaaLearnY
import Derived.Test.YtdhhohnaehdpkaaLearnS
set_option linter.unusedVariables false
set_option linter.unusedSimpArgs false
set_option linter.unusedSectionVars false
open Go.RowKit
namespace Go.Proofs.Ytdhhohnaehdpkaa
open L
namespace Learn
open Trail Cla R01 R14
def exL : List (List Int) := [[-1, 2], [-2, 3], [-2, -3]]
def exT : Es := [(1, -1), (2, 0), (3, 1)]
theorem ex_wf : TWf 3 exT := ⟨by omega, by decide, by decide, by decide⟩
theorem ex_res : resL [-2, 3] [-2, -3] 3 = [-2] := by
  have h1 : rest2 [-2, 3] [-2, -3] 3 = [-2, -2] := by decide
  have ht : taut (rest2 [-2, 3] [-2, -3] 3) = false := by rw [h1]; decide
  have h3 : resE [-2, 3] [-2, -3] 3 = 0 := by
    unfold resE
    rw [ht, show validErr [-2, 3] = 0 by decide, show validErr [-2, -3] = 0 by decide]
    decide
  unfold resL
  rw [if_pos h3]
  refine ord_unique (norm_ord ht) (by unfold Cla.Ord; decide) (fun x => ?_)
  rw [norm_mem, h1]
  simp
theorem ex_anL : anL exL 3 exT 2 = (0, [-2], 0, [1, 2]) := by
  have hg : top exT [-2, -3] = 1 := by decide
  have u1 : Used exT 1 [-2, -3] 2 := by unfold Used; decide
  have f1 : Fits exL 3 exT 2 := by unfold Fits; decide
  have s1 : ¬ Used exT 1 [-2] 1 := by unfold Used; decide
  have s0 : ¬ Used exT 1 [-2] 0 := by unfold Used; decide
  have hgo : go exL 3 exT 1 3 [-2, -3] [2] = (0, [-2], [1, 2]) := by
    rw [go_used u1 f1]
    have e1 : rsn exL exT 2 = [-2, 3] := by decide
    have e2 : (at_ exT 2).1 = 3 := by decide
    have e3 : (at_ exT 2).2 = 1 := by decide
    rw [e1, e2, e3, ex_res, go_skip s1, go_skip s0]
    rfl
  have h1 := anL_in (L := exL) (vars := 3) (es := exT) (k := 2) (by decide)
  have e1 : exL.getD 2 [] = [-2, -3] := rfl
  have e2 : exT.length = 3 := rfl
  rw [e1, hg, e2, if_neg (by decide), if_neg (by decide)] at h1
  rw [show [((2 : Nat) : Int)] = [2] from rfl, hgo] at h1
  refine h1.trans ?_
  rw [if_neg (by decide)]
  decide
theorem cl_three {w : World} {g : Nat} {v1 v2 v3 : Value} {c d f : List Int} (h : Blk w g [v1, v2, v3] 22) (h1 : SL w 1 v1 c.length (ints c)) (h2 : SL w 1 v2 d.length (ints d)) (h3 : SL w 1 v3 f.length (ints f)) : Go.Proofs.Ytdhhohnaehdpkaa.L.CL w (.slice (some ⟨g, 0, none⟩) 3 3) [c, d, f] :=
  L.CL.of_blk (cs := [c, d, f]) h rfl (by simp) (fun i e hd => by
    match i with
    | 0 => cases hd; exact ⟨_, rfl, h1⟩
    | 1 => cases hd; exact ⟨_, rfl, h2⟩
    | 2 => cases hd; exact ⟨_, rfl, h3⟩
    | (i + 3) => simp at hd)
theorem sl_lit {w w0 : World} (xs : List Int) (h : Blk w w0.heap.size (ints xs) 3) (hm : xs.length ≤ 1000) : SL w 1 (.slice (some ⟨w0.heap.size, 0, none⟩) xs.length xs.length) xs.length (ints xs) :=
  SL.of_blk (pad := []) (by simpa using h) (by rw [ints_length]; simp) (Nat.le_refl _) (by unfold maxLen; omega)
section
variable {w : World}
set_option maxRecDepth 100000 in
set_option maxHeartbeats 4000000 in
theorem lives_calls : Calls Try.prog 17 #[] w fun e w' => e = .returned (.bool true) ∧ Upd [] w w' := by
  go_enter Try.func17, Try.ntmps17
  go_upto_region 1 with fail
  refine wp_region_lit ?_
  refine wpList_cutH 4 (fun K hK => ?_)
  simp only [List.take_succ_cons, List.take_zero]
  go_wp2_with fail
  refine Halt_.intro ?_; try simp only [List.drop_succ_cons, List.drop_zero]
  have B1 := Blk.new w (rows exT.length (mvs exT)) 28
  have U1 := (Upd.refl [] w).alloc (.cells #[.int .i64 1, .int .i64 (-1), .int .i64 2, .int .i64 0, .int .i64 3, .int .i64 1] 28)
  change Blk (w.alloc (.cells #[.int .i64 1, .int .i64 (-1), .int .i64 2, .int .i64 0, .int .i64 3, .int .i64 1] 28)) _ _ _ at B1
  generalize w.alloc (.cells #[.int .i64 1, .int .i64 (-1), .int .i64 2, .int .i64 0, .int .i64 3, .int .i64 1] 28) = w1 at *
  have HM := Lib.hid (show Calls Try.prog 11 #[.int .i64 3, .slice (some ⟨w.heap.size, 0, none⟩) 3 3] w1 _ from MadeL_calls (n := 3) (es := exT) (SL.of_blk (k := 2) (n := 3) (cap := 3) (pad := []) (by rw [List.append_nil]; exact B1) rfl (Nat.le_refl _) (by unfold maxLen; omega)) ex_wf)
  have HU1 := Lib.hid U1
  clear B1 U1
  go_upto_region 4 with (go_at_call 11; (with_reducible refine HM.out.mono ?_); rintro e w2 ⟨b, rfl, S, hT, hS, u2⟩)
  have HT := Lib.hid (And.intro hT (HU1.out.step u2))
  clear hT hS u2 HM HU1
  refine wp_region_lit ?_
  refine wpList_cutH 1 (fun K hK => ?_)
  simp only [List.take_succ_cons, List.take_zero]
  go_wp2_with fail
  refine Halt_.intro ?_; try simp only [List.drop_succ_cons, List.drop_zero]
  have B3 := Blk.new w2 [.int .i64 (-1), .int .i64 2] 3
  have U3 := (Upd.refl [] w2).alloc (.cells #[.int .i64 (-1), .int .i64 2] 3)
  generalize w2.alloc (.cells #[.int .i64 (-1), .int .i64 2] 3) = w3 at *
  have H3 := Lib.hid (And.intro (sl_lit [-1, 2] B3 (by simp)) U3)
  clear B3 U3
  refine wpList_cutH 1 (fun K hK => ?_)
  simp only [List.take_succ_cons, List.take_zero]
  go_wp2_with fail
  refine Halt_.intro ?_; try simp only [List.drop_succ_cons, List.drop_zero]
  have B4 := Blk.new w3 [.int .i64 (-2), .int .i64 3] 3
  have U4 := (Upd.refl [] w3).alloc (.cells #[.int .i64 (-2), .int .i64 3] 3)
  generalize w3.alloc (.cells #[.int .i64 (-2), .int .i64 3] 3) = w4 at *
  have H4 := Lib.hid (And.intro (sl_lit [-2, 3] B4 (by simp)) U4)
  clear B4 U4
  refine wpList_cutH 1 (fun K hK => ?_)
  simp only [List.take_succ_cons, List.take_zero]
  go_wp2_with fail
  refine Halt_.intro ?_; try simp only [List.drop_succ_cons, List.drop_zero]
  have B5 := Blk.new w4 [.int .i64 (-2), .int .i64 (-3)] 3
  have U5 := (Upd.refl [] w4).alloc (.cells #[.int .i64 (-2), .int .i64 (-3)] 3)
  generalize w4.alloc (.cells #[.int .i64 (-2), .int .i64 (-3)] 3) = w5 at *
  have H5 := Lib.hid (And.intro (sl_lit [-2, -3] B5 (by simp)) U5)
  clear B5 U5
  refine wpList_cutH 1 (fun K hK => ?_)
  simp only [List.take_succ_cons, List.take_zero]
  go_wp2_with fail
  refine Halt_.intro ?_; try simp only [List.drop_succ_cons, List.drop_zero]
  have B6 := Blk.new w5 [.slice (some ⟨w2.heap.size, 0, none⟩) 2 2, .slice (some ⟨w3.heap.size, 0, none⟩) 2 2, .slice (some ⟨w4.heap.size, 0, none⟩) 2 2] 22
  have U6 := (Upd.refl [] w5).alloc (.cells #[.slice (some ⟨w2.heap.size, 0, none⟩) 2 2, .slice (some ⟨w3.heap.size, 0, none⟩) 2 2, .slice (some ⟨w4.heap.size, 0, none⟩) 2 2] 22)
  change Blk (w5.alloc (.cells #[.slice (some ⟨w2.heap.size, 0, none⟩) 2 2, .slice (some ⟨w3.heap.size, 0, none⟩) 2 2, .slice (some ⟨w4.heap.size, 0, none⟩) 2 2] 22)) _ _ _ at B6
  generalize w5.alloc (.cells #[.slice (some ⟨w2.heap.size, 0, none⟩) 2 2, .slice (some ⟨w3.heap.size, 0, none⟩) 2 2, .slice (some ⟨w4.heap.size, 0, none⟩) 2 2] 22) = w6 at *
  have U46 := H5.out.2.step U6
  have U36 := H4.out.2.step U46
  have U26 := H3.out.2.step U36
  have hcl := cl_three B6 (H3.out.1.upd U36 (by simp)) (H4.out.1.upd U46 (by simp)) (H5.out.1.upd U6 (by simp))
  have hAn := Analyze_calls (L := exL) (vars := 3) (es := exT) (cn := 2) (HT.out.1.upd U26 (by simp)) hcl (by omega) ⟨by omega, by omega⟩
  rw [ex_anL] at hAn
  have HA := Lib.hid (show Calls Try.prog 13 #[.slice (some ⟨w5.heap.size, 0, none⟩) 3 3, .pointer (some ⟨b, 0, none⟩), .int .i64 2] w6 _ from hAn)
  have HU6 := Lib.hid (HT.out.2.step U26)
  clear B6 U6 U46 U36 U26 hcl hAn H3 H4 H5 HT
  go_upto_region 5 with (go_at_call 13; (with_reducible refine HA.out.mono ?_); rintro e w7 ⟨v1, v3, rfl, o1, o3, _⟩)
  have HO := Lib.hid (And.intro o1.sl (And.intro o3.sl (HU6.out.step o1.u)))
  clear o1 o3 HA HU6
  refine wp_region_lit ?_
  refine wpList_cutH 9 (fun K hK => ?_)
  simp only [List.take_succ_cons, List.take_zero]
  go_wp2_with fail
  refine Halt_.intro ?_; try simp only [List.drop_succ_cons, List.drop_zero]
  have B8 := Blk.new w7 [.int .i64 (-2)] 3
  have U8 := (Upd.refl [] w7).alloc (.cells #[.int .i64 (-2)] 3)
  generalize w7.alloc (.cells #[.int .i64 (-2)] 3) = w8 at *
  have HS1 := Lib.hid (show Calls Try.prog 15 #[v1, .slice (some ⟨w7.heap.size, 0, none⟩) 1 1] w8 (fun e w' => e = .returned (.bool true) ∧ Upd [] w8 w') from SameInts_calls (HO.out.1.upd U8 (by simp)) (sl_lit [-2] B8 (by simp)))
  have HU8 := Lib.hid U8
  clear B8 U8
  refine wpList_cutH 5 (fun K hK => ?_)
  simp only [List.take_succ_cons, List.take_zero]
  go_wp2_with (go_at_call 15; (with_reducible refine HS1.out.mono ?_); rintro e wB ⟨rfl, uB⟩)
  refine Halt_.intro ?_; try simp only [List.drop_succ_cons, List.drop_zero]
  have B9 := Blk.new wB [.int .i64 1, .int .i64 2] 3
  have U9 := (Upd.refl [] wB).alloc (.cells #[.int .i64 1, .int .i64 2] 3)
  generalize wB.alloc (.cells #[.int .i64 1, .int .i64 2] 3) = w9 at *
  have HS2 := Lib.hid (show Calls Try.prog 15 #[v3, .slice (some ⟨wB.heap.size, 0, none⟩) 2 2] w9 (fun e w' => e = .returned (.bool true) ∧ Upd [] w9 w') from SameInts_calls (HO.out.2.1.upd ((HU8.out.step uB).step U9) (by simp)) (sl_lit [1, 2] B9 (by simp)))
  have HU9 := Lib.hid (HO.out.2.2.step ((HU8.out.step uB).step U9))
  clear B9 U9 uB
  go_wp2_with (go_at_call 15; (with_reducible refine HS2.out.mono ?_); rintro e w10 ⟨rfl, u10⟩)
  go_ret
  exact ⟨rfl, HU9.out.step u10⟩
end
end Learn
end Go.Proofs.Ytdhhohnaehdpkaa
