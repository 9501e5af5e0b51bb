/- Walks through the laws of trails: lives. Conditions: none. -/
import Derived.Test.YtlfcabmbakjklaaNextB
set_option linter.unusedVariables false
set_option linter.unusedSimpArgs false
set_option linter.unusedSectionVars false
open Go.RowKit
namespace Go.Proofs.Ytlfcabmbakjklaa
open L
namespace Law
open Trail
theorem CL.mk' {w : World} {g n : Nat} {e : TypeId} {vals : List Value} {cs : List (List Int)} (hb : Blk w g vals e) (hn : cs.length = n) (hl : vals.length = cs.length) (hm : n ≤ maxLen)
    (h : ∀ (i : Nat) (c : List Int), cs[i]? = some c → ∃ v, vals[i]? = some v ∧ SL w 1 v c.length (ints c)) : CL w (.slice (some ⟨g, 0, none⟩) n n) cs :=
  ⟨vals, hl, by subst hn; exact SL.of_blk (pad := []) (by simpa using hb) (by omega) (Nat.le_refl _) hm, h⟩
theorem SL.lit {w : World} {g n : Nat} {e : TypeId} {cs : List Value} (hb : Blk w g cs e) (hn : cs.length = n) (hm : n ≤ maxLen) : SL w 1 (.slice (some ⟨g, 0, none⟩) n n) n cs :=
  SL.of_blk (pad := []) (by simpa using hb) (by omega) (Nat.le_refl _) hm
section
variable {w : World}
set_option maxRecDepth 100000 in
set_option maxHeartbeats 2000000 in
theorem lives_calls : Calls Try.prog 18 #[] w fun e w' => e = .returned (.bool true) ∧ Upd [] w w' := by
  have N := New_calls 3 w (by omega)
  rw [show ((3 : Nat) : Int) = 3 from rfl] at N
  have HN := Lib.hid N
  clear N
  go_enter Try.func18, Try.ntmps18
  go_wp2_with fail
  refine HN.out.mono ?_
  rintro e w1 ⟨b, S, rfl, h, u1, k1⟩
  clear HN
  go_wp2_with fail
  refine (Decide_calls (show Tr w1 b 3 [] (decs []) S from h) 2).mono ?_
  rintro e w2 ⟨rfl, S2, h2, u2, k2⟩
  rw [show putErr 3 [] 2 (-1) = 0 by decide]
  rw [show putEs 3 [] 2 (-1) = [(2, -1)] by decide] at h2
  have U2 : Upd [] w w2 := u1.fresh u2 (fun k hk => .inr (k1 k hk))
  have K2 : ∀ k ∈ S2, w.heap.size ≤ k := fun k hk => by rcases k2 k hk with h | h; exact k1 k h; have := u1.size; omega
  clear u2 k2 h
  go_wp2_with fail
  refine (Imply_calls h2 (-1) 7 (by omega)).mono ?_
  rintro e w3 ⟨rfl, S3, h3, u3, k3⟩
  rw [show (if (7 : Int) < 0 then (1 : Int) else putErr 3 [(2, -1)] (-1) 7) = 0 by decide]
  rw [show (if (7 : Int) < 0 then ([(2, -1)] : Es) else putEs 3 [(2, -1)] (-1) 7) = [(2, -1), (-1, 7)] by decide] at h3
  have U3 : Upd [] w w3 := U2.fresh u3 (fun k hk => .inr (K2 k hk))
  clear u3 k3 h2 u1 k1 K2 U2
  go_wp2_with fail
  refine (Level_calls h3 1).mono ?_
  rintro e w4 ⟨rfl, u4⟩
  rw [show levelOf 3 [(2, -1), (-1, 7)] 1 = 1 by decide, show noneOf 3 [(2, -1), (-1, 7)] 1 = 0 by decide]
  have h4 := h3.upd u4 (by simp)
  have U4 := U3.step u4
  clear h3 U3 u4
  go_wp2_with fail
  refine (Reason_calls h4 1).mono ?_
  rintro e w5 ⟨rfl, u5⟩
  rw [show reasonOf 3 [(2, -1), (-1, 7)] 1 = 7 by decide, show noneOf 3 [(2, -1), (-1, 7)] 1 = 0 by decide]
  have h5 := h4.upd u5 (by simp)
  have U5 := U4.step u5
  clear h4 U4 u5
  go_upto_region 6 with fail
  refine wp_region_lit ?_
  refine wpList_cutH 5 (fun K hK => ?_)
  simp only [List.take_succ_cons, List.take_zero]
  go_wp2_with fail
  refine Halt_.intro ?_; try simp only [List.drop_succ_cons, List.drop_zero]
  have g0 := (((Blk.new w5 [.int .i64 (-2), .int .i64 3] 3).alloc (.cells #[.int .i64 1, .int .i64 (-2)] 3)).alloc (.cells #[.slice (some ⟨w5.heap.size, 0, none⟩) 2 2, .slice (some ⟨w5.heap.size + 1, 0, none⟩) 2 2] 22)).alloc (.cells #[.bool true, .bool true] 4)
  have g1 := ((Blk.new (w5.alloc (.cells #[.int .i64 (-2), .int .i64 3] 3)) [.int .i64 1, .int .i64 (-2)] 3).alloc (.cells #[.slice (some ⟨w5.heap.size, 0, none⟩) 2 2, .slice (some ⟨w5.heap.size + 1, 0, none⟩) 2 2] 22)).alloc (.cells #[.bool true, .bool true] 4)
  have g2 := (Blk.new ((w5.alloc (.cells #[.int .i64 (-2), .int .i64 3] 3)).alloc (.cells #[.int .i64 1, .int .i64 (-2)] 3)) [.slice (some ⟨w5.heap.size, 0, none⟩) 2 2, .slice (some ⟨w5.heap.size + 1, 0, none⟩) 2 2] 22).alloc (.cells #[.bool true, .bool true] 4)
  have g3 := Blk.new (((w5.alloc (.cells #[.int .i64 (-2), .int .i64 3] 3)).alloc (.cells #[.int .i64 1, .int .i64 (-2)] 3)).alloc (.cells #[.slice (some ⟨w5.heap.size, 0, none⟩) 2 2, .slice (some ⟨w5.heap.size + 1, 0, none⟩) 2 2] 22)) [.bool true, .bool true] 4
  have u6 := ((((Upd.refl [] w5).alloc (.cells #[.int .i64 (-2), .int .i64 3] 3)).alloc (.cells #[.int .i64 1, .int .i64 (-2)] 3)).alloc (.cells #[.slice (some ⟨w5.heap.size, 0, none⟩) 2 2, .slice (some ⟨w5.heap.size + 1, 0, none⟩) 2 2] 22)).alloc (.cells #[.bool true, .bool true] 4)
  simp only [World.size_alloc] at g1 g2 g3
  generalize (((w5.alloc (.cells #[.int .i64 (-2), .int .i64 3] 3)).alloc (.cells #[.int .i64 1, .int .i64 (-2)] 3)).alloc (.cells #[.slice (some ⟨w5.heap.size, 0, none⟩) 2 2, .slice (some ⟨w5.heap.size + 1, 0, none⟩) 2 2] 22)).alloc (.cells #[.bool true, .bool true] 4) = w6 at *
  have h6 := h5.upd u6 (by simp)
  have U6 := U5.step u6
  have hcl : CL w6 (.slice (some ⟨w5.heap.size + 1 + 1, 0, none⟩) 2 2) [[-2, 3], [1, -2]] := CL.mk' g2 rfl rfl (by unfold maxLen; omega) (fun i c hc => by
    match i, hc with
    | 0, hc => cases hc; exact ⟨_, rfl, SL.lit g0 rfl (by unfold maxLen; omega)⟩
    | 1, hc => cases hc; exact ⟨_, rfl, SL.lit g1 rfl (by unfold maxLen; omega)⟩
    | n + 2, hc => simp at hc)
  have hal : SL w6 1 (.slice (some ⟨w5.heap.size + 1 + 1 + 1, 0, none⟩) 2 2) [true, true].length (bools [true, true]) := SL.lit g3 rfl (by unfold maxLen; omega)
  have HX := Lib.hid (And.intro hcl hal)
  clear g0 g1 g2 g3 u6 U5 h5 hcl hal
  go_wp2_with fail
  refine (Next_calls h6 HX.out.1 HX.out.2).mono ?_
  rintro e w7 ⟨rfl, u7⟩
  rw [show nextRes 3 [(2, -1), (-1, 7)] [[-2, 3], [1, -2]] [true, true] = (3, 0, 0) by decide]
  have h7 := h6.upd u7 (by simp)
  have U7 := U6.step u7
  clear HX h6 U6 u7
  go_upto_region 7 with fail
  refine wp_region_lit ?_
  refine wpList_cutH 4 (fun K hK => ?_)
  simp only [List.take_succ_cons, List.take_zero]
  go_wp2_with fail
  refine Halt_.intro ?_; try simp only [List.drop_succ_cons, List.drop_zero]
  have g1 := ((Blk.new w7 [.int .i64 1, .int .i64 (-2)] 3).alloc (.cells #[.slice (some ⟨w7.heap.size, 0, none⟩) 2 2] 22)).alloc (.cells #[.bool true] 4)
  have g2 := (Blk.new (w7.alloc (.cells #[.int .i64 1, .int .i64 (-2)] 3)) [.slice (some ⟨w7.heap.size, 0, none⟩) 2 2] 22).alloc (.cells #[.bool true] 4)
  have g3 := Blk.new ((w7.alloc (.cells #[.int .i64 1, .int .i64 (-2)] 3)).alloc (.cells #[.slice (some ⟨w7.heap.size, 0, none⟩) 2 2] 22)) [.bool true] 4
  have u8 := (((Upd.refl [] w7).alloc (.cells #[.int .i64 1, .int .i64 (-2)] 3)).alloc (.cells #[.slice (some ⟨w7.heap.size, 0, none⟩) 2 2] 22)).alloc (.cells #[.bool true] 4)
  simp only [World.size_alloc] at g2 g3
  generalize ((w7.alloc (.cells #[.int .i64 1, .int .i64 (-2)] 3)).alloc (.cells #[.slice (some ⟨w7.heap.size, 0, none⟩) 2 2] 22)).alloc (.cells #[.bool true] 4) = w8 at *
  have h8 := h7.upd u8 (by simp)
  have U8 := U7.step u8
  have hcl : CL w8 (.slice (some ⟨w7.heap.size + 1, 0, none⟩) 1 1) [[1, -2]] := CL.mk' g2 rfl rfl (by unfold maxLen; omega) (fun i c hc => by
    match i, hc with
    | 0, hc => cases hc; exact ⟨_, rfl, SL.lit g1 rfl (by unfold maxLen; omega)⟩
    | n + 1, hc => simp at hc)
  have hal : SL w8 1 (.slice (some ⟨w7.heap.size + 1 + 1, 0, none⟩) 1 1) [true].length (bools [true]) := SL.lit g3 rfl (by unfold maxLen; omega)
  have HX := Lib.hid (And.intro hcl hal)
  clear g1 g2 g3 u8 U7 h7 hcl hal
  go_wp2_with fail
  refine (Next_calls h8 HX.out.1 HX.out.2).mono ?_
  rintro e w9 ⟨rfl, u9⟩
  rw [show nextRes 3 [(2, -1), (-1, 7)] [[1, -2]] [true] = (0, 0, 0) by decide]
  have h9 := h8.upd u9 (by simp)
  have U9 := U8.step u9
  clear HX h8 U8 u9
  go_wp2_with fail
  refine (Value_calls h9 1).mono ?_
  rintro e w10 ⟨rfl, u10⟩
  rw [show tval 3 [(2, -1), (-1, 7)] 1 = -1 by decide]
  go_wp2_with fail
  go_ret
  exact ⟨rfl, U9.step u10⟩
end
end Law
end Go.Proofs.Ytlfcabmbakjklaa
