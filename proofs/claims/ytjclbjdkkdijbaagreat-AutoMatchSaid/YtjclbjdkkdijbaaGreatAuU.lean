/- Walks through the law of chapter 05: lives. Conditions: none. -/
import Derived.Test.YtjclbjdkkdijbaaGreatAuL
import Derived.Test.YtjclbjdkkdijbaaGreatAuZd
import Derived.Test.YtjclbjdkkdijbaaGreatSame
set_option linter.unusedVariables false
set_option linter.unusedSimpArgs false
set_option linter.unusedSectionVars false
open Go.RowKit
namespace Go.Proofs.YtjclbjdkkdijbaaGreat
open L
namespace Aut
open Auto R01 Rgx Rx
attribute [-go_sem] sliced
def rS : Rx := nd 7 0 0 [nd 2 97 97 []]
def aS : Au := ⟨[0, 97, 98], [[1, 0, 1], [1, 1, 1]], [true, false]⟩
theorem rS_err : nErr rS = 0 := by kernel_rfl
theorem rS_res : nRes rS = rS := by kernel_rfl
theorem rS_cuts : srtC (0 :: cutB (nRes rS)) = [0, 97, 98] := by rw [srtC_put, rS_res]; kernel_rfl
theorem rS_upTo : upTo (some rS) 3 (nxO (nxR [0, 97, 98])) 2 = ([rS, rNone].map some, [[1, 0, 1], [1, 1, 1]]) := by kernel_rfl
theorem rS_of : ofE rS = 0 ∧ ofA rS = aS := by
  have h := numO_done rS_upTo (by decide) (by decide)
  unfold ofE ofA
  rw [if_neg (by simp [rS_err]), if_neg (by simp [rS_err]), rS_cuts, rS_res]
  rw [show ([0, 97, 98] : List Int).length = 3 from rfl, h]
  exact ⟨rfl, by kernel_rfl⟩
theorem aS_v : vErr aS = 0 := by decide
theorem aS_least : lstS aS = ⟨#[]⟩ ∧ lstB aS = true := by
  have h := leastA_at (a := aS) (i := 0) (e := (0, [])) (by decide) rfl rfl (fun j e' hj => by omega)
  unfold lstS lstB
  rw [if_neg (by simp [aS_v]), if_neg (by simp [aS_v]), h]
  exact ⟨rfl, rfl⟩
theorem cS : compA aS = ⟨[0, 97, 98], [[1, 0, 1], [1, 1, 1]], [false, true]⟩ := by unfold compA; rw [if_neg (by simp [aS_v])]; rfl
theorem cS_v : vErr (compA aS) = 0 := by rw [cS]; decide
theorem cS_least : lstS (compA aS) = ⟨#[0]⟩ ∧ lstB (compA aS) = true := by
  have hq : bfsQ (compA aS) 1 = [(0, []), (1, [0])] := by rw [cS]; decide
  have h := leastA_at (a := compA aS) (i := 1) (e := (1, [0])) (by decide) (by rw [hq]; rfl) (by rw [cS]; rfl) (fun j e' hj he => by
    have : j = 0 := by omega
    subst this
    rw [hq] at he
    cases he
    rw [cS]; rfl)
  unfold lstS lstB
  rw [if_neg (by simp [cS_v]), if_neg (by simp [cS_v]), h]
  exact ⟨rfl, rfl⟩
theorem aS_left : leftE aS 0 5 = 0 ∧ leftR aS 0 5 = [true, true, true, true, true, true] := by decide
def cA : Au := ⟨[0, 97, 98], [[1, 0, 1], [1, 1, 1]], [false, true]⟩
theorem aS_shape {w : World} {v : Value} (h : AuV w aS v) : ∃ a1 c1 a2 c2 a3 c3, v = .agg #[.slice a1 3 c1, .slice a2 2 c2, .slice a3 2 c3] ∧ AuF w aS [.slice a1 3 c1, .slice a2 2 c2, .slice a3 2 c3] := h.shape
theorem cA_shape {w : World} {v : Value} (h : AuV w (compA aS) v) : ∃ a1 c1 a2 c2 a3 c3, v = .agg #[.slice a1 3 c1, .slice a2 2 c2, .slice a3 2 c3] ∧ AuF w cA [.slice a1 3 c1, .slice a2 2 c2, .slice a3 2 c3] := by
  rw [cS] at h
  exact AuV.shape (a := cA) h
theorem cA_least : vErr cA = 0 ∧ lstS cA = ⟨#[0]⟩ ∧ lstB cA = true := by
  have h1 := cS_v
  have h2 := cS_least
  rw [cS] at h1 h2
  exact ⟨h1, h2⟩
section
variable {w : World}
theorem rS_V {w : World} {g c : Nat} (h : Blk w g [.int .i64 2, .int .u8 97, .int .u8 97, .slice none 0 0] 37) (hc : 1 ≤ c) (hm : c ≤ maxLen) : RxV [] w rS (.agg #[.int .i64 7, .int .u8 0, .int .u8 0, .slice (some ⟨g, 0, none⟩) 1 c]) := by
  refine RxV.iff.2 ⟨_, rfl, ⟨⟨by decide, by decide⟩, by omega, by omega⟩, fun _ => rxC 2 97 97 (.slice none 0 0), ⟨rfl, _, c, rfl, hc, hm, by simp, .inr ⟨g, 0, rfl, fun j u hj => ?_⟩⟩, fun _ => rfl, fun g' _ _ => by simp, fun i r hi => ?_⟩
  · rw [Nat.zero_add]; exact h.cell hj
  · have : i = 0 := by
      have := (List.getElem?_eq_some_iff.1 hi).1
      simpa using this
    subst this
    simp at hi
    subst hi
    exact RxF.iff.2 ⟨_, rfl, ⟨⟨by decide, by decide⟩, by omega, by omega⟩, RxL.nil0⟩
set_option maxRecDepth 100000 in
set_option maxHeartbeats 16000000 in
theorem lives_calls : Calls Tryz.prog 18 #[] w fun e w' => e = .returned (.bool true) ∧ Upd [] w w' := by
  go_enter Tryz.func18, Tryz.ntmps18
  go_upto_region 2 with fail
  change Code.wp _ _ _ _ ((w.alloc (.cells #[.int .i64 2, .int .u8 97, .int .u8 97, .slice none 0 0] 37)).alloc (.cells #[.int .i64 7, .int .u8 0, .int .u8 0, .slice (some ⟨w.heap.size, 0, none⟩) 1 1] 37))
  have bK := (Blk.new w [.int .i64 2, .int .u8 97, .int .u8 97, .slice none 0 0] 37).alloc (.cells #[.int .i64 7, .int .u8 0, .int .u8 0, .slice (some ⟨w.heap.size, 0, none⟩) 1 1] 37)
  have bS := Blk.new (w.alloc (.cells #[.int .i64 2, .int .u8 97, .int .u8 97, .slice none 0 0] 37)) [.int .i64 7, .int .u8 0, .int .u8 0, .slice (some ⟨w.heap.size, 0, none⟩) 1 1] 37
  have u1 := ((Upd.refl [] w).alloc (.cells #[.int .i64 2, .int .u8 97, .int .u8 97, .slice none 0 0] 37)).alloc (.cells #[.int .i64 7, .int .u8 0, .int .u8 0, .slice (some ⟨w.heap.size, 0, none⟩) 1 1] 37)
  have z1 : (w.alloc (.cells #[.int .i64 2, .int .u8 97, .int .u8 97, .slice none 0 0] 37)).heap.size = w.heap.size + 1 := by simp
  rw [z1] at bS
  change Blk ((w.alloc (.cells #[.int .i64 2, .int .u8 97, .int .u8 97, .slice none 0 0] 37)).alloc (.cells #[.int .i64 7, .int .u8 0, .int .u8 0, .slice (some ⟨w.heap.size, 0, none⟩) 1 1] 37)) _ _ _ at bS
  generalize ((w.alloc (.cells #[.int .i64 2, .int .u8 97, .int .u8 97, .slice none 0 0] 37)).alloc (.cells #[.int .i64 7, .int .u8 0, .int .u8 0, .slice (some ⟨w.heap.size, 0, none⟩) 1 1] 37)) = w1 at *
  have HU1 := Lib.hid u1
  have HOF := Lib.hid (Of_calls (rS_V bK (Nat.le_refl _) (by decide)))
  rw [rS_of.1, rS_of.2] at HOF
  have s0 := bS.cell (i := 0) rfl
  have s1 := bS.cell (i := 1) rfl
  have s2 := bS.cell (i := 2) rfl
  have s3 := bS.cell (i := 3) rfl
  clear bK bS u1 z1
  generalize w.heap.size = sb at *
  go_upto_region 3 with ((with_reducible refine HOF.out.mono ?_); rintro e w2 ⟨v2, rfl, hA, u2⟩; obtain ⟨a1, c1, a2, c2, a3, c3, rfl, hF⟩ := aS_shape hA; have HF := Lib.hid (And.intro hF (HU1.out.step u2)); clear hA hF u2)
  change Code.wp _ _ _ _ (w2.alloc (.cells #[.slice a1 3 c1, .slice a2 2 c2, .slice a3 2 c3] 31))
  have b3 := Blk.new w2 [.slice a1 3 c1, .slice a2 2 c2, .slice a3 2 c3] 31
  have u3 := (Upd.refl [] w2).alloc (.cells #[.slice a1 3 c1, .slice a2 2 c2, .slice a3 2 c3] 31)
  change Blk (w2.alloc (.cells #[.slice a1 3 c1, .slice a2 2 c2, .slice a3 2 c3] 31)) _ _ _ at b3
  generalize (w2.alloc (.cells #[.slice a1 3 c1, .slice a2 2 c2, .slice a3 2 c3] 31)) = w3 at *
  generalize w2.heap.size = ab at *
  have HF3 := Lib.hid (And.intro (HF.out.1.ext u3) (HF.out.2.step u3))
  have k0 := b3.cell (i := 0) rfl
  have k1 := b3.cell (i := 1) rfl
  have k2 := b3.cell (i := 2) rfl
  have HL := Lib.hid (Least_calls (a := aS) ⟨_, rfl, HF3.out.1⟩)
  rw [aS_least.1, aS_least.2, aS_v] at HL
  clear b3 u3 s0 s1 s2 s3 HOF HF
  go_upto_region 4 with ((with_reducible refine HL.out.mono ?_); rintro e w4 ⟨rfl, u4⟩)
  have HF4 := Lib.hid (And.intro (HF3.out.1.ext u4) (HF3.out.2.step u4))
  have m0 := u4.some k0 (by simp)
  have m1 := u4.some k1 (by simp)
  have m2 := u4.some k2 (by simp)
  have HLN := Lib.hid (Lengths_calls (a := aS) (most := 5) ⟨_, rfl, HF4.out.1⟩)
  rw [aS_left.1, aS_left.2] at HLN
  clear u4 k0 k1 k2 HL HF3
  go_upto_region 5 with ((with_reducible refine HLN.out.mono ?_); rintro e w5 ⟨v5, rfl, hs5, u5⟩; obtain ⟨a5, c5, rfl, _⟩ := id hs5.elems; have HS5 := Lib.hid hs5; clear hs5)
  have HF5 := Lib.hid (And.intro (HF4.out.1.ext u5) (HF4.out.2.step u5))
  have n0 := u5.some m0 (by simp)
  have n1 := u5.some m1 (by simp)
  have n2 := u5.some m2 (by simp)
  have HCM := Lib.hid (Complement_calls (a := aS) ⟨_, rfl, HF5.out.1⟩)
  rw [aS_v] at HCM
  clear u5 m0 m1 m2 HLN HF4
  go_upto_region 6 with ((with_reducible refine HCM.out.mono ?_); rintro e w6 ⟨v6, rfl, hC, u6⟩; obtain ⟨d1, e1, d2, e2, d3, e3, rfl, hG⟩ := cA_shape hC; have HG := Lib.hid (And.intro hG u6); clear hC hG u6)
  change Code.wp _ _ _ _ (w6.alloc (.cells #[.slice d1 3 e1, .slice d2 2 e2, .slice d3 2 e3] 31))
  have b7 := Blk.new w6 [.slice d1 3 e1, .slice d2 2 e2, .slice d3 2 e3] 31
  have u7 := (Upd.refl [] w6).alloc (.cells #[.slice d1 3 e1, .slice d2 2 e2, .slice d3 2 e3] 31)
  change Blk (w6.alloc (.cells #[.slice d1 3 e1, .slice d2 2 e2, .slice d3 2 e3] 31)) _ _ _ at b7
  generalize (w6.alloc (.cells #[.slice d1 3 e1, .slice d2 2 e2, .slice d3 2 e3] 31)) = w7 at *
  generalize w6.heap.size = db at *
  have HU7 := Lib.hid (HG.out.2.step u7)
  have k0 := b7.cell (i := 0) rfl
  have k1 := b7.cell (i := 1) rfl
  have k2 := b7.cell (i := 2) rfl
  have HL2 := Lib.hid (Least_calls (a := cA) ⟨_, rfl, HG.out.1.ext u7⟩)
  rw [cA_least.1, cA_least.2.1, cA_least.2.2] at HL2
  clear b7 HCM
  go_upto_region 7 with ((with_reducible refine HL2.out.mono ?_); rintro e w8 ⟨rfl, u8⟩; have HU8 := Lib.hid (HU7.out.step u8); have HU9 := Lib.hid (u7.step u8); clear u8)
  have q0 := HU8.out.some n0 (by simp)
  have q1 := HU8.out.some n1 (by simp)
  have q2 := HU8.out.some n2 (by simp)
  have HF8 := Lib.hid (And.intro (HF5.out.1.ext HU8.out) (HF5.out.2.step HU8.out))
  have HS8 := Lib.hid (HS5.out.upd HU8.out (by simp))
  go_upto_region 9 with fail
  obtain ⟨g3, o3, he3, x0⟩ := HF8.out.1.acc (i := 0) (by decide)
  obtain ⟨g3', o3', he3', x1⟩ := HF8.out.1.acc (i := 1) (by decide)
  rw [he3] at he3'
  cases he3'
  cases he3
  obtain ⟨_, _, he5, _, _, hc5⟩ := HS8.out.elems
  cases he5
  obtain ⟨g5, o5, rfl, hc6⟩ := hc5 (by decide)
  have y0 := hc6 0 _ rfl
  have y5 := hc6 5 _ rfl
  have hs1 : SL w8 1 (.slice a1 3 c1) ([0, 97, 98] : List Int).length (ints [0, 97, 98]) := by
    obtain ⟨_, _, _, he, h, _, _⟩ := HF8.out.1
    cases he
    exact h
  have uB := (Upd.refl [] w8).alloc (.cells #[.int .i64 0, .int .i64 97, .int .i64 98] 3)
  have hs2 : SL (w8.alloc (.cells #[.int .i64 0, .int .i64 97, .int .i64 98] 3)) 1 (.slice (some ⟨w8.heap.size, 0, none⟩) 3 3) ([0, 97, 98] : List Int).length (ints [0, 97, 98]) := SL.of_blk (pad := []) (k := 1) (n := 3) (cap := 3) (xs := ints [0, 97, 98]) (Blk.new w8 (ints [0, 97, 98]) 3) rfl (Nat.le_refl _) (by decide)
  have HSI := Lib.hid (SameInts_calls (hs1.upd uB (by simp)) hs2)
  have x0 : w8.cell? ⟨g3, o3, none⟩ = some (.bool true) := x0
  have x1 : w8.cell? ⟨g3, o3 + 1, none⟩ = some (.bool false) := x1
  have y0 : w8.cell? ⟨g5, o5, none⟩ = some (.bool true) := y0
  have y5 : w8.cell? ⟨g5, o5 + 5, none⟩ = some (.bool true) := y5
  have z0 := uB.some x0 (by simp)
  have z1 := uB.some x1 (by simp)
  have z2 := uB.some q2 (by simp)
  have z3 := uB.some y0 (by simp)
  have z4 := uB.some y5 (by simp)
  go_wp2_with ((with_reducible refine HSI.out.mono ?_); rintro e w9 ⟨rfl, u9⟩; have j0 := u9.some z0 (by simp); have j1 := u9.some z1 (by simp); have j2 := u9.some z2 (by simp); have j3 := u9.some z3 (by simp); have j4 := u9.some z4 (by simp))
  go_ret
  exact ⟨by first | rfl | simp [aS], (HF8.out.2.step uB).step u9⟩
end
end Aut
end Go.Proofs.YtjclbjdkkdijbaaGreat
