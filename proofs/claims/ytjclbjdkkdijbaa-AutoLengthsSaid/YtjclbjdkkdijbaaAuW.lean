/- Walks through the law of chapter 05: AutoLengths. Conditions: none. -/
import Derived.Test.YtjclbjdkkdijbaaAuU
import Derived.Test.YtjclbjdkkdijbaaAuT
import Derived.Test.YtjclbjdkkdijbaaAuK
import Derived.Test.YtjclbjdkkdijbaaAuZe
set_option linter.unusedVariables false
set_option linter.unusedSimpArgs false
set_option linter.unusedSectionVars false
open Go.RowKit
namespace Go.Proofs.Ytjclbjdkkdijbaa
open L
namespace Auto
theorem Ok.v {a : Au} (h : Ok a) : vErr a = 0 := by
  have hl : 0 < a.cuts.length := by
    have := h.mem0
    exact List.length_pos_of_mem this
  have hz : a.cuts.getD 0 0 = 0 := by
    have := h.zero
    rw [List.getD_eq_getElem?_getD, List.getElem?_eq_getElem hl] at this ⊢
    simpa using this
  have h1 := h.few
  have h2 := h.some_
  have h3 := h.acc
  unfold vErr
  rw [if_neg (by omega), if_neg (by rw [hz]; omega), if_neg, if_neg]
  · exact fun hn => hn h.rows
  · intro hn
    refine hn fun i hi h1 => ?_
    have hg : ∀ j, (hj : j < a.cuts.length) → a.cuts.getD j 0 = a.cuts[j] := fun j hj => by rw [List.getD_eq_getElem?_getD, List.getElem?_eq_getElem hj]; rfl
    rw [hg (i - 1) (by omega), hg i hi]
    exact ⟨List.pairwise_iff_getElem.1 h.inc (i - 1) i (by omega) hi (by omega), h.top _ (List.getElem_mem hi)⟩
/-- Which numbers of bytes below 6 lead from one of the first k next states to acceptance. -/
def orL (a : Au) (row : List Int) (k : Nat) : List Bool := (List.range 6).map fun n => (row.take k).any fun t => leftN a n t.toNat
theorem orL_zero (a : Au) (row : List Int) : orL a row 0 = List.replicate 6 false := by
  simp [orL, List.range_succ]
theorem orL_len (a : Au) (row : List Int) (k : Nat) : (orL a row k).length = 6 := by simp [orL]
theorem orL_get {a : Au} {row : List Int} {k n : Nat} (hn : n < 6) : (orL a row k).getD n false = (row.take k).any fun t => leftN a n t.toNat := by
  simp [orL, List.getD_eq_getElem?_getD, hn]
theorem orL_succ {a : Au} {row : List Int} {k n : Nat} {t : Int} (hn : n < 6) (hk : row[k]? = some t) : (orL a row (k + 1)).getD n false = ((orL a row k).getD n false || leftN a n t.toNat) := by
  rw [orL_get hn, orL_get hn, List.take_add_one, hk]
  simp [List.any_append]
end Auto
namespace Aut
open Auto R01
attribute [-go_sem] sliced
theorem orL_full (a : Au) (s : Nat) : orL a (a.next.getD s []) (a.next.getD s []).length = (resL a s 7).drop 1 := by
  apply List.ext_getElem
  · simp [orL_len, resL_len]
  · intro n h1 h2
    rw [orL_len] at h1
    have h3 := orL_get (a := a) (row := a.next.getD s []) (k := (a.next.getD s []).length) h1
    rw [List.getD_eq_getElem?_getD, List.getElem?_eq_getElem (by rw [orL_len]; exact h1)] at h3
    simp only [Option.getD_some] at h3
    rw [h3, List.take_length, List.getElem_drop]
    simp only [resL, List.getElem_map, List.getElem_range]
    rw [Nat.add_comm, left_next]
theorem mix_set {A B : List Bool} {n m : Nat} (hA : A.length = m) (hB : B.length = m) (hn : n < m) : (A.take n ++ B.drop n).set n (A.getD n false) = A.take (n + 1) ++ B.drop (n + 1) := by
  rw [List.set_append_right _ _ (by simp; omega), List.length_take, show n - min n A.length = 0 by omega, List.take_add_one, gd_some (d := false) (show n < A.length by omega), List.append_assoc]
  congr 1
  rw [List.drop_eq_getElem_cons (show n < B.length by omega), List.set_cons_zero]
  rfl
theorem left_good {a : Au} (ha : Ok a) {s m : Nat} (hs : s < a.next.length) (hm : m ≤ 64) : leftE a s m = 0 ∧ leftR a s m = resL a s (m + 1) := by
  unfold leftE leftR
  rw [if_neg (by simp [ha.v]), if_neg (by omega), if_neg (by omega), if_neg (by simp [ha.v]), if_neg (by omega), if_neg (by omega)]
  exact ⟨rfl, rfl⟩
theorem byt_strB {w : List Int} (h : ∀ c ∈ w, 0 ≤ c ∧ c ≤ 255) : byt (strB w) = w := by
  unfold byt strB
  simp only [List.toList_toArray, List.map_map]
  conv => rhs; rw [← List.map_id w]
  refine List.map_congr_left fun c hc => ?_
  have := h c hc
  simp only [Function.comp, UInt8.toNat_ofNat', id]
  omega
theorem strB_size (w : List Int) : (strB w).size = w.length := by simp [strB, ByteArray.size]
theorem least_acc {a : Au} (ha : Ok a) : accN a (lstS a) = lstB a := by
  unfold accN lstS lstB
  rw [if_neg (by simp [ha.v]), if_neg (by simp [ha.v]), if_neg (by simp [ha.v])]
  cases h : leastA a with
  | none => exact ((len_law ha 0).2 h).2
  | some w =>
    obtain ⟨h1, h2, _⟩ := least_some ha h
    simp only [Option.isSome_some]
    rw [byt_strB (fun c hc => ⟨ha.nonneg c (h2 c hc), ha.top c (h2 c hc)⟩)]
    exact h1
theorem least_len {a : Au} (ha : Ok a) (n : Nat) : (n < (lstS a).size → leftN a n 0 = false) ∧ (n = (lstS a).size → leftN a n 0 = lstB a) ∧ (lstB a = false → leftN a n 0 = false) := by
  unfold lstS lstB
  rw [if_neg (by simp [ha.v]), if_neg (by simp [ha.v])]
  cases h : leastA a with
  | none =>
    have h1 := ((len_law ha n).2 h).1
    rw [h1]
    simp
  | some w =>
    have h1 := (len_law ha n).1 w h
    simp only [strB_size, Option.isSome_some]
    exact ⟨h1.2.1, h1.2.2, fun h => by simp at h⟩
theorem lstS_size {a : Au} (ha : Ok a) : (lstS a).size ≤ 256 := by
  unfold lstS
  rw [if_neg (by simp [ha.v])]
  cases h : leastA a with
  | none => simp [ByteArray.size]
  | some w =>
    simp only [strB_size]
    unfold leastA at h
    rw [Option.map_eq_some_iff] at h
    obtain ⟨e, he, rfl⟩ := h
    exact bf_wlen a 256 e (List.mem_of_find?_eq_some he)
section
variable {w w' : World} {v : Value}
set_option maxRecDepth 100000 in
set_option maxHeartbeats 16000000 in
theorem AutoLengths_calls {xs : List Int} (h : SL w 1 v xs.length (ints xs)) (hx : ∀ x ∈ xs, IsI64 x) : Calls Try.prog 3 #[v] w fun e w' => e = .returned (.bool true) ∧ Upd [] w w' := by
  have HM := Lib.hid (Made_calls hx h)
  have HOK := Lib.hid (madeA_ok xs)
  have HFW := Lib.hid (madeA_few xs)
  clear h hx
  generalize madeA xs = a at *
  go_enter Try.func3, Try.ntmps3
  go_upto_region 2 with (first | ((with_reducible refine HM.out.mono ?_); rintro e w1 ⟨v1, rfl, hA, u1⟩; have HO := Lib.hid (own_calls hA); have HU1 := Lib.hid u1; clear hA u1) | ((with_reducible refine HO.out.mono ?_); rintro e w2 ⟨v2, rfl, hA, u2⟩; obtain ⟨a1, c1, a2, c2, a3, c3, rfl, hF⟩ := hA.shape; have HF := Lib.hid (And.intro hF (HU1.out.step u2)); clear hA hF u2))
  change Code.wp _ _ _ _ (w2.alloc (.cells #[.slice a1 a.cuts.length c1, .slice a2 a.next.length c2, .slice a3 a.acc.length c3] 26))
  have b3 := Blk.new w2 [.slice a1 a.cuts.length c1, .slice a2 a.next.length c2, .slice a3 a.acc.length c3] 26
  have u3 := (Upd.refl [] w2).alloc (.cells #[.slice a1 a.cuts.length c1, .slice a2 a.next.length c2, .slice a3 a.acc.length c3] 26)
  change Blk (w2.alloc (.cells #[.slice a1 a.cuts.length c1, .slice a2 a.next.length c2, .slice a3 a.acc.length c3] 26)) _ _ _ at b3
  generalize (w2.alloc (.cells #[.slice a1 a.cuts.length c1, .slice a2 a.next.length c2, .slice a3 a.acc.length c3] 26)) = w3 at *
  generalize w2.heap.size = ab at *
  have HF3 := Lib.hid (And.intro (HF.out.1.ext u3) (HF.out.2.step u3))
  have k0 := b3.cell (i := 0) rfl
  have k1 := b3.cell (i := 1) rfl
  have k2 := b3.cell (i := 2) rfl
  have HKK := Lib.hid (And.intro k0 (And.intro k1 k2))
  have HC := Lib.hid (show ∀ w5, Upd [] w3 w5 → AuV w5 a (.agg #[.slice a1 a.cuts.length c1, .slice a2 a.next.length c2, .slice a3 a.acc.length c3]) from fun w5 u5 => ⟨_, rfl, HF3.out.1.ext u5⟩)
  have HL := Lib.hid (Least_calls (HC.out w3 (Upd.refl _ _)))
  rw [HOK.out.v] at HL
  clear b3 u3 HF
  go_upto_region 3 with ((with_reducible refine HL.out.mono ?_); rintro e w4 ⟨rfl, u4⟩)
  have HN := Lib.hid (Lengths_calls (most := 12) (HC.out w4 u4))
  have hg : leftE a 0 12 = 0 ∧ leftR a 0 12 = resL a 0 13 := left_good HOK.out (s := 0) (m := 12) HOK.out.some_ (by omega)
  rw [hg.1, hg.2, resL_len] at HN
  have HLS := Lib.hid (lstS_size HOK.out)
  have HAC := Lib.hid (fun (w5 : World) (u5 : Upd [] w3 w5) => Accepts_calls (HC.out w5 u5) (lstS a) (by have := HLS.out; omega))
  rw [least_acc HOK.out, HOK.out.v] at HAC
  have HXN := Lib.hid (fun n => least_len HOK.out n)
  have hsl := HLS.out
  generalize lstS a = sw at *
  generalize lstB a = b at *
  have HU4 := Lib.hid u4
  have r0 := u4.some k0 (by simp)
  have r1 := u4.some k1 (by simp)
  have r2 := u4.some k2 (by simp)
  clear u4 hg HL HM HU1
  go_upto_region 4 with ((with_reducible refine HN.out.mono ?_); rintro e w5 ⟨v5, rfl, hs5, u5⟩; obtain ⟨a5, c5, rfl, _⟩ := id hs5.elems; have HS5 := Lib.hid hs5; have HU5 := Lib.hid (HU4.out.step u5); have p0 := u5.some r0 (by simp); have p1 := u5.some r1 (by simp); have p2 := u5.some r2 (by simp); have HAC5 := Lib.hid (HAC.out w5 HU5.out); clear hs5 u5)
  go_upto_region 5 with ((with_reducible refine HAC5.out.mono ?_); rintro e w6 ⟨rfl, u6⟩; have HS6 := Lib.hid (HS5.out.upd u6 (by simp)); have HU6 := Lib.hid (HU5.out.step u6); have q0 := u6.some p0 (by simp); have q1 := u6.some p1 (by simp); have q2 := u6.some p2 (by simp); clear u6)
  clear k0 k1 k2 r0 r1 r2 p0 p1 p2 HN HAC HAC5 HS5 HU5 HU4
  have hbb : (b != b) = false := by simp
  obtain ⟨_, _, he5, _, _, hc5⟩ := HS6.out.elems
  cases he5
  obtain ⟨g5, o5, rfl, hc6⟩ := hc5 (by omega)
  have HX6 := Lib.hid (show ∀ n : Nat, n < 13 → w6.cell? ⟨g5, o5 + n, none⟩ = some (.bool (leftN a n 0)) from fun n hn => hc6 n _ (by simp [bools, resL, hn]))
  clear hc5 hc6
  go_wp2_with fail
  go_loopw [11] (fun kv wr => ∃ n : Nat, kv = .int .i64 n ∧ n ≤ 13 ∧ Hid (Upd [] w6 wr)) (fun kv _ => 13 - (intOf kv).toNat)
  case atStart => exact ⟨0, rfl, by omega, Lib.hid (Upd.refl _ _)⟩
  case round =>
    obtain ⟨n, rfl, hn, HI⟩ := hrel
    by_cases hlt : n < 13
    · have hli : (n : Int) < 13 := by omega
      have hx := HI.out.some (HX6.out n hlt) (by simp)
      obtain ⟨x1, x2, x3⟩ := HXN.out n
      generalize leftN a n 0 = xn at *
      rcases Nat.lt_trichotomy n sw.size with hs | hs | hs
      · have hx0 := x1 hs
        subst hx0
        have hs1 : (n : Int) < sw.size := by omega
        have hs2 : ((n : Int) == (sw.size : Int)) = false := by simp; omega
        clear x1 x2 x3
        cases b
        · go_wp2_with fail
          exact ⟨⟨n + 1, by go_num, by omega, HI⟩, by simp [intOf]; omega⟩
        · go_wp2_with fail
          exact ⟨⟨n + 1, by go_num, by omega, HI⟩, by simp [intOf]; omega⟩
      · have hx0 := x2 hs
        subst hx0
        have hs1 : ¬ (n : Int) < sw.size := by omega
        have hs2 : ((n : Int) == (sw.size : Int)) = true := by simp; omega
        clear x1 x2 x3 hs
        cases xn
        · go_wp2_with fail
          exact ⟨⟨n + 1, by go_num, by omega, HI⟩, by simp [intOf]; omega⟩
        · go_wp2_with fail
          exact ⟨⟨n + 1, by go_num, by omega, HI⟩, by simp [intOf]; omega⟩
      · have hs1 : ¬ (n : Int) < sw.size := by omega
        have hs2 : ((n : Int) == (sw.size : Int)) = false := by simp; omega
        clear x1 x2
        cases b
        · have hx0 := x3 rfl
          subst hx0
          clear x3
          go_wp2_with fail
          exact ⟨⟨n + 1, by go_num, by omega, HI⟩, by simp [intOf]; omega⟩
        · clear x3
          go_wp2_with fail
          exact ⟨⟨n + 1, by go_num, by omega, HI⟩, by simp [intOf]; omega⟩
    · have hni13 : ¬ ((n : Int) < 13) := by omega
      have HU7 := Lib.hid (HU6.out.step HI.out)
      go_wp2_with fail
      go_loopw [12] (fun kv wr2 => ∃ s : Nat, kv = .int .i64 s ∧ s ≤ a.next.length ∧ Hid (Upd [] w3 wr2)) (fun kv _ => a.next.length - (intOf kv).toNat)
      case atStart => exact ⟨0, rfl, by omega, Lib.hid HU7.out⟩
      case round =>
        obtain ⟨s, rfl, hs, HJ⟩ := hrel
        have m0 := HJ.out.some HKK.out.1 (by simp)
        have m1 := HJ.out.some HKK.out.2.1 (by simp)
        have m2 := HJ.out.some HKK.out.2.2 (by simp)
        by_cases hsl : s < a.next.length
        · have hsi : (s : Int) < a.next.length := by omega
          have hg6 : leftE a s 6 = 0 ∧ leftR a s 6 = resL a s 7 := left_good HOK.out (s := s) (m := 6) hsl (by omega)
          have HLF := Lib.hid (Left_callsF (st := s) (most := 6) (HC.out wr HJ.out))
          rw [hg6.1, hg6.2, resL_len] at HLF
          obtain ⟨g3, o3, he3, hac⟩ := HF3.out.1.acc (i := s) (by rw [HOK.out.acc]; exact hsl)
          cases he3
          have hsa : (s : Int) < a.acc.length := by have := HOK.out.acc; omega
          clear hg6
          obtain ⟨wo, rfl⟩ : ∃ wo : World, wo = wr := ⟨_, rfl⟩
          go_upto_region 16 with ((with_reducible refine HLF.out.mono ?_); rintro e w8 ⟨v8, rfl, hs8, u8, n8⟩; obtain ⟨a8, c8, rfl, _, _, hc8⟩ := id hs8.elems; have H8 := Lib.hid (And.intro hs8 (And.intro (HJ.out.step u8) n8)); have m0' := u8.some m0 (by simp); have m1' := u8.some m1 (by simp); have m2' := u8.some m2 (by simp); clear hs8 n8 u8)
          obtain ⟨g8, o8, rfl, hc9⟩ := hc8 (by omega)
          have hu0 : w8.cell? ⟨g8, o8, none⟩ = some (.bool (a.acc.getD s false)) := hc9 0 _ rfl
          have ha0 := H8.out.2.1.some hac (by simp)
          clear hc8 hc9 hac m0 m1 m2
          generalize a.acc.getD s false = b0 at *
          have hb0 : (b0 != b0) = false := by simp
          refine wp_region_qx (by kernel_rfl) (by kernel_rfl) ?_
          repeat (go_big_quiet_step ((fail)))
          refine wpQuiet_nil ?_
          intro x
          go_upto_region 18 with fail
          have HX8 := Lib.hid (And.intro (H8.out.1.upd x.upd (by simp)) (H8.out.2.1.step x.upd))
          have HN8 := Lib.hid (fun q hq => Nat.lt_of_lt_of_le (show q < w8.heap.size from (World.block_lt_of_cell? _ _ hu0) |> fun h => by simp only [Value.ownBlock, Option.some.injEq] at hq; subst hq; exact h) x.upd.size : ∀ q, (Value.slice (some ⟨g8, o8, none⟩) 7 c8).ownBlock = some q → q < x.val.heap.size)
          generalize x.val = w9 at *
          go_upto_region 19 with (at_make; refine wpList_mk rfl _ _ _ rfl 4 1 1 _ Try.underlying24 infoBool rfl (by decide) .i64 .i64 6 6 6 rfl rfl rfl rfl (by omega) (by omega) ?_)
          have hrep : (rows 6 fun _ => [Value.bool false]) = bools (orL a (a.next.getD s []) 0) := by rw [rows_one, orL_zero]; simp [bools]
          change Code.wp _ _ _ _ (w9.alloc (.cells (rows 6 fun _ => [Value.bool false]).toArray 4))
          rw [hrep]
          have bN := Blk.new w9 (bools (orL a (a.next.getD s []) 0)) 4
          have uN := (Upd.refl [] w9).alloc (.cells (bools (orL a (a.next.getD s []) 0)).toArray 4)
          generalize (w9.alloc (.cells (bools (orL a (a.next.getD s []) 0)).toArray 4)) = wn at *
          generalize hnb : w9.heap.size = nb at bN HN8 ⊢
          have HNB := Lib.hid (And.intro bN (And.intro uN (Nat.le_of_eq hnb)))
          have HOF := Lib.hid (orL_full a s)
          obtain ⟨g4, o4, ar, cr, he4, hrc, hrow⟩ := HF3.out.1.row hsl
          cases he4
          have HROW := Lib.hid (And.intro (HOK.out.rows _ (gd_memA (d := []) hsl)) (And.intro hrow hrc))
          have hrl : (a.next.getD s []).length ≤ 256 := by rw [HROW.out.1.1]; exact cuts_len HOK.out
          clear bN uN hnb hrep hrow hrc hu0 ha0 m0' m1' m2' hb0
          generalize a.next.getD s [] = row at *
          obtain ⟨w12, rfl⟩ : ∃ w12 : World, w12 = wo := ⟨_, rfl⟩
          go_wp2_with fail
          go_loopw [16] (fun kv wr3 => ∃ k : Nat, kv = .int .i64 k ∧ k ≤ row.length ∧ Hid (Blk wr3 nb (bools (orL a row k)) 4 ∧ Upd [] w9 wr3)) (fun kv _ => row.length - (intOf kv).toNat)
          case atStart => exact ⟨0, rfl, Nat.zero_le _, Lib.hid ⟨HNB.out.1, HNB.out.2.1⟩⟩
          case round =>
            obtain ⟨k, rfl, hk, HK⟩ := hrel
            have HKU := Lib.hid (HX8.out.2.step HK.out.2)
            have m0 := HKU.out.some HKK.out.1 (by simp)
            have m1 := HKU.out.some HKK.out.2.1 (by simp)
            have m2 := HKU.out.some HKK.out.2.2 (by simp)
            have hrc := HKU.out.some HROW.out.2.2 (by simp)
            by_cases hkl : k < row.length
            · have hkli : (k : Int) < row.length := by omega
              have htn := (HROW.out.1.2 _ (gd_memA (d := 0) hkl))
              obtain ⟨ra, rc, he, _, _, hce⟩ := HROW.out.2.1.elems
              cases he
              obtain ⟨g11, o11, rfl, kk⟩ := hce (by omega)
              have hcx := HKU.out.some (kk k _ (by rw [ints_get (gd_some (d := 0) hkl)])) (by simp)
              obtain ⟨tn, htx⟩ : ∃ tn : Nat, row.getD k 0 = tn := ⟨(row.getD k 0).toNat, by omega⟩
              rw [htx] at hcx htn
              have htn' : tn < a.next.length := by omega
              have HOS := Lib.hid (show ∀ n, n < 6 → (orL a row (k + 1)).getD n false = ((orL a row k).getD n false || leftN a n tn) from fun n hn => by
                have := orL_succ (a := a) hn (gd_some (d := 0) hkl)
                rw [htx, Int.toNat_natCast] at this
                exact this)
              have hg5 : leftE a tn 5 = 0 ∧ leftR a tn 5 = resL a tn 6 := left_good HOK.out (s := tn) (m := 5) htn' (by omega)
              have HLG := Lib.hid (fun (w5 : World) (u5 : Upd [] wr w5) => Left_callsF (st := tn) (most := 5) (HC.out w5 (HKU.out.step u5)))
              rw [hg5.1, hg5.2, resL_len] at HLG
              clear hg5 kk hce htx
              go_upto_region 22 with fail
              refine wp_region_ord 15 1 [0, 1, 2, 3, 4, 5, 6, 7, 8, 10, 11, 12, 13, 14] [0, 2, 5, 8] [0, 1, 2, 3, 4, 5, 6, 7, 8, 9, 10, 11, 12, 13, 14] (fun w' => ∃ x : Ext wr, w' = x.val) (by kernel_rfl) (by kernel_rfl) (Ext.of (by iterate 25 (first | exact Upd.refl _ _ | assumption | refine Upd.alloc ?_ _ | refine Upd.drew ?_ | refine Upd.drewN ?_ _ | refine Upd.dl ?_ | refine Upd.step ?_ (Ext.upd _) | refine Upd.nil ?_ | skip))) ?_
              repeat (first | (refine wpOrd_load rfl rfl rfl rfl (fun K hK => ?_); go_big_quiet_step (fail); refine wpQuiet_nil ?_; refine hK _ ?_; clear hK K) | (refine wpOrd_free rfl rfl rfl (fun K hK => ?_); go_big_quiet_step (fail); refine wpQuiet_nil ?_; refine hK _ ?_; clear hK K))
              refine wpOrd_fix rfl rfl (fun K hK => ?_)
              go_wp2_with ((with_reducible refine (HLG.out _ (by iterate 25 (first | exact Upd.refl _ _ | assumption | refine Upd.alloc ?_ _ | refine Upd.drew ?_ | refine Upd.drewN ?_ _ | refine Upd.dl ?_ | refine Upd.step ?_ (Ext.upd _) | refine Upd.nil ?_ | skip))).mono ?_); rintro e w10 ⟨v10, rfl, hs10, u10, n10⟩; obtain ⟨a10, c10, rfl, _, _, hc10⟩ := id hs10.elems)
              obtain ⟨g10, o10, rfl, hc11⟩ := hc10 (by omega)
              have H10 := Lib.hid (And.intro (show Upd [] wr w10 from Upd.step (by iterate 25 (first | exact Upd.refl _ _ | assumption | refine Upd.alloc ?_ _ | refine Upd.drew ?_ | refine Upd.drewN ?_ _ | refine Upd.dl ?_ | refine Upd.step ?_ (Ext.upd _) | refine Upd.nil ?_ | skip)) u10) (And.intro (show wr.heap.size ≤ g10 from Nat.le_trans (Upd.size (show Upd [] wr _ from (by iterate 25 (first | exact Upd.refl _ _ | assumption | refine Upd.alloc ?_ _ | refine Upd.drew ?_ | refine Upd.drewN ?_ _ | refine Upd.dl ?_ | refine Upd.step ?_ (Ext.upd _) | refine Upd.nil ?_ | skip)))) (n10 g10 rfl)) (show ∀ n, n < 6 → w10.cell? ⟨g10, o10 + n, none⟩ = some (.bool (leftN a n tn)) from fun n hn => hc11 n _ (by simp [bools, resL, hn]))))
              clear hs10 u10 n10 hc10 hc11
              refine ⟨fun _ => Ext.of H10.out.1, ?_⟩
              repeat (first | (refine wpOrd_load rfl rfl rfl rfl (fun K hK => ?_); go_big_quiet_step (fail); refine wpQuiet_nil ?_; refine hK _ ?_; clear hK K) | (refine wpOrd_free rfl rfl rfl (fun K hK => ?_); go_big_quiet_step (fail); refine wpQuiet_nil ?_; refine hK _ ?_; clear hK K))
              refine wpOrd_nil ?_
              have HB10 := Lib.hid (HK.out.1.upd H10.out.1 (by simp))
              have hnb10 := HK.out.1.lt
              go_upto_region 25 with fail
              go_wp2_with fail
              go_loopw [19] (fun kv wr4 => ∃ n : Nat, kv = .int .i64 n ∧ n ≤ 6 ∧ Hid (Blk wr4 nb (bools ((orL a row (k + 1)).take n ++ (orL a row k).drop n)) 4 ∧ Upd [nb] w10 wr4)) (fun kv _ => 6 - (intOf kv).toNat)
              case atStart => exact ⟨0, rfl, by omega, Lib.hid ⟨by simpa using HB10.out, Upd.refl _ _⟩⟩
              case round =>
                obtain ⟨n, rfl, hn, HQ⟩ := hrel
                by_cases hn6 : n < 6
                · have hni : (n : Int) < 6 := by omega
                  have hvn := HQ.out.2.some (H10.out.2.2 n hn6) (by have := H10.out.2.1; simp; omega)
                  have hol := orL_len a row k
                  have hol1 := orL_len a row (k + 1)
                  have hcell : ((orL a row (k + 1)).take n ++ (orL a row k).drop n)[n]? = some ((orL a row k).getD n false) := by
                    rw [List.getElem?_append_right (by simp; omega), List.length_take, List.getElem?_drop]
                    rw [show n + (n - min n (orL a row (k + 1)).length) = n by omega]
                    exact gd_some (by omega)
                  have hsn := HQ.out.1.cell (i := n) (bools_get hcell)
                  have hsf : ∀ q, wr.frozen? ⟨nb, q, none⟩ = false := HQ.out.1.free
                  have HST := Lib.hid (show ((orL a row (k + 1)).take n ++ (orL a row k).drop n).set n ((orL a row k).getD n false || leftN a n tn) = (orL a row (k + 1)).take (n + 1) ++ (orL a row k).drop (n + 1) by
                    rw [← HOS.out n hn6]
                    exact mix_set hol1 hol hn6)
                  clear hcell hol hol1
                  generalize leftN a n tn = z at *
                  generalize (orL a row k).getD n false = y at *
                  have HQN := Lib.hid (show Blk (wr.setCell ⟨nb, n, none⟩ (.bool (y || z))) nb (bools ((orL a row (k + 1)).take (n + 1) ++ (orL a row k).drop (n + 1))) 4 ∧ Upd [nb] w10 (wr.setCell ⟨nb, n, none⟩ (.bool (y || z))) by
                    refine ⟨?_, HQ.out.2.set (p := ⟨nb, n, none⟩) (by simp) _⟩
                    have h1 := HQ.out.1.set n (.bool (y || z))
                    rw [← HST.out]
                    simpa [bools, List.map_set] using h1)
                  cases y
                  · go_wp2_with fail
                    exact ⟨⟨n + 1, by go_num, by omega, Lib.hid (by simpa using HQN.out)⟩, by simp [intOf]; omega⟩
                  · go_wp2_with fail
                    exact ⟨⟨n + 1, by go_num, by omega, Lib.hid (by simpa using HQN.out)⟩, by simp [intOf]; omega⟩
                · have hne : n = 6 := by omega
                  subst hne
                  have hol := orL_len a row k
                  have hol1 := orL_len a row (k + 1)
                  have HB6 := HQ.out.1
                  rw [List.take_of_length_le (by omega), List.drop_of_length_le (by omega), List.append_nil] at HB6
                  have HK6 := Lib.hid (And.intro HB6 ((HK.out.2.step H10.out.1).fresh HQ.out.2 (fun b hb => .inr (by simp at hb; subst hb; exact HNB.out.2.2))))
                  clear hol hol1 HB6
                  go_wp2_with fail
                  exact ⟨⟨k + 1, by go_num, by omega, HK6⟩, by simp [intOf]; omega⟩
            · have hke : k = row.length := by omega
              subst hke
              have hni : ¬ ((row.length : Int) < row.length) := by omega
              have h1 := HX8.out.1.upd HK.out.2 (by simp)
              have h2 : SL wr 1 (.slice (some ⟨nb, 0, none⟩) 6 6) 6 (bools (orL a row row.length)) := SL.of_blk (pad := []) (k := 1) (n := 6) (cap := 6) (by simpa using HK.out.1) (by simp [bools, orL_len]) (Nat.le_refl _) (by decide)
              have h3 : SL wr 1 (sliced (some ⟨g8, o8, none⟩) 1 7 c8 1) ((resL a s 7).drop 1).length (bools ((resL a s 7).drop 1)) := by
                have := SL.from_ (i := 1) h1 (by omega)
                simpa [bools, List.map_drop, resL_len] using this
              have HSB := SameBools_calls h3 (show SL wr 1 (.slice (some ⟨nb, 0, none⟩) 6 6) (orL a row row.length).length (bools (orL a row row.length)) by rw [orL_len]; exact h2)
              rw [decide_eq_true HOF.out.symm] at HSB
              have HSB := Lib.hid HSB
              have hc8' : (7 : Int) ≤ c8 := by omega
              have hfw := HFW.out
              have hs6 : s ≤ 5 := by omega
              clear h1 h2 h3
              go_wp2_with ((with_reducible refine HSB.out.mono ?_); rintro e w13 ⟨rfl, u13⟩)
              exact ⟨⟨s + 1, by go_num, by omega, Lib.hid (HKU.out.step u13)⟩, by simp [intOf]; omega⟩
        · have hse : s = a.next.length := by omega
          subst hse
          have hni : ¬ ((a.next.length : Int) < a.next.length) := by omega
          go_wp2_with (go_at_call 11; refine lives_calls.mono ?_; rintro e w14 ⟨rfl, u14⟩)
          go_ret
          exact ⟨rfl, (HF3.out.2.step HJ.out).step u14⟩
end
end Aut
end Go.Proofs.Ytjclbjdkkdijbaa
