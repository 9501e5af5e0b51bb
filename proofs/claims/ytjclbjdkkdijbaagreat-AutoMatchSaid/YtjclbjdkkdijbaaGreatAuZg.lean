/- Walks through package auto: slices.Concat at ints. Conditions: none. Walks through the reference of expressions: Word. Conditions: none. -/
import Derived.Test.YtjclbjdkkdijbaaGreatAuM
import Derived.Test.YtjclbjdkkdijbaaGreatLists
import Derived.Test.YtjclbjdkkdijbaaGreatGrowI
import Derived.Test.YtjclbjdkkdijbaaGreatAuZa
import Derived.Test.YtjclbjdkkdijbaaGreatBstr
import Derived.Test.YtjclbjdkkdijbaaGreatSame
set_option linter.unusedVariables false
set_option linter.unusedSimpArgs false
set_option linter.unusedSectionVars false
section
open Go.RowKit
namespace Go.Proofs.YtjclbjdkkdijbaaGreat
open L
namespace Aut
attribute [-go_sem] sliced
section
variable {w w0 w' : World} {v : Value}
theorem OwW.back {w00 w0 w : World} {e : TypeId} {k n : Nat} {v : Value} {cs : List Value} (h : OwW e k n w0 (.slice none 0 0) v cs w) (hu : Upd [] w00 w0) : OwW e k n w00 (.slice none 0 0) v cs w := by
  refine ⟨h.row, by simpa [Value.ownBlock] using hu.step h.fresh, fun g hg => ?_⟩
  rcases h.old g hg with h1 | h1
  · exact .inl h1
  · have := hu.size; exact .inr (by omega)
set_option maxRecDepth 100000 in
theorem Grow_calls {n : Nat} (h0 : 0 < n) (hn : n ≤ 1000000) : Calls Tryz.prog 99 #[.slice none 0 0, .int .i64 n] w fun e w' => ∃ v', e = .returned v' ∧ OwW 3 1 0 w (.slice none 0 0) v' [] w' := by
  obtain ⟨i0, hi0, hz0, hs0, hb0⟩ := info_of infoInt
  refine (Tryz.slices_Grow_int i0 _ hi0 hz0 (by omega) none 0 0 n [] w (Nat.le_refl _) (by omega) (by rw [hb0]; omega) (by omega) (by simp) (fun _ => rfl) (fun a h => by cases h)).mono ?_
  rintro e w' ⟨rfl, rfl⟩
  have hG := grownCap_ge w (0 + n) 0 3
  have hM := grownCap_le_maxLen w (0 + n) 0 3 (by unfold maxLen; omega)
  generalize grownCap w (0 + n) 0 3 = G at *
  have hsz : (([] : List Value).toArray ++ Builtin.zeroCells (Value.int IntKind.i64 0).cells (0 + n - 0) ++ Builtin.zeroCells (Value.int IntKind.i64 0).cells (G - (0 + n))).size = G := by
    simp [Value.cells, Builtin.zeroCells]
    omega
  generalize (([] : List Value).toArray ++ Builtin.zeroCells (Value.int IntKind.i64 0).cells (0 + n - 0) ++ Builtin.zeroCells (Value.int IntKind.i64 0).cells (G - (0 + n))) = arr at *
  refine ⟨_, rfl, ⟨⟨rfl, .inr ⟨w.heap.size, G, arr, rfl, Nat.zero_le _, ?_, Nat.zero_le _, hM, by omega, rfl⟩⟩, ?_, fun g hg => ?_⟩⟩
  · have := Blk.new w.drew arr.toList 3
    unfold Blk at this
    rw [Array.toArray_toList] at this
    exact this
  · exact ((Upd.refl [] w).drew).alloc _
  · simp only [Value.ownBlock, Option.some.injEq] at hg
    exact .inr (by omega)
/-- How many elements the first i lists have. -/
def totL (L : List (List Int)) (i : Nat) : Nat := (L.take i).flatten.length
theorem flat_take (L : List (List Int)) {i : Nat} (h : i < L.length) : (L.take (i + 1)).flatten = (L.take i).flatten ++ L.getD i [] := by
  rw [List.take_add_one, gd_some (d := []) h]
  simp
theorem flat_le (L : List (List Int)) (i : Nat) : totL L i ≤ L.flatten.length := by
  unfold totL
  have h := List.take_append_drop i L
  have : L.flatten = (L.take i).flatten ++ (L.drop i).flatten := by rw [← List.flatten_append, h]
  rw [this, List.length_append]
  omega
set_option maxRecDepth 100000 in
set_option maxHeartbeats 4000000 in
theorem Concat_calls {L : List (List Int)} {n : Nat} (h : CL w v L) (hl : L.length ≤ 1000) (hn : L.flatten.length = n) (hs : n ≤ 1000000) (h0 : 0 < n) :
    Calls Tryz.prog 73 #[v] w fun e w' => ∃ v', e = .returned v' ∧ OwW 3 1 n w (.slice none 0 0) v' (ints L.flatten) w' := by
  have HN := Lib.hid hn
  have HTI := Lib.hid (fun i => show totL L i ≤ n from hn ▸ flat_le L i)
  clear hn
  obtain ⟨a, cap, rfl, q1, r1, hc⟩ := h.form
  have HC := Lib.hid hc
  have HG := Lib.hid (fun w5 : World => Grow_calls (w := w5) h0 hs)
  clear hc h
  go_enter Tryz.func73, Tryz.ntmps73
  go_wp2_with fail
  go_loopw [3, 11] (fun s3 s11 wr => ∃ i : Nat, s3 = .int .i64 (totL L i : Nat) ∧ s11 = .int .i64 i ∧ i ≤ L.length ∧ Hid (Upd [] w wr)) (fun _ s11 _ => L.length - (intOf s11).toNat)
  case atStart => exact ⟨0, rfl, rfl, Nat.zero_le _, Lib.hid (Upd.refl _ _)⟩
  case round =>
    obtain ⟨i, rfl, rfl, hi, HI⟩ := hrel
    have hfl := HTI.out i
    by_cases hlt : i < L.length
    · have hli : (i : Int) < L.length := by omega
      obtain ⟨g, off, ar, cr, rfl, hcell, hsl, _⟩ := HC.out i hlt
      have hcell' := HI.out.some hcell (by simp)
      have hft := flat_take L hlt
      have hf2 := HTI.out (i + 1)
      have HFT := Lib.hid (show totL L (i + 1) = totL L i + (L.getD i []).length by unfold totL; rw [hft, List.length_append])
      rw [HFT.out] at hf2
      clear hft hcell hsl
      generalize totL L i = s at *
      generalize (L.getD i []).length = m at *
      have hnn : ¬ ((s : Int) + m < 0) := by omega
      go_wp2_with fail
      exact ⟨⟨i + 1, by rw [HFT.out]; go_num, by go_num, by omega, HI⟩, by simp [intOf]; omega⟩
    · have hie : i = L.length := by omega
      have HLL := Lib.hid (show totL L i = n by unfold totL; rw [List.take_of_length_le (by omega)]; exact HN.out)
      have hni : ¬ ((i : Int) < L.length) := by omega
      clear hie hlt
      rw [HLL.out]
      obtain ⟨wo, rfl⟩ : ∃ wo : World, wo = wr := ⟨_, rfl⟩
      have hnz : ¬ ((n : Int) < 0) := by omega
      clear hfl
      go_wp2_with ((with_reducible refine (HG.out _).mono ?_); rintro e w5 ⟨v5, rfl, o5⟩)
      have HO := Lib.hid o5
      go_loopw [6, 27] (fun s6 s27 wr2 => ∃ i : Nat, s27 = .int .i64 i ∧ i ≤ L.length ∧ Hid (OwW 3 1 (totL L i) wo (.slice none 0 0) s6 (ints (L.take i).flatten) wr2)) (fun _ s27 _ => L.length - (intOf s27).toNat)
      case atStart => exact ⟨0, rfl, Nat.zero_le _, Lib.hid HO.out⟩
      case round =>
        obtain ⟨j, rfl, hj, HJ⟩ := hrel
        by_cases hlj' : j < L.length
        · have hlj : (j : Int) < L.length := by omega
          obtain ⟨g, off, ar, cr, rfl, hcell, hsl, _⟩ := HC.out j hlj'
          have hu := HI.out.step HJ.out.fresh
          have hcell' := hu.some hcell (by simp)
          have HSL := Lib.hid (hsl.upd hu (by simp))
          have hft := flat_take L hlj'
          have hf2 := HTI.out (j + 1)
          have HFT := Lib.hid (And.intro (show totL L (j + 1) = totL L j + (L.getD j []).length by unfold totL; rw [hft, List.length_append]) (show ints (L.take (j + 1)).flatten = ints (L.take j).flatten ++ ints (L.getD j []) by rw [hft]; simp [ints]))
          rw [HFT.out.1] at hf2
          have HB := Lib.hid (show totL L j + (L.getD j []).length ≤ 1000000 by have := HN.out; omega)
          clear hft hcell hsl hf2
          generalize L.getD j [] = row at *
          go_wp2_with (refine wpList_appS rfl _ _ _ rfl 3 1 8 _ Tryz.underlying22 infoInt rfl (by decide) u6 _ _ rfl HJ.out.row _ _ _ rfl HSL.out (fun u hu => by obtain ⟨x, _, rfl⟩ := List.mem_map.1 hu; rfl) (by have := HB.out; unfold maxLen; omega) (by have := HB.out; omega) ?_; intro a3 c3 w3 o3 u3 k3)
          have hO := HJ.out.step u3 o3 (fun g hg => by
            rcases k3 with k3 | k3
            · left; rw [← k3]; exact hg
            · rw [hg] at k3; simp only [Option.some.injEq] at k3; right; omega)
          refine ⟨⟨j + 1, by go_num, by omega, Lib.hid (by rw [HFT.out.1, HFT.out.2]; exact hO)⟩, by simp [intOf]; omega⟩
        · have hje : j = L.length := by omega
          have hnj : ¬ ((j : Int) < L.length) := by omega
          have HE := Lib.hid (show (L.take j).flatten = L.flatten ∧ totL L j = n by unfold totL; rw [List.take_of_length_le (by omega)]; exact ⟨rfl, HN.out⟩)
          clear hje hlj'
          go_wp2_with fail
          have hJ := HJ.out
          rw [HE.out.1, HE.out.2] at hJ
          go_ret
          exact ⟨_, rfl, hJ.back HI.out⟩
end
end Aut
end Go.Proofs.YtjclbjdkkdijbaaGreat
end
section
open Go.RowKit
namespace Go.Proofs.YtjclbjdkkdijbaaGreat
open L
namespace Aut
open R01
attribute [-go_sem] sliced
theorem infoByteW : (Tryz.prog.info? 5).map (fun i => (i.zero, i.size, i.bytes)) = some (some (.int .u8 0), 1, 1) := by kernel_rfl
section
variable {w w' : World}
set_option maxRecDepth 100000 in
set_option maxHeartbeats 4000000 in
theorem Word_calls (n : Int) (hn : IsI64 n) : Calls Tryz.prog 29 #[.int .i64 n] w fun e w' => ∃ s : ByteArray, e = .returned (.string s) ∧ s.size ≤ 6 ∧ Upd [] w w' := by
  have HA := Lib.hid (Around_calls n 16777216 w hn (by omega) (by omega))
  have h0 := around_lo (n := n) (k := 16777216) (by omega)
  have h1 := around_hi (n := n) (k := 16777216) (by omega)
  generalize around n 16777216 = a at *
  go_enter Tryz.func29, Tryz.ntmps29
  have hm0 : 0 ≤ a % 6 := Int.emod_nonneg _ (by omega)
  have hm1 : a % 6 < 6 := Int.emod_lt_of_pos _ (by omega)
  go_upto_region 2 with ((with_reducible refine HA.out.mono ?_); rintro e _ ⟨rfl, rfl⟩)
  go_upto_region 5 with fail
  have hd0 : 0 ≤ a / 6 := by omega
  have hd1 : a / 6 ≤ 16777216 := by omega
  generalize a % 6 = m at *
  generalize a / 6 = d0 at *
  clear h0 h1 HA
  go_wp2_with fail
  go_loopw [3, 4, 6] (fun s3 s4 s6 wr => ∃ (i : Nat) (d : Int) (ys : List UInt8), s3 = .int .i64 d ∧ s6 = .int .i64 i ∧ i ≤ 6 ∧ (i : Int) ≤ m ∧ 0 ≤ d ∧ d ≤ 16777216 ∧ Hid (ys.length = i ∧ OwW 5 1 i w (.slice none 0 0) s4 (bcs ys) wr)) (fun _ _ s6 _ => 6 - (intOf s6).toNat)
  case atStart => exact ⟨0, d0, [], rfl, rfl, by omega, by omega, hd0, hd1, Lib.hid ⟨rfl, OwW.nil _ _ _⟩⟩
  case round =>
    obtain ⟨i, d, ys, rfl, rfl, hi, him, hda, hdb, HI⟩ := hrel
    by_cases hlt : (i : Int) < m
    · have hr0 : 0 ≤ d % 8 := Int.emod_nonneg _ (by omega)
      have hr1 : d % 8 < 8 := Int.emod_lt_of_pos _ (by omega)
      have hB : Blk (wr.alloc (.cells #[.int .u8 97, .int .u8 98, .int .u8 97, .int .u8 98, .int .u8 99, .int .u8 0, .int .u8 39, .int .u8 255] 5)) wr.heap.size (bcs [97, 98, 97, 98, 99, 0, 39, 255]) 5 := Blk.new wr (bcs [97, 98, 97, 98, 99, 0, 39, 255]) 5
      have uB := (Upd.refl [] wr).alloc (.cells #[.int .u8 97, .int .u8 98, .int .u8 97, .int .u8 98, .int .u8 99, .int .u8 0, .int .u8 39, .int .u8 255] 5)
      obtain ⟨y, hy⟩ : ∃ y : UInt8, ([97, 98, 97, 98, 99, 0, 39, 255] : List UInt8)[(d % 8).toNat]? = some y := ⟨_, List.getElem?_eq_getElem (by simp; omega)⟩
      have hc := hB.cell (i := (d % 8).toNat) (v := .int .u8 y.toNat) (by unfold bcs; rw [List.getElem?_map, hy]; rfl)
      have HO := Lib.hid (HI.out.2.quiet uB)
      have hi5 : i ≤ 5 := by omega
      have hi5' : (i : Int) < 6 := by omega
      clear hB uB hy
      go_wp2_with (refine wpList_push rfl rfl _ _ _ _ rfl rfl rfl 5 1 1 _ Tryz.underlying92 infoByteW rfl (by decide) (by decide) (.int .u8 (y.toNat : Int)) [.int .u8 (y.toNat : Int)] rfl rfl rfl (by simp [Value.oneCell']) u4 _ _ HO.out.row rfl rfl (by unfold maxLen; omega) (by omega) ?_; intro g7 c7 w7 o7 u7 k7; have HP := Lib.hid (HO.out.push o7 u7 k7); clear o7 u7 k7)
      exact ⟨⟨i + 1, d / 8, ys ++ [y], by go_num, by go_num, by omega, by omega, by omega, by omega, Lib.hid ⟨by simp [HI.out.1], by simpa [bcs] using HP.out⟩⟩, by simp [intOf]; omega⟩
    · have HR := Lib.hid (show wr.ownsRow 0 5 1 u4 ys.length (bcs ys) by rw [HI.out.1]; exact HI.out.2.row)
      go_wp2_with (refine wpList_bstr Tryz.underlying92 Tryz.underlying5 Tryz.underlying9 _ rfl rfl u4 ys rfl HR.out ?_)
      go_ret
      refine ⟨_, rfl, ?_, HI.out.2.fresh⟩
      have := HI.out.1
      simp [ByteArray.size]
      omega
end
end Aut
end Go.Proofs.YtjclbjdkkdijbaaGreat
end
