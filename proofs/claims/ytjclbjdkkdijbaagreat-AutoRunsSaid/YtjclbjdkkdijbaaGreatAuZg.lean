/- Walks through the reference of expressions: Word. Conditions: none. -/
import Derived.Test.YtjclbjdkkdijbaaGreatAuM
import Derived.Test.YtjclbjdkkdijbaaGreatAuZa
import Derived.Test.YtjclbjdkkdijbaaGreatBstr
import Derived.Test.YtjclbjdkkdijbaaGreatSame
set_option linter.unusedVariables false
set_option linter.unusedSimpArgs false
set_option linter.unusedSectionVars false
section
open Go.RowKit
namespace Go.Proofs.YtjclbjdkkdijbaaGreat
open L
namespace Aut
open R01
attribute [-go_sem] sliced
theorem infoByteW : (Tryz.prog.info? 5).map (fun i => (i.zero, i.size, i.bytes)) = some (some (.int .u8 0), 1, 1) := by kernel_rfl
section
variable {w w' : World}
set_option maxRecDepth 100000 in
set_option maxHeartbeats 4000000 in
theorem Word_calls (n : Int) (hn : IsI64 n) : Calls Tryz.prog 29 #[.int .i64 n] w fun e w' => ∃ s : ByteArray, e = .returned (.string s) ∧ s.size ≤ 6 ∧ Upd [] w w' := by
  have HA := Lib.hid (Around_calls n 16777216 w hn (by omega) (by omega))
  have h0 := around_lo (n := n) (k := 16777216) (by omega)
  have h1 := around_hi (n := n) (k := 16777216) (by omega)
  generalize around n 16777216 = a at *
  go_enter Tryz.func29, Tryz.ntmps29
  have hm0 : 0 ≤ a % 6 := Int.emod_nonneg _ (by omega)
  have hm1 : a % 6 < 6 := Int.emod_lt_of_pos _ (by omega)
  go_upto_region 2 with ((with_reducible refine HA.out.mono ?_); rintro e _ ⟨rfl, rfl⟩)
  go_upto_region 5 with fail
  have hd0 : 0 ≤ a / 6 := by omega
  have hd1 : a / 6 ≤ 16777216 := by omega
  generalize a % 6 = m at *
  generalize a / 6 = d0 at *
  clear h0 h1 HA
  go_wp2_with fail
  go_loopw [3, 4, 6] (fun s3 s4 s6 wr => ∃ (i : Nat) (d : Int) (ys : List UInt8), s3 = .int .i64 d ∧ s6 = .int .i64 i ∧ i ≤ 6 ∧ (i : Int) ≤ m ∧ 0 ≤ d ∧ d ≤ 16777216 ∧ Hid (ys.length = i ∧ OwW 5 1 i w (.slice none 0 0) s4 (bcs ys) wr)) (fun _ _ s6 _ => 6 - (intOf s6).toNat)
  case atStart => exact ⟨0, d0, [], rfl, rfl, by omega, by omega, hd0, hd1, Lib.hid ⟨rfl, OwW.nil _ _ _⟩⟩
  case round =>
    obtain ⟨i, d, ys, rfl, rfl, hi, him, hda, hdb, HI⟩ := hrel
    by_cases hlt : (i : Int) < m
    · have hr0 : 0 ≤ d % 8 := Int.emod_nonneg _ (by omega)
      have hr1 : d % 8 < 8 := Int.emod_lt_of_pos _ (by omega)
      have hB : Blk (wr.alloc (.cells #[.int .u8 97, .int .u8 98, .int .u8 97, .int .u8 98, .int .u8 99, .int .u8 0, .int .u8 39, .int .u8 255] 5)) wr.heap.size (bcs [97, 98, 97, 98, 99, 0, 39, 255]) 5 := Blk.new wr (bcs [97, 98, 97, 98, 99, 0, 39, 255]) 5
      have uB := (Upd.refl [] wr).alloc (.cells #[.int .u8 97, .int .u8 98, .int .u8 97, .int .u8 98, .int .u8 99, .int .u8 0, .int .u8 39, .int .u8 255] 5)
      obtain ⟨y, hy⟩ : ∃ y : UInt8, ([97, 98, 97, 98, 99, 0, 39, 255] : List UInt8)[(d % 8).toNat]? = some y := ⟨_, List.getElem?_eq_getElem (by simp; omega)⟩
      have hc := hB.cell (i := (d % 8).toNat) (v := .int .u8 y.toNat) (by unfold bcs; rw [List.getElem?_map, hy]; rfl)
      have HO := Lib.hid (HI.out.2.quiet uB)
      have hi5 : i ≤ 5 := by omega
      have hi5' : (i : Int) < 6 := by omega
      clear hB uB hy
      go_wp2_with (refine wpList_push rfl rfl _ _ _ _ rfl rfl rfl 5 1 1 _ Tryz.underlying92 infoByteW rfl (by decide) (by decide) (.int .u8 (y.toNat : Int)) [.int .u8 (y.toNat : Int)] rfl rfl rfl (by simp [Value.oneCell']) u4 _ _ HO.out.row rfl rfl (by unfold maxLen; omega) (by omega) ?_; intro g7 c7 w7 o7 u7 k7; have HP := Lib.hid (HO.out.push o7 u7 k7); clear o7 u7 k7)
      exact ⟨⟨i + 1, d / 8, ys ++ [y], by go_num, by go_num, by omega, by omega, by omega, by omega, Lib.hid ⟨by simp [HI.out.1], by simpa [bcs] using HP.out⟩⟩, by simp [intOf]; omega⟩
    · have HR := Lib.hid (show wr.ownsRow 0 5 1 u4 ys.length (bcs ys) by rw [HI.out.1]; exact HI.out.2.row)
      go_wp2_with (refine wpList_bstr Tryz.underlying92 Tryz.underlying5 Tryz.underlying9 _ rfl rfl u4 ys rfl HR.out ?_)
      go_ret
      refine ⟨_, rfl, ?_, HI.out.2.fresh⟩
      have := HI.out.1
      simp [ByteArray.size]
      omega
end
end Aut
end Go.Proofs.YtjclbjdkkdijbaaGreat
end
