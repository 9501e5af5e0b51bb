/- The contract of the library for searching sorted ints at this program, laid by the kit. Conditions: none. -/
import Derived.Shelf.SlSorted.Search
import Derived.Test.YtjclbjdkkdijbaaGreatProg
namespace Go.Proofs
open Go.Shelf
def Tryz.laysSearch_ren : Go.Shelf.Ren := ⟨fun | 14 => 100 | 22 => 132 | 16 => 131 | n => n, fun | 28 => 22 | 3 => 3 | 0 => 0 | 35 => 110 | 4 => 4 | 38 => 167 | n => n, fun | n => n⟩
theorem Tryz.laysSearch : Go.Proofs.SlLaysO.n14 Tryz.prog Tryz.laysSearch_ren := {
  mixed := by kernel_rfl
  f14 := Tryz.func100.trans (congrArg some (by kernel_rfl))
  f16 := Tryz.func131.trans (congrArg some (by kernel_rfl))
  f22 := Tryz.func132.trans (congrArg some (by kernel_rfl))
  t0 := Tryz.underlying0
  a0 := Tryz.isAgg0
  z0 := Tryz.sizeOf0
  v0 := Tryz.zeroValue0
  t3 := Tryz.underlying3
  a3 := Tryz.isAgg3
  z3 := Tryz.sizeOf3
  v3 := Tryz.zeroValue3
  t4 := Tryz.underlying4
  a4 := Tryz.isAgg4
  z4 := Tryz.sizeOf4
  v4 := Tryz.zeroValue4
  t28 := Tryz.underlying22
  a28 := Tryz.isAgg22
  z28 := Tryz.sizeOf22
  v28 := Tryz.zeroValue22
  t35 := Tryz.underlying110
  a35 := Tryz.isAgg110
  z35 := Tryz.sizeOf110
  v35 := Tryz.zeroValue110
  t38 := Tryz.underlying167
  a38 := Tryz.isAgg167
  z38 := Tryz.sizeOf167
  v38 := Tryz.zeroValue167 }
open Go.RowKit in
theorem Tryz.sort_SearchInts (blk off cap : Nat) (d : Array Int) (x : Int) (w : World) (hc : ∀ i, i < d.size → w.cell? ⟨blk, off + i, none⟩ = some ((Value.int .i64) d[i]!)) (hblk : blk < w.heap.size) (hsz : d.size < 4611686018427387904)
    (hs : ∀ a b, a ≤ b → b < d.size → decide (x ≤ d[a]!) = true → decide (x ≤ d[b]!) = true) :
    Calls Tryz.prog 100 #[.slice (some ⟨blk, off, none⟩) d.size cap, .int .i64 x] w fun e w' => e = .returned (.int .i64 (d.toList.countP (fun y => !decide (x ≤ y)) : Nat)) ∧ Below w.heap.size w w' := Any.sort_SearchInts Tryz.laysSearch blk off cap d x w hc hblk hsz hs
end Go.Proofs
