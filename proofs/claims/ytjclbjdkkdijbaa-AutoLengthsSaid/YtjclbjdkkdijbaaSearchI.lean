/- The contract of the library for searching sorted ints at this program, laid by the kit. Conditions: none. -/
import Derived.Shelf.SlSorted.Search
import Derived.Test.YtjclbjdkkdijbaaProg
namespace Go.Proofs
open Go.Shelf
def Try.laysSearch_ren : Go.Shelf.Ren := ⟨fun | 14 => 35 | 22 => 45 | 16 => 44 | n => n, fun | 28 => 22 | 3 => 3 | 0 => 0 | 35 => 51 | 4 => 4 | 38 => 93 | n => n, fun | n => n⟩
theorem Try.laysSearch : Go.Proofs.SlLaysO.n14 Try.prog Try.laysSearch_ren := {
  mixed := by kernel_rfl
  f14 := Try.func35.trans (congrArg some (by kernel_rfl))
  f16 := Try.func44.trans (congrArg some (by kernel_rfl))
  f22 := Try.func45.trans (congrArg some (by kernel_rfl))
  t0 := Try.underlying0
  a0 := Try.isAgg0
  z0 := Try.sizeOf0
  v0 := Try.zeroValue0
  t3 := Try.underlying3
  a3 := Try.isAgg3
  z3 := Try.sizeOf3
  v3 := Try.zeroValue3
  t4 := Try.underlying4
  a4 := Try.isAgg4
  z4 := Try.sizeOf4
  v4 := Try.zeroValue4
  t28 := Try.underlying22
  a28 := Try.isAgg22
  z28 := Try.sizeOf22
  v28 := Try.zeroValue22
  t35 := Try.underlying51
  a35 := Try.isAgg51
  z35 := Try.sizeOf51
  v35 := Try.zeroValue51
  t38 := Try.underlying93
  a38 := Try.isAgg93
  z38 := Try.sizeOf93
  v38 := Try.zeroValue93 }
open Go.RowKit in
theorem Try.sort_SearchInts (blk off cap : Nat) (d : Array Int) (x : Int) (w : World) (hc : ∀ i, i < d.size → w.cell? ⟨blk, off + i, none⟩ = some ((Value.int .i64) d[i]!)) (hblk : blk < w.heap.size) (hsz : d.size < 4611686018427387904)
    (hs : ∀ a b, a ≤ b → b < d.size → decide (x ≤ d[a]!) = true → decide (x ≤ d[b]!) = true) :
    Calls Try.prog 35 #[.slice (some ⟨blk, off, none⟩) d.size cap, .int .i64 x] w fun e w' => e = .returned (.int .i64 (d.toList.countP (fun y => !decide (x ≤ y)) : Nat)) ∧ Below w.heap.size w w' := Any.sort_SearchInts Try.laysSearch blk off cap d x w hc hblk hsz hs
end Go.Proofs
