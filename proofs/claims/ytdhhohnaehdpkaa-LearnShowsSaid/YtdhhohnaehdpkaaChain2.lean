/- Walks through package clause: Chain, Subsumes, with maps. Conditions: none. -/
import Derived.Test.YtdhhohnaehdpkaaChain
set_option linter.unusedVariables false
set_option linter.unusedSimpArgs false
set_option linter.unusedSectionVars false
open Go.RowKit
namespace Go.Proofs.Ytdhhohnaehdpkaa
open L
namespace Cla
open R01 R14
/-- A map of this program's type. -/
def MBt (w : World) (b n : Nat) (f : Int → Bool) : Prop := MB Try.prog 3 4 w b n f
section
variable {w w' : World} {b n : Nat} {f : Int → Bool}
theorem MBt.look (h : MBt w b n f) {key : Int} (hi : IsI64 key) : (Instr.lookup 72 (.map (some b)) (.int .i64 key) false).run Try.prog w = .ok (.bool (f key)) w :=
  MB.look h Try.underlying3 Try.underlying72 Try.underlying4 infoBool hi
theorem MBt.upd {S : List Nat} (h : MBt w b n f) (hu : Upd S w w') (hb : b ∉ S) : MBt w' b n f := MB.upd h hu hb
theorem MBt.new (w : World) : MBt (w.alloc (.map #[] 0)) w.heap.size 0 (fun _ => false) := MB.new w _ _ _
end
section
variable {w : World}
end
end Cla
end Go.Proofs.Ytdhhohnaehdpkaa
