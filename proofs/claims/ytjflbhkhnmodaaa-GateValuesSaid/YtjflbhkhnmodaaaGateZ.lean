/- Walks through the laws of gates: GateValues. Conditions: none. -/
import Derived.Test.YtjflbhkhnmodaaaGateZc
import Derived.Test.YtjflbhkhnmodaaaGateZd
import Derived.Test.YtjflbhkhnmodaaaGateZe
set_option linter.unusedVariables false
set_option linter.unusedSimpArgs false
set_option linter.unusedSectionVars false
open Go.RowKit
namespace Go.Proofs.Ytjflbhkhnmodaaa
open L
namespace Gate
open Cla R14 R01
attribute [-go_sem] sliced
set_option maxRecDepth 100000 in
set_option maxHeartbeats 16000000 in
theorem GateValues_calls {w : World} (kind more : Int) (hk : IsI64 kind) (hm : IsI64 more) : Calls Try.prog 3 #[.int .i64 kind, .int .i64 more] w fun e w' => e = .returned (.bool true) ∧ Upd [] w w' := (gz w kind more hk hm).2 ((gzb w kind more hk hm).2 (gz26 w kind more hk hm)) (gz44 w kind more hk hm) (gz48 w kind more hk hm)
end Gate
end Go.Proofs.Ytjflbhkhnmodaaa
