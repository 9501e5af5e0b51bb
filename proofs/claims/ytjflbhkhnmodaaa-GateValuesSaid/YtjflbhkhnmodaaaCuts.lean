/- A proof in parts: the statement that is left at a cut is kept as a value, so that a later text can prove it. Conditions: none. -/
import Derived.Test.YtjflbhkhnmodaaaLib
set_option linter.unusedVariables false
set_option linter.unusedSimpArgs false
set_option linter.unusedSectionVars false
open Go.RowKit
namespace Go.Proofs.Ytjflbhkhnmodaaa
namespace L
def cut1 {G : Prop} (A : Prop) (h : RowKit.Hid A → G) : { T : Prop // RowKit.Hid T → G } := ⟨A, h⟩
def cut2 {G : Prop} (A B : Prop) (h : RowKit.Hid A → RowKit.Hid B → G) : { T : Prop × Prop // RowKit.Hid T.1 → RowKit.Hid T.2 → G } := ⟨(A, B), h⟩
def cut3 {G : Prop} (A B C : Prop) (h : RowKit.Hid A → RowKit.Hid B → RowKit.Hid C → G) : { T : Prop × Prop × Prop // RowKit.Hid T.1 → RowKit.Hid T.2.1 → RowKit.Hid T.2.2 → G } := ⟨(A, B, C), h⟩
end L
end Go.Proofs.Ytjflbhkhnmodaaa
