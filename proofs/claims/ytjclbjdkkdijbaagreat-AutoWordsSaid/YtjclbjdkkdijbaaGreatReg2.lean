/- A law for regions that draw their order, with one place at which two operations may come up. No program is named. Conditions: none. -/
import Derived.Test.YtjclbjdkkdijbaaGreatReg
set_option linter.unusedVariables false
set_option linter.unusedSimpArgs false
set_option linter.unusedSectionVars false
open Go.RowKit
namespace Go.Proofs.YtjclbjdkkdijbaaGreat
namespace L
section
variable {P:Program} {ops:Array Oper} {Q:Exit→Act→World→Prop} {C:World→Prop}
def after (ord:List Nat) (listed:Array Bool):Array Bool:=ord.foldl (fun l i=>l.setIfInBounds i true) listed
theorem wpAnyS_mono {f:Nat} {C':World→Prop} (hC:∀ w,C' w→C w):∀ (fuel:Nat) (listed:Array Bool) (a:Act) (w:World),wpAnyS P ops Q f C' fuel listed a w→wpAnyS P ops Q f C fuel listed a w
 | 0,_,_,_,h=>h
 | fuel+1,listed,_,_,h=>⟨h.1,fun i hi=>wpOp_mono (fun a' w' h'=>⟨fun h0=>hC _ (h'.1 h0),wpAnyS_mono hC fuel _ a' w' h'.2⟩) (h.2 i hi)⟩
theorem wpAnyS_past {f:Nat} {C':World→Prop}:∀ (fuel:Nat) (listed:Array Bool) (a:Act) (w:World),listed.getD f false=true→wpAnyS P ops Q f C' fuel listed a w→wpAnyS P ops Q f C fuel listed a w
 | 0,_,_,_,_,h=>h
 | fuel+1,listed,_,_,hl,h=>⟨h.1,fun i hi=>wpOp_mono (fun a' w' h'=>⟨fun h0=>(by rw [getD_set_true hl] at h0;cases h0),wpAnyS_past fuel _ a' w' (getD_set_true hl) h'.2⟩) (h.2 i hi)⟩
section
variable {f:Nat} {M R r:List Nat} {b:Bool} {a:Act} {w:World} {i:Nat} {o:Oper} {l:List Oper}
end
section
variable {R r:List Nat} {F:Act→Prop} {a:Act} {i:Nat} {o:Oper} {l:List Oper}
end
end
end L
end Go.Proofs.YtjclbjdkkdijbaaGreat
