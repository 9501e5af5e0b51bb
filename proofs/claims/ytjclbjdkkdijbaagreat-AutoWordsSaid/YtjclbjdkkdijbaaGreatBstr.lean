/- Bytes to a string; a look-up with ok and an insertion in a map with string keys. No program is named. Conditions: none. -/
import Derived.Test.YtjclbjdkkdijbaaGreatLib2
import Derived.Test.YtjclbjdkkdijbaaGreatMapS
import Derived.Laws.BytesArg
set_option linter.unusedVariables false
set_option linter.unusedSimpArgs false
set_option linter.unusedSectionVars false
open Go.RowKit
namespace Go.Proofs.YtjclbjdkkdijbaaGreat
open L
namespace Aut
section
variable {P:Program} {k e:TypeId} {w w':World} {ops:Array Oper} {rest:List Oper} {o:Oper} {a:Act} {Q:Exit→Act→World→Prop}
def bcs (ys:List UInt8):List Value:=ys.map fun b=>.int .u8 b.toNat
theorem wpList_mslook_ok {t:TypeId} (hk:P.underlying k=some .string) (ht:P.underlying t=some (.map k e)) {z:Value} {size bytes:Nat}
 (hinfo:(P.info? e).map (fun i=>(i.zero,i.size,i.bytes))=some (some z,size,bytes)) (m x:Operand) (hop:o.op=Op.lookup t m x true) (hg:o.guard=none)
 (b n:Nat) (f:List UInt8→Option Value) (key:ByteArray) (hm:a.eval m=.map (some b)) (hx:a.eval x=.string key) (h:MS P k w b n f) (hi:key.size≤maxLen)
 (hK:wpList P ops Q rest (a.put o.dst (.tuple #[(f key.data.toList).getD z,.bool (f key.data.toList).isSome])) w):wpList P ops Q (o::rest) a w:=by
 refine wpList_plain hg fun K' hK'=>?_
 have hrun:=MS.look_ok h hk ht hinfo hi
 unfold Oper.wp
 simp [execOp,hop,hm,hx,hrun,Result.andThen]
 exact hK' _ _ hK
theorem strOf_bcs (ys:List UInt8):strOfNums (ys.map fun b=>(b.toNat:Int))=⟨ys.toArray⟩:=by
 unfold strOfNums
 congr 2
 rw [List.map_map]
 conv=>rhs;rw [←List.map_id ys]
 refine List.map_congr_left (fun b _=>?_)
 simp
open Instr in
theorem wpList_bstr {src dst e:TypeId} (hs:P.underlying src=some (.slice e)) (he:P.underlying e=some (.int .u8)) (hd:P.underlying dst=some .string) (x:Operand) (hop:o.op=Op.convert src dst x) (hg:o.guard=none)
 (v:Value) (ys:List UInt8) (hx:a.eval x=v) (h:w.ownsRow 0 e 1 v ys.length (bcs ys)) (hK:wpList P ops Q rest (a.put o.dst (.string ⟨ys.toArray⟩)) w):wpList P ops Q (o::rest) a w:=by
 have hrun:(convert src dst v).run P w=.ok (.string ⟨ys.toArray⟩) w:=by
  rcases h.2 with ⟨rfl,h0⟩|⟨g,cap,cur,rfl,_,hgc,hnc,hcm,hcs,htake⟩
  ·have:ys=[]:=List.eq_nil_of_length_eq_zero h0
   subst this
   exact run_convert_bytes_nil w src e hs he _ _ _ hd
  ·have hcell:=(SL.of_owns h).val
   obtain ⟨a',c',he',_,_,_,hcc⟩:=hcell
   cases he'
   rw [←strOf_bcs]
   refine run_convert_bytes_arg w src e hs he g 0 ys.length cap (ys.map fun b=>(b.toNat:Int)) (by simp) (fun i hi=>?_) _ hd
   rcases hcc with hz|⟨b',off,hb,hcc⟩
   ·omega
   ·cases hb
    refine hcc i _ ?_
    simp [bcs,List.getElem?_eq_getElem hi,List.getD_eq_getElem?_getD]
 refine wpList_plain hg fun K' hK'=>?_
 unfold Oper.wp
 simp [execOp,hop,hx,hrun,Result.andThen]
 exact hK' _ _ hK
end
end Aut
end Go.Proofs.YtjclbjdkkdijbaaGreat
