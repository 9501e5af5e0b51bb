/- A map from string to whatever values as a function on lists of bytes: make, look-up, store, its keys. No program is named. Conditions: none. -/
import Derived.Test.YtjclbjdkkdijbaaGreatReg2
import Derived.Maps.OwnSet
import Derived.Sort.KeysCollected
import Derived.StringKeys
set_option linter.unusedVariables false
set_option linter.unusedSimpArgs false
set_option linter.unusedSectionVars false
open Go.RowKit
namespace Go.Proofs.YtjclbjdkkdijbaaGreat
namespace L
open Go.Maps
def heldS (v:Value):Option (DataW Value × List MemPlace):=some (.held v,[])
theorem zeroS_of {P:Program} {e:TypeId} {z:Value} {size bytes:Nat} (hinfo:(P.info? e).map (fun i=>(i.zero,i.size,i.bytes))=some (some z,size,bytes)) (w:World):(zeroValue e).run P w=.ok z w:=by
 obtain ⟨i,hi,hz,hs,hb⟩:=info_of hinfo
 have hp:Sem.run P (Sem.program Sem.pure) w=.ok P w:=rfl
 simp [zeroValue,typeInfo,program,go_sem,hi,hz,hp]
structure MSD (D:DataW Value) (f:List UInt8→Option Value):Prop where
 no:∀ x,f x=none→has D (.string x)=false
 yes:∀ x v,f x=some v→∀ z,D.atKey (.string x) z=.held v
theorem MSD.has {D:DataW Value} {f:List UInt8→Option Value} (h:MSD D f) (x:List UInt8):Maps.has D (.string x)=(f x).isSome:=by
 cases hf:f x with
 | none=>rw [h.no x hf];rfl
 | some v=>rw [has_true_of_atKey (h.yes x v hf)];rfl
def MS (P:Program) (k:TypeId) (w:World) (b n:Nat) (f:List UInt8→Option Value):Prop:=
 ∃ D:DataW Value,w.ownsMap P k heldS b n D∧MSD D f
section
variable {P:Program} {k e:TypeId} {w w':World} {b n:Nat} {f:List UInt8→Option Value}
theorem MS.lt (h:MS P k w b n f):b<w.heap.size:=by
 obtain ⟨D,h1,_⟩:=h
 exact h1.lt
theorem MS.new (w:World) (P:Program) (k:TypeId):MS P k (w.alloc (.map #[] 0)) w.heap.size 0 (fun _=>none):=
 ⟨.map [],World.ownsMap_made w P k _,⟨fun _ _=>rfl,fun _ _ h=>by simp at h⟩⟩
theorem MS.upd {S:List Nat} (h:MS P k w b n f) (hu:Upd S w w') (hb:b ∉ S):MS P k w' b n f:=by
 obtain ⟨D,⟨es,clock,h1,h2⟩,h3⟩:=h
 exact ⟨D,⟨es,clock,by rw [hu.block b (Array.getElem?_eq_some_iff.1 h1).1 hb];exact h1,h2⟩,h3⟩
theorem MS.mono {n':Nat} (h:MS P k w b n f) (hn:n≤n'):MS P k w b n' f:=by
 obtain ⟨D,h1,h2⟩:=h
 exact ⟨D,h1.mono hn,h2⟩
theorem MS.congr {f':List UInt8→Option Value} (h:MS P k w b n f) (he:∀ x,f x=f' x):MS P k w b n f':=by
 obtain rfl:f=f':=funext he
 exact h
theorem MS.look {t:TypeId} (h:MS P k w b n f) (hk:P.underlying k=some .string) (ht:P.underlying t=some (.map k e)) {z:Value} {size bytes:Nat}
 (hinfo:(P.info? e).map (fun i=>(i.zero,i.size,i.bytes))=some (some z,size,bytes)) {key:ByteArray} (hi:key.size≤maxLen) :
 (Instr.lookup t (.map (some b)) (.string key) false).run P w=.ok ((f key.data.toList).getD z) w:=by
 obtain ⟨D,h1,h2⟩:=h
 obtain ⟨v,ps,hrun,hv⟩:=h1.lookup (string_keyed hk) ht (zeroS_of hinfo w) (show heldS z=some (.held z,[]) from rfl) (WideMaps.keyOf_string_mk hk hi)
 rw [hrun]
 unfold heldS at hv
 simp only [Option.some.injEq,Prod.mk.injEq] at hv
 cases hf:f key.data.toList with
 | none=>
  have h3:=atKey_of_not_has (h2.no _ hf) (.held z)
  rw [h3] at hv
  have h4:v=z:=by simpa using hv.1
  rw [h4];rfl
 | some u=>
  rw [h2.yes _ u hf] at hv
  have h4:v=u:=by simpa using hv.1
  rw [h4];rfl
theorem MS.look_ok {t:TypeId} (h:MS P k w b n f) (hk:P.underlying k=some .string) (ht:P.underlying t=some (.map k e)) {z:Value} {size bytes:Nat}
 (hinfo:(P.info? e).map (fun i=>(i.zero,i.size,i.bytes))=some (some z,size,bytes)) {key:ByteArray} (hi:key.size≤maxLen) :
 (Instr.lookup t (.map (some b)) (.string key) true).run P w=.ok (.tuple #[(f key.data.toList).getD z,.bool (f key.data.toList).isSome]) w:=by
 obtain ⟨D,h1,h2⟩:=h
 obtain ⟨v,ps,hrun,hv⟩:=h1.look_ok (string_keyed hk) ht (zeroS_of hinfo w) (show heldS z=some (.held z,[]) from rfl) (WideMaps.keyOf_string_mk hk hi)
 rw [hrun,h2.has]
 unfold heldS at hv
 simp only [Option.some.injEq,Prod.mk.injEq] at hv
 cases hf:f key.data.toList with
 | none=>
  have h3:=atKey_of_not_has (h2.no _ hf) (.held z)
  rw [h3] at hv
  have h4:v=z:=by simpa using hv.1
  rw [h4];rfl
 | some u=>
  rw [h2.yes _ u hf] at hv
  have h4:v=u:=by simpa using hv.1
  rw [h4];rfl
theorem MS.put {t:TypeId} (h:MS P k w b n f) (hk:P.underlying k=some .string) (ht:P.underlying t=some (.map k e)) (hn:n<maxLen) {key:ByteArray} (hi:key.size≤maxLen) (v:Value) :
 ∃ w',(Instr.mapUpdate t (.map (some b)) (.string key) v).run P w=.ok () w'∧MS P k w' b (n+1) (fun x=>if x=key.data.toList then some v else f x)∧Upd [b] w w':=by
 obtain ⟨D,h1,h2⟩:=h
 obtain ⟨w',hrun,h3,h4⟩:=h1.update (string_keyed hk) ht hn (WideMaps.keyOf_string_mk hk hi) (show heldS v=some (.held v,[]) from rfl)
 refine ⟨w',hrun,⟨_,h3,⟨fun x hf=>?_,fun x u hf z=>?_⟩⟩,(Upd.refl _ w).grown h4 (fun j hj=>by cases hj;exact .inl (by simp))⟩
 ·by_cases e1:x=key.data.toList
  ·rw [if_pos e1] at hf;cases hf
  ·rw [if_neg e1] at hf
   rw [has_put_other (by intro h;cases h;exact e1 rfl)]
   exact h2.no x hf
 ·by_cases e1:x=key.data.toList
  ·rw [if_pos e1] at hf
   cases hf
   subst e1
   exact atKey_put_same h1.isMap (show WideAt.IsKeyLit (.string key.data.toList) from trivial) _ _
  ·rw [if_neg e1] at hf
   rw [atKey_put_other (by intro h;cases h;exact e1 rfl)]
   exact h2.yes x u hf z
theorem MS.keys (hk:P.underlying k=some .string) (h:MS P k w b n f):∃ D:DataW Value,w.ownsMap P k heldS b n D∧(strKeys D).Nodup∧(∀ x,x∈strKeys D↔(f x).isSome=true)∧Maps.size D≤n:=by
 obtain ⟨D,h1,h2⟩:=h
 obtain ⟨es,hD,hpw,_⟩:=h1.entries (string_keyed hk)
 obtain ⟨es',hD',hko⟩:=h1.keysOf
 obtain rfl:es=es':=by rw [hD] at hD';simpa using hD'
 refine ⟨D,h1,?_,fun x=>?_,h1.size_le⟩
 ·subst hD
  refine List.pairwise_map.2 (hpw.imp_of_mem fun {p q} hp' hq' hne e=>hne ?_)
  obtain ⟨v,hv⟩:=hko p hp'
  obtain ⟨u,hu⟩:=hko q hq'
  obtain ⟨a,_,ha,_⟩:=Maps.keyOf_str hk hv
  obtain ⟨c,_,hc,_⟩:=Maps.keyOf_str hk hu
  rw [ha,hc] at e ⊢
  exact congrArg _ e
 ·rw [←h2.has x]
  subst hD
  rw [has_eq,List.any_eq_true]
  show x∈es.map (fun p=>strOf p.1)↔_
  rw [List.mem_map]
  constructor
  ·rintro ⟨p,hp',rfl⟩
   obtain ⟨v,hv⟩:=hko p hp'
   obtain ⟨a,_,ha,_⟩:=Maps.keyOf_str hk hv
   exact ⟨p,hp',by rw [ha];simp [Lit.sameKey,strOf]⟩
  ·rintro ⟨p,hp',hs⟩
   obtain ⟨v,hv⟩:=hko p hp'
   obtain ⟨a,_,ha,_⟩:=Maps.keyOf_str hk hv
   rw [ha] at hs
   exact ⟨p,hp',by rw [ha];simpa [Lit.sameKey,strOf] using hs⟩
section
variable {ops:Array Oper} {rest:List Oper} {o:Oper} {a:Act} {Q:Exit→Act→World→Prop}
theorem wpList_msput {t:TypeId} (hk:P.underlying k=some .string) (ht:P.underlying t=some (.map k e)) (hg:o.guard=none) (m x v:Operand) (hop:o.op=Op.mapUpdate t m x v)
 (b n:Nat) (f:List UInt8→Option Value) (key:ByteArray) (val:Value) (hm:a.eval m=.map (some b)) (hx:a.eval x=.string key) (hv:a.eval v=val) (h:MS P k w b n f) (hn:n<maxLen) (hi:key.size≤maxLen)
 (hK:∀ w',MS P k w' b (n+1) (fun y=>if y=key.data.toList then some val else f y)→Upd [b] w w'→wpList P ops Q rest (a.put o.dst undef) w'):wpList P ops Q (o::rest) a w:=by
 refine wpList_plain hg fun K' hK'=>?_
 obtain ⟨w',hrun,h1,h2⟩:=MS.put h hk ht hn hi val
 unfold Oper.wp
 simp [execOp,hop,hm,hx,hv,hrun,Result.andThen]
 exact hK' _ _ (hK w' h1 h2)
end
end
end L
end Go.Proofs.YtjclbjdkkdijbaaGreat
