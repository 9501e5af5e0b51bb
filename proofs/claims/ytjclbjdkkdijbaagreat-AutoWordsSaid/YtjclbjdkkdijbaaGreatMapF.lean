/- A map from int to whatever values as a function on integers: make, look-up, store, delete, range. No program is named. Conditions: none. -/
import Derived.Test.YtjclbjdkkdijbaaGreatReg2
import Derived.Maps.OwnSet
import Derived.Maps.RangeWalk
import Derived.Lib.SlKeysI
set_option linter.unusedVariables false
set_option linter.unusedSimpArgs false
set_option linter.unusedSectionVars false
open Go.RowKit
namespace Go.Proofs.YtjclbjdkkdijbaaGreat
namespace L
open Go.Maps
theorem lit_i64 {x:Int} (h:IsI64 x):(Lit.int .i64 x).wf=true:=by
 obtain ⟨h1,h2⟩:=h
 simp [Lit.wf,IntKind.min,IntKind.max,IntKind.bits,IntKind.signed]
 omega
theorem zero_of {P:Program} {e:TypeId} {z:Value} {size bytes:Nat} (hinfo:(P.info? e).map (fun i=>(i.zero,i.size,i.bytes))=some (some z,size,bytes)) (w:World):(zeroValue e).run P w=.ok z w:=by
 obtain ⟨i,hi,hz,hs,hb⟩:=info_of hinfo
 have hp:Sem.run P (Sem.program Sem.pure) w=.ok P w:=rfl
 simp [zeroValue,typeInfo,program,go_sem,hi,hz,hp]
theorem of_lit_i64 {x:Int} (h:(Lit.int .i64 x).wf=true):IsI64 x:=by
 simp [Lit.wf,IntKind.min,IntKind.max,IntKind.bits,IntKind.signed] at h
 exact ⟨by omega,by omega⟩
def heldR (v:Value):Option (DataW Value × List MemPlace):=some (.held v,[])
structure MFD (N:Nat) (D:DataW Value) (f:Int→Option Value):Prop where
 no:∀ x,IsI64 x→f x=none→has D (.int .i64 x)=false
 yes:∀ x,IsI64 x→∀ v,f x=some v→∀ z,D.atKey (.int .i64 x) z=.held v
 rng:∀ x v,f x=some v→0≤x∧x<N
 sm:N≤1048576
theorem MFD.has {N:Nat} {D:DataW Value} {f:Int→Option Value} (h:MFD N D f) {x:Int} (hx:IsI64 x):Maps.has D (.int .i64 x)=(f x).isSome:=by
 cases hf:f x with
 | none=>rw [h.no x hx hf];rfl
 | some v=>rw [has_true_of_atKey (h.yes x hx v hf)];rfl
def MF (P:Program) (k:TypeId) (w:World) (b N:Nat) (f:Int→Option Value):Prop:=
 ∃ D:DataW Value,w.ownsMap P k heldR b N D∧MFD N D f
section
variable {P:Program} {k e:TypeId} {w w':World} {b N:Nat} {f:Int→Option Value}
theorem MF.lt (h:MF P k w b N f):b<w.heap.size:=by
 obtain ⟨D,h1,_⟩:=h
 exact h1.lt
theorem MF.rng (h:MF P k w b N f) {x:Int} {v:Value} (hf:f x=some v):0≤x∧x<N:=by
 obtain ⟨D,_,h2⟩:=h
 exact h2.rng x v hf
theorem MF.new (w:World) (P:Program) (k:TypeId) (N:Nat) (hN:N≤1048576):MF P k (w.alloc (.map #[] 0)) w.heap.size N (fun _=>none):=
 ⟨.map [],(World.ownsMap_made w P k _).mono (Nat.zero_le _),⟨fun _ _ _=>rfl,fun _ _ _ h=>by simp at h,fun _ _ h=>by simp at h,hN⟩⟩
theorem MF.upd {S:List Nat} (h:MF P k w b N f) (hu:Upd S w w') (hb:b ∉ S):MF P k w' b N f:=by
 obtain ⟨D,⟨es,clock,h1,h2⟩,h3⟩:=h
 exact ⟨D,⟨es,clock,by rw [hu.block b (Array.getElem?_eq_some_iff.1 h1).1 hb];exact h1,h2⟩,h3⟩
theorem MF.congr {f':Int→Option Value} (h:MF P k w b N f) (he:∀ x,f x=f' x):MF P k w b N f':=by
 obtain rfl:f=f':=funext he
 exact h
theorem MF.uniq {N':Nat} {f':Int→Option Value} (h:MF P k w b N f) (h':MF P k w b N' f') {x:Int} (hx:IsI64 x):f x=f' x:=by
 obtain ⟨D,⟨es,c,h1,F,hs,hD⟩,h2⟩:=h
 obtain ⟨D',⟨es',c',h1',F',hs',hD'⟩,h2'⟩:=h'
 rw [h1] at h1'
 cases h1'
 obtain rfl:D=D':=hD.trans hD'.symm
 have e1:=h2.has hx
 have e2:=h2'.has hx
 cases hf:f x with
 | none=>
  rw [hf] at e1
  rw [e1] at e2
  cases hf':f' x with
  | none=>rfl
  | some v=>rw [hf'] at e2;cases e2
 | some v=>
  rw [hf] at e1
  rw [e1] at e2
  cases hf':f' x with
  | none=>rw [hf'] at e2;cases e2
  | some v'=>
   have h3:=(h2.yes x hx v hf .nil).symm.trans (h2'.yes x hx v' hf' .nil)
   rw [show v=v' by simpa using h3]
def keysL (N:Nat) (f:Int→Option Value):List Int:=((List.range N).filter fun i:Nat=>(f (i:Int)).isSome).map Int.ofNat
theorem keysL_mem {x:Int} (hr:∀ x v,f x=some v→0≤x∧x<N):x∈keysL N f↔(f x).isSome=true:=by
 unfold keysL
 rw [List.mem_map]
 constructor
 ·rintro ⟨i,hi,rfl⟩
  exact (List.mem_filter.1 hi).2
 ·intro h
  obtain ⟨v,hv⟩:=Option.isSome_iff_exists.1 h
  have:=hr x v hv
  refine ⟨x.toNat,List.mem_filter.2 ⟨List.mem_range.2 (by omega),?_⟩,Int.toNat_of_nonneg this.1⟩
  rw [Int.toNat_of_nonneg this.1];exact h
theorem keysL_nodup:(keysL N f).Nodup:=by
 unfold keysL
 refine List.pairwise_map.2 ((List.nodup_range.filter _).imp ?_)
 intro a b h he
 exact h (Int.ofNat.inj he)
theorem keysL_length:(keysL N f).length≤N:=by
 unfold keysL
 rw [List.length_map]
 exact Nat.le_trans (List.length_filter_le _ _) (by simp)
theorem keysL_perm {n:Nat} {D:DataW Value} (hk:P.underlying k=some (.int .i64)) (h1:w.ownsMap P k heldR b n D) (h2:MFD N D f):(keysL N f).Perm (intKeys D):=by
 obtain ⟨es,hD,hpw,_⟩:=h1.entries (int_keyed hk)
 obtain ⟨es',hD',hko⟩:=h1.keysOf
 obtain rfl:es=es':=by rw [hD] at hD';simpa using hD'
 subst hD
 refine perm_intKeys hpw (fun p hp=>by obtain ⟨v,hv⟩:=hko p hp;obtain ⟨x,_,hx,_⟩:=Maps.keyOf_i64 hk hv;exact ⟨x,hx⟩) keysL_nodup (fun x=>?_)
 rw [keysL_mem h2.rng]
 constructor
 ·intro h
  obtain ⟨v,hv⟩:=Option.isSome_iff_exists.1 h
  have h3:=h2.rng x v hv
  have h4:=h2.sm
  have hx:IsI64 x:=⟨by omega,by omega⟩
  rw [h2.has hx];exact h
 ·intro h
  have hx:IsI64 x:=by
   rw [has_eq,List.any_eq_true] at h
   obtain ⟨p,hp,hs⟩:=h
   obtain ⟨v,hv⟩:=hko p hp
   obtain ⟨y,_,hy,hl⟩:=Maps.keyOf_i64 hk hv
   rw [hy] at hs
   have:y=x:=by simpa [Lit.sameKey] using hs
   subst this
   exact of_lit_i64 hl
  rw [←h2.has hx];exact h
theorem MFD.size {n:Nat} {D:DataW Value} (hk:P.underlying k=some (.int .i64)) (h1:w.ownsMap P k heldR b n D) (h2:MFD N D f):Maps.size D≤N:=by
 have h3:=(keysL_perm hk h1 h2).length_eq
 obtain ⟨es,hD,_⟩:=h1.entries (int_keyed hk)
 subst hD
 have h4:(intKeys (.map es)).length=es.length:=by simp [intKeys]
 rw [size_eq,←h4,←h3]
 exact keysL_length
theorem MFD.own {n:Nat} {D:DataW Value} (hk:P.underlying k=some (.int .i64)) (h1:w.ownsMap P k heldR b n D) (h2:MFD N D f):MF P k w b N f:=by
 have hs:=MFD.size hk h1 h2
 obtain ⟨es,clock,hb,F,hz,hD⟩:=h1
 refine ⟨D,⟨es,clock,hb,F,?_,hD⟩,h2⟩
 subst hD
 rw [size_eq,length_sorted,List.length_map,Array.length_toList] at hs
 exact hs
theorem MF.look {t:TypeId} (h:MF P k w b N f) (hk:P.underlying k=some (.int .i64)) (ht:P.underlying t=some (.map k e)) {z:Value} {size bytes:Nat}
 (hinfo:(P.info? e).map (fun i=>(i.zero,i.size,i.bytes))=some (some z,size,bytes)) {key:Int} (hi:IsI64 key) :
 (Instr.lookup t (.map (some b)) (.int .i64 key) false).run P w=.ok ((f key).getD z) w:=by
 obtain ⟨D,h1,h2⟩:=h
 obtain ⟨v,ps,hrun,hv⟩:=h1.lookup (int_keyed hk) ht (zero_of hinfo w) (show heldR z=some (.held z,[]) from rfl) (keyOf_int_mk hk (lit_i64 hi))
 rw [hrun]
 unfold heldR at hv
 simp only [Option.some.injEq,Prod.mk.injEq] at hv
 cases hf:f key with
 | none=>
  have h3:=atKey_of_not_has (h2.no key hi hf) (.held z)
  rw [h3] at hv
  have h4:v=z:=by simpa using hv.1
  rw [h4];rfl
 | some u=>
  rw [h2.yes key hi u hf] at hv
  have h4:v=u:=by simpa using hv.1
  rw [h4];rfl
theorem MF.put {t:TypeId} (h:MF P k w b N f) (hk:P.underlying k=some (.int .i64)) (ht:P.underlying t=some (.map k e)) {key:Int} (hi:0≤key∧key<N) (v:Value) :
 ∃ w',(Instr.mapUpdate t (.map (some b)) (.int .i64 key) v).run P w=.ok () w'∧MF P k w' b N (fun x=>if x=key then some v else f x)∧Upd [b] w w':=by
 obtain ⟨D,h1,h2⟩:=h
 have hsm:=h2.sm
 have hI:IsI64 key:=⟨by omega,by omega⟩
 obtain ⟨w',hrun,h3,h4⟩:=h1.update (int_keyed hk) ht (by unfold maxLen;omega) (keyOf_int_mk hk (lit_i64 hI)) (show heldR v=some (.held v,[]) from rfl)
 refine ⟨w',hrun,MFD.own hk h3 ⟨fun x hx hf=>?_,fun x hx u hf z=>?_,fun x u hf=>?_,hsm⟩,(Upd.refl _ w).grown h4 (fun j hj=>by cases hj;exact .inl (by simp))⟩
 ·by_cases e1:x=key
  ·rw [if_pos e1] at hf;cases hf
  ·rw [if_neg e1] at hf
   rw [has_put_other (by intro h;cases h;exact e1 rfl)]
   exact h2.no x hx hf
 ·by_cases e1:x=key
  ·rw [if_pos e1] at hf
   cases hf
   subst e1
   exact atKey_put_same h1.isMap (show WideAt.IsKeyLit (.int .i64 x) from trivial) _ _
  ·rw [if_neg e1] at hf
   rw [atKey_put_other (by intro h;cases h;exact e1 rfl)]
   exact h2.yes x hx u hf z
 ·by_cases e1:x=key
  ·subst e1;exact hi
  ·rw [if_neg e1] at hf
   exact h2.rng x u hf
def RG (P:Program) (k:TypeId) (w:World) (b r N:Nat) (f:Int→Option Value) (left:Int→Bool) (cnt:Nat):Prop:=
 ∃ (D:DataW Value) (lf:Lit→Bool),w.ranges P k heldR b r N D lf cnt∧MFD N D f∧∀ x,IsI64 x→lf (.int .i64 x)=left x
theorem RG.mf {r cnt:Nat} {left:Int→Bool} (h:RG P k w b r N f left cnt):MF P k w b N f:=by
 obtain ⟨D,lf,h1,h2,_⟩:=h
 exact ⟨D,h1.owns,h2⟩
theorem RG.lt {r cnt:Nat} {left:Int→Bool} (h:RG P k w b r N f left cnt):r<w.heap.size:=by
 obtain ⟨D,lf,h1,_⟩:=h
 exact h1.lt
theorem RG.upd {r cnt:Nat} {left:Int→Bool} {S:List Nat} (h:RG P k w b r N f left cnt) (hu:Upd S w w') (hb:b ∉ S) (hr:r ∉ S):RG P k w' b r N f left cnt:=by
 obtain ⟨D,lf,h1,h2⟩:=h
 have l1:=h1.owns.lt
 have l2:=h1.lt
 obtain ⟨es,clock,since,seen,c0,e1,F,hs,hD,e2,rest⟩:=h1
 exact ⟨D,lf,⟨es,clock,since,seen,c0,(hu.block b l1 hb).trans e1,F,hs,hD,(hu.block r l2 hr).trans e2,rest⟩,h2⟩
section
variable {ops:Array Oper} {rest:List Oper} {o:Oper} {a:Act} {Q:Exit→Act→World→Prop}
theorem wpList_mflook {t:TypeId} (hk:P.underlying k=some (.int .i64)) (ht:P.underlying t=some (.map k e)) {z:Value} {size bytes:Nat}
 (hinfo:(P.info? e).map (fun i=>(i.zero,i.size,i.bytes))=some (some z,size,bytes)) (m x:Operand) (hop:o.op=Op.lookup t m x false) (hg:o.guard=none)
 (b N:Nat) (f:Int→Option Value) (key:Int) (hm:a.eval m=.map (some b)) (hx:a.eval x=.int .i64 key) (h:MF P k w b N f) (hi:IsI64 key)
 (hK:wpList P ops Q rest (a.put o.dst ((f key).getD z)) w):wpList P ops Q (o::rest) a w:=by
 refine wpList_plain hg fun K' hK'=>?_
 have hrun:=MF.look h hk ht hinfo hi
 unfold Oper.wp
 simp [execOp,hop,hm,hx,hrun,Result.andThen]
 exact hK' _ _ hK
end
end
end L
end Go.Proofs.YtjclbjdkkdijbaaGreat
