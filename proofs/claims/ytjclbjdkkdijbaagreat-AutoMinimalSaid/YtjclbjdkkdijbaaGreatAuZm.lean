/- A map with keys of whatever plain kind as a function on what the keys stand for: make, look-up, store. No program is named. Conditions: none. The numbering of pairs in memory: keys, cells, what number keeps. Conditions: none. What number keeps in memory where states and keys are plain: states, map, table. Conditions: none. Walks through package auto: blocks. Conditions: none. Walks through package auto: number, at states with blocks as keys. Conditions: none. -/
import Derived.Test.YtjclbjdkkdijbaaGreatMapS
import Derived.Test.YtjclbjdkkdijbaaGreatAuZd
import Derived.DeepKeys4
import Derived.Test.YtjclbjdkkdijbaaGreatAutoY
import Derived.Test.YtjclbjdkkdijbaaGreatAuZb
import Derived.Test.YtjclbjdkkdijbaaGreatBstr
set_option linter.unusedVariables false
set_option linter.unusedSimpArgs false
set_option linter.unusedSectionVars false
section
open Go.RowKit
namespace Go.Proofs.YtjclbjdkkdijbaaGreat
namespace L
open Go.Maps
structure KE (P:Program) (k:TypeId) (κ:Type) where
 key:κ→Value
 lit:κ→Lit
 ok:κ→Prop
 kd:Keyed P k
 enc:∀ x,ok x→keyOf P k (key x)=some (lit x)
 inj:∀ x y,ok x→ok y→lit x=lit y→x=y
section
variable {P:Program} {k:TypeId} {κ:Type}
structure GMD (E:KE P k κ) (D:DataW Value) (f:κ→Option Value):Prop where
 no:∀ x,E.ok x→f x=none→has D (E.lit x)=false
 yes:∀ x,E.ok x→∀ v,f x=some v→∀ z,D.atKey (E.lit x) z=.held v
theorem GMD.has {E:KE P k κ} {D:DataW Value} {f:κ→Option Value} (h:GMD E D f) {x:κ} (hx:E.ok x):Maps.has D (E.lit x)=(f x).isSome:=by
 cases hf:f x with
 | none=>rw [h.no x hx hf];rfl
 | some v=>rw [has_true_of_atKey (h.yes x hx v hf)];rfl
def GM (E:KE P k κ) (w:World) (b n:Nat) (f:κ→Option Value):Prop:=∃ D:DataW Value,w.ownsMap P k heldS b n D∧GMD E D f
variable {E:KE P k κ} {e:TypeId} {w w':World} {b n:Nat} {f:κ→Option Value} [DecidableEq κ]
theorem GM.lt (h:GM E w b n f):b<w.heap.size:=by
 obtain ⟨D,h1,_⟩:=h
 exact h1.lt
theorem GM.new (E:KE P k κ) (w:World):GM E (w.alloc (.map #[] 0)) w.heap.size 0 (fun _=>none):=
 ⟨.map [],World.ownsMap_made w P k _,⟨fun _ _ _=>rfl,fun _ _ _ h=>by simp at h⟩⟩
theorem GM.upd {S:List Nat} (h:GM E w b n f) (hu:Upd S w w') (hb:b ∉ S):GM E w' b n f:=by
 obtain ⟨D,⟨es,clock,h1,h2⟩,h3⟩:=h
 exact ⟨D,⟨es,clock,by rw [hu.block b (Array.getElem?_eq_some_iff.1 h1).1 hb];exact h1,h2⟩,h3⟩
theorem GM.congr {f':κ→Option Value} (h:GM E w b n f) (he:∀ x,f x=f' x):GM E w b n f':=by
 obtain rfl:f=f':=funext he
 exact h
theorem GM.look_ok {t:TypeId} (h:GM E w b n f) (ht:P.underlying t=some (.map k e)) {z:Value} {size bytes:Nat}
 (hinfo:(P.info? e).map (fun i=>(i.zero,i.size,i.bytes))=some (some z,size,bytes)) {x:κ} (hx:E.ok x) :
 (Instr.lookup t (.map (some b)) (E.key x) true).run P w=.ok (.tuple #[(f x).getD z,.bool (f x).isSome]) w:=by
 obtain ⟨D,h1,h2⟩:=h
 obtain ⟨v,ps,hrun,hv⟩:=h1.look_ok E.kd ht (zeroS_of hinfo w) (show heldS z=some (.held z,[]) from rfl) (E.enc x hx)
 rw [hrun,h2.has hx]
 unfold heldS at hv
 simp only [Option.some.injEq,Prod.mk.injEq] at hv
 cases hf:f x with
 | none=>
  have h3:=atKey_of_not_has (h2.no _ hx hf) (.held z)
  rw [h3] at hv
  have h4:v=z:=by simpa using hv.1
  rw [h4];rfl
 | some u=>
  rw [h2.yes _ hx u hf] at hv
  have h4:v=u:=by simpa using hv.1
  rw [h4];rfl
theorem GM.put {t:TypeId} (h:GM E w b n f) (ht:P.underlying t=some (.map k e)) (hn:n<maxLen) {x:κ} (hx:E.ok x) (v:Value) :
 ∃ w',(Instr.mapUpdate t (.map (some b)) (E.key x) v).run P w=.ok () w'∧GM E w' b (n+1) (fun y=>if y=x then some v else f y)∧Upd [b] w w':=by
 obtain ⟨D,h1,h2⟩:=h
 obtain ⟨w',hrun,h3,h4⟩:=h1.update E.kd ht hn (E.enc x hx) (show heldS v=some (.held v,[]) from rfl)
 refine ⟨w',hrun,⟨_,h3,⟨fun y hy hf=>?_,fun y hy u hf z=>?_⟩⟩,(Upd.refl _ w).grown h4 (fun j hj=>by cases hj;exact .inl (by simp))⟩
 ·by_cases e1:y=x
  ·rw [if_pos e1] at hf;cases hf
  ·rw [if_neg e1] at hf
   rw [has_put_other (fun h=>e1 (E.inj _ _ hy hx h))]
   exact h2.no y hy hf
 ·by_cases e1:y=x
  ·rw [if_pos e1] at hf
   cases hf
   subst e1
   exact atKey_put_same h1.isMap (E.kd.key (E.enc y hy)) _ _
  ·rw [if_neg e1] at hf
   rw [atKey_put_other (fun h=>e1 (E.inj _ _ hy hx h))]
   exact h2.yes y hy u hf z
section
variable {ops:Array Oper} {rest:List Oper} {o:Oper} {a:Act} {Q:Exit→Act→World→Prop}
theorem wpList_gmput {t:TypeId} (ht:P.underlying t=some (.map k e)) (hg:o.guard=none) (m x v:Operand) (hop:o.op=Op.mapUpdate t m x v)
 (b n:Nat) (f:κ→Option Value) (y:κ) (val:Value) (hm:a.eval m=.map (some b)) (hx:a.eval x=E.key y) (hv:a.eval v=val) (h:GM E w b n f) (hn:n<maxLen) (hy:E.ok y)
 (hK:∀ w',GM E w' b (n+1) (fun z=>if z=y then some val else f z)→Upd [b] w w'→wpList P ops Q rest (a.put o.dst undef) w'):wpList P ops Q (o::rest) a w:=by
 refine wpList_plain hg fun K' hK'=>?_
 obtain ⟨w',hrun,h1,h2⟩:=GM.put h ht hn hy val
 unfold Oper.wp
 simp only [execOp,hop,hm,hx,hv,Sem.run_bind,Sem.run_pure,Result.andThen_ok,hrun]
 exact hK' _ _ (hK w' h1 h2)
theorem wpList_gmins {t:TypeId} (ht:P.underlying t=some (.map k e)) (hg:o.guard=none) (m x v:Operand) (hop:o.op=Op.insert t m x v)
 (b n:Nat) (f:κ→Option Value) (y:κ) (val:Value) (hm:a.eval m=.map (some b)) (hx:a.eval x=E.key y) (hv:a.eval v=val) (h:GM E w b n f) (hn:n<maxLen) (hy:E.ok y)
 (hK:∀ w',GM E w' b (n+1) (fun z=>if z=y then some val else f z)→Upd [b] w w'→wpList P ops Q rest (a.put o.dst undef) w'):wpList P ops Q (o::rest) a w:=by
 refine wpList_plain hg fun K' hK'=>?_
 obtain ⟨w',hrun,h1,h2⟩:=GM.put h ht hn hy val
 unfold Oper.wp
 simp only [execOp,hop,hm,hx,hv,Sem.run_bind,Sem.run_pure,Result.andThen_ok,hrun]
 exact hK' _ _ (hK w' h1 h2)
theorem wpList_gmlook_ok {t:TypeId} (ht:P.underlying t=some (.map k e)) {z:Value} {size bytes:Nat}
 (hinfo:(P.info? e).map (fun i=>(i.zero,i.size,i.bytes))=some (some z,size,bytes)) (m x:Operand) (hop:o.op=Op.lookup t m x true) (hg:o.guard=none)
 (b n:Nat) (f:κ→Option Value) (y:κ) (hm:a.eval m=.map (some b)) (hx:a.eval x=E.key y) (h:GM E w b n f) (hy:E.ok y)
 (hK:wpList P ops Q rest (a.put o.dst (.tuple #[(f y).getD z,.bool (f y).isSome])) w):wpList P ops Q (o::rest) a w:=by
 refine wpList_plain hg fun K' hK'=>?_
 have hrun:=GM.look_ok h ht hinfo hy
 unfold Oper.wp
 simp [execOp,hop,hm,hx,hrun,Result.andThen]
 exact hK' _ _ hK
end
end
end L
end Go.Proofs.YtjclbjdkkdijbaaGreat
end
section
open Go.RowKit
namespace Go.Proofs.YtjclbjdkkdijbaaGreat
open L
namespace Aut
open Auto
attribute [-go_sem] sliced
theorem pairLaw:WideMaps.KeyLaw Tryz.prog 125:=
 deep_law_laid (show laidOutB Tryz.prog=true by kernel_rfl) (m:=3) (by omega) (show 125<Tryz.prog.types.size from of_decide_eq_true (by kernel_rfl)) (by kernel_rfl) (by rw [Tryz.underlying125])
def pLit (p:Nat × Nat):Lit:=.string (keyBytes [.int .i64 p.1,.int .i64 p.2])
def pKey (p:Nat × Nat):Value:=.agg #[.int .i64 p.1,.int .i64 p.2]
def pOk (p:Nat × Nat):Prop:=p.1<1048576∧p.2<1048576
theorem pEnc (p:Nat × Nat) (h:pOk p):keyOf Tryz.prog 125 (pKey p)=some (pLit p):=by
 obtain ⟨x,y⟩:=p
 have w1:(Lit.int .i64 (x:Int)).wf=true:=lit_i64 ⟨by omega,by have:=h.1;simp at this;omega⟩
 have w2:(Lit.int .i64 (y:Int)).wf=true:=lit_i64 ⟨by omega,by have:=h.2;simp at this;omega⟩
 have hk:Tryz.prog.keyType 125=true:=by kernel_rfl
 have hc:Tryz.prog.cellsOf 3=1:=by kernel_rfl
 have hp:Tryz.prog.cellsOf 125=2:=by kernel_rfl
 obtain ⟨m,hm⟩:∃ m,Tryz.prog.types.size=m+2:=⟨Tryz.prog.types.size-2,by have:2≤Tryz.prog.types.size:=of_decide_eq_true (by kernel_rfl);omega⟩
 unfold keyOf
 rw [Tryz.underlying125]
 simp only
 rw [if_pos (by simp [hk,pKey,Value.formed,Tryz.underlying125,hp])]
 trace_state
 rw [hm]
 unfold Program.keyLits
 rw [Tryz.underlying125]
 simp [pKey,Value.cells,hp,Program.keyLits,Tryz.underlying3,hc,w1,w2,pLit]
theorem pInj (p q:Nat × Nat) (hp:pOk p) (hq:pOk q) (h:pLit p=pLit q):p=q:=by
 have h1:=pEnc p hp
 have h2:=pEnc q hq
 rw [h] at h1
 have h3:=(Go.Maps.Keyed.of_law pairLaw).inj h1 h2
 obtain ⟨x,y⟩:=p
 obtain ⟨x',y'⟩:=q
 simp [pKey] at h3
 rw [Prod.mk.injEq]
 omega
def pE:KE Tryz.prog 125 (Nat × Nat):=⟨pKey,pLit,pOk,Go.Maps.Keyed.of_law pairLaw,pEnc,pInj⟩
end Aut
end Go.Proofs.YtjclbjdkkdijbaaGreat
end
section
open Go.RowKit
namespace Go.Proofs.YtjclbjdkkdijbaaGreat
open L
namespace Aut
open Auto
attribute [-go_sem] sliced
structure Np {κ:Type} {kt:TypeId} (E:KE Tryz.prog kt κ) (e:TypeId) (kk:Nat) (w0:World) (mb:Nat) (sv tv:Value) (n m:Nat) (cs:List Value) (T:List (List Nat)) (F R:List Nat) (f:κ→Option Value) (w:World):Prop where
 st:OwW e kk n w0 (.slice none 0 0) sv cs w
 mp:GM E w mb m f
 mn:w0.heap.size≤mb
 sm:∀ q,sv.ownBlock=some q→q≠mb∧q ∉ F∧tv.ownBlock≠some q∧q ∉ R
 tb:OwnL 22 w0 tv (natRows T) F w
 mf:mb ∉ F∧tv.ownBlock≠some mb∧mb ∉ R
 rf:∀ b∈R,b ∉ F∧tv.ownBlock≠some b∧w0.heap.size≤b∧b<w.heap.size
 fn:∀ b∈F,w0.heap.size≤b
section
variable {κ:Type} [DecidableEq κ] {kt:TypeId} {E:KE Tryz.prog kt κ} {e:TypeId} {kk:Nat} {w0 w w':World} {mb n m:Nat} {sv tv:Value} {cs:List Value} {T:List (List Nat)} {F R:List Nat} {f:κ→Option Value}
theorem Np.u (h:Np E e kk w0 mb sv tv n m cs T F R f w):Upd [] w0 w:=h.st.fresh
theorem Np.tn (h:Np E e kk w0 mb sv tv n m cs T F R f w):∀ q,tv.ownBlock=some q→w0.heap.size≤q:=by
 obtain ⟨vals,h1,_⟩:=h.tb.ex
 exact h1.fresh
theorem Np.sn (h:Np E e kk w0 mb sv tv n m cs T F R f w):∀ q,sv.ownBlock=some q→w0.heap.size≤q:=fun q hq=>by
 rcases h.st.old q hq with h1|h1
 ·simp [Value.ownBlock] at h1
 ·exact h1
theorem Np.quiet (h:Np E e kk w0 mb sv tv n m cs T F R f w) (hu:Upd [] w w'):Np E e kk w0 mb sv tv n m cs T F R f w':=
 ⟨h.st.quiet hu,h.mp.upd hu (by simp),h.mn,h.sm,h.tb.upd hu (by simp),h.mf,fun b hb=>⟨(h.rf b hb).1,(h.rf b hb).2.1,(h.rf b hb).2.2.1,by have:=(h.rf b hb).2.2.2;have:=hu.size;omega⟩,h.fn⟩
theorem Np.row (h:Np E e kk w0 mb sv tv n m cs T F [] f w) (hu:Upd [] w w') (hs:w.heap.size<w'.heap.size):Np E e kk w0 mb sv tv n m cs T F [w.heap.size] f w':=by
 have hz:=h.u.size
 refine ⟨h.st.quiet hu,h.mp.upd hu (by simp),h.mn,fun q hq=>?_,h.tb.upd hu (by simp),⟨h.mf.1,h.mf.2.1,by have:=h.mp.lt;simp;omega⟩,fun b hb=>?_,h.fn⟩
 ·obtain ⟨h1,h2,h3,_⟩:=h.sm q hq
  exact ⟨h1,h2,h3,by have:=h.st.lt hq;simp;omega⟩
 ·simp at hb
  subst hb
  exact ⟨fun h2=>by have:=h.tb.lt _ h2;omega,fun h2=>by have:=h.tb.own_lt _ h2;omega,hz,hs⟩
theorem Np.set (h:Np E e kk w0 mb sv tv n m cs T F R f w) (hu:Upd R w w'):Np E e kk w0 mb sv tv n m cs T F R f w':=
 ⟨h.st.other hu (fun b hb hv=>(h.sm b hv).2.2.2 hb) (fun b hb=>(h.rf b hb).2.2.1),h.mp.upd hu h.mf.2.2,h.mn,h.sm,h.tb.upd hu (fun b hb=>⟨(h.rf b hb).1,(h.rf b hb).2.1⟩),h.mf,fun b hb=>⟨(h.rf b hb).1,(h.rf b hb).2.1,(h.rf b hb).2.2.1,by have:=(h.rf b hb).2.2.2;have:=hu.size;omega⟩,h.fn⟩
theorem Np.put {m':Nat} {f':κ→Option Value} (h:Np E e kk w0 mb sv tv n m cs T F R f w) (hu:Upd [mb] w w') (hm:GM E w' mb m' f'):Np E e kk w0 mb sv tv n m' cs T F R f' w':=
 ⟨h.st.other hu (fun b hb hv=>by simp at hb;exact (h.sm b hv).1 hb) (fun b hb=>by simp at hb;subst hb;exact h.mn),hm,h.mn,h.sm,h.tb.upd hu (fun b hb=>by simp at hb;subst hb;exact ⟨h.mf.1,h.mf.2.1⟩),h.mf,fun b hb=>⟨(h.rf b hb).1,(h.rf b hb).2.1,(h.rf b hb).2.2.1,by have:=(h.rf b hb).2.2.2;have:=hu.size;omega⟩,h.fn⟩
theorem Np.keep {U:List Nat} (h:Np E e kk w0 mb sv tv n m cs T F R f w) (hu:Upd U w w') (hU:∀ b∈U,b<w0.heap.size):CL w' tv (natRows T):=
 (h.tb.upd hu fun b hb=>⟨fun hf=>by have:=h.fn b hf;have:=hU b hb;omega,fun hv=>by have:=h.tn b hv;have:=hU b hb;omega⟩).cl
theorem Np.push {g cap:Nat} {news:List Value} (h:Np E e kk w0 mb sv tv n m cs T F R f w) (ho:w'.ownsRow 0 e kk (.slice (some ⟨g,0,none⟩) (n+1) cap) (n+1) (cs++news)) (hu:Upd sv.ownBlock.toList w w') (hk:sv.ownBlock=some g∨w.heap.size≤g) :
 Np E e kk w0 mb (.slice (some ⟨g,0,none⟩) (n+1) cap) tv (n+1) m (cs++news) T F R f w':=by
 have hz:=h.u.size
 have hmb:=h.mp.lt
 refine ⟨h.st.push ho hu hk,h.mp.upd hu (fun hb=>(h.sm mb (by simpa using hb)).1 rfl),h.mn,fun q hq=>?_,h.tb.upd hu (fun b hb=>⟨fun hf=>(h.sm b (by simpa using hb)).2.1 hf,(h.sm b (by simpa using hb)).2.2.1⟩),h.mf,fun b hb=>⟨(h.rf b hb).1,(h.rf b hb).2.1,(h.rf b hb).2.2.1,by have:=(h.rf b hb).2.2.2;have:=hu.size;omega⟩,h.fn⟩
 simp only [Value.ownBlock,Option.some.injEq] at hq
 subst hq
 rcases hk with h1|h1
 ·exact h.sm _ h1
 ·exact ⟨by omega,fun hf=>by have:=h.tb.lt _ hf;omega,fun hv=>by have:=h.tb.own_lt _ hv;omega,fun hr=>by have:=(h.rf _ hr).2.2.2;omega⟩
theorem Np.done {g cap rb:Nat} {row:List Nat} {y:Value} {vals:List Value} (h:Np E e kk w0 mb sv tv n m cs T F [rb] f w) (h1:OwnV w0 22 1 tv (natRows T).length vals w) (h2:∀ (i:Nat) (c:List Int),(natRows T)[i]?=some c→∃ y,vals[i]?=some y∧SL w 1 y c.length (ints c)∧∀ b,y.ownBlock=some b→b∈F)
 (hy:SL w 1 y row.length (ints (row.map Int.ofNat))) (hyv:y.ownBlock=some rb) (o:w'.ownsRow 0 22 1 (.slice (some ⟨g,0,none⟩) ((natRows T).length+1) cap) ((natRows T).length+1) (vals++[y])) (hu:Upd tv.ownBlock.toList w w') (hk:tv.ownBlock=some g∨w.heap.size≤g) :
 Np E e kk w0 mb sv (.slice (some ⟨g,0,none⟩) ((natRows T).length+1) cap) n m cs (T++[row]) (F++[rb]) [] f w':=by
 obtain ⟨r1,r2,r3,r4⟩:=h.rf rb (by simp)
 have hT:natRows (T++[row])=natRows T++[row.map Int.ofNat]:=by simp [natRows]
 have hp:=h.tb.push h1 h2 h.u.size (c:=row.map Int.ofNat) (by rw [List.length_map];exact hy) (fun b hb=>by rw [hyv] at hb;cases hb;exact ⟨r2,r4⟩) o hu hk
 rw [hyv] at hp
 have hgm:g≠mb:=fun e=>by
  rcases hk with hk|hk
  ·exact h.mf.2.1 (e ▸ hk)
  ·have:=h.mp.lt;omega
 have hmr:mb≠rb:=fun e=>h.mf.2.2 (by simp [e])
 refine ⟨h.st.other hu (fun b hb hv=>(h.sm b hv).2.2.1 (by simpa using hb)) (fun b hb=>h.tn b (by simpa using hb)),h.mp.upd hu (fun hb=>h.mf.2.1 (by simpa using hb)),h.mn,fun q hq=>?_,by rw [hT];exact hp,⟨?_,by simpa [Value.ownBlock] using hgm,by simp⟩,by simp,fun b hb=>by
  rcases List.mem_append.1 hb with hb|hb
  ·exact h.fn b hb
  ·simp at hb;subst hb;exact r3⟩
 ·obtain ⟨a1,a2,a3,a4⟩:=h.sm q hq
  refine ⟨a1,fun hf=>?_,fun hv=>?_,by simp⟩
  ·rcases List.mem_append.1 hf with h3|h3
   ·exact a2 h3
   ·exact a4 h3
  ·simp only [Value.ownBlock,Option.some.injEq] at hv
   subst hv
   rcases hk with h3|h3
   ·exact a3 h3
   ·have:=h.st.lt hq;omega
 ·simp only [List.mem_append,List.mem_singleton,not_or]
  exact ⟨h.mf.1,hmr⟩
end
section
variable {α:Type} [DecidableEq α]
def pmap (S:List α) (x:α):Option Value:=if x∈S then some (.int .i64 (place S x:Nat)) else none
theorem pmap_one (x z:α):(if z=x then some (Value.int .i64 0) else none)=pmap [x] z:=by
 unfold pmap
 by_cases h:z=x
 ·subst h
  rw [if_pos rfl,if_pos (by simp)]
  simp [place]
 ·rw [if_neg h,if_neg (by simpa using h)]
theorem pmap_push {S:List α} {x:α} (h:x ∉ S) (z:α):(if z=x then some (Value.int .i64 (S.length:Nat)) else pmap S z)=pmap (S++[x]) z:=by
 unfold pmap
 by_cases hz:z=x
 ·subst hz
  have e:adds S z=S++[z]:=by unfold adds;rw [if_neg h]
  rw [if_pos rfl,if_pos (by simp),←e,place_adds,place_none h]
 ·rw [if_neg hz]
  by_cases hm:z∈S
  ·rw [if_pos hm,if_pos (by simp [hm]),place_pre (List.prefix_append S [x]) hm]
  ·rw [if_neg hm,if_neg (by simp [hm,hz])]
theorem scan_old' {f:Nat→α} {k:Nat} {l S:List α} {row:List Nat} (h:scan f k l=(S,row)) (hm:f k∈S):scan f (k+1) l=(S,row++[place S (f k)]):=by
 show (adds (scan f k l).1 (f k),(scan f k l).2++[place (scan f k l).1 (f k)])=_
 rw [h]
 unfold adds
 rw [if_pos hm]
theorem scan_new' {f:Nat→α} {k:Nat} {l S:List α} {row:List Nat} (h:scan f k l=(S,row)) (hm:f k ∉ S):scan f (k+1) l=(S++[f k],row++[S.length]):=by
 show (adds (scan f k l).1 (f k),(scan f k l).2++[place (scan f k l).1 (f k)])=_
 rw [h]
 simp only
 unfold adds
 rw [if_neg hm,place_none hm]
theorem upTo_step' {first:α} {m:Nat} {nx:α→Nat→α} {i:Nat} {S S':List α} {T:List (List Nat)} {row:List Nat} {s:α} (h:upTo first m nx i=(S,T)) (hs:S[i]?=some s) (hr:scan (nx s) m S=(S',row)):upTo first m nx (i+1)=(S',T++[row]):=by
 rw [upTo,h,hs]
 simp only [hr]
end
def pcs (S:List (Nat × Nat)):List Value:=S.flatMap fun p=>[.int .i64 p.1,.int .i64 p.2]
theorem pcs_snoc (S:List (Nat × Nat)) (p:Nat × Nat):pcs (S++[p])=pcs S++[.int .i64 p.1,.int .i64 p.2]:=by simp [pcs]
theorem pcs_at:∀ {S:List (Nat × Nat)} {i:Nat} {p:Nat × Nat},S[i]?=some p→(pcs S)[i*2]?=some (.int .i64 p.1)∧(pcs S)[i*2+1]?=some (.int .i64 p.2)
 | [],_,_,h=>by simp at h
 | x::q,0,e,h=>by simp at h;subst h;exact ⟨rfl,rfl⟩
 | x::q,i+1,e,h=>by
  have ih:=pcs_at (S:=q) (i:=i) (p:=e) (by simpa using h)
  have e1:pcs (x::q)=.int .i64 x.1::.int .i64 x.2::pcs q:=rfl
  rw [e1,show (i+1)*2=i*2+1+1 by omega]
  exact ⟨by simpa using ih.1,by simpa using ih.2⟩
theorem infoPair:(Tryz.prog.info? 125).map (fun i=>(i.zero,i.size,i.bytes))=some (some (.agg #[.int .i64 0,.int .i64 0]),2,16):=by kernel_rfl
end Aut
end Go.Proofs.YtjclbjdkkdijbaaGreat
end
section
open Go.RowKit
namespace Go.Proofs.YtjclbjdkkdijbaaGreat
namespace L
open Go.Maps
def MSX (P:Program) (k:TypeId) (w:World) (b n:Nat) (f:List UInt8→Option Value):Prop:=
 ∃ D:DataW Value,w.ownsMap P k heldS b n D∧MSD D f∧Maps.size D=n
section
variable {P:Program} {k e:TypeId} {w w':World} {b n:Nat} {f:List UInt8→Option Value}
theorem MSX.ms (h:MSX P k w b n f):MS P k w b n f:=by
 obtain ⟨D,h1,h2,_⟩:=h
 exact ⟨D,h1,h2⟩
theorem MSX.new (w:World) (P:Program) (k:TypeId):MSX P k (w.alloc (.map #[] 0)) w.heap.size 0 (fun _=>none):=
 ⟨.map [],World.ownsMap_made w P k _,⟨fun _ _=>rfl,fun _ _ h=>by simp at h⟩,rfl⟩
theorem MSX.upd {S:List Nat} (h:MSX P k w b n f) (hu:Upd S w w') (hb:b ∉ S):MSX P k w' b n f:=by
 obtain ⟨D,⟨es,clock,h1,h2⟩,h3⟩:=h
 exact ⟨D,⟨es,clock,by rw [hu.block b (Array.getElem?_eq_some_iff.1 h1).1 hb];exact h1,h2⟩,h3⟩
theorem MSX.congr {f':List UInt8→Option Value} (h:MSX P k w b n f) (he:∀ x,f x=f' x):MSX P k w b n f':=by
 obtain rfl:f=f':=funext he
 exact h
theorem MSX.put {t:TypeId} (h:MSX P k w b n f) (hk:P.underlying k=some .string) (ht:P.underlying t=some (.map k e)) (hn:n<maxLen) {key:ByteArray} (hi:key.size≤maxLen) (hnew:f key.data.toList=none) (v:Value) :
 ∃ w',(Instr.mapUpdate t (.map (some b)) (.string key) v).run P w=.ok () w'∧MSX P k w' b (n+1) (fun x=>if x=key.data.toList then some v else f x)∧Upd [b] w w':=by
 obtain ⟨D,h1,h2,h5⟩:=h
 obtain ⟨w',hrun,h3,h4⟩:=h1.update (string_keyed hk) ht hn (WideMaps.keyOf_string_mk hk hi) (show heldS v=some (.held v,[]) from rfl)
 refine ⟨w',hrun,⟨_,h3,⟨fun x hf=>?_,fun x u hf z=>?_⟩,?_⟩,(Upd.refl _ w).grown h4 (fun j hj=>by cases hj;exact .inl (by simp))⟩
 ·by_cases e1:x=key.data.toList
  ·rw [if_pos e1] at hf;cases hf
  ·rw [if_neg e1] at hf
   rw [has_put_other (by intro h;cases h;exact e1 rfl)]
   exact h2.no x hf
 ·by_cases e1:x=key.data.toList
  ·rw [if_pos e1] at hf
   cases hf
   subst e1
   exact atKey_put_same h1.isMap (show WideAt.IsKeyLit (.string key.data.toList) from trivial) _ _
  ·rw [if_neg e1] at hf
   rw [atKey_put_other (by intro h;cases h;exact e1 rfl)]
   exact h2.yes x u hf z
 ·rw [size_put (h1.tidy (string_keyed hk)),h2.no _ hnew,h5]
  rfl
section
variable {ops:Array Oper} {rest:List Oper} {o:Oper} {a:Act} {Q:Exit→Act→World→Prop}
theorem wpList_msxput {t:TypeId} (hk:P.underlying k=some .string) (ht:P.underlying t=some (.map k e)) (hg:o.guard=none) (m x v:Operand) (hop:o.op=Op.mapUpdate t m x v)
 (b n:Nat) (f:List UInt8→Option Value) (key:ByteArray) (val:Value) (hm:a.eval m=.map (some b)) (hx:a.eval x=.string key) (hv:a.eval v=val) (h:MSX P k w b n f) (hn:n<maxLen) (hi:key.size≤maxLen) (hnew:f key.data.toList=none)
 (hK:∀ w',MSX P k w' b (n+1) (fun y=>if y=key.data.toList then some val else f y)→Upd [b] w w'→wpList P ops Q rest (a.put o.dst undef) w'):wpList P ops Q (o::rest) a w:=by
 refine wpList_plain hg fun K' hK'=>?_
 obtain ⟨w',hrun,h1,h2⟩:=MSX.put h hk ht hn hi hnew val
 unfold Oper.wp
 simp [execOp,hop,hm,hx,hv,hrun,Result.andThen]
 exact hK' _ _ (hK w' h1 h2)
theorem wpList_msxlen (hg:o.guard=none) (m:Operand) (t:TypeId) (hop:o.op=Op.call { callee:=Callee.builtin Builtin.len,args:=#[m],argTypes:=#[t] })
 (ht:P.underlying t=some (.map k e)) (b n:Nat) (f:List UInt8→Option Value) (hm:a.eval m=.map (some b)) (h:MSX P k w b n f)
 (hK:wpList P ops Q rest (a.put o.dst (.int .i64 n)) w):wpList P ops Q (o::rest) a w:=by
 obtain ⟨D,h1,_,h3⟩:=h
 refine wpList_len_own w hg m t hop k e ht _ b n D hm h1 ?_
 rw [h3]
 exact hK
end
end
end L
open L
namespace Auto
def kB (l:List Nat):List UInt8:=l.map UInt8.ofNat
theorem kB_inj:∀ {x y:List Nat},(∀ v∈x,v<256)→(∀ v∈y,v<256)→kB x=kB y→x=y
 | [],[],_,_,_=>rfl
 | [],_::_,_,_,h=>by simp [kB] at h
 | _::_,[],_,_,h=>by simp [kB] at h
 | a::x,b::y,hx,hy,h=>by
  have h1:=(List.cons.inj h).1
  have h2:=kB_inj (fun v hv=>hx v (by simp [hv])) (fun v hv=>hy v (by simp [hv])) (List.cons.inj h).2
  have h3:=congrArg UInt8.toNat h1
  have a1:=hx a (by simp)
  have b1:=hy b (by simp)
  simp only [UInt8.toNat_ofNat'] at h3
  rw [h2]
  congr 1
  omega
theorem scan_kB {f:Nat→List Nat} {n:Nat} (hf:∀ s,s<n→∀ v∈f s,v<256):(scan (fun s=>kB (f s)) n []).2=(scan f n []).2∧(scan (fun s=>kB (f s)) n []).1.length=(scan f n []).1.length:=by
 have h:=Rl.scan (R:=fun (x:List Nat) (y:List UInt8)=>(∀ v∈x,v<256)∧y=kB x) (l:=[]) (l':=[]) ⟨rfl,fun i x y hx=>by simp at hx⟩ (fun x y x' y' h1 h2=>⟨fun e=>by rw [h1.2,h2.2,e],fun e=>kB_inj h1.1 h2.1 (by rw [←h1.2,←h2.2,e])⟩) (f:=f) (g:=fun s=>kB (f s)) (k:=n) (fun j hj=>⟨hf j hj,rfl⟩)
 exact ⟨h.2.symm,h.1.1.symm⟩
theorem keyB_lt {a:Au} {bl:List Nat} (h:∀ x∈bl,x<256) (s:Nat):∀ v∈keyB a bl s,v<256:=fun v hv=>by
 have g:∀ t,bl.getD t 0<256:=fun t=>by
  rcases Nat.lt_or_ge t bl.length with h1|h1
  ·exact h _ (gd_memA h1)
  ·rw [List.getD_eq_getElem?_getD,List.getElem?_eq_none h1];decide
 rcases List.mem_cons.1 hv with h1|h1
 ·subst h1;exact g _
 ·obtain ⟨t,_,rfl⟩:=List.mem_map.1 h1
  exact g _
end Auto
namespace Aut
open Auto
attribute [-go_sem] sliced
section
variable {w w':World} {v:Value}
def accI (a:Au) (i:Nat):List Int:=((blkS a 0).take i).map Int.ofNat++List.replicate (a.acc.length-i) 0
theorem bcs_one {n:Nat} (h:n<256):bcs [UInt8.ofNat n]=[.int .u8 n]:=by
 simp only [bcs,List.map_cons,List.map_nil,UInt8.toNat_ofNat']
 congr 2
 omega
theorem byte_own (w:World) {n:Nat} (h:n<256):OwW 5 1 1 w (.slice none 0 0) (.slice (some ⟨w.heap.size,0,none⟩) 1 1) (bcs (kB [n])) (w.alloc (.cells #[.int .u8 n] 5)):=by
 refine ⟨?_,(Upd.refl [] w).alloc _,fun g hg=>?_⟩
 ·show (w.alloc (.cells #[.int .u8 n] 5)).ownsRow 0 5 1 _ 1 (bcs [UInt8.ofNat n])
  rw [bcs_one h]
  exact OwW.of_blk (pad:=[]) (Blk.new w [.int .u8 n] 5) rfl rfl (by decide)
 ·simp only [Value.ownBlock,Option.some.injEq] at hg
  exact .inr (by omega)
theorem accI_succ {a:Au} {i:Nat} (hi:i<a.acc.length):accI a (i+1)=(((blkS a 0).take i).map Int.ofNat++[if a.acc.getD i false then 1 else 0])++List.replicate (a.acc.length - (i+1)) 0:=by
 have hg:(blkS a 0)[i]?=some (if a.acc.getD i false then 1 else 0):=by
  unfold blkS
  rw [List.getElem?_map,gd_some (d:=false) hi]
  rfl
 unfold accI
 rw [List.take_add_one,hg]
 simp only [Option.toList_some,List.map_append,List.map_singleton]
 cases a.acc.getD i false <;> rfl
theorem accI_now {a:Au} {i:Nat} (hi:i<a.acc.length):accI a i=((blkS a 0).take i).map Int.ofNat++(0::List.replicate (a.acc.length - (i+1)) 0):=by
 unfold accI
 rw [←List.replicate_succ]
 congr 2
 omega
theorem accI_false {a:Au} {i:Nat} (hi:i<a.acc.length) (h:a.acc.getD i false=false):accI a (i+1)=accI a i:=by
 rw [accI_succ hi,accI_now hi,h]
 simp
theorem accI_true {a:Au} {i:Nat} (hi:i<a.acc.length) (h:a.acc.getD i false=true):(ints (accI a i)).set i (.int .i64 1)=ints (accI a (i+1)):=by
 have hl:(((blkS a 0).take i).map Int.ofNat).length=i:=by simp [blkS];omega
 rw [accI_succ hi,accI_now hi,h]
 unfold ints
 rw [←List.map_set,List.set_append_right _ _ (by omega),hl,Nat.sub_self,List.set_cons_zero]
 simp
theorem accI_at {a:Au} {i:Nat} (hi:i<a.acc.length):(accI a i)[i]?=some 0:=by
 have hl:(((blkS a 0).take i).map Int.ofNat).length=i:=by simp [blkS];omega
 rw [accI_now hi,List.getElem?_append_right (by omega),hl,Nat.sub_self]
 rfl
theorem accI_full (a:Au):accI a a.acc.length=(blkS a 0).map Int.ofNat:=by
 unfold accI
 rw [List.take_of_length_le (by simp [blkS]),Nat.sub_self]
 simp
set_option maxRecDepth 100000 in
set_option maxHeartbeats 16000000 in
theorem blocks_calls {a:Au} (h:AuV w a v) (hok:Ok a):Calls Tryz.prog 66 #[v] w fun e w'=>∃ v',e=.returned v'∧∃ j,cntS a (j+1)=cntS a j∧OwW 3 1 a.next.length w (.slice none 0 0) v' (ints ((blkS a (j+1)).map Int.ofNat)) w':=by
 obtain ⟨a1,c1,a2,c2,a3,c3,rfl,hF⟩:=h.shape
 have HF:=Lib.hid hF
 have HOK:=Lib.hid hok
 clear h hF hok
 go_enter Tryz.func66,Tryz.ntmps66
 go_upto_region 1 with fail
 have b1:=Blk.new w [.slice a1 a.cuts.length c1,.slice a2 a.next.length c2,.slice a3 a.acc.length c3] 31
 have u1:=(Upd.refl [] w).alloc (.cells #[.slice a1 a.cuts.length c1,.slice a2 a.next.length c2,.slice a3 a.acc.length c3] 31)
 change Blk (w.alloc (.cells #[.slice a1 a.cuts.length c1,.slice a2 a.next.length c2,.slice a3 a.acc.length c3] 31)) _ _ _ at b1
 generalize (w.alloc (.cells #[.slice a1 a.cuts.length c1,.slice a2 a.next.length c2,.slice a3 a.acc.length c3] 31))=w1 at *
 have k0:=b1.cell (i:=0) rfl
 have k1:=b1.cell (i:=1) rfl
 have k2:=b1.cell (i:=2) rfl
 have HU:=Lib.hid u1
 have HKK:=Lib.hid (And.intro k1 k2)
 clear b1 u1
 generalize w.heap.size=pa at *
 have hfew:((a.next.length:Nat):Int)≤256:=by have:=HOK.out.few;omega
 go_upto_region 2 with (at_make;refine wpList_mk rfl _ _ _ rfl 3 1 8 _ Tryz.underlying22 infoInt rfl (by decide) .i64 .i64 a.next.length a.next.length a.next.length rfl rfl (by omega) (by omega) (by omega) (by omega) ?_)
 have hrep:(rows a.next.length fun _=>[Value.int .i64 0])=ints (accI a 0):=by rw [rows_one];unfold accI;rw [HOK.out.acc];simp [ints]
 change Code.wp _ _ _ _ (w1.alloc (.cells (rows a.next.length fun _=>[Value.int .i64 0]).toArray 3))
 rw [hrep]
 have bN:=Blk.new w1 (ints (accI a 0)) 3
 have uN:=(Upd.refl [] w1).alloc (.cells (ints (accI a 0)).toArray 3)
 generalize (w1.alloc (.cells (ints (accI a 0)).toArray 3))=wn at *
 generalize hnb:w1.heap.size=nb at bN ⊢
 have n2:=uN.some k2 (by simp)
 have HNB:=Lib.hid (And.intro bN (And.intro uN (Nat.le_of_eq hnb)))
 clear bN uN hnb hrep k0 k1 k2
 go_wp2_with fail
 go_loopw [23] (fun kv wr=>∃ i:Nat,kv=.int .i64 i∧i≤a.acc.length∧Hid (Blk wr nb (ints (accI a i)) 3∧Upd [] w1 wr)) (fun kv _=>a.acc.length - (intOf kv).toNat)
 case atStart=>exact ⟨0,rfl,Nat.zero_le _,Lib.hid ⟨HNB.out.1,HNB.out.2.1⟩⟩
 case round=>
  obtain ⟨i,rfl,hi,HI⟩:=hrel
  by_cases hlt:i<a.acc.length
  ·have hli:(i:Int)<a.acc.length:=by omega
   have hin:(i:Int)<a.next.length:=by have:=HOK.out.acc;omega
   obtain ⟨g,off,he,hc⟩:=(HF.out.ext HU.out).acc hlt
   cases he
   have hc':=HI.out.2.some hc (by simp)
   have n0:wr.cell? ⟨nb,i,none⟩=some (.int .i64 0):=HI.out.1.cell (ints_get (accI_at hlt))
   have nf:∀ q,wr.frozen? ⟨nb,q,none⟩=false:=HI.out.1.free
   clear hc
   cases hx:a.acc.getD i false with
   | false=>
    have HX:=Lib.hid (accI_false hlt hx)
    rw [hx] at hc'
    clear hx
    go_wp2_with fail
    exact ⟨⟨i+1,by go_num,by omega,Lib.hid ⟨by rw [HX.out];exact HI.out.1,HI.out.2⟩⟩,by simp [intOf];omega⟩
   | true=>
    have HX:=Lib.hid (accI_true hlt hx)
    rw [hx] at hc'
    clear hx
    go_wp2_with fail
    exact ⟨⟨i+1,by go_num,by omega,Lib.hid ⟨by rw [←HX.out];exact HI.out.1.set i (.int .i64 1),HI.out.2.fresh ((Upd.refl [nb] wr).set (p:=⟨nb,i,none⟩) (by simp) _) (fun b hb=>.inr (by simp at hb;subst hb;exact HNB.out.2.2))⟩⟩,by simp [intOf];omega⟩
  ·have hie:i=a.acc.length:=by omega
   subst hie
   have hni:¬ ((a.acc.length:Int)<a.acc.length):=by omega
   have HI0:=Lib.hid (show Blk wr nb (ints ((blkS a 0).map Int.ofNat)) 3∧Upd [] w1 wr from ⟨by rw [←accI_full];exact HI.out.1,HI.out.2⟩)
   have HW:=Lib.hid (HI0.out.2)
   have hmm:=@run_makeMap Tryz.prog
   go_wp2_with fail
   go_loopw [3,6] (fun s3 s6 wr2=>∃ (j nb2:Nat),s3=.slice (some ⟨nb2,0,none⟩) a.next.length a.next.length∧s6=.int .i64 (cntS a j:Nat)∧Hid (Blk wr2 nb2 (ints ((blkS a j).map Int.ofNat)) 3∧Upd [] w1 wr2∧w1.heap.size≤nb2)) (fun _ s6 _=>300 - (intOf s6).toNat)
   case atStart=>exact ⟨0,nb,rfl,rfl,Lib.hid ⟨HI0.out.1,HI0.out.2,HNB.out.2.2⟩⟩
   case round=>
    obtain ⟨j,nb2,rfl,rfl,HJ⟩:=hrel
    have hcb:=cntS_le HOK.out j
    have hlb:=blkS_lt HOK.out j
    have hll:=blkS_len HOK.out j
    have HCM:=Lib.hid (And.intro (cntS_mono a) (And.intro hlb hll))
    have HSB:=Lib.hid (show (scan (fun s=>kB (keyB a (blkS a j) s)) a.next.length []).2=blkS a (j+1)∧(scan (fun s=>kB (keyB a (blkS a j) s)) a.next.length []).1.length=cntS a (j+1) from scan_kB (f:=keyB a (blkS a j)) (n:=a.next.length) (fun s _=>keyB_lt hlb s))
    generalize hbf:cntS a j=bf at *
    have HBF:=Lib.hid hbf
    clear hbf hlb hll
    obtain ⟨wo,rfl⟩:∃ wo:World,wo=wr:=⟨_,rfl⟩
    have HM0:=Lib.hid (MSX.new wo Tryz.prog 9)
    have hj1:=HJ.out.2.1.some HKK.out.1 (by simp)
    go_upto_region 10 with fail
    have uM:=(Upd.refl [] wo).alloc (.map #[] 0)
    have hzM:(wo.alloc (.map #[] 0)).heap.size=wo.heap.size+1:=by simp
    generalize (wo.alloc (.map #[] 0))=w2 at *
    generalize hmb:wo.heap.size=mb at *
    go_upto_region 11 with (at_make;refine wpList_mk rfl _ _ _ rfl 3 1 8 _ Tryz.underlying22 infoInt rfl (by decide) .i64 .i64 a.next.length a.next.length a.next.length rfl rfl (by omega) (by omega) (by omega) (by omega) ?_)
    have hrep:(rows a.next.length fun _=>[Value.int .i64 0])=ints (List.replicate a.next.length 0):=by rw [rows_one];simp [ints]
    change Code.wp _ _ _ _ (w2.alloc (.cells (rows a.next.length fun _=>[Value.int .i64 0]).toArray 3))
    rw [hrep]
    have bN:=Blk.new w2 (ints (List.replicate a.next.length 0)) 3
    have uN:=(Upd.refl [] w2).alloc (.cells (ints (List.replicate a.next.length 0)).toArray 3)
    generalize (w2.alloc (.cells (ints (List.replicate a.next.length 0)).toArray 3))=w3 at *
    rw [hzM] at bN
    generalize hn3:mb+1=nb3 at bN ⊢
    have H3:=Lib.hid (And.intro bN (And.intro (uM.step uN) (And.intro (HM0.out.upd uN (by simp)) (And.intro (Nat.le_of_eq hmb) (show mb<nb3 by omega)))))
    have hj2:=(uM.step uN).some hj1 (by simp)
    clear bN uM uN hrep hzM hmb hn3 HM0 hj1
    have HJ2:=Lib.hid (HJ.out.2.1.step H3.out.2.1)
    obtain ⟨w13,rfl⟩:∃ w13:World,w13=w3:=⟨_,rfl⟩
    go_wp2_with fail
    go_loopw [40] (fun kv wr3=>∃ (s:Nat) (K:List (List UInt8)) (row:List Nat),kv=.int .i64 s∧s≤a.next.length∧Hid (scan (fun s=>kB (keyB a (blkS a j) s)) s []=(K,row)∧MSX Tryz.prog 9 wr3 mb K.length (pmap K)∧Blk wr3 nb3 (ints (row.map Int.ofNat++List.replicate (a.next.length-s) 0)) 3∧Upd [] wo wr3∧row.length=s)) (fun kv _=>a.next.length - (intOf kv).toNat)
    case atStart=>exact ⟨0,[],[],rfl,Nat.zero_le _,Lib.hid ⟨rfl,H3.out.2.2.1.congr (fun y=>by simp [pmap]),by simpa using H3.out.1,H3.out.2.1,rfl⟩⟩
    case round=>
     obtain ⟨s,K,row,rfl,hs,HS⟩:=hrel
     by_cases hlt:s<a.next.length
     ·have hli:(s:Int)<a.next.length:=by omega
      have hKl:K.length≤s:=by
       have:=scan_le (fun s=>kB (keyB a (blkS a j) s)) s []
       rw [HS.out.1] at this
       simpa using this
      obtain ⟨g,off,ar,cr,he,hrc,hrow⟩:=(HF.out.ext (HU.out.step (HJ.out.2.1.step HS.out.2.2.2.1))).row hlt
      cases he
      have HROW:=Lib.hid (And.intro (HOK.out.rows _ (gd_memA (d:=[]) hlt)) hrow)
      have HKE:=Lib.hid (show keyB a (blkS a j) s=(blkS a j).getD s 0::(a.next.getD s []).map (fun t=>(blkS a j).getD t.toNat 0) from rfl)
      have hcl:=cuts_len HOK.out
      have hbl:∀ t,t<a.next.length→wr.cell? ⟨nb2,t,none⟩=some (.int .i64 ((blkS a j).getD t 0:Nat)):=fun t ht=>by
       refine HS.out.2.2.2.1.some (HJ.out.1.cell (ints_get ?_)) (by simp)
       rw [List.getElem?_map,gd_some (d:=0) (by rw [HCM.out.2.2];exact ht)]
       rfl
      have hb256:∀ t,t<a.next.length→(blkS a j).getD t 0<256:=fun t ht=>HCM.out.2.1 _ (gd_memA (by rw [HCM.out.2.2];exact ht))
      have HBL:=Lib.hid (And.intro hbl hb256)
      have hx:=hb256 s hlt
      have hcx:=hbl s hlt
      generalize a.next.getD s []=rw_ at *
      have hrl:rw_.length≤256:=by rw [HROW.out.1.1];exact hcl
      generalize (blkS a j).getD s 0=bs at *
      have hxi:(bs:Int)≤255:=by omega
      clear hbl hb256 hrow hcl
      obtain ⟨wk,rfl⟩:∃ wk:World,wk=wr:=⟨_,rfl⟩
      go_upto_region 15 with fail
      change Code.wp _ _ _ _ (wk.alloc (.cells #[.int .u8 bs] 5))
      have HOK0:=Lib.hid (byte_own wk hx)
      generalize (wk.alloc (.cells #[.int .u8 bs] 5))=w4 at *
      generalize wk.heap.size=kb at HOK0 ⊢
      have HKT:=Lib.hid (show (keyB a (blkS a j) s).take 1=[bs] by rw [HKE.out];rfl)
      go_wp2_with fail
      go_loopw [11,53] (fun s11 s53 wr4=>∃ k:Nat,s53=.int .i64 k∧k≤rw_.length∧Hid (OwW 5 1 (k+1) wk (.slice none 0 0) s11 (bcs (kB ((keyB a (blkS a j) s).take (k+1)))) wr4)) (fun _ s53 _=>rw_.length - (intOf s53).toNat)
      case atStart=>exact ⟨0,rfl,Nat.zero_le _,Lib.hid (by rw [HKT.out];exact HOK0.out)⟩
      case round=>
       obtain ⟨k,rfl,hk,HO⟩:=hrel
       by_cases hkl:k<rw_.length
       ·have hkli:(k:Int)<rw_.length:=by omega
        have htn:=(HROW.out.1.2 _ (gd_memA (d:=0) hkl))
        obtain ⟨_,_,he,_,_,hce⟩:=HROW.out.2.elems
        cases he
        obtain ⟨g5,o5,rfl,kk⟩:=hce (by omega)
        have hcx2:=HO.out.fresh.some (kk k _ (ints_get (gd_some (d:=0) hkl))) (by simp)
        obtain ⟨tn,htx⟩:∃ tn:Nat,rw_.getD k 0=tn:=⟨(rw_.getD k 0).toNat,by omega⟩
        have HKT2:=Lib.hid (show (keyB a (blkS a j) s).take (k+2)=(keyB a (blkS a j) s).take (k+1)++[(blkS a j).getD tn 0] by
         rw [HKE.out,List.take_succ_cons,List.take_succ_cons,List.take_add_one,List.getElem?_map,gd_some (d:=0) hkl,htx]
         rfl)
        rw [htx] at hcx2 htn
        have htn':tn<a.next.length:=by omega
        have hti:(tn:Int)<a.next.length:=by omega
        have hbt:=HO.out.fresh.some (HBL.out.1 tn htn') (by simp)
        have hb256:=HBL.out.2 tn htn'
        generalize (blkS a j).getD tn 0=bt at *
        have hbti:(bt:Int)≤255:=by omega
        have HBC:=Lib.hid (bcs_one hb256)
        have hk256:k≤256:=by omega
        clear hce kk htx htn'
        go_wp2_with (refine wpList_push rfl rfl _ _ _ _ rfl rfl rfl 5 1 1 _ Tryz.underlying92 infoByte rfl (by decide) (by decide) (.int .u8 (bt:Nat)) [.int .u8 (bt:Nat)] rfl rfl rfl (by simp [Value.oneCell']) u11 _ _ HO.out.row rfl rfl (by unfold maxLen;omega) (by omega) ?_;intro g7 c7 w7 o7 u7 k7;have HP:=Lib.hid (HO.out.push o7 u7 k7);clear o7 u7 k7)
        refine ⟨⟨k+1,by go_num,by omega,Lib.hid ?_⟩,by simp [intOf];omega⟩
        rw [HKT2.out]
        have:=HP.out
        rw [←HBC.out] at this
        simpa [bcs,kB] using this
       ·have hke:k=rw_.length:=by omega
        have hkn:¬ ((k:Int)<rw_.length):=by omega
        have HKF:=Lib.hid (show (keyB a (blkS a j) s).take (k+1)=keyB a (blkS a j) s∧(kB (keyB a (blkS a j) s)).length=k+1 by
         have hl:(keyB a (blkS a j) s).length=k+1:=by rw [HKE.out];simp [hke]
         exact ⟨List.take_of_length_le (by omega),by simp [kB,hl]⟩)
        have hk256:k≤256:=by omega
        have HR:=Lib.hid (show OwW 5 1 (kB (keyB a (blkS a j) s)).length wk (.slice none 0 0) u11 (bcs (kB (keyB a (blkS a j) s))) wr by have:=HO.out;rw [HKF.out.1] at this;rw [HKF.out.2];exact this)
        have HKS:=Lib.hid (show (ByteArray.mk (kB (keyB a (blkS a j) s)).toArray).size≤maxLen by
         have:=HKF.out.2
         simp [ByteArray.size,this]
         unfold maxLen
         omega)
        have HSO:=Lib.hid (fun hm=>scan_old' HS.out.1 (f:=fun s=>kB (keyB a (blkS a j) s)) hm)
        have HSN:=Lib.hid (fun hm=>scan_new' HS.out.1 (f:=fun s=>kB (keyB a (blkS a j) s)) hm)
        have HMX:=Lib.hid (HS.out.2.1.upd HR.out.fresh (by simp))
        have bR:=HS.out.2.2.1.upd HR.out.fresh (by simp)
        have HBR:=Lib.hid bR
        generalize kB (keyB a (blkS a j) s)=key at *
        clear hke hkl bR
        by_cases hmem:key∈K
        ·have HL:=Lib.hid (And.intro (show pmap K key=some (.int .i64 (place K key:Nat)) by unfold pmap;rw [if_pos hmem]) (HSO.out hmem))
         clear hmem HSO HSN
         generalize place K key=pl at *
         go_upto_region 24 with (first|(refine wpList_bstr Tryz.underlying92 Tryz.underlying5 Tryz.underlying9 _ rfl rfl u11 key rfl HR.out.row ?_)|(refine wpList_mslook_ok Tryz.underlying9 Tryz.underlying139 infoInt _ _ rfl rfl mb K.length (pmap K) ⟨key.toArray⟩ rfl rfl HMX.out.ms HKS.out ?_;rw [show pmap K (ByteArray.mk key.toArray).data.toList=some (.int .i64 (pl:Nat)) from HL.out.1];simp only [Option.getD_some,Option.isSome_some]))
         have c8:wr.cell? ⟨nb3,s,none⟩=some (.int .i64 0):=HBR.out.cell (row_zero HS.out.2.2.2.2 hlt)
         have f8:∀ q,wr.frozen? ⟨nb3,q,none⟩=false:=HBR.out.free
         go_wp2_with fail
         have uS:Upd [nb3] wr (wr.setCell ⟨nb3,s,none⟩ (.int .i64 (pl:Nat))):=(Upd.refl [nb3] wr).set (p:=⟨nb3,s,none⟩) (by simp) _
         refine ⟨⟨s+1,K,row++[pl],by go_num,by omega,Lib.hid ⟨HL.out.2,HMX.out.upd uS (by have:=H3.out.2.2.2.2;simp;omega),?_,(HS.out.2.2.2.1.step HR.out.fresh).fresh uS (fun b hb=>.inr (by simp at hb;subst hb;have:=H3.out.2.2.2.1;have:=H3.out.2.2.2.2;omega)),by simp [HS.out.2.2.2.2]⟩⟩,by simp [intOf];omega⟩
         have:=HBR.out.set s (.int .i64 (pl:Nat))
         rw [row_set HS.out.2.2.2.2 hlt] at this
         exact this
        ·have HL:=Lib.hid (And.intro (show pmap K key=none by unfold pmap;rw [if_neg hmem]) (And.intro (HSN.out hmem) (pmap_push hmem)))
         clear hmem HSO HSN
         have hKm:K.length<1000:=by have:=hKl;omega
         go_upto_region 24 with (first
          | (refine wpList_bstr Tryz.underlying92 Tryz.underlying5 Tryz.underlying9 _ rfl rfl u11 key rfl HR.out.row ?_)
          | (refine wpList_mslook_ok Tryz.underlying9 Tryz.underlying139 infoInt _ _ rfl rfl mb K.length (pmap K) ⟨key.toArray⟩ rfl rfl HMX.out.ms HKS.out ?_;rw [show pmap K (ByteArray.mk key.toArray).data.toList=none from HL.out.1];simp only [Option.getD_none,Option.isSome_none])
          | (refine wpList_msxlen rfl _ _ rfl Tryz.underlying139 mb K.length (pmap K) rfl HMX.out ?_)
          | (refine wpList_msxput Tryz.underlying9 Tryz.underlying139 rfl _ _ _ rfl mb K.length (pmap K) ⟨key.toArray⟩ (.int .i64 (K.length:Nat)) rfl rfl rfl HMX.out (by unfold maxLen;omega) HKS.out HL.out.1 ?_;intro w9 m9 u9;have HU9:=Lib.hid (And.intro m9 u9);clear m9 u9))
         have bR:=HBR.out.upd HU9.out.2 (by have:=H3.out.2.2.2.2;simp;omega)
         have c8:w9.cell? ⟨nb3,s,none⟩=some (.int .i64 0):=bR.cell (row_zero HS.out.2.2.2.2 hlt)
         have f8:∀ q,w9.frozen? ⟨nb3,q,none⟩=false:=bR.free
         have HBR9:=Lib.hid bR
         clear bR
         go_wp2_with fail
         have uS:Upd [nb3] w9 (w9.setCell ⟨nb3,s,none⟩ (.int .i64 (K.length:Nat))):=(Upd.refl [nb3] w9).set (p:=⟨nb3,s,none⟩) (by simp) _
         have hKK:(K++[key]).length=K.length+1:=by simp
         refine ⟨⟨s+1,K++[key],row++[K.length],by go_num,by omega,Lib.hid ⟨HL.out.2.1,?_,?_,((HS.out.2.2.2.1.step HR.out.fresh).fresh HU9.out.2 (fun b hb=>.inr (by simp at hb;subst hb;exact H3.out.2.2.2.1))).fresh uS (fun b hb=>.inr (by simp at hb;subst hb;have:=H3.out.2.2.2.1;have:=H3.out.2.2.2.2;omega)),by simp [HS.out.2.2.2.2]⟩⟩,by simp [intOf];omega⟩
         ·rw [hKK]
          exact (HU9.out.1.congr (fun z=>HL.out.2.2 z)).upd uS (by have:=H3.out.2.2.2.2;simp;omega)
         ·have:=HBR9.out.set s (.int .i64 (K.length:Nat))
          rw [row_set HS.out.2.2.2.2 hlt] at this
          exact this
     ·have hse:s=a.next.length:=by omega
      have hsn:¬ ((s:Int)<a.next.length):=by omega
      have HFN:=Lib.hid (show K.length=cntS a (j+1)∧row=blkS a (j+1) by
       have h1:=HSB.out
       rw [←hse,HS.out.1] at h1
       exact ⟨h1.2,h1.1⟩)
      have HBR:=Lib.hid (show Blk wr nb3 (ints ((blkS a (j+1)).map Int.ofNat)) 3 by
       have h1:=HS.out.2.2.1
       rw [hse,Nat.sub_self,List.replicate_zero,List.append_nil,HFN.out.2] at h1
       exact h1)
      have HMX:=Lib.hid HS.out.2.1
      have HUO:=Lib.hid HS.out.2.2.2.1
      have hc1:=cntS_le HOK.out (j+1)
      have hc0:=cntS_up HOK.out j
      rw [HFN.out.1] at HMX
      generalize hcn:cntS a (j+1)=cn at *
      have HCN:=Lib.hid hcn
      clear hse hlt HS HFN hcn
      by_cases hst:cn=bf
      ·have hbb:((cn:Int) == (bf:Int))=true:=by simp;omega
       have HEQ:=Lib.hid (show cntS a (j+1)=cntS a j by rw [HCN.out,HBF.out];exact hst)
       clear hst
       go_wp2_with (at_len;refine wpList_msxlen rfl _ _ rfl Tryz.underlying139 mb cn _ rfl HMX.out ?_)
       go_ret
       have z1:=HU.out.size
       have z2:=HJ.out.2.1.size
       have z3:=H3.out.2.2.2.1
       have z4:=H3.out.2.2.2.2
       have hbl:=blkS_len HOK.out (j+1)
       refine ⟨.slice (some ⟨nb3,0,none⟩) a.next.length a.next.length,rfl,j,HEQ.out,OwW.of_blk (pad:=[]) (cap:=a.next.length) (by simpa using HBR.out) (by simp [ints,hbl]) (by simp [ints,hbl]) (by unfold maxLen;omega),HU.out.step (HJ.out.2.1.step HUO.out),fun q hq=>?_⟩
       simp only [Value.ownBlock,Option.some.injEq] at hq
       exact .inr (by omega)
      ·have hbb:((cn:Int) == (bf:Int))=false:=by simp;omega
       have hlt':bf<cn:=by have:=HBF.out;omega
       clear hst
       go_wp2_with (at_len;refine wpList_msxlen rfl _ _ rfl Tryz.underlying139 mb cn _ rfl HMX.out ?_)
       have z2:=HJ.out.2.1.size
       have z3:=H3.out.2.2.2.1
       have z4:=H3.out.2.2.2.2
       exact ⟨⟨j+1,nb3,rfl,by rw [HCN.out],Lib.hid ⟨HBR.out,HJ.out.2.1.step HUO.out,by omega⟩⟩,by simp [intOf];omega⟩
end
end Aut
end Go.Proofs.YtjclbjdkkdijbaaGreat
end
section
open Go.RowKit
namespace Go.Proofs.YtjclbjdkkdijbaaGreat
open L
namespace Aut
open Auto
attribute [-go_sem] sliced
theorem iLit_wf {n:Nat} (h:n<1048576):(Lit.int .i64 (n:Int)).wf=true:=lit_i64 ⟨by omega,by omega⟩
def iE:KE Tryz.prog 3 Nat where
 key n:=.int .i64 n
 lit n:=.int .i64 n
 ok n:=n<1048576
 kd:=Go.Maps.int_keyed Tryz.underlying3
 enc n h:=by
  have:=iLit_wf h
  unfold keyOf
  rw [Tryz.underlying3]
  simp [mapKey,Tryz.underlying3,this]
 inj x y _ _ h:=by
  have:(x:Int)=y:=by simpa using h
  omega
theorem keys_few {S:List Nat} {key:Nat→Nat} (h:(S.map key).Nodup) (hk:∀ s∈S,key s<256):S.length≤256:=by
 have:=nodup_lt 256 _ h fun x hx=>by
  obtain ⟨s,hs,rfl⟩:=List.mem_map.1 hx
  exact hk s hs
 simpa using this
def blkN (bl:List Nat) (s:Nat):Nat:=bl.getD s 0
section
variable {w w':World} {v:Value}
set_option maxRecDepth 100000 in
theorem Min1_calls {bl:List Nat} {bb s:Nat} {vb:Value} (hb:w.cell? ⟨bb,0,none⟩=some vb) (hs:SL w 1 vb bl.length (ints (bl.map Int.ofNat))) (h:s<bl.length):Calls Tryz.prog 68 #[.int .i64 s,.pointer (some ⟨bb,0,none⟩)] w fun e w'=>e=.returned (.int .i64 (blkN bl s:Nat))∧Upd [] w w':=by
 obtain ⟨a,cap,rfl,_,_,hc⟩:=hs.elems
 obtain ⟨g,off,rfl,hc2⟩:=hc (by omega)
 have hcell:=hc2 s (.int .i64 (blkN bl s:Nat)) (by
  refine ints_get ?_
  rw [List.getElem?_map,gd_some (d:=0) h]
  rfl)
 generalize blkN bl s=x at *
 have hi:(s:Int)<bl.length:=by omega
 clear hs hc hc2
 go_enter Tryz.func68,Tryz.ntmps68
 go_wp2_with fail
 go_ret
 exact ⟨rfl,Upd.refl _ _⟩
set_option maxRecDepth 100000 in
theorem Min2_calls {a:Au} {ab s k:Nat} {x y:Value} {a2:Option Addr} {c2:Nat} (ha:AuF w a [x,.slice a2 a.next.length c2,y]) (oa:Ok a) (p1:w.cell? ⟨ab,1,none⟩=some (.slice a2 a.next.length c2)) (hs:s<a.next.length) (hk:k<a.cuts.length) :
 Calls Tryz.prog 69 #[.int .i64 s,.int .i64 k,.pointer (some ⟨ab,0,none⟩)] w fun e w'=>e=.returned (.tuple #[.int .i64 (rowA a s k:Nat),.int .i64 0])∧Upd [] w w':=by
 obtain ⟨g,off,ar,cr,rfl,hc,hrow⟩:=ha.row hs
 have hr:=oa.rows _ (gd_memA (d:=[]) hs)
 have HR:=Lib.hid (show rowA a s k=((a.next.getD s []).getD k 0).toNat from rfl)
 generalize a.next.getD s []=row at *
 obtain ⟨_,_,he,_,_,hce⟩:=hrow.elems
 cases he
 obtain ⟨g2,o2,rfl,kk⟩:=hce (by omega)
 have ht:=kk k _ (ints_get (gd_some (d:=0) (by omega)))
 have hn:=(hr.2 _ (gd_memA (d:=0) (by omega:k<row.length))).1
 obtain ⟨t,ht'⟩:∃ t:Nat,row.getD k 0=t:=⟨_,(Int.toNat_of_nonneg hn).symm⟩
 rw [ht',Int.toNat_natCast] at HR
 rw [ht'] at ht
 have hkr:k<row.length:=by omega
 have hsi:(s:Int)<a.next.length:=by omega
 have hki:(k:Int)<row.length:=by omega
 clear ha oa hrow hr hce kk hn ht'
 go_enter Tryz.func69,Tryz.ntmps69
 go_wp2_with fail
 go_ret2
 rw [HR.out]
 exact ⟨rfl,Upd.refl _ _⟩
set_option maxRecDepth 100000 in
set_option maxHeartbeats 16000000 in
theorem numberI_calls {a:Au} {bl:List Nat} {ab bb:Nat} {x y vb:Value} {a2:Option Addr} {c2:Nat} (ha:AuF w a [x,.slice a2 a.next.length c2,y]) (oa:Ok a) (p1:w.cell? ⟨ab,1,none⟩=some (.slice a2 a.next.length c2)) (hb:w.cell? ⟨bb,0,none⟩=some vb) (hbs:SL w 1 vb bl.length (ints (bl.map Int.ofNat))) (hbl:bl.length=a.next.length) (hbr:∀ n∈bl,n<256) :
 Calls Tryz.prog 67 #[.int .i64 0,.int .i64 a.cuts.length,.func (.func 68) #[] #[.pointer (some ⟨bb,0,none⟩)],.func (.func 69) #[] #[.pointer (some ⟨ab,0,none⟩)]] w fun e w'=>
  ∃ S T sv tv,upToK (blkN bl) 0 a.cuts.length (rowA a) S.length=(S,T)∧e=.returned (.tuple #[sv,tv,.int .i64 0])∧OwW 3 1 S.length w (.slice none 0 0) sv (ints (S.map Int.ofNat)) w'∧CL w' tv (natRows T)∧S.length≤256∧(∀ s∈S,s<a.next.length)∧(∀ (U:List Nat) (w2:World),Upd U w' w2→(∀ b∈U,b<w.heap.size∨w'.heap.size≤b)→CL w2 tv (natRows T)):=by
 have hm:a.cuts.length≤256:=cuts_len oa
 have HNX:=Lib.hid (show ∀ (w5:World),Upd [] w w5→∀ s k,s<a.next.length→k<a.cuts.length→Calls Tryz.prog 69 #[.int .i64 s,.int .i64 k,.pointer (some ⟨ab,0,none⟩)] w5 fun e w'=>e=.returned (.tuple #[.int .i64 (rowA a s k:Nat),.int .i64 0])∧Upd [] w5 w' from fun w5 u5 s k hs hk=>
  Min2_calls (ha.ext u5) oa (u5.some p1 (by simp)) hs hk)
 have HNG:=Lib.hid (show ∀ (s k:Nat),s<a.next.length→k<a.cuts.length→rowA a s k<a.next.length from fun s k hs hk=>by
  have h1:=oa.rows _ (gd_memA (d:=[]) hs)
  have h2:=h1.2 _ (gd_memA (d:=0) (by omega:k<(a.next.getD s []).length))
  show ((a.next.getD s []).getD k 0).toNat<_
  omega)
 have HKB:=Lib.hid (show ∀ s,s<a.next.length→blkN bl s<256 from fun s hs=>hbr _ (gd_memA (d:=0) (by omega)))
 have HAB:=Lib.hid (And.intro oa.some_ oa.few)
 have HK:=Lib.hid (show ∀ (w5:World),Upd [] w w5→∀ s:Nat,s<a.next.length→Calls Tryz.prog 68 #[.int .i64 s,.pointer (some ⟨bb,0,none⟩)] w5 fun e w'=>e=.returned (.int .i64 (blkN bl s:Nat))∧Upd [] w5 w' from fun w5 u5 s hs=>Min1_calls (u5.some hb (by simp)) (hbs.upd u5 (by simp)) (by omega))
 clear ha oa p1 hb hbs hbl hbr
 generalize hcs:a.cuts.length=m at *
 clear hcs
 go_enter Tryz.func67,Tryz.ntmps67
 go_upto_region 2 with fail
 have b2:=Blk.new w [.int .i64 0] 3
 have u2:=(Upd.refl [] w).alloc (.cells #[.int .i64 0] 3)
 have z2:(w.alloc (.cells #[.int .i64 0] 3)).heap.size=w.heap.size+1:=by simp
 change Code.wp _ _ _ _ (w.alloc (.cells #[.int .i64 0] 3))
 change Blk (w.alloc (.cells #[.int .i64 0] 3)) _ _ _ at b2
 generalize (w.alloc (.cells #[.int .i64 0] 3))=w2 at *
 generalize hsb:w.heap.size=sb at *
 have H2:=Lib.hid (And.intro b2 (And.intro u2 (And.intro z2 hsb)))
 clear b2 u2 z2 hsb
 have hmm:=@run_makeMap Tryz.prog
 have HM0:=Lib.hid (GM.new iE w2)
 have HM1:=Lib.hid ((Upd.refl [] w2).alloc (.map #[] 0))
 have HK0:=Lib.hid (show Calls Tryz.prog 68 #[.int .i64 0,.pointer (some ⟨bb,0,none⟩)] (w2.alloc (.map #[] 0)) fun e w'=>e=.returned (.int .i64 (blkN bl 0:Nat))∧Upd [] (w2.alloc (.map #[] 0)) w' from HK.out _ (H2.out.2.1.step HM1.out) 0 HAB.out.1)
 have HB0:=Lib.hid (show blkN bl 0<1048576 by have:=HKB.out 0 HAB.out.1;omega)
 go_upto_region 3 with (first|((with_reducible refine HK0.out.mono ?_);rintro e w5 ⟨rfl,u5⟩;have HU5:=Lib.hid u5;clear u5)|(refine wpList_gmins (E:=iE) Tryz.underlying148 rfl _ _ _ rfl _ 0 _ (blkN bl 0) (.int .i64 0) rfl rfl rfl (HM0.out.upd HU5.out (by simp)) (by unfold maxLen;omega) HB0.out ?_;intro w7 m7 u7))
 have hz2:=H2.out.2.2.1
 have hsb:=H2.out.2.2.2
 have hN0:Np iE 3 1 w w2.heap.size (.slice (some ⟨sb,0,none⟩) 1 1) (.slice none 0 0) 1 1 (ints [0]) [] [] [] (pmap [blkN bl 0]) w7:=by
  have U7:Upd [w2.heap.size] w2 w7:=(Upd.nil (HM1.out.step HU5.out)).trans u7
  have hB7:=H2.out.1.upd U7 (by simp;omega)
  refine ⟨⟨⟨by decide,.inr ⟨sb,1,#[.int .i64 0],rfl,Nat.zero_le _,hB7,Nat.le_refl _,by decide,by decide,by simp [ints]⟩⟩,?_,fun g hg=>?_⟩,m7.congr fun y=>by rw [←pmap_one],by omega,fun q hq=>?_,OwnL.nil _ _ _,⟨by simp,by simp [Value.ownBlock],by simp⟩,by simp,by simp⟩
  ·exact H2.out.2.1.fresh U7 (fun b hb=>.inr (by simp at hb;omega))
  ·simp only [Value.ownBlock,Option.some.injEq] at hg;exact .inr (by omega)
  ·simp only [Value.ownBlock,Option.some.injEq] at hq
   exact ⟨by omega,by simp,by simp [Value.ownBlock],by simp⟩
 have HN0:=Lib.hid hN0
 clear hN0 m7 u7 hmm HM0 HM1 HK0 HU5 H2 hz2 hsb
 generalize w2.heap.size=mb at *
 go_wp2_with fail
 go_loopw [11,13,14] (fun sw tw iv wr=>∃ (i:Nat) (S:List Nat) (T:List (List Nat)) (F:List Nat) (sv tv:Value),sv=sw∧tv=tw∧iv=.int .i64 i∧i≤S.length∧Hid (upToK (blkN bl) 0 m (rowA a) i=(S,T)∧(S.map (blkN bl)).Nodup∧(∀ s∈S,s<a.next.length)∧Np iE 3 1 w mb sv tv S.length S.length (ints (S.map Int.ofNat)) T F [] (pmap (S.map (blkN bl))) wr∧T.length≤i)) (fun _ _ iv _=>256 - (intOf iv).toNat)
 case atStart=>exact ⟨0,[0],[],[],_,_,rfl,rfl,rfl,Nat.zero_le _,Lib.hid ⟨rfl,by simp,fun s hs=>by simp at hs;subst hs;exact HAB.out.1,HN0.out,Nat.le_refl _⟩⟩
 case round=>
  obtain ⟨i,S,T,F,sv,tv,rfl,rfl,rfl,hi,HI⟩:=hrel
  obtain ⟨asv,csv,rfl,_⟩:=id HI.out.2.2.2.1.st.form
  have hS256:=keys_few HI.out.2.1 (fun s hs=>HKB.out s (HI.out.2.2.1 s hs))
  by_cases hlt:i<S.length
  ·have hli:(i:Int)<S.length:=by omega
   have hmI:((m:Nat):Int)≤256:=by omega
   go_upto_region 8 with (at_make;refine wpList_mk rfl _ _ _ rfl 3 1 8 _ Tryz.underlying22 infoInt rfl (by decide) .i64 .i64 m m m rfl rfl (by omega) (by omega) (by omega) (by omega) ?_)
   have hrep:(rows m fun _=>[Value.int .i64 0])=ints (List.replicate m 0):=by rw [rows_one];simp [ints]
   change Code.wp _ _ _ _ (wr.alloc (.cells (rows m fun _=>[Value.int .i64 0]).toArray 3))
   rw [hrep]
   have bR:=Blk.new wr (ints (List.replicate m 0)) 3
   have uR:=(Upd.refl [] wr).alloc (.cells (ints (List.replicate m 0)).toArray 3)
   have hzR:wr.heap.size<(wr.alloc (.cells (ints (List.replicate m 0)).toArray 3)).heap.size:=by simp
   have hNr:=HI.out.2.2.2.1.row uR hzR
   generalize (wr.alloc (.cells (ints (List.replicate m 0)).toArray 3))=wq at *
   generalize wr.heap.size=rb at *
   have hs0:=List.getElem?_eq_getElem hlt
   generalize S[i]=s at *
   have HQ:=Lib.hid (And.intro bR (And.intro hNr hs0))
   clear hrep bR uR hzR hNr hs0
   go_wp2_with fail
   go_loopw [11,37] (fun sw kv wk=>∃ (k:Nat) (S':List Nat) (row:List Nat) (sv':Value),sv'=sw∧kv=.int .i64 k∧k≤m∧Hid (scanK (blkN bl) (rowA a s) k S=(S',row)∧(S'.map (blkN bl)).Nodup∧(∀ s∈S',s<a.next.length)∧S'[i]?=some s∧Np iE 3 1 w mb sv' tv S'.length S'.length (ints (S'.map Int.ofNat)) T F [rb] (pmap (S'.map (blkN bl))) wk∧Blk wk rb (ints (row.map Int.ofNat++List.replicate (m-k) 0)) 3∧row.length=k)) (fun _ kv _=>m - (intOf kv).toNat)
   case atStart=>exact ⟨0,S,[],_,rfl,rfl,Nat.zero_le _,Lib.hid ⟨rfl,HI.out.2.1,HI.out.2.2.1,HQ.out.2.2,HQ.out.2.1,by simpa using HQ.out.1,rfl⟩⟩
   case round=>
    obtain ⟨k,S',row,sv',rfl,rfl,hk,HJ⟩:=hrel
    obtain ⟨asv',csv',rfl,_,_,hcell⟩:=id HJ.out.2.2.2.2.1.st.form
    have hS':=keys_few HJ.out.2.1 (fun s hs=>HKB.out s (HJ.out.2.2.1 s hs))
    by_cases hkl:k<m
    ·have hki:(k:Int)<m:=by omega
     have hi':i<S'.length:=(List.getElem?_eq_some_iff.1 HJ.out.2.2.2.1).1
     obtain ⟨g,rfl,hcell2⟩:=hcell (by omega) (by decide)
     have hii:(i:Int)<S'.length:=by omega
     have e0:=hcell2 i (.int .i64 s) (by refine ints_get ?_;rw [List.getElem?_map,HJ.out.2.2.2.1];rfl)
     have hgs:=HJ.out.2.2.1 _ (List.mem_of_getElem? HJ.out.2.2.2.1)
     have HC2:=Lib.hid (HNX.out _ HJ.out.2.2.2.2.1.u s k hgs hkl)
     have hgx:=HNG.out s k hgs hkl
     have HSO:=Lib.hid (fun hm=>scanK_old HJ.out.1 (f:=rowA a s) hm)
     have HSN:=Lib.hid (fun hm=>scanK_new HJ.out.1 (f:=rowA a s) hm)
     have HND:=Lib.hid (addK_nodup HJ.out.2.1 (rowA a s k))
     generalize rowA a s k=q at *
     have hbq:=HKB.out q hgx
     have HOK:=Lib.hid (show blkN bl q<1048576 by omega)
     have HG:=Lib.hid (And.intro hgx (And.intro hi' hbq))
     clear hcell hcell2 hgs hi' hbq
     go_upto_region 14 with ((with_reducible refine HC2.out.mono ?_);rintro e w6 ⟨rfl,u6⟩)
     have HX6:=Lib.hid (And.intro (HJ.out.2.2.2.2.1.quiet u6) (HJ.out.2.2.2.2.2.1.upd u6 (by simp)))
     have HKQ:=Lib.hid (fun (w7:World) (u7:Upd [] w6 w7)=>HK.out w7 (HX6.out.1.u.step u7) q hgx)
     clear u6 e0 HC2 hgx
     by_cases hmem:blkN bl q∈S'.map (blkN bl)
     ·have HL:=Lib.hid (And.intro (show pmap (S'.map (blkN bl)) (blkN bl q)=some (.int .i64 (place (S'.map (blkN bl)) (blkN bl q):Nat)) by unfold pmap;rw [if_pos hmem]) (HSO.out hmem))
      clear hmem HSO HSN HND
      generalize blkN bl q=bq at *
      generalize place (S'.map (blkN bl)) bq=pl at *
      go_upto_region 21 with (first|((with_reducible refine (HKQ.out _ (Upd.refl _ _)).mono ?_);rintro e w7 ⟨rfl,u7⟩;have HU7:=Lib.hid u7;clear u7)|(refine wpList_gmlook_ok (E:=iE) Tryz.underlying148 infoInt _ _ rfl rfl mb S'.length (pmap (S'.map (blkN bl))) bq rfl rfl (HX6.out.1.mp.upd HU7.out (by simp)) HOK.out ?_;rw [HL.out.1];simp only [Option.getD_some,Option.isSome_some]))
      have bR:=HX6.out.2.upd HU7.out (by simp)
      have c8:w7.cell? ⟨rb,k,none⟩=some (.int .i64 0):=bR.cell (row_zero HJ.out.2.2.2.2.2.2 hkl)
      have f8:∀ q,w7.frozen? ⟨rb,q,none⟩=false:=bR.free
      have HBR:=Lib.hid bR
      clear bR
      go_wp2_with fail
      have uS:Upd [rb] w7 (w7.setCell ⟨rb,k,none⟩ (.int .i64 (pl:Nat))):=(Upd.refl [rb] w7).set (p:=⟨rb,k,none⟩) (by simp) _
      refine ⟨⟨k+1,S',row++[pl],_,rfl,by go_num,by omega,Lib.hid ⟨HL.out.2,HJ.out.2.1,HJ.out.2.2.1,HJ.out.2.2.2.1,(HX6.out.1.quiet HU7.out).set uS,?_,by simp [HJ.out.2.2.2.2.2.2]⟩⟩,by simp [intOf];omega⟩
      have:=HBR.out.set k (.int .i64 (pl:Nat))
      rw [row_set HJ.out.2.2.2.2.2.2 hkl] at this
      exact this
     ·have HL:=Lib.hid (And.intro (show pmap (S'.map (blkN bl)) (blkN bl q)=none by unfold pmap;rw [if_neg hmem]) (And.intro (HSN.out hmem) (pmap_push hmem)))
      have HND2:=Lib.hid (show ((S'++[q]).map (blkN bl)).Nodup by
       have h1:=HND.out
       unfold addK at h1
       rw [if_neg hmem] at h1
       exact h1)
      have h255:S'.length<256:=by
       have h2:=keys_few HND2.out (fun s hs=>by
        rcases List.mem_append.1 hs with h|h
        ·exact HKB.out s (HJ.out.2.2.1 s h)
        ·simp at h;subst h;exact HG.out.2.2)
       rw [List.length_append,List.length_singleton] at h2
       omega
      have hbb:((S'.length:Int) == 256)=false:=by simp;omega
      clear hmem HSO HSN HND
      generalize hbq:blkN bl q=bq at *
      have HBQ:=Lib.hid hbq
      clear hbq
      go_upto_region 21 with (first
       | ((with_reducible refine (HKQ.out w6 (Upd.refl _ _)).mono ?_);rintro e w7 ⟨rfl,u7⟩;have HU7:=Lib.hid u7;clear u7)
       | (refine wpList_gmlook_ok (E:=iE) Tryz.underlying148 infoInt _ _ rfl rfl mb S'.length (pmap (S'.map (blkN bl))) bq rfl rfl (HX6.out.1.mp.upd HU7.out (by simp)) HOK.out ?_;rw [HL.out.1];simp only [Option.getD_none,Option.isSome_none])
       | ((with_reducible refine (HKQ.out w7 HU7.out).mono ?_);rintro e w8 ⟨rfl,u8⟩;have HU8:=Lib.hid (HU7.out.step u8);clear u8)
       | (refine wpList_gmput (E:=iE) Tryz.underlying148 rfl _ _ _ rfl mb S'.length (pmap (S'.map (blkN bl))) bq (.int .i64 (S'.length:Nat)) rfl rfl rfl (HX6.out.1.mp.upd HU8.out (by simp)) (by unfold maxLen;omega) HOK.out ?_;intro w9 m9 u9;have HU9:=Lib.hid (And.intro m9 u9);have HNP:=Lib.hid ((HX6.out.1.quiet HU8.out).put u9 (f':=pmap (S'.map (blkN bl)++[bq])) (m':=S'.length+1) (m9.congr (fun z=>by have:=HL.out.2.2 z;rw [List.length_map] at this;exact this)));clear m9 u9)
       | (refine wpList_push rfl rfl _ _ _ _ rfl rfl rfl 3 1 8 _ Tryz.underlying22 infoInt rfl (by decide) (by decide) (.int .i64 q) [.int .i64 q] rfl rfl rfl (by simp [Value.oneCell']) _ _ _ HNP.out.st.row rfl rfl (by unfold maxLen;omega) (by omega) ?_;intro g4 c4 w10 o10 u10 k10))
      have hnn:=HNP.out.push o10 u10 k10
      have hrbm:rb ∉ [mb]:=fun h=>HNP.out.mf.2.2 (by simp at h;simp [h])
      have bR:=((HX6.out.2.upd HU8.out (by simp)).upd HU9.out.2 hrbm).upd u10 (fun h=>(HNP.out.sm rb (by simpa using h)).2.2.2 (by simp))
      have c8:w10.cell? ⟨rb,k,none⟩=some (.int .i64 0):=bR.cell (row_zero HJ.out.2.2.2.2.2.2 hkl)
      have f8:∀ q,w10.frozen? ⟨rb,q,none⟩=false:=bR.free
      have HBR:=Lib.hid (And.intro bR hnn)
      have hl1:(S'++[q]).length=S'.length+1:=by simp
      have HL1:=Lib.hid (And.intro hl1 h255)
      clear bR hnn hrbm o10 u10 k10 hl1 hbb
      go_wp2_with fail
      have uS:Upd [rb] w10 (w10.setCell ⟨rb,k,none⟩ (.int .i64 (S'.length:Nat))):=(Upd.refl [rb] w10).set (p:=⟨rb,k,none⟩) (by simp) _
      refine ⟨⟨k+1,S'++[q],row++[S'.length],_,rfl,by go_num,by omega,Lib.hid ⟨HL.out.2.1,HND2.out,fun z hz=>?_,by rw [List.getElem?_append_left HG.out.2.1];exact HJ.out.2.2.2.1,?_,?_,by simp [HJ.out.2.2.2.2.2.2]⟩⟩,by simp [intOf];omega⟩
      ·rcases List.mem_append.1 hz with hz|hz
       ·exact HJ.out.2.2.1 z hz
       ·simp at hz;subst hz;exact HG.out.1
      ·rw [HL1.out.1,show (S'++[q]).map (blkN bl)=S'.map (blkN bl)++[bq] by rw [List.map_append,List.map_singleton,HBQ.out],show ints ((S'++[q]).map Int.ofNat)=ints (S'.map Int.ofNat)++[.int .i64 q] by simp [ints]]
       exact HBR.out.2.set uS
      ·have:=HBR.out.1.set k (.int .i64 (S'.length:Nat))
       rw [row_set HJ.out.2.2.2.2.2.2 hkl] at this
       exact this
    ·have hke:k=m:=by omega
     subst hke
     obtain ⟨vals,hv1,hv2⟩:=HJ.out.2.2.2.2.1.tb.ex
     have hTl:(natRows T).length≤256:=by
      have h2:=HI.out.2.2.2.2
      unfold natRows
      rw [List.length_map]
      omega
     have HV:=Lib.hid (And.intro hv1 hv2)
     have HTL:=Lib.hid hTl
     clear hv1 hv2 hTl hcell
     go_wp2_with (refine wpList_push rfl rfl _ _ _ _ rfl rfl rfl 22 1 24 _ Tryz.underlying28 infoInts rfl (by decide) (by decide) (.slice (some ⟨rb,0,none⟩) k k) [.slice (some ⟨rb,0,none⟩) k k] rfl rfl rfl (by simp [Value.oneCell']) _ _ _ HV.out.1.row rfl rfl (by have:=HTL.out;unfold maxLen;omega) (by have:=HTL.out;omega) ?_;intro g4 c4 w10 o10 u10 k10)
     have hy:SL wr 1 (.slice (some ⟨rb,0,none⟩) k k) row.length (ints (row.map Int.ofNat)):=by
      have:=HJ.out.2.2.2.2.2.1
      rw [Nat.sub_self,List.replicate_zero,List.append_nil] at this
      have h2:=SL.of_blk (pad:=[]) (k:=1) (n:=row.length) (cap:=k) (xs:=ints (row.map Int.ofNat)) (by simpa using this) (by simp [ints]) (by rw [HJ.out.2.2.2.2.2.2];exact Nat.le_refl _) (by unfold maxLen;omega)
      rw [HJ.out.2.2.2.2.2.2] at h2 ⊢
      exact h2
     have hnn:=HJ.out.2.2.2.2.1.done HV.out.1 HV.out.2 hy rfl o10 u10 k10
     have hTT:=HI.out.2.2.2.2
     refine ⟨⟨i+1,S',T++[row],F++[rb],_,_,rfl,rfl,by go_num,(List.getElem?_eq_some_iff.1 HJ.out.2.2.2.1).1,Lib.hid ⟨upToK_step HI.out.1 HQ.out.2.2 HJ.out.1,HJ.out.2.1,HJ.out.2.2.1,hnn,by simp;omega⟩⟩,by simp [intOf];omega⟩
  ·have hme:i=S.length:=by omega
   subst hme
   go_wp2_with fail
   go_ret3
   refine ⟨S,T,_,_,HI.out.1,rfl,HI.out.2.2.2.1.st,HI.out.2.2.2.1.tb.cl,hS256,HI.out.2.2.1,fun U w2 hU hb=>?_⟩
   refine (HI.out.2.2.2.1.tb.upd hU fun c hc=>?_).cl
   rcases hb c hc with h|h
   ·exact ⟨fun hf=>by have:=HI.out.2.2.2.1.fn c hf;omega,fun hv=>by have:=HI.out.2.2.2.1.tn c hv;omega⟩
   ·exact ⟨fun hf=>by have:=HI.out.2.2.2.1.tb.lt c hf;omega,fun hv=>by have:=HI.out.2.2.2.1.tb.own_lt c hv;omega⟩
end
end Aut
end Go.Proofs.YtjclbjdkkdijbaaGreat
end
