/- A map with keys of whatever plain kind as a function on what the keys stand for: make, look-up, store. No program is named. Conditions: none. The numbering of pairs in memory: keys, cells, what number keeps. Conditions: none. What number keeps in memory where states and keys are plain: states, map, table. Conditions: none. -/
import Derived.Test.YtjclbjdkkdijbaaGreatMapS
import Derived.Test.YtjclbjdkkdijbaaGreatAuZd
import Derived.DeepKeys4
import Derived.Test.YtjclbjdkkdijbaaGreatAutoY
set_option linter.unusedVariables false
set_option linter.unusedSimpArgs false
set_option linter.unusedSectionVars false
section
open Go.RowKit
namespace Go.Proofs.YtjclbjdkkdijbaaGreat
namespace L
open Go.Maps
structure KE (P:Program) (k:TypeId) (κ:Type) where
 key:κ→Value
 lit:κ→Lit
 ok:κ→Prop
 kd:Keyed P k
 enc:∀ x,ok x→keyOf P k (key x)=some (lit x)
 inj:∀ x y,ok x→ok y→lit x=lit y→x=y
section
variable {P:Program} {k:TypeId} {κ:Type}
structure GMD (E:KE P k κ) (D:DataW Value) (f:κ→Option Value):Prop where
 no:∀ x,E.ok x→f x=none→has D (E.lit x)=false
 yes:∀ x,E.ok x→∀ v,f x=some v→∀ z,D.atKey (E.lit x) z=.held v
theorem GMD.has {E:KE P k κ} {D:DataW Value} {f:κ→Option Value} (h:GMD E D f) {x:κ} (hx:E.ok x):Maps.has D (E.lit x)=(f x).isSome:=by
 cases hf:f x with
 | none=>rw [h.no x hx hf];rfl
 | some v=>rw [has_true_of_atKey (h.yes x hx v hf)];rfl
def GM (E:KE P k κ) (w:World) (b n:Nat) (f:κ→Option Value):Prop:=∃ D:DataW Value,w.ownsMap P k heldS b n D∧GMD E D f
variable {E:KE P k κ} {e:TypeId} {w w':World} {b n:Nat} {f:κ→Option Value} [DecidableEq κ]
theorem GM.lt (h:GM E w b n f):b<w.heap.size:=by
 obtain ⟨D,h1,_⟩:=h
 exact h1.lt
theorem GM.new (E:KE P k κ) (w:World):GM E (w.alloc (.map #[] 0)) w.heap.size 0 (fun _=>none):=
 ⟨.map [],World.ownsMap_made w P k _,⟨fun _ _ _=>rfl,fun _ _ _ h=>by simp at h⟩⟩
theorem GM.upd {S:List Nat} (h:GM E w b n f) (hu:Upd S w w') (hb:b ∉ S):GM E w' b n f:=by
 obtain ⟨D,⟨es,clock,h1,h2⟩,h3⟩:=h
 exact ⟨D,⟨es,clock,by rw [hu.block b (Array.getElem?_eq_some_iff.1 h1).1 hb];exact h1,h2⟩,h3⟩
theorem GM.congr {f':κ→Option Value} (h:GM E w b n f) (he:∀ x,f x=f' x):GM E w b n f':=by
 obtain rfl:f=f':=funext he
 exact h
theorem GM.look_ok {t:TypeId} (h:GM E w b n f) (ht:P.underlying t=some (.map k e)) {z:Value} {size bytes:Nat}
 (hinfo:(P.info? e).map (fun i=>(i.zero,i.size,i.bytes))=some (some z,size,bytes)) {x:κ} (hx:E.ok x) :
 (Instr.lookup t (.map (some b)) (E.key x) true).run P w=.ok (.tuple #[(f x).getD z,.bool (f x).isSome]) w:=by
 obtain ⟨D,h1,h2⟩:=h
 obtain ⟨v,ps,hrun,hv⟩:=h1.look_ok E.kd ht (zeroS_of hinfo w) (show heldS z=some (.held z,[]) from rfl) (E.enc x hx)
 rw [hrun,h2.has hx]
 unfold heldS at hv
 simp only [Option.some.injEq,Prod.mk.injEq] at hv
 cases hf:f x with
 | none=>
  have h3:=atKey_of_not_has (h2.no _ hx hf) (.held z)
  rw [h3] at hv
  have h4:v=z:=by simpa using hv.1
  rw [h4];rfl
 | some u=>
  rw [h2.yes _ hx u hf] at hv
  have h4:v=u:=by simpa using hv.1
  rw [h4];rfl
theorem GM.put {t:TypeId} (h:GM E w b n f) (ht:P.underlying t=some (.map k e)) (hn:n<maxLen) {x:κ} (hx:E.ok x) (v:Value) :
 ∃ w',(Instr.mapUpdate t (.map (some b)) (E.key x) v).run P w=.ok () w'∧GM E w' b (n+1) (fun y=>if y=x then some v else f y)∧Upd [b] w w':=by
 obtain ⟨D,h1,h2⟩:=h
 obtain ⟨w',hrun,h3,h4⟩:=h1.update E.kd ht hn (E.enc x hx) (show heldS v=some (.held v,[]) from rfl)
 refine ⟨w',hrun,⟨_,h3,⟨fun y hy hf=>?_,fun y hy u hf z=>?_⟩⟩,(Upd.refl _ w).grown h4 (fun j hj=>by cases hj;exact .inl (by simp))⟩
 ·by_cases e1:y=x
  ·rw [if_pos e1] at hf;cases hf
  ·rw [if_neg e1] at hf
   rw [has_put_other (fun h=>e1 (E.inj _ _ hy hx h))]
   exact h2.no y hy hf
 ·by_cases e1:y=x
  ·rw [if_pos e1] at hf
   cases hf
   subst e1
   exact atKey_put_same h1.isMap (E.kd.key (E.enc y hy)) _ _
  ·rw [if_neg e1] at hf
   rw [atKey_put_other (fun h=>e1 (E.inj _ _ hy hx h))]
   exact h2.yes y hy u hf z
section
variable {ops:Array Oper} {rest:List Oper} {o:Oper} {a:Act} {Q:Exit→Act→World→Prop}
theorem wpList_gmput {t:TypeId} (ht:P.underlying t=some (.map k e)) (hg:o.guard=none) (m x v:Operand) (hop:o.op=Op.mapUpdate t m x v)
 (b n:Nat) (f:κ→Option Value) (y:κ) (val:Value) (hm:a.eval m=.map (some b)) (hx:a.eval x=E.key y) (hv:a.eval v=val) (h:GM E w b n f) (hn:n<maxLen) (hy:E.ok y)
 (hK:∀ w',GM E w' b (n+1) (fun z=>if z=y then some val else f z)→Upd [b] w w'→wpList P ops Q rest (a.put o.dst undef) w'):wpList P ops Q (o::rest) a w:=by
 refine wpList_plain hg fun K' hK'=>?_
 obtain ⟨w',hrun,h1,h2⟩:=GM.put h ht hn hy val
 unfold Oper.wp
 simp only [execOp,hop,hm,hx,hv,Sem.run_bind,Sem.run_pure,Result.andThen_ok,hrun]
 exact hK' _ _ (hK w' h1 h2)
theorem wpList_gmins {t:TypeId} (ht:P.underlying t=some (.map k e)) (hg:o.guard=none) (m x v:Operand) (hop:o.op=Op.insert t m x v)
 (b n:Nat) (f:κ→Option Value) (y:κ) (val:Value) (hm:a.eval m=.map (some b)) (hx:a.eval x=E.key y) (hv:a.eval v=val) (h:GM E w b n f) (hn:n<maxLen) (hy:E.ok y)
 (hK:∀ w',GM E w' b (n+1) (fun z=>if z=y then some val else f z)→Upd [b] w w'→wpList P ops Q rest (a.put o.dst undef) w'):wpList P ops Q (o::rest) a w:=by
 refine wpList_plain hg fun K' hK'=>?_
 obtain ⟨w',hrun,h1,h2⟩:=GM.put h ht hn hy val
 unfold Oper.wp
 simp only [execOp,hop,hm,hx,hv,Sem.run_bind,Sem.run_pure,Result.andThen_ok,hrun]
 exact hK' _ _ (hK w' h1 h2)
theorem wpList_gmlook_ok {t:TypeId} (ht:P.underlying t=some (.map k e)) {z:Value} {size bytes:Nat}
 (hinfo:(P.info? e).map (fun i=>(i.zero,i.size,i.bytes))=some (some z,size,bytes)) (m x:Operand) (hop:o.op=Op.lookup t m x true) (hg:o.guard=none)
 (b n:Nat) (f:κ→Option Value) (y:κ) (hm:a.eval m=.map (some b)) (hx:a.eval x=E.key y) (h:GM E w b n f) (hy:E.ok y)
 (hK:wpList P ops Q rest (a.put o.dst (.tuple #[(f y).getD z,.bool (f y).isSome])) w):wpList P ops Q (o::rest) a w:=by
 refine wpList_plain hg fun K' hK'=>?_
 have hrun:=GM.look_ok h ht hinfo hy
 unfold Oper.wp
 simp [execOp,hop,hm,hx,hrun,Result.andThen]
 exact hK' _ _ hK
end
end
end L
end Go.Proofs.YtjclbjdkkdijbaaGreat
end
section
open Go.RowKit
namespace Go.Proofs.YtjclbjdkkdijbaaGreat
open L
namespace Aut
open Auto
attribute [-go_sem] sliced
theorem pairLaw:WideMaps.KeyLaw Tryz.prog 125:=
 deep_law_laid (show laidOutB Tryz.prog=true by kernel_rfl) (m:=3) (by omega) (show 125<Tryz.prog.types.size from of_decide_eq_true (by kernel_rfl)) (by kernel_rfl) (by rw [Tryz.underlying125])
def pLit (p:Nat × Nat):Lit:=.string (keyBytes [.int .i64 p.1,.int .i64 p.2])
def pKey (p:Nat × Nat):Value:=.agg #[.int .i64 p.1,.int .i64 p.2]
def pOk (p:Nat × Nat):Prop:=p.1<1048576∧p.2<1048576
theorem pEnc (p:Nat × Nat) (h:pOk p):keyOf Tryz.prog 125 (pKey p)=some (pLit p):=by
 obtain ⟨x,y⟩:=p
 have w1:(Lit.int .i64 (x:Int)).wf=true:=lit_i64 ⟨by omega,by have:=h.1;simp at this;omega⟩
 have w2:(Lit.int .i64 (y:Int)).wf=true:=lit_i64 ⟨by omega,by have:=h.2;simp at this;omega⟩
 have hk:Tryz.prog.keyType 125=true:=by kernel_rfl
 have hc:Tryz.prog.cellsOf 3=1:=by kernel_rfl
 have hp:Tryz.prog.cellsOf 125=2:=by kernel_rfl
 obtain ⟨m,hm⟩:∃ m,Tryz.prog.types.size=m+2:=⟨Tryz.prog.types.size-2,by have:2≤Tryz.prog.types.size:=of_decide_eq_true (by kernel_rfl);omega⟩
 unfold keyOf
 rw [Tryz.underlying125]
 simp only
 rw [if_pos (by simp [hk,pKey,Value.formed,Tryz.underlying125,hp])]
 trace_state
 rw [hm]
 unfold Program.keyLits
 rw [Tryz.underlying125]
 simp [pKey,Value.cells,hp,Program.keyLits,Tryz.underlying3,hc,w1,w2,pLit]
theorem pInj (p q:Nat × Nat) (hp:pOk p) (hq:pOk q) (h:pLit p=pLit q):p=q:=by
 have h1:=pEnc p hp
 have h2:=pEnc q hq
 rw [h] at h1
 have h3:=(Go.Maps.Keyed.of_law pairLaw).inj h1 h2
 obtain ⟨x,y⟩:=p
 obtain ⟨x',y'⟩:=q
 simp [pKey] at h3
 rw [Prod.mk.injEq]
 omega
def pE:KE Tryz.prog 125 (Nat × Nat):=⟨pKey,pLit,pOk,Go.Maps.Keyed.of_law pairLaw,pEnc,pInj⟩
end Aut
end Go.Proofs.YtjclbjdkkdijbaaGreat
end
section
open Go.RowKit
namespace Go.Proofs.YtjclbjdkkdijbaaGreat
open L
namespace Aut
open Auto
attribute [-go_sem] sliced
structure Np {κ:Type} {kt:TypeId} (E:KE Tryz.prog kt κ) (e:TypeId) (kk:Nat) (w0:World) (mb:Nat) (sv tv:Value) (n m:Nat) (cs:List Value) (T:List (List Nat)) (F R:List Nat) (f:κ→Option Value) (w:World):Prop where
 st:OwW e kk n w0 (.slice none 0 0) sv cs w
 mp:GM E w mb m f
 mn:w0.heap.size≤mb
 sm:∀ q,sv.ownBlock=some q→q≠mb∧q ∉ F∧tv.ownBlock≠some q∧q ∉ R
 tb:OwnL 22 w0 tv (natRows T) F w
 mf:mb ∉ F∧tv.ownBlock≠some mb∧mb ∉ R
 rf:∀ b∈R,b ∉ F∧tv.ownBlock≠some b∧w0.heap.size≤b∧b<w.heap.size
 fn:∀ b∈F,w0.heap.size≤b
section
variable {κ:Type} [DecidableEq κ] {kt:TypeId} {E:KE Tryz.prog kt κ} {e:TypeId} {kk:Nat} {w0 w w':World} {mb n m:Nat} {sv tv:Value} {cs:List Value} {T:List (List Nat)} {F R:List Nat} {f:κ→Option Value}
theorem Np.u (h:Np E e kk w0 mb sv tv n m cs T F R f w):Upd [] w0 w:=h.st.fresh
theorem Np.tn (h:Np E e kk w0 mb sv tv n m cs T F R f w):∀ q,tv.ownBlock=some q→w0.heap.size≤q:=by
 obtain ⟨vals,h1,_⟩:=h.tb.ex
 exact h1.fresh
theorem Np.sn (h:Np E e kk w0 mb sv tv n m cs T F R f w):∀ q,sv.ownBlock=some q→w0.heap.size≤q:=fun q hq=>by
 rcases h.st.old q hq with h1|h1
 ·simp [Value.ownBlock] at h1
 ·exact h1
theorem Np.quiet (h:Np E e kk w0 mb sv tv n m cs T F R f w) (hu:Upd [] w w'):Np E e kk w0 mb sv tv n m cs T F R f w':=
 ⟨h.st.quiet hu,h.mp.upd hu (by simp),h.mn,h.sm,h.tb.upd hu (by simp),h.mf,fun b hb=>⟨(h.rf b hb).1,(h.rf b hb).2.1,(h.rf b hb).2.2.1,by have:=(h.rf b hb).2.2.2;have:=hu.size;omega⟩,h.fn⟩
theorem Np.row (h:Np E e kk w0 mb sv tv n m cs T F [] f w) (hu:Upd [] w w') (hs:w.heap.size<w'.heap.size):Np E e kk w0 mb sv tv n m cs T F [w.heap.size] f w':=by
 have hz:=h.u.size
 refine ⟨h.st.quiet hu,h.mp.upd hu (by simp),h.mn,fun q hq=>?_,h.tb.upd hu (by simp),⟨h.mf.1,h.mf.2.1,by have:=h.mp.lt;simp;omega⟩,fun b hb=>?_,h.fn⟩
 ·obtain ⟨h1,h2,h3,_⟩:=h.sm q hq
  exact ⟨h1,h2,h3,by have:=h.st.lt hq;simp;omega⟩
 ·simp at hb
  subst hb
  exact ⟨fun h2=>by have:=h.tb.lt _ h2;omega,fun h2=>by have:=h.tb.own_lt _ h2;omega,hz,hs⟩
theorem Np.set (h:Np E e kk w0 mb sv tv n m cs T F R f w) (hu:Upd R w w'):Np E e kk w0 mb sv tv n m cs T F R f w':=
 ⟨h.st.other hu (fun b hb hv=>(h.sm b hv).2.2.2 hb) (fun b hb=>(h.rf b hb).2.2.1),h.mp.upd hu h.mf.2.2,h.mn,h.sm,h.tb.upd hu (fun b hb=>⟨(h.rf b hb).1,(h.rf b hb).2.1⟩),h.mf,fun b hb=>⟨(h.rf b hb).1,(h.rf b hb).2.1,(h.rf b hb).2.2.1,by have:=(h.rf b hb).2.2.2;have:=hu.size;omega⟩,h.fn⟩
theorem Np.put {m':Nat} {f':κ→Option Value} (h:Np E e kk w0 mb sv tv n m cs T F R f w) (hu:Upd [mb] w w') (hm:GM E w' mb m' f'):Np E e kk w0 mb sv tv n m' cs T F R f' w':=
 ⟨h.st.other hu (fun b hb hv=>by simp at hb;exact (h.sm b hv).1 hb) (fun b hb=>by simp at hb;subst hb;exact h.mn),hm,h.mn,h.sm,h.tb.upd hu (fun b hb=>by simp at hb;subst hb;exact ⟨h.mf.1,h.mf.2.1⟩),h.mf,fun b hb=>⟨(h.rf b hb).1,(h.rf b hb).2.1,(h.rf b hb).2.2.1,by have:=(h.rf b hb).2.2.2;have:=hu.size;omega⟩,h.fn⟩
theorem Np.keep {U:List Nat} (h:Np E e kk w0 mb sv tv n m cs T F R f w) (hu:Upd U w w') (hU:∀ b∈U,b<w0.heap.size):CL w' tv (natRows T):=
 (h.tb.upd hu fun b hb=>⟨fun hf=>by have:=h.fn b hf;have:=hU b hb;omega,fun hv=>by have:=h.tn b hv;have:=hU b hb;omega⟩).cl
theorem Np.push {g cap:Nat} {news:List Value} (h:Np E e kk w0 mb sv tv n m cs T F R f w) (ho:w'.ownsRow 0 e kk (.slice (some ⟨g,0,none⟩) (n+1) cap) (n+1) (cs++news)) (hu:Upd sv.ownBlock.toList w w') (hk:sv.ownBlock=some g∨w.heap.size≤g) :
 Np E e kk w0 mb (.slice (some ⟨g,0,none⟩) (n+1) cap) tv (n+1) m (cs++news) T F R f w':=by
 have hz:=h.u.size
 have hmb:=h.mp.lt
 refine ⟨h.st.push ho hu hk,h.mp.upd hu (fun hb=>(h.sm mb (by simpa using hb)).1 rfl),h.mn,fun q hq=>?_,h.tb.upd hu (fun b hb=>⟨fun hf=>(h.sm b (by simpa using hb)).2.1 hf,(h.sm b (by simpa using hb)).2.2.1⟩),h.mf,fun b hb=>⟨(h.rf b hb).1,(h.rf b hb).2.1,(h.rf b hb).2.2.1,by have:=(h.rf b hb).2.2.2;have:=hu.size;omega⟩,h.fn⟩
 simp only [Value.ownBlock,Option.some.injEq] at hq
 subst hq
 rcases hk with h1|h1
 ·exact h.sm _ h1
 ·exact ⟨by omega,fun hf=>by have:=h.tb.lt _ hf;omega,fun hv=>by have:=h.tb.own_lt _ hv;omega,fun hr=>by have:=(h.rf _ hr).2.2.2;omega⟩
theorem Np.done {g cap rb:Nat} {row:List Nat} {y:Value} {vals:List Value} (h:Np E e kk w0 mb sv tv n m cs T F [rb] f w) (h1:OwnV w0 22 1 tv (natRows T).length vals w) (h2:∀ (i:Nat) (c:List Int),(natRows T)[i]?=some c→∃ y,vals[i]?=some y∧SL w 1 y c.length (ints c)∧∀ b,y.ownBlock=some b→b∈F)
 (hy:SL w 1 y row.length (ints (row.map Int.ofNat))) (hyv:y.ownBlock=some rb) (o:w'.ownsRow 0 22 1 (.slice (some ⟨g,0,none⟩) ((natRows T).length+1) cap) ((natRows T).length+1) (vals++[y])) (hu:Upd tv.ownBlock.toList w w') (hk:tv.ownBlock=some g∨w.heap.size≤g) :
 Np E e kk w0 mb sv (.slice (some ⟨g,0,none⟩) ((natRows T).length+1) cap) n m cs (T++[row]) (F++[rb]) [] f w':=by
 obtain ⟨r1,r2,r3,r4⟩:=h.rf rb (by simp)
 have hT:natRows (T++[row])=natRows T++[row.map Int.ofNat]:=by simp [natRows]
 have hp:=h.tb.push h1 h2 h.u.size (c:=row.map Int.ofNat) (by rw [List.length_map];exact hy) (fun b hb=>by rw [hyv] at hb;cases hb;exact ⟨r2,r4⟩) o hu hk
 rw [hyv] at hp
 have hgm:g≠mb:=fun e=>by
  rcases hk with hk|hk
  ·exact h.mf.2.1 (e ▸ hk)
  ·have:=h.mp.lt;omega
 have hmr:mb≠rb:=fun e=>h.mf.2.2 (by simp [e])
 refine ⟨h.st.other hu (fun b hb hv=>(h.sm b hv).2.2.1 (by simpa using hb)) (fun b hb=>h.tn b (by simpa using hb)),h.mp.upd hu (fun hb=>h.mf.2.1 (by simpa using hb)),h.mn,fun q hq=>?_,by rw [hT];exact hp,⟨?_,by simpa [Value.ownBlock] using hgm,by simp⟩,by simp,fun b hb=>by
  rcases List.mem_append.1 hb with hb|hb
  ·exact h.fn b hb
  ·simp at hb;subst hb;exact r3⟩
 ·obtain ⟨a1,a2,a3,a4⟩:=h.sm q hq
  refine ⟨a1,fun hf=>?_,fun hv=>?_,by simp⟩
  ·rcases List.mem_append.1 hf with h3|h3
   ·exact a2 h3
   ·exact a4 h3
  ·simp only [Value.ownBlock,Option.some.injEq] at hv
   subst hv
   rcases hk with h3|h3
   ·exact a3 h3
   ·have:=h.st.lt hq;omega
 ·simp only [List.mem_append,List.mem_singleton,not_or]
  exact ⟨h.mf.1,hmr⟩
end
section
variable {α:Type} [DecidableEq α]
def pmap (S:List α) (x:α):Option Value:=if x∈S then some (.int .i64 (place S x:Nat)) else none
theorem pmap_one (x z:α):(if z=x then some (Value.int .i64 0) else none)=pmap [x] z:=by
 unfold pmap
 by_cases h:z=x
 ·subst h
  rw [if_pos rfl,if_pos (by simp)]
  simp [place]
 ·rw [if_neg h,if_neg (by simpa using h)]
theorem pmap_push {S:List α} {x:α} (h:x ∉ S) (z:α):(if z=x then some (Value.int .i64 (S.length:Nat)) else pmap S z)=pmap (S++[x]) z:=by
 unfold pmap
 by_cases hz:z=x
 ·subst hz
  have e:adds S z=S++[z]:=by unfold adds;rw [if_neg h]
  rw [if_pos rfl,if_pos (by simp),←e,place_adds,place_none h]
 ·rw [if_neg hz]
  by_cases hm:z∈S
  ·rw [if_pos hm,if_pos (by simp [hm]),place_pre (List.prefix_append S [x]) hm]
  ·rw [if_neg hm,if_neg (by simp [hm,hz])]
theorem scan_old' {f:Nat→α} {k:Nat} {l S:List α} {row:List Nat} (h:scan f k l=(S,row)) (hm:f k∈S):scan f (k+1) l=(S,row++[place S (f k)]):=by
 show (adds (scan f k l).1 (f k),(scan f k l).2++[place (scan f k l).1 (f k)])=_
 rw [h]
 unfold adds
 rw [if_pos hm]
theorem scan_new' {f:Nat→α} {k:Nat} {l S:List α} {row:List Nat} (h:scan f k l=(S,row)) (hm:f k ∉ S):scan f (k+1) l=(S++[f k],row++[S.length]):=by
 show (adds (scan f k l).1 (f k),(scan f k l).2++[place (scan f k l).1 (f k)])=_
 rw [h]
 simp only
 unfold adds
 rw [if_neg hm,place_none hm]
theorem upTo_step' {first:α} {m:Nat} {nx:α→Nat→α} {i:Nat} {S S':List α} {T:List (List Nat)} {row:List Nat} {s:α} (h:upTo first m nx i=(S,T)) (hs:S[i]?=some s) (hr:scan (nx s) m S=(S',row)):upTo first m nx (i+1)=(S',T++[row]):=by
 rw [upTo,h,hs]
 simp only [hr]
end
def pcs (S:List (Nat × Nat)):List Value:=S.flatMap fun p=>[.int .i64 p.1,.int .i64 p.2]
theorem pcs_snoc (S:List (Nat × Nat)) (p:Nat × Nat):pcs (S++[p])=pcs S++[.int .i64 p.1,.int .i64 p.2]:=by simp [pcs]
theorem pcs_at:∀ {S:List (Nat × Nat)} {i:Nat} {p:Nat × Nat},S[i]?=some p→(pcs S)[i*2]?=some (.int .i64 p.1)∧(pcs S)[i*2+1]?=some (.int .i64 p.2)
 | [],_,_,h=>by simp at h
 | x::q,0,e,h=>by simp at h;subst h;exact ⟨rfl,rfl⟩
 | x::q,i+1,e,h=>by
  have ih:=pcs_at (S:=q) (i:=i) (p:=e) (by simpa using h)
  have e1:pcs (x::q)=.int .i64 x.1::.int .i64 x.2::pcs q:=rfl
  rw [e1,show (i+1)*2=i*2+1+1 by omega]
  exact ⟨by simpa using ih.1,by simpa using ih.2⟩
theorem infoPair:(Tryz.prog.info? 125).map (fun i=>(i.zero,i.size,i.bytes))=some (some (.agg #[.int .i64 0,.int .i64 0]),2,16):=by kernel_rfl
end Aut
end Go.Proofs.YtjclbjdkkdijbaaGreat
end
