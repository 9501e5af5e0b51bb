/- More general lemmas: a slice literal of one element and append in one step. No program is named. Conditions: none. -/
import Derived.Test.YtjclbjdkkdijbaaGreatReg2
import Derived.Deep.CutBlock
set_option linter.unusedVariables false
set_option linter.unusedSimpArgs false
set_option linter.unusedSectionVars false
open Go.RowKit
namespace Go.Proofs.YtjclbjdkkdijbaaGreat
namespace L
theorem foldl_cells (c:List Value):∀ (k:Nat) (pre:List Value) (old:List Value),pre.length=k→old.length=c.length →
 (c.zipIdx k).foldl (fun (cs:Array Value) (p:Value × Nat)=>cs.setIfInBounds (0+p.2) p.1) (pre++old).toArray=(pre++c).toArray:=by
 induction c with
 | nil=>intro k pre old _ h;simp at h;subst h;rfl
 | cons x c ih=>
  intro k pre old hp ho
  cases old with
  | nil=>simp at ho
  | cons y old=>
   simp only [List.zipIdx_cons,List.foldl_cons,Nat.zero_add]
   have h1:(pre++y::old).toArray.setIfInBounds k x=((pre++[x])++old).toArray:=by
    simp only [List.setIfInBounds_toArray,List.append_assoc,List.singleton_append]
    congr 1
    rw [List.set_append_right _ _ (by omega),hp,Nat.sub_self]
    rfl
   have h2:=ih (k+1) (pre++[x]) old (by simp [hp]) (by simpa using ho)
   simp only [Nat.zero_add] at h2
   rw [h1,h2]
   simp
section
variable {P:Program} {w:World}
theorem run_bs1 {T e:TypeId} {size bytes:Nat} {z:Value} (ht:P.underlying T=some (.slice e)) (hinfo:(P.info? e).map (fun i=>(i.zero,i.size,i.bytes))=some (some z,size,bytes))
 (hzs:z.cells.size=size) (hsz:0<size) (hs24:size≤16777216) (x:Value) (hx:x.cells.size=size) :
 (Instr.buildSlice T 1 #[(0,x)]).run P w=.ok (.slice (some ⟨w.heap.size,0,none⟩) 1 1) (w.alloc (.cells x.cells e)):=by
 obtain ⟨i,hi,hz,hs,hb⟩:=info_of hinfo
 have hp:Sem.run P (Sem.program Sem.pure) w=.ok P w:=rfl
 have h1:(sizeOf e).run P w=.ok size w:=by simp [sizeOf,typeInfo,program,go_sem,hi,hs,hp]
 have h2:(zeroValue e).run P w=.ok z w:=by simp [zeroValue,typeInfo,program,go_sem,hi,hz,hp]
 have h3:Instr.fill (fun i=>some (i*size,size)) ((Array.range (1*size)).map (z.cells[· % z.cells.size]!)) [(0,x)]=some x.cells:=by
  unfold Instr.fill
  simp only [Nat.zero_mul]
  rw [if_neg (by simp [hx])]
  unfold Instr.fill
  congr 1
  have hl:((Array.range (1*size)).map (z.cells[· % z.cells.size]!))=([]++((Array.range (1*size)).map (z.cells[· % z.cells.size]!)).toList).toArray:=by rw [List.nil_append,Array.toArray_toList]
  rw [hl,←Array.foldl_toList,Array.toList_zipIdx]
  have:=foldl_cells x.cells.toList 0 [] ((Array.range (1*size)).map (z.cells[· % z.cells.size]!)).toList rfl (by simp [hx])
  rw [this]
  simp
 unfold Instr.buildSlice
 simp only [Sem.run_bind,run_underlying ht,Result.andThen_ok,h1]
 rw [if_neg (by omega),if_neg (by omega)]
 simp only [Sem.run_bind,h2,Result.andThen_ok,Sem.run_pure,h3]
 simp [newRow,go_sem]
theorem wpList_push {ops:Array Oper} {rest:List Oper} {o1 o2:Oper} {a:Act} {Q:Exit→Act→World→Prop} (g1:o1.guard=none) (g2:o2.guard=none) (s x:Operand) (t:Nat) (T:TypeId)
 (h1:o1.op=.buildSlice T 1 #[(0,x)]) (d1:o1.dst=some t) (h2:o2.op=.call { callee:=.builtin .append,args:=#[s,.tmp t],argTypes:=#[T,T] })
 (e:TypeId) (size bytes:Nat) (z:Value) (ht:P.underlying T=some (.slice e)) (hinfo:(P.info? e).map (fun i=>(i.zero,i.size,i.bytes))=some (some z,size,bytes))
 (hzs:z.cells.size=size) (hsz:0<size) (hs24:size≤16777216) (xv:Value) (news:List Value) (hx:a.eval x=xv) (hxc:xv.cells=news.toArray) (hxs:news.length=size) (h1c:∀ u∈news,u.oneCell'=true)
 (v:Value) (n:Nat) (xs:List Value) (hown:w.ownsRow 0 e size v n xs) (hs:(a.put (some t) (.slice (some ⟨w.heap.size,0,none⟩) 1 1)).eval s=v)
 (hxt:(a.put (some t) (.slice (some ⟨w.heap.size,0,none⟩) 1 1)).eval (.tmp t)=.slice (some ⟨w.heap.size,0,none⟩) 1 1)
 (h63:n+1≤maxLen) (hbytes:(n+1)*bytes≤140737488355328)
 (h:∀ g cap w',w'.ownsRow 0 e size (.slice (some ⟨g,0,none⟩) (n+1) cap) (n+1) (xs++news)→Upd v.ownBlock.toList w w'→(v.ownBlock=some g∨w.heap.size≤g) →
  wpList P ops Q rest ((a.put (some t) (.slice (some ⟨w.heap.size,0,none⟩) 1 1)).put o2.dst (.slice (some ⟨g,0,none⟩) (n+1) cap)) w'):wpList P ops Q (o1::o2::rest) a w:=by
 refine wpList_plain g1 fun K hK=>?_
 have hr:=run_bs1 (P:=P) (w:=w) ht hinfo hzs hsz hs24 xv (by rw [hxc];simpa using hxs)
 rw [hxc] at hr
 unfold Oper.wp execOp
 have he:(#[(0,x)]:Array (Nat × Operand)).map (fun p=>(p.1,a.eval p.2))=#[(0,xv)]:=by simp [hx]
 have hr':(Instr.buildSlice T 1 ((#[(0,x)]:Array (Nat × Operand)).map (fun p=>(p.1,a.eval p.2)))).run P w=.ok (.slice (some ⟨w.heap.size,0,none⟩) 1 1) (w.alloc (.cells news.toArray e)):=by rw [he];exact hr
 simp only [h1,Sem.run_bind,hr',Result.andThen_ok,Sem.run_pure]
 refine hK _ _ ?_
 rw [d1]
 have own1:(w.alloc (.cells news.toArray e)).ownsRow 0 e size v n xs:=by
  have hu:=(Upd.refl [] w).alloc (.cells news.toArray e)
  refine ⟨hown.1,?_⟩
  rcases hown.2 with hw|⟨g,cap,cur,rfl,hb,hg,hr⟩
  ·exact .inl hw
  ·refine .inr ⟨g,cap,cur,rfl,hb,?_,hr⟩
   rw [hu.block g (Array.getElem?_eq_some_iff.1 hg).1 (by simp)]
   exact hg
 refine wpList_app g2 s (.tmp t) T h2 e size bytes z ht hinfo hzs hsz v n xs hs own1 w.heap.size 1 1 news e hxt (by rw [hxs,Nat.one_mul]) (Blk.new w news e) h1c (by omega) h63 hbytes ?_
 intro g cap w' o u k
 refine h g cap w' o ⟨u.os,u.tape,u.output,by have:=u.size;simp at this;omega,fun j hj hn=>?_⟩ ?_
 ·rw [u.block j (by simp;omega) hn]
  exact ((Upd.refl [] w).alloc (.cells news.toArray e)).block j hj (by simp)
 ·rcases k with k|k
  ·exact .inl k
  ·right;simp at k;omega
end
theorem ownsRow_updL {S:List Nat} {w w':World} {base:Nat} {e:TypeId} {size:Nat} {v:Value} {n:Nat} {xs:List Value} (h:w.ownsRow base e size v n xs) (hu:Upd S w w') (hS:∀ b∈S,v.ownBlock≠some b):w'.ownsRow base e size v n xs:=by
 refine ⟨h.1,?_⟩
 rcases h.2 with h2|⟨g,cap,cur,rfl,hb,hg,hr⟩
 ·exact .inl h2
 ·refine .inr ⟨g,cap,cur,rfl,hb,?_,hr⟩
  rw [hu.block g (Array.getElem?_eq_some_iff.1 hg).1 (fun hm=>hS g hm rfl)]
  exact hg
structure OwnV (w0:World) (e:TypeId) (k:Nat) (v:Value) (n:Nat) (cs:List Value) (w:World):Prop where
 row:w.ownsRow 0 e k v n cs
 fresh:∀ g,v.ownBlock=some g→w0.heap.size≤g
section
variable {w0 w w':World} {e:TypeId} {k:Nat} {v:Value} {n:Nat} {cs:List Value} {S:List Nat}
theorem OwnV.nil (w0 w:World) (e:TypeId) (k:Nat):OwnV w0 e k (.slice none 0 0) 0 [] w:=⟨World.ownsRow_nil _ _ _ _,by simp [Value.ownBlock]⟩
theorem OwnV.upd (h:OwnV w0 e k v n cs w) (hu:Upd S w w') (hS:∀ b∈S,v.ownBlock≠some b):OwnV w0 e k v n cs w':=⟨ownsRow_updL h.row hu hS,h.fresh⟩
theorem OwnV.lt (h:OwnV w0 e k v n cs w):∀ g,v.ownBlock=some g→g<w.heap.size:=fun g hg=>(h.row.lt g hg).2
theorem OwnV.push {g cap:Nat} {news:List Value} (h:OwnV w0 e k v n cs w) (hz:w0.heap.size≤w.heap.size) (o:w'.ownsRow 0 e k (.slice (some ⟨g,0,none⟩) (n+1) cap) (n+1) (cs++news)) (hk:v.ownBlock=some g∨w.heap.size≤g) :
 OwnV w0 e k (.slice (some ⟨g,0,none⟩) (n+1) cap) (n+1) (cs++news) w':=by
 refine ⟨o,fun j hj=>?_⟩
 simp only [Value.ownBlock,Option.some.injEq] at hj
 subst hj
 rcases hk with hk|hk
 ·exact h.fresh _ hk
 ·omega
theorem OwnV.sl (h:OwnV w0 e k v n cs w):SL w k v n cs:=SL.of_owns h.row
end
structure OwnL (e:TypeId) (w0:World) (v:Value) (cs:List (List Int)) (F:List Nat) (w:World):Prop where
 ex:∃ vals,OwnV w0 e 1 v cs.length vals w∧∀ (i:Nat) (c:List Int),cs[i]?=some c→∃ y,vals[i]?=some y∧SL w 1 y c.length (ints c)∧∀ b,y.ownBlock=some b→b∈F
 apart:∀ b,v.ownBlock=some b→b ∉ F
 lt:∀ b∈F,b<w.heap.size
section
variable {w0 w w':World} {e:TypeId} {v:Value} {cs:List (List Int)} {S F:List Nat}
theorem OwnL.nil (e:TypeId) (w0 w:World):OwnL e w0 (.slice none 0 0) [] [] w:=⟨⟨[],OwnV.nil _ _ _ _,by simp⟩,by simp [Value.ownBlock],by simp⟩
theorem OwnL.upd (h:OwnL e w0 v cs F w) (hu:Upd S w w') (hS:∀ b∈S,b ∉ F∧v.ownBlock≠some b):OwnL e w0 v cs F w':=by
 obtain ⟨vals,h1,h2⟩:=h.ex
 refine ⟨⟨vals,h1.upd hu (fun b hb=>(hS b hb).2),fun i c hc=>?_⟩,h.apart,fun b hb=>Nat.lt_of_lt_of_le (h.lt b hb) hu.size⟩
 obtain ⟨y,hy,hs,hf⟩:=h2 i c hc
 exact ⟨y,hy,hs.upd hu (fun b hb hyb=>(hS b hb).1 (hf b hyb)),hf⟩
theorem OwnL.own_lt (h:OwnL e w0 v cs F w):∀ g,v.ownBlock=some g→g<w.heap.size:=by
 obtain ⟨vals,h1,h2⟩:=h.ex
 exact h1.lt
theorem OwnL.push {g cap:Nat} {y:Value} {c:List Int} {vals:List Value} (h:OwnL e w0 v cs F w) (h1:OwnV w0 e 1 v cs.length vals w) (h2:∀ (i:Nat) (c:List Int),cs[i]?=some c→∃ y,vals[i]?=some y∧SL w 1 y c.length (ints c)∧∀ b,y.ownBlock=some b→b∈F) (hz:w0.heap.size≤w.heap.size) (hy:SL w 1 y c.length (ints c)) (hyv:∀ b,y.ownBlock=some b→v.ownBlock≠some b∧b<w.heap.size)
 (o:w'.ownsRow 0 e 1 (.slice (some ⟨g,0,none⟩) (cs.length+1) cap) (cs.length+1) (vals++[y])) (u:Upd v.ownBlock.toList w w') (hk:v.ownBlock=some g∨w.heap.size≤g) :
 OwnL e w0 (.slice (some ⟨g,0,none⟩) (cs.length+1) cap) (cs++[c]) (F++y.ownBlock.toList) w':=by
 have hl:vals.length=cs.length:=by have:=h1.row.1;omega
 refine ⟨⟨vals++[y],by rw [List.length_append,List.length_singleton];exact h1.push hz o hk,fun i d hd=>?_⟩,fun b hb hm=>?_,fun b hb=>?_⟩
 ·rcases Nat.lt_or_ge i cs.length with hi|hi
  ·rw [List.getElem?_append_left hi] at hd
   obtain ⟨x,hx,hs,hf⟩:=h2 i d hd
   refine ⟨x,by rw [List.getElem?_append_left (by omega)];exact hx,hs.upd u (fun b hb hxb=>?_),fun b hb=>List.mem_append_left _ (hf b hb)⟩
   simp only [Option.mem_toList] at hb
   exact h.apart b hb (hf b hxb)
  ·rw [List.getElem?_append_right hi] at hd
   have hi0:i=cs.length:=by
    have:=(List.getElem?_eq_some_iff.1 hd).1
    simp at this
    omega
   subst hi0
   simp at hd
   subst hd
   refine ⟨y,by rw [←hl];simp,hy.upd u (fun b hb hxb=>?_),fun b hb=>List.mem_append_right _ (by simpa using hb)⟩
   simp only [Option.mem_toList] at hb
   exact (hyv b hxb).1 hb
 ·simp only [Value.ownBlock,Option.some.injEq] at hb
  subst hb
  rcases List.mem_append.1 hm with hm|hm
  ·rcases hk with hk|hk
   ·exact h.apart _ hk hm
   ·have:=h.lt _ hm;omega
  ·simp only [Option.mem_toList] at hm
   have:=hyv _ hm
   rcases hk with hk|hk
   ·exact this.1 hk
   ·omega
 ·have hs:=u.size
  rcases List.mem_append.1 hb with hm|hm
  ·have:=h.lt _ hm;omega
  ·simp only [Option.mem_toList] at hm
   have:=(hyv _ hm).2
   omega
end
def bools (l:List Bool):List Value:=l.map Value.bool
theorem bools_get {l:List Bool} {i:Nat} {x:Bool} (h:l[i]?=some x):(bools l)[i]?=some (.bool x):=by simp [bools,h]
end L
end Go.Proofs.YtjclbjdkkdijbaaGreat
