/- Regular expressions in memory: nodes, lists of nodes that stand apart from some blocks. Conditions: none. -/
import Derived.Test.YtjclbjdkkdijbaaGreatRxN
import Derived.Test.YtjclbjdkkdijbaaGreatLib2
set_option linter.unusedVariables false
set_option linter.unusedSimpArgs false
set_option linter.unusedSectionVars false
open Go.RowKit
namespace Go.Proofs.YtjclbjdkkdijbaaGreat
open L
namespace Rgx
open Rx
def rxC (k lo hi:Int) (vk:Value):List Value:=[.int .i64 k,.int .u8 lo,.int .u8 hi,vk]
def Sc (k lo hi:Int):Prop:=IsI64 k∧(0≤lo∧lo≤255)∧0≤hi∧hi≤255
inductive RxF (M:List Nat) (w:World):Rx→List Value→Prop where
 | mk (k lo hi:Int) (ks:List Rx) (vk:Value) (css:Nat→List Value):Sc k lo hi→SL w 4 vk ks.length (rows ks.length css)→(∀ i,(css i).length=4)→(∀ g,ks≠[]→vk.ownBlock=some g→g ∉ M) →
  (∀ i r,ks[i]?=some r→RxF M w r (css i))→RxF M w (nd k lo hi ks) (rxC k lo hi vk)
def RxL (M:List Nat) (w:World) (ks:List Rx) (vk:Value):Prop:=
 ∃ css:Nat→List Value,SL w 4 vk ks.length (rows ks.length css)∧(∀ i,(css i).length=4)∧(∀ g,ks≠[]→vk.ownBlock=some g→g ∉ M)∧∀ i r,ks[i]?=some r→RxF M w r (css i)
def RxV (M:List Nat) (w:World) (r:Rx) (v:Value):Prop:=∃ cs,v=.agg cs.toArray∧RxF M w r cs
section
variable {M M' S:List Nat} {w w':World}
theorem RxF.iff {k lo hi:Int} {ks:List Rx} {cs:List Value}:RxF M w (nd k lo hi ks) cs↔∃ vk,cs=rxC k lo hi vk∧Sc k lo hi∧RxL M w ks vk:=by
 constructor
 ·intro h
  cases h with
  | mk _ _ _ _ vk css a b c d e=>exact ⟨vk,rfl,a,css,b,c,d,e⟩
 ·rintro ⟨vk,rfl,a,css,b,c,d,e⟩
  exact .mk k lo hi ks vk css a b c d e
theorem RxV.iff {k lo hi:Int} {ks:List Rx} {v:Value}:RxV M w (nd k lo hi ks) v↔∃ vk,v=.agg #[.int .i64 k,.int .u8 lo,.int .u8 hi,vk]∧Sc k lo hi∧RxL M w ks vk:=by
 constructor
 ·rintro ⟨cs,rfl,h⟩
  obtain ⟨vk,rfl,h1⟩:=RxF.iff.1 h
  exact ⟨vk,rfl,h1⟩
 ·rintro ⟨vk,rfl,h⟩
  exact ⟨rxC k lo hi vk,rfl,RxF.iff.2 ⟨vk,rfl,h⟩⟩
theorem RxF.upd {r:Rx} {cs:List Value} (h:RxF M w r cs) (u:Upd S w w') (hS:∀ b∈S,b∈M):RxF M w' r cs:=by
 induction h with
 | mk k lo hi ks vk css a b c d e ih=>
  refine .mk k lo hi ks vk css a ?_ c d ih
  cases ks with
  | nil=>
   obtain ⟨h1,a,cap,rfl,h2,h3,h4,h5⟩:=b
   exact ⟨h1,a,cap,rfl,h2,h3,h4,.inl rfl⟩
  | cons x l=>exact b.upd u fun g hg e'=>d g (by simp) e' (hS g hg)
theorem RxF.ext {r:Rx} {cs:List Value} (h:RxF M w r cs) (u:Upd [] w w'):RxF M w' r cs:=h.upd u (by simp)
theorem SL.own_lt {k n:Nat} {v:Value} {cs:List Value} (h:SL w k v n cs) (hn:0<n) (hk:0<k) {g:Nat} (hg:v.ownBlock=some g):g<w.heap.size:=by
 obtain ⟨h1,a,cap,rfl,_,_,_,h5⟩:=h
 rcases h5 with h5|⟨b,off,rfl,h5⟩
 ·omega
 ·simp only [Value.ownBlock,Option.some.injEq] at hg
  have hl:0<cs.length:=by rw [h1];exact Nat.mul_pos hn hk
  have:=h5 0 cs[0] (List.getElem?_eq_getElem hl)
  have:=World.block_lt_of_cell? w _ this
  dsimp only at this
  omega
theorem RxF.sub {r:Rx} {cs:List Value} (h:RxF M w r cs) (hM:∀ b∈M',b∈M∨w.heap.size≤b):RxF M' w r cs:=by
 induction h with
 | mk k lo hi ks vk css a b c d e ih=>
  refine .mk k lo hi ks vk css a b c (fun g hne hg hm=>?_) ih
  rcases hM g hm with h1|h1
  ·exact d g hne hg h1
  ·have:=SL.own_lt b (List.length_pos_iff.2 hne) (by omega) hg
   omega
theorem RxF.len {r:Rx} {cs:List Value} (h:RxF M w r cs):cs.length=4:=by cases h;rfl
theorem RxL.upd {ks:List Rx} {vk:Value} (h:RxL M w ks vk) (u:Upd S w w') (hS:∀ b∈S,b∈M):RxL M w' ks vk:=by
 obtain ⟨css,b,c,d,e⟩:=h
 refine ⟨css,?_,c,d,fun i r hr=>(e i r hr).upd u hS⟩
 cases ks with
 | nil=>
  obtain ⟨h1,a,cap,rfl,h2,h3,h4,h5⟩:=b
  exact ⟨h1,a,cap,rfl,h2,h3,h4,.inl rfl⟩
 | cons x l=>exact b.upd u fun g hg e'=>d g (by simp) e' (hS g hg)
theorem RxL.ext {ks:List Rx} {vk:Value} (h:RxL M w ks vk) (u:Upd [] w w'):RxL M w' ks vk:=h.upd u (by simp)
theorem RxL.sub {ks:List Rx} {vk:Value} (h:RxL M w ks vk) (hM:∀ b∈M',b∈M∨w.heap.size≤b):RxL M' w ks vk:=by
 obtain ⟨css,b,c,d,e⟩:=h
 refine ⟨css,b,c,fun g hne hg hm=>?_,fun i r hr=>(e i r hr).sub hM⟩
 rcases hM g hm with h1|h1
 ·exact d g hne hg h1
 ·have:=SL.own_lt b (List.length_pos_iff.2 hne) (by omega) hg
  omega
theorem RxV.upd {r:Rx} {v:Value} (h:RxV M w r v) (u:Upd S w w') (hS:∀ b∈S,b∈M):RxV M w' r v:=by
 obtain ⟨cs,rfl,h⟩:=h
 exact ⟨cs,rfl,h.upd u hS⟩
theorem RxV.ext {r:Rx} {v:Value} (h:RxV M w r v) (u:Upd [] w w'):RxV M w' r v:=h.upd u (by simp)
theorem RxV.sub {r:Rx} {v:Value} (h:RxV M w r v) (hM:∀ b∈M',b∈M∨w.heap.size≤b):RxV M' w r v:=by
 obtain ⟨cs,rfl,h⟩:=h
 exact ⟨cs,rfl,h.sub hM⟩
theorem RxL.nil {vk:Value} (h:∃ a cap,vk=.slice a 0 cap∧cap≤maxLen∧(a=none→cap=0)):RxL M w [] vk:=by
 obtain ⟨a,cap,rfl,h1,h2⟩:=h
 exact ⟨fun _=>List.replicate 4 (.bool false),⟨rfl,a,cap,rfl,Nat.zero_le _,h1,h2,.inl rfl⟩,fun _=>rfl,fun _ h=>absurd rfl h,fun i r h=>by simp at h⟩
theorem RxL.nil0:RxL M w [] (.slice none 0 0):=.nil ⟨Option.none,0,rfl,Nat.zero_le _,fun _=>rfl⟩
theorem RxL.form {ks:List Rx} {vk:Value} (h:RxL M w ks vk):∃ a cap,vk=.slice a ks.length cap∧ks.length≤cap∧cap≤9223372036854775807 ∧
 ∀ i r,ks[i]?=some r→∃ g off x,a=some ⟨g,off,Option.none⟩∧RxF M w r (rxC r.kind r.lo r.hi x)∧∀ j u,(rxC r.kind r.lo r.hi x)[j]?=some u→w.cell? ⟨g,off+(i*4+j),Option.none⟩=some u:=by
 obtain ⟨css,b,c,d,e⟩:=h
 obtain ⟨h1,a,cap,rfl,h2,h3,h4,h5⟩:=b
 unfold maxLen at h3
 refine ⟨a,cap,rfl,h2,by omega,fun i r hr=>?_⟩
 have hl:=(List.getElem?_eq_some_iff.1 hr).1
 rcases h5 with h5|⟨g,off,rfl,h5⟩
 ·omega
 ·obtain ⟨k,lo,hi,l⟩:=r
  have hR:=e i _ hr
  obtain ⟨x,hx,_⟩:=RxF.iff.1 hR
  refine ⟨g,off,x,rfl,by rw [hx] at hR;exact hR,fun j u hj=>?_⟩
  rw [show rxC (nd k lo hi l).kind (nd k lo hi l).lo (nd k lo hi l).hi x=css i from hx.symm] at hj
  have hj4:j<4:=by have:=(List.getElem?_eq_some_iff.1 hj).1;rw [c i] at this;exact this
  refine h5 _ _ ?_
  rw [rows_get c hj4 hl]
  exact hj
theorem RxL.from_ {ks:List Rx} {a:Option Addr} {n cap i:Nat} (h:RxL M w ks (.slice a n cap)) (hn:n=ks.length) (hi:i≤n):RxL M w (ks.drop i) (sliced a i n cap 4):=by
 subst hn
 obtain ⟨css,b,c,d,e⟩:=h
 obtain ⟨h1,a',cap',he,h2,h3,h4,h5⟩:=b
 cases he
 have hsh:∃ a2 c2,sliced a i ks.length cap 4=.slice a2 (ks.length-i) c2∧ks.length-i≤c2∧c2≤maxLen∧(a2=Option.none→c2=0)∧(ks.length-i=0∨∃ g off,a=some ⟨g,off,Option.none⟩∧a2=some ⟨g,off+i*4,Option.none⟩):=by
  unfold sliced
  refine ⟨_,_,rfl,by omega,by omega,fun hnone=>?_,?_⟩
  ·split at hnone
   ·omega
   ·cases a with
    | none=>have:=h4 rfl;omega
    | some x=>cases hnone
  ·rcases h5 with h5|⟨g,off,rfl,h5⟩
   ·left;omega
   ·by_cases hc:cap-i=0
    ·left;omega
    ·right
     rw [if_neg (show ¬ cap=i by omega)]
     exact ⟨g,off,rfl,by simp [addr_add]⟩
 obtain ⟨a2,c2,e1,e2,e3,e4,e5⟩:=hsh
 rw [e1]
 refine ⟨fun j=>css (i+j),⟨?_,a2,c2,by rw [List.length_drop],by rw [List.length_drop];exact e2,e3,e4,?_⟩,fun j=>c _,?_,fun j r hr=>e (i+j) r (by rw [List.getElem?_drop] at hr;exact hr)⟩
 ·exact rows_length (fun j=>c _) _
 ·rw [List.length_drop]
  rcases e5 with e5|⟨g,off,rfl,rfl⟩
  ·exact .inl e5
  ·right
   refine ⟨g,off+i*4,rfl,fun j u hj=>?_⟩
   have hjl:=(List.getElem?_eq_some_iff.1 hj).1
   rw [rows_length (fun j=>c _)] at hjl
   rcases h5 with h5|⟨g',off',he,h5⟩
   ·omega
   ·cases he
    have hq:j=(j / 4)*4+j % 4:=by omega
    have hm:j % 4<4:=Nat.mod_lt _ (by omega)
    have:=h5 (i*4+j) u ?_
    ·rw [show off+i*4+j=off+(i*4+j) by omega];exact this
    ·rw [hq,rows_get (fun j=>c (i+j)) hm (by omega)] at hj
     rw [show i*4+j=(i+j / 4)*4+j % 4 by omega,rows_get c hm (by omega)]
     exact hj
 ·intro g hne hg
  have hks:ks≠[]:=by rintro rfl;simp at hne
  rcases e5 with e5|⟨g',off,rfl,rfl⟩
  ·exact absurd (List.eq_nil_of_length_eq_zero (by rw [List.length_drop];exact e5)) hne
  ·simp only [Value.ownBlock,Option.some.injEq] at hg
   subst hg
   exact d g' hks rfl
def OwR (e:TypeId) (M:List Nat) (w:World) (v:Value) (ks:List Rx):Prop:=
 ∃ css:Nat→List Value,w.ownsRow 0 e 4 v ks.length (rows ks.length css)∧(∀ i,(css i).length=4)∧(∀ b∈M,v.ownBlock≠some b)∧∀ i r,ks[i]?=some r→RxF (M++v.ownBlock.toList) w r (css i)
theorem OwR.nil0 {e:TypeId}:OwR e M w (.slice Option.none 0 0) []:=⟨fun _=>List.replicate 4 (.bool false),⟨rfl,.inl ⟨rfl,rfl⟩⟩,fun _=>rfl,fun _ _=>by simp [Value.ownBlock],fun i r h=>by simp at h⟩
theorem OwR.list {e:TypeId} {v:Value} {ks:List Rx} (h:OwR e M w v ks):RxL M w ks v:=by
 obtain ⟨css,a,b,c,d⟩:=h
 exact ⟨css,SL.of_owns a,b,fun g _ hg hm=>c g hm hg,fun i r hr=>(d i r hr).sub fun b hb=>.inl (List.mem_append_left _ hb)⟩
theorem OwR.upd {e:TypeId} {v:Value} {ks:List Rx} (h:OwR e M w v ks) (u:Upd S w w') (hS:∀ b∈S,b∈M):OwR e M w' v ks:=by
 obtain ⟨css,a,b,c,d⟩:=h
 exact ⟨css,ownsRow_updL a u (fun k hk=>c k (hS k hk)),b,c,fun i r hr=>(d i r hr).upd u fun k hk=>List.mem_append_left _ (hS k hk)⟩
theorem OwR.ext {e:TypeId} {v:Value} {ks:List Rx} (h:OwR e M w v ks) (u:Upd [] w w'):OwR e M w' v ks:=h.upd u (by simp)
theorem rows_snoc {k n:Nat} (css:Nat→List Value) (c:List Value):rows n css++c=rows (n+1) (fun i=>if i=n then c else css i):=by
 rw [rows_succ,if_pos rfl]
 congr 1
 exact rows_congr fun i hi=>by rw [if_neg (by omega)]
theorem OwR.push {e:TypeId} {v v':Value} {ks:List Rx} {css:Nat→List Value} {r:Rx} {c:List Value} {n:Nat} (hb:∀ i,(css i).length=4) (hM:∀ b∈M,b<w.heap.size) (hc:∀ b∈M,v.ownBlock≠some b) (hn:n=ks.length)
 (hd:∀ i r,ks[i]?=some r→RxF (M++v.ownBlock.toList) w r (css i)) (hr:RxF (M++v.ownBlock.toList) w r c) (hrow:w'.ownsRow 0 e 4 v' (n+1) (rows n css++c)) (u:Upd v.ownBlock.toList w w')
 (hv:v'.ownBlock=v.ownBlock∨∃ g,v'.ownBlock=some g∧w.heap.size≤g):OwR e M w' v' (ks++[r]):=by
 subst hn
 have hoff:∀ b∈M++v'.ownBlock.toList,b∈M++v.ownBlock.toList∨w.heap.size≤b:=by
  intro b hb
  rcases List.mem_append.1 hb with hb|hb
  ·exact .inl (List.mem_append_left _ hb)
  ·rcases hv with hv|⟨g,hv,hg⟩
   ·rw [hv] at hb;exact .inl (List.mem_append_right _ hb)
   ·rw [hv] at hb;simp at hb;right;omega
 have up:∀ {r:Rx} {c:List Value},RxF (M++v.ownBlock.toList) w r c→RxF (M++v'.ownBlock.toList) w' r c:=fun {r c} h=>by
  have h1:=h.upd u (fun b hb=>List.mem_append_right _ hb)
  have h2:=(h.sub hoff)
  have h3:=RxF.sub (M':=(M++v.ownBlock.toList)++(M++v'.ownBlock.toList)) h (fun b hb=>by
   rcases List.mem_append.1 hb with hb|hb
   ·exact .inl hb
   ·exact hoff b hb)
  have h4:=h3.upd u (fun b hb=>List.mem_append_left _ (List.mem_append_right _ hb))
  exact h4.sub fun b hb=>.inl (List.mem_append_right _ hb)
 rw [rows_snoc (k:=4) css c] at hrow
 refine ⟨fun i=>if i=ks.length then c else css i,by rw [List.length_append];exact hrow,fun i=>?_,fun b hb=>?_,fun i x hx=>?_⟩
 ·dsimp only
  split
  ·exact hr.len
  ·exact hb i
 ·rcases hv with hv|⟨g,hv,hg⟩
  ·rw [hv];exact hc b hb
  ·rw [hv];have:=hM b hb;simp;omega
 ·dsimp only
  rcases Nat.lt_or_ge i ks.length with hi|hi
  ·rw [List.getElem?_append_left hi] at hx
   rw [if_neg (by omega)]
   exact up (hd i x hx)
  ·rw [List.getElem?_append_right hi] at hx
   have h0:i=ks.length:=by
    have:=(List.getElem?_eq_some_iff.1 hx).1
    simp at this;omega
   subst h0
   simp at hx
   subst hx
   rw [if_pos rfl]
   exact up hr
theorem rows_app {k:Nat} (n:Nat) (css cs2:Nat→List Value):∀ m,rows n css++rows m cs2=rows (n+m) (fun i=>if i<n then css i else cs2 (i-n))
 | 0=>by
  rw [show rows 0 cs2=[] from rfl,List.append_nil]
  exact rows_congr fun i hi=>by rw [if_pos hi]
 | m+1=>by
  rw [rows_succ,←List.append_assoc,rows_app (k:=k) n css cs2 m,show n+(m+1)=(n+m)+1 by omega,rows_succ]
  congr 1
  rw [if_neg (by omega),Nat.add_sub_cancel_left]
theorem OwR.pushL {e:TypeId} {v v':Value} {ks ls:List Rx} {css cs2:Nat→List Value} {n m:Nat} (hb:∀ i,(css i).length=4) (hb2:∀ i,(cs2 i).length=4) (hM:∀ b∈M,b<w.heap.size) (hc:∀ b∈M,v.ownBlock≠some b) (hn:n=ks.length) (hm:m=ls.length)
 (hd:∀ i r,ks[i]?=some r→RxF (M++v.ownBlock.toList) w r (css i)) (hr:∀ i r,ls[i]?=some r→RxF (M++v.ownBlock.toList) w r (cs2 i)) (hrow:w'.ownsRow 0 e 4 v' (n+m) (rows n css++rows m cs2)) (u:Upd v.ownBlock.toList w w')
 (hv:v'.ownBlock=v.ownBlock∨∃ g,v'.ownBlock=some g∧w.heap.size≤g):OwR e M w' v' (ks++ls):=by
 subst hn hm
 have hoff:∀ b∈M++v'.ownBlock.toList,b∈M++v.ownBlock.toList∨w.heap.size≤b:=by
  intro b hb
  rcases List.mem_append.1 hb with hb|hb
  ·exact .inl (List.mem_append_left _ hb)
  ·rcases hv with hv|⟨g,hv,hg⟩
   ·rw [hv] at hb;exact .inl (List.mem_append_right _ hb)
   ·rw [hv] at hb;simp at hb;right;omega
 have up:∀ {r:Rx} {c:List Value},RxF (M++v.ownBlock.toList) w r c→RxF (M++v'.ownBlock.toList) w' r c:=fun {r c} h=>by
  have h3:=RxF.sub (M':=(M++v.ownBlock.toList)++(M++v'.ownBlock.toList)) h (fun b hb=>by
   rcases List.mem_append.1 hb with hb|hb
   ·exact .inl hb
   ·exact hoff b hb)
  have h4:=h3.upd u (fun b hb=>List.mem_append_left _ (List.mem_append_right _ hb))
  exact h4.sub fun b hb=>.inl (List.mem_append_right _ hb)
 rw [rows_app (k:=4) _ css cs2] at hrow
 refine ⟨fun i=>if i<ks.length then css i else cs2 (i-ks.length),by rw [List.length_append];exact hrow,fun i=>?_,fun b hb=>?_,fun i x hx=>?_⟩
 ·dsimp only
  split
  ·exact hb i
  ·exact hb2 _
 ·rcases hv with hv|⟨g,hv,hg⟩
  ·rw [hv];exact hc b hb
  ·rw [hv];have:=hM b hb;simp;omega
 ·dsimp only
  rcases Nat.lt_or_ge i ks.length with hi|hi
  ·rw [List.getElem?_append_left hi] at hx
   rw [if_pos hi]
   exact up (hd i x hx)
  ·rw [List.getElem?_append_right hi] at hx
   rw [if_neg (by omega)]
   exact up (hr _ x hx)
theorem set_get {l:List Value} {i:Nat} {v:Value} (j:Nat):(l.set i v)[j]?=if i=j then (if i<l.length then some v else none) else l[j]?:=List.getElem?_set
theorem rows_set4 {n i:Nat} {css:Nat→List Value} {pad:List Value} {a b c d:Value} (h4:∀ i,(css i).length=4) (hi:i<n) :
 ((((rows n css++pad).set (i*4) a).set (i*4+1) b).set (i*4+2) c).set (i*4+3) d=rows n (fun k=>if k=i then [a,b,c,d] else css k)++pad:=by
 have h4':∀ k,((fun k=>if k=i then [a,b,c,d] else css k) k).length=4:=fun k=>by
  dsimp only
  split
  ·rfl
  ·exact h4 k
 have l1:=rows_length h4 n
 have l2:=rows_length h4' n
 apply List.ext_getElem?
 intro j
 simp only [set_get,List.length_set,List.length_append,l1]
 rcases Nat.lt_or_ge j (n*4) with hj|hj
 ·rw [List.getElem?_append_left (by rw [l1];exact hj),List.getElem?_append_left (by rw [l2];exact hj)]
  have hq:j=(j / 4)*4+j % 4:=by omega
  have hm:j % 4<4:=Nat.mod_lt _ (by omega)
  generalize j / 4=q at *
  generalize j % 4=r at *
  subst hq
  rw [rows_get h4 hm (by omega),rows_get h4' hm (by omega)]
  by_cases hqi:q=i
  ·subst hqi
   rw [if_pos rfl]
   rcases (by omega:r=0∨r=1∨r=2∨r=3) with rfl|rfl|rfl|rfl
   ·rw [if_neg (by omega),if_neg (by omega),if_neg (by omega),if_pos (by omega),if_pos (by omega)];rfl
   ·rw [if_neg (by omega),if_neg (by omega),if_pos (by omega),if_pos (by omega)];rfl
   ·rw [if_neg (by omega),if_pos (by omega),if_pos (by omega)];rfl
   ·rw [if_pos (by omega),if_pos (by omega)];rfl
  ·rw [if_neg hqi,if_neg (by omega),if_neg (by omega),if_neg (by omega),if_neg (by omega)]
 ·rw [List.getElem?_append_right (by rw [l1];exact hj),List.getElem?_append_right (by rw [l2];exact hj),l1,l2,if_neg (by omega),if_neg (by omega),if_neg (by omega),if_neg (by omega)]
def Box (e:TypeId) (M:List Nat) (w:World) (bx:Nat) (u:Rx):Prop:=∃ a c,Blk w bx (rxC u.kind u.lo u.hi (.slice a u.kids.length c)) e∧RxF M w u (rxC u.kind u.lo u.hi (.slice a u.kids.length c))∧bx ∉ M
theorem Box.upd {e:TypeId} {bx:Nat} {u:Rx} (h:Box e M w bx u) (hu:Upd S w w') (hS:∀ b∈S,b∈M):Box e M w' bx u:=by
 obtain ⟨a,c,h1,h2,h3⟩:=h
 exact ⟨a,c,h1.upd hu (fun hm=>h3 (hS _ hm)),h2.upd hu hS,h3⟩
theorem Box.ext {e:TypeId} {bx:Nat} {u:Rx} (h:Box e M w bx u) (hu:Upd [] w w'):Box e M w' bx u:=h.upd hu (by simp)
theorem Box.sub {e:TypeId} {bx:Nat} {u:Rx} (h:Box e M w bx u) (hM:∀ b∈M',b∈M∨w.heap.size≤b):Box e M' w bx u:=by
 obtain ⟨a,c,h1,h2,h3⟩:=h
 refine ⟨a,c,h1,h2.sub hM,fun hm=>?_⟩
 rcases hM _ hm with h|h
 ·exact h3 h
 ·have:=h1.lt;omega
theorem RxV.shape {r:Rx} {v:Value} (h:RxV M w r v):∃ a c,v=.agg #[.int .i64 r.kind,.int .u8 r.lo,.int .u8 r.hi,.slice a r.kids.length c]∧RxF M w r (rxC r.kind r.lo r.hi (.slice a r.kids.length c))∧Sc r.kind r.lo r.hi∧RxL M w r.kids (.slice a r.kids.length c):=by
 obtain ⟨k,lo,hi,ks⟩:=r
 obtain ⟨vk,rfl,h1,h2⟩:=RxV.iff.1 h
 obtain ⟨a,c,rfl,_⟩:=id h2.form
 exact ⟨a,c,rfl,RxF.iff.2 ⟨_,rfl,h1,h2⟩,h1,h2⟩
theorem Box.new {e:TypeId} {u:Rx} {a:Option Addr} {c:Nat} (h:RxF M w u (rxC u.kind u.lo u.hi (.slice a u.kids.length c))) (hM:∀ b∈M,b<w.heap.size):Box e M (w.alloc (.cells (rxC u.kind u.lo u.hi (.slice a u.kids.length c)).toArray e)) w.heap.size u:=
 ⟨a,c,Blk.new w _ e,h.ext ((Upd.refl [] w).alloc _),fun hm=>by have:=hM _ hm;omega⟩
theorem OwR.blk {e:TypeId} {v:Value} {ks:List Rx} (h:OwR e M w v ks) (hne:ks≠[]):∃ g c css pad,v=.slice (some ⟨g,0,none⟩) ks.length c∧Blk w g (rows ks.length css++pad) e∧(rows ks.length css++pad).length=c*4∧ks.length≤c∧c≤9223372036854775807 ∧
 (∀ i,(css i).length=4)∧g ∉ M∧∀ i r,ks[i]?=some r→RxF (M++[g]) w r (css i):=by
 obtain ⟨css,a,b,c,d⟩:=h
 obtain ⟨a1,a2⟩:=a
 rcases a2 with ⟨_,h0⟩|⟨g,cap,cur,rfl,_,hg,hnc,hcm,hcs,htake⟩
 ·exact absurd (List.eq_nil_of_length_eq_zero h0) hne
 ·unfold maxLen at hcm
  have e1:rows ks.length css++cur.toList.drop (ks.length*4)=cur.toList:=by rw [←htake,List.take_append_drop]
  refine ⟨g,cap,css,cur.toList.drop (ks.length*4),rfl,by rw [e1];exact hg,by rw [e1];simpa using hcs,hnc,by omega,b,fun hm=>c g hm rfl,d⟩
theorem OwR.of_blk {e:TypeId} {g c m:Nat} {css:Nat→List Value} {pad:List Value} {ls:List Rx} (hb:Blk w g (rows m css++pad) e) (hl:(rows m css++pad).length=c*4) (hm:m=ls.length) (hmc:m≤c) (hc:c≤9223372036854775807)
 (h4:∀ i,(css i).length=4) (hg:g ∉ M) (he:∀ i r,ls[i]?=some r→RxF (M++[g]) w r (css i)):OwR e M w (.slice (some ⟨g,0,none⟩) m c) ls:=by
 subst hm
 refine ⟨css,⟨rows_length h4 _,.inr ⟨g,c,(rows ls.length css++pad).toArray,rfl,Nat.zero_le _,hb,hmc,by unfold maxLen;omega,by simpa using hl,?_⟩⟩,h4,fun b hbM hgb=>?_,he⟩
 ·rw [List.take_append_of_le_length (by rw [rows_length h4];exact Nat.le_refl _),List.take_of_length_le (by rw [rows_length h4];exact Nat.le_refl _)]
 ·simp only [Value.ownBlock,Option.some.injEq] at hgb
  subst hgb
  exact hg hbM
theorem RxF.cs {r:Rx} {cs:List Value} (h:RxF M w r cs):∃ a c,cs=rxC r.kind r.lo r.hi (.slice a r.kids.length c):=by
 obtain ⟨k,lo,hi,l⟩:=r
 obtain ⟨vk,rfl,_,h2⟩:=RxF.iff.1 h
 obtain ⟨a,c,rfl,_⟩:=h2.form
 exact ⟨a,c,rfl⟩
end
end Rgx
end Go.Proofs.YtjclbjdkkdijbaaGreat
