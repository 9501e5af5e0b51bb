/- General lemmas on worlds, blocks and slices: no program is named. Conditions: none. -/
import Derived.WalkKit
import Derived.WalkLawsBesides
import Derived.WalkSpells
import Derived.Outline
import Derived.Lib.Hide
import Derived.Deep.QuietTactic
import Derived.BigQuiet
import Derived.RegionTactic
import Derived.Deep.RegionHeld3
import Derived.Deep.DeepCutAuto
import Derived.Deep.LoopGhost
import Derived.Laws.CopyOwn
import Derived.Laws.AppendOwnNone
set_option linter.unusedVariables false
set_option linter.unusedSimpArgs false
set_option linter.unusedSectionVars false
open Go.RowKit
namespace Go.Proofs.YtjclbjdkkdijbaaGreat
namespace L

structure Upd (S:List Nat) (w w':World):Prop where
 os:w'.os=w.os
 tape:w'.tape=w.tape
 output:w'.output=w.output
 size:w.heap.size≤w'.heap.size
 block:∀ k,k<w.heap.size→k ∉ S→w'.heap[k]?=w.heap[k]?

theorem Upd.refl (S:List Nat) (w:World):Upd S w w:=⟨rfl,rfl,rfl,Nat.le_refl _,fun _ _ _=>rfl⟩
theorem Upd.fresh {S T:List Nat} {a b c:World} (h:Upd S a b) (k:Upd T b c) (hT:∀ k∈T,k∈S∨a.heap.size≤k):Upd S a c:=
 ⟨k.os.trans h.os,k.tape.trans h.tape,k.output.trans h.output,Nat.le_trans h.size k.size,fun i hi hn=>
  (k.block i (Nat.lt_of_lt_of_le hi h.size) (fun hm=>by rcases hT i hm with h'|h' <;> first|exact hn h'|omega)).trans (h.block i hi hn)⟩
theorem Upd.trans {S:List Nat} {a b c:World} (h:Upd S a b) (k:Upd S b c):Upd S a c:=h.fresh k fun _ hk=>.inl hk
theorem Upd.wide {S T:List Nat} {a b:World} (h:Upd S a b) (hT:∀ k∈S,k∈T∨a.heap.size≤k):Upd T a b:=(Upd.refl T a).fresh h hT
theorem Upd.nil {S:List Nat} {a b:World} (h:Upd [] a b):Upd S a b:=h.wide (by simp)
theorem Upd.step {S:List Nat} {a b c:World} (h:Upd S a b) (k:Upd [] b c):Upd S a c:=h.fresh k (by simp)
theorem Upd.alloc {S:List Nat} {a w:World} (h:Upd S a w) (o:Obj):Upd S a (w.alloc o):=
 h.trans ⟨rfl,rfl,rfl,by simp,fun k hk _=>Below.heap_alloc _ _ _ hk⟩
theorem Upd.drew {S:List Nat} {a w:World} (h:Upd S a w):Upd S a w.drew:=⟨h.os,h.tape,h.output,h.size,h.block⟩
theorem Upd.dl {S:List Nat} {a w:World} (h:Upd S a w):Upd S a.drew w:=⟨h.os,h.tape,h.output,h.size,h.block⟩
theorem Upd.drewN {S:List Nat} {a w:World} (h:Upd S a w) (n:Nat):Upd S a (w.drewN n):=⟨h.os,h.tape,h.output,h.size,h.block⟩
theorem Upd.set {S:List Nat} {a w:World} (h:Upd S a w) {p:Addr} (hp:p.block∈S∨a.heap.size≤p.block) (u:Value):Upd S a (w.setCell p u):=
 h.fresh (T:=[p.block]) ⟨rfl,rfl,rfl,by simp [World.setCell],fun k _ hn=>Below.heap_setCell _ _ _ _ (by simpa using hn)⟩ (by simpa using hp)
theorem Upd.setRow {S:List Nat} {a w:World} (h:Upd S a w) {g:Nat} (hp:g∈S∨a.heap.size≤g) (cs:Array Value):Upd S a (w.setRow g cs):=
 h.fresh (T:=[g]) ⟨rfl,rfl,rfl,by simp [World.setRow],fun k _ hn=>setRow_other _ _ _ _ (by simpa using hn)⟩ (by simpa using hp)
theorem Upd.grown {S:List Nat} {a w w':World} {row:Option Nat} (h:Upd S a w) (hg:w.grownBy w' row) (hr:∀ k,row=some k→k∈S∨a.heap.size≤k):Upd S a w':=by
 refine h.fresh (T:=row.toList) ⟨hg.os,hg.tape,hg.output,hg.size,fun k hk hn=>hg.block k hk (fun e=>hn (by simp [←e]))⟩ ?_
 intro k hk
 exact hr k (by simpa using hk)
theorem Upd.below {w w':World} (h:Upd [] w w'):Below w.heap.size w w':=⟨h.os,h.tape,h.output,h.size,fun k hk=>h.block k hk (by simp)⟩
theorem Upd.cell {S:List Nat} {w w':World} (h:Upd S w w') {p:Addr} (hp:p.block<w.heap.size) (hn:p.block ∉ S):w'.cell? p=w.cell? p:=
 World.cell?_of_block (w:=w) (h.block p.block hp hn)
theorem Upd.frozen {S:List Nat} {w w':World} (h:Upd S w w') {p:Addr} (hp:p.block<w.heap.size) (hn:p.block ∉ S):w'.frozen? p=w.frozen? p:=
 World.frozen?_of_block (w:=w) (h.block p.block hp hn)
theorem Upd.some {S:List Nat} {w w':World} (h:Upd S w w') {p:Addr} {v:Value} (hc:w.cell? p=some v) (hn:p.block ∉ S):w'.cell? p=some v:=
 (h.cell (World.block_lt_of_cell? w p hc) hn).trans hc

def Ext (w:World):Type:={ w':World // Upd [] w w' }
instance (w:World):Nonempty (Ext w):=⟨⟨w,Upd.refl _ _⟩⟩
theorem Ext.cell {w:World} (x:Ext w) (a:Addr) (h:(w.cell? a).isSome=true):x.val.cell? a=w.cell? a:=by
 obtain ⟨u,hu⟩:=Option.isSome_iff_exists.1 h
 exact x.property.cell (World.block_lt_of_cell? w a hu) (by simp)
theorem Ext.frozen {w:World} (x:Ext w) (a:Addr) (h:(w.cell? a).isSome=true):x.val.frozen? a=w.frozen? a:=by
 obtain ⟨u,hu⟩:=Option.isSome_iff_exists.1 h
 exact x.property.frozen (World.block_lt_of_cell? w a hu) (by simp)
attribute [go_sem] Ext.cell Ext.frozen
theorem Ext.of {w w':World} (h:Upd [] w w'):∃ x:Ext w,w'=x.val:=⟨⟨w',h⟩,rfl⟩
theorem Ext.upd {w:World} (x:Ext w):Upd [] w x.val:=x.property

section
variable {P:Program} {id:Nat} {Q:Exit→Act→World→Prop} {a:Act} {w:World} {l:List Oper}
theorem wp_region_qx (hm:P.follows .mixedOrders=true) (hB:Region.lexB .any l.toArray=true)
 (h:wpQuiet P l.toArray (fun w'=>∃ x:Ext w,w'=x.val) (fun a'=>∀ x:Ext w,Q .normal a' x.val) l a):(Code.region id l.toArray true).wp P Q a w:=by
 refine wp_region_quiet (C:=fun w'=>∃ x:Ext w,w'=x.val) hm hB ⟨⟨w.drew,(Upd.refl _ _).drew⟩,rfl⟩ ?_
 have e:(fun a'=>∀ w',(∃ x:Ext w,w'=x.val)→Q .normal a' w')=(fun a'=>∀ x:Ext w,Q .normal a' x.val):=by
  funext a'
  exact propext ⟨fun h x=>h _ ⟨x,rfl⟩,fun h w' ⟨x,hx⟩=>by rw [hx];exact h x⟩
 rw [e]
 simpa using h
theorem qx {f:FuncId} {args:Array Value} {x:Ext w} {v:Value} (h:Calls P f args x.val fun e w'=>e=.returned v∧Upd [] x.val w') :
 Calls P f args x.val fun e w''=>e=.returned v∧∃ y:Ext w,w''=y.val:=
 h.mono fun _ _ ⟨he,hu⟩=>⟨he,Ext.of (x.property.step hu)⟩
end

section
variable {P:Program} {w:World}
theorem qs {f:FuncId} {args:Array Value} {x:Ext w} {v:Value} (h:Calls P f args x.val fun e w'=>e=.returned v∧x.val=w') :
 Calls P f args x.val fun e w''=>e=.returned v∧∃ y:Ext w,w''=y.val:=
 h.mono fun _ _ ⟨he,hu⟩=>⟨he,x,hu.symm⟩
end

def Blk (w:World) (b:Nat) (c:List Value) (e:TypeId):Prop:=w.heap[b]?=some (.cells c.toArray e (0,0))
section
variable {w w':World} {b:Nat} {c:List Value} {e:TypeId}
theorem Blk.lt (h:Blk w b c e):b<w.heap.size:=(Array.getElem?_eq_some_iff.1 h).1
theorem Blk.cell (h:Blk w b c e) {i:Nat} {v:Value} (hi:c[i]?=some v):w.cell? ⟨b,i,none⟩=some v:=by
 rw [cell_of_row w b i _ _ _ h];simpa using hi
theorem Blk.free (h:Blk w b c e) (i:Nat):w.frozen? ⟨b,i,none⟩=false:=by
 unfold World.frozen?;rw [h];simp
theorem Blk.upd {S:List Nat} (h:Blk w b c e) (hu:Upd S w w') (hb:b ∉ S):Blk w' b c e:=by
 unfold Blk;rw [hu.block b h.lt hb];exact h
theorem Blk.ext (h:Blk w b c e) (x:Ext w):Blk x.val b c e:=h.upd x.property (by simp)
theorem Blk.alloc (h:Blk w b c e) (o:Obj):Blk (w.alloc o) b c e:=h.upd ((Upd.refl [] w).alloc o) (by simp)
theorem Blk.drew (h:Blk w b c e):Blk w.drew b c e:=h
theorem Blk.new (w:World) (c:List Value) (e:TypeId):Blk (w.alloc (.cells c.toArray e)) w.heap.size c e:=heap_alloc_new w _
theorem Blk.set (h:Blk w b c e) (i:Nat) (v:Value):Blk (w.setCell ⟨b,i,none⟩ v) b (c.set i v) e:=by
 unfold Blk
 simp only [World.setCell,Array.getElem?_modify,if_true]
 rw [h]
 simp
theorem Blk.inj {c':List Value} {e':TypeId} (h:Blk w b c e) (h':Blk w b c' e'):c=c':=by
 unfold Blk at h h';rw [h] at h';simp at h';exact h'.1
end

def rows (n:Nat) (f:Nat→List Value):List Value:=(List.range n).flatMap f
theorem rows_succ (n:Nat) (f:Nat→List Value):rows (n+1) f=rows n f++f n:=by simp [rows,List.range_succ]
theorem rows_length {k:Nat} {f:Nat→List Value} (hf:∀ i,(f i).length=k):∀ n,(rows n f).length=n*k
 | 0=>by simp [rows]
 | n+1=>by rw [rows_succ,List.length_append,rows_length hf n,hf,Nat.succ_mul]
theorem rows_congr {n:Nat} {f g:Nat→List Value} (h:∀ i,i<n→f i=g i):rows n f=rows n g:=by
 induction n with
 | zero=>simp [rows]
 | succ n ih=>rw [rows_succ,rows_succ,ih (fun i hi=>h i (by omega)),h n (by omega)]
theorem rows_take {k:Nat} {f:Nat→List Value} (hf:∀ i,(f i).length=k) {m:Nat}:∀ {n:Nat},m≤n→(rows n f).take (m*k)=rows m f
 | 0,h=>by have:m=0:=by omega
           subst this;simp [rows]
 | n+1,h=>by
  by_cases e:m=n+1
  ·subst e;rw [List.take_of_length_le];rw [rows_length hf];exact Nat.le_refl _
  ·rw [rows_succ,List.take_append_of_le_length,rows_take hf (by omega:m≤n)]
   rw [rows_length hf];exact Nat.mul_le_mul_right _ (by omega)
theorem rows_get {k:Nat} {f:Nat→List Value} (hf:∀ i,(f i).length=k) {i j:Nat} (hj:j<k):∀ {n:Nat},i<n→(rows n f)[i*k+j]?=(f i)[j]?
 | 0,h=>by omega
 | n+1,h=>by
  rw [rows_succ]
  by_cases e:i=n
  ·subst e
   rw [List.getElem?_append_right (by rw [rows_length hf];omega),rows_length hf]
   congr 1;omega
  ·rw [List.getElem?_append_left,rows_get hf hj (by omega:i<n)]
   rw [rows_length hf]
   have:(i+1)*k≤n*k:=Nat.mul_le_mul_right _ (by omega)
   rw [Nat.succ_mul] at this;omega

structure SL (w:World) (k:Nat) (v:Value) (n:Nat) (cs:List Value):Prop where
 len:cs.length=n*k
 val:∃ a cap,v=.slice a n cap∧n≤cap∧cap≤maxLen∧(a=none→cap=0)∧(n=0∨∃ b off,a=some ⟨b,off,none⟩∧∀ j u,cs[j]?=some u→w.cell? ⟨b,off+j,none⟩=some u)
theorem SL.upd {S:List Nat} {w w':World} {k:Nat} {v:Value} {n:Nat} {cs:List Value} (h:SL w k v n cs) (hu:Upd S w w') (hS:∀ b∈S,v.ownBlock≠some b):SL w' k v n cs:=by
 obtain ⟨h1,a,cap,rfl,h2,h3,hz,h4⟩:=h
 refine ⟨h1,a,cap,rfl,h2,h3,hz,?_⟩
 rcases h4 with h4|⟨b,off,rfl,h4⟩
 ·exact .inl h4
 ·refine .inr ⟨b,off,rfl,fun j u hj=>hu.some (h4 j u hj) (fun hm=>hS b hm rfl)⟩
theorem SL.ext {w:World} {k:Nat} {v:Value} {n:Nat} {cs:List Value} (h:SL w k v n cs) (x:Ext w):SL x.val k v n cs:=h.upd x.property (by simp)
theorem SL.of_blk {w:World} {b k n cap:Nat} {xs pad:List Value} {e:TypeId} (h:Blk w b (xs++pad) e) (hl:xs.length=n*k) (hc:n≤cap) (hm:cap≤maxLen):SL w k (.slice (some ⟨b,0,none⟩) n cap) n xs:=
 ⟨hl,some ⟨b,0,none⟩,cap,rfl,hc,hm,(fun h=>by cases h),.inr ⟨b,0,rfl,fun j u hj=>by
  rw [Nat.zero_add]
  refine h.cell ?_
  rw [List.getElem?_append_left]
  ·exact hj
  ·exact (List.getElem?_eq_some_iff.1 hj).1⟩⟩
theorem SL.of_owns {w:World} {base:Nat} {e:TypeId} {k:Nat} {v:Value} {n:Nat} {cs:List Value} (h:w.ownsRow base e k v n cs):SL w k v n cs:=by
 refine ⟨h.1,?_⟩
 rcases h.2 with ⟨rfl,rfl⟩|⟨g,cap,cur,rfl,hb,hg,hnc,hcm,hcs,htake⟩
 ·exact ⟨none,0,rfl,Nat.le_refl _,Nat.zero_le _,fun _=>rfl,.inl rfl⟩
 ·refine ⟨some ⟨g,0,none⟩,cap,rfl,hnc,hcm,(fun h=>by cases h),.inr ⟨g,0,rfl,fun j u hj=>?_⟩⟩
  rw [cell_of_row w g _ cur e (0,0) hg]
  rw [←htake,List.getElem?_take] at hj
  split at hj
  ·simpa using hj
  ·cases hj
section
variable {P:Program} {w:World}
theorem info_of {e:TypeId} {z:Value} {size bytes:Nat} (h:(P.info? e).map (fun i=>(i.zero,i.size,i.bytes))=some (some z,size,bytes)) :
 ∃ i,P.info? e=some i∧i.zero=some z∧i.size=size∧i.bytes=bytes:=by
 cases hi:P.info? e with
 | none=>rw [hi] at h;cases h
 | some i=>
  rw [hi] at h
  simp only [Option.map_some,Option.some.injEq,Prod.mk.injEq] at h
  exact ⟨i,rfl,h.1,h.2.1,h.2.2⟩
theorem run_app (t ty e:TypeId) (size bytes:Nat) (z:Value) (ht:P.underlying t=some (.slice e)) (hinfo:(P.info? e).map (fun i=>(i.zero,i.size,i.bytes))=some (some z,size,bytes))
 (hzs:z.cells.size=size) (hsz:0<size) (v:Value) (n:Nat) (xs:List Value) (hown:w.ownsRow 0 e size v n xs)
 (a:Addr) (m c:Nat) (news:List Value) (hl:news.length=m*size) (hnews:∀ j u,news[j]?=some u→w.cell? (a.add j)=some u) (h1:∀ u∈news,u.oneCell'=true)
 (h63:n+m≤maxLen) (hbytes:(n+m)*bytes≤140737488355328) :
 ∃ v' w',(Builtin.append_ #[t,t] ty #[v,.slice (some a) m c]).run P w=.ok v' w'∧w'.ownsRow 0 e size v' (n+m) (xs++news)∧Upd v.ownBlock.toList w w' ∧
  (v'.ownBlock=v.ownBlock∨v'.ownBlock=some w.heap.size):=by
 obtain ⟨i,hi,hz,hs,hb⟩:=info_of hinfo
 obtain ⟨v',w',hr,h2,h3,h4⟩:=run_append_own (P:=P) w 0 t ty e i z size bytes ht hi hz hs hb hzs hsz v n xs hown a m c news hl hnews h1 h63 hbytes (Nat.zero_le _)
 have hsmall:n+m≤9223372036854775807:=by simp only [maxLen] at h63;omega
 refine ⟨v',w',hr,h2,(Upd.refl _ w).grown h3 (fun k hk=>.inl (by simp [hk])),?_⟩
 subst hs hb
 rcases hown.2 with ⟨rfl,rfl⟩|⟨g,cap,cur,rfl,_,hg,hnc,hcm,hcs,htake⟩
 ·by_cases hm:m=0
  ·have:=h4.2 ⟨rfl,hm⟩
   subst this
   exact .inl rfl
  ·have hr':=run_append_nil (P:=P) w t ty e i z ht hi hz a m c news hl hnews (by omega) (by omega) (by have:=hbytes;simp only [Nat.zero_add] at this;omega)
   rw [hr'] at hr
   simp only [Result.ok.injEq] at hr
   exact .inr (by rw [←hr.1];rfl)
 ·by_cases hroom:n+m≤cap
  ·have hfit:n*i.size+news.length≤cur.size:=by rw [hl,hcs,←Nat.add_mul];exact Nat.mul_le_mul_right _ hroom
   have hr':=run_append_room (P:=P) w t ty e i ht hi g n cap cur hg a m c news hl hnews h1 hroom hfit
   rw [hr'] at hr
   simp only [Result.ok.injEq] at hr
   exact .inl (by rw [←hr.1];rfl)
  ·have holds:∀ j u,xs[j]?=some u→w.cell? ((⟨g,0,none⟩:Addr).add j)=some u:=hown.cells (g:=g) rfl
   have hr':=run_append_grow (P:=P) w t ty e i z ht hi hz ⟨g,0,none⟩ n cap xs hown.1 holds a m c news hl hnews (by omega) (by omega) (growslice_fits (by omega) hbytes)
   rw [hr'] at hr
   simp only [Result.ok.injEq] at hr
   exact .inr (by rw [←hr.1];rfl)
theorem owns_form {base:Nat} {e:TypeId} {size:Nat} {v:Value} {n:Nat} {xs:List Value} (h:w.ownsRow base e size v n xs) (hn:0<n) :
 ∃ g cap,v=.slice (some ⟨g,0,none⟩) n cap∧g<w.heap.size∧n≤cap:=by
 rcases h.2 with ⟨_,h0⟩|⟨g,cap,cur,hv,_,hg,hnc,_⟩
 ·omega
 ·exact ⟨g,cap,hv,(Array.getElem?_eq_some_iff.1 hg).1,hnc⟩
theorem wpList_appS {ops:Array Oper} {rest:List Oper} {o:Oper} {a:Act} {Q:Exit→Act→World→Prop} (hgd:o.guard=none) (s x:Operand) (t:TypeId)
 (ho:o.op=.call { callee:=.builtin .append,args:=#[s,x],argTypes:=#[t,t] })
 (e:TypeId) (size bytes:Nat) (z:Value) (ht:P.underlying t=some (.slice e)) (hinfo:(P.info? e).map (fun i=>(i.zero,i.size,i.bytes))=some (some z,size,bytes))
 (hzs:z.cells.size=size) (hsz:0<size) (v:Value) (n:Nat) (xs:List Value) (hs:a.eval s=v) (hown:w.ownsRow 0 e size v n xs)
 (sv:Value) (m:Nat) (news:List Value) (hx:a.eval x=sv) (hsl:SL w size sv m news) (h1:∀ u∈news,u.oneCell'=true)
 (h63:n+m≤maxLen) (hbytes:(n+m)*bytes≤140737488355328)
 (h:∀ a' cap' w',w'.ownsRow 0 e size (.slice a' (n+m) cap') (n+m) (xs++news)→Upd v.ownBlock.toList w w'→((Value.slice a' (n+m) cap').ownBlock=v.ownBlock∨(Value.slice a' (n+m) cap').ownBlock=some w.heap.size) →
  wpList P ops Q rest (a.put o.dst (.slice a' (n+m) cap')) w'):wpList P ops Q (o::rest) a w:=by
 obtain ⟨hl,ad,cap,rfl,hnc,hcm,hnil,hc⟩:=hsl
 have form:∀ {w':World} {v':Value} {ys:List Value},w'.ownsRow 0 e size v' (n+m) ys→∃ a' cap',v'=.slice a' (n+m) cap':=by
  intro w' v' ys hw
  rcases hw.2 with ⟨rfl,h0⟩|⟨g,cap,cur,rfl,_⟩
  ·exact ⟨none,0,by rw [h0]⟩
  ·exact ⟨_,_,rfl⟩
 cases ad with
 | none=>
  have hcap:=hnil rfl
  subst hcap
  obtain rfl:m=0:=by omega
  obtain rfl:news=[]:=List.eq_nil_of_length_eq_zero (by simpa using hl)
  obtain ⟨i,hi,_⟩:=info_of hinfo
  refine wpList_append_own_none hgd s x t ho 0 e i size ht hi v n xs hs hown hx ?_
  rw [List.append_nil,Nat.add_zero] at h
  have hown':=hown
  obtain ⟨a',cap',rfl⟩:=form (w':=w) (by simpa using hown)
  exact h a' cap' w hown (Upd.refl _ _) (.inl rfl)
 | some ad=>
  refine wpList_plain hgd fun K hK=>?_
  have hnews:∀ j u,news[j]?=some u→w.cell? (ad.add j)=some u:=by
   rcases hc with hc|⟨b,off,hb,hc⟩
   ·subst hc
    obtain rfl:news=[]:=List.eq_nil_of_length_eq_zero (by simpa using hl)
    intro j u hj;simp at hj
   ·cases hb
    intro j u hj
    have:(⟨b,off,none⟩:Addr).add j=⟨b,off+j,none⟩:=by
     unfold Addr.add
     split
     ·rename_i h;rw [h];rfl
     ·rfl
    rw [this];exact hc j u hj
  obtain ⟨v',w',hr,h2,h3,h4⟩:=run_app (P:=P) t o.type e size bytes z ht hinfo hzs hsz v n xs hown ad m cap news hl hnews h1 h63 hbytes
  obtain ⟨a',cap',rfl⟩:=form h2
  unfold Oper.wp execOp
  simp only [ho,resolve,invoke,builtin,Sem.run_bind,Sem.run_pure,Result.andThen_ok,List.map_toArray,List.map_cons,List.map_nil,hs,hx,hr]
  exact hK _ _ (h a' cap' w' h2 h3 h4)
theorem own_take {base:Nat} {e:TypeId} {size:Nat} {g n m cap:Nat} {xs:List Value} (h:w.ownsRow base e size (.slice (some ⟨g,0,none⟩) n cap) n xs) (hm:m≤n) :
 w.ownsRow base e size (.slice (some ⟨g,0,none⟩) m cap) m (xs.take (m*size)):=by
 have hms:m*size≤n*size:=Nat.mul_le_mul_right _ hm
 refine ⟨by rw [List.length_take,h.1,Nat.min_eq_left hms],?_⟩
 rcases h.2 with ⟨h1,_⟩|⟨g',cap',cur,hv,hb,hg,hnc,hcm,hcs,htake⟩
 ·cases h1
 ·simp only [Value.slice.injEq,Option.some.injEq,Addr.mk.injEq,and_true] at hv
  obtain ⟨rfl,_,rfl⟩:=hv
  exact .inr ⟨g,cap,cur,rfl,hb,hg,by omega,hcm,hcs,by rw [←htake,List.take_take,Nat.min_eq_left hms]⟩
theorem wpList_app {ops:Array Oper} {rest:List Oper} {o:Oper} {a:Act} {Q:Exit→Act→World→Prop} (hgd:o.guard=none) (s x:Operand) (t:TypeId)
 (ho:o.op=.call { callee:=.builtin .append,args:=#[s,x],argTypes:=#[t,t] })
 (e:TypeId) (size bytes:Nat) (z:Value) (ht:P.underlying t=some (.slice e)) (hinfo:(P.info? e).map (fun i=>(i.zero,i.size,i.bytes))=some (some z,size,bytes))
 (hzs:z.cells.size=size) (hsz:0<size) (v:Value) (n:Nat) (xs:List Value) (hs:a.eval s=v) (hown:w.ownsRow 0 e size v n xs)
 (g0 m c:Nat) (news:List Value) (et:TypeId) (hx:a.eval x=.slice (some ⟨g0,0,none⟩) m c) (hl:news.length=m*size) (hblk:Blk w g0 news et) (h1:∀ u∈news,u.oneCell'=true)
 (hm:0<m) (h63:n+m≤maxLen) (hbytes:(n+m)*bytes≤140737488355328)
 (h:∀ g cap w',w'.ownsRow 0 e size (.slice (some ⟨g,0,none⟩) (n+m) cap) (n+m) (xs++news)→Upd v.ownBlock.toList w w'→(v.ownBlock=some g∨g=w.heap.size) →
  wpList P ops Q rest (a.put o.dst (.slice (some ⟨g,0,none⟩) (n+m) cap)) w'):wpList P ops Q (o::rest) a w:=by
 refine wpList_plain hgd fun K hK=>?_
 have hnews:∀ j u,news[j]?=some u→w.cell? ((⟨g0,0,none⟩:Addr).add j)=some u:=by
  intro j u hj
  have:(⟨g0,0,none⟩:Addr).add j=⟨g0,j,none⟩:=by unfold Addr.add;split <;> simp_all
  rw [this];exact hblk.cell hj
 obtain ⟨v',w',hr,h2,h3,h4⟩:=run_app (P:=P) t o.type e size bytes z ht hinfo hzs hsz v n xs hown ⟨g0,0,none⟩ m c news hl hnews h1 h63 hbytes
 obtain ⟨g,cap,rfl,_,_⟩:=owns_form h2 (by omega)
 unfold Oper.wp execOp
 simp only [ho,resolve,invoke,builtin,Sem.run_bind,Sem.run_pure,Result.andThen_ok,List.map_toArray,List.map_cons,List.map_nil,hs,hx,hr]
 refine hK _ _ (h g cap w' h2 h3 ?_)
 rcases h4 with h4|h4
 ·exact .inl h4.symm
 ·simp only [Value.ownBlock,Option.some.injEq] at h4;exact .inr h4
end
section
variable {P:Program} {w:World}
theorem made_rows (z:Array Value) (n:Nat) (hz:0<z.size):madeCells z (n*z.size)=(rows n fun _=>z.toList).toArray:=by
 apply Array.toList_inj.1
 apply List.ext_getElem?
 intro i
 simp only [madeCells,Array.toList_map,Array.toList_range,List.getElem?_map]
 have hl:∀ j:Nat,((fun _=>z.toList) j).length=z.size:=fun _=>by simp
 by_cases h:i<n*z.size
 ·rw [List.getElem?_range h]
  have e:i=(i / z.size)*z.size+i % z.size:=by rw [Nat.mul_comm];exact (Nat.div_add_mod _ _).symm
  have hm:=Nat.mod_lt i hz
  have hd:i / z.size<n:=Nat.div_lt_of_lt_mul (by rw [Nat.mul_comm];exact h)
  have hr:=rows_get (k:=z.size) (f:=fun _=>z.toList) hl (i:=i / z.size) (j:=i % z.size) hm hd
  rw [←e] at hr
  rw [hr]
  simp [hm]
 ·have h1:(List.range (n*z.size))[i]?=none:=by rw [List.getElem?_eq_none];simp;omega
  have h2:(rows n fun _=>z.toList)[i]?=none:=by rw [List.getElem?_eq_none];rw [rows_length hl];omega
  rw [h1,h2];rfl
theorem addr_add (b off j:Nat):(⟨b,off,none⟩:Addr).add j=⟨b,off+j,none⟩:=by
 unfold Addr.add
 split
 ·rename_i h;rw [h];rfl
 ·rfl
theorem Blk.setRow {g:Nat} {old cs:List Value} {e:TypeId} (h:Blk w g old e):Blk (w.setRow g cs.toArray) g cs e:=setRow_heap w g _ _ e _ h
theorem wpList_mk {ops:Array Oper} {rest:List Oper} {o:Oper} {a:Act} {Q:Exit→Act→World→Prop} (hg:o.guard=none) (l c:Operand) (t:TypeId) (hop:o.op=Op.makeSlice t l c)
 (e:TypeId) (size bytes:Nat) (z:Value) (ht:P.underlying t=some (.slice e)) (hinfo:(P.info? e).map (fun i=>(i.zero,i.size,i.bytes))=some (some z,size,bytes)) (hzs:z.cells.size=size) (hsz:0<size)
 (kl kc:IntKind) (L C:Int) (n:Nat) (hl:a.eval l=.int kl L) (hc:a.eval c=.int kc C) (hL:L=n) (hC:C=n) (hbytes:bytes*n≤281474976710656) (h63:n≤9223372036854775807)
 (hK:wpList P ops Q rest (a.put o.dst (.slice (some ⟨w.heap.size,0,none⟩) n n)) (w.alloc (.cells (rows n fun _=>z.cells.toList).toArray e))) :
 wpList P ops Q (o::rest) a w:=by
 obtain ⟨i,hi,hz,hs,hb⟩:=info_of hinfo
 subst hL hC
 refine wpList_plain hg fun K hK'=>?_
 have hb':(i.bytes:Int)*(n:Int)≤281474976710656:=by
  have h:((i.bytes*n:Nat):Int)≤281474976710656:=by rw [hb];omega
  rwa [Int.natCast_mul] at h
 have hr:=run_make (P:=P) w t e i z ht hi hz kl kc n n (by omega) (Int.le_refl _) hb' (by omega)
 rw [Int.toNat_natCast,hs,←hzs,made_rows z.cells n (by omega)] at hr
 unfold Oper.wp
 simp only [execOp,hop,hl,hc,Sem.run_bind,Sem.run_pure,Result.andThen_ok,hr]
 exact hK' _ _ hK
theorem rows_one (n:Nat) (v:Value):rows n (fun _=>[v])=List.replicate n v:=by
 induction n with
 | zero=>simp [rows]
 | succ n ih=>rw [rows_succ,ih,List.replicate_succ']
theorem owns_blk {e:TypeId} {size g n:Nat} {cs:List Value} (h:Blk w g cs e) (hl:cs.length=n*size) (hn:n≤maxLen):w.ownsRow 0 e size (.slice (some ⟨g,0,none⟩) n n) n cs:=
 ⟨hl,.inr ⟨g,n,cs.toArray,rfl,Nat.zero_le _,h,Nat.le_refl _,hn,by simpa using hl,by simp [←hl]⟩⟩
end
def ints (xs:List Int):List Value:=xs.map (Value.int .i64)
theorem ints_length (xs:List Int):(ints xs).length=xs.length:=by simp [ints]
theorem ints_get {xs:List Int} {i:Nat} {x:Int} (h:xs[i]?=some x):(ints xs)[i]?=some (.int .i64 x):=by simp [ints,h]
theorem ints_one (xs:List Int):∀ u∈ints xs,u.oneCell'=true:=by
 intro u hu
 simp only [ints,List.mem_map] at hu
 obtain ⟨_,_,rfl⟩:=hu
 rfl
theorem owns_none {w:World} (h:w.heap.size=w.heap.size) (e:TypeId):Blk (w.alloc (.cells (#[]:Array Value) e)) w.heap.size [] e:=heap_alloc_new w _
theorem ret_int {k:IntKind} {a b:Int} (h:a=b):Ending.returned (.int k a)=.returned (.int k b):=by rw [h]
theorem ret_bool {a b:Bool} (h:a=b):Ending.returned (.bool a)=.returned (.bool b):=by rw [h]
def IsI64 (n:Int):Prop:=-9223372036854775808≤n∧n≤9223372036854775807
end L
end Go.Proofs.YtjclbjdkkdijbaaGreat
