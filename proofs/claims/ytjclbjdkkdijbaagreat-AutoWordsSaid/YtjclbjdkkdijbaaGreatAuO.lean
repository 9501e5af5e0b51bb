/- The state of number in memory. Conditions: none. -/
import Derived.Test.YtjclbjdkkdijbaaGreatAuZa
import Derived.Test.YtjclbjdkkdijbaaGreatAuN
import Derived.Test.YtjclbjdkkdijbaaGreatProg
set_option linter.unusedVariables false
set_option linter.unusedSimpArgs false
set_option linter.unusedSectionVars false
open Go.RowKit
namespace Go.Proofs.YtjclbjdkkdijbaaGreat
open L
namespace Aut
open Rgx Rx Auto
def Gd (r:Rx):Prop:=NF r∧nodes r≤64
theorem Gd.key {a b:Rx} (ha:Gd a) (hb:Gd b) (h:keyU a=keyU b):a=b:=keyU_inj (ha.1.sml (by have:=ha.2;omega)) (hb.1.sml (by have:=hb.2;omega)) ha.1.byt hb.1.byt h
def kmap (S:List Rx) (y:List UInt8):Option Value:=if y∈S.map keyU then some (.int .i64 ((S.findIdx fun s=>decide (keyU s=y):Nat):Int)) else none
theorem findIdx_key {S:List Rx} {x:Rx} (hS:∀ s∈S,Gd s) (hx:Gd x):(S.findIdx fun s=>decide (keyU s=keyU x))=place S x:=by
 unfold place
 induction S with
 | nil=>rfl
 | cons a S ih=>
  rw [List.findIdx_cons,List.findIdx_cons]
  have h1:=ih fun s hs=>hS s (by simp [hs])
  have h2:decide (keyU a=keyU x)=decide (a=x):=by
   by_cases h:a=x
   ·simp [h]
   ·have:keyU a≠keyU x:=fun e=>h ((hS a (by simp)).key hx e)
    simp [h,this]
  rw [h2,h1]
theorem kmap_mem {S:List Rx} {x:Rx} (hS:∀ s∈S,Gd s) (hx:Gd x):keyU x∈S.map keyU↔x∈S:=by
 rw [List.mem_map]
 constructor
 ·rintro ⟨s,hs,e⟩
  exact (hS s hs).key hx e ▸ hs
 ·exact fun h=>⟨x,h,rfl⟩
theorem kmap_old {S:List Rx} {x:Rx} (hS:∀ s∈S,Gd s) (hx:Gd x) (h:x∈S):kmap S (keyU x)=some (.int .i64 (place S x:Nat)):=by
 unfold kmap;rw [if_pos ((kmap_mem hS hx).2 h),findIdx_key hS hx]
theorem kmap_new {S:List Rx} {x:Rx} (hS:∀ s∈S,Gd s) (hx:Gd x) (h:x ∉ S):kmap S (keyU x)=none:=by
 unfold kmap;rw [if_neg (fun h2=>h ((kmap_mem hS hx).1 h2))]
theorem kmap_push {S:List Rx} {x:Rx} (hS:∀ s∈S,Gd s) (hx:Gd x) (h:x ∉ S) (y:List UInt8):(if y=keyU x then some (Value.int .i64 (S.length:Nat)) else kmap S y)=kmap (S++[x]) y:=by
 unfold kmap
 by_cases e:y=keyU x
 ·subst e
  rw [if_pos rfl,if_pos (by simp),List.findIdx_append]
  have:¬ (S.findIdx fun s=>decide (keyU s=keyU x))<S.length:=by
   rw [findIdx_key hS hx];exact fun h2=>h (place_lt.1 h2)
  rw [if_neg this]
  simp
 ·rw [if_neg e]
  have e2:¬ keyU x=y:=fun h=>e h.symm
  by_cases hm:y∈S.map keyU
  ·rw [if_pos hm,if_pos (by rw [List.map_append];exact List.mem_append_left _ hm),List.findIdx_append,if_pos]
   rw [List.findIdx_lt_length]
   obtain ⟨s,hs,rfl⟩:=List.mem_map.1 hm
   exact ⟨s,hs,by simp⟩
  ·rw [if_neg hm,if_neg]
   rw [List.map_append,List.mem_append]
   rintro (h2|h2)
   ·exact hm h2
   ·simp at h2;exact e h2
theorem kmap_one (r:Rx) (y:List UInt8):(if y=keyU r then some (Value.int .i64 0) else none)=kmap [r] y:=by
 unfold kmap
 by_cases e:y=keyU r
 ·subst e;simp
 ·rw [if_neg e,if_neg (by simpa using e)]
theorem owr_sub {e:TypeId} {M M':List Nat} {w:World} {v:Value} {ks:List Rx} (h:OwR e M w v ks) (hM:∀ b∈M',b∈M∨w.heap.size≤b):OwR e M' w v ks:=by
 obtain ⟨css,a,b,c,d⟩:=h
 have hlt:∀ g,v.ownBlock=some g→g<w.heap.size:=fun g hg=>(a.lt g hg).2
 refine ⟨css,a,b,fun k hk hv=>?_,fun i r hr=>(d i r hr).sub fun k hk=>?_⟩
 ·rcases hM k hk with h1|h1
  ·exact c k h1 hv
  ·have:=hlt k hv;omega
 ·rcases List.mem_append.1 hk with hk|hk
  ·rcases hM k hk with h1|h1
   ·exact .inl (List.mem_append_left _ h1)
   ·exact .inr h1
  ·exact .inl (List.mem_append_right _ hk)
theorem owr_kid {e:TypeId} {M:List Nat} {w:World} {a:Option Addr} {n c:Nat} {ks:List Rx} (h:OwR e M w (.slice a n c) ks) {i:Nat} {r:Rx} (hr:ks[i]?=some r):∃ g a2 c2,a=some ⟨g,0,none⟩∧g ∉ M∧g<w.heap.size∧RxF (M++[g]) w r (rxC r.kind r.lo r.hi (.slice a2 r.kids.length c2)) ∧
 w.cell? ⟨g,i*4,none⟩=some (.int .i64 r.kind)∧w.cell? ⟨g,i*4+1,none⟩=some (.int .u8 r.lo)∧w.cell? ⟨g,i*4+2,none⟩=some (.int .u8 r.hi)∧w.cell? ⟨g,i*4+3,none⟩=some (.slice a2 r.kids.length c2):=by
 obtain ⟨hi,rfl⟩:=List.getElem?_eq_some_iff.1 hr
 obtain ⟨g,c',css,pad,he,hB,h1,h2,h3,h4,h5,h6⟩:=h.blk (by intro h0;rw [h0] at hi;simp at hi)
 cases he
 have hF:=h6 i _ hr
 obtain ⟨a2,c2,hcs⟩:=hF.cs
 rw [hcs] at hF
 have hg:∀ j,j<4→(rows ks.length css++pad)[i*4+j]?=(css i)[j]?:=fun j hj=>by
  rw [List.getElem?_append_left (by rw [rows_length h4];omega),rows_get h4 hj hi]
 have hc:∀ j v,j<4→(css i)[j]?=some v→w.cell? ⟨g,i*4+j,none⟩=some v:=fun j v hj hv=>hB.cell (by rw [hg j hj];exact hv)
 rw [hcs] at hc
 exact ⟨g,a2,c2,rfl,h5,hB.lt,hF,hc 0 _ (by omega) rfl,hc 1 _ (by omega) rfl,hc 2 _ (by omega) rfl,hc 3 _ (by omega) rfl⟩
def natRows (T:List (List Nat)):List (List Int):=T.map fun r=>r.map Int.ofNat
structure Nm (w0:World) (mb:Nat) (sv tv:Value) (S:List Rx) (T:List (List Nat)) (F R:List Nat) (n:Nat) (f:List UInt8→Option Value) (w:World):Prop where
 st:OwR 37 (mb::(tv.ownBlock.toList++(F++R))) w sv S
 sn:∀ q,sv.ownBlock=some q→w0.heap.size≤q
 mp:MS Tryz.prog 9 w mb n f
 mn:w0.heap.size≤mb
 tb:OwnL 22 w0 tv (natRows T) F w
 mf:mb ∉ F∧tv.ownBlock≠some mb∧mb ∉ R
 rf:∀ b∈R,b ∉ F∧tv.ownBlock≠some b∧w0.heap.size≤b∧b<w.heap.size
 u:Upd [] w0 w
 fn:∀ b∈F,w0.heap.size≤b
section
variable {w0 w w':World} {mb n:Nat} {sv tv:Value} {S:List Rx} {T:List (List Nat)} {F R:List Nat} {f:List UInt8→Option Value}
theorem Nm.tn (h:Nm w0 mb sv tv S T F R n f w):∀ q,tv.ownBlock=some q→w0.heap.size≤q:=by
 obtain ⟨vals,h1,_⟩:=h.tb.ex
 exact h1.fresh
theorem Nm.lt (h:Nm w0 mb sv tv S T F R n f w):∀ b∈mb::(tv.ownBlock.toList++(F++R)),b<w.heap.size:=by
 intro b hb
 rcases List.mem_cons.1 hb with rfl|hb
 ·exact h.mp.lt
 ·rcases List.mem_append.1 hb with hb|hb
  ·exact h.tb.own_lt b (by simpa using hb)
  ·rcases List.mem_append.1 hb with hb|hb
   ·exact h.tb.lt b hb
   ·exact (h.rf b hb).2.2.2
theorem Nm.quiet (h:Nm w0 mb sv tv S T F R n f w) (hu:Upd [] w w'):Nm w0 mb sv tv S T F R n f w':=
 ⟨h.st.ext hu,h.sn,h.mp.upd hu (by simp),h.mn,h.tb.upd hu (by simp),h.mf,fun b hb=>⟨(h.rf b hb).1,(h.rf b hb).2.1,(h.rf b hb).2.2.1,by have:=(h.rf b hb).2.2.2;have:=hu.size;omega⟩,h.u.step hu,h.fn⟩
theorem Nm.row (h:Nm w0 mb sv tv S T F [] n f w) (hu:Upd [] w w') (hs:w.heap.size<w'.heap.size):Nm w0 mb sv tv S T F [w.heap.size] n f w':=by
 have hz:=h.u.size
 refine ⟨((owr_sub h.st fun b hb=>?_).ext hu),h.sn,h.mp.upd hu (by simp),h.mn,h.tb.upd hu (by simp),⟨h.mf.1,h.mf.2.1,by have:=h.mp.lt;simp;omega⟩,fun b hb=>?_,h.u.step hu,h.fn⟩
 ·rcases List.mem_cons.1 hb with rfl|hb
  ·exact .inl (by simp)
  ·rcases List.mem_append.1 hb with hb|hb
   ·exact .inl (by simp at hb ⊢;simp [hb])
   ·rcases List.mem_append.1 hb with hb|hb
    ·exact .inl (by simp [hb])
    ·right;simp at hb;omega
 ·simp at hb
  subst hb
  exact ⟨fun h2=>by have:=h.tb.lt _ h2;omega,fun h2=>by have:=h.tb.own_lt _ h2;omega,hz,hs⟩
theorem Nm.set (h:Nm w0 mb sv tv S T F R n f w) (hu:Upd R w w'):Nm w0 mb sv tv S T F R n f w':=
 ⟨h.st.upd hu (fun b hb=>by simp [hb]),h.sn,h.mp.upd hu h.mf.2.2,h.mn,h.tb.upd hu (fun b hb=>⟨(h.rf b hb).1,(h.rf b hb).2.1⟩),h.mf,fun b hb=>⟨(h.rf b hb).1,(h.rf b hb).2.1,(h.rf b hb).2.2.1,by have:=(h.rf b hb).2.2.2;have:=hu.size;omega⟩,h.u.fresh hu fun b hb=>.inr (h.rf b hb).2.2.1,h.fn⟩
theorem Nm.put {n':Nat} {f':List UInt8→Option Value} (h:Nm w0 mb sv tv S T F R n f w) (hu:Upd [mb] w w') (hm:MS Tryz.prog 9 w' mb n' f'):Nm w0 mb sv tv S T F R n' f' w':=
 ⟨h.st.upd hu (fun b hb=>by simp at hb;simp [hb]),h.sn,hm,h.mn,h.tb.upd hu (fun b hb=>by simp at hb;subst hb;exact ⟨h.mf.1,h.mf.2.1⟩),h.mf,fun b hb=>⟨(h.rf b hb).1,(h.rf b hb).2.1,(h.rf b hb).2.2.1,by have:=(h.rf b hb).2.2.2;have:=hu.size;omega⟩,h.u.fresh hu fun b hb=>.inr (by simp at hb;subst hb;exact h.mn),h.fn⟩
theorem Nm.keep {U:List Nat} (h:Nm w0 mb sv tv S T F R n f w) (hu:Upd U w w') (hU:∀ b∈U,b<w0.heap.size):CL w' tv (natRows T):=
 (h.tb.upd hu fun b hb=>⟨fun hf=>by have:=h.fn b hf;have:=hU b hb;omega,fun hv=>by have:=h.tn b hv;have:=hU b hb;omega⟩).cl
theorem Nm.row_off (h:Nm w0 mb sv tv S T F R n f w):∀ b∈mb::(tv.ownBlock.toList++(F++R)),sv.ownBlock≠some b:=by
 obtain ⟨css,_,_,c,_⟩:=h.st
 exact c
theorem Nm.push {x:Rx} {sv':Value} (h:Nm w0 mb sv tv S T F R n f w) (hu:Upd sv.ownBlock.toList w w') (hs:OwR 37 (mb::(tv.ownBlock.toList++(F++R))) w' sv' (S++[x])) (hv:∀ q,sv'.ownBlock=some q→sv.ownBlock=some q∨w.heap.size≤q) :
 Nm w0 mb sv' tv (S++[x]) T F R n f w':=by
 have ho:=h.row_off
 have hz:=h.u.size
 refine ⟨hs,fun q hq=>?_,h.mp.upd hu (fun hb=>ho mb (by simp) (by simpa using hb)),h.mn,h.tb.upd hu (fun b hb=>⟨fun hf=>ho b (by simp [hf]) (by simpa using hb),fun hf=>ho b (by simp [hf]) (by simpa using hb)⟩),h.mf,fun b hb=>⟨(h.rf b hb).1,(h.rf b hb).2.1,(h.rf b hb).2.2.1,by have:=(h.rf b hb).2.2.2;have:=hu.size;omega⟩,h.u.fresh hu fun b hb=>.inr (h.sn b (by simpa using hb)),h.fn⟩
 rcases hv q hq with h1|h1
 ·exact h.sn q h1
 ·omega
theorem Nm.done {g cap rb:Nat} {row:List Nat} {y:Value} {vals:List Value} (h:Nm w0 mb sv tv S T F [rb] n f w) (h1:OwnV w0 22 1 tv (natRows T).length vals w) (h2:∀ (i:Nat) (c:List Int),(natRows T)[i]?=some c→∃ y,vals[i]?=some y∧SL w 1 y c.length (ints c)∧∀ b,y.ownBlock=some b→b∈F)
 (hy:SL w 1 y row.length (ints (row.map Int.ofNat))) (hyv:y.ownBlock=some rb) (o:w'.ownsRow 0 22 1 (.slice (some ⟨g,0,none⟩) ((natRows T).length+1) cap) ((natRows T).length+1) (vals++[y])) (hu:Upd tv.ownBlock.toList w w') (hk:tv.ownBlock=some g∨w.heap.size≤g) :
 Nm w0 mb sv (.slice (some ⟨g,0,none⟩) ((natRows T).length+1) cap) S (T++[row]) (F++[rb]) [] n f w':=by
 obtain ⟨r1,r2,r3,r4⟩:=h.rf rb (by simp)
 have hT:natRows (T++[row])=natRows T++[row.map Int.ofNat]:=by simp [natRows]
 have hp:=h.tb.push h1 h2 h.u.size (c:=row.map Int.ofNat) (by rw [List.length_map];exact hy) (fun b hb=>by rw [hyv] at hb;cases hb;exact ⟨r2,r4⟩) o hu hk
 rw [hyv] at hp
 have hgm:g≠mb:=fun e=>by
  rcases hk with hk|hk
  ·exact h.mf.2.1 (e ▸ hk)
  ·have:=h.mp.lt;omega
 have hmr:mb≠rb:=fun e=>h.mf.2.2 (by simp [e])
 refine ⟨?_,h.sn,h.mp.upd hu (fun hb=>h.mf.2.1 (by simpa using hb)),h.mn,by rw [hT];exact hp,⟨?_,by simpa [Value.ownBlock] using hgm,by simp⟩,by simp,h.u.fresh hu fun b hb=>.inr (h.tn b (by simpa using hb)),fun b hb=>by
  rcases List.mem_append.1 hb with hb|hb
  ·exact h.fn b hb
  ·simp at hb;subst hb;exact r3⟩
 ·have hs1:=owr_sub h.st (M':=(mb::(tv.ownBlock.toList++(F++[rb])))++(mb::((Value.slice (some ⟨g,0,none⟩) ((natRows T).length+1) cap).ownBlock.toList++((F++[rb])++[])))) (fun b hb=>by
   rcases List.mem_append.1 hb with hb|hb
   ·exact .inl hb
   ·rcases List.mem_cons.1 hb with rfl|hb
    ·exact .inl (by simp)
    ·rcases List.mem_append.1 hb with hb|hb
     ·simp [Value.ownBlock] at hb
      subst hb
      rcases hk with hk|hk
      ·exact .inl (by simp [hk])
      ·exact .inr hk
     ·exact .inl (List.mem_cons_of_mem _ (List.mem_append_right _ (by simpa using hb))))
  exact owr_sub (hs1.upd hu (fun b hb=>List.mem_append_left _ (by simp at hb;simp [hb]))) fun b hb=>.inl (List.mem_append_right _ hb)
 ·simp only [List.mem_append,List.mem_singleton,not_or]
  exact ⟨h.mf.1,hmr⟩
end
end Aut
end Go.Proofs.YtjclbjdkkdijbaaGreat
