/- Walks through package regex: slices.SortFunc of expressions, by the library's contract. Conditions: none. -/
import Derived.Test.YtjclbjdkkdijbaaGreatRxF
import Derived.Test.YtjclbjdkkdijbaaGreatSortRx
set_option linter.unusedVariables false
set_option linter.unusedSimpArgs false
set_option linter.unusedSectionVars false
open Go.RowKit
namespace Go.Proofs.YtjclbjdkkdijbaaGreat
open L
namespace Rgx
open Rx Go.Sort
def El (M:List Nat) (w:World):Type:={ p:Rx × List Value // RxF M w p.1 p.2 }
theorem El.ne {M:List Nat} {w:World}:Nonempty (El M w):=⟨⟨(rNone,rxC 0 0 0 (.slice none 0 0)),RxF.iff.2 ⟨_,rfl,⟨by unfold IsI64;omega,by omega,by omega⟩,RxL.nil0⟩⟩⟩
noncomputable instance {M:List Nat} {w:World}:Inhabited (El M w):=⟨Classical.choice El.ne⟩
def El.enc {M:List Nat} {w:World} (x:El M w):List Value:=x.val.2
def El.cf {M:List Nat} {w:World} (x y:El M w):Int:=cmpR x.val.1 y.val.1
theorem El.len {M:List Nat} {w:World} (x:El M w):x.enc.length=4:=x.property.len
theorem El.one {M:List Nat} {w:World} (x:El M w):∀ v∈x.enc,v.oneCell'=true:=rxF_one x.property
theorem El.swo (M:List Nat) (w:World):SWO (ltOf (El.cf (M:=M) (w:=w))) where
 irrefl x:=by simp [ltOf,El.cf,cmpR_self]
 trans x y z h1 h2:=by
  unfold ltOf El.cf at *
  exact decide_eq_true (cmpR_tr _ _ _ (of_decide_eq_true h1) (of_decide_eq_true h2))
 ntrans x y z h1 h2:=by
  unfold ltOf El.cf at *
  have h1:=of_decide_eq_false h1
  have h2:=of_decide_eq_false h2
  refine decide_eq_false fun h3=>?_
  have h4:=cmpR_neg x.val.1 y.val.1
  have h5:=cmpR_neg y.val.1 z.val.1
  rcases (by omega:cmpR x.val.1 y.val.1=0∨0<cmpR x.val.1 y.val.1) with h|h
  ·rw [cmpR_zero.1 h] at h3;exact h2 h3
  ·rcases (by omega:cmpR y.val.1 z.val.1=0∨0<cmpR y.val.1 z.val.1) with h'|h'
   ·rw [cmpR_zero.1 h'] at h1;exact h1 h3
   ·have h6:=cmpR_tr z.val.1 y.val.1 x.val.1 (by omega) (by omega)
    have h7:=cmpR_neg x.val.1 z.val.1
    omega
section
variable {w w':World} {v:Value}
theorem upd_sortWorld {α:Type} [Inhabited α] {enc:α→List Value} {k blk off m:Nat} {d:Array α} {os:Array Obj}:Upd [blk] w (sortWorldK enc k w blk off m d os):=by
 refine ⟨rfl,rfl,rfl,?_,fun i hi hn=>?_⟩
 ·simp [sortWorldK,putRowK,putRow,mapBlock,Sort.grow,Sort.ahead]
 ·have hne:¬ blk=i:=fun e=>hn (by rw [e];simp)
  simp only [sortWorldK,putRowK,putRow,mapBlock,Sort.grow,Sort.ahead]
  rw [Array.getElem?_append_left (by simpa using hi),Array.getElem?_modify,if_neg hne]
theorem cmpLays {M:List Nat} {blk off size:Nat} (hM:blk∈M):CmpLays Tryz.prog 122 #[] (El.enc (M:=M) (w:=w)) 4 El.cf blk off size w:=by
 intro m os dk _ x y
 have u:=upd_sortWorld (w:=w) (enc:=El.enc (M:=M) (w:=w)) (k:=4) (blk:=blk) (off:=off) (m:=m) (d:=dk) (os:=os)
 have hx:=x.property.upd u (by simpa using hM)
 have hy:=y.property.upd u (by simpa using hM)
 exact cmpG_calls x.val.1 y.val.1 ⟨_,rfl,hx.sub (by simp)⟩ ⟨_,rfl,hy.sub (by simp)⟩
theorem rows_range {n:Nat} {css:Nat→List Value} (h4:∀ i,(css i).length=4) {t:Nat} (ht:t<n*4):(rows n css)[t]?=(css (t / 4))[t % 4]?:=by
 have hq:t=(t / 4)*4+t % 4:=by omega
 conv=>lhs;rw [hq]
 exact rows_get h4 (Nat.mod_lt _ (by omega)) (by omega)
theorem sort_calls {M:List Nat} {ks:List Rx} (h:OwR 37 M w v ks) (hsz:ks.length≤1000000) :
 Calls Tryz.prog 121 #[v,.func (.func 122) #[] #[]] w fun e w'=>e=.returned (.tuple #[])∧∃ ks',OwR 37 M w' v ks'∧ks'.Perm ks∧ks'.Pairwise (fun a b=>ltR b a=false)∧Upd v.ownBlock.toList w w':=by
 by_cases h0:ks=[]
 ·subst h0
  obtain ⟨a,c,rfl,_⟩:=h.list.form
  refine (Tryz.slices_SortFunc_none a c (.func (.func 122) #[] #[]) w).mono ?_
  rintro e w' ⟨rfl,rfl⟩
  exact ⟨rfl,[],h,List.Perm.refl _,.nil,Upd.refl _ _⟩
 ·obtain ⟨g,c,css,pad,rfl,hblk,hbl,hc1,hc2,h4,hgM,hel⟩:=h.blk h0
  have hgm:g∈M++[g]:=by simp
  let f:Fin ks.length→El (M++[g]) w:=fun i=>⟨(ks[i],css i),hel i _ (List.getElem?_eq_getElem i.isLt)⟩
  have hds:(Array.ofFn f).size=ks.length:=Array.size_ofFn
  have hdi:∀ i (hi:i<ks.length),(Array.ofFn f)[i]! = f ⟨i,hi⟩:=fun i hi=>by
   rw [getElem!_pos _ i (by rw [hds];exact hi),Array.getElem_ofFn]
  have hrl:=rows_length h4 ks.length
  have hflat:∀ t,t<ks.length*4→(flatK El.enc 4 (Array.ofFn f))[t]! = ((rows ks.length css)[t]?).getD default:=fun t ht=>by
   rw [get_flatK _ _ _ t (by rw [hds];exact ht),rows_range h4 ht,hdi (t / 4) (by omega)]
   have hm:t % 4<(css (t / 4)).length:=by rw [h4];exact Nat.mod_lt _ (by omega)
   show (css (t / 4))[t % 4]! = _
   rw [getElem!_pos (css (t / 4)) (t % 4) hm,List.getElem?_eq_getElem hm]
   rfl
  have hH:HoldsK El.enc 4 w g 0 (Array.ofFn f):=by
   intro j hj
   rw [size_flatK,hds] at hj
   refine ⟨?_,hblk.free _⟩
   rw [Nat.zero_add]
   refine hblk.cell ?_
   rw [List.getElem?_append_left (by omega)]
   have:=hflat j hj
   rw [List.getElem?_eq_getElem (show j<(rows ks.length css).length by omega)] at this ⊢
   rw [←show (flatK El.enc 4 (Array.ofFn f))[j]! = id (flatK El.enc 4 (Array.ofFn f))[j]! from rfl,this]
   rfl
  have hcon:=Tryz.slices_SortFunc_rx El.enc El.len El.one El.cf (El.swo (M++[g]) w) 122 #[] g 0 c (Array.ofFn f) w (enters_of Tryz.func122 (by kernel_rfl) rfl) (cmpLays hgm) hH hblk.lt (by rw [hds];omega)
  rw [hds] at hcon
  refine hcon.mono ?_
  rintro e w' ⟨rfl,d',m,os,hp,hs,rfl⟩
  have hd':d'.size=ks.length:=hp.1.trans hds
  have u:=upd_sortWorld (w:=w) (enc:=El.enc (M:=M++[g]) (w:=w)) (k:=4) (blk:=g) (off:=0) (m:=m) (d:=d') (os:=os)
  have hex:(Array.ofFn f).extract 0 ks.length=Array.ofFn f:=by apply Array.ext <;> simp
  have hperm:d'.toList.Perm (Array.ofFn f).toList:=by
   have:=hp.2.2
   rwa [show d'.extract 0 ks.length=d' by rw [←hd',Array.extract_size],hex] at this
  have hks:(Array.ofFn f).toList.map (fun x=>x.val.1)=ks:=by
   rw [Array.toList_ofFn,List.map_ofFn]
   exact List.ofFn_getElem
  have h4':∀ i:Nat,((fun i:Nat=>El.enc (d'[i]!)) i).length=4:=fun i=>El.len _
  have hl':=rows_length h4' ks.length
  have hblk':Blk (sortWorldK El.enc 4 w g 0 m d' os) g (rows ks.length (fun i:Nat=>El.enc (d'[i]!))++pad) 37:=by
   have hb:=hblk
   unfold Blk at hb ⊢
   have hlt:=hblk.lt
   simp only [sortWorldK,putRowK,putRow,mapBlock,Sort.grow,Sort.ahead]
   rw [Array.getElem?_append_left (by simpa using hlt),Array.getElem?_modify,if_pos rfl,hb]
   simp only [Option.map_some,onCells]
   congr 2
   apply Array.ext_getElem?
   intro t
   simp only [putCells,Array.getElem?_mapIdx,List.getElem?_toArray,size_flatK,hd']
   rcases Nat.lt_or_ge t (ks.length*4) with ht|ht
   ·rw [List.getElem?_append_left (by omega),List.getElem?_append_left (by omega),rows_range h4' ht,List.getElem?_eq_getElem (show t<(rows ks.length css).length by omega)]
    simp only [Option.map_some]
    rw [if_pos ⟨Nat.zero_le _,by omega⟩,Nat.sub_zero,get_flatK _ _ _ t (by rw [hd'];exact ht)]
    have hm:t % 4<(El.enc (d'[t / 4]!)).length:=by rw [El.len];exact Nat.mod_lt _ (by omega)
    rw [getElem!_pos _ (t % 4) hm,List.getElem?_eq_getElem hm]
    rfl
   ·rw [List.getElem?_append_right (show (rows ks.length css).length≤t by omega),List.getElem?_append_right (show (rows ks.length (fun i:Nat=>El.enc (d'[i]!))).length≤t by omega),hl',hrl]
    cases pad[t-ks.length*4]? with
    | none=>rfl
    | some y=>
     simp only [Option.map_some]
     rw [if_neg (by omega)]
  have hget:∀ i,i<ks.length→d'.toList[i]?=some d'[i]!:=fun i hi=>by
   rw [Array.getElem?_toList,Array.getElem?_eq_getElem (by omega),getElem!_pos d' i (by omega)]
  have hll:(d'.toList.map fun x=>x.val.1).length=ks.length:=by simp [hd']
  refine ⟨rfl,d'.toList.map (fun x=>x.val.1),?_,?_,?_,by simpa [Value.ownBlock] using u⟩
  ·refine OwR.of_blk (m:=ks.length) hblk' (by rw [List.length_append,hl',←hrl,←List.length_append];exact hbl) hll.symm hc1 hc2 h4' hgM fun i r hr=>?_
   have hi:i<ks.length:=by have:=(List.getElem?_eq_some_iff.1 hr).1;omega
   rw [List.getElem?_map,hget i hi] at hr
   simp only [Option.map_some,Option.some.injEq] at hr
   subst hr
   exact (d'[i]!).property.upd u (by simp)
  ·have:=hperm.map (fun x=>x.val.1)
   rwa [hks] at this
  ·rw [List.pairwise_map,List.pairwise_iff_getElem]
   intro i j hi hj hij
   rw [Array.length_toList] at hi hj
   have:=hs i j (Nat.zero_le _) hij (by omega)
   rw [getElem!_pos d' i hi,getElem!_pos d' j hj] at this
   simp only [Array.getElem_toList]
   exact this
end
end Rgx
end Go.Proofs.YtjclbjdkkdijbaaGreat
