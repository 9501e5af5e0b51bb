/- Walks through package regex: flat. Conditions: none. -/
import Derived.Test.YtjclbjdkkdijbaaGreatRxZa
set_option linter.unusedVariables false
set_option linter.unusedSimpArgs false
set_option linter.unusedSectionVars false
open Go.RowKit
namespace Go.Proofs.YtjclbjdkkdijbaaGreat
open L
namespace Rgx
open Rx
attribute [-go_sem] sliced
section
variable {w w':World} {v:Value}
theorem rxF_one {M:List Nat} {r:Rx} {cs:List Value} (h:RxF M w r cs):∀ u∈cs,u.oneCell'=true:=by
 obtain ⟨a,c,rfl⟩:=h.cs
 intro u hu
 simp only [rxC,List.mem_cons,List.not_mem_nil,or_false] at hu
 rcases hu with rfl|rfl|rfl|rfl <;> rfl
theorem rows_one4 {M:List Nat} {ks:List Rx} {css:Nat→List Value} (h:∀ i r,ks[i]?=some r→RxF M w r (css i)):∀ u∈rows ks.length css,u.oneCell'=true:=by
 intro u hu
 unfold rows at hu
 obtain ⟨i,hi,hu⟩:=List.mem_flatMap.1 hu
 exact rxF_one (h i _ (List.getElem?_eq_getElem (List.mem_range.1 hi))) u hu
theorem flat_take {k:Int} {ks:List Rx} {m:Nat} {r:Rx} (h:ks[m]?=some r):flat k (ks.take (m+1))=flat k (ks.take m)++(if r.kind=k then r.kids else [r]):=by
 unfold flat
 rw [List.take_add_one,h,List.flatMap_append]
 simp
theorem flat_len (k:Int) (ks:List Rx):(flat k ks).length≤nodesL ks:=Nat.le_trans (nodesL_len _) (nodesL_flat k ks)
set_option maxRecDepth 100000 in
set_option maxHeartbeats 8000000 in
theorem flat_calls {M:List Nat} {r u:Rx} {vu:Value} (hr:RxV M w r v) (hu:RxV M w u vu) (hM:∀ b∈M,b<w.heap.size) (hsz:nodes r≤1000000) :
 Calls Tryz.prog 117 #[v,vu] w fun e w'=>∃ v',e=.returned v'∧OwR 37 M w' v' (without u (flat r.kind r.kids))∧Upd [] w w'∧∀ q,v'.ownBlock=some q→w.heap.size≤q:=by
 obtain ⟨a1,c1,rfl,hF,hsc,hL⟩:=hr.shape
 obtain ⟨a2,c2,rfl,hU,_,_⟩:=hu.shape
 obtain ⟨a',c',he,q1,q2,_⟩:=id hL.form
 cases he
 have HM:=Lib.hid hM
 have HZ:=Lib.hid (show nodesL r.kids≤1000000 from by obtain ⟨k,lo,hi,l⟩:=r;rw [nodes] at hsz;simp only [Rx.kids];omega)
 clear hr hu hsc hF hM hsz
 go_enter Tryz.func117,Tryz.ntmps117
 go_upto_region 1 with fail
 have bA:=Blk.new w (rxC r.kind r.lo r.hi (.slice a1 r.kids.length c1)) 37
 have uA:=(Upd.refl [] w).alloc (.cells (rxC r.kind r.lo r.hi (.slice a1 r.kids.length c1)).toArray 37)
 have hz1:(w.alloc (.cells (rxC r.kind r.lo r.hi (.slice a1 r.kids.length c1)).toArray 37)).heap.size=w.heap.size+1:=by simp
 have bB:=Box.new (e:=37) (hU.ext uA) (fun b hb=>by rw [hz1];have:=HM.out b hb;omega)
 have hL2:RxL ((w.heap.size+1)::w.heap.size::M) w r.kids (.slice a1 r.kids.length c1):=hL.sub (fun b hb=>by rcases List.mem_cons.1 hb with rfl|hb;(right;omega);rcases List.mem_cons.1 hb with rfl|hb;(right;omega);exact .inl hb)
 have uB:=uA.alloc (.cells (rxC u.kind u.lo u.hi (.slice a2 u.kids.length c2)).toArray 37)
 have bA:=bA.alloc (.cells (rxC u.kind u.lo u.hi (.slice a2 u.kids.length c2)).toArray 37)
 rw [hz1] at bB
 change Code.wp _ _ _ _ ((w.alloc (.cells (rxC r.kind r.lo r.hi (.slice a1 r.kids.length c1)).toArray 37)).alloc (.cells (rxC u.kind u.lo u.hi (.slice a2 u.kids.length c2)).toArray 37))
 have hz2:((w.alloc (.cells (rxC r.kind r.lo r.hi (.slice a1 r.kids.length c1)).toArray 37)).alloc (.cells (rxC u.kind u.lo u.hi (.slice a2 u.kids.length c2)).toArray 37)).heap.size=w.heap.size+2:=by simp
 generalize ((w.alloc (.cells (rxC r.kind r.lo r.hi (.slice a1 r.kids.length c1)).toArray 37)).alloc (.cells (rxC u.kind u.lo u.hi (.slice a2 u.kids.length c2)).toArray 37))=w1 at *
 have k0:=bA.cell (i:=0) rfl
 have k3:=bA.cell (i:=3) rfl
 have HW:=Lib.hid (And.intro uB (And.intro bB (And.intro hz2 (hL2.ext uB))))
 clear bA bB uA uB hz1 hz2 hL hL2 hU
 have HP:=Lib.hid (show ∀ b∈(w.heap.size+1)::w.heap.size::M,b<w.heap.size+2 from fun b hb=>by
  rcases List.mem_cons.1 hb with rfl|hb
  ·omega
  ·rcases List.mem_cons.1 hb with rfl|hb
   ·omega
   ·have:=HM.out b hb;omega)
 generalize hpb:w.heap.size+1=pb at *
 generalize hpa:w.heap.size=pa at *
 have HPB:=Lib.hid (And.intro hpb hpa)
 clear hpb hpa
 go_wp2_with fail
 go_loopw [5,11] (fun av iv wr=>∃ (m:Nat) (acc:Value),iv=.int .i64 m∧acc=av∧m≤r.kids.length∧OwR 37 (pb::pa::M) wr acc (flat r.kind (r.kids.take m))∧(∀ q,acc.ownBlock=some q→pa+2≤q)∧Upd [] w1 wr) (fun _ iv _=>r.kids.length - (intOf iv).toNat)
 case atStart=>exact ⟨0,_,rfl,rfl,Nat.zero_le _,OwR.nil0,fun q hq=>by simp [Value.ownBlock] at hq,Upd.refl _ _⟩
 case round=>
  obtain ⟨m,acc,rfl,rfl,hm,hO,hq,hu⟩:=hrel
  have HO:=Lib.hid (And.intro hO (And.intro hq hu))
  have c0':=hu.some k0 (by simp)
  have c3':=hu.some k3 (by simp)
  clear hO hq hu
  by_cases hlt:m<r.kids.length
  ·have hli:(m:Int)<r.kids.length:=by omega
   have hr:=List.getElem?_eq_getElem hlt
   have hlen:=flat_len r.kind (r.kids.take m)
   have hlen2:=nodesL_take_succ hr
   have hlen3:=nodesL_take (m+1) r.kids
   have hflat:=flat_take (k:=r.kind) hr
   generalize r.kids[m]=s at *
   have HLEN:=Lib.hid (show (flat r.kind (r.kids.take m)).length≤1000000∧s.kids.length≤1000000 from by
    have:=HZ.out
    have h5:s.kids.length≤nodes s:=by obtain ⟨k,lo,hi,l⟩:=s;rw [nodes];simp only [Rx.kids];have:=nodesL_len l;omega
    omega)
   obtain ⟨g,off,a3,c3,rfl,hRF,e0,e1,e2,e3⟩:=((HW.out.2.2.2.sub (M':=(pb::pa::M)++acc.ownBlock.toList) (fun b hb=>by
    rcases List.mem_append.1 hb with hb|hb
    ·exact .inl hb
    ·right;rw [HW.out.2.2.1];exact HO.out.2.1 b (by simpa using hb))).ext HO.out.2.2).kid hr
   have HR:=Lib.hid (And.intro hRF (And.intro hflat hr))
   clear hRF hr hlen hlen2 hlen3 hflat
   go_upto_region 5 with fail
   have b2:=Blk.new wr (rxC s.kind s.lo s.hi (.slice a3 s.kids.length c3)) 37
   have u2:=(Upd.refl [] wr).alloc (.cells (rxC s.kind s.lo s.hi (.slice a3 s.kids.length c3)).toArray 37)
   change Code.wp _ _ _ _ (wr.alloc (.cells (rxC s.kind s.lo s.hi (.slice a3 s.kids.length c3)).toArray 37))
   have hz2:(wr.alloc (.cells (rxC s.kind s.lo s.hi (.slice a3 s.kids.length c3)).toArray 37)).heap.size=wr.heap.size+1:=by simp
   generalize (wr.alloc (.cells (rxC s.kind s.lo s.hi (.slice a3 s.kids.length c3)).toArray 37))=w2 at *
   generalize wr.heap.size=sb at *
   have d0:=b2.cell (i:=0) rfl
   have d1:=b2.cell (i:=1) rfl
   have d2:=b2.cell (i:=2) rfl
   have d3:=b2.cell (i:=3) rfl
   have f0:=u2.some c0' (by simp)
   have HO2:=Lib.hid (And.intro (HO.out.1.ext u2) (And.intro (HO.out.2.2.step u2) (HR.out.1.ext u2)))
   clear b2 u2 e0 e1 e2 e3 c0' hz2
   obtain ⟨css,o1,o2,o3,o4⟩:=id HO2.out.1
   have HOO:=Lib.hid (And.intro o1 (And.intro o2 (And.intro o3 o4)))
   clear o1 o2 o3 o4
   by_cases hk:s.kind=r.kind
   ·have hkb:(s.kind == r.kind)=true:=by simpa using hk
    have HF:=Lib.hid (show flat r.kind (r.kids.take (m+1))=flat r.kind (r.kids.take m)++s.kids from by rw [HR.out.2.1,if_pos hk])
    clear hk
    have hLs:RxL ((pb::pa::M)++acc.ownBlock.toList) w2 s.kids (.slice a3 s.kids.length c3):=by
     have h1:=HO2.out.2.2
     obtain ⟨k,lo,hi,l⟩:=s
     obtain ⟨vk,hvk,_,hLs⟩:=RxF.iff.1 h1
     simp only [rxC,List.cons.injEq,and_true] at hvk
     rw [hvk.2.2.2]
     exact hLs
    obtain ⟨cs2,p1,p2,p3,p4⟩:=hLs
    have HPP:=Lib.hid (And.intro p1 (And.intro p2 p4))
    clear p1 p2 p3 p4
    go_wp2_with (refine wpList_appS rfl _ _ _ rfl 37 4 40 _ Tryz.underlying35 infoRx rfl (by decide) acc _ _ rfl HOO.out.1 _ _ _ rfl HPP.out.1 (rows_one4 HPP.out.2.2) (by have:=HLEN.out;unfold maxLen;omega) (by have:=HLEN.out;omega) ?_;intro a7 c7 w7 o7 u7 k7)
    have HQ:=OwR.pushL (w:=w2) (w':=w7) HOO.out.2.1 HPP.out.2.1 (fun b hb=>by have:=HP.out b hb;have:=HW.out.2.2.1;have:=HO2.out.2.1.size;omega) HOO.out.2.2.1 rfl rfl HOO.out.2.2.2 HPP.out.2.2 o7 u7 (k7.imp id fun h=>⟨_,h,Nat.le_refl _⟩)
    rw [←HF.out] at HQ
    refine ⟨⟨m+1,_,by go_num,rfl,by omega,HQ,fun q hq=>?_,HO2.out.2.1.fresh u7 (fun b hb=>.inr (by rw [HW.out.2.2.1];exact HO.out.2.1 b (by simpa using hb)))⟩,by simp [intOf];omega⟩
    rcases k7 with k7|k7
    ·rw [k7] at hq;exact HO.out.2.1 q hq
    ·rw [k7] at hq;simp only [Option.some.injEq] at hq;have:=HW.out.2.2.1;have:=HO2.out.2.1.size;omega
   ·have hkb:(s.kind == r.kind)=false:=by simpa using hk
    have HF:=Lib.hid (show flat r.kind (r.kids.take (m+1))=flat r.kind (r.kids.take m)++[s] from by rw [HR.out.2.1,if_neg hk])
    clear hk
    go_upto_region 7 with fail
    go_wp2_with (refine wpList_push rfl rfl _ _ _ _ rfl rfl rfl 37 4 40 _ Tryz.underlying35 infoRx rfl (by decide) (by decide) (.agg (rxC s.kind s.lo s.hi (.slice a3 s.kids.length c3)).toArray) (rxC s.kind s.lo s.hi (.slice a3 s.kids.length c3)) rfl rfl rfl (by simp [rxC,Value.oneCell']) acc _ _ HOO.out.1 rfl rfl (by have:=HLEN.out;unfold maxLen;omega) (by have:=HLEN.out;omega) ?_;intro g7 c7 w7 o7 u7 k7)
    have HQ:=OwR.push (w:=w2) (w':=w7) (r:=s) HOO.out.2.1 (fun b hb=>by have:=HP.out b hb;have:=HW.out.2.2.1;have:=HO2.out.2.1.size;omega) HOO.out.2.2.1 rfl HOO.out.2.2.2 HO2.out.2.2 o7 u7 (k7.imp (fun h=>h.symm) fun h=>⟨_,rfl,h⟩)
    rw [←HF.out] at HQ
    refine ⟨⟨m+1,_,by go_num,rfl,by omega,HQ,fun q hq=>?_,HO2.out.2.1.fresh u7 (fun b hb=>.inr (by rw [HW.out.2.2.1];exact HO.out.2.1 b (by simpa using hb)))⟩,by simp [intOf];omega⟩
    simp only [Value.ownBlock,Option.some.injEq] at hq
    subst hq
    rcases k7 with k7|k7
    ·exact HO.out.2.1 _ k7
    ·have:=HW.out.2.2.1;have:=HO2.out.2.1.size;omega
  ·have hme:m=r.kids.length:=by omega
   subst hme
   rw [List.take_length] at HO
   have hbx:Box 37 acc.ownBlock.toList wr pb u:=by
    have h1:=(HW.out.2.1.sub (M':=acc.ownBlock.toList) (fun b hb=>by right;rw [HW.out.2.2.1];exact HO.out.2.1 b (by simpa using hb)))
    exact h1.ext HO.out.2.2
   have HD:=Lib.hid (deleteFunc_calls HO.out.1 hbx)
   clear hbx
   go_wp2_with (first|(with_reducible refine HD.out.mono ?_);rintro e w3 ⟨v3,rfl,o3,u3,k3⟩)
   go_ret
   refine ⟨v3,rfl,?_,?_,fun q hq=>by rw [k3] at hq;have:=HO.out.2.1 q hq;have:=HPB.out.2;omega⟩
   ·obtain ⟨css,a1,a2,a3,a4⟩:=o3
    exact ⟨css,a1,a2,fun b hb=>a3 b (by simp [hb]),fun i r hr=>(a4 i r hr).sub fun b hb=>by
     rcases List.mem_append.1 hb with hb|hb
     ·exact .inl (by simp [hb])
     ·exact .inl (List.mem_append_right _ hb)⟩
   ·exact (HW.out.1.step HO.out.2.2).fresh u3 (fun b hb=>.inr (by have h5:=HO.out.2.1 b (by simpa using hb);have:=HPB.out.2;omega))
end
end Rgx
end Go.Proofs.YtjclbjdkkdijbaaGreat
