/- Walks through the reference model of package regex: put. Conditions: none. Walks through the reference model of package regex: Everything; results. Conditions: none. Walks through the reference model of package regex: normal, complement and repetition (written by tools/gen_rfe.py). Conditions: none. Walks through the reference model of package regex: normal, the joined kinds (written by tools/gen_rff.py). Conditions: none. -/
import Derived.Test.YtjclbjdkkdijbaaGreatRfZa
import Derived.Test.YtjclbjdkkdijbaaGreatRxZb
import Derived.Test.YtjclbjdkkdijbaaGreatReg3
set_option linter.unusedVariables false
set_option linter.unusedSimpArgs false
set_option linter.unusedSectionVars false
section
open Go.RowKit
namespace Go.Proofs.YtjclbjdkkdijbaaGreat
open L
namespace Rgx
open Rx
attribute [-go_sem] sliced
theorem infoRR:(Tryz.prog.info? 25).map (fun i=>(i.zero,i.size,i.bytes))=some (some (.agg #[.int .i64 0,.int .u8 0,.int .u8 0,.slice none 0 0]),4,40):=by kernel_rfl
theorem putR_at:∀ {l:List Rx} {n:Rx} {k:Nat},k≤l.length→(∀ j x,j<k→l[j]?=some x→cmpR x n<0)→(∀ x,l[k]?=some x→¬ cmpR x n<0)→putR l n=if l[k]?=some n then l else l.take k++n::l.drop k
 | [],n,k,hk,_,_=>by
  have:k=0:=by simpa using hk
  subst this
  simp [putR]
 | x::l,n,0,_,_,h2=>by
  have h:=h2 x (by simp)
  unfold putR
  rw [if_neg (by simpa [ltR] using h)]
  by_cases hx:x=n
  ·simp [hx]
  ·simp [hx]
 | x::l,n,k+1,hk,h1,h2=>by
  have h0:=h1 0 x (by omega) (by simp)
  have ih:=putR_at (l:=l) (n:=n) (k:=k) (by simpa using hk) (fun j y hj hy=>h1 (j+1) y (by omega) (by simpa using hy)) (fun y hy=>h2 y (by simpa using hy))
  unfold putR
  rw [if_pos (by simpa [ltR] using h0),ih]
  by_cases hx:l[k]?=some n
  ·simp [hx]
  ·simp [hx]
theorem putR_length (l:List Rx) (n:Rx):(putR l n).length≤l.length+1:=by
 induction l with
 | nil=>simp [putR]
 | cons x l ih=>
  unfold putR
  split
  ·simpa using ih
  ·split <;> simp
def ltAt (l:List Rx) (k:Nat) (r:Rx):Bool:=match l[k]? with|some s=>decide (cmpR s r<0)|none=>false
def eqAt (l:List Rx) (k:Nat) (r:Rx):Bool:=match l[k]? with|some s=>decide (cmpR s r=0)|none=>false
theorem putR_at' {l:List Rx} {n:Rx} {k:Nat} (hk:k≤l.length) (h1:∀ j x,j<k→l[j]?=some x→cmpR x n<0) (h2:ltAt l k n=false):putR l n=if eqAt l k n=true then l else l.take k++n::l.drop k:=by
 rw [putR_at hk h1 (fun x hx h=>by unfold ltAt at h2;rw [hx] at h2;simp at h2;omega)]
 unfold eqAt
 cases hx:l[k]? with
 | none=>simp
 | some x=>simp [cmpR_zero]
section
variable {w w':World} {v:Value} {M:List Nat}
theorem RxL.upto {ks:List Rx} {a:Option Addr} {n cap m:Nat} (h:RxL M w ks (.slice a n cap)) (hn:n=ks.length) (hm:m≤n):RxL M w (ks.take m) (sliced a 0 m cap 4):=by
 subst hn
 obtain ⟨css,b,c,d,e⟩:=h
 obtain ⟨h1,a',cap',he,h2,h3,h4,h5⟩:=b
 cases he
 have hlt:(ks.take m).length=m:=by rw [List.length_take];omega
 have hsh:∃ a2,sliced a 0 m cap 4=.slice a2 m cap∧(a2=Option.none→cap=0)∧(m=0∨a2=a)∧∀ g off,a2=some ⟨g,off,Option.none⟩→m=0∨a=some ⟨g,off,Option.none⟩:=by
  unfold sliced
  by_cases hc:cap=0
  ·subst hc
   have hm0:m=0:=by omega
   subst hm0
   refine ⟨_,by simp;rfl,fun _=>rfl,.inl rfl,fun g off _=>.inl rfl⟩
  ·cases a with
   | none=>exact absurd (h4 rfl) hc
   | some x=>
    refine ⟨some x,?_,(fun h=>by cases h),.inr rfl,fun g off h=>.inr h⟩
    simp [Addr.add]
 obtain ⟨a2,e1,e2,e3,e4⟩:=hsh
 rw [e1]
 refine ⟨css,⟨?_,a2,cap,by rw [hlt],by omega,h3,e2,?_⟩,c,fun g hne hg=>?_,fun i r hr=>?_⟩
 ·rw [hlt];exact rows_length c m
 ·rw [hlt]
  rcases e3 with e3|e3
  ·exact .inl e3
  ·subst e3
   rcases h5 with h5|⟨g,off,rfl,h5⟩
   ·left;omega
   ·right
    refine ⟨g,off,rfl,fun j u hj=>?_⟩
    have hjl:=(List.getElem?_eq_some_iff.1 hj).1
    rw [rows_length c] at hjl
    refine h5 j u ?_
    have hq:j=(j / 4)*4+j % 4:=by omega
    rw [hq,rows_get c (by omega) (by omega)] at hj
    rw [hq,rows_get c (by omega) (by omega)]
    exact hj
 ·have hks:ks≠[]:=by rintro rfl;simp at hne
  rcases e3 with e3|e3
  ·subst e3;simp at hne
  ·subst e3;exact d g hks (by cases a2 <;> first|(simp [Value.ownBlock] at hg;done)|exact hg)
 ·rw [List.getElem?_take] at hr
  split at hr
  ·exact e i r hr
  ·cases hr
theorem RxV.list_one {r:Rx} (h:RxV M w r v):∃ a c,v=.agg #[.int .i64 r.kind,.int .u8 r.lo,.int .u8 r.hi,.slice a r.kids.length c]∧RxF M w r (rxC r.kind r.lo r.hi (.slice a r.kids.length c)):=by
 obtain ⟨a,c,h1,h2,_⟩:=h.shape
 exact ⟨a,c,h1,h2⟩
set_option maxRecDepth 100000 in
set_option maxHeartbeats 8000000 in
theorem rput_calls {r:Rx} {l:List Rx} {vr:Value} (hO:OwR 25 M w v l) (hr:RxV M w r vr) (hM:∀ b∈M,b<w.heap.size) (hln:l.length≤1000000) :
 Calls Tryz.prog 154 #[v,vr] w fun e w'=>∃ v',e=.returned v'∧OwR 25 M w' v' (putR l r)∧Upd [] w w'∧(v'.ownBlock=v.ownBlock∨∀ q,v'.ownBlock=some q→w.heap.size≤q):=by
 obtain ⟨a2,c2,rfl,hU⟩:=hr.list_one
 obtain ⟨a,c,rfl,q1,q2,_⟩:=id hO.list.form
 have HO:=Lib.hid hO
 have HM:=Lib.hid hM
 have HCM:=Lib.hid (fun (w':World) (u:Upd [] w w') (s:Rx) (vs:Value) (h:RxV [] w' s vs)=>rcmp_calls s r h (RxV.sub (hr.ext u) (by simp)))
 clear hO hM hr
 go_enter Tryz.func154,Tryz.ntmps154
 go_upto_region 1 with fail
 have b1:=Blk.new w (rxC r.kind r.lo r.hi (.slice a2 r.kids.length c2)) 25
 have u1:=(Upd.refl [] w).alloc (.cells (rxC r.kind r.lo r.hi (.slice a2 r.kids.length c2)).toArray 25)
 change Code.wp _ _ _ _ (w.alloc (.cells (rxC r.kind r.lo r.hi (.slice a2 r.kids.length c2)).toArray 25))
 generalize (w.alloc (.cells (rxC r.kind r.lo r.hi (.slice a2 r.kids.length c2)).toArray 25))=w1 at *
 generalize hpb:w.heap.size=pb at *
 have HPB:=Lib.hid hpb
 clear hpb
 have k0:=b1.cell (i:=0) rfl
 have k1:=b1.cell (i:=1) rfl
 have k2:=b1.cell (i:=2) rfl
 have k3:=b1.cell (i:=3) rfl
 have HU:=Lib.hid u1
 clear b1 u1
 go_wp2_with fail
 go_loopw [5] (fun i wr=>∃ k:Nat,i=.int .i64 k∧k≤l.length∧Hid (∀ j x,j<k→l[j]?=some x→cmpR x r<0)∧∃ x:Ext w1,wr=x.val) (fun i _=>l.length - (intOf i).toNat)
 case atStart=>exact ⟨0,rfl,Nat.zero_le _,Lib.hid (fun j x h=>by omega),Ext.of (by iterate 25 (first|exact Upd.refl _ _|assumption|refine Upd.alloc ?_ _|refine Upd.drew ?_|refine Upd.drewN ?_ _|refine Upd.dl ?_|refine Upd.step ?_ (Ext.upd _)|refine Upd.nil ?_|skip))⟩
 case round=>
  obtain ⟨k,rfl,hk,HE,x,rfl⟩:=hrel
  have HXU:=Lib.hid (HU.out.step x.upd)
  have HW0:=Lib.hid x.upd
  have m0:=x.upd.some k0 (by simp)
  have m1:=x.upd.some k1 (by simp)
  have m2:=x.upd.some k2 (by simp)
  have m3:=x.upd.some k3 (by simp)
  clear k0 k1 k2 k3
  generalize x.val=wq at *
  go_upto_region 2 with fail
  go_cut [19] (fun t w'=>t=.bool (ltAt l k r)∧Upd [] wq w')
  case first=>
   by_cases hlt:k<l.length
   ·have hli:(k:Int)<l.length:=by omega
    have hd1:decide ((k:Int)<l.length)=true:=by simpa using hli
    have hr:=List.getElem?_eq_getElem hlt
    have HV:=Lib.hid (show ltAt l k r=decide (cmpR l[k] r<0) by unfold ltAt;rw [hr])
    generalize l[k]=s at *
    obtain ⟨g,off,a3,c3,rfl,hRF,e0,e1,e2,e3⟩:=(RxL.sub (M':=[]) HO.out.list (by simp) |>.ext HXU.out).kid hr
    have HCC:=Lib.hid (fun (w':World) (u:Upd [] wq w')=>HCM.out w' (HXU.out.step u) s _ (hRF.ext u).val)
    clear hRF hr
    generalize cmpR s r=z at *
    refine wp_region_qx (by kernel_rfl) (by kernel_rfl) ?_
    repeat (go_big_quiet_step (((go_at_call 95;exact qx (HCC.out _ (Ext.upd _))))))
    refine wpQuiet_nil ?_
    intro x
    go_wp2_with fail
    go_meet
    case rel=>exact ⟨congrArg Value.bool HV.out.symm,x.upd⟩
   ·have hli:¬ (k:Int)<l.length:=by omega
    have hd1:decide ((k:Int)<l.length)=false:=by simpa using hli
    have HV:=Lib.hid (show ltAt l k r=false by unfold ltAt;rw [List.getElem?_eq_none (by omega)])
    refine wp_region_qx (by kernel_rfl) (by kernel_rfl) ?_
    repeat (go_big_quiet_step ((fail)))
    refine wpQuiet_nil ?_
    intro x
    go_wp2_with fail
    go_meet
    case rel=>exact ⟨congrArg Value.bool HV.out.symm,x.upd⟩
  case rest=>
  obtain ⟨rfl,u4⟩:=hcut
  have HXU:=Lib.hid (HXU.out.step u4)
  have m0:=u4.some m0 (by simp)
  have m1:=u4.some m1 (by simp)
  have m2:=u4.some m2 (by simp)
  have m3:=u4.some m3 (by simp)
  have HXW:=Lib.hid (HW0.out.step u4)
  clear u4
  cases hlt:ltAt l k r with
  | true=>
   have HN:=Lib.hid (show k+1≤l.length∧∀ j x,j<k+1→l[j]?=some x→cmpR x r<0 from by
    unfold ltAt at hlt
    cases hx:l[k]? with
    | none=>rw [hx] at hlt;cases hlt
    | some s=>
     rw [hx] at hlt
     refine ⟨(List.getElem?_eq_some_iff.1 hx).1,fun j x hj hxj=>?_⟩
     by_cases h:j=k
     ·subst h;rw [hx] at hxj;cases hxj;simpa using hlt
     ·exact HE.out j x (by omega) hxj)
   clear hlt
   have hkb:(k:Int)≤1000000:=by omega
   go_wp2_with fail
   exact ⟨⟨k+1,by go_num,HN.out.1,Lib.hid HN.out.2,Ext.of HXW.out⟩,by have:=HN.out.1;simp [intOf];omega⟩
  | false=>
   have HP:=Lib.hid (putR_at' hk HE.out hlt)
   clear hlt HE HXW HW0
   generalize wc=wq at *
   go_upto_region 4 with fail
   go_cut [34] (fun t w'=>t=.bool (eqAt l k r)∧Upd [] wq w')
   case first=>
    by_cases hlt:k<l.length
    ·have hli:(k:Int)<l.length:=by omega
     have hd1:decide ((k:Int)<l.length)=true:=by simpa using hli
     have hr:=List.getElem?_eq_getElem hlt
     have HV:=Lib.hid (show eqAt l k r=decide (cmpR l[k] r=0) by unfold eqAt;rw [hr])
     generalize l[k]=s at *
     obtain ⟨g,off,a3,c3,rfl,hRF,e0,e1,e2,e3⟩:=(RxL.sub (M':=[]) HO.out.list (by simp) |>.ext HXU.out).kid hr
     have HCC:=Lib.hid (fun (w':World) (u:Upd [] wq w')=>HCM.out w' (HXU.out.step u) s _ (hRF.ext u).val)
     clear hRF hr
     generalize cmpR s r=z at *
     refine wp_region_qx (by kernel_rfl) (by kernel_rfl) ?_
     repeat (go_big_quiet_step (((go_at_call 95;exact qx (HCC.out _ (Ext.upd _))))))
     refine wpQuiet_nil ?_
     intro x
     go_wp2_with fail
     go_meet
     case rel=>exact ⟨congrArg Value.bool HV.out.symm,x.upd⟩
    ·have hli:¬ (k:Int)<l.length:=by omega
     have hd1:decide ((k:Int)<l.length)=false:=by simpa using hli
     have HV:=Lib.hid (show eqAt l k r=false by unfold eqAt;rw [List.getElem?_eq_none (by omega)])
     refine wp_region_qx (by kernel_rfl) (by kernel_rfl) ?_
     repeat (go_big_quiet_step ((fail)))
     refine wpQuiet_nil ?_
     intro x
     go_wp2_with fail
     go_meet
     case rel=>exact ⟨congrArg Value.bool HV.out.symm,x.upd⟩
   case rest=>
   obtain ⟨rfl,u4⟩:=hcut
   have HXU:=Lib.hid (HXU.out.step u4)
   have m0:=u4.some m0 (by simp)
   have m1:=u4.some m1 (by simp)
   have m2:=u4.some m2 (by simp)
   have m3:=u4.some m3 (by simp)
   clear u4
   cases heq:eqAt l k r with
   | true=>
    rw [heq] at HP
    have HPP:=Lib.hid (HP.out.trans (if_pos rfl))
    clear heq HP
    go_wp2_with fail
    go_ret
    rw [HPP.out]
    exact ⟨_,rfl,HO.out.ext HXU.out,HXU.out,.inl rfl⟩
   | false=>
    rw [heq] at HP
    have HPP:=Lib.hid (HP.out.trans (if_neg (by simp)))
    clear heq HP
    go_upto_region 7 with fail
    have hlk:k=(l.take k).length:=by rw [List.length_take];omega
    have HLK:=Lib.hid hlk
    have HK2:=Lib.hid (And.intro hk hln)
    have UD:Upd [] wc wc.drew:=(Upd.refl [] wc).drew
    have HT:=Lib.hid (fun (w5:World) (u5:Upd [] wc w5)=>(show ∃ cs1:Nat→List Value,SL w5 4 (sliced a 0 k c 4) k (rows k cs1)∧(∀ i,(cs1 i).length=4)∧∀ i x,(l.take k)[i]?=some x→RxF M w5 x (cs1 i) by
     obtain ⟨cs1,p1,p2,_,p4⟩:=((HO.out.list.ext HXU.out).ext u5).upto rfl hk
     rw [←hlk] at p1
     exact ⟨cs1,p1,p2,p4⟩))
    have HRX:=Lib.hid (hU.ext HXU.out)
    clear hlk
    refine wp_region_wa 9 8 (fun w'=>∃ x:Ext wc,w'=x.val) (by kernel_rfl) (by kernel_rfl) (Ext.of (by iterate 25 (first|exact Upd.refl _ _|assumption|refine Upd.alloc ?_ _|refine Upd.drew ?_|refine Upd.drewN ?_ _|refine Upd.dl ?_|refine Upd.step ?_ (Ext.upd _)|refine Upd.nil ?_|skip))) ?_
    (refine WA.free 0 rfl rfl (by kernel_rfl) (fun K hK=>?_);go_big_quiet_step (fail);refine wpQuiet_nil ?_;refine hK _ ?_;clear hK K);(refine WA.free 1 rfl rfl (by kernel_rfl) (fun K hK=>?_);go_big_quiet_step (fail);refine wpQuiet_nil ?_;refine hK _ ?_;clear hK K);(refine WA.free 2 rfl rfl (by kernel_rfl) (fun K hK=>?_);go_big_quiet_step (fail);refine wpQuiet_nil ?_;refine hK _ ?_;clear hK K);(refine WA.free 3 rfl rfl (by kernel_rfl) (fun K hK=>?_);go_big_quiet_step (fail);refine wpQuiet_nil ?_;refine hK _ ?_;clear hK K)
    (refine WA.load 5 8 rfl rfl (by kernel_rfl) (by kernel_rfl) (fun K hK=>?_);go_big_quiet_step (fail);refine wpQuiet_nil ?_;refine hK _ ?_;clear hK K)
    clear m0 m1 m2 m3
    generalize wc.drew=wd at *
    have HD:=Lib.hid UD
    clear UD
    refine WA.two 4 6 (by kernel_rfl) (Do_.mk rfl (fun K hK=>?_)) (Do_.mk rfl (fun K hK=>?_))
    ·obtain ⟨cs1,p1,p2,p4⟩:=HT.out wd HD.out
     have HP1:=Lib.hid (And.intro p1 (And.intro p2 p4))
     clear p1 p2 p4
     obtain ⟨cs0,n1,n2,n3,n4⟩:=(OwR.nil0:OwR 25 M wd (.slice none 0 0) [])
     have HN1:=Lib.hid (And.intro n1 n2)
     clear n1 n2 n3 n4
     go_wp2_with (refine wpList_appS rfl _ _ _ rfl 25 4 40 _ Tryz.underlying23 infoRR rfl (by decide) (.slice none 0 0) 0 (rows 0 cs0) rfl HN1.out.1 _ k _ rfl HP1.out.1 (by have:=rows_one4 HP1.out.2.2;rw [←HLK.out] at this;exact this) (by have:=HK2.out;unfold maxLen;omega) (by have:=HK2.out;omega) ?_;intro a5 c5 w5 o5 u5 k5;simp only [Nat.zero_add] at o5 u5 k5 ⊢)
     have HO5:=Lib.hid (And.intro (show OwR 25 M w5 (.slice a5 k c5) (l.take k) from OwR.pushL (ks:=[]) HN1.out.2 HP1.out.2.1 (fun b hb=>by have:=HM.out b hb;have:=HXU.out.size;have:=(show Upd [] wc wd from HD.out).size;have:=HPB.out;omega) (fun b hb=>by simp [Value.ownBlock]) rfl HLK.out (fun i r hr=>by simp at hr) (fun i x hx=>by have:=HP1.out.2.2 i x hx;simpa [Value.ownBlock] using this) (by simpa using o5) u5 (k5.imp id fun h=>⟨_,h,Nat.le_refl _⟩)) (And.intro (show Upd [] wd w5 from u5) (show ∀ q,(Value.slice a5 k c5).ownBlock=some q→wd.heap.size≤q from fun q hq=>by
      rcases k5 with k5|k5
      ·rw [k5] at hq;simp [Value.ownBlock] at hq
      ·rw [k5] at hq;simp at hq;omega)))
     clear o5 u5 k5 HP1 HN1
     refine WA.keep (Ext.of (HD.out.step HO5.out.2.1)) ?_
     refine WA.one 6 (by kernel_rfl) (Do_.mk rfl (fun K hK=>?_))
     go_wp2_with fail
     have HB:=Lib.hid (And.intro (show Blk (w5.alloc (.cells #[.int .i64 r.kind,.int .u8 r.lo,.int .u8 r.hi,.slice a2 r.kids.length c2] 25)) w5.heap.size (rxC r.kind r.lo r.hi (.slice a2 r.kids.length c2)) 25 from Blk.new w5 (rxC r.kind r.lo r.hi (.slice a2 r.kids.length c2)) 25) (show Upd [] w5 (w5.alloc (.cells #[.int .i64 r.kind,.int .u8 r.lo,.int .u8 r.hi,.slice a2 r.kids.length c2] 25)) from (Upd.refl [] w5).alloc _))
     generalize (w5.alloc (.cells #[.int .i64 r.kind,.int .u8 r.lo,.int .u8 r.hi,.slice a2 r.kids.length c2] 25))=w6 at *
     generalize w5.heap.size=bb at HB ⊢
     refine WA.keep (Ext.of ((HD.out.step HO5.out.2.1).step HB.out.2)) ?_
     refine WA.one 7 (by kernel_rfl) (Do_.mk rfl (fun K hK=>?_))
     have HBB:=Lib.hid HB.out.1
     have HNEW:=Lib.hid (show ∀ b,(Value.slice a5 k c5).ownBlock=some b→wc.heap.size≤b from fun b hb=>by have:=HO5.out.2.2 b hb;have:=HD.out.size;omega)
     obtain ⟨cs5,q51,q52,q53,q54⟩:=id (HO5.out.1.ext HB.out.2)
     have HC5:=Lib.hid (And.intro q51 (And.intro q52 (And.intro q53 q54)))
     have HQ5:=Lib.hid (show w6.ownsRow 0 25 4 (.slice a5 k c5) k (rows k cs5) by rw [←HLK.out] at q51;simpa using q51)
     clear q51 q52 q53 q54
     go_wp2_with (refine wpList_app rfl _ _ _ rfl 25 4 40 _ Tryz.underlying23 infoRR rfl (by decide) _ k (rows k cs5) rfl HQ5.out bb 1 1 (rxC r.kind r.lo r.hi (.slice a2 r.kids.length c2)) 25 rfl rfl HBB.out (by simp [rxC,Value.oneCell']) (by omega) (by have:=HK2.out;unfold maxLen;omega) (by have:=HK2.out;omega) ?_;intro g7 c7 w7 o7 u7 k7)
     have HO7:=Lib.hid (And.intro (show OwR 25 M w7 (.slice (some ⟨g7,0,none⟩) (k+1) c7) (l.take k++[r]) from OwR.push (w:=w6) HC5.out.2.1 (fun b hb=>by have:=HM.out b hb;have:=HXU.out.size;have:=(show Upd [] wc w6 from ((HD.out.step HO5.out.2.1).step HB.out.2)).size;have:=HPB.out;omega) HC5.out.2.2.1 HLK.out HC5.out.2.2.2 ((HRX.out.sub (fun b hb=>by
      rcases List.mem_append.1 hb with hb|hb
      ·exact .inl hb
      ·right;exact HNEW.out b (Option.mem_toList.1 hb))).ext ((HD.out.step HO5.out.2.1).step HB.out.2)) o7 u7 (k7.imp (fun h=>h.symm) fun h=>⟨_,rfl,Nat.le_of_eq h.symm⟩)) (And.intro (show Upd [] wc w7 from (((HD.out.step HO5.out.2.1).step HB.out.2)).fresh u7 (fun b hb=>.inr (HNEW.out b (Option.mem_toList.1 hb)))) (show wc.heap.size≤g7 from by
      rcases k7 with k7|k7
      ·exact HNEW.out _ k7
      ·have:=(show Upd [] wc w6 from ((HD.out.step HO5.out.2.1).step HB.out.2)).size;omega)))
     clear o7 u7 k7 HC5 HQ5
     refine WA.keep (Ext.of HO7.out.2.1) ?_
     refine WA.one 8 (by kernel_rfl) (Do_.mk rfl (fun K hK=>?_))
     go_wp2_with fail
     refine WA.past (by kernel_rfl) ?_
     refine WA.nil (by kernel_rfl) ?_
     go_upto_region 8 with fail
     have HS:=Lib.hid (((HO.out.list.ext HXU.out).sub (M':=M++[g7]) (fun b hb=>by
      rcases List.mem_append.1 hb with hb|hb
      ·exact .inl hb
      ·rw [List.mem_singleton] at hb;subst hb;exact .inr HO7.out.2.2)).ext HO7.out.2.1)
     obtain ⟨cs8,p1,p2,_,p4⟩:=HS.out.from_ rfl hk
     obtain ⟨cs9,q1',q2',q3',q4'⟩:=id HO7.out.1
     have HL8:=Lib.hid (show (l.take k++[r]).length=k+1 by rw [List.length_append,←HLK.out];simp)
     have HL9:=Lib.hid (show (l.drop k).length=l.length-k from List.length_drop)
     have H8:=Lib.hid (And.intro p1 (And.intro p2 p4))
     have H9:=Lib.hid (And.intro (show w7.ownsRow 0 25 4 (.slice (some ⟨g7,0,none⟩) (k+1) c7) (k+1) (rows (k+1) cs9) by rw [HL8.out] at q1';exact q1') (And.intro q2' (And.intro q3' q4')))
     clear p1 p2 p4 q1' q2' q3' q4'
     go_wp2_with (refine wpList_appS rfl _ _ _ rfl 25 4 40 _ Tryz.underlying23 infoRR rfl (by decide) (.slice (some ⟨g7,0,none⟩) (k+1) c7) (k+1) (rows (k+1) cs9) rfl H9.out.1 _ (l.drop k).length _ rfl H8.out.1 (rows_one4 H8.out.2.2) (by have:=HK2.out;rw [HL9.out];unfold maxLen;omega) (by have:=HK2.out;rw [HL9.out];omega) ?_;intro a8 c8 w8 o8 u8 k8)
     go_ret
     rw [HPP.out]
     refine ⟨.slice a8 (k+1+(l.drop k).length) c8,(by rw [HL9.out];rfl),?_,?_,?_⟩
     ·have:=OwR.pushL (v:=.slice (some ⟨g7,0,none⟩) (k+1) c7) (w:=w7) (w':=w8) H9.out.2.1 H8.out.2.1 (fun b hb=>by have:=HM.out b hb;have:=HXU.out.size;have:=HO7.out.2.1.size;have:=HPB.out;omega) H9.out.2.2.1 HL8.out.symm rfl H9.out.2.2.2 H8.out.2.2 o8 u8 (k8.imp id fun h=>⟨_,h,Nat.le_refl _⟩)
      simpa using this
     ·exact (HXU.out.step HO7.out.2.1).fresh u8 (fun b hb=>by
       simp [Value.ownBlock] at hb
       subst hb
       have:=HO7.out.2.2
       have:=HXU.out.size
       have:=HPB.out
       right;omega)
     ·right
      intro q hq
      rcases k8 with k8|k8
      ·rw [k8] at hq
       simp [Value.ownBlock] at hq
       have:=HO7.out.2.2
       have:=HXU.out.size
       have:=HPB.out
       omega
      ·rw [k8] at hq
       simp at hq
       have:=HO7.out.2.1.size
       have:=HXU.out.size
       have:=HPB.out
       omega
    ·go_wp2_with fail
     have HB:=Lib.hid (And.intro (show Blk (wd.alloc (.cells #[.int .i64 r.kind,.int .u8 r.lo,.int .u8 r.hi,.slice a2 r.kids.length c2] 25)) wd.heap.size (rxC r.kind r.lo r.hi (.slice a2 r.kids.length c2)) 25 from Blk.new wd (rxC r.kind r.lo r.hi (.slice a2 r.kids.length c2)) 25) (show Upd [] wd (wd.alloc (.cells #[.int .i64 r.kind,.int .u8 r.lo,.int .u8 r.hi,.slice a2 r.kids.length c2] 25)) from (Upd.refl [] wd).alloc _))
     generalize (wd.alloc (.cells #[.int .i64 r.kind,.int .u8 r.lo,.int .u8 r.hi,.slice a2 r.kids.length c2] 25))=w4 at *
     generalize wd.heap.size=bb at HB ⊢
     refine WA.keep (Ext.of (HD.out.step HB.out.2)) ?_
     refine WA.one 4 (by kernel_rfl) (Do_.mk rfl (fun K hK=>?_))
     obtain ⟨cs1,p1,p2,p4⟩:=HT.out w4 (HD.out.step HB.out.2)
     have HP1:=Lib.hid (And.intro p1 (And.intro p2 p4))
     clear p1 p2 p4
     obtain ⟨cs0,n1,n2,n3,n4⟩:=(OwR.nil0:OwR 25 M w4 (.slice none 0 0) [])
     have HN1:=Lib.hid (And.intro n1 n2)
     clear n1 n2 n3 n4
     go_wp2_with (refine wpList_appS rfl _ _ _ rfl 25 4 40 _ Tryz.underlying23 infoRR rfl (by decide) (.slice none 0 0) 0 (rows 0 cs0) rfl HN1.out.1 _ k _ rfl HP1.out.1 (by have:=rows_one4 HP1.out.2.2;rw [←HLK.out] at this;exact this) (by have:=HK2.out;unfold maxLen;omega) (by have:=HK2.out;omega) ?_;intro a5 c5 w5 o5 u5 k5;simp only [Nat.zero_add] at o5 u5 k5 ⊢)
     have HO5:=Lib.hid (And.intro (show OwR 25 M w5 (.slice a5 k c5) (l.take k) from OwR.pushL (ks:=[]) HN1.out.2 HP1.out.2.1 (fun b hb=>by have:=HM.out b hb;have:=HXU.out.size;have:=(show Upd [] wc w4 from (HD.out.step HB.out.2)).size;have:=HPB.out;omega) (fun b hb=>by simp [Value.ownBlock]) rfl HLK.out (fun i r hr=>by simp at hr) (fun i x hx=>by have:=HP1.out.2.2 i x hx;simpa [Value.ownBlock] using this) (by simpa using o5) u5 (k5.imp id fun h=>⟨_,h,Nat.le_refl _⟩)) (And.intro (show Upd [] w4 w5 from u5) (show ∀ q,(Value.slice a5 k c5).ownBlock=some q→w4.heap.size≤q from fun q hq=>by
      rcases k5 with k5|k5
      ·rw [k5] at hq;simp [Value.ownBlock] at hq
      ·rw [k5] at hq;simp at hq;omega)))
     clear o5 u5 k5 HP1 HN1
     refine WA.keep (Ext.of ((HD.out.step HB.out.2).step HO5.out.2.1)) ?_
     refine WA.one 7 (by kernel_rfl) (Do_.mk rfl (fun K hK=>?_))
     have HBB:=Lib.hid (HB.out.1.upd HO5.out.2.1 (by simp))
     have HNEW:=Lib.hid (show ∀ b,(Value.slice a5 k c5).ownBlock=some b→wc.heap.size≤b from fun b hb=>by have:=HO5.out.2.2 b hb;have:=HD.out.size;have:=HB.out.2.size;omega)
     obtain ⟨cs5,q51,q52,q53,q54⟩:=id (HO5.out.1)
     have HC5:=Lib.hid (And.intro q51 (And.intro q52 (And.intro q53 q54)))
     have HQ5:=Lib.hid (show w5.ownsRow 0 25 4 (.slice a5 k c5) k (rows k cs5) by rw [←HLK.out] at q51;simpa using q51)
     clear q51 q52 q53 q54
     go_wp2_with (refine wpList_app rfl _ _ _ rfl 25 4 40 _ Tryz.underlying23 infoRR rfl (by decide) _ k (rows k cs5) rfl HQ5.out bb 1 1 (rxC r.kind r.lo r.hi (.slice a2 r.kids.length c2)) 25 rfl rfl HBB.out (by simp [rxC,Value.oneCell']) (by omega) (by have:=HK2.out;unfold maxLen;omega) (by have:=HK2.out;omega) ?_;intro g7 c7 w7 o7 u7 k7)
     have HO7:=Lib.hid (And.intro (show OwR 25 M w7 (.slice (some ⟨g7,0,none⟩) (k+1) c7) (l.take k++[r]) from OwR.push (w:=w5) HC5.out.2.1 (fun b hb=>by have:=HM.out b hb;have:=HXU.out.size;have:=(show Upd [] wc w5 from ((HD.out.step HB.out.2).step HO5.out.2.1)).size;have:=HPB.out;omega) HC5.out.2.2.1 HLK.out HC5.out.2.2.2 ((HRX.out.sub (fun b hb=>by
      rcases List.mem_append.1 hb with hb|hb
      ·exact .inl hb
      ·right;exact HNEW.out b (Option.mem_toList.1 hb))).ext ((HD.out.step HB.out.2).step HO5.out.2.1)) o7 u7 (k7.imp (fun h=>h.symm) fun h=>⟨_,rfl,Nat.le_of_eq h.symm⟩)) (And.intro (show Upd [] wc w7 from (((HD.out.step HB.out.2).step HO5.out.2.1)).fresh u7 (fun b hb=>.inr (HNEW.out b (Option.mem_toList.1 hb)))) (show wc.heap.size≤g7 from by
      rcases k7 with k7|k7
      ·exact HNEW.out _ k7
      ·have:=(show Upd [] wc w5 from ((HD.out.step HB.out.2).step HO5.out.2.1)).size;omega)))
     clear o7 u7 k7 HC5 HQ5
     refine WA.keep (Ext.of HO7.out.2.1) ?_
     refine WA.one 8 (by kernel_rfl) (Do_.mk rfl (fun K hK=>?_))
     go_wp2_with fail
     refine WA.past (by kernel_rfl) ?_
     refine WA.nil (by kernel_rfl) ?_
     go_upto_region 8 with fail
     have HS:=Lib.hid (((HO.out.list.ext HXU.out).sub (M':=M++[g7]) (fun b hb=>by
      rcases List.mem_append.1 hb with hb|hb
      ·exact .inl hb
      ·rw [List.mem_singleton] at hb;subst hb;exact .inr HO7.out.2.2)).ext HO7.out.2.1)
     obtain ⟨cs8,p1,p2,_,p4⟩:=HS.out.from_ rfl hk
     obtain ⟨cs9,q1',q2',q3',q4'⟩:=id HO7.out.1
     have HL8:=Lib.hid (show (l.take k++[r]).length=k+1 by rw [List.length_append,←HLK.out];simp)
     have HL9:=Lib.hid (show (l.drop k).length=l.length-k from List.length_drop)
     have H8:=Lib.hid (And.intro p1 (And.intro p2 p4))
     have H9:=Lib.hid (And.intro (show w7.ownsRow 0 25 4 (.slice (some ⟨g7,0,none⟩) (k+1) c7) (k+1) (rows (k+1) cs9) by rw [HL8.out] at q1';exact q1') (And.intro q2' (And.intro q3' q4')))
     clear p1 p2 p4 q1' q2' q3' q4'
     go_wp2_with (refine wpList_appS rfl _ _ _ rfl 25 4 40 _ Tryz.underlying23 infoRR rfl (by decide) (.slice (some ⟨g7,0,none⟩) (k+1) c7) (k+1) (rows (k+1) cs9) rfl H9.out.1 _ (l.drop k).length _ rfl H8.out.1 (rows_one4 H8.out.2.2) (by have:=HK2.out;rw [HL9.out];unfold maxLen;omega) (by have:=HK2.out;rw [HL9.out];omega) ?_;intro a8 c8 w8 o8 u8 k8)
     go_ret
     rw [HPP.out]
     refine ⟨.slice a8 (k+1+(l.drop k).length) c8,(by rw [HL9.out];rfl),?_,?_,?_⟩
     ·have:=OwR.pushL (v:=.slice (some ⟨g7,0,none⟩) (k+1) c7) (w:=w7) (w':=w8) H9.out.2.1 H8.out.2.1 (fun b hb=>by have:=HM.out b hb;have:=HXU.out.size;have:=HO7.out.2.1.size;have:=HPB.out;omega) H9.out.2.2.1 HL8.out.symm rfl H9.out.2.2.2 H8.out.2.2 o8 u8 (k8.imp id fun h=>⟨_,h,Nat.le_refl _⟩)
      simpa using this
     ·exact (HXU.out.step HO7.out.2.1).fresh u8 (fun b hb=>by
       simp [Value.ownBlock] at hb
       subst hb
       have:=HO7.out.2.2
       have:=HXU.out.size
       have:=HPB.out
       right;omega)
     ·right
      intro q hq
      rcases k8 with k8|k8
      ·rw [k8] at hq
       simp [Value.ownBlock] at hq
       have:=HO7.out.2.2
       have:=HXU.out.size
       have:=HPB.out
       omega
      ·rw [k8] at hq
       simp at hq
       have:=HO7.out.2.1.size
       have:=HXU.out.size
       have:=HPB.out
       omega
end
end Rgx
end Go.Proofs.YtjclbjdkkdijbaaGreat
end
section
open Go.RowKit
namespace Go.Proofs.YtjclbjdkkdijbaaGreat
open L
namespace Rgx
open Rx
section
variable {w w':World} {v:Value} {M:List Nat}
theorem ret_rr {M:List Nat} {w0:World} {fn:Func} {a:Act} {p:Tmp} {rb:Nat} {cs:List Value} {r:Rx} (h:fn.results=#[.cell p 25]) (hp:a.tmps.getD p undef=.pointer (some ⟨rb,0,none⟩)) (hB:Blk w rb cs 25) (hdf:a.defers=[]) (hv:RxF M w r cs) (hu:Upd [] w0 w) :
 bodyPost Tryz.prog fn (fun e w'=>∃ v',e=.returned v'∧RxV M w' r v'∧Upd [] w0 w') .ret a w:=by
 have hl:(Tryz.prog.info? 25).map (·.size)=some cs.length:=by rw [hv.len];kernel_rfl
 exact bodyPost_ret (results_cell_row h a.tmps w rb 25 cs.toArray (0,0) (.struct _) hp hB Tryz.underlying25 rfl (by simpa using hl)) hdf ⟨_,rfl,⟨cs,rfl,hv⟩,hu⟩
theorem ret_rr2 {M:List Nat} {w0:World} {fn:Func} {a:Act} {p q:Tmp} {rb:Nat} {cs:List Value} {r:Rx} {n:Int} (h:fn.results=#[.cell p 25,.tmp q]) (hp:a.tmps.getD p undef=.pointer (some ⟨rb,0,none⟩)) (hq:a.tmps.getD q undef=.int .i64 n) (hB:Blk w rb cs 25) (hdf:a.defers=[]) (hv:RxF M w r cs) (hu:Upd [] w0 w) :
 bodyPost Tryz.prog fn (fun e w'=>∃ v',e=.returned (.tuple #[v',.int .i64 n])∧RxV M w' r v'∧Upd [] w0 w') .ret a w:=by
 have hl:(Tryz.prog.info? 25).map (·.size)=some cs.length:=by rw [hv.len];kernel_rfl
 refine bodyPost_ret (v:=.tuple #[.agg cs.toArray,.int .i64 n]) ?_ hdf ⟨_,rfl,⟨cs,rfl,hv⟩,hu⟩
 rw [results_cell_tmp h,hp]
 have h2:=run_loadVar_row (P:=Tryz.prog) w rb 25 25 cs.toArray (0,0) (.struct _) hB Tryz.underlying25 rfl (by simpa using hl)
 simp [asAddr,h2,Result.andThen,hq]
theorem RxL.one {r:Rx} {g:Nat} {cs:List Value} {e:TypeId} (hb:Blk w g cs e) (h:RxF M w r cs) (hg:g ∉ M):RxL M w [r] (.slice (some ⟨g,0,none⟩) 1 1):=by
 refine ⟨fun _=>cs,?_,fun _=>h.len,fun g' _ hg' hm=>?_,fun i x hx=>?_⟩
 ·have hc:=h.len
  have:=SL.of_blk (k:=4) (n:=1) (cap:=1) (xs:=cs) (pad:=[]) (b:=g) (e:=e) (by simpa using hb) (by simpa using hc) (Nat.le_refl _) (by unfold maxLen;omega)
  simpa [rows] using this
 ·simp [Value.ownBlock] at hg';subst hg';exact hg hm
 ·cases i with
  | zero=>simp at hx;subst hx;exact h
  | succ i=>simp at hx
set_option maxRecDepth 100000 in
set_option maxHeartbeats 8000000 in
theorem everything_calls (hM:∀ b∈M,b<w.heap.size):Calls Tryz.prog 153 #[] w fun e w'=>∃ v',e=.returned v'∧RxV M w' rAll v'∧Upd [] w w':=by
 have HM:=Lib.hid hM
 clear hM
 go_enter Tryz.func153,Tryz.ntmps153
 go_upto_region 1 with fail
 have bR:=Blk.new w [.int .i64 0,.int .u8 0,.int .u8 0,.slice none 0 0] 25
 have uR:=(Upd.refl [] w).alloc (.cells #[.int .i64 0,.int .u8 0,.int .u8 0,.slice none 0 0] 25)
 change Code.wp _ _ _ _ (w.alloc (.cells #[.int .i64 0,.int .u8 0,.int .u8 0,.slice none 0 0] 25))
 change Blk (w.alloc (.cells #[.int .i64 0,.int .u8 0,.int .u8 0,.slice none 0 0] 25)) _ _ _ at bR
 generalize (w.alloc (.cells #[.int .i64 0,.int .u8 0,.int .u8 0,.slice none 0 0] 25))=w1 at *
 have r0:=bR.cell (i:=0) rfl
 have r1:=bR.cell (i:=1) rfl
 have r2:=bR.cell (i:=2) rfl
 have r3:=bR.cell (i:=3) rfl
 have rf:∀ q,w1.frozen? ⟨w.heap.size,q,none⟩=false:=bR.free
 have HR:=Lib.hid (And.intro bR uR)
 clear bR uR
 generalize hrb:w.heap.size=rb at *
 have HRB:=Lib.hid hrb
 clear hrb
 go_upto_region 1 with fail
 refine wp_region_lit ?_
 refine wpList_cutH 2 (fun K hK=>?_)
 simp only [List.take_succ_cons,List.take_zero]
 go_wp2_with fail
 refine Halt_.intro ?_;try simp only [List.drop_succ_cons,List.drop_zero]
 have bB:=Blk.new w1 (rxC 0 0 0 (.slice none 0 0)) 25
 have uB:=(Upd.refl [] w1).alloc (.cells #[.int .i64 0,.int .u8 0,.int .u8 0,.slice none 0 0] 25)
 change Blk (w1.alloc (.cells #[.int .i64 0,.int .u8 0,.int .u8 0,.slice none 0 0] 25)) _ _ _ at bB
 generalize (w1.alloc (.cells #[.int .i64 0,.int .u8 0,.int .u8 0,.slice none 0 0] 25))=w2 at *
 have hgz:=HR.out.1.lt
 generalize w1.heap.size=gb at *
 have bR:=HR.out.1.upd uB (by simp)
 have r0:=uB.some r0 (by simp)
 have r1:=uB.some r1 (by simp)
 have r2:=uB.some r2 (by simp)
 have r3:=uB.some r3 (by simp)
 have rf:∀ q,w2.frozen? ⟨rb,q,none⟩=false:=bR.free
 have HB:=Lib.hid (And.intro bB (And.intro bR (And.intro (HR.out.2.step uB) hgz)))
 clear bB uB bR hgz
 go_wp2_with fail
 have hs:=box_set (a:=.int .i64 6) (b:=.int .u8 0) (c:=.int .u8 0) (d:=.slice (some ⟨gb,0,none⟩) 1 1) HB.out.2.1
 refine ret_rr (r:=rAll) rfl rfl hs.1 rfl (RxF.iff.2 ⟨_,rfl,⟨by unfold IsI64;omega,by omega,by omega⟩,?_⟩) (HB.out.2.2.1.fresh hs.2 (fun b hb=>.inr (by simp at hb;subst hb;have:=HRB.out;omega)))
 have hgb:=HB.out.2.2.2
 refine RxL.one (cs:=rxC 0 0 0 (.slice none 0 0)) (HB.out.1.upd hs.2 (by simp;omega)) rNone_F (fun hm=>?_)
 have:=HM.out gb hm
 omega
end
end Rgx
end Go.Proofs.YtjclbjdkkdijbaaGreat
end
section
open Go.RowKit
namespace Go.Proofs.YtjclbjdkkdijbaaGreat
open L
namespace Rgx
open Rx
section
variable {w w':World} {v:Value} {M:List Nat}
set_option maxRecDepth 100000 in
set_option maxHeartbeats 8000000 in
theorem rnormal6_calls {x:Rx} (hL:RxL M w [x] v) (hM:∀ b∈M,b<w.heap.size) (hy:x.kind=6→∃ y,x.kids=[y]) :
 Calls Tryz.prog 130 #[.int .i64 6,v] w fun e w'=>∃ v',e=.returned v'∧RxV M w' (form (nd 6 0 0 [x])) v'∧Upd [] w w':=by
 obtain ⟨av,cv,rfl,_,_,_⟩:=id hL.form
 have HL:=Lib.hid hL
 have HY:=Lib.hid hy
 clear hL hy
 change Calls _ _ #[_,.slice av 1 cv] _ _
 have HM:=Lib.hid hM
 clear hM
 go_enter Tryz.func130,Tryz.ntmps130
 go_upto_region 1 with fail
 have bR:=Blk.new w [.int .i64 0,.int .u8 0,.int .u8 0,.slice none 0 0] 25
 have uR:=(Upd.refl [] w).alloc (.cells #[.int .i64 0,.int .u8 0,.int .u8 0,.slice none 0 0] 25)
 change Code.wp _ _ _ _ (w.alloc (.cells #[.int .i64 0,.int .u8 0,.int .u8 0,.slice none 0 0] 25))
 change Blk (w.alloc (.cells #[.int .i64 0,.int .u8 0,.int .u8 0,.slice none 0 0] 25)) _ _ _ at bR
 generalize (w.alloc (.cells #[.int .i64 0,.int .u8 0,.int .u8 0,.slice none 0 0] 25))=w1 at *
 generalize hrb:w.heap.size=rb at *
 have HE:=Lib.hid (everything_calls (M:=rb::M) (w:=w1) (fun b hb=>by
  rcases List.mem_cons.1 hb with rfl|hb
  ·exact bR.lt
  ·have:=HM.out b hb;have:=bR.lt;omega))
 have HR:=Lib.hid (And.intro bR (And.intro uR hrb))
 clear bR uR hrb
 go_upto_region 2 with ((with_reducible refine HE.out.mono ?_);rintro e w2 ⟨v2,rfl,o2,u2⟩;obtain ⟨a2,c2,rfl,hF2,_,_⟩:=o2.shape)
 have uA:=(Upd.refl [] w2).alloc (.cells (rxC rAll.kind rAll.lo rAll.hi (.slice a2 rAll.kids.length c2)).toArray 25)
 have bA:Box 25 (rb::M) (w2.alloc (.cells (rxC rAll.kind rAll.lo rAll.hi (.slice a2 rAll.kids.length c2)).toArray 25)) w2.heap.size rAll:=Box.new hF2 (fun b hb=>by
  have:=u2.size
  rcases List.mem_cons.1 hb with rfl|hb
  ·have:=HR.out.1.lt;omega
  ·have:=HM.out b hb;have:=HR.out.1.lt;omega)
 change Code.wp _ _ _ _ (w2.alloc (.cells (rxC rAll.kind rAll.lo rAll.hi (.slice a2 rAll.kids.length c2)).toArray 25))
 have hza:w2.heap.size<(w2.alloc (.cells (rxC rAll.kind rAll.lo rAll.hi (.slice a2 rAll.kids.length c2)).toArray 25)).heap.size:=by simp
 generalize (w2.alloc (.cells (rxC rAll.kind rAll.lo rAll.hi (.slice a2 rAll.kids.length c2)).toArray 25))=w3 at *
 have hsz2:=u2.size
 generalize w2.heap.size=ab at *
 have bR:=(HR.out.1.upd u2 (by simp)).upd uA (by simp)
 have HX:=Lib.hid (And.intro bR (And.intro ((HR.out.2.1.step u2).step uA) (And.intro bA (And.intro HR.out.2.2 (And.intro hza (show rb<ab by have:=HR.out.1.lt;omega))))))
 clear bR uA bA hza u2 hF2 o2 hsz2 HE HR
 have hL3:RxL (rb::M) w3 [x] (.slice av 1 cv):=(HL.out.sub (M':=rb::M) (fun b hb=>by
  rcases List.mem_cons.1 hb with rfl|hb
  ·right;rw [HX.out.2.2.2.1];exact Nat.le_refl _
  ·exact .inl hb)).ext HX.out.2.1
 obtain ⟨g,off,ax,cx,rfl,hFx,e0,e1,e2,e3⟩:=hL3.kid (i:=0) (r:=x) rfl
 rw [Nat.zero_mul,Nat.add_zero] at e0 e1 e2 e3
 have HLX:=Lib.hid (And.intro hFx hL3)
 clear hFx hL3
 have r0:=HX.out.1.cell (i:=0) rfl
 have r1:=HX.out.1.cell (i:=1) rfl
 have r2:=HX.out.1.cell (i:=2) rfl
 have r3:=HX.out.1.cell (i:=3) rfl
 have rf:∀ q,w3.frozen? ⟨rb,q,none⟩=false:=HX.out.1.free
 by_cases h6:x.kind=6
 ·obtain ⟨y,hy⟩:=HY.out h6
  have hb6:(x.kind == 6)=true:=by simpa using h6
  have HE:=Lib.hid (show form (nd 6 0 0 [x])=y from by rw [form6,if_pos h6,hy];rfl)
  have hLx:RxL (rb::M) w3 [y] (.slice ax x.kids.length cx):=by
   have:=HLX.out.1
   obtain ⟨k,lo,hi,l⟩:=x
   simp only [Rx.kids] at hy
   subst hy
   obtain ⟨vk,hvk,_,h⟩:=RxF.iff.1 this
   simp only [rxC,List.cons.injEq,and_true] at hvk
   rw [hvk.2.2.2];exact h
  rw [show x.kids.length=1 by rw [hy];rfl] at hLx e3
  obtain ⟨g2,off2,ay,cy,rfl,hFy,f0,f1,f2,f3⟩:=hLx.kid (i:=0) (r:=y) rfl
  rw [Nat.zero_mul,Nat.add_zero] at f0 f1 f2 f3
  have HFY:=Lib.hid hFy
  clear hLx hFy h6 hy
  go_wp2_with fail
  have hs:=box_set (a:=.int .i64 y.kind) (b:=.int .u8 y.lo) (c:=.int .u8 y.hi) (d:=.slice ay y.kids.length cy) HX.out.1
  rw [HE.out]
  exact ret_rr rfl rfl hs.1 rfl ((HFY.out.upd hs.2 (by simp)).sub (fun b hb=>.inl (by simp [hb]))) (HX.out.2.1.fresh hs.2 (fun b hb=>.inr (by simp at hb;subst hb;have:=HX.out.2.2.2.1;omega)))
 ·have hb6:(x.kind == 6)=false:=by simpa using h6
  have HE:=Lib.hid (show form (nd 6 0 0 [x])=nd 6 0 0 [x] from by rw [form6,if_neg h6])
  clear h6
  go_wp2_with fail
  have hs:=box_set (a:=.int .i64 6) (b:=.int .u8 0) (c:=.int .u8 0) (d:=.slice (some ⟨g,off,none⟩) 1 cv) HX.out.1
  rw [HE.out]
  exact ret_rr (r:=nd 6 0 0 [x]) rfl rfl hs.1 rfl (RxF.sub (RxF.iff.2 ⟨_,rfl,⟨by unfold IsI64;omega,by omega,by omega⟩,HLX.out.2.upd hs.2 (by simp)⟩) (fun b hb=>.inl (by simp [hb]))) (HX.out.2.1.fresh hs.2 (fun b hb=>.inr (by simp at hb;subst hb;have:=HX.out.2.2.2.1;omega)))
set_option maxRecDepth 100000 in
set_option maxHeartbeats 8000000 in
theorem rnormal7_calls {x:Rx} (hL:RxL M w [x] v) (hM:∀ b∈M,b<w.heap.size) (h0:0≤x.kind) :
 Calls Tryz.prog 130 #[.int .i64 7,v] w fun e w'=>∃ v',e=.returned v'∧RxV M w' (form (nd 7 0 0 [x])) v'∧Upd [] w w':=by
 obtain ⟨av,cv,rfl,_,_,_⟩:=id hL.form
 have HL:=Lib.hid hL
 have HY:=Lib.hid h0
 clear hL h0
 change Calls _ _ #[_,.slice av 1 cv] _ _
 have HM:=Lib.hid hM
 clear hM
 go_enter Tryz.func130,Tryz.ntmps130
 go_upto_region 1 with fail
 have bR:=Blk.new w [.int .i64 0,.int .u8 0,.int .u8 0,.slice none 0 0] 25
 have uR:=(Upd.refl [] w).alloc (.cells #[.int .i64 0,.int .u8 0,.int .u8 0,.slice none 0 0] 25)
 change Code.wp _ _ _ _ (w.alloc (.cells #[.int .i64 0,.int .u8 0,.int .u8 0,.slice none 0 0] 25))
 change Blk (w.alloc (.cells #[.int .i64 0,.int .u8 0,.int .u8 0,.slice none 0 0] 25)) _ _ _ at bR
 generalize (w.alloc (.cells #[.int .i64 0,.int .u8 0,.int .u8 0,.slice none 0 0] 25))=w1 at *
 generalize hrb:w.heap.size=rb at *
 have HE:=Lib.hid (everything_calls (M:=rb::M) (w:=w1) (fun b hb=>by
  rcases List.mem_cons.1 hb with rfl|hb
  ·exact bR.lt
  ·have:=HM.out b hb;have:=bR.lt;omega))
 have HR:=Lib.hid (And.intro bR (And.intro uR hrb))
 clear bR uR hrb
 go_upto_region 2 with ((with_reducible refine HE.out.mono ?_);rintro e w2 ⟨v2,rfl,o2,u2⟩;obtain ⟨a2,c2,rfl,hF2,_,_⟩:=o2.shape)
 have uA:=(Upd.refl [] w2).alloc (.cells (rxC rAll.kind rAll.lo rAll.hi (.slice a2 rAll.kids.length c2)).toArray 25)
 have bA:Box 25 (rb::M) (w2.alloc (.cells (rxC rAll.kind rAll.lo rAll.hi (.slice a2 rAll.kids.length c2)).toArray 25)) w2.heap.size rAll:=Box.new hF2 (fun b hb=>by
  have:=u2.size
  rcases List.mem_cons.1 hb with rfl|hb
  ·have:=HR.out.1.lt;omega
  ·have:=HM.out b hb;have:=HR.out.1.lt;omega)
 change Code.wp _ _ _ _ (w2.alloc (.cells (rxC rAll.kind rAll.lo rAll.hi (.slice a2 rAll.kids.length c2)).toArray 25))
 have hza:w2.heap.size<(w2.alloc (.cells (rxC rAll.kind rAll.lo rAll.hi (.slice a2 rAll.kids.length c2)).toArray 25)).heap.size:=by simp
 generalize (w2.alloc (.cells (rxC rAll.kind rAll.lo rAll.hi (.slice a2 rAll.kids.length c2)).toArray 25))=w3 at *
 have hsz2:=u2.size
 generalize w2.heap.size=ab at *
 have bR:=(HR.out.1.upd u2 (by simp)).upd uA (by simp)
 have HX:=Lib.hid (And.intro bR (And.intro ((HR.out.2.1.step u2).step uA) (And.intro bA (And.intro HR.out.2.2 (And.intro hza (show rb<ab by have:=HR.out.1.lt;omega))))))
 clear bR uA bA hza u2 hF2 o2 hsz2 HE HR
 have hL3:RxL (rb::M) w3 [x] (.slice av 1 cv):=(HL.out.sub (M':=rb::M) (fun b hb=>by
  rcases List.mem_cons.1 hb with rfl|hb
  ·right;rw [HX.out.2.2.2.1];exact Nat.le_refl _
  ·exact .inl hb)).ext HX.out.2.1
 obtain ⟨g,off,ax,cx,rfl,hFx,e0,e1,e2,e3⟩:=hL3.kid (i:=0) (r:=x) rfl
 rw [Nat.zero_mul,Nat.add_zero] at e0 e1 e2 e3
 have HLX:=Lib.hid (And.intro hFx hL3)
 clear hFx hL3
 have r0:=HX.out.1.cell (i:=0) rfl
 have r1:=HX.out.1.cell (i:=1) rfl
 have r2:=HX.out.1.cell (i:=2) rfl
 have r3:=HX.out.1.cell (i:=3) rfl
 have rf:∀ q,w3.frozen? ⟨rb,q,none⟩=false:=HX.out.1.free
 by_cases h2:x.kind<2
 ·have HE:=Lib.hid (show form (nd 7 0 0 [x])=rEmpty from by rw [form7,if_pos (by have:=HY.out;omega)])
  go_wp2_with fail
  have hs:=box_set (a:=.int .i64 1) (b:=.int .u8 0) (c:=.int .u8 0) (d:=.slice none 0 0) HX.out.1
  rw [HE.out]
  exact ret_rr (r:=rEmpty) rfl rfl hs.1 rfl (RxF.iff.2 ⟨_,rfl,⟨by unfold IsI64;omega,by omega,by omega⟩,RxL.nil0⟩) (HX.out.2.1.fresh hs.2 (fun b hb=>.inr (by simp at hb;subst hb;have:=HX.out.2.2.2.1;omega)))
 ·have HF2:=Lib.hid h2
  obtain ⟨aa,ca,hBA,hFA,_⟩:=HX.out.2.2.1
  have l0:=hBA.cell (i:=0) rfl
  have l1:=hBA.cell (i:=1) rfl
  have l2:=hBA.cell (i:=2) rfl
  have l3:=hBA.cell (i:=3) rfl
  have HCC:=Lib.hid (fun (w':World) (u:Upd [] w3 w')=>rcmp_calls x rAll ((RxF.sub (M':=[]) HLX.out.1 (by simp)).ext u).val ((RxF.sub (M':=[]) hFA (by simp)).ext u).val)
  clear hBA hFA
  have hd2:decide (x.kind<2)=false:=by simpa using h2
  have HXX:=Lib.hid (show ∀ (y:Rx) (ay:Option Addr) (cy:Nat) (wq:World),Upd [] w3 wq→RxF (rb::M) w3 y (rxC y.kind y.lo y.hi (.slice ay y.kids.length cy))→Blk wq rb [.int .i64 0,.int .u8 0,.int .u8 0,.slice none 0 0] 25 from fun _ _ _ wq u _=>HX.out.1.upd u (by simp))
  by_cases hc:x.kind=7∨x=rAll
  ·have HE:=Lib.hid (show form (nd 7 0 0 [x])=x from by rw [form7,if_neg (by omega),if_pos hc])
   go_upto_region 9 with fail
   go_cut [48] (fun t w'=>t=.bool true∧Upd [] w3 w')
   case first=>
    by_cases h7:x.kind=7
    ·have hb7:(x.kind == 7)=true:=by simpa using h7
     clear h7 hc
     refine wp_region_qx (by kernel_rfl) (by kernel_rfl) ?_
     repeat (go_big_quiet_step ((fail)))
     refine wpQuiet_nil ?_
     intro x
     go_wp2_with fail
     go_meet
     case rel=>exact ⟨rfl,x.upd⟩
    ·have hb7:(x.kind == 7)=false:=by simpa using h7
     have hz:cmpR x rAll=0:=by rw [hc.resolve_left h7];exact cmpR_self _
     rw [hz] at HCC
     clear h7 hc hz
     refine wp_region_qx (by kernel_rfl) (by kernel_rfl) ?_
     repeat (go_big_quiet_step (((go_at_call 95;exact qx (HCC.out _ (Ext.upd _))))))
     refine wpQuiet_nil ?_
     intro x
     go_wp2_with fail
     go_meet
     case rel=>exact ⟨rfl,x.upd⟩
   case rest=>
   obtain ⟨rfl,u4⟩:=hcut
   have HB4:=Lib.hid (And.intro (HX.out.1.upd u4 (by simp)) (And.intro (HX.out.2.1.step u4) (HLX.out.1.ext u4)))
   have r0:=HB4.out.1.cell (i:=0) rfl
   have r1:=HB4.out.1.cell (i:=1) rfl
   have r2:=HB4.out.1.cell (i:=2) rfl
   have r3:=HB4.out.1.cell (i:=3) rfl
   have rf:∀ q,wc.frozen? ⟨rb,q,none⟩=false:=HB4.out.1.free
   have e0:=u4.some e0 (by simp)
   have e1:=u4.some e1 (by simp)
   have e2:=u4.some e2 (by simp)
   have e3:=u4.some e3 (by simp)
   clear u4 l0 l1 l2 l3 hc
   go_wp2_with fail
   have hs:=box_set (a:=.int .i64 x.kind) (b:=.int .u8 x.lo) (c:=.int .u8 x.hi) (d:=.slice ax x.kids.length cx) HB4.out.1
   rw [HE.out]
   exact ret_rr rfl rfl hs.1 rfl ((HB4.out.2.2.upd hs.2 (by simp)).sub (fun b hb=>.inl (by simp [hb]))) (HB4.out.2.1.fresh hs.2 (fun b hb=>.inr (by simp at hb;subst hb;have:=HX.out.2.2.2.1;omega)))
  ·have HE:=Lib.hid (show form (nd 7 0 0 [x])=nd 7 0 0 [x] from by rw [form7,if_neg (by omega),if_neg hc])
   have hb7:(x.kind == 7)=false:=by simp;exact fun h=>hc (.inl h)
   have hz:(cmpR x rAll == 0)=false:=by simp [cmpR_zero];exact fun h=>hc (.inr h)
   generalize cmpR x rAll=z at *
   go_upto_region 9 with fail
   go_cut [48] (fun t w'=>t=.bool false∧Upd [] w3 w')
   case first=>
    clear hc
    refine wp_region_qx (by kernel_rfl) (by kernel_rfl) ?_
    repeat (go_big_quiet_step (((go_at_call 95;exact qx (HCC.out _ (Ext.upd _))))))
    refine wpQuiet_nil ?_
    intro x
    go_wp2_with fail
    go_meet
    case rel=>exact ⟨rfl,x.upd⟩
   case rest=>
   obtain ⟨rfl,u4⟩:=hcut
   have HB4:=Lib.hid (And.intro (HX.out.1.upd u4 (by simp)) (And.intro (HX.out.2.1.step u4) (HLX.out.2.ext u4)))
   have r0:=HB4.out.1.cell (i:=0) rfl
   have r1:=HB4.out.1.cell (i:=1) rfl
   have r2:=HB4.out.1.cell (i:=2) rfl
   have r3:=HB4.out.1.cell (i:=3) rfl
   have rf:∀ q,wc.frozen? ⟨rb,q,none⟩=false:=HB4.out.1.free
   clear u4 l0 l1 l2 l3 e0 e1 e2 e3 hc
   go_wp2_with fail
   have hs:=box_set (a:=.int .i64 7) (b:=.int .u8 0) (c:=.int .u8 0) (d:=.slice (some ⟨g,off,none⟩) 1 cv) HB4.out.1
   rw [HE.out]
   exact ret_rr (r:=nd 7 0 0 [x]) rfl rfl hs.1 rfl (RxF.sub (RxF.iff.2 ⟨_,rfl,⟨by unfold IsI64;omega,by omega,by omega⟩,HB4.out.2.2.upd hs.2 (by simp)⟩) (fun b hb=>.inl (by simp [hb]))) (HB4.out.2.1.fresh hs.2 (fun b hb=>.inr (by simp at hb;subst hb;have:=HX.out.2.2.2.1;omega)))
end
end Rgx
end Go.Proofs.YtjclbjdkkdijbaaGreat
end
section
open Go.RowKit
namespace Go.Proofs.YtjclbjdkkdijbaaGreat
open L
namespace Rgx
open Rx
attribute [-go_sem] sliced
def unitOf (k:Int):Rx:=if k=3 then rEmpty else if k=4 then rNone else rAll
def zeroOf (k:Int):Rx:=if k=3 then rNone else if k=4 then rAll else rNone
def stepR (k:Int) (acc:List Rx) (x:Rx):List Rx:=if x=unitOf k then acc else if k=3 then acc++[x] else putR acc x
def accR (k:Int) (l:List Rx):List Rx:=l.foldl (stepR k) []
theorem accR_succ {k:Int} {l:List Rx} {m:Nat} {x:Rx} (h:l[m]?=some x):accR k (l.take (m+1))=stepR k (accR k (l.take m)) x:=by
 unfold accR
 rw [List.take_add_one,h,List.foldl_append]
 rfl
theorem accR_fold (k:Int):∀ (l acc:List Rx),l.foldl (stepR k) acc=if k=3 then acc++without (unitOf k) l else (without (unitOf k) l).foldl putR acc
 | [],acc=>by simp [without]
 | x::l,acc=>by
  rw [List.foldl_cons,accR_fold k l]
  unfold stepR without
  by_cases hx:x=unitOf k
  ·simp [hx]
  ·by_cases hk:k=3
   ·simp [hk,hx] at *
    simp [hx]
   ·simp [hk,hx]
theorem accR_eq (k:Int) (l:List Rx):accR k l=if k=3 then without (unitOf k) l else sortR (without (unitOf k) l):=by
 unfold accR
 rw [accR_fold]
 split
 ·simp
 ·rfl
theorem stepR_len (k:Int) (acc:List Rx) (x:Rx):(stepR k acc x).length≤acc.length+1:=by
 unfold stepR
 split
 ·omega
 ·split
  ·simp
  ·exact putR_length _ _
theorem accR_len (k:Int):∀ (l acc:List Rx),(l.foldl (stepR k) acc).length≤acc.length+l.length
 | [],acc=>by simp
 | x::l,acc=>by
  rw [List.foldl_cons,List.length_cons]
  have:=accR_len k l (stepR k acc x)
  have:=stepR_len k acc x
  omega
theorem zero_ne_unit {k:Int} (hk:k=3∨k=4∨k=5):zeroOf k≠unitOf k:=by rcases hk with rfl|rfl|rfl <;> decide
theorem form_join {k:Int} (hk:k=3∨k=4∨k=5) (ks:List Rx):form (nd k 0 0 ks)=if zeroOf k∈flat k ks then zeroOf k else pickE k (unitOf k) (accR k (flat k ks)):=by
 have h1:form (nd k 0 0 ks)=joinE k (unitOf k) (zeroOf k) ks:=by rcases hk with rfl|rfl|rfl <;> rfl
 rw [h1,joinE_pick,accR_eq]
 have h2:(zeroOf k∈without (unitOf k) (flat k ks))↔zeroOf k∈flat k ks:=by
  unfold without
  rw [List.mem_filter]
  simp [zero_ne_unit hk]
 by_cases h:zeroOf k∈flat k ks
 ·rw [if_pos h,if_pos (h2.2 h)]
 ·rw [if_neg h,if_neg (fun h'=>h (h2.1 h'))]
section
variable {w w':World} {v:Value} {M:List Nat}
theorem Box.nil {k:Int} {e:TypeId} (hk:IsI64 k) (hM:∀ b∈M,b<w.heap.size):Box e M (w.alloc (.cells #[.int .i64 k,.int .u8 0,.int .u8 0,.slice none 0 0] e)) w.heap.size (nd k 0 0 []):=
 ⟨none,0,Blk.new w _ e,RxF.iff.2 ⟨_,rfl,⟨hk,by omega,by omega⟩,RxL.nil0⟩,fun hm=>by have:=hM _ hm;omega⟩
set_option maxRecDepth 100000 in
set_option maxHeartbeats 16000000 in
theorem rnormalJ_calls {k:Int} {ks:List Rx} (hk:k=3∨k=4∨k=5) (hL:RxL M w ks v) (hM:∀ b∈M,b<w.heap.size) (hn:nodesL ks≤1000000) :
 Calls Tryz.prog 130 #[.int .i64 k,v] w fun e w'=>∃ v',e=.returned v'∧RxV M w' (form (nd k 0 0 ks)) v'∧Upd [] w w':=by
 obtain ⟨av,cv,rfl,q1,q2,_⟩:=id hL.form
 have HL:=Lib.hid hL
 have HN:=Lib.hid (And.intro hn (form_join hk ks))
 have hk6:(k == 6)=false:=by simp;omega
 have hk7:(k == 7)=false:=by simp;omega
 have HK:=Lib.hid hk
 clear hL hn hk
 have HM:=Lib.hid hM
 clear hM
 go_enter Tryz.func130,Tryz.ntmps130
 go_upto_region 1 with fail
 have bR:=Blk.new w [.int .i64 0,.int .u8 0,.int .u8 0,.slice none 0 0] 25
 have uR:=(Upd.refl [] w).alloc (.cells #[.int .i64 0,.int .u8 0,.int .u8 0,.slice none 0 0] 25)
 change Code.wp _ _ _ _ (w.alloc (.cells #[.int .i64 0,.int .u8 0,.int .u8 0,.slice none 0 0] 25))
 change Blk (w.alloc (.cells #[.int .i64 0,.int .u8 0,.int .u8 0,.slice none 0 0] 25)) _ _ _ at bR
 generalize (w.alloc (.cells #[.int .i64 0,.int .u8 0,.int .u8 0,.slice none 0 0] 25))=w1 at *
 generalize hrb:w.heap.size=rb at *
 have HE:=Lib.hid (everything_calls (M:=rb::M) (w:=w1) (fun b hb=>by
  rcases List.mem_cons.1 hb with rfl|hb
  ·exact bR.lt
  ·have:=HM.out b hb;have:=bR.lt;omega))
 have HR:=Lib.hid (And.intro bR (And.intro uR hrb))
 clear bR uR hrb
 go_upto_region 2 with ((with_reducible refine HE.out.mono ?_);rintro e w2 ⟨v2,rfl,o2,u2⟩;obtain ⟨a2,c2,rfl,hF2,_,_⟩:=o2.shape)
 have uA:=(Upd.refl [] w2).alloc (.cells (rxC rAll.kind rAll.lo rAll.hi (.slice a2 rAll.kids.length c2)).toArray 25)
 have bA:Box 25 (rb::M) (w2.alloc (.cells (rxC rAll.kind rAll.lo rAll.hi (.slice a2 rAll.kids.length c2)).toArray 25)) w2.heap.size rAll:=Box.new hF2 (fun b hb=>by
  have:=u2.size
  rcases List.mem_cons.1 hb with rfl|hb
  ·have:=HR.out.1.lt;omega
  ·have:=HM.out b hb;have:=HR.out.1.lt;omega)
 change Code.wp _ _ _ _ (w2.alloc (.cells (rxC rAll.kind rAll.lo rAll.hi (.slice a2 rAll.kids.length c2)).toArray 25))
 have hza:w2.heap.size<(w2.alloc (.cells (rxC rAll.kind rAll.lo rAll.hi (.slice a2 rAll.kids.length c2)).toArray 25)).heap.size:=by simp
 generalize (w2.alloc (.cells (rxC rAll.kind rAll.lo rAll.hi (.slice a2 rAll.kids.length c2)).toArray 25))=w3 at *
 have hsz2:=u2.size
 generalize w2.heap.size=ab at *
 have bR:=(HR.out.1.upd u2 (by simp)).upd uA (by simp)
 have HX:=Lib.hid (And.intro bR (And.intro ((HR.out.2.1.step u2).step uA) (And.intro bA (And.intro HR.out.2.2 (And.intro hza (show rb<ab by have:=HR.out.1.lt;omega))))))
 clear bR uA bA hza u2 hF2 o2 hsz2 HE HR
 have hMM:∀ b∈rb::M,b<w3.heap.size:=fun b hb=>by
  rcases List.mem_cons.1 hb with rfl|hb
  ·have:=HX.out.1.lt;omega
  ·have:=HM.out b hb;have:=HX.out.2.1.size;have:=HX.out.2.2.2.1;omega
 have hL3:RxL (rb::M) w3 ks (.slice av ks.length cv):=(HL.out.sub (M':=rb::M) (fun b hb=>by
  rcases List.mem_cons.1 hb with rfl|hb
  ·right;rw [HX.out.2.2.2.1];exact Nat.le_refl _
  ·exact .inl hb)).ext HX.out.2.1
 have HLL:=Lib.hid (And.intro hMM hL3)
 clear hMM hL3
 go_wp2_with fail
 go_loopw [6,7] (fun fv iv wr=>∃ (m:Nat) (acc:Value),iv=.int .i64 m∧acc=fv∧m≤ks.length∧Hid (OwR 25 (rb::M) wr acc (flat k (ks.take m))∧(∀ q,acc.ownBlock=some q→w3.heap.size≤q)∧Upd [] w3 wr)) (fun _ iv _=>ks.length - (intOf iv).toNat)
 case atStart=>exact ⟨0,_,rfl,rfl,Nat.zero_le _,Lib.hid ⟨OwR.nil0,fun q hq=>by simp [Value.ownBlock] at hq,Upd.refl _ _⟩⟩
 case round=>
  obtain ⟨m,acc,rfl,rfl,hm,HO⟩:=hrel
  by_cases hlt:m<ks.length
  ·have hli:(m:Int)<ks.length:=by omega
   have hr:=List.getElem?_eq_getElem hlt
   have hlen:=flat_len k (ks.take m)
   have hlen2:=nodesL_take_succ hr
   have hlen3:=nodesL_take (m+1) ks
   have hflat:=flat_take (k:=k) hr
   generalize ks[m]=s at *
   have HLEN:=Lib.hid (show (flat k (ks.take m)).length≤1000000∧s.kids.length≤1000000 from by
    have:=HN.out.1
    have h5:s.kids.length≤nodes s:=by obtain ⟨k,lo,hi,l⟩:=s;rw [nodes];simp only [Rx.kids];have:=nodesL_len l;omega
    omega)
   obtain ⟨g,off,a3,c3,rfl,hRF,e0,e1,e2,e3⟩:=((HLL.out.2.sub (M':=(rb::M)++acc.ownBlock.toList) (fun b hb=>by
    rcases List.mem_append.1 hb with hb|hb
    ·exact .inl hb
    ·right;exact HO.out.2.1 b (Option.mem_toList.1 hb))).ext HO.out.2.2).kid hr
   have HR:=Lib.hid (And.intro hRF (And.intro hflat hr))
   clear hRF hr hlen hlen2 hlen3 hflat
   obtain ⟨css,o1,o2,o3,o4⟩:=id HO.out.1
   have HOO:=Lib.hid (And.intro o1 (And.intro o2 (And.intro o3 o4)))
   clear o1 o2 o3 o4
   by_cases hkk:s.kind=k
   ·have hkb:(s.kind == k)=true:=by simpa using hkk
    have HF:=Lib.hid (show flat k (ks.take (m+1))=flat k (ks.take m)++s.kids from by rw [HR.out.2.1,if_pos hkk])
    clear hkk
    have hLs:RxL ((rb::M)++acc.ownBlock.toList) wr s.kids (.slice a3 s.kids.length c3):=by
     have h1:=HR.out.1
     obtain ⟨k,lo,hi,l⟩:=s
     obtain ⟨vk,hvk,_,hLs⟩:=RxF.iff.1 h1
     simp only [rxC,List.cons.injEq,and_true] at hvk
     rw [hvk.2.2.2]
     exact hLs
    obtain ⟨cs2,p1,p2,p3,p4⟩:=hLs
    have HPP:=Lib.hid (And.intro p1 (And.intro p2 p4))
    clear p1 p2 p3 p4
    go_wp2_with (refine wpList_appS rfl _ _ _ rfl 25 4 40 _ Tryz.underlying23 infoRR rfl (by decide) acc _ _ rfl HOO.out.1 _ _ _ rfl HPP.out.1 (rows_one4 HPP.out.2.2) (by have:=HLEN.out;unfold maxLen;omega) (by have:=HLEN.out;omega) ?_;intro a7 c7 w7 o7 u7 k7)
    have HQ:=OwR.pushL (w:=wr) (w':=w7) HOO.out.2.1 HPP.out.2.1 (fun b hb=>by have:=HLL.out.1 b hb;have:=HO.out.2.2.size;omega) HOO.out.2.2.1 rfl rfl HOO.out.2.2.2 HPP.out.2.2 o7 u7 (k7.imp id fun h=>⟨_,h,Nat.le_refl _⟩)
    rw [←HF.out] at HQ
    refine ⟨⟨m+1,_,by go_num,rfl,by omega,Lib.hid ⟨HQ,fun q hq=>?_,HO.out.2.2.fresh u7 (fun b hb=>.inr (HO.out.2.1 b (Option.mem_toList.1 hb)))⟩⟩,by simp [intOf];omega⟩
    rcases k7 with k7|k7
    ·rw [k7] at hq;exact HO.out.2.1 q hq
    ·rw [k7] at hq;simp only [Option.some.injEq] at hq;have:=HO.out.2.2.size;omega
   ·have hkb:(s.kind == k)=false:=by simpa using hkk
    have HF:=Lib.hid (show flat k (ks.take (m+1))=flat k (ks.take m)++[s] from by rw [HR.out.2.1,if_neg hkk])
    clear hkk
    go_upto_region 18 with fail
    go_wp2_with (refine wpList_push rfl rfl _ _ _ _ rfl rfl rfl 25 4 40 _ Tryz.underlying23 infoRR rfl (by decide) (by decide) (.agg (rxC s.kind s.lo s.hi (.slice a3 s.kids.length c3)).toArray) (rxC s.kind s.lo s.hi (.slice a3 s.kids.length c3)) rfl rfl rfl (by simp [rxC,Value.oneCell']) acc _ _ HOO.out.1 rfl rfl (by have:=HLEN.out;unfold maxLen;omega) (by have:=HLEN.out;omega) ?_;intro g7 c7 w7 o7 u7 k7)
    have HQ:=OwR.push (w:=wr) (w':=w7) (r:=s) HOO.out.2.1 (fun b hb=>by have:=HLL.out.1 b hb;have:=HO.out.2.2.size;omega) HOO.out.2.2.1 rfl HOO.out.2.2.2 HR.out.1 o7 u7 (k7.imp (fun h=>h.symm) fun h=>⟨_,rfl,h⟩)
    rw [←HF.out] at HQ
    refine ⟨⟨m+1,_,by go_num,rfl,by omega,Lib.hid ⟨HQ,fun q hq=>?_,HO.out.2.2.fresh u7 (fun b hb=>.inr (HO.out.2.1 b (Option.mem_toList.1 hb)))⟩⟩,by simp [intOf];omega⟩
    simp only [Value.ownBlock,Option.some.injEq] at hq
    subst hq
    rcases k7 with k7|k7
    ·exact HO.out.2.1 _ k7
    ·have:=HO.out.2.2.size;omega
  ·have hme:m=ks.length:=by omega
   subst hme
   rw [List.take_length] at HO
   have HFL:=Lib.hid (show (flat k ks).length≤1000000 from by have:=flat_len k ks;have:=HN.out.1;omega)
   have HN2:=Lib.hid HN.out.2
   generalize flat k ks=fl at *
   go_upto_region 19 with fail
   go_cut [8] (fun t w'=>∃ ub,t=.pointer (some ⟨ub,0,none⟩)∧Hid (Box 25 (rb::M) w' ub (unitOf k)∧Upd [] wr w'∧wr.heap.size≤ub))
   case first=>
    obtain ⟨aa,ca,hBA,hFA,_⟩:=HX.out.2.2.1.ext HO.out.2.2
    have l0:=hBA.cell (i:=0) rfl
    have l1:=hBA.cell (i:=1) rfl
    have l2:=hBA.cell (i:=2) rfl
    have l3:=hBA.cell (i:=3) rfl
    have HA:=Lib.hid hFA
    clear hBA hFA
    rcases HK.out with rfl|rfl|rfl
    ·refine wp_region_lit ?_
     refine wpList_cutH 4 (fun K hK=>?_)
     simp only [List.take_succ_cons,List.take_zero]
     go_wp2_with fail
     refine Halt_.intro ?_;try simp only [List.drop_succ_cons,List.drop_zero]
     have bS:Blk (wr.alloc (.cells #[.int .i64 1,.int .u8 0,.int .u8 0,.slice none 0 0,.int .i64 0,.int .u8 0,.int .u8 0,.slice none 0 0,.int .i64 rAll.kind,.int .u8 rAll.lo,.int .u8 rAll.hi,.slice aa rAll.kids.length ca] 25)) wr.heap.size [.int .i64 1,.int .u8 0,.int .u8 0,.slice none 0 0,.int .i64 0,.int .u8 0,.int .u8 0,.slice none 0 0,.int .i64 rAll.kind,.int .u8 rAll.lo,.int .u8 rAll.hi,.slice aa rAll.kids.length ca] 25:=Blk.new wr [.int .i64 1,.int .u8 0,.int .u8 0,.slice none 0 0,.int .i64 0,.int .u8 0,.int .u8 0,.slice none 0 0,.int .i64 rAll.kind,.int .u8 rAll.lo,.int .u8 rAll.hi,.slice aa rAll.kids.length ca] 25
     have uS:=(Upd.refl [] wr).alloc (.cells #[.int .i64 1,.int .u8 0,.int .u8 0,.slice none 0 0,.int .i64 0,.int .u8 0,.int .u8 0,.slice none 0 0,.int .i64 rAll.kind,.int .u8 rAll.lo,.int .u8 rAll.hi,.slice aa rAll.kids.length ca] 25)
     generalize (wr.alloc (.cells #[.int .i64 1,.int .u8 0,.int .u8 0,.slice none 0 0,.int .i64 0,.int .u8 0,.int .u8 0,.slice none 0 0,.int .i64 rAll.kind,.int .u8 rAll.lo,.int .u8 rAll.hi,.slice aa rAll.kids.length ca] 25))=w5 at *
     have hs5:=uS.size
     generalize wr.heap.size=sb at *
     have m0:=bS.cell (i:=0) rfl
     have m1:=bS.cell (i:=1) rfl
     have m2:=bS.cell (i:=2) rfl
     have m3:=bS.cell (i:=3) rfl
     have HU5:=Lib.hid (And.intro uS hs5)
     clear bS uS hs5 l0 l1 l2 l3
     go_wp2_with fail
     go_meet
     case rel=>
      refine ⟨_,rfl,Lib.hid ⟨?_,HU5.out.1.alloc _,HU5.out.2⟩⟩
      exact Box.nil (by unfold IsI64;omega) (fun b hb=>by have:=HLL.out.1 b hb;have:=HO.out.2.2.size;have:=HU5.out.1.size;omega)
    ·refine wp_region_lit ?_
     refine wpList_cutH 4 (fun K hK=>?_)
     simp only [List.take_succ_cons,List.take_zero]
     go_wp2_with fail
     refine Halt_.intro ?_;try simp only [List.drop_succ_cons,List.drop_zero]
     have bS:Blk (wr.alloc (.cells #[.int .i64 1,.int .u8 0,.int .u8 0,.slice none 0 0,.int .i64 0,.int .u8 0,.int .u8 0,.slice none 0 0,.int .i64 rAll.kind,.int .u8 rAll.lo,.int .u8 rAll.hi,.slice aa rAll.kids.length ca] 25)) wr.heap.size [.int .i64 1,.int .u8 0,.int .u8 0,.slice none 0 0,.int .i64 0,.int .u8 0,.int .u8 0,.slice none 0 0,.int .i64 rAll.kind,.int .u8 rAll.lo,.int .u8 rAll.hi,.slice aa rAll.kids.length ca] 25:=Blk.new wr [.int .i64 1,.int .u8 0,.int .u8 0,.slice none 0 0,.int .i64 0,.int .u8 0,.int .u8 0,.slice none 0 0,.int .i64 rAll.kind,.int .u8 rAll.lo,.int .u8 rAll.hi,.slice aa rAll.kids.length ca] 25
     have uS:=(Upd.refl [] wr).alloc (.cells #[.int .i64 1,.int .u8 0,.int .u8 0,.slice none 0 0,.int .i64 0,.int .u8 0,.int .u8 0,.slice none 0 0,.int .i64 rAll.kind,.int .u8 rAll.lo,.int .u8 rAll.hi,.slice aa rAll.kids.length ca] 25)
     generalize (wr.alloc (.cells #[.int .i64 1,.int .u8 0,.int .u8 0,.slice none 0 0,.int .i64 0,.int .u8 0,.int .u8 0,.slice none 0 0,.int .i64 rAll.kind,.int .u8 rAll.lo,.int .u8 rAll.hi,.slice aa rAll.kids.length ca] 25))=w5 at *
     have hs5:=uS.size
     generalize wr.heap.size=sb at *
     have m0:=bS.cell (i:=4) rfl
     have m1:=bS.cell (i:=5) rfl
     have m2:=bS.cell (i:=6) rfl
     have m3:=bS.cell (i:=7) rfl
     have HU5:=Lib.hid (And.intro uS hs5)
     clear bS uS hs5 l0 l1 l2 l3
     go_wp2_with fail
     go_meet
     case rel=>
      refine ⟨_,rfl,Lib.hid ⟨?_,HU5.out.1.alloc _,HU5.out.2⟩⟩
      exact Box.nil (by unfold IsI64;omega) (fun b hb=>by have:=HLL.out.1 b hb;have:=HO.out.2.2.size;have:=HU5.out.1.size;omega)
    ·refine wp_region_lit ?_
     refine wpList_cutH 4 (fun K hK=>?_)
     simp only [List.take_succ_cons,List.take_zero]
     go_wp2_with fail
     refine Halt_.intro ?_;try simp only [List.drop_succ_cons,List.drop_zero]
     have bS:Blk (wr.alloc (.cells #[.int .i64 1,.int .u8 0,.int .u8 0,.slice none 0 0,.int .i64 0,.int .u8 0,.int .u8 0,.slice none 0 0,.int .i64 rAll.kind,.int .u8 rAll.lo,.int .u8 rAll.hi,.slice aa rAll.kids.length ca] 25)) wr.heap.size [.int .i64 1,.int .u8 0,.int .u8 0,.slice none 0 0,.int .i64 0,.int .u8 0,.int .u8 0,.slice none 0 0,.int .i64 rAll.kind,.int .u8 rAll.lo,.int .u8 rAll.hi,.slice aa rAll.kids.length ca] 25:=Blk.new wr [.int .i64 1,.int .u8 0,.int .u8 0,.slice none 0 0,.int .i64 0,.int .u8 0,.int .u8 0,.slice none 0 0,.int .i64 rAll.kind,.int .u8 rAll.lo,.int .u8 rAll.hi,.slice aa rAll.kids.length ca] 25
     have uS:=(Upd.refl [] wr).alloc (.cells #[.int .i64 1,.int .u8 0,.int .u8 0,.slice none 0 0,.int .i64 0,.int .u8 0,.int .u8 0,.slice none 0 0,.int .i64 rAll.kind,.int .u8 rAll.lo,.int .u8 rAll.hi,.slice aa rAll.kids.length ca] 25)
     generalize (wr.alloc (.cells #[.int .i64 1,.int .u8 0,.int .u8 0,.slice none 0 0,.int .i64 0,.int .u8 0,.int .u8 0,.slice none 0 0,.int .i64 rAll.kind,.int .u8 rAll.lo,.int .u8 rAll.hi,.slice aa rAll.kids.length ca] 25))=w5 at *
     have hs5:=uS.size
     generalize wr.heap.size=sb at *
     have m0:=bS.cell (i:=8) rfl
     have m1:=bS.cell (i:=9) rfl
     have m2:=bS.cell (i:=10) rfl
     have m3:=bS.cell (i:=11) rfl
     have HU5:=Lib.hid (And.intro uS hs5)
     clear bS uS hs5 l0 l1 l2 l3
     go_wp2_with fail
     go_meet
     case rel=>
      refine ⟨_,rfl,Lib.hid ⟨?_,HU5.out.1.alloc _,HU5.out.2⟩⟩
      exact Box.new (HA.out.ext HU5.out.1) (fun b hb=>by have:=HLL.out.1 b hb;have:=HO.out.2.2.size;have:=HU5.out.1.size;omega)
   case rest=>
   obtain ⟨ub,rfl,HUB⟩:=hcut
   obtain ⟨w6,rfl⟩:∃ y:World,y=wc:=⟨_,rfl⟩
   have HU6:=Lib.hid (HO.out.2.2.step HUB.out.2.1)
   go_upto_region 20 with fail
   go_cut [9] (fun t w'=>∃ ub,t=.pointer (some ⟨ub,0,none⟩)∧Hid (Box 25 (rb::M) w' ub (zeroOf k)∧Upd [] w6 w'∧w6.heap.size≤ub))
   case first=>
    obtain ⟨aa,ca,hBA,hFA,_⟩:=HX.out.2.2.1.ext HU6.out
    have l0:=hBA.cell (i:=0) rfl
    have l1:=hBA.cell (i:=1) rfl
    have l2:=hBA.cell (i:=2) rfl
    have l3:=hBA.cell (i:=3) rfl
    have HA:=Lib.hid hFA
    clear hBA hFA
    rcases HK.out with rfl|rfl|rfl
    ·refine wp_region_lit ?_
     refine wpList_cutH 4 (fun K hK=>?_)
     simp only [List.take_succ_cons,List.take_zero]
     go_wp2_with fail
     refine Halt_.intro ?_;try simp only [List.drop_succ_cons,List.drop_zero]
     have bS:Blk (w6.alloc (.cells #[.int .i64 0,.int .u8 0,.int .u8 0,.slice none 0 0,.int .i64 rAll.kind,.int .u8 rAll.lo,.int .u8 rAll.hi,.slice aa rAll.kids.length ca,.int .i64 0,.int .u8 0,.int .u8 0,.slice none 0 0] 25)) w6.heap.size [.int .i64 0,.int .u8 0,.int .u8 0,.slice none 0 0,.int .i64 rAll.kind,.int .u8 rAll.lo,.int .u8 rAll.hi,.slice aa rAll.kids.length ca,.int .i64 0,.int .u8 0,.int .u8 0,.slice none 0 0] 25:=Blk.new w6 [.int .i64 0,.int .u8 0,.int .u8 0,.slice none 0 0,.int .i64 rAll.kind,.int .u8 rAll.lo,.int .u8 rAll.hi,.slice aa rAll.kids.length ca,.int .i64 0,.int .u8 0,.int .u8 0,.slice none 0 0] 25
     have uS:=(Upd.refl [] w6).alloc (.cells #[.int .i64 0,.int .u8 0,.int .u8 0,.slice none 0 0,.int .i64 rAll.kind,.int .u8 rAll.lo,.int .u8 rAll.hi,.slice aa rAll.kids.length ca,.int .i64 0,.int .u8 0,.int .u8 0,.slice none 0 0] 25)
     generalize (w6.alloc (.cells #[.int .i64 0,.int .u8 0,.int .u8 0,.slice none 0 0,.int .i64 rAll.kind,.int .u8 rAll.lo,.int .u8 rAll.hi,.slice aa rAll.kids.length ca,.int .i64 0,.int .u8 0,.int .u8 0,.slice none 0 0] 25))=w5 at *
     have hs5:=uS.size
     generalize w6.heap.size=sb at *
     have m0:=bS.cell (i:=0) rfl
     have m1:=bS.cell (i:=1) rfl
     have m2:=bS.cell (i:=2) rfl
     have m3:=bS.cell (i:=3) rfl
     have HU5:=Lib.hid (And.intro uS hs5)
     clear bS uS hs5 l0 l1 l2 l3
     go_wp2_with fail
     go_meet
     case rel=>
      refine ⟨_,rfl,Lib.hid ⟨?_,HU5.out.1.alloc _,HU5.out.2⟩⟩
      exact Box.nil (by unfold IsI64;omega) (fun b hb=>by have:=HLL.out.1 b hb;have:=HU6.out.size;have:=HU5.out.1.size;omega)
    ·refine wp_region_lit ?_
     refine wpList_cutH 4 (fun K hK=>?_)
     simp only [List.take_succ_cons,List.take_zero]
     go_wp2_with fail
     refine Halt_.intro ?_;try simp only [List.drop_succ_cons,List.drop_zero]
     have bS:Blk (w6.alloc (.cells #[.int .i64 0,.int .u8 0,.int .u8 0,.slice none 0 0,.int .i64 rAll.kind,.int .u8 rAll.lo,.int .u8 rAll.hi,.slice aa rAll.kids.length ca,.int .i64 0,.int .u8 0,.int .u8 0,.slice none 0 0] 25)) w6.heap.size [.int .i64 0,.int .u8 0,.int .u8 0,.slice none 0 0,.int .i64 rAll.kind,.int .u8 rAll.lo,.int .u8 rAll.hi,.slice aa rAll.kids.length ca,.int .i64 0,.int .u8 0,.int .u8 0,.slice none 0 0] 25:=Blk.new w6 [.int .i64 0,.int .u8 0,.int .u8 0,.slice none 0 0,.int .i64 rAll.kind,.int .u8 rAll.lo,.int .u8 rAll.hi,.slice aa rAll.kids.length ca,.int .i64 0,.int .u8 0,.int .u8 0,.slice none 0 0] 25
     have uS:=(Upd.refl [] w6).alloc (.cells #[.int .i64 0,.int .u8 0,.int .u8 0,.slice none 0 0,.int .i64 rAll.kind,.int .u8 rAll.lo,.int .u8 rAll.hi,.slice aa rAll.kids.length ca,.int .i64 0,.int .u8 0,.int .u8 0,.slice none 0 0] 25)
     generalize (w6.alloc (.cells #[.int .i64 0,.int .u8 0,.int .u8 0,.slice none 0 0,.int .i64 rAll.kind,.int .u8 rAll.lo,.int .u8 rAll.hi,.slice aa rAll.kids.length ca,.int .i64 0,.int .u8 0,.int .u8 0,.slice none 0 0] 25))=w5 at *
     have hs5:=uS.size
     generalize w6.heap.size=sb at *
     have m0:=bS.cell (i:=4) rfl
     have m1:=bS.cell (i:=5) rfl
     have m2:=bS.cell (i:=6) rfl
     have m3:=bS.cell (i:=7) rfl
     have HU5:=Lib.hid (And.intro uS hs5)
     clear bS uS hs5 l0 l1 l2 l3
     go_wp2_with fail
     go_meet
     case rel=>
      refine ⟨_,rfl,Lib.hid ⟨?_,HU5.out.1.alloc _,HU5.out.2⟩⟩
      exact Box.new (HA.out.ext HU5.out.1) (fun b hb=>by have:=HLL.out.1 b hb;have:=HU6.out.size;have:=HU5.out.1.size;omega)
    ·refine wp_region_lit ?_
     refine wpList_cutH 4 (fun K hK=>?_)
     simp only [List.take_succ_cons,List.take_zero]
     go_wp2_with fail
     refine Halt_.intro ?_;try simp only [List.drop_succ_cons,List.drop_zero]
     have bS:Blk (w6.alloc (.cells #[.int .i64 0,.int .u8 0,.int .u8 0,.slice none 0 0,.int .i64 rAll.kind,.int .u8 rAll.lo,.int .u8 rAll.hi,.slice aa rAll.kids.length ca,.int .i64 0,.int .u8 0,.int .u8 0,.slice none 0 0] 25)) w6.heap.size [.int .i64 0,.int .u8 0,.int .u8 0,.slice none 0 0,.int .i64 rAll.kind,.int .u8 rAll.lo,.int .u8 rAll.hi,.slice aa rAll.kids.length ca,.int .i64 0,.int .u8 0,.int .u8 0,.slice none 0 0] 25:=Blk.new w6 [.int .i64 0,.int .u8 0,.int .u8 0,.slice none 0 0,.int .i64 rAll.kind,.int .u8 rAll.lo,.int .u8 rAll.hi,.slice aa rAll.kids.length ca,.int .i64 0,.int .u8 0,.int .u8 0,.slice none 0 0] 25
     have uS:=(Upd.refl [] w6).alloc (.cells #[.int .i64 0,.int .u8 0,.int .u8 0,.slice none 0 0,.int .i64 rAll.kind,.int .u8 rAll.lo,.int .u8 rAll.hi,.slice aa rAll.kids.length ca,.int .i64 0,.int .u8 0,.int .u8 0,.slice none 0 0] 25)
     generalize (w6.alloc (.cells #[.int .i64 0,.int .u8 0,.int .u8 0,.slice none 0 0,.int .i64 rAll.kind,.int .u8 rAll.lo,.int .u8 rAll.hi,.slice aa rAll.kids.length ca,.int .i64 0,.int .u8 0,.int .u8 0,.slice none 0 0] 25))=w5 at *
     have hs5:=uS.size
     generalize w6.heap.size=sb at *
     have m0:=bS.cell (i:=8) rfl
     have m1:=bS.cell (i:=9) rfl
     have m2:=bS.cell (i:=10) rfl
     have m3:=bS.cell (i:=11) rfl
     have HU5:=Lib.hid (And.intro uS hs5)
     clear bS uS hs5 l0 l1 l2 l3
     go_wp2_with fail
     go_meet
     case rel=>
      refine ⟨_,rfl,Lib.hid ⟨?_,HU5.out.1.alloc _,HU5.out.2⟩⟩
      exact Box.nil (by unfold IsI64;omega) (fun b hb=>by have:=HLL.out.1 b hb;have:=HU6.out.size;have:=HU5.out.1.size;omega)
   case rest=>
   obtain ⟨zb,rfl,HZB⟩:=hcut
   have HUB2:=Lib.hid (HUB.out.1.ext HZB.out.2.1)
   have HU7:=Lib.hid (And.intro (HU6.out.step HZB.out.2.1) ((HO.out.1.ext HUB.out.2.1).ext HZB.out.2.1))
   obtain ⟨w7,rfl⟩:∃ y:World,y=wc:=⟨_,rfl⟩
   have HZB2:=Lib.hid HZB.out.1
   have hfv:acc=acc:=rfl
   clear HUB HZB HU6 hfv
   obtain ⟨af,cf,rfl,qf1,qf2,_⟩:=id HU7.out.2.list.form
   have HOW:=Lib.hid HO.out.2.1
   clear HO
   obtain ⟨wo,rfl⟩:∃ y:World,y=wr:=⟨_,rfl⟩
   go_wp2_with fail
   go_loopw [10,11] (fun fv iv wq=>∃ (m:Nat) (acc:Value),iv=.int .i64 m∧acc=fv∧m≤fl.length∧Hid (OwR 25 (rb::M) wq acc (accR k (fl.take m))∧(∀ q,acc.ownBlock=some q→w7.heap.size≤q)∧Upd [] w7 wq∧zeroOf k ∉ fl.take m)) (fun _ iv _=>fl.length - (intOf iv).toNat)
   case atStart=>exact ⟨0,_,rfl,rfl,Nat.zero_le _,Lib.hid ⟨OwR.nil0,fun q hq=>by simp [Value.ownBlock] at hq,Upd.refl _ _,by simp⟩⟩
   case round=>
    obtain ⟨m,acc,rfl,rfl,hm,HQ⟩:=hrel
    have HQU:=Lib.hid (HU7.out.1.step HQ.out.2.2.1)
    by_cases hlt:m<fl.length
    ·have hli:(m:Int)<fl.length:=by omega
     have hr:=List.getElem?_eq_getElem hlt
     have HAC:=Lib.hid (And.intro (accR_succ (k:=k) hr) (show fl.take (m+1)=fl.take m++[fl[m]] by rw [List.take_add_one,hr];rfl))
     have HLE:=Lib.hid (show (accR k (fl.take m)).length≤1000000 by
      have h1:=accR_len k (fl.take m) []
      have h2:=HFL.out
      rw [List.length_take,List.length_nil] at h1
      unfold accR
      omega)
     generalize fl[m]=s at *
     have hLs:RxL ((rb::M)++acc.ownBlock.toList) wr fl (.slice af fl.length cf):=(HU7.out.2.list.sub (fun b hb=>by
      rcases List.mem_append.1 hb with hb|hb
      ·exact .inl hb
      ·right;exact HQ.out.2.1 b (Option.mem_toList.1 hb))).ext HQ.out.2.2.1
     obtain ⟨g,off,a3,c3,rfl,hRF,e0,e1,e2,e3⟩:=hLs.kid hr
     have HS:=Lib.hid hRF
     obtain ⟨zz,cz,hBZ,hFZ,_⟩:=HZB2.out.ext HQ.out.2.2.1
     obtain ⟨zu,cu,hBU,hFU,_⟩:=HUB2.out.ext HQ.out.2.2.1
     have z0:=hBZ.cell (i:=0) rfl
     have z1:=hBZ.cell (i:=1) rfl
     have z2:=hBZ.cell (i:=2) rfl
     have z3:=hBZ.cell (i:=3) rfl
     have y0:=hBU.cell (i:=0) rfl
     have y1:=hBU.cell (i:=1) rfl
     have y2:=hBU.cell (i:=2) rfl
     have y3:=hBU.cell (i:=3) rfl
     have HCZ:=Lib.hid (fun (w':World) (u:Upd [] wr w')=>rcmp_calls s (zeroOf k) ((RxF.sub (M':=[]) hRF (by simp)).ext u).val ((RxF.sub (M':=[]) hFZ (by simp)).ext u).val)
     have HCU:=Lib.hid (fun (w':World) (u:Upd [] wr w')=>rcmp_calls s (unitOf k) ((RxF.sub (M':=[]) hRF (by simp)).ext u).val ((RxF.sub (M':=[]) hFU (by simp)).ext u).val)
     have HFZ:=Lib.hid hFZ
     clear hLs hRF hr hBZ hFZ hBU hFU
     by_cases hz:s=zeroOf k
     ·have HE:=Lib.hid (show form (nd k 0 0 ks)=zeroOf k from by
       rw [HN2.out,if_pos]
       have:s∈fl.take (m+1):=by rw [HAC.out.2];simp
       rw [←hz]
       exact List.mem_of_mem_take this)
      have hc0:cmpR s (zeroOf k)=0:=cmpR_zero.2 hz
      rw [hc0] at HCZ
      clear hz hc0 HCU y0 y1 y2 y3
      go_wp2_with fail
      refine wp_region_qx (by kernel_rfl) (by kernel_rfl) ?_
      repeat (go_big_quiet_step (((go_at_call 95;exact qx (HCZ.out _ (Ext.upd _))))))
      refine wpQuiet_nil ?_
      intro x
      have HB4:=Lib.hid (And.intro (HX.out.1.upd (HQU.out.step x.upd) (by simp)) (And.intro (HX.out.2.1.step (HQU.out.step x.upd)) (HFZ.out.ext x.upd)))
      have r0:=HB4.out.1.cell (i:=0) rfl
      have r1:=HB4.out.1.cell (i:=1) rfl
      have r2:=HB4.out.1.cell (i:=2) rfl
      have r3:=HB4.out.1.cell (i:=3) rfl
      have rf:∀ q,x.val.frozen? ⟨rb,q,none⟩=false:=HB4.out.1.free
      have z0:=x.upd.some z0 (by simp)
      have z1:=x.upd.some z1 (by simp)
      have z2:=x.upd.some z2 (by simp)
      have z3:=x.upd.some z3 (by simp)
      clear e0 e1 e2 e3
      generalize x.val=wx at *
      go_wp2_with fail
      have hs:=box_set (a:=.int .i64 (zeroOf k).kind) (b:=.int .u8 (zeroOf k).lo) (c:=.int .u8 (zeroOf k).hi) (d:=.slice zz (zeroOf k).kids.length cz) HB4.out.1
      rw [HE.out]
      exact ret_rr rfl rfl hs.1 rfl ((HB4.out.2.2.upd hs.2 (by simp)).sub (fun b hb=>.inl (by simp [hb]))) (HB4.out.2.1.fresh hs.2 (fun b hb=>.inr (by simp at hb;subst hb;have:=HX.out.2.2.2.1;omega)))
     ·have hb0:(cmpR s (zeroOf k) == 0)=false:=by simp [cmpR_zero];exact hz
      have HZN:=Lib.hid (show zeroOf k ∉ fl.take (m+1) by
       rw [HAC.out.2]
       intro h
       rcases List.mem_append.1 h with h|h
       ·exact HQ.out.2.2.2 h
       ·simp at h;exact hz h.symm)
      generalize cmpR s (zeroOf k)=cz0 at *
      have HSTEP:=Lib.hid (show accR k (fl.take (m+1))=_ from HAC.out.1)
      by_cases hu:s=unitOf k
      ·have HEQ:=Lib.hid (show accR k (fl.take (m+1))=accR k (fl.take m) by rw [HSTEP.out];unfold stepR;rw [if_pos hu])
       have hc0:cmpR s (unitOf k)=0:=cmpR_zero.2 hu
       rw [hc0] at HCU
       clear hz hu hc0
       go_wp2_with fail
       refine wp_region_qx (by kernel_rfl) (by kernel_rfl) ?_
       repeat (go_big_quiet_step (((go_at_call 95;exact qx (HCZ.out _ (Ext.upd _))))))
       refine wpQuiet_nil ?_
       intro x
       have hx0:=x.upd
       go_wp2_with fail
       refine wp_region_qx (by kernel_rfl) (by kernel_rfl) ?_
       repeat (go_big_quiet_step (((go_at_call 95;exact qx (HCU.out _ (hx0.step (Ext.upd _)))))))
       refine wpQuiet_nil ?_
       intro x
       go_wp2_with fail
       exact ⟨⟨m+1,_,by go_num,rfl,by omega,Lib.hid ⟨by rw [HEQ.out];exact HQ.out.1.ext (hx0.step x.upd),HQ.out.2.1,HQ.out.2.2.1.step (hx0.step x.upd),HZN.out⟩⟩,by simp [intOf];omega⟩
      ·have hb1:(cmpR s (unitOf k) == 0)=false:=by simp [cmpR_zero];exact hu
       have HSTEP2:=Lib.hid (show accR k (fl.take (m+1))=if k=3 then accR k (fl.take m)++[s] else putR (accR k (fl.take m)) s by rw [HSTEP.out];unfold stepR;rw [if_neg hu])
       generalize cmpR s (unitOf k)=cu0 at *
       clear hz hu
       go_wp2_with fail
       refine wp_region_qx (by kernel_rfl) (by kernel_rfl) ?_
       repeat (go_big_quiet_step (((go_at_call 95;exact qx (HCZ.out _ (Ext.upd _))))))
       refine wpQuiet_nil ?_
       intro x
       have hx0:=x.upd
       go_wp2_with fail
       refine wp_region_qx (by kernel_rfl) (by kernel_rfl) ?_
       repeat (go_big_quiet_step (((go_at_call 95;exact qx (HCU.out _ (hx0.step (Ext.upd _)))))))
       refine wpQuiet_nil ?_
       intro x
       have HXU:=Lib.hid (hx0.step x.upd)
       have e0:=HXU.out.some e0 (by simp)
       have e1:=HXU.out.some e1 (by simp)
       have e2:=HXU.out.some e2 (by simp)
       have e3:=HXU.out.some e3 (by simp)
       clear hx0 z0 z1 z2 z3 y0 y1 y2 y3
       generalize x.val=wz at *
       obtain ⟨css,o1,o2,o3,o4⟩:=id (HQ.out.1.ext HXU.out)
       have HOO:=Lib.hid (And.intro o1 (And.intro o2 (And.intro o3 o4)))
       clear o1 o2 o3 o4
       by_cases hk3:k=3
       ·have hkb:(k == 3)=true:=by simpa using hk3
        have HF:=Lib.hid (HSTEP2.out.trans (if_pos hk3))
        clear hk3
        go_upto_region 29 with fail
        go_wp2_with (refine wpList_push rfl rfl _ _ _ _ rfl rfl rfl 25 4 40 _ Tryz.underlying23 infoRR rfl (by decide) (by decide) (.agg (rxC s.kind s.lo s.hi (.slice a3 s.kids.length c3)).toArray) (rxC s.kind s.lo s.hi (.slice a3 s.kids.length c3)) rfl rfl rfl (by simp [rxC,Value.oneCell']) acc _ _ HOO.out.1 rfl rfl (by have:=HLE.out;unfold maxLen;omega) (by have:=HLE.out;omega) ?_;intro g8 c8 w8 o8 u8 k8)
        have HP:=OwR.push (w:=wz) (w':=w8) (r:=s) HOO.out.2.1 (fun b hb=>by have:=HLL.out.1 b hb;have:=HQU.out.size;have:=HXU.out.size;omega) HOO.out.2.2.1 rfl HOO.out.2.2.2 (HS.out.ext HXU.out) o8 u8 (k8.imp (fun h=>h.symm) fun h=>⟨_,rfl,h⟩)
        rw [←HF.out] at HP
        refine ⟨⟨m+1,_,by go_num,rfl,by omega,Lib.hid ⟨HP,fun q hq=>?_,(HQ.out.2.2.1.step HXU.out).fresh u8 (fun b hb=>.inr (HQ.out.2.1 b (Option.mem_toList.1 hb))),HZN.out⟩⟩,by simp [intOf];omega⟩
        simp only [Value.ownBlock,Option.some.injEq] at hq
        subst hq
        rcases k8 with k8|k8
        ·exact HQ.out.2.1 _ k8
        ·have:=HQ.out.2.2.1.size;have:=HXU.out.size;omega
       ·have hkb:(k == 3)=false:=by simpa using hk3
        have HF:=Lib.hid (HSTEP2.out.trans (if_neg hk3))
        clear hk3
        have HP:=Lib.hid (rput_calls (M:=rb::M) (HQ.out.1.ext HXU.out) ((HS.out.ext HXU.out).sub (M':=rb::M) (fun b hb=>.inl (List.mem_append_left _ hb))).val (fun b hb=>by have:=HLL.out.1 b hb;have:=HQU.out.size;have:=HXU.out.size;omega) HLE.out)
        go_wp2_with ((with_reducible refine HP.out.mono ?_);rintro e w8 ⟨v8,rfl,o8,u8,k8⟩)
        rw [←HF.out] at o8
        refine ⟨⟨m+1,_,by go_num,rfl,by omega,Lib.hid ⟨o8,fun q hq=>?_,(HQ.out.2.2.1.step HXU.out).step u8,HZN.out⟩⟩,by simp [intOf];omega⟩
        rcases k8 with k8|k8
        ·rw [k8] at hq;exact HQ.out.2.1 q hq
        ·have:=k8 q hq;have:=HQ.out.2.2.1.size;have:=HXU.out.size;omega
    ·have hme:m=fl.length:=by omega
     subst hme
     rw [List.take_length] at HQ
     have HE:=Lib.hid (show form (nd k 0 0 ks)=pickE k (unitOf k) (accR k fl) from by rw [HN2.out,if_neg HQ.out.2.2.2])
     have HB4:=Lib.hid (And.intro (HX.out.1.upd HQU.out (by simp)) (And.intro (HX.out.2.1.step HQU.out) HQ.out.1.list))
     generalize accR k fl=al at *
     obtain ⟨aq,cq,rfl,qa1,qa2,_⟩:=id HB4.out.2.2.form
     have r0:=HB4.out.1.cell (i:=0) rfl
     have r1:=HB4.out.1.cell (i:=1) rfl
     have r2:=HB4.out.1.cell (i:=2) rfl
     have r3:=HB4.out.1.cell (i:=3) rfl
     have rf:∀ q,wr.frozen? ⟨rb,q,none⟩=false:=HB4.out.1.free
     by_cases h0:al.length=0
     ·have hal:al=[]:=List.eq_nil_of_length_eq_zero h0
      subst hal
      obtain ⟨zu,cu,hBU,hFU,_⟩:=HUB2.out.ext HQ.out.2.2.1
      have y0:=hBU.cell (i:=0) rfl
      have y1:=hBU.cell (i:=1) rfl
      have y2:=hBU.cell (i:=2) rfl
      have y3:=hBU.cell (i:=3) rfl
      have HFU:=Lib.hid hFU
      clear hBU hFU h0
      go_wp2_with fail
      have hs:=box_set (a:=.int .i64 (unitOf k).kind) (b:=.int .u8 (unitOf k).lo) (c:=.int .u8 (unitOf k).hi) (d:=.slice zu (unitOf k).kids.length cu) HB4.out.1
      rw [HE.out]
      exact ret_rr rfl rfl hs.1 rfl ((HFU.out.upd hs.2 (by simp)).sub (fun b hb=>.inl (by simp [hb]))) (HB4.out.2.1.fresh hs.2 (fun b hb=>.inr (by simp at hb;subst hb;have:=HX.out.2.2.2.1;omega)))
     ·have hb0:((al.length:Int) == 0)=false:=by simp;intro h;apply h0;rw [h];rfl
      by_cases h1:al.length=1
      ·obtain ⟨x,hx⟩:=List.length_eq_one_iff.1 h1
       subst hx
       obtain ⟨g,off,a3,c3,rfl,hRF,e0,e1,e2,e3⟩:=HB4.out.2.2.kid (i:=0) (r:=x) rfl
       rw [Nat.zero_mul,Nat.add_zero] at e0 e1 e2 e3
       have HRF:=Lib.hid hRF
       clear hRF h0 h1
       go_wp2_with fail
       have hs:=box_set (a:=.int .i64 x.kind) (b:=.int .u8 x.lo) (c:=.int .u8 x.hi) (d:=.slice a3 x.kids.length c3) HB4.out.1
       rw [HE.out]
       exact ret_rr rfl rfl hs.1 rfl ((HRF.out.upd hs.2 (by simp)).sub (fun b hb=>.inl (by simp [hb]))) (HB4.out.2.1.fresh hs.2 (fun b hb=>.inr (by simp at hb;subst hb;have:=HX.out.2.2.2.1;omega)))
      ·have hb1:((al.length:Int) == 1)=false:=by simp;omega
       have HPK:=Lib.hid (show pickE k (unitOf k) al=nd k 0 0 al by
        rcases pickE_cases (k:=k) (unit:=unitOf k) (l:=al) with ⟨h,_⟩|⟨x,h,_⟩|⟨_,h⟩
        ·rw [h] at h0;exact absurd rfl h0
        ·rw [h] at h1;exact absurd rfl h1
        ·exact h)
       have hki:IsI64 k:=by have:=HK.out;unfold IsI64;omega
       clear h0 h1
       go_wp2_with fail
       have hs:=box_set (a:=.int .i64 k) (b:=.int .u8 0) (c:=.int .u8 0) (d:=.slice aq al.length cq) HB4.out.1
       rw [HE.out,HPK.out]
       exact ret_rr (r:=nd k 0 0 al) rfl rfl hs.1 rfl (RxF.sub (RxF.iff.2 ⟨_,rfl,⟨hki,by omega,by omega⟩,HB4.out.2.2.upd hs.2 (by simp)⟩) (fun b hb=>.inl (by simp [hb]))) (HB4.out.2.1.fresh hs.2 (fun b hb=>.inr (by simp at hb;subst hb;have:=HX.out.2.2.2.1;omega)))
end
end Rgx
end Go.Proofs.YtjclbjdkkdijbaaGreat
end
