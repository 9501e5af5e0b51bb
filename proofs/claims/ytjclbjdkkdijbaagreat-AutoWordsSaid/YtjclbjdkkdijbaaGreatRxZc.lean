/- Walks through package regex: normal. Conditions: none. Walks through package regex: Normal, nullable, Nullable. Conditions: none. -/
import Derived.Test.YtjclbjdkkdijbaaGreatRxL
set_option linter.unusedVariables false
set_option linter.unusedSimpArgs false
set_option linter.unusedSectionVars false
section
open Go.RowKit
namespace Go.Proofs.YtjclbjdkkdijbaaGreat
open L
namespace Rgx
open Rx
theorem RxF.byt {M:List Nat} {w:World} {r:Rx} {cs:List Value} (h:RxF M w r cs):Byt r:=by
 induction h with
 | mk k lo hi ks vk css a b c d e ih=>
  refine .mk k lo hi ks (by have:=a.2.1;omega) (by have:=a.2.1;omega) (by have:=a.2.2;omega) (by have:=a.2.2;omega) fun r hr=>?_
  obtain ⟨i,hi,rfl⟩:=List.getElem_of_mem hr
  exact ih i _ (List.getElem?_eq_getElem hi)
theorem NF.kids6 {x:Rx} (h:NF x) (hk:x.kind=6):∃ y,x.kids=[y]:=by
 cases h <;> simp only [Rx.kind] at hk <;> first|omega|exact ⟨_,rfl⟩
theorem fit_norm {k lo hi:Int} {ks:List Rx} (hb:Byt (nd k lo hi ks)) (hp:proper (nd k lo hi ks)=true):FitR (nd k lo hi (normL ks))∧∀ r∈ks,proper r=true∧Byt r:=by
 cases hb with
 | mk _ _ _ _ b1 b2 b3 b4 b5=>
 obtain ⟨h1,h2⟩:=proper_fit ⟨b1,b4⟩ hp
 refine ⟨⟨?_,?_,fun h=>?_⟩,fun r hr=>⟨h2 r hr,b5 r hr⟩⟩
 ·simp only [Rx.kind];unfold Fit at h1;omega
 ·simp only [Rx.kind];unfold Fit at h1;omega
 ·simp only [Rx.kind] at h
  have hl:ks.length=1:=by unfold Fit at h1;omega
  match ks,hl with
  | [x],_=>
   refine ⟨norm x,rfl,fun h6=>?_⟩
   exact (norm_nf x (b5 x (by simp)) (h2 x (by simp))).kids6 h6
section
variable {w w':World} {v:Value}
theorem three_boxes {M:List Nat} {r:Rx} {a1:Option Addr} {c1:Nat} {q0 q1 q2:Value} (hF:RxF M w r (rxC r.kind r.lo r.hi (.slice a1 r.kids.length c1))) (hM:∀ b∈M,b<w.heap.size) :
 ∃ w1 M1 rb nb,w1=((w.alloc (.cells (rxC r.kind r.lo r.hi (.slice a1 r.kids.length c1)).toArray 37)).alloc (.cells #[.int .i64 0,.int .u8 0,.int .u8 0,.slice none 0 0] 37)).alloc (.cells #[q0,q1,q2,.slice none 0 0] 37)∧rb=w.heap.size+1∧nb=w.heap.size+2∧M1=nb::rb::w.heap.size::M ∧
  Blk w1 w.heap.size (rxC r.kind r.lo r.hi (.slice a1 r.kids.length c1)) 37∧Blk w1 rb [.int .i64 0,.int .u8 0,.int .u8 0,.slice none 0 0] 37∧Blk w1 nb [q0,q1,q2,.slice none 0 0] 37∧Upd [] w w1∧w1.heap.size=w.heap.size+3∧RxF M1 w1 r (rxC r.kind r.lo r.hi (.slice a1 r.kids.length c1)) ∧
  (∀ b∈M1,b∈M∨w.heap.size≤b)∧(∀ b∈M1,b<w1.heap.size)∧(∀ b∈M,b∈M1)∧rb∈M1∧nb∈M1∧w.heap.size≤rb:=by
 obtain ⟨w1,M1,rb,rfl,rfl,rfl,h4,h5,h6,h7,h8,h9,h10,h11,h12,h13⟩:=two_boxes (w:=w) hF hM
 have b3:=Blk.new ((w.alloc (.cells (rxC r.kind r.lo r.hi (.slice a1 r.kids.length c1)).toArray 37)).alloc (.cells #[.int .i64 0,.int .u8 0,.int .u8 0,.slice none 0 0] 37)) [q0,q1,q2,.slice none 0 0] 37
 rw [h7] at b3
 have u3:=(Upd.refl [] ((w.alloc (.cells (rxC r.kind r.lo r.hi (.slice a1 r.kids.length c1)).toArray 37)).alloc (.cells #[.int .i64 0,.int .u8 0,.int .u8 0,.slice none 0 0] 37))).alloc (.cells #[q0,q1,q2,.slice none 0 0] 37)
 refine ⟨_,_,_,_,rfl,rfl,rfl,rfl,h4.upd u3 (by simp),h5.upd u3 (by simp),b3,h6.step u3,by simp,(h8.sub fun b hb=>?_).ext u3,fun b hb=>?_,fun b hb=>?_,fun b hb=>by simp [hb],by simp,by simp,by omega⟩
 ·rcases List.mem_cons.1 hb with rfl|hb
  ·right;rw [h7];omega
  ·exact .inl hb
 ·rcases List.mem_cons.1 hb with rfl|hb
  ·right;omega
  ·exact h9 b hb
 ·rcases List.mem_cons.1 hb with rfl|hb
  ·simp
  ·have:=h10 b hb
   have h14:=u3.size
   omega
set_option maxRecDepth 100000 in
set_option maxHeartbeats 8000000 in
theorem normal_calls:∀ (r:Rx) {M:List Nat} {w:World} {v:Value} {b:Nat},FM M w b→RxV M w r v→(∀ b∈M,b<w.heap.size)→proper r=true→nodes r≤400000 →
 Calls Tryz.prog 85 #[.map (some b),v] w fun e w'=>∃ v',e=.returned v'∧RxV M w' (norm r) v'∧Upd [] w w':=by
 intro r0
 induction r0 using Rx.ind with
 | h k0 lo0 hi0 ks0 ih=>
  intro M w v b hf hr hM hp hn
  have hbyt:Byt (nd k0 lo0 hi0 ks0):=by obtain ⟨cs,_,h⟩:=hr;exact h.byt
  obtain ⟨hfit,hkp⟩:=fit_norm hbyt hp
  have hnn:nodes (nd k0 lo0 hi0 (normL ks0))≤1000000:=by
   have h1:nodesL (normL ks0)≤2*nodesL ks0:=by
    clear ih hf hr hM hp hn hbyt hfit hkp
    induction ks0 with
    | nil=>simp [normL,nodesL]
    | cons x l ih2=>rw [normL,nodesL,nodesL];have:=norm_nodes x;omega
   rw [nodes] at hn ⊢
   omega
  generalize hR:nd k0 lo0 hi0 ks0=r at *
  have hks:ks0=r.kids:=by rw [←hR];rfl
  have hkk:nd k0 lo0 hi0 (normL ks0)=nd r.kind r.lo r.hi (normL r.kids):=by rw [←hR];rfl
  have hnorm:norm r=form (nd r.kind r.lo r.hi (normL r.kids)):=by rw [←hR];rfl
  rw [hkk] at hfit hnn
  have HZ:=Lib.hid (show r.kids.length≤400000∧∀ s∈r.kids,nodes s≤400000∧proper s=true from by
   rw [←hR] at hn ⊢
   rw [nodes] at hn
   have h1:=nodesL_len ks0
   exact ⟨by simp only [Rx.kids];omega,fun s hs=>by simp only [Rx.kids] at hs;have:=nodesL_mem hs;exact ⟨by omega,(hkp s hs).1⟩⟩)
  rw [hks] at ih
  have HI:=Lib.hid ih
  have HFT:=Lib.hid (And.intro hfit (And.intro hnn hnorm))
  clear hks hR ih hn hkp hbyt hfit hnn hnorm hkk hp
  obtain ⟨a1,c1,rfl,hF,hsc,hL⟩:=hr.shape
  obtain ⟨w1,M1,rb,nb,hw1,hrb,hnb,hM1,bA,bB,bN,uB,hz2,hF1,hnew,hlt,hsub,hin,hin2,hle⟩:=three_boxes (q0:=.int .i64 r.kind) (q1:=.int .u8 r.lo) (q2:=.int .u8 r.hi) hF hM
  have hL1:=(hL.sub hnew).ext uB
  have hf1:=(hf.sub hnew).ext uB
  obtain ⟨a',c',he,q1,q2,_⟩:=id hL.form
  cases he
  have HX:=Lib.hid (And.intro bB (And.intro uB (And.intro hF1 (And.intro hsub (And.intro hin (And.intro hin2 (And.intro hle hf1)))))))
  have HL:=Lib.hid (And.intro hL1 (And.intro hlt (And.intro hsc (And.intro bA bN))))
  have HNB:=Lib.hid hnb
  clear hr hF hM hsc hf
  go_enter Tryz.func85,Tryz.ntmps85
  go_upto_region 2 with fail
  change Code.wp _ _ _ _ (((w.alloc (.cells (rxC r.kind r.lo r.hi (.slice a1 r.kids.length c1)).toArray 37)).alloc (.cells #[.int .i64 0,.int .u8 0,.int .u8 0,.slice none 0 0] 37)).alloc (.cells #[.int .i64 r.kind,.int .u8 r.lo,.int .u8 r.hi,.slice none 0 0] 37))
  rw [←hw1,show w.heap.size+1+1=w.heap.size+2 from rfl,←hrb,←hnb]
  have k3:=bA.cell (i:=3) rfl
  have hne1:w.heap.size≠nb:=by omega
  have hne2:rb≠nb:=by omega
  have HNE:=Lib.hid (And.intro hne1 hne2)
  clear bA bB bN uB hF1 hnew hlt hsub hin hin2 hle hM1 hL hL1 hf1 hne1 hne2
  clear hw1 hrb hnb
  generalize hpa:w.heap.size=pa at *
  have HPA:=Lib.hid (And.intro hpa hz2)
  clear hpa hz2
  go_wp2_with fail
  go_loopw [18] (fun iv wr=>∃ (m:Nat) (acc:Value),iv=.int .i64 m∧m≤r.kids.length∧Blk wr nb [.int .i64 r.kind,.int .u8 r.lo,.int .u8 r.hi,acc] 37∧OwR 37 M1 wr acc (normL (r.kids.take m))∧(∀ q,acc.ownBlock=some q→w1.heap.size≤q)∧Upd [nb] w1 wr) (fun iv _=>r.kids.length - (intOf iv).toNat)
  case atStart=>exact ⟨0,_,rfl,Nat.zero_le _,HL.out.2.2.2.2,OwR.nil0,fun q hq=>by simp [Value.ownBlock] at hq,Upd.refl _ _⟩
  case round=>
   obtain ⟨m,acc,rfl,hm,hBN,hO,hq,hu⟩:=hrel
   have HO:=Lib.hid (And.intro hO (And.intro hq (And.intro hu hBN)))
   clear hO hq hu hBN
   by_cases hlt:m<r.kids.length
   ·have hli:(m:Int)<r.kids.length:=by omega
    have hr:=List.getElem?_eq_getElem hlt
    have hmem:=List.mem_of_getElem? hr
    have htk:normL (r.kids.take (m+1))=normL (r.kids.take m)++[norm r.kids[m]]:=by rw [List.take_add_one,hr,normL_map,normL_map,List.map_append];rfl
    generalize r.kids[m]=s at *
    have hM2:∀ b∈M1++acc.ownBlock.toList,b∈M1∨w1.heap.size≤b:=fun b hb=>by
     rcases List.mem_append.1 hb with hb|hb
     ·exact .inl hb
     ·exact .inr (HO.out.2.1 b (by simpa using hb))
    have hnb2:∀ b∈[nb],b∈M1++acc.ownBlock.toList:=fun b hb=>by simp at hb;subst hb;exact List.mem_append_left _ HX.out.2.2.2.2.2.1
    obtain ⟨g,off,a3,c3,rfl,hRF,e0,e1,e2,e3⟩:=((HL.out.1.sub hM2).upd HO.out.2.2.1 hnb2).kid hr
    have hfm:=(HX.out.2.2.2.2.2.2.2.sub hM2).upd HO.out.2.2.1 hnb2
    have HR:=Lib.hid (And.intro hRF (And.intro htk (And.intro hmem (And.intro hM2 hfm))))
    clear hRF hr hmem htk hM2 hfm hnb2
    go_upto_region 5 with fail
    have b2:=Blk.new wr (rxC s.kind s.lo s.hi (.slice a3 s.kids.length c3)) 37
    have u2:=(Upd.refl [] wr).alloc (.cells (rxC s.kind s.lo s.hi (.slice a3 s.kids.length c3)).toArray 37)
    change Code.wp _ _ _ _ (wr.alloc (.cells (rxC s.kind s.lo s.hi (.slice a3 s.kids.length c3)).toArray 37))
    generalize (wr.alloc (.cells (rxC s.kind s.lo s.hi (.slice a3 s.kids.length c3)).toArray 37))=w2 at *
    generalize wr.heap.size=sb at *
    have d0:=b2.cell (i:=0) rfl
    have d1:=b2.cell (i:=1) rfl
    have d2:=b2.cell (i:=2) rfl
    have d3:=b2.cell (i:=3) rfl
    have n3:=(HO.out.2.2.2.upd u2 (by simp)).cell (i:=3) rfl
    obtain ⟨css,o1,o2,o3,o4⟩:=id (HO.out.1.ext u2)
    have HO2:=Lib.hid (And.intro o1 (And.intro o2 (And.intro o3 (And.intro o4 (And.intro (HO.out.2.2.1.step u2) (HO.out.2.2.2.upd u2 (by simp)))))))
    have hsz:∀ b∈acc.ownBlock.toList,b<w2.heap.size:=by
     rcases o1.2 with ⟨rfl,_⟩|⟨gg,cap,cur,rfl,_,hgg,_⟩
     ·intro b hb;simp [Value.ownBlock] at hb
     ·intro b hb
      simp [Value.ownBlock] at hb
      subst hb
      exact (Array.getElem?_eq_some_iff.1 hgg).1
    have HC:=Lib.hid (fun (w5:World) (u5:Upd [] w2 w5)=>HI.out s HR.out.2.2.1 (HR.out.2.2.2.2.ext (u2.step u5)) ((HR.out.1.ext u2).ext u5).val (fun b hb=>by
     have h5:=u5.size
     rcases List.mem_append.1 hb with hb|hb
     ·have:=HL.out.2.1 b hb;have:=HO2.out.2.2.2.2.1.size;omega
     ·have:=hsz b hb;omega) (HZ.out.2 s HR.out.2.2.1).2 (HZ.out.2 s HR.out.2.2.1).1)
    have HLN:=Lib.hid (show (normL (r.kids.take m)).length≤400000 from by rw [normL_map,List.length_map,List.length_take];have:=HZ.out.1;omega)
    clear b2 u2 e0 e1 e2 e3 o1 o2 o3 o4 hsz
    go_wp2_with fail
    refine wp_region_ord 6 2 [0,1,2,3,7] [1,3] [0,1,2,3,4,5,6,7,8] (fun w'=>∃ x:Ext w2,w'=x.val) (by kernel_rfl) (by kernel_rfl) (Ext.of (by iterate 25 (first|exact Upd.refl _ _|assumption|refine Upd.alloc ?_ _|refine Upd.drew ?_|refine Upd.drewN ?_ _|refine Upd.dl ?_|refine Upd.step ?_ (Ext.upd _)|refine Upd.nil ?_|skip))) ?_
    repeat (first|(refine wpOrd_load rfl rfl rfl rfl (fun K hK=>?_);go_big_quiet_step (fail);refine wpQuiet_nil ?_;refine hK _ ?_;clear hK K)|(refine wpOrd_free rfl rfl rfl (fun K hK=>?_);go_big_quiet_step (fail);refine wpQuiet_nil ?_;refine hK _ ?_;clear hK K))
    refine wpOrd_fix rfl rfl (fun K hK=>?_)
    go_wp2_with (go_at_call 85;refine (HC.out _ (by iterate 25 (first|exact Upd.refl _ _|assumption|refine Upd.alloc ?_ _|refine Upd.drew ?_|refine Upd.drewN ?_ _|refine Upd.dl ?_|refine Upd.step ?_ (Ext.upd _)|refine Upd.nil ?_|skip))).mono ?_;rintro e w6 ⟨v6,rfl,r6,u6⟩;obtain ⟨a6,c6,rfl,hF6,_,_⟩:=r6.shape)
    have HU6:=Lib.hid (And.intro (show Upd [] w2 w6 from Upd.step (by iterate 25 (first|exact Upd.refl _ _|assumption|refine Upd.alloc ?_ _|refine Upd.drew ?_|refine Upd.drewN ?_ _|refine Upd.dl ?_|refine Upd.step ?_ (Ext.upd _)|refine Upd.nil ?_|skip)) u6) hF6)
    clear u6 r6 hF6
    refine ⟨fun _=>Ext.of HU6.out.1,?_⟩
    repeat (first|(refine wpOrd_load rfl rfl rfl rfl (fun K hK=>?_);go_big_quiet_step (fail);refine wpQuiet_nil ?_;refine hK _ ?_;clear hK K)|(refine wpOrd_free rfl rfl rfl (fun K hK=>?_);go_big_quiet_step (fail);refine wpQuiet_nil ?_;refine hK _ ?_;clear hK K))
    refine wpOrd_fix rfl rfl (fun K hK=>?_)
    go_wp2_with fail
    have NB:=Blk.new w6 (rxC (norm s).kind (norm s).lo (norm s).hi (.slice a6 (norm s).kids.length c6)) 37
    have UB:=(Upd.refl [] w6).alloc (.cells (rxC (norm s).kind (norm s).lo (norm s).hi (.slice a6 (norm s).kids.length c6)).toArray 37)
    change _∧_
    have HNB2:=Lib.hid (And.intro (show Blk (w6.alloc (.cells #[.int .i64 (norm s).kind,.int .u8 (norm s).lo,.int .u8 (norm s).hi,.slice a6 (norm s).kids.length c6] 37)) w6.heap.size [.int .i64 (norm s).kind,.int .u8 (norm s).lo,.int .u8 (norm s).hi,.slice a6 (norm s).kids.length c6] 37 from NB) (show Upd [] w6 (w6.alloc (.cells #[.int .i64 (norm s).kind,.int .u8 (norm s).lo,.int .u8 (norm s).hi,.slice a6 (norm s).kids.length c6] 37)) from UB))
    clear NB UB
    generalize (w6.alloc (.cells #[.int .i64 (norm s).kind,.int .u8 (norm s).lo,.int .u8 (norm s).hi,.slice a6 (norm s).kids.length c6] 37))=wB at *
    generalize w6.heap.size=gB at *
    have HUB:=Lib.hid (And.intro (HU6.out.1.step HNB2.out.2) (HU6.out.2.ext HNB2.out.2))
    refine ⟨fun _=>Ext.of HUB.out.1,?_⟩
    repeat (first|(refine wpOrd_load rfl rfl rfl rfl (fun K hK=>?_);go_big_quiet_step (fail);refine wpQuiet_nil ?_;refine hK _ ?_;clear hK K)|(refine wpOrd_free rfl rfl rfl (fun K hK=>?_);go_big_quiet_step (fail);refine wpQuiet_nil ?_;refine hK _ ?_;clear hK K))
    refine wpOrd_fix rfl rfl (fun K hK=>?_)
    refine wpList_app rfl _ _ _ rfl 37 4 40 _ Tryz.underlying35 infoRx rfl (by decide) acc _ _ rfl (ownsRow_updL HO2.out.1 HUB.out.1 (by simp)) gB 1 1 (rxC (norm s).kind (norm s).lo (norm s).hi (.slice a6 (norm s).kids.length c6)) 37 rfl rfl HNB2.out.1 (by simp [rxC,Value.oneCell']) (by omega) (by have:=HLN.out;unfold maxLen;omega) (by have:=HLN.out;omega) ?_
    intro g7 c7 w7 o7 u7 k7
    simp only [Act.put,List.setIfInBounds_toArray,List.set_cons_zero,List.set_cons_succ]
    have nb7:Blk w7 nb [.int .i64 r.kind,.int .u8 r.lo,.int .u8 r.hi,acc] 37:=((HO2.out.2.2.2.2.2.upd HUB.out.1 (by simp)).upd u7 (fun hm=>by
     have h1:=HO.out.2.1 nb (by simpa using hm)
     have:=HNB.out
     have:=HPA.out.1
     have:=HPA.out.2
     omega))
    have n3':=nb7.cell (i:=3) rfl
    have nfr:∀ q,w7.frozen? ⟨nb,q,none⟩=false:=nb7.free
    have H7:=Lib.hid (And.intro o7 (And.intro u7 (And.intro k7 nb7)))
    clear o7 u7 k7 nb7 n3 d0 d1 d2 d3
    go_wp2_with fail
    refine ⟨fun hC=>absurd hC (by decide),?_⟩
    repeat (first|(refine wpOrd_load rfl rfl rfl rfl (fun K hK=>?_);go_big_quiet_step (fail);refine wpQuiet_nil ?_;refine hK _ ?_;clear hK K)|(refine wpOrd_free rfl rfl rfl (fun K hK=>?_);go_big_quiet_step (fail);refine wpQuiet_nil ?_;refine hK _ ?_;clear hK K))
    refine wpOrd_fix rfl rfl (fun K hK=>?_)
    go_wp2_with fail
    refine ⟨fun hC=>absurd hC (by decide),?_⟩
    refine wpOrd_nil ?_
    go_wp2_with fail
    have HQ:=OwR.push (w:=wB) (w':=w7) (r:=norm s) HO2.out.2.1 (fun b hb=>by have:=HL.out.2.1 b hb;have:=HO2.out.2.2.2.2.1.size;have:=HUB.out.1.size;omega) HO2.out.2.2.1 rfl (fun i r hr=>(HO2.out.2.2.2.1 i r hr).ext HUB.out.1) HUB.out.2 H7.out.1 H7.out.2.1 (by
     rcases H7.out.2.2.1 with h|h
     ·exact .inl h.symm
     ·exact .inr ⟨g7,rfl,Nat.le_of_eq h.symm⟩)
    rw [←HR.out.2.1] at HQ
    have us:Upd [nb] w7 (w7.setCell ⟨nb,3,none⟩ (.slice (some ⟨g7,0,none⟩) ((normL (r.kids.take m)).length+1) c7)):=(Upd.refl [nb] w7).set (p:=⟨nb,3,none⟩) (by simp) _
    refine ⟨⟨m+1,_,by go_num,by omega,H7.out.2.2.2.set 3 _,HQ.upd us (fun b hb=>by simp at hb;subst hb;exact HX.out.2.2.2.2.2.1),fun q hq=>?_,?_⟩,by simp [intOf];omega⟩
    ·simp only [Value.ownBlock,Option.some.injEq] at hq
     subst hq
     rcases H7.out.2.2.1 with h|h
     ·exact HO.out.2.1 _ h
     ·have:=HO2.out.2.2.2.2.1.size;have:=HUB.out.1.size;omega
    ·exact ((HO2.out.2.2.2.2.1.step HUB.out.1).fresh H7.out.2.1 (fun b hb=>.inr (HO.out.2.1 b (by simpa using hb)))).trans us
   ·have hme:m=r.kids.length:=by omega
    subst hme
    rw [List.take_length] at HO
    obtain ⟨ac,cc,rfl,_⟩:=id HO.out.1.list.form
    have hnb2:∀ b∈[nb],b∈M1:=fun b hb=>by simp at hb;subst hb;exact HX.out.2.2.2.2.2.1
    have hnode:RxV M1 wr (nd r.kind r.lo r.hi (normL r.kids)) (.agg #[.int .i64 r.kind,.int .u8 r.lo,.int .u8 r.hi,.slice ac (normL r.kids).length cc]):=RxV.iff.2 ⟨_,rfl,HL.out.2.2.1,HO.out.1.list⟩
    obtain ⟨f,gf,caps,hmf,hfk,eg,hcall⟩:=form_at (HX.out.2.2.2.2.2.2.2.upd HO.out.2.2.1 hnb2) hnode (fun b hb=>by have:=HL.out.2.1 b hb;have:=HO.out.2.2.1.size;omega) HFT.out.2.1 HFT.out.1
    rw [←HFT.out.2.2] at hcall
    have HCL:=Lib.hid hcall
    have HV:=Lib.hid (show f r.kind=_ from hfk)
    have HMF:=Lib.hid hmf
    have hkb:=hfk
    have HKI:=Lib.hid (show 0≤r.kind∧r.kind≤7 from ⟨HFT.out.1.lo,HFT.out.1.hi⟩)
    have bA:=HL.out.2.2.2.1.upd HO.out.2.2.1 (by simp;exact HNE.out.1)
    have bR:=HX.out.1.upd HO.out.2.2.1 (by simp;exact HNE.out.2)
    have k0:=bA.cell (i:=0) rfl
    have n0:=HO.out.2.2.2.cell (i:=0) rfl
    have n1:=HO.out.2.2.2.cell (i:=1) rfl
    have n2:=HO.out.2.2.2.cell (i:=2) rfl
    have n3:=HO.out.2.2.2.cell (i:=3) rfl
    have HBR:=Lib.hid bR
    clear bA bR hfk hmf hcall hnode hnb2 hkb k3
    go_wp2_with (first|(at_lookup;refine wpList_mflook (k:=3) Tryz.underlying3 Tryz.underlying136 infoForm _ _ rfl rfl b 8 f r.kind rfl rfl HMF.out ⟨by have:=HKI.out;omega,by have:=HKI.out;omega⟩ ?_;rw [HV.out];simp only [Option.getD_some])|((with_reducible refine HCL.out.mono ?_);rintro e w6 ⟨v6,rfl,r6,u6⟩;obtain ⟨a6,c6,rfl,hF6,_,_⟩:=r6.shape;have bR:=HBR.out.upd u6 (by simp);have r0:=bR.cell (i:=0) rfl;have r1:=bR.cell (i:=1) rfl;have r2:=bR.cell (i:=2) rfl;have r3:=bR.cell (i:=3) rfl;have rf:∀ q,w6.frozen? ⟨rb,q,none⟩=false:=bR.free;have H6:=Lib.hid (And.intro bR (And.intro u6 hF6));clear bR u6 hF6 r6))
    have hs:=box_set (a:=.int .i64 (norm r).kind) (b:=.int .u8 (norm r).lo) (c:=.int .u8 (norm r).hi) (d:=.slice a6 (norm r).kids.length c6) H6.out.1
    exact ret_rx rfl rfl hs.1 rfl ((H6.out.2.2.upd hs.2 (by simpa using HX.out.2.2.2.2.1)).sub (fun b hb=>.inl (HX.out.2.2.2.1 b hb))) ((((HX.out.2.1).fresh HO.out.2.2.1 (fun b hb=>.inr (by simp at hb;subst hb;have:=HNB.out;have:=HPA.out.1;omega))).step H6.out.2.1).fresh hs.2 (fun b hb=>.inr (by simp at hb;subst hb;have:=HX.out.2.2.2.2.2.2.1;have:=HPA.out.1;omega)))
end
end Rgx
end Go.Proofs.YtjclbjdkkdijbaaGreat
end
section
open Go.RowKit
namespace Go.Proofs.YtjclbjdkkdijbaaGreat
open L
namespace Rgx
open Rx
def nErr (r:Rx):Int:=if vErr r≠0 then vErr r else limE (norm r)
def nRes (r:Rx):Rx:=if vErr r≠0 then rNone else limR (norm r)
theorem vErr_zero {r:Rx} (h:vErr r=0):nodes r≤64∧proper r=true:=by
 unfold vErr at h
 split at h
 ·omega
 ·split at h
  ·rename_i h1 h2;exact ⟨by omega,h2⟩
  ·omega
section
variable {w w':World} {v:Value} {M:List Nat}
set_option maxRecDepth 100000 in
set_option maxHeartbeats 8000000 in
theorem Normal_calls {r:Rx} (hr:RxV M w r v) (hM:∀ b∈M,b<w.heap.size) :
 Calls Tryz.prog 44 #[v] w fun e w'=>∃ v',e=.returned (.tuple #[v',.int .i64 (nErr r)])∧RxV M w' (nRes r) v'∧Upd [] w w':=by
 obtain ⟨a1,c1,rfl,hF,_,_⟩:=hr.shape
 obtain ⟨w1,M1,rb,hw1,hrb,hM1,bA,bB,uB,hz2,hF1,hnew,hlt,hsub,hin,hle⟩:=two_boxes hF hM
 have HX:=Lib.hid (And.intro bB (And.intro uB (And.intro hF1 (And.intro hsub (And.intro hin (And.intro hle hlt))))))
 have HT:=Lib.hid (valid_calls (hF1.sub (M':=[]) (by simp)).val)
 clear hr hF hM
 go_enter Tryz.func44,Tryz.ntmps44
 go_upto_region 1 with fail
 change Code.wp _ _ _ _ ((w.alloc (.cells (rxC r.kind r.lo r.hi (.slice a1 r.kids.length c1)).toArray 37)).alloc (.cells #[.int .i64 0,.int .u8 0,.int .u8 0,.slice none 0 0] 37))
 rw [←hw1,←hrb]
 have k0:=bA.cell (i:=0) rfl
 have k1:=bA.cell (i:=1) rfl
 have k2:=bA.cell (i:=2) rfl
 have k3:=bA.cell (i:=3) rfl
 clear bA bB uB hz2 hF1 hnew hlt hsub hin hle hM1
 clear hw1 hrb
 generalize hpa:w.heap.size=pa at *
 have HPA:=Lib.hid hpa
 clear hpa
 by_cases he:vErr r=0
 ·have HV:=Lib.hid (vErr_zero he)
  have HE:=Lib.hid (And.intro (show nErr r=limE (norm r) by rw [nErr,if_neg (by omega)]) (show nRes r=limR (norm r) by rw [nRes,if_neg (by omega)]))
  rw [he] at HT
  clear he
  go_upto_region 4 with (first|(with_reducible refine HT.out.mono ?_);rintro e w2 ⟨rfl,hu⟩)
  have g0:=hu.some k0 (by simp)
  have g1:=hu.some k1 (by simp)
  have g2:=hu.some k2 (by simp)
  have g3:=hu.some k3 (by simp)
  have HU2:=Lib.hid hu
  have HLT2:=Lib.hid (show ∀ b∈M1,b<w2.heap.size from fun b hb=>by have:=HX.out.2.2.2.2.2.2 b hb;have:=hu.size;omega)
  clear k0 k1 k2 k3 hu
  go_wp2_with fail
  refine wp_region_ord 2 1 [1,4,5,7] [1] [1,0,2,3,4,5,6,7] (fun w'=>∃ x:Ext w2,w'=x.val) (by kernel_rfl) (by kernel_rfl) (Ext.of (by iterate 25 (first|exact Upd.refl _ _|assumption|refine Upd.alloc ?_ _|refine Upd.drew ?_|refine Upd.drewN ?_ _|refine Upd.dl ?_|refine Upd.step ?_ (Ext.upd _)|refine Upd.nil ?_|skip))) ?_
  repeat (first|(refine wpOrd_load rfl rfl rfl rfl (fun K hK=>?_);go_big_quiet_step (fail);refine wpQuiet_nil ?_;refine hK _ ?_;clear hK K)|(refine wpOrd_free rfl rfl rfl (fun K hK=>?_);go_big_quiet_step (fail);refine wpQuiet_nil ?_;refine hK _ ?_;clear hK K))
  refine wpOrd_fix rfl rfl (fun K hK=>?_)
  have HF:=Lib.hid (forms_calls (M:=M1) (w:=w2.drew) HLT2.out)
  go_wp2_with ((with_reducible refine HF.out.mono ?_);rintro e w3 ⟨b,rfl,f3,hb,u3⟩)
  have HU3:=Lib.hid (show Upd [] w2 w3 from (Upd.refl [] w2).drew.step u3)
  have HFM:=Lib.hid f3
  clear u3 f3 hb
  refine ⟨fun _=>Ext.of HU3.out,?_⟩
  repeat (first|(refine wpOrd_load rfl rfl rfl rfl (fun K hK=>?_);go_big_quiet_step (fail);refine wpQuiet_nil ?_;refine hK _ ?_;clear hK K)|(refine wpOrd_free rfl rfl rfl (fun K hK=>?_);go_big_quiet_step (fail);refine wpQuiet_nil ?_;refine hK _ ?_;clear hK K))
  refine wpOrd_fix rfl rfl (fun K hK=>?_)
  have HNM:=Lib.hid (normal_calls r HFM.out ((HX.out.2.2.1.ext (HU2.out.step HU3.out))).val (fun b hb=>by have:=HLT2.out b hb;have:=HU3.out.size;omega) HV.out.2 (by have:=HV.out.1;omega))
  go_wp2_with ((with_reducible refine HNM.out.mono ?_);rintro e w4 ⟨v4,rfl,o4,u4⟩)
  have HN4:=Lib.hid (And.intro u4 o4)
  clear u4 o4
  refine ⟨fun hC=>absurd hC (by decide),?_⟩
  repeat (first|(refine wpOrd_load rfl rfl rfl rfl (fun K hK=>?_);go_big_quiet_step (fail);refine wpQuiet_nil ?_;refine hK _ ?_;clear hK K)|(refine wpOrd_free rfl rfl rfl (fun K hK=>?_);go_big_quiet_step (fail);refine wpQuiet_nil ?_;refine hK _ ?_;clear hK K))
  refine wpOrd_fix rfl rfl (fun K hK=>?_)
  have HL:=Lib.hid (limited_calls HN4.out.2 (fun b hb=>by have:=HLT2.out b hb;have:=HU3.out.size;have:=HN4.out.1.size;omega) (by have:=norm_nodes r;have:=HV.out.1;omega))
  obtain ⟨a4,c4,rfl,_⟩:=HN4.out.2.shape
  go_wp2_with ((with_reducible refine HL.out.mono ?_);rintro e w5 ⟨v5,rfl,o5,u5⟩;obtain ⟨a5,c5,rfl,hF5,_,_⟩:=o5.shape)
  have U5:=(HU2.out.step HU3.out).step (HN4.out.1.step u5)
  have bR:=HX.out.1.upd U5 (by simp)
  have r0:=bR.cell (i:=0) rfl
  have r1:=bR.cell (i:=1) rfl
  have r2:=bR.cell (i:=2) rfl
  have r3:=bR.cell (i:=3) rfl
  have rf:∀ q,w5.frozen? ⟨rb,q,none⟩=false:=bR.free
  have H5:=Lib.hid (And.intro bR (And.intro U5 hF5))
  clear bR U5 u5 o5 hF5 g0 g1 g2 g3
  refine ⟨fun hC=>absurd hC (by decide),?_⟩
  repeat (first|(refine wpOrd_load rfl rfl rfl rfl (fun K hK=>?_);go_big_quiet_step (fail);refine wpQuiet_nil ?_;refine hK _ ?_;clear hK K)|(refine wpOrd_free rfl rfl rfl (fun K hK=>?_);go_big_quiet_step (fail);refine wpQuiet_nil ?_;refine hK _ ?_;clear hK K))
  refine wpOrd_fix rfl rfl (fun K hK=>?_)
  go_wp2_with fail
  refine ⟨fun hC=>absurd hC (by decide),?_⟩
  repeat (first|(refine wpOrd_load rfl rfl rfl rfl (fun K hK=>?_);go_big_quiet_step (fail);refine wpQuiet_nil ?_;refine hK _ ?_;clear hK K)|(refine wpOrd_free rfl rfl rfl (fun K hK=>?_);go_big_quiet_step (fail);refine wpQuiet_nil ?_;refine hK _ ?_;clear hK K))
  refine wpOrd_nil ?_
  go_wp2_with fail
  have hs:=box_set (a:=.int .i64 (limR (norm r)).kind) (b:=.int .u8 (limR (norm r)).lo) (c:=.int .u8 (limR (norm r)).hi) (d:=.slice a5 (limR (norm r)).kids.length c5) H5.out.1
  rw [HE.out.1,HE.out.2]
  exact ret_rx2 rfl rfl rfl hs.1 rfl ((H5.out.2.2.upd hs.2 (by simpa using HX.out.2.2.2.2.1)).sub (fun b hb=>.inl (HX.out.2.2.2.1 b hb))) ((HX.out.2.1.step H5.out.2.1).fresh hs.2 (fun b hb=>.inr (by simp at hb;subst hb;have:=HX.out.2.2.2.2.2.1;have:=HPA.out;omega)))
 ·have HE:=Lib.hid (And.intro (show nErr r=vErr r by rw [nErr,if_pos he]) (show nRes r=rNone by rw [nRes,if_pos he]))
  have hb:(vErr r != 0)=true:=by simpa using he
  clear he
  generalize vErr r=er at *
  go_upto_region 3 with (first|(with_reducible refine HT.out.mono ?_);rintro e w2 ⟨rfl,hu⟩)
  have bR:=HX.out.1.upd hu (by simp)
  have r0:=bR.cell (i:=0) rfl
  have r1:=bR.cell (i:=1) rfl
  have r2:=bR.cell (i:=2) rfl
  have r3:=bR.cell (i:=3) rfl
  have rf:∀ q,w2.frozen? ⟨rb,q,none⟩=false:=bR.free
  have HB:=Lib.hid (And.intro bR hu)
  clear bR hu
  go_wp2_with fail
  have hs:=box_set (a:=.int .i64 0) (b:=.int .u8 0) (c:=.int .u8 0) (d:=.slice none 0 0) HB.out.1
  rw [HE.out.1,HE.out.2]
  exact ret_rx2 rfl rfl rfl hs.1 rfl rNone_F ((HX.out.2.1.step HB.out.2).fresh hs.2 (fun b hb=>.inr (by simp at hb;subst hb;have:=HX.out.2.2.2.2.2.1;have:=HPA.out;omega)))
set_option maxRecDepth 100000 in
set_option maxHeartbeats 8000000 in
theorem idxNul_calls {ks:List Rx} {vl:Value} {p:Rx→Bool} (hl:RxL [] w ks vl)
 (hp:∀ r∈ks,∀ (w':World) (v:Value),Upd [] w w'→RxV [] w' r v→Calls Tryz.prog 90 #[v] w' fun e w2=>e=.returned (.bool (p r))∧Upd [] w' w2) :
 Calls Tryz.prog 136 #[vl,.func (.func 90) #[] #[]] w fun e w'=>e=.returned (.int .i64 (idxR p ks))∧Upd [] w w':=by
 obtain ⟨a,c,rfl,q1,q2,_⟩:=id hl.form
 have HL:=Lib.hid hl
 have HP:=Lib.hid hp
 clear hl hp
 go_enter Tryz.func136,Tryz.ntmps136
 go_wp2_with fail
 go_loopw [8] (fun i wr=>∃ k:Nat,i=.int .i64 k∧k≤ks.length∧(∀ j,j<k→∀ x,ks[j]?=some x→p x=false)∧∃ x:Ext w,wr=x.val) (fun i _=>ks.length - (intOf i).toNat)
 case atStart=>exact ⟨0,rfl,Nat.zero_le _,fun j hj=>by omega,Ext.of (by iterate 25 (first|exact Upd.refl _ _|assumption|refine Upd.alloc ?_ _|refine Upd.drew ?_|refine Upd.drewN ?_ _|refine Upd.dl ?_|refine Upd.step ?_ (Ext.upd _)|refine Upd.nil ?_|skip))⟩
 case round=>
  obtain ⟨k,rfl,hk,hlo,x,rfl⟩:=hrel
  have HLO:=Lib.hid hlo
  clear hlo
  by_cases hlt:k<ks.length
  ·have hli:(k:Int)<ks.length:=by omega
   have hr:=List.getElem?_eq_getElem hlt
   have hmem:=List.mem_of_getElem? hr
   generalize ks[k]=r at *
   obtain ⟨g,off,a2,c2,rfl,hRF,e0,e1,e2,e3⟩:=(HL.out.ext x.upd).kid hr
   have HX:=Lib.hid (HP.out r hmem x.val _ x.upd hRF.val)
   have HR:=Lib.hid hr
   clear hRF hmem hr
   cases hpr:p r with
   | true=>
    rw [hpr] at HX
    have HE:=Lib.hid (idxR_at HR.out hpr HLO.out)
    clear hpr
    go_wp2_with (first|(with_reducible refine HX.out.mono ?_);rintro e w3 ⟨rfl,hu⟩)
    go_ret
    rw [HE.out]
    exact ⟨rfl,x.upd.step hu⟩
   | false=>
    rw [hpr] at HX
    have HE:=Lib.hid hpr
    clear hpr
    go_wp2_with (first|(with_reducible refine HX.out.mono ?_);rintro e w3 ⟨rfl,hu⟩)
    refine ⟨⟨k+1,by go_num,by omega,fun j hj y hy=>?_,Ext.of (x.upd.step hu)⟩,by simp [intOf];omega⟩
    rcases Nat.lt_or_ge j k with h|h
    ·exact HLO.out j h y hy
    ·obtain rfl:j=k:=by omega
     rw [HR.out] at hy
     cases hy
     exact HE.out
  ·have hme:k=ks.length:=by omega
   subst hme
   have HE:=Lib.hid (idxR_none HLO.out)
   go_wp2_with fail
   go_ret
   rw [HE.out]
   exact ⟨rfl,x.upd⟩
theorem hasNul_calls {ks:List Rx} {vl:Value} (hl:RxL [] w ks vl) (hp:∀ r∈ks,∀ (w':World) (v:Value),Upd [] w w'→RxV [] w' r v→Calls Tryz.prog 90 #[v] w' fun e w2=>e=.returned (.bool (nul r))∧Upd [] w' w2) :
 Calls Tryz.prog 118 #[vl,.func (.func 90) #[] #[]] w fun e w'=>e=.returned (.bool (ks.any nul))∧Upd [] w w':=by
 have HI:=Lib.hid (idxNul_calls hl hp)
 have HR:=Lib.hid (idxR_any nul ks)
 obtain ⟨a,c,rfl,_⟩:=hl.form
 clear hl hp
 go_enter Tryz.func118,Tryz.ntmps118
 go_wp2_with (first|(with_reducible refine HI.out.mono ?_);rintro e w3 ⟨rfl,hu⟩)
 go_ret
 rw [←HR.out]
 exact ⟨rfl,hu⟩
theorem nul_eq (r:Rx):nul r=if r.kind=1∨r.kind=7 then true else if r.kind=3∨r.kind=5 then r.kids.all nul else if r.kind=4 then r.kids.any nul else if r.kind=6 then !((r.kids.map nul).headD true) else false:=by
 obtain ⟨k,lo,hi,ks⟩:=r
 rw [nul]
 simp only [Rx.kind,Rx.kids,nulL_map,List.all_map,List.any_map]
 rfl
theorem all_take_succ {ks:List Rx} {m:Nat} {s:Rx} (h:ks[m]?=some s) (h1:(ks.take m).all nul=true) (h2:nul s=true):(ks.take (m+1)).all nul=true:=by
 rw [List.take_add_one,h,List.all_append,h1]
 simp [h2]
theorem all_bad {ks:List Rx} {m:Nat} {s:Rx} (h:ks[m]?=some s) (h2:nul s=false):ks.all nul=false:=by
 cases hp:ks.all nul with
 | false=>rfl
 | true=>rw [List.all_eq_true] at hp;rw [hp s (List.mem_of_getElem? h)] at h2;cases h2
set_option maxRecDepth 100000 in
set_option maxHeartbeats 8000000 in
theorem nullable_calls:∀ (r:Rx) {w:World} {v:Value},RxV [] w r v→proper r=true→Calls Tryz.prog 90 #[v] w fun e w'=>e=.returned (.bool (nul r))∧Upd [] w w':=by
 intro r0
 induction r0 using Rx.ind with
 | h k0 lo0 hi0 ks0 ih=>
  intro w v hr hp
  have hbyt:Byt (nd k0 lo0 hi0 ks0):=by obtain ⟨cs,_,h⟩:=hr;exact h.byt
  obtain ⟨hfit,hkp⟩:Fit k0 lo0 hi0 ks0∧∀ r∈ks0,proper r=true:=by
   cases hbyt with
   | mk _ _ _ _ b1 b2 b3 b4 b5=>exact proper_fit ⟨b1,b4⟩ hp
  have hk6:k0=6→∃ x,ks0=[x]:=fun h=>by
   have:ks0.length=1:=by unfold Fit at hfit;omega
   match ks0,this with
   | [x],_=>exact ⟨x,rfl⟩
  have hkr:0≤k0∧k0≤7:=by unfold Fit at hfit;omega
  generalize hR:nd k0 lo0 hi0 ks0=r at *
  have hks:ks0=r.kids:=by rw [←hR];rfl
  have hkk:k0=r.kind:=by rw [←hR];rfl
  subst hks hkk
  have HN:=Lib.hid (nul_eq r)
  have HI:=Lib.hid (fun (s:Rx) (hs:s∈r.kids) (w:World) (v:Value) (h:RxV [] w s v)=>ih s hs h (hkp s hs))
  have H6:=Lib.hid hk6
  clear hR ih hkp hk6 hfit hbyt hp
  obtain ⟨a1,c1,rfl,hF,hsc,hL⟩:=hr.shape
  obtain ⟨a',c',he,q1,q2,_⟩:=id hL.form
  cases he
  have HL:=Lib.hid hL
  clear hr hF hsc hL
  go_enter Tryz.func90,Tryz.ntmps90
  go_upto_region 1 with fail
  have bA:=Blk.new w (rxC r.kind r.lo r.hi (.slice a1 r.kids.length c1)) 37
  have uA:=(Upd.refl [] w).alloc (.cells (rxC r.kind r.lo r.hi (.slice a1 r.kids.length c1)).toArray 37)
  change Code.wp _ _ _ _ (w.alloc (.cells (rxC r.kind r.lo r.hi (.slice a1 r.kids.length c1)).toArray 37))
  generalize (w.alloc (.cells (rxC r.kind r.lo r.hi (.slice a1 r.kids.length c1)).toArray 37))=w1 at *
  have k0:=bA.cell (i:=0) rfl
  have k3:=bA.cell (i:=3) rfl
  have HU:=Lib.hid uA
  clear bA uA
  generalize w.heap.size=pb at *
  rcases (by omega:r.kind=0∨r.kind=2∨r.kind=1∨r.kind=7∨r.kind=3∨r.kind=5∨r.kind=4∨r.kind=6) with h|h|h|h|h|h|h|h
  ·have HE:=Lib.hid (show nul r=false by rw [HN.out,h];simp)
   rw [h] at k0 ⊢
   clear h hkr
   go_wp2_with fail
   go_ret
   rw [HE.out]
   exact ⟨rfl,HU.out⟩
  ·have HE:=Lib.hid (show nul r=false by rw [HN.out,h];simp)
   rw [h] at k0 ⊢
   clear h hkr
   go_wp2_with fail
   go_ret
   rw [HE.out]
   exact ⟨rfl,HU.out⟩
  ·have HE:=Lib.hid (show nul r=true by rw [HN.out,h];simp)
   rw [h] at k0 ⊢
   clear h hkr
   go_wp2_with fail
   go_ret
   rw [HE.out]
   exact ⟨rfl,HU.out⟩
  ·have HE:=Lib.hid (show nul r=true by rw [HN.out,h];simp)
   rw [h] at k0 ⊢
   clear h hkr
   go_wp2_with fail
   go_ret
   rw [HE.out]
   exact ⟨rfl,HU.out⟩
  iterate 2
   ·have HE:=Lib.hid (show nul r=r.kids.all nul by rw [HN.out,h];simp)
    rw [h] at k0 ⊢
    clear h hkr
    go_wp2_with fail
    go_loopw [16] (fun i wr=>∃ m:Nat,i=.int .i64 m∧m≤r.kids.length∧(r.kids.take m).all nul=true∧∃ x:Ext w1,wr=x.val) (fun i _=>r.kids.length - (intOf i).toNat)
    case atStart=>exact ⟨0,rfl,Nat.zero_le _,rfl,Ext.of (by iterate 25 (first|exact Upd.refl _ _|assumption|refine Upd.alloc ?_ _|refine Upd.drew ?_|refine Upd.drewN ?_ _|refine Upd.dl ?_|refine Upd.step ?_ (Ext.upd _)|refine Upd.nil ?_|skip))⟩
    case round=>
     obtain ⟨m,rfl,hm,hp,x,rfl⟩:=hrel
     have HPM:=Lib.hid hp
     clear hp
     by_cases hlt:m<r.kids.length
     ·have hli:(m:Int)<r.kids.length:=by omega
      have hr:=List.getElem?_eq_getElem hlt
      have hmem:=List.mem_of_getElem? hr
      generalize r.kids[m]=s at *
      obtain ⟨g,off,a2,c2,rfl,hRF,e0,e1,e2,e3⟩:=(HL.out.ext (HU.out.step x.upd)).kid hr
      have HRR:=Lib.hid (And.intro hRF (And.intro hmem hr))
      clear hRF hr hmem
      go_upto_region 10 with fail
      have b2:=Blk.new x.val (rxC s.kind s.lo s.hi (.slice a2 s.kids.length c2)) 37
      have u2:=(Upd.refl [] x.val).alloc (.cells (rxC s.kind s.lo s.hi (.slice a2 s.kids.length c2)).toArray 37)
      change Code.wp _ _ _ _ (x.val.alloc (.cells (rxC s.kind s.lo s.hi (.slice a2 s.kids.length c2)).toArray 37))
      generalize (x.val.alloc (.cells (rxC s.kind s.lo s.hi (.slice a2 s.kids.length c2)).toArray 37))=w2 at *
      generalize x.val.heap.size=sb at *
      have d0:=b2.cell (i:=0) rfl
      have d1:=b2.cell (i:=1) rfl
      have d2:=b2.cell (i:=2) rfl
      have d3:=b2.cell (i:=3) rfl
      have HC:=Lib.hid (HI.out s HRR.out.2.1 _ _ ((HRR.out.1.ext u2).val))
      have HU2:=Lib.hid (x.upd.step u2)
      clear b2 u2
      cases hpr:nul s with
      | true=>
       rw [hpr] at HC
       have HQ:=Lib.hid (all_take_succ HRR.out.2.2 HPM.out hpr)
       clear hpr
       go_wp2_with (first|(with_reducible refine HC.out.mono ?_);rintro e w3 ⟨rfl,hu⟩)
       exact ⟨⟨m+1,by go_num,by omega,HQ.out,Ext.of (HU2.out.step hu)⟩,by simp [intOf];omega⟩
      | false=>
       rw [hpr] at HC
       have HQ:=Lib.hid (all_bad HRR.out.2.2 hpr)
       clear hpr
       go_wp2_with (first|(with_reducible refine HC.out.mono ?_);rintro e w3 ⟨rfl,hu⟩)
       go_ret
       rw [HE.out,HQ.out]
       exact ⟨rfl,(HU.out.step HU2.out).step hu⟩
     ·have hme:m=r.kids.length:=by omega
      subst hme
      rw [List.take_length] at HPM
      go_wp2_with fail
      go_ret
      rw [HE.out,HPM.out]
      exact ⟨rfl,HU.out.step x.upd⟩
  ·have HE:=Lib.hid (show nul r=r.kids.any nul by rw [HN.out,h];simp)
   rw [h] at k0 ⊢
   clear h hkr
   have HC:=Lib.hid (hasNul_calls (HL.out.ext HU.out) (fun s hs w' v' _ hv=>HI.out s hs w' v' hv))
   go_wp2_with (first|(with_reducible refine HC.out.mono ?_);rintro e w3 ⟨rfl,hu⟩)
   go_ret
   rw [HE.out]
   exact ⟨rfl,HU.out.step hu⟩
  ·obtain ⟨x,hx⟩:=H6.out h
   have HE:=Lib.hid (show nul r=!(nul x) by rw [HN.out,h,hx];simp)
   have hl:r.kids.length=1:=by rw [hx];rfl
   obtain ⟨g,off,a2,c2,rfl,hRF,e0,e1,e2,e3⟩:=(HL.out.ext HU.out).kid (i:=0) (r:=x) (by rw [hx];rfl)
   rw [Nat.zero_mul,Nat.add_zero] at e0 e1 e2 e3
   have HC:=Lib.hid (HI.out x (by rw [hx];simp) _ _ hRF.val)
   rw [h] at k0 ⊢
   rw [hl] at k3
   clear h hkr hRF hx hl
   go_wp2_with (first|(with_reducible refine HC.out.mono ?_);rintro e w3 ⟨rfl,hu⟩)
   go_ret
   rw [HE.out]
   exact ⟨rfl,HU.out.step hu⟩
end
end Rgx
end Go.Proofs.YtjclbjdkkdijbaaGreat
end
