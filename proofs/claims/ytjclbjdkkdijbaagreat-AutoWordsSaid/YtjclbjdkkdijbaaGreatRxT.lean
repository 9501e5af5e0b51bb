/- Walks through package regex: derive. Conditions: none. -/
import Derived.Test.YtjclbjdkkdijbaaGreatRxZc
set_option linter.unusedVariables false
set_option linter.unusedSimpArgs false
set_option linter.unusedSectionVars false
open Go.RowKit
namespace Go.Proofs.YtjclbjdkkdijbaaGreat
open L
namespace Rgx
open Rx
attribute [-go_sem] sliced
theorem NF.fit {r:Rx} (h:NF r):0≤r.kind∧r.kind≤7∧(r.kind=6∨r.kind=7→∃ x,r.kids=[x])∧(r.kind≠2→r.lo=0∧r.hi=0):=by
 cases h <;> simp [Rx.kind,Rx.kids,Rx.lo,Rx.hi]
theorem der_eq (c:Int) (r:Rx):der c r=if r.kind=2 then (if r.lo≤c∧c≤r.hi then rEmpty else rNone) else if r.kind=3 then form (nd 4 0 0 (derC c r.kids)) else if r.kind=4∨r.kind=5∨r.kind=6 then form (nd r.kind 0 0 (derL c r.kids)) else if r.kind=7 then form (nd 3 0 0 ((derL c r.kids).take 1++[r])) else rNone:=by
 obtain ⟨k,lo,hi,ks⟩:=r
 rw [der]
 rfl
section
variable {w w':World} {v:Value}
set_option maxRecDepth 100000 in
set_option maxHeartbeats 16000000 in
theorem derive_calls:∀ (r:Rx) {M:List Nat} {w:World} {v:Value} {b:Nat} {c:Int},NF r→nodes r≤64→0≤c→c≤255→FM M w b→RxV M w r v→(∀ b∈M,b<w.heap.size) →
 Calls Tryz.prog 89 #[.map (some b),v,.int .u8 c] w fun e w'=>∃ v',e=.returned v'∧RxV M w' (der c r) v'∧Upd [] w w':=by
 intro r0
 induction r0 using Rx.ind with
 | h k0 lo0 hi0 ks0 ih=>
  intro M w v b c hnf hn hc0 hc1 hf hr hM
  generalize hR:nd k0 lo0 hi0 ks0=r at *
  have hks:ks0=r.kids:=by rw [←hR];rfl
  subst hks
  have hsml:∀ s∈r.kids,nodes s≤64:=fun s hs=>by
   have h1:nodes r=1+nodesL r.kids:=by rw [←Rx.eta r,nodes];rfl
   have:=nodesL_mem hs
   omega
  have HZ:=Lib.hid (And.intro (show r.kids.length≤64 from by
   have h1:nodes r=1+nodesL r.kids:=by rw [←Rx.eta r,nodes];rfl
   have:=nodesL_len r.kids
   omega) (And.intro hsml (And.intro hnf hn)))
  have HI:=Lib.hid (fun (s:Rx) (hs:s∈r.kids) (M:List Nat) (w:World) (v:Value) (h1:FM M w b) (h2:RxV M w s v) (h3:∀ b∈M,b<w.heap.size)=>ih s hs (hnf.kids s hs) (hsml s hs) hc0 hc1 h1 h2 h3)
  have HD:=Lib.hid (der_eq c r)
  obtain ⟨hk0,hk7,hone,hlh⟩:=hnf.fit
  have HON:=Lib.hid (And.intro hone hlh)
  clear hR ih hn hsml hone hlh hnf
  obtain ⟨a1,c1,rfl,hF,hsc,hL⟩:=hr.shape
  obtain ⟨w1,M1,rb,nb,hw1,hrb,hnb,hM1,bA,bB,bN,uB,hz2,hF1,hnew,hlt,hsub,hin,hin2,hle⟩:=three_boxes (q0:=.int .i64 r.kind) (q1:=.int .u8 0) (q2:=.int .u8 0) hF hM
  have hL1:=(hL.sub hnew).ext uB
  have hf1:=(hf.sub hnew).ext uB
  obtain ⟨a',c',he,q1,q2,_⟩:=id hL.form
  cases he
  have HX:=Lib.hid (And.intro bB (And.intro uB (And.intro hF1 (And.intro hsub (And.intro hin (And.intro hin2 (And.intro hle hf1)))))))
  have HL:=Lib.hid (And.intro hL1 (And.intro hlt (And.intro hsc (And.intro bA bN))))
  have HNB:=Lib.hid hnb
  clear hr hF hM hsc hf
  go_enter Tryz.func89,Tryz.ntmps89
  go_upto_region 2 with fail
  change Code.wp _ _ _ _ (((w.alloc (.cells (rxC r.kind r.lo r.hi (.slice a1 r.kids.length c1)).toArray 37)).alloc (.cells #[.int .i64 0,.int .u8 0,.int .u8 0,.slice none 0 0] 37)).alloc (.cells #[.int .i64 r.kind,.int .u8 0,.int .u8 0,.slice none 0 0] 37))
  rw [←hw1,show w.heap.size+1+1=w.heap.size+2 from rfl,←hrb,←hnb]
  have k0:=bA.cell (i:=0) rfl
  have k1:=bA.cell (i:=1) rfl
  have k2:=bA.cell (i:=2) rfl
  have k3:=bA.cell (i:=3) rfl
  have hne1:w.heap.size≠nb:=by omega
  have hne2:rb≠nb:=by omega
  have HNE:=Lib.hid (And.intro hne1 hne2)
  clear bA bB bN uB hF1 hnew hlt hsub hin hin2 hle hM1 hL hL1 hf1 hne1 hne2
  clear hw1 hrb hnb
  generalize hpa:w.heap.size=pa at *
  have HPA:=Lib.hid (And.intro hpa hz2)
  clear hpa hz2
  by_cases hk2:r.kind=2
  ·have bR:=HX.out.1
   have r0:=bR.cell (i:=0) rfl
   have r1:=bR.cell (i:=1) rfl
   have r2:=bR.cell (i:=2) rfl
   have r3:=bR.cell (i:=3) rfl
   have rf:∀ q,w1.frozen? ⟨rb,q,none⟩=false:=bR.free
   clear bR
   by_cases hin:r.lo≤c∧c≤r.hi
   ·have HE:=Lib.hid (show der c r=rEmpty by rw [HD.out,if_pos hk2,if_pos hin])
    obtain ⟨hlo,hhi⟩:=hin
    rw [hk2] at k0 ⊢
    clear hk2 hk0 hk7
    go_wp2_with fail
    have hs:=box_set (a:=.int .i64 1) (b:=.int .u8 0) (c:=.int .u8 0) (d:=.slice none 0 0) HX.out.1
    rw [HE.out]
    exact ret_rx rfl rfl hs.1 rfl (RxF.iff.2 ⟨_,rfl,⟨by unfold IsI64;omega,by omega,by omega⟩,RxL.nil0⟩) (HX.out.2.1.fresh hs.2 (fun b hb=>.inr (by simp at hb;subst hb;have:=HX.out.2.2.2.2.2.2.1;have:=HPA.out.1;omega)))
   ·have HE:=Lib.hid (show der c r=rNone by rw [HD.out,if_pos hk2,if_neg hin])
    rw [hk2] at k0 ⊢
    clear hk2 hk0 hk7
    by_cases hlo:r.lo≤c
    ·have hhi:¬ c≤r.hi:=fun h=>hin ⟨hlo,h⟩
     clear hin
     go_wp2_with fail
     have hs:=box_set (a:=.int .i64 0) (b:=.int .u8 0) (c:=.int .u8 0) (d:=.slice none 0 0) HX.out.1
     rw [HE.out]
     exact ret_rx rfl rfl hs.1 rfl rNone_F (HX.out.2.1.fresh hs.2 (fun b hb=>.inr (by simp at hb;subst hb;have:=HX.out.2.2.2.2.2.2.1;have:=HPA.out.1;omega)))
    ·clear hin
     go_wp2_with fail
     have hs:=box_set (a:=.int .i64 0) (b:=.int .u8 0) (c:=.int .u8 0) (d:=.slice none 0 0) HX.out.1
     rw [HE.out]
     exact ret_rx rfl rfl hs.1 rfl rNone_F (HX.out.2.1.fresh hs.2 (fun b hb=>.inr (by simp at hb;subst hb;have:=HX.out.2.2.2.2.2.2.1;have:=HPA.out.1;omega)))
  ·by_cases hk01:r.kind=0∨r.kind=1
   ·have HE:=Lib.hid (show der c r=rNone by rw [HD.out,if_neg hk2,if_neg (by omega),if_neg (by omega),if_neg (by omega)])
    have bR:=HX.out.1
    have r0:=bR.cell (i:=0) rfl
    have r1:=bR.cell (i:=1) rfl
    have r2:=bR.cell (i:=2) rfl
    have r3:=bR.cell (i:=3) rfl
    have rf:∀ q,w1.frozen? ⟨rb,q,none⟩=false:=bR.free
    clear bR hk2 hk0 hk7
    rcases hk01 with h|h
    all_goals
     rw [h] at k0 ⊢
     clear h
     go_wp2_with fail
     have hs:=box_set (a:=.int .i64 0) (b:=.int .u8 0) (c:=.int .u8 0) (d:=.slice none 0 0) HX.out.1
     rw [HE.out]
     exact ret_rx rfl rfl hs.1 rfl rNone_F (HX.out.2.1.fresh hs.2 (fun b hb=>.inr (by simp at hb;subst hb;have:=HX.out.2.2.2.2.2.2.1;have:=HPA.out.1;omega)))
   ·by_cases hk3:r.kind=3
    ·have hE:der c r=form (nd 4 0 0 (derC c r.kids)):=by rw [HD.out,if_neg hk2,if_pos hk3]
     have HFT:=Lib.hid (show FitR (nd 4 0 0 (derC c r.kids))∧nodes (nd 4 0 0 (derC c r.kids))≤1000000∧der c r=form (nd 4 0 0 (derC c r.kids)) from ⟨⟨by simp only [Rx.kind];omega,by simp only [Rx.kind];omega,fun h=>by simp only [Rx.kind] at h;omega⟩,by
      rw [nodes]
      have h0:nodes r=1+nodesL r.kids:=by rw [←Rx.eta r,nodes];rfl
      have h3:=HZ.out.2.2.2
      have h1:=derC_nodes c 64 r.kids (by omega) (fun s hs=>der_nodes c 64 s (HZ.out.2.1 s hs))
      have h4:2*nodesL r.kids*(64+4)≤2*64*(64+4):=Nat.mul_le_mul_right _ (by omega)
      omega,hE⟩)
     rw [hk3] at k0 ⊢
     clear hk2 hk01 hk3 hE hk0 hk7
     have n0:=HL.out.2.2.2.2.cell (i:=0) rfl
     have n3:=HL.out.2.2.2.2.cell (i:=3) rfl
     have nfr:∀ q,w1.frozen? ⟨nb,q,none⟩=false:=HL.out.2.2.2.2.free
     go_upto_region 10 with fail
     have b2:=HL.out.2.2.2.2.set 0 (.int .i64 4)
     have u2:Upd [nb] w1 (w1.setCell ⟨nb,0,none⟩ (.int .i64 4)):=(Upd.refl [nb] w1).set (p:=⟨nb,0,none⟩) (by simp) _
     have hnb2:∀ b∈[nb],b∈M1:=fun b hb=>by simp at hb;subst hb;exact HX.out.2.2.2.2.2.1
     have H2:=Lib.hid (And.intro b2 u2)
     have bA:=HL.out.2.2.2.1.upd u2 (by simp;exact HNE.out.1)
     generalize (w1.setCell ⟨nb,0,none⟩ (.int .i64 4))=wk at *
     have k3:=bA.cell (i:=3) rfl
     clear b2 u2 hnb2 bA n0 n3 nfr k0 k1 k2
     go_wp2_with fail
     go_loopw [39] (fun iv wr=>∃ (m:Nat) (acc:Value) (L:List Rx),iv=.int .i64 m∧m≤r.kids.length∧derC c r.kids=L++derC c (r.kids.drop m)∧L.length≤m∧Blk wr nb [.int .i64 4,.int .u8 0,.int .u8 0,acc] 37∧OwR 37 M1 wr acc L∧(∀ q,acc.ownBlock=some q→w1.heap.size≤q)∧Upd [nb] w1 wr∧wr.cell? ⟨pa,3,none⟩=some (.slice a1 r.kids.length c1)) (fun iv _=>r.kids.length - (intOf iv).toNat)
     case atStart=>exact ⟨0,_,[],rfl,Nat.zero_le _,rfl,Nat.le_refl _,H2.out.1,OwR.nil0,fun q hq=>by simp [Value.ownBlock] at hq,H2.out.2,k3⟩
     case round=>
      obtain ⟨m,acc,L,rfl,hm,hD,hLl,hBN,hO,hq,hu,hk3⟩:=hrel
      have HO:=Lib.hid (And.intro hO (And.intro hq (And.intro hu hBN)))
      have HDL:=Lib.hid (And.intro hD hLl)
      clear hO hq hu hBN hD hLl k3
      by_cases hlt:m<r.kids.length
      ·have hli:(m:Int)<r.kids.length:=by omega
       have hr:=List.getElem?_eq_getElem hlt
       have hmem:=List.mem_of_getElem? hr
       have hdr:r.kids.drop m=r.kids[m]::r.kids.drop (m+1):=List.drop_eq_getElem_cons hlt
       generalize r.kids[m]=s at *
       have hM2:∀ b∈M1++acc.ownBlock.toList,b∈M1∨w1.heap.size≤b:=fun b hb=>by
        rcases List.mem_append.1 hb with hb|hb
        ·exact .inl hb
        ·exact .inr (HO.out.2.1 b (by simpa using hb))
       have hnb2:∀ b∈[nb],b∈M1++acc.ownBlock.toList:=fun b hb=>by simp at hb;subst hb;exact List.mem_append_left _ HX.out.2.2.2.2.2.1
       have hLM:=(HL.out.1.sub hM2).upd HO.out.2.2.1 hnb2
       obtain ⟨g,off,a3,c3,rfl,hRF,e0,e1,e2,e3⟩:=hLM.kid hr
       have hfm:=(HX.out.2.2.2.2.2.2.2.sub hM2).upd HO.out.2.2.1 hnb2
       have HR:=Lib.hid (And.intro hRF (And.intro hdr (And.intro hmem (And.intro hM2 (And.intro hfm hLM)))))
       clear hRF hr hmem hdr hM2 hfm hnb2 hLM
       go_upto_region 13 with fail
       have b2:=Blk.new wr (rxC s.kind s.lo s.hi (.slice a3 s.kids.length c3)) 37
       have u2:=(Upd.refl [] wr).alloc (.cells (rxC s.kind s.lo s.hi (.slice a3 s.kids.length c3)).toArray 37)
       have hszr:∀ b∈acc.ownBlock.toList,b<wr.heap.size:=by
        obtain ⟨css,o1,_⟩:=id HO.out.1
        rcases o1.2 with ⟨rfl,_⟩|⟨gg,cap,cur,rfl,_,hgg,_⟩
        ·intro b hb;simp [Value.ownBlock] at hb
        ·intro b hb
         simp [Value.ownBlock] at hb
         subst hb
         exact (Array.getElem?_eq_some_iff.1 hgg).1
       have HSB:=Lib.hid (And.intro HO.out.2.2.1.size hszr)
       clear hszr
       change Code.wp _ _ _ _ (wr.alloc (.cells (rxC s.kind s.lo s.hi (.slice a3 s.kids.length c3)).toArray 37))
       generalize (wr.alloc (.cells (rxC s.kind s.lo s.hi (.slice a3 s.kids.length c3)).toArray 37))=w2 at *
       generalize wr.heap.size=sb at *
       have d0:=b2.cell (i:=0) rfl
       have d1:=b2.cell (i:=1) rfl
       have d2:=b2.cell (i:=2) rfl
       have d3:=b2.cell (i:=3) rfl
       have l3:=u2.some hk3 (by simp)
       obtain ⟨css,o1,o2,o3,o4⟩:=id (HO.out.1.ext u2)
       have hsz:∀ b∈acc.ownBlock.toList,b<w2.heap.size:=by
        rcases o1.2 with ⟨rfl,_⟩|⟨gg,cap,cur,rfl,_,hgg,_⟩
        ·intro b hb;simp [Value.ownBlock] at hb
        ·intro b hb
         simp [Value.ownBlock] at hb
         subst hb
         exact (Array.getElem?_eq_some_iff.1 hgg).1
       have hltM:∀ b∈M1++acc.ownBlock.toList,b<w2.heap.size:=fun b hb=>by
        rcases List.mem_append.1 hb with hb|hb
        ·have:=HL.out.2.1 b hb;have:=(HO.out.2.2.1.step u2).size;omega
        ·exact hsz b hb
       have HO2:=Lib.hid (And.intro (HO.out.1.ext u2) (And.intro hltM (And.intro (HO.out.2.2.1.step u2) (And.intro (HO.out.2.2.2.upd u2 (by simp)) (And.intro (HR.out.1.ext u2) (And.intro (HR.out.2.2.2.2.1.ext u2) (HR.out.2.2.2.2.2.ext u2)))))))
       have HC:=Lib.hid (fun (w5:World) (u5:Upd [] w2 w5)=>HI.out s HR.out.2.2.1 _ _ _ (HO2.out.2.2.2.2.2.1.ext u5) (HO2.out.2.2.2.2.1.ext u5).val (fun b hb=>by have:=hltM b hb;have:=u5.size;omega))
       have HBX:=Lib.hid b2
       have hmi:(m:Int)+1≤r.kids.length:=by omega
       clear b2 u2 e0 e1 e2 e3 o1 o2 o3 o4 hsz hltM hk3
       go_cut [10] (fun x w'=>∃ gp cp,x=.slice (some ⟨gp,0,none⟩) (1+(r.kids.length - (m+1))) cp∧w2.heap.size≤gp∧OwR 37 (M1++acc.ownBlock.toList) w' x (der c s::r.kids.drop (m+1))∧Upd [] w2 w')
       case first=>
        go_wp2_with fail
        refine wp_region_ord 10 2 [0,1,2,5,6,7,8,9,11] [1,6] [0,1,2,5,6,7,8,9,3,4,10,11] (fun w'=>∃ x:Ext w2,w'=x.val) (by kernel_rfl) (by kernel_rfl) (Ext.of (by iterate 25 (first|exact Upd.refl _ _|assumption|refine Upd.alloc ?_ _|refine Upd.drew ?_|refine Upd.drewN ?_ _|refine Upd.dl ?_|refine Upd.step ?_ (Ext.upd _)|refine Upd.nil ?_|skip))) ?_
        repeat (first|(refine wpOrd_load rfl rfl rfl rfl (fun K hK=>?_);go_big_quiet_step (fail);refine wpQuiet_nil ?_;refine hK _ ?_;clear hK K)|(refine wpOrd_free rfl rfl rfl (fun K hK=>?_);go_big_quiet_step (fail);refine wpQuiet_nil ?_;refine hK _ ?_;clear hK K))
        refine wpOrd_fix rfl rfl (fun K hK=>?_)
        go_wp2_with (go_at_call 89;refine (HC.out _ (by iterate 25 (first|exact Upd.refl _ _|assumption|refine Upd.alloc ?_ _|refine Upd.drew ?_|refine Upd.drewN ?_ _|refine Upd.dl ?_|refine Upd.step ?_ (Ext.upd _)|refine Upd.nil ?_|skip))).mono ?_;rintro e w6 ⟨v6,rfl,r6,u6⟩;obtain ⟨a6,c6,rfl,hF6,_,_⟩:=r6.shape)
        have HU6:=Lib.hid (And.intro (show Upd [] w2 w6 from Upd.step (by iterate 25 (first|exact Upd.refl _ _|assumption|refine Upd.alloc ?_ _|refine Upd.drew ?_|refine Upd.drewN ?_ _|refine Upd.dl ?_|refine Upd.step ?_ (Ext.upd _)|refine Upd.nil ?_|skip)) u6) hF6)
        clear u6 r6 hF6
        refine ⟨fun _=>Ext.of HU6.out.1,?_⟩
        repeat (first|(refine wpOrd_load rfl rfl rfl rfl (fun K hK=>?_);go_big_quiet_step (fail);refine wpQuiet_nil ?_;refine hK _ ?_;clear hK K)|(refine wpOrd_free rfl rfl rfl (fun K hK=>?_);go_big_quiet_step (fail);refine wpQuiet_nil ?_;refine hK _ ?_;clear hK K))
        refine wpOrd_fix rfl rfl (fun K hK=>?_)
        go_wp2_with fail
        have HNB2:=Lib.hid (show Blk (w6.alloc (.cells #[.int .i64 (der c s).kind,.int .u8 (der c s).lo,.int .u8 (der c s).hi,.slice a6 (der c s).kids.length c6] 37)) w6.heap.size [.int .i64 (der c s).kind,.int .u8 (der c s).lo,.int .u8 (der c s).hi,.slice a6 (der c s).kids.length c6] 37∧Upd [] w6 (w6.alloc (.cells #[.int .i64 (der c s).kind,.int .u8 (der c s).lo,.int .u8 (der c s).hi,.slice a6 (der c s).kids.length c6] 37)) from ⟨Blk.new w6 _ _,(Upd.refl [] w6).alloc _⟩)
        generalize (w6.alloc (.cells #[.int .i64 (der c s).kind,.int .u8 (der c s).lo,.int .u8 (der c s).hi,.slice a6 (der c s).kids.length c6] 37))=wB at *
        have HG6:=Lib.hid (show w2.heap.size≤w6.heap.size from HU6.out.1.size)
        have HEQ:∃ gB,w6.heap.size=gB:=⟨_,rfl⟩
        obtain ⟨gB,hgB⟩:=HEQ
        rw [hgB] at HNB2 ⊢
        have HUB:=Lib.hid (And.intro (HU6.out.1.step HNB2.out.2) (And.intro HU6.out.2 hgB))
        have hgM:gB ∉ M1++acc.ownBlock.toList:=fun hm=>by have:=HO2.out.2.1 gB hm;have:=HG6.out;omega
        have HGM:=Lib.hid hgM
        clear hgB hgM
        refine ⟨fun _=>Ext.of HUB.out.1,?_⟩
        repeat (first|(refine wpOrd_load rfl rfl rfl rfl (fun K hK=>?_);go_big_quiet_step (fail);refine wpQuiet_nil ?_;refine hK _ ?_;clear hK K)|(refine wpOrd_free rfl rfl rfl (fun K hK=>?_);go_big_quiet_step (fail);refine wpQuiet_nil ?_;refine hK _ ?_;clear hK K))
        refine wpOrd_fix rfl rfl (fun K hK=>?_)
        have hone:OwR 37 (M1++acc.ownBlock.toList) wB (.slice (some ⟨gB,0,none⟩) 1 1) [der c s]:=by
         refine OwR.of_blk (c:=1) (m:=1) (css:=fun _=>rxC (der c s).kind (der c s).lo (der c s).hi (.slice a6 (der c s).kids.length c6)) (pad:=[]) HNB2.out.1 rfl rfl (by omega) (by omega) (fun i=>rfl) HGM.out (fun i y hy=>?_)
         match i with
         | 0=>cases hy;exact (HUB.out.2.1.sub (fun b hb=>by
          rcases List.mem_append.1 hb with hb|hb
          ·exact .inl hb
          ·right;simp at hb;subst hb;have:=HUB.out.2.2;omega)).ext HNB2.out.2
         | (i+1)=>simp at hy
        have hrest:RxL ((M1++acc.ownBlock.toList)++[gB]) wB (r.kids.drop (m+1)) (sliced (some ⟨g,off,none⟩) (m+1) r.kids.length c1 4):=((HO2.out.2.2.2.2.2.2.ext HU6.out.1).sub (fun b hb=>by
         rcases List.mem_append.1 hb with hb|hb
         ·exact .inl hb
         ·right;simp at hb;subst hb;have:=HUB.out.2.2;omega)).ext HNB2.out.2 |>.from_ rfl (by omega)
        obtain ⟨css1,p1,p2,p3,p4⟩:=hone
        obtain ⟨css2,q1',q2',q3',q4'⟩:=hrest
        have HP:=Lib.hid (And.intro p1 (And.intro p2 (And.intro p3 p4)))
        have HQ:=Lib.hid (And.intro q1' (And.intro q2' q4'))
        clear p1 p2 p3 p4 q1' q2' q3' q4'
        have hdl:(r.kids.drop (m+1)).length=r.kids.length - (m+1):=List.length_drop
        refine wpList_appS rfl _ _ _ rfl 37 4 40 _ Tryz.underlying35 infoRx rfl (by decide) (.slice (some ⟨gB,0,none⟩) 1 1) 1 _ rfl HP.out.1 (sliced (some ⟨g,off,none⟩) (m+1) r.kids.length c1 4) _ _ rfl HQ.out.1 (rows_one4 HQ.out.2.2) (by have:=HZ.out.1;rw [hdl];unfold maxLen;omega) (by have:=HZ.out.1;rw [hdl];omega) ?_
        intro a7 c7 w7 o7 u7 k7
        simp only [Act.put,List.setIfInBounds_toArray,List.set_cons_zero,List.set_cons_succ]
        have H7:=Lib.hid (And.intro o7 (And.intro u7 (And.intro k7 hdl)))
        clear o7 u7 k7 hdl
        go_wp2_with fail
        refine ⟨fun hC=>absurd hC (by decide),?_⟩
        repeat (first|(refine wpOrd_load rfl rfl rfl rfl (fun K hK=>?_);go_big_quiet_step (fail);refine wpQuiet_nil ?_;refine hK _ ?_;clear hK K)|(refine wpOrd_free rfl rfl rfl (fun K hK=>?_);go_big_quiet_step (fail);refine wpQuiet_nil ?_;refine hK _ ?_;clear hK K))
        refine wpOrd_nil ?_
        go_wp2_with fail
        go_meet
        case rel=>
         have hq:=OwR.pushL (w:=wB) (w':=w7) HP.out.2.1 HQ.out.2.1 (fun b hb=>by have:=HO2.out.2.1 b hb;have:=HUB.out.1.size;omega) HP.out.2.2.1 rfl rfl HP.out.2.2.2 HQ.out.2.2 H7.out.1 H7.out.2.1 (by
          rcases H7.out.2.2.1 with h|h
          ·exact .inl h
          ·exact .inr ⟨_,h,Nat.le_refl _⟩)
         obtain ⟨gp,cp,hv7,_,_⟩:=owns_form H7.out.1 (by omega)
         have hd7:=H7.out.2.2.2
         have hv8:Value.slice a7 (1+(r.kids.drop (m+1)).length) c7=.slice (some ⟨gp,0,none⟩) (1+(r.kids.length - (m+1))) cp:=by rw [←hd7];exact hv7
         refine ⟨gp,cp,hv8,?_,hq,HUB.out.1.fresh H7.out.2.1 (fun b hb=>.inr (by simp [Value.ownBlock] at hb;subst hb;have:=HUB.out.2.2;have:=HG6.out;omega))⟩
         have hk7:=H7.out.2.2.1
         rw [hv8] at hk7
         simp only [Value.ownBlock,Option.some.injEq] at hk7
         have h1:=HUB.out.1.size
         have h2:=HUB.out.2.2
         have h3:=HG6.out
         omega
       case rest=>
       obtain ⟨gp,cp,rfl,hgp,hOP,uc⟩:=hcut
       have dd0:=uc.some d0 (by simp)
       have dd1:=uc.some d1 (by simp)
       have dd2:=uc.some d2 (by simp)
       have dd3:=uc.some d3 (by simp)
       have ll3:=uc.some l3 (by simp)
       have nbc:=HO2.out.2.2.2.1.upd uc (by simp)
       have nn3:=nbc.cell (i:=3) rfl
       have hLP:(der c s::r.kids.drop (m+1)).length=1+(r.kids.length - (m+1)):=by rw [List.length_cons,List.length_drop];omega
       have hpart:RxV (M1++acc.ownBlock.toList) wc (nd 3 0 0 (der c s::r.kids.drop (m+1))) (.agg #[.int .i64 3,.int .u8 0,.int .u8 0,.slice (some ⟨gp,0,none⟩) (1+(r.kids.length - (m+1))) cp]):=RxV.iff.2 ⟨_,rfl,⟨by unfold IsI64;omega,by omega,by omega⟩,hOP.list⟩
       have hltc:∀ b∈M1++acc.ownBlock.toList,b<wc.heap.size:=fun b hb=>by have:=HO2.out.2.1 b hb;have:=uc.size;omega
       have hpn:nodes (nd 3 0 0 (der c s::r.kids.drop (m+1)))≤1000000:=by
        rw [nodes,nodesL]
        have h1:=der_nodes c 64 s (HZ.out.2.1 s HR.out.2.2.1)
        have h2:=HZ.out.2.1 s HR.out.2.2.1
        have h4:2*nodes s*(64+4)≤2*64*(64+4):=Nat.mul_le_mul_right _ (by omega)
        have h5:nodes r=1+nodesL r.kids:=by rw [←Rx.eta r,nodes];rfl
        have h6:nodesL (r.kids.drop (m+1))≤nodesL r.kids:=by
         have:=nodesL_app (r.kids.take (m+1)) (r.kids.drop (m+1))
         rw [List.take_append_drop] at this
         omega
        have h7:=HZ.out.2.2.2
        omega
       obtain ⟨fp,gp3,capsp,hfp,egp,hallp⟩:=form_at2 (HO2.out.2.2.2.2.2.1.ext uc) hpart hltc hpn ⟨by simp only [Rx.kind];omega,by simp only [Rx.kind];omega,fun h=>by simp only [Rx.kind] at h;omega⟩
       have HPT:=Lib.hid (And.intro (show fp 3=some (.func (.func gp3) #[] capsp) from hfp) hallp)
       have HWC:=Lib.hid (And.intro uc (And.intro nbc (And.intro (HO2.out.1.ext uc) hltc)))
       clear hfp hallp hpart hltc hpn hLP nbc hOP d0 d1 d2 d3 l3 hgp
       obtain ⟨wd,rfl⟩:∃ wo:World,wo=wc:=⟨_,rfl⟩
       clear uc
       go_upto_region 14 with fail
       go_cut [] (fun w'=>∃ acc',Blk w' nb [.int .i64 4,.int .u8 0,.int .u8 0,acc'] 37∧OwR 37 M1 w' acc' (L++[form (nd 3 0 0 (der c s::r.kids.drop (m+1)))])∧(∀ q,acc'.ownBlock=some q→w1.heap.size≤q)∧Upd [nb] w1 w'∧Upd (nb::acc.ownBlock.toList) wd w')
       case first=>
        go_wp2_with fail
        refine wp_region_ord 8 1 [0,1,2,4,5,9] [1] [0,1,2,4,5,3,6,7,8,9,10] (fun w'=>∃ x:Ext wd,w'=x.val) (by kernel_rfl) (by kernel_rfl) (Ext.of (by iterate 25 (first|exact Upd.refl _ _|assumption|refine Upd.alloc ?_ _|refine Upd.drew ?_|refine Upd.drewN ?_ _|refine Upd.dl ?_|refine Upd.step ?_ (Ext.upd _)|refine Upd.nil ?_|skip))) ?_
        repeat (first|(refine wpOrd_load rfl rfl rfl rfl (fun K hK=>?_);go_big_quiet_step (fail);refine wpQuiet_nil ?_;refine hK _ ?_;clear hK K)|(refine wpOrd_free rfl rfl rfl (fun K hK=>?_);go_big_quiet_step (fail);refine wpQuiet_nil ?_;refine hK _ ?_;clear hK K))
        refine wpOrd_fix rfl rfl (fun K hK=>?_)
        refine wpList_mflook (k:=3) Tryz.underlying3 Tryz.underlying136 infoForm _ _ rfl rfl b 8 fp 3 rfl rfl (HPT.out.2 _ (by iterate 25 (first|exact Upd.refl _ _|assumption|refine Upd.alloc ?_ _|refine Upd.drew ?_|refine Upd.drewN ?_ _|refine Upd.dl ?_|refine Upd.step ?_ (Ext.upd _)|refine Upd.nil ?_|skip))).1 ⟨by omega,by omega⟩ ?_
        rw [HPT.out.1]
        simp only [Option.getD_some]
        simp only [Act.put,List.setIfInBounds_toArray,List.set_cons_zero,List.set_cons_succ]
        go_wp2_with fail
        refine ⟨fun _=>Ext.of (by iterate 25 (first|exact Upd.refl _ _|assumption|refine Upd.alloc ?_ _|refine Upd.drew ?_|refine Upd.drewN ?_ _|refine Upd.dl ?_|refine Upd.step ?_ (Ext.upd _)|refine Upd.nil ?_|skip)),?_⟩
        repeat (first|(refine wpOrd_load rfl rfl rfl rfl (fun K hK=>?_);go_big_quiet_step (fail);refine wpQuiet_nil ?_;refine hK _ ?_;clear hK K)|(refine wpOrd_free rfl rfl rfl (fun K hK=>?_);go_big_quiet_step (fail);refine wpQuiet_nil ?_;refine hK _ ?_;clear hK K))
        refine wpOrd_fix rfl rfl (fun K hK=>?_)
        go_wp2_with ((with_reducible refine (HPT.out.2 _ (by iterate 25 (first|exact Upd.refl _ _|assumption|refine Upd.alloc ?_ _|refine Upd.drew ?_|refine Upd.drewN ?_ _|refine Upd.dl ?_|refine Upd.step ?_ (Ext.upd _)|refine Upd.nil ?_|skip))).2.mono ?_);rintro e w6 ⟨v6,rfl,r6,u6⟩;obtain ⟨a6,c6,rfl,hF6,_,_⟩:=r6.shape)
        generalize hFF:form (nd 3 0 0 (der c s::r.kids.drop (m+1)))=fr at *
        have HFR:=Lib.hid hFF
        clear hFF
        have HU6:=Lib.hid (And.intro (show Upd [] wd w6 from Upd.step (by iterate 25 (first|exact Upd.refl _ _|assumption|refine Upd.alloc ?_ _|refine Upd.drew ?_|refine Upd.drewN ?_ _|refine Upd.dl ?_|refine Upd.step ?_ (Ext.upd _)|refine Upd.nil ?_|skip)) u6) hF6)
        clear u6 r6 hF6
        refine ⟨fun _=>Ext.of HU6.out.1,?_⟩
        repeat (first|(refine wpOrd_load rfl rfl rfl rfl (fun K hK=>?_);go_big_quiet_step (fail);refine wpQuiet_nil ?_;refine hK _ ?_;clear hK K)|(refine wpOrd_free rfl rfl rfl (fun K hK=>?_);go_big_quiet_step (fail);refine wpQuiet_nil ?_;refine hK _ ?_;clear hK K))
        refine wpOrd_fix rfl rfl (fun K hK=>?_)
        go_wp2_with fail
        have HNB2:=Lib.hid (show Blk (w6.alloc (.cells #[.int .i64 fr.kind,.int .u8 fr.lo,.int .u8 fr.hi,.slice a6 fr.kids.length c6] 37)) w6.heap.size [.int .i64 fr.kind,.int .u8 fr.lo,.int .u8 fr.hi,.slice a6 fr.kids.length c6] 37∧Upd [] w6 (w6.alloc (.cells #[.int .i64 fr.kind,.int .u8 fr.lo,.int .u8 fr.hi,.slice a6 fr.kids.length c6] 37)) from ⟨Blk.new w6 _ _,(Upd.refl [] w6).alloc _⟩)
        generalize (w6.alloc (.cells #[.int .i64 fr.kind,.int .u8 fr.lo,.int .u8 fr.hi,.slice a6 fr.kids.length c6] 37))=wB at *
        generalize w6.heap.size=gB at *
        have HUB:=Lib.hid (And.intro (HU6.out.1.step HNB2.out.2) (HU6.out.2.ext HNB2.out.2))
        refine ⟨fun _=>Ext.of HUB.out.1,?_⟩
        repeat (first|(refine wpOrd_load rfl rfl rfl rfl (fun K hK=>?_);go_big_quiet_step (fail);refine wpQuiet_nil ?_;refine hK _ ?_;clear hK K)|(refine wpOrd_free rfl rfl rfl (fun K hK=>?_);go_big_quiet_step (fail);refine wpQuiet_nil ?_;refine hK _ ?_;clear hK K))
        refine wpOrd_fix rfl rfl (fun K hK=>?_)
        obtain ⟨css,o1,o2,o3,o4⟩:=id (HWC.out.2.2.1.ext HUB.out.1)
        have HOO:=Lib.hid (And.intro o1 (And.intro o2 (And.intro o3 o4)))
        have hl64:L.length≤64:=by have:=HDL.out.2;have:=HZ.out.1;omega
        clear o1 o2 o3 o4
        refine wpList_app rfl _ _ _ rfl 37 4 40 _ Tryz.underlying35 infoRx rfl (by decide) acc _ _ rfl HOO.out.1 gB 1 1 (rxC fr.kind fr.lo fr.hi (.slice a6 fr.kids.length c6)) 37 rfl rfl HNB2.out.1 (by simp [rxC,Value.oneCell']) (by omega) (by unfold maxLen;omega) (by omega) ?_
        intro g7 c7 w7 o7 u7 k7
        simp only [Act.put,List.setIfInBounds_toArray,List.set_cons_zero,List.set_cons_succ]
        have nb7:Blk w7 nb [.int .i64 4,.int .u8 0,.int .u8 0,acc] 37:=((HWC.out.2.1.upd HUB.out.1 (by simp)).upd u7 (fun hm=>by
         have h1:=HO.out.2.1 nb (by simpa using hm)
         have:=HNB.out
         have:=HPA.out.1
         have:=HPA.out.2
         omega))
        have n3':=nb7.cell (i:=3) rfl
        have nfr:∀ q,w7.frozen? ⟨nb,q,none⟩=false:=nb7.free
        have H7:=Lib.hid (And.intro o7 (And.intro u7 (And.intro k7 nb7)))
        clear o7 u7 k7 nb7 nn3
        go_wp2_with fail
        refine ⟨fun hC=>absurd hC (by decide),?_⟩
        repeat (first|(refine wpOrd_load rfl rfl rfl rfl (fun K hK=>?_);go_big_quiet_step (fail);refine wpQuiet_nil ?_;refine hK _ ?_;clear hK K)|(refine wpOrd_free rfl rfl rfl (fun K hK=>?_);go_big_quiet_step (fail);refine wpQuiet_nil ?_;refine hK _ ?_;clear hK K))
        refine wpOrd_fix rfl rfl (fun K hK=>?_)
        go_wp2_with fail
        refine ⟨fun hC=>absurd hC (by decide),?_⟩
        refine wpOrd_nil ?_
        go_wp2_with fail
        go_meet
        case rel=>
         have HQ:=OwR.push (w:=wB) (w':=w7) (r:=fr) HOO.out.2.1 (fun b hb=>by have:=HL.out.2.1 b hb;have:=HO2.out.2.2.1.size;have:=HWC.out.1.size;have:=HUB.out.1.size;omega) HOO.out.2.2.1 rfl HOO.out.2.2.2 HUB.out.2 H7.out.1 H7.out.2.1 (by
          rcases H7.out.2.2.1 with h|h
          ·exact .inl h.symm
          ·exact .inr ⟨g7,rfl,Nat.le_of_eq h.symm⟩)
         have us:Upd [nb] w7 (w7.setCell ⟨nb,3,none⟩ (.slice (some ⟨g7,0,none⟩) (L.length+1) c7)):=(Upd.refl [nb] w7).set (p:=⟨nb,3,none⟩) (by simp) _
         refine ⟨_,H7.out.2.2.2.set 3 _,HQ.upd us (fun b hb=>by simp at hb;subst hb;exact HX.out.2.2.2.2.2.1),fun q hq=>?_,?_,?_⟩
         ·simp only [Value.ownBlock,Option.some.injEq] at hq
          subst hq
          rcases H7.out.2.2.1 with h|h
          ·exact HO.out.2.1 _ h
          ·have:=HO2.out.2.2.1.size;have:=HWC.out.1.size;have:=HUB.out.1.size;omega
         ·exact (((HO2.out.2.2.1.step HWC.out.1).step HUB.out.1).fresh H7.out.2.1 (fun b hb=>.inr (HO.out.2.1 b (by simpa using hb)))).trans us
         ·exact (HUB.out.1.nil.fresh H7.out.2.1 (fun b hb=>.inl (List.mem_cons_of_mem _ hb))).fresh us (fun b hb=>.inl (by simp at hb;simp [hb]))
       case rest=>
       obtain ⟨acc',hBN',hO',hq',hu',hud⟩:=hcut
       have hsbM:sb ∉ nb::acc.ownBlock.toList:=fun hm=>by
        rcases List.mem_cons.1 hm with h|h
        ·have:=HSB.out.1;have:=HNB.out;have:=HPA.out.1;have:=HPA.out.2;omega
        ·exact Nat.lt_irrefl _ (HSB.out.2 sb h)
       have hpaM:pa ∉ nb::acc.ownBlock.toList:=fun hm=>by
        rcases List.mem_cons.1 hm with h|h
        ·exact HNE.out.1 h
        ·have:=HO.out.2.1 pa (by simpa using h);have:=HPA.out.1;have:=HPA.out.2;omega
       have e0:=hud.some dd0 hsbM
       have e1:=hud.some dd1 hsbM
       have e2:=hud.some dd2 hsbM
       have e3:=hud.some dd3 hsbM
       have HL3:=Lib.hid (hud.some ll3 hpaM)
       have hwM:∀ b∈nb::acc.ownBlock.toList,b∈M1++acc.ownBlock.toList:=fun b hb=>by
        rcases List.mem_cons.1 hb with h|h
        ·subst h;exact List.mem_append_left _ HX.out.2.2.2.2.2.1
        ·exact List.mem_append_right _ h
       have HNU:=Lib.hid (nullable_calls s (((((HO2.out.2.2.2.2.1).ext HWC.out.1).upd hud hwM).val).sub (fun b hb=>by simp at hb)) (HZ.out.2.2.1.kids s HR.out.2.2.1).proper)
       have HDN:=Lib.hid (show derC c (r.kids.drop m)=form (nd 3 0 0 (der c s::r.kids.drop (m+1)))::(if nul s then derC c (r.kids.drop (m+1)) else []) by rw [HR.out.2.1,derC])
       have HF:=Lib.hid (And.intro hBN' (And.intro hO' (And.intro hq' hu')))
       clear hBN' hO' hq' hu' hud dd0 dd1 dd2 dd3 ll3 nn3 hsbM hpaM hwM egp
       rcases hnl:nul s with _|_
       ·rw [hnl] at HNU
        go_upto_region 28 with (go_at_call 90;refine HNU.out.mono ?_;rintro e wr ⟨rfl,u9⟩)
        have hll:derC c r.kids=L++[form (nd 3 0 0 (der c s::r.kids.drop (m+1)))]:=by rw [HDL.out.1,HDN.out,hnl];rfl
        have HO:=Lib.hid (show OwR 37 M1 wr acc' (derC c r.kids)∧(∀ q,acc'.ownBlock=some q→w1.heap.size≤q)∧Upd [nb] w1 wr∧Blk wr nb [.int .i64 4,.int .u8 0,.int .u8 0,acc'] 37 from
         ⟨by rw [hll];exact HF.out.2.1.ext u9,HF.out.2.2.1,HF.out.2.2.2.step u9,HF.out.1.upd u9 (by simp)⟩)
        clear u9 hll e0 e1 e2 e3
        obtain ⟨ac,cc,rfl,_⟩:=id HO.out.1.list.form
        have hnb2:∀ b∈[nb],b∈M1:=fun b hb=>by simp at hb;subst hb;exact HX.out.2.2.2.2.2.1
        have hnode:RxV M1 wr (nd 4 0 0 (derC c r.kids)) (.agg #[.int .i64 4,.int .u8 0,.int .u8 0,.slice ac (derC c r.kids).length cc]):=RxV.iff.2 ⟨_,rfl,⟨⟨by omega,by omega⟩,by omega,by omega⟩,HO.out.1.list⟩
        obtain ⟨f,gf,caps,hmf,hfk,eg,hcall⟩:=form_at (HX.out.2.2.2.2.2.2.2.upd HO.out.2.2.1 hnb2) hnode (fun b hb=>by have:=HL.out.2.1 b hb;have:=HO.out.2.2.1.size;omega) HFT.out.2.1 HFT.out.1
        rw [←HFT.out.2.2] at hcall
        have HCL:=Lib.hid hcall
        have HV:=Lib.hid (show f 4=some (.func (.func gf) #[] caps) from hfk)
        have HMF:=Lib.hid hmf
        have bR:=HX.out.1.upd HO.out.2.2.1 (by simp;exact HNE.out.2)
        have n0:=HO.out.2.2.2.cell (i:=0) rfl
        have n1:=HO.out.2.2.2.cell (i:=1) rfl
        have n2:=HO.out.2.2.2.cell (i:=2) rfl
        have n3:=HO.out.2.2.2.cell (i:=3) rfl
        have HBR:=Lib.hid bR
        clear bR hfk hmf hcall hnode hnb2
        go_wp2_with (first|(at_lookup;refine wpList_mflook (k:=3) Tryz.underlying3 Tryz.underlying136 infoForm _ _ rfl rfl b 8 f 4 rfl rfl HMF.out ⟨by omega,by omega⟩ ?_;rw [HV.out];simp only [Option.getD_some])|((with_reducible refine HCL.out.mono ?_);rintro e w6 ⟨v6,rfl,r6,u6⟩;obtain ⟨a6,c6,rfl,hF6,_,_⟩:=r6.shape;have bR:=HBR.out.upd u6 (by simp);have r0:=bR.cell (i:=0) rfl;have r1:=bR.cell (i:=1) rfl;have r2:=bR.cell (i:=2) rfl;have r3:=bR.cell (i:=3) rfl;have rf:∀ q,w6.frozen? ⟨rb,q,none⟩=false:=bR.free;have H6:=Lib.hid (And.intro bR (And.intro u6 hF6));clear bR u6 hF6 r6))
        have hs:=box_set (a:=.int .i64 (der c r).kind) (b:=.int .u8 (der c r).lo) (c:=.int .u8 (der c r).hi) (d:=.slice a6 (der c r).kids.length c6) H6.out.1
        exact ret_rx rfl rfl hs.1 rfl ((H6.out.2.2.upd hs.2 (by simpa using HX.out.2.2.2.2.1)).sub (fun b hb=>.inl (HX.out.2.2.2.1 b hb))) ((((HX.out.2.1).fresh HO.out.2.2.1 (fun b hb=>.inr (by simp at hb;subst hb;have:=HNB.out;have:=HPA.out.1;omega))).step H6.out.2.1).fresh hs.2 (fun b hb=>.inr (by simp at hb;subst hb;have:=HX.out.2.2.2.2.2.2.1;have:=HPA.out.1;omega)))
       ·rw [hnl] at HNU
        go_wp2_with (go_at_call 90;refine HNU.out.mono ?_;rintro e w9 ⟨rfl,u9⟩)
        refine ⟨⟨m+1,acc',L++[form (nd 3 0 0 (der c s::r.kids.drop (m+1)))],by go_num,by omega,by rw [HDL.out.1,HDN.out,hnl];simp,by have:=HDL.out.2;simp;omega,HF.out.1.upd u9 (by simp),HF.out.2.1.ext u9,HF.out.2.2.1,HF.out.2.2.2.step u9,u9.some HL3.out (by simp)⟩,by simp [intOf];omega⟩
      ·have hme:m=r.kids.length:=by omega
       subst hme
       have hll:L=derC c r.kids:=by have:=HDL.out.1;rw [List.drop_length] at this;rw [this];simp [derC]
       subst hll
       obtain ⟨ac,cc,rfl,_⟩:=id HO.out.1.list.form
       have hnb2:∀ b∈[nb],b∈M1:=fun b hb=>by simp at hb;subst hb;exact HX.out.2.2.2.2.2.1
       have hnode:RxV M1 wr (nd 4 0 0 (derC c r.kids)) (.agg #[.int .i64 4,.int .u8 0,.int .u8 0,.slice ac (derC c r.kids).length cc]):=RxV.iff.2 ⟨_,rfl,⟨⟨by omega,by omega⟩,by omega,by omega⟩,HO.out.1.list⟩
       obtain ⟨f,gf,caps,hmf,hfk,eg,hcall⟩:=form_at (HX.out.2.2.2.2.2.2.2.upd HO.out.2.2.1 hnb2) hnode (fun b hb=>by have:=HL.out.2.1 b hb;have:=HO.out.2.2.1.size;omega) HFT.out.2.1 HFT.out.1
       rw [←HFT.out.2.2] at hcall
       have HCL:=Lib.hid hcall
       have HV:=Lib.hid (show f 4=some (.func (.func gf) #[] caps) from hfk)
       have HMF:=Lib.hid hmf
       have bR:=HX.out.1.upd HO.out.2.2.1 (by simp;exact HNE.out.2)
       have n0:=HO.out.2.2.2.cell (i:=0) rfl
       have n1:=HO.out.2.2.2.cell (i:=1) rfl
       have n2:=HO.out.2.2.2.cell (i:=2) rfl
       have n3:=HO.out.2.2.2.cell (i:=3) rfl
       have HBR:=Lib.hid bR
       clear bR hfk hmf hcall hnode hnb2
       go_wp2_with (first|(at_lookup;refine wpList_mflook (k:=3) Tryz.underlying3 Tryz.underlying136 infoForm _ _ rfl rfl b 8 f 4 rfl rfl HMF.out ⟨by omega,by omega⟩ ?_;rw [HV.out];simp only [Option.getD_some])|((with_reducible refine HCL.out.mono ?_);rintro e w6 ⟨v6,rfl,r6,u6⟩;obtain ⟨a6,c6,rfl,hF6,_,_⟩:=r6.shape;have bR:=HBR.out.upd u6 (by simp);have r0:=bR.cell (i:=0) rfl;have r1:=bR.cell (i:=1) rfl;have r2:=bR.cell (i:=2) rfl;have r3:=bR.cell (i:=3) rfl;have rf:∀ q,w6.frozen? ⟨rb,q,none⟩=false:=bR.free;have H6:=Lib.hid (And.intro bR (And.intro u6 hF6));clear bR u6 hF6 r6))
       have hs:=box_set (a:=.int .i64 (der c r).kind) (b:=.int .u8 (der c r).lo) (c:=.int .u8 (der c r).hi) (d:=.slice a6 (der c r).kids.length c6) H6.out.1
       exact ret_rx rfl rfl hs.1 rfl ((H6.out.2.2.upd hs.2 (by simpa using HX.out.2.2.2.2.1)).sub (fun b hb=>.inl (HX.out.2.2.2.1 b hb))) ((((HX.out.2.1).fresh HO.out.2.2.1 (fun b hb=>.inr (by simp at hb;subst hb;have:=HNB.out;have:=HPA.out.1;omega))).step H6.out.2.1).fresh hs.2 (fun b hb=>.inr (by simp at hb;subst hb;have:=HX.out.2.2.2.2.2.2.1;have:=HPA.out.1;omega)))
    ·by_cases hk456:r.kind=4∨r.kind=5∨r.kind=6
     ·have HE:=Lib.hid (show der c r=form (nd r.kind 0 0 (derL c r.kids)) by rw [HD.out,if_neg hk2,if_neg hk3,if_pos hk456])
      have HFT:=Lib.hid (show FitR (nd r.kind 0 0 (derL c r.kids))∧nodes (nd r.kind 0 0 (derL c r.kids))≤1000000∧der c r=form (nd r.kind 0 0 (derL c r.kids)) from ⟨⟨hk0,hk7,fun h=>by
       have h6:r.kind=6:=by simp only [Rx.kind] at h;unfold Rx.kind at hk456;revert h hk456;cases r;simp [Rx.kind];omega
       obtain ⟨x,hx⟩:=HON.out.1 (.inl h6)
       refine ⟨der c x,by rw [hx];rfl,fun h7=>(der_nf (HZ.out.2.2.1.kids x (by rw [hx];simp))).kids6 h7⟩⟩,by
       rw [nodes]
       have h1:=derL_nodes c 64 r.kids (fun s hs=>der_nodes c 64 s (HZ.out.2.1 s hs))
       have h2:nodes r=1+nodesL r.kids:=by rw [←Rx.eta r,nodes];rfl
       have h3:=HZ.out.2.2.2
       have h4:2*nodesL r.kids*(64+4)≤2*64*(64+4):=Nat.mul_le_mul_right _ (by omega)
       omega,HE.out⟩)
      have HKB:=Lib.hid (show 0≤r.kind∧r.kind≤7 from ⟨hk0,hk7⟩)
      have HKK:=Lib.hid hk456
      have e2:(r.kind == 2)=false:=by simpa using hk2
      have e3:(r.kind == 3)=false:=by simpa using hk3
      clear hk2 hk3 hk01 hk0 hk7
      go_upto_if 69 with fail
      go_cut [69] (fun x w'=>x=.bool true∧w'=w1)
      case first=>
       rcases hk456 with h|h|h
       ·have q4:(r.kind == 4)=true:=by simpa using h
        clear h
        go_wp2_with fail
        go_meet
        case rel=>exact ⟨by rw [q4],rfl⟩
       ·have q4:(r.kind == 4)=false:=by simp;omega
        have q5:(r.kind == 5)=true:=by simpa using h
        clear h
        go_wp2_with fail
        go_meet
        case rel=>exact ⟨rfl,rfl⟩
       ·have q4:(r.kind == 4)=false:=by simp;omega
        have q5:(r.kind == 5)=false:=by simp;omega
        have q6:(r.kind == 6)=true:=by simpa using h
        clear h
        go_wp2_with fail
        go_meet
        case rel=>exact ⟨rfl,rfl⟩
      case rest=>
      obtain ⟨rfl,rfl⟩:=hcut
      clear hk456
      obtain ⟨w1,rfl⟩:∃ wo:World,wo=wc:=⟨_,rfl⟩
      go_wp2_with fail
      go_loopw [76] (fun iv wr=>∃ (m:Nat) (acc:Value),iv=.int .i64 m∧m≤r.kids.length∧Blk wr nb [.int .i64 r.kind,.int .u8 0,.int .u8 0,acc] 37∧OwR 37 M1 wr acc (derL c (r.kids.take m))∧(∀ q,acc.ownBlock=some q→w1.heap.size≤q)∧Upd [nb] w1 wr) (fun iv _=>r.kids.length - (intOf iv).toNat)
      case atStart=>exact ⟨0,_,rfl,Nat.zero_le _,HL.out.2.2.2.2,OwR.nil0,fun q hq=>by simp [Value.ownBlock] at hq,Upd.refl _ _⟩
      case round=>
       obtain ⟨m,acc,rfl,hm,hBN,hO,hq,hu⟩:=hrel
       have HO:=Lib.hid (And.intro hO (And.intro hq (And.intro hu hBN)))
       clear hO hq hu hBN
       by_cases hlt:m<r.kids.length
       ·have hli:(m:Int)<r.kids.length:=by omega
        have hr:=List.getElem?_eq_getElem hlt
        have hmem:=List.mem_of_getElem? hr
        have htk:derL c (r.kids.take (m+1))=derL c (r.kids.take m)++[der c r.kids[m]]:=by rw [List.take_add_one,hr,derL_map,derL_map,List.map_append];rfl
        generalize r.kids[m]=s at *
        have hM2:∀ b∈M1++acc.ownBlock.toList,b∈M1∨w1.heap.size≤b:=fun b hb=>by
         rcases List.mem_append.1 hb with hb|hb
         ·exact .inl hb
         ·exact .inr (HO.out.2.1 b (by simpa using hb))
        have hnb2:∀ b∈[nb],b∈M1++acc.ownBlock.toList:=fun b hb=>by simp at hb;subst hb;exact List.mem_append_left _ HX.out.2.2.2.2.2.1
        obtain ⟨g,off,a3,c3,rfl,hRF,e0,e1,e2,e3⟩:=((HL.out.1.sub hM2).upd HO.out.2.2.1 hnb2).kid hr
        have hfm:=(HX.out.2.2.2.2.2.2.2.sub hM2).upd HO.out.2.2.1 hnb2
        have HR:=Lib.hid (And.intro hRF (And.intro htk (And.intro hmem (And.intro hM2 hfm))))
        clear hRF hr hmem htk hM2 hfm hnb2
        go_upto_region 23 with fail
        have b2:=Blk.new wr (rxC s.kind s.lo s.hi (.slice a3 s.kids.length c3)) 37
        have u2:=(Upd.refl [] wr).alloc (.cells (rxC s.kind s.lo s.hi (.slice a3 s.kids.length c3)).toArray 37)
        change Code.wp _ _ _ _ (wr.alloc (.cells (rxC s.kind s.lo s.hi (.slice a3 s.kids.length c3)).toArray 37))
        generalize (wr.alloc (.cells (rxC s.kind s.lo s.hi (.slice a3 s.kids.length c3)).toArray 37))=w2 at *
        generalize wr.heap.size=sb at *
        have d0:=b2.cell (i:=0) rfl
        have d1:=b2.cell (i:=1) rfl
        have d2:=b2.cell (i:=2) rfl
        have d3:=b2.cell (i:=3) rfl
        have n3:=(HO.out.2.2.2.upd u2 (by simp)).cell (i:=3) rfl
        obtain ⟨css,o1,o2,o3,o4⟩:=id (HO.out.1.ext u2)
        have HO2:=Lib.hid (And.intro o1 (And.intro o2 (And.intro o3 (And.intro o4 (And.intro (HO.out.2.2.1.step u2) (HO.out.2.2.2.upd u2 (by simp)))))))
        have hsz:∀ b∈acc.ownBlock.toList,b<w2.heap.size:=by
         rcases o1.2 with ⟨rfl,_⟩|⟨gg,cap,cur,rfl,_,hgg,_⟩
         ·intro b hb;simp [Value.ownBlock] at hb
         ·intro b hb
          simp [Value.ownBlock] at hb
          subst hb
          exact (Array.getElem?_eq_some_iff.1 hgg).1
        have HC:=Lib.hid (fun (w5:World) (u5:Upd [] w2 w5)=>HI.out s HR.out.2.2.1 _ _ _ (HR.out.2.2.2.2.ext (u2.step u5)) ((HR.out.1.ext u2).ext u5).val (fun b hb=>by
         have h5:=u5.size
         rcases List.mem_append.1 hb with hb|hb
         ·have:=HL.out.2.1 b hb;have:=HO2.out.2.2.2.2.1.size;omega
         ·have:=hsz b hb;omega))
        have HLN:=Lib.hid (show (derL c (r.kids.take m)).length≤64 from by rw [derL_map,List.length_map,List.length_take];have:=HZ.out.1;omega)
        clear b2 u2 e0 e1 e2 e3 o1 o2 o3 o4 hsz
        go_wp2_with fail
        refine wp_region_ord 7 2 [0,1,2,3,4,8] [1,3] [0,1,2,3,4,5,6,7,8,9] (fun w'=>∃ x:Ext w2,w'=x.val) (by kernel_rfl) (by kernel_rfl) (Ext.of (by iterate 25 (first|exact Upd.refl _ _|assumption|refine Upd.alloc ?_ _|refine Upd.drew ?_|refine Upd.drewN ?_ _|refine Upd.dl ?_|refine Upd.step ?_ (Ext.upd _)|refine Upd.nil ?_|skip))) ?_
        repeat (first|(refine wpOrd_load rfl rfl rfl rfl (fun K hK=>?_);go_big_quiet_step (fail);refine wpQuiet_nil ?_;refine hK _ ?_;clear hK K)|(refine wpOrd_free rfl rfl rfl (fun K hK=>?_);go_big_quiet_step (fail);refine wpQuiet_nil ?_;refine hK _ ?_;clear hK K))
        refine wpOrd_fix rfl rfl (fun K hK=>?_)
        go_wp2_with (go_at_call 89;refine (HC.out _ (by iterate 25 (first|exact Upd.refl _ _|assumption|refine Upd.alloc ?_ _|refine Upd.drew ?_|refine Upd.drewN ?_ _|refine Upd.dl ?_|refine Upd.step ?_ (Ext.upd _)|refine Upd.nil ?_|skip))).mono ?_;rintro e w6 ⟨v6,rfl,r6,u6⟩;obtain ⟨a6,c6,rfl,hF6,_,_⟩:=r6.shape)
        have HU6:=Lib.hid (And.intro (show Upd [] w2 w6 from Upd.step (by iterate 25 (first|exact Upd.refl _ _|assumption|refine Upd.alloc ?_ _|refine Upd.drew ?_|refine Upd.drewN ?_ _|refine Upd.dl ?_|refine Upd.step ?_ (Ext.upd _)|refine Upd.nil ?_|skip)) u6) hF6)
        clear u6 r6 hF6
        refine ⟨fun _=>Ext.of HU6.out.1,?_⟩
        repeat (first|(refine wpOrd_load rfl rfl rfl rfl (fun K hK=>?_);go_big_quiet_step (fail);refine wpQuiet_nil ?_;refine hK _ ?_;clear hK K)|(refine wpOrd_free rfl rfl rfl (fun K hK=>?_);go_big_quiet_step (fail);refine wpQuiet_nil ?_;refine hK _ ?_;clear hK K))
        refine wpOrd_fix rfl rfl (fun K hK=>?_)
        go_wp2_with fail
        have NB:=Blk.new w6 (rxC (der c s).kind (der c s).lo (der c s).hi (.slice a6 (der c s).kids.length c6)) 37
        have UB:=(Upd.refl [] w6).alloc (.cells (rxC (der c s).kind (der c s).lo (der c s).hi (.slice a6 (der c s).kids.length c6)).toArray 37)
        change _∧_
        have HNB2:=Lib.hid (And.intro (show Blk (w6.alloc (.cells #[.int .i64 (der c s).kind,.int .u8 (der c s).lo,.int .u8 (der c s).hi,.slice a6 (der c s).kids.length c6] 37)) w6.heap.size [.int .i64 (der c s).kind,.int .u8 (der c s).lo,.int .u8 (der c s).hi,.slice a6 (der c s).kids.length c6] 37 from NB) (show Upd [] w6 (w6.alloc (.cells #[.int .i64 (der c s).kind,.int .u8 (der c s).lo,.int .u8 (der c s).hi,.slice a6 (der c s).kids.length c6] 37)) from UB))
        clear NB UB
        generalize (w6.alloc (.cells #[.int .i64 (der c s).kind,.int .u8 (der c s).lo,.int .u8 (der c s).hi,.slice a6 (der c s).kids.length c6] 37))=wB at *
        generalize w6.heap.size=gB at *
        have HUB:=Lib.hid (And.intro (HU6.out.1.step HNB2.out.2) (HU6.out.2.ext HNB2.out.2))
        refine ⟨fun _=>Ext.of HUB.out.1,?_⟩
        repeat (first|(refine wpOrd_load rfl rfl rfl rfl (fun K hK=>?_);go_big_quiet_step (fail);refine wpQuiet_nil ?_;refine hK _ ?_;clear hK K)|(refine wpOrd_free rfl rfl rfl (fun K hK=>?_);go_big_quiet_step (fail);refine wpQuiet_nil ?_;refine hK _ ?_;clear hK K))
        refine wpOrd_fix rfl rfl (fun K hK=>?_)
        refine wpList_app rfl _ _ _ rfl 37 4 40 _ Tryz.underlying35 infoRx rfl (by decide) acc _ _ rfl (ownsRow_updL HO2.out.1 HUB.out.1 (by simp)) gB 1 1 (rxC (der c s).kind (der c s).lo (der c s).hi (.slice a6 (der c s).kids.length c6)) 37 rfl rfl HNB2.out.1 (by simp [rxC,Value.oneCell']) (by omega) (by have:=HLN.out;unfold maxLen;omega) (by have:=HLN.out;omega) ?_
        intro g7 c7 w7 o7 u7 k7
        simp only [Act.put,List.setIfInBounds_toArray,List.set_cons_zero,List.set_cons_succ]
        have nb7:Blk w7 nb [.int .i64 r.kind,.int .u8 0,.int .u8 0,acc] 37:=((HO2.out.2.2.2.2.2.upd HUB.out.1 (by simp)).upd u7 (fun hm=>by
         have h1:=HO.out.2.1 nb (by simpa using hm)
         have:=HNB.out
         have:=HPA.out.1
         have:=HPA.out.2
         omega))
        have n3':=nb7.cell (i:=3) rfl
        have nfr:∀ q,w7.frozen? ⟨nb,q,none⟩=false:=nb7.free
        have H7:=Lib.hid (And.intro o7 (And.intro u7 (And.intro k7 nb7)))
        clear o7 u7 k7 nb7 n3 d0 d1 d2 d3
        go_wp2_with fail
        refine ⟨fun hC=>absurd hC (by decide),?_⟩
        repeat (first|(refine wpOrd_load rfl rfl rfl rfl (fun K hK=>?_);go_big_quiet_step (fail);refine wpQuiet_nil ?_;refine hK _ ?_;clear hK K)|(refine wpOrd_free rfl rfl rfl (fun K hK=>?_);go_big_quiet_step (fail);refine wpQuiet_nil ?_;refine hK _ ?_;clear hK K))
        refine wpOrd_fix rfl rfl (fun K hK=>?_)
        go_wp2_with fail
        refine ⟨fun hC=>absurd hC (by decide),?_⟩
        refine wpOrd_nil ?_
        go_wp2_with fail
        have HQ:=OwR.push (w:=wB) (w':=w7) (r:=der c s) HO2.out.2.1 (fun b hb=>by have:=HL.out.2.1 b hb;have:=HO2.out.2.2.2.2.1.size;have:=HUB.out.1.size;omega) HO2.out.2.2.1 rfl (fun i r hr=>(HO2.out.2.2.2.1 i r hr).ext HUB.out.1) HUB.out.2 H7.out.1 H7.out.2.1 (by
         rcases H7.out.2.2.1 with h|h
         ·exact .inl h.symm
         ·exact .inr ⟨g7,rfl,Nat.le_of_eq h.symm⟩)
        rw [←HR.out.2.1] at HQ
        have us:Upd [nb] w7 (w7.setCell ⟨nb,3,none⟩ (.slice (some ⟨g7,0,none⟩) ((derL c (r.kids.take m)).length+1) c7)):=(Upd.refl [nb] w7).set (p:=⟨nb,3,none⟩) (by simp) _
        refine ⟨⟨m+1,_,by go_num,by omega,H7.out.2.2.2.set 3 _,HQ.upd us (fun b hb=>by simp at hb;subst hb;exact HX.out.2.2.2.2.2.1),fun q hq=>?_,?_⟩,by simp [intOf];omega⟩
        ·simp only [Value.ownBlock,Option.some.injEq] at hq
         subst hq
         rcases H7.out.2.2.1 with h|h
         ·exact HO.out.2.1 _ h
         ·have:=HO2.out.2.2.2.2.1.size;have:=HUB.out.1.size;omega
        ·exact ((HO2.out.2.2.2.2.1.step HUB.out.1).fresh H7.out.2.1 (fun b hb=>.inr (HO.out.2.1 b (by simpa using hb)))).trans us
       ·have hme:m=r.kids.length:=by omega
        subst hme
        rw [List.take_length] at HO
        obtain ⟨ac,cc,rfl,_⟩:=id HO.out.1.list.form
        have hnb2:∀ b∈[nb],b∈M1:=fun b hb=>by simp at hb;subst hb;exact HX.out.2.2.2.2.2.1
        have hnode:RxV M1 wr (nd r.kind 0 0 (derL c r.kids)) (.agg #[.int .i64 r.kind,.int .u8 0,.int .u8 0,.slice ac (derL c r.kids).length cc]):=RxV.iff.2 ⟨_,rfl,⟨HL.out.2.2.1.1,by omega,by omega⟩,HO.out.1.list⟩
        obtain ⟨f,gf,caps,hmf,hfk,eg,hcall⟩:=form_at (HX.out.2.2.2.2.2.2.2.upd HO.out.2.2.1 hnb2) hnode (fun b hb=>by have:=HL.out.2.1 b hb;have:=HO.out.2.2.1.size;omega) HFT.out.2.1 HFT.out.1
        rw [←HFT.out.2.2] at hcall
        have HCL:=Lib.hid hcall
        have HV:=Lib.hid (show f r.kind=some (.func (.func gf) #[] caps) from hfk)
        have HMF:=Lib.hid hmf
        have bR:=HX.out.1.upd HO.out.2.2.1 (by simp;exact HNE.out.2)
        have n0:=HO.out.2.2.2.cell (i:=0) rfl
        have n1:=HO.out.2.2.2.cell (i:=1) rfl
        have n2:=HO.out.2.2.2.cell (i:=2) rfl
        have n3:=HO.out.2.2.2.cell (i:=3) rfl
        have HBR:=Lib.hid bR
        clear bR hfk hmf hcall hnode hnb2
        go_wp2_with (first|(at_lookup;refine wpList_mflook (k:=3) Tryz.underlying3 Tryz.underlying136 infoForm _ _ rfl rfl b 8 f r.kind rfl rfl HMF.out ⟨by have:=HKB.out;omega,by have:=HKB.out;omega⟩ ?_;rw [HV.out];simp only [Option.getD_some])|((with_reducible refine HCL.out.mono ?_);rintro e w6 ⟨v6,rfl,r6,u6⟩;obtain ⟨a6,c6,rfl,hF6,_,_⟩:=r6.shape;have bR:=HBR.out.upd u6 (by simp);have r0:=bR.cell (i:=0) rfl;have r1:=bR.cell (i:=1) rfl;have r2:=bR.cell (i:=2) rfl;have r3:=bR.cell (i:=3) rfl;have rf:∀ q,w6.frozen? ⟨rb,q,none⟩=false:=bR.free;have H6:=Lib.hid (And.intro bR (And.intro u6 hF6));clear bR u6 hF6 r6))
        have hs:=box_set (a:=.int .i64 (der c r).kind) (b:=.int .u8 (der c r).lo) (c:=.int .u8 (der c r).hi) (d:=.slice a6 (der c r).kids.length c6) H6.out.1
        exact ret_rx rfl rfl hs.1 rfl ((H6.out.2.2.upd hs.2 (by simpa using HX.out.2.2.2.2.1)).sub (fun b hb=>.inl (HX.out.2.2.2.1 b hb))) ((((HX.out.2.1).fresh HO.out.2.2.1 (fun b hb=>.inr (by simp at hb;subst hb;have:=HNB.out;have:=HPA.out.1;omega))).step H6.out.2.1).fresh hs.2 (fun b hb=>.inr (by simp at hb;subst hb;have:=HX.out.2.2.2.2.2.2.1;have:=HPA.out.1;omega)))
     ·have hk7e:r.kind=7:=by omega
      obtain ⟨x,hx⟩:=HON.out.1 (.inr hk7e)
      have hE:der c r=form (nd 3 0 0 [der c x,r]):=by rw [HD.out,if_neg hk2,if_neg hk3,if_neg hk456,if_pos hk7e,hx];rfl
      have HFT:=Lib.hid (show FitR (nd 3 0 0 [der c x,r])∧nodes (nd 3 0 0 [der c x,r])≤1000000∧der c r=form (nd 3 0 0 [der c x,r]) from ⟨⟨by simp only [Rx.kind];omega,by simp only [Rx.kind];omega,fun h=>by simp only [Rx.kind] at h;omega⟩,by
       have h1:=der_nodes c 64 x (HZ.out.2.1 x (by rw [hx];simp))
       have h2:=HZ.out.2.1 x (by rw [hx];simp)
       have h3:=HZ.out.2.2.2
       have h4:2*nodes x*(64+4)≤2*64*(64+4):=Nat.mul_le_mul_right _ (by omega)
       simp only [nodes,nodesL]
       omega,hE⟩)
      have hl1:r.kids.length=1:=by rw [hx];rfl
      have HXX:=Lib.hid (And.intro hx hl1)
      rw [hk7e] at k0 ⊢
      clear hk2 hk01 hk3 hk456 hk7e hE hk0 hk7
      have n0:=HL.out.2.2.2.2.cell (i:=0) rfl
      have n3:=HL.out.2.2.2.2.cell (i:=3) rfl
      have nfr:∀ q,w1.frozen? ⟨nb,q,none⟩=false:=HL.out.2.2.2.2.free
      go_upto_region 27 with fail
      have b2:=HL.out.2.2.2.2.set 0 (.int .i64 3)
      have u2:Upd [nb] w1 (w1.setCell ⟨nb,0,none⟩ (.int .i64 3)):=(Upd.refl [nb] w1).set (p:=⟨nb,0,none⟩) (by simp) _
      have hnb2:∀ b∈[nb],b∈M1:=fun b hb=>by simp at hb;subst hb;exact HX.out.2.2.2.2.2.1
      have H2:=Lib.hid (And.intro b2 (And.intro u2 (And.intro (HX.out.2.2.1.upd u2 hnb2) (HX.out.2.2.2.2.2.2.2.upd u2 hnb2))))
      have hLx:=HL.out.1.upd u2 hnb2
      rw [hx] at hLx
      change RxL M1 _ [x] (.slice a1 1 c1) at hLx
      have bA:=HL.out.2.2.2.1.upd u2 (by simp;exact HNE.out.1)
      generalize (w1.setCell ⟨nb,0,none⟩ (.int .i64 3))=w2 at *
      obtain ⟨g,off,a3,c3,rfl,hRF,e0,e1,e2,e3⟩:=hLx.kid (i:=0) (r:=x) rfl
      rw [Nat.zero_mul,Nat.add_zero] at e0 e1 e2 e3
      rw [hl1] at bA H2 ⊢
      have k0:=bA.cell (i:=0) rfl
      have k1:=bA.cell (i:=1) rfl
      have k2:=bA.cell (i:=2) rfl
      have k3:=bA.cell (i:=3) rfl
      have HC:=Lib.hid (fun (w5:World) (u5:Upd [] w2 w5)=>HI.out x (by rw [HXX.out.1];simp) _ _ _ (H2.out.2.2.2.ext u5) (hRF.ext u5).val (fun b hb=>by have:=HL.out.2.1 b hb;have:=H2.out.2.1.size;have:=u5.size;omega))
      clear b2 u2 hnb2 hLx bA n0 n3 nfr hl1 hRF hx
      go_wp2_with fail
      refine wp_region_ord 8 4 [0,1,2,3,4,5,7,9] [2,4,7] [0,1,2,3,4,5,7,6,8,9,10] (fun w'=>∃ x:Ext w2,w'=x.val) (by kernel_rfl) (by kernel_rfl) (Ext.of (by iterate 25 (first|exact Upd.refl _ _|assumption|refine Upd.alloc ?_ _|refine Upd.drew ?_|refine Upd.drewN ?_ _|refine Upd.dl ?_|refine Upd.step ?_ (Ext.upd _)|refine Upd.nil ?_|skip))) ?_
      repeat (first|(refine wpOrd_load rfl rfl rfl rfl (fun K hK=>?_);go_big_quiet_step (fail);refine wpQuiet_nil ?_;refine hK _ ?_;clear hK K)|(refine wpOrd_free rfl rfl rfl (fun K hK=>?_);go_big_quiet_step (fail);refine wpQuiet_nil ?_;refine hK _ ?_;clear hK K))
      refine wpOrd_fix rfl rfl (fun K hK=>?_)
      go_wp2_with (go_at_call 89;refine (HC.out _ (by iterate 25 (first|exact Upd.refl _ _|assumption|refine Upd.alloc ?_ _|refine Upd.drew ?_|refine Upd.drewN ?_ _|refine Upd.dl ?_|refine Upd.step ?_ (Ext.upd _)|refine Upd.nil ?_|skip))).mono ?_;rintro e w6 ⟨v6,rfl,r6,u6⟩;obtain ⟨a6,c6,rfl,hF6,_,_⟩:=r6.shape)
      have HU6:=Lib.hid (And.intro (show Upd [] w2 w6 from Upd.step (by iterate 25 (first|exact Upd.refl _ _|assumption|refine Upd.alloc ?_ _|refine Upd.drew ?_|refine Upd.drewN ?_ _|refine Upd.dl ?_|refine Upd.step ?_ (Ext.upd _)|refine Upd.nil ?_|skip)) u6) hF6)
      clear u6 r6 hF6
      refine ⟨fun _=>Ext.of HU6.out.1,?_⟩
      repeat (first|(refine wpOrd_load rfl rfl rfl rfl (fun K hK=>?_);go_big_quiet_step (fail);refine wpQuiet_nil ?_;refine hK _ ?_;clear hK K)|(refine wpOrd_free rfl rfl rfl (fun K hK=>?_);go_big_quiet_step (fail);refine wpQuiet_nil ?_;refine hK _ ?_;clear hK K))
      refine wpOrd_fix rfl rfl (fun K hK=>?_)
      go_wp2_with fail
      have hB8:=Blk.new w6 [.int .i64 (der c x).kind,.int .u8 (der c x).lo,.int .u8 (der c x).hi,.slice a6 (der c x).kids.length c6,.int .i64 r.kind,.int .u8 r.lo,.int .u8 r.hi,.slice (some ⟨g,off,none⟩) 1 c1] 37
      have hU8:=(Upd.refl [] w6).alloc (.cells #[.int .i64 (der c x).kind,.int .u8 (der c x).lo,.int .u8 (der c x).hi,.slice a6 (der c x).kids.length c6,.int .i64 r.kind,.int .u8 r.lo,.int .u8 r.hi,.slice (some ⟨g,off,none⟩) 1 c1] 37)
      have HB8:=Lib.hid (show Blk (w6.alloc (.cells #[.int .i64 (der c x).kind,.int .u8 (der c x).lo,.int .u8 (der c x).hi,.slice a6 (der c x).kids.length c6,.int .i64 r.kind,.int .u8 r.lo,.int .u8 r.hi,.slice (some ⟨g,off,none⟩) 1 c1] 37)) w6.heap.size [.int .i64 (der c x).kind,.int .u8 (der c x).lo,.int .u8 (der c x).hi,.slice a6 (der c x).kids.length c6,.int .i64 r.kind,.int .u8 r.lo,.int .u8 r.hi,.slice (some ⟨g,off,none⟩) 1 c1] 37∧Upd [] w6 (w6.alloc (.cells #[.int .i64 (der c x).kind,.int .u8 (der c x).lo,.int .u8 (der c x).hi,.slice a6 (der c x).kids.length c6,.int .i64 r.kind,.int .u8 r.lo,.int .u8 r.hi,.slice (some ⟨g,off,none⟩) 1 c1] 37)) from ⟨hB8,hU8⟩)
      clear hB8 hU8
      generalize (w6.alloc (.cells #[.int .i64 (der c x).kind,.int .u8 (der c x).lo,.int .u8 (der c x).hi,.slice a6 (der c x).kids.length c6,.int .i64 r.kind,.int .u8 r.lo,.int .u8 r.hi,.slice (some ⟨g,off,none⟩) 1 c1] 37))=wB at *
      generalize hgB:w6.heap.size=gB at *
      have HG6:=Lib.hid (show w6.heap.size≤gB by omega)
      have hgs:w1.heap.size≤gB:=by have:=H2.out.2.1.size;have:=HU6.out.1.size;omega
      have HGB:=Lib.hid hgs
      clear hgB hgs
      refine ⟨fun hC=>absurd hC (by decide),?_⟩
      have nbB:=H2.out.1.upd (HU6.out.1.step HB8.out.2) (by simp)
      have n3:=nbB.cell (i:=3) rfl
      have nfr:∀ q,wB.frozen? ⟨nb,q,none⟩=false:=nbB.free
      have HNBB:=Lib.hid nbB
      clear nbB k0 k1 k2 k3 e0 e1 e2 e3
      repeat (first|(refine wpOrd_load rfl rfl rfl rfl (fun K hK=>?_);go_big_quiet_step (fail);refine wpQuiet_nil ?_;refine hK _ ?_;clear hK K)|(refine wpOrd_free rfl rfl rfl (fun K hK=>?_);go_big_quiet_step (fail);refine wpQuiet_nil ?_;refine hK _ ?_;clear hK K))
      refine wpOrd_fix rfl rfl (fun K hK=>?_)
      go_wp2_with fail
      refine ⟨fun hC=>absurd hC (by decide),?_⟩
      refine wpOrd_nil ?_
      have us:Upd [nb] wB (wB.setCell ⟨nb,3,none⟩ (.slice (some ⟨gB,0,none⟩) 2 2)):=(Upd.refl [nb] wB).set (p:=⟨nb,3,none⟩) (by simp) _
      have nbW:=HNBB.out.set 3 (.slice (some ⟨gB,0,none⟩) 2 2)
      have hgnb:gB≠nb:=by have:=HGB.out;have:=HPA.out.2;have:=HNB.out;have:=HPA.out.1;omega
      have hgM:gB ∉ M1:=fun hm=>by have:=HL.out.2.1 gB hm;have:=HGB.out;omega
      have hnb2:∀ b∈[nb],b∈M1:=fun b hb=>by simp at hb;subst hb;exact HX.out.2.2.2.2.2.1
      have gsz:∀ b∈M1++[gB],b∈M1∨w6.heap.size≤b:=fun b hb=>by
       rcases List.mem_append.1 hb with hb|hb
       ·exact .inl hb
       ·right;simp at hb;subst hb;exact HG6.out
      have hO2:OwR 37 M1 wB (.slice (some ⟨gB,0,none⟩) 2 2) [der c x,r]:=by
       refine OwR.of_blk (c:=2) (m:=2) (css:=fun i=>if i=0 then rxC (der c x).kind (der c x).lo (der c x).hi (.slice a6 (der c x).kids.length c6) else rxC r.kind r.lo r.hi (.slice (some ⟨g,off,none⟩) 1 c1)) (pad:=[]) HB8.out.1 rfl rfl (by omega) (by omega) (fun i=>by (try dsimp only);split <;> rfl) hgM (fun i y hy=>?_)
       match i with
       | 0=>cases hy;exact (HU6.out.2.sub gsz).ext HB8.out.2
       | 1=>cases hy;exact ((H2.out.2.2.1.ext HU6.out.1).sub gsz).ext HB8.out.2
       | (i+2)=>simp at hy
      have HO:=Lib.hid (show OwR 37 M1 (wB.setCell ⟨nb,3,none⟩ (.slice (some ⟨gB,0,none⟩) 2 2)) (.slice (some ⟨gB,0,none⟩) 2 2) [der c x,r]∧(∀ q,(Value.slice (some ⟨gB,0,none⟩) 2 2).ownBlock=some q→w1.heap.size≤q)∧Upd [nb] w1 (wB.setCell ⟨nb,3,none⟩ (.slice (some ⟨gB,0,none⟩) 2 2))∧Blk (wB.setCell ⟨nb,3,none⟩ (.slice (some ⟨gB,0,none⟩) 2 2)) nb [.int .i64 3,.int .u8 0,.int .u8 0,.slice (some ⟨gB,0,none⟩) 2 2] 37 from
       ⟨hO2.upd us hnb2,fun q hq=>by simp only [Value.ownBlock,Option.some.injEq] at hq;subst hq;exact HGB.out,(H2.out.2.1.step (HU6.out.1.step HB8.out.2)).trans us,nbW⟩)
      clear us nbW hgnb hgM hnb2 gsz hO2 n3 nfr
      generalize (wB.setCell ⟨nb,3,none⟩ (.slice (some ⟨gB,0,none⟩) 2 2))=wr at *
      have hnb2:∀ b∈[nb],b∈M1:=fun b hb=>by simp at hb;subst hb;exact HX.out.2.2.2.2.2.1
      have hnode:RxV M1 wr (nd 3 0 0 [der c x,r]) (.agg #[.int .i64 3,.int .u8 0,.int .u8 0,.slice (some ⟨gB,0,none⟩) 2 2]):=RxV.iff.2 ⟨_,rfl,⟨⟨by omega,by omega⟩,by omega,by omega⟩,HO.out.1.list⟩
      obtain ⟨f,gf,caps,hmf,hfk,eg,hcall⟩:=form_at (HX.out.2.2.2.2.2.2.2.upd HO.out.2.2.1 hnb2) hnode (fun b hb=>by have:=HL.out.2.1 b hb;have:=HO.out.2.2.1.size;omega) HFT.out.2.1 HFT.out.1
      rw [←HFT.out.2.2] at hcall
      have HCL:=Lib.hid hcall
      have HV:=Lib.hid (show f 3=some (.func (.func gf) #[] caps) from hfk)
      have HMF:=Lib.hid hmf
      have bR:=HX.out.1.upd HO.out.2.2.1 (by simp;exact HNE.out.2)
      have n0:=HO.out.2.2.2.cell (i:=0) rfl
      have n1:=HO.out.2.2.2.cell (i:=1) rfl
      have n2:=HO.out.2.2.2.cell (i:=2) rfl
      have n3:=HO.out.2.2.2.cell (i:=3) rfl
      have HBR:=Lib.hid bR
      clear bR hfk hmf hcall hnode hnb2
      go_wp2_with (first|(at_lookup;refine wpList_mflook (k:=3) Tryz.underlying3 Tryz.underlying136 infoForm _ _ rfl rfl b 8 f 3 rfl rfl HMF.out ⟨by omega,by omega⟩ ?_;rw [HV.out];simp only [Option.getD_some])|((with_reducible refine HCL.out.mono ?_);rintro e w6 ⟨v6,rfl,r6,u6⟩;obtain ⟨a6,c6,rfl,hF6,_,_⟩:=r6.shape;have bR:=HBR.out.upd u6 (by simp);have r0:=bR.cell (i:=0) rfl;have r1:=bR.cell (i:=1) rfl;have r2:=bR.cell (i:=2) rfl;have r3:=bR.cell (i:=3) rfl;have rf:∀ q,w6.frozen? ⟨rb,q,none⟩=false:=bR.free;have H6:=Lib.hid (And.intro bR (And.intro u6 hF6));clear bR u6 hF6 r6))
      have hs:=box_set (a:=.int .i64 (der c r).kind) (b:=.int .u8 (der c r).lo) (c:=.int .u8 (der c r).hi) (d:=.slice a6 (der c r).kids.length c6) H6.out.1
      exact ret_rx rfl rfl hs.1 rfl ((H6.out.2.2.upd hs.2 (by simpa using HX.out.2.2.2.2.1)).sub (fun b hb=>.inl (HX.out.2.2.2.1 b hb))) ((((HX.out.2.1).fresh HO.out.2.2.1 (fun b hb=>.inr (by simp at hb;subst hb;have:=HNB.out;have:=HPA.out.1;omega))).step H6.out.2.1).fresh hs.2 (fun b hb=>.inr (by simp at hb;subst hb;have:=HX.out.2.2.2.2.2.2.1;have:=HPA.out.1;omega)))
end
end Rgx
end Go.Proofs.YtjclbjdkkdijbaaGreat
