/- Walks through the reference model of package regex: match of the empty string, Nullable. Conditions: none. Walks through the reference model of package regex: simple, few, Normal. Conditions: none. Walks through the reference model of package regex: few, Normal. Conditions: none. Walks through the reference model of package regex: derive. Conditions: none. Walks through the reference model of package regex: Derive. Conditions: none. -/
import Derived.Test.YtjclbjdkkdijbaaGreatRfZa
import Derived.Test.YtjclbjdkkdijbaaGreatRxK
import Derived.Test.YtjclbjdkkdijbaaGreatRfZb
import Derived.Test.YtjclbjdkkdijbaaGreatRxZc
import Derived.Test.YtjclbjdkkdijbaaGreatRxU
set_option linter.unusedVariables false
set_option linter.unusedSimpArgs false
set_option linter.unusedSectionVars false
section
open Go.RowKit
namespace Go.Proofs.YtjclbjdkkdijbaaGreat
open L
namespace Rgx
open Rx
attribute [-go_sem] sliced
theorem rnul_eq (r:Rx):nul r=if r.kind=1∨r.kind=7 then true else if r.kind=3∨r.kind=5 then r.kids.all nul else if r.kind=4 then r.kids.any nul else if r.kind=6 then !((r.kids.map nul).headD true) else false:=by
 obtain ⟨k,lo,hi,ks⟩:=r
 rw [nul]
 simp only [Rx.kind,Rx.kids,nulL_map,List.all_map,List.any_map]
 rfl
theorem rtake_all {ks:List Rx} {m:Nat} {s:Rx} {b:Bool} (h:ks[m]?=some s) (h1:∀ x∈ks.take m,nul x=b) (h2:nul s=b):∀ x∈ks.take (m+1),nul x=b:=by
 rw [List.take_add_one,h]
 intro x hx
 rcases List.mem_append.1 hx with hx|hx
 ·exact h1 x hx
 ·simp at hx;subst hx;exact h2
theorem rall_end {k:Int} {ks:List Rx} (hk:k=4∨k=5) (h:∀ x∈ks,nul x=decide (k=5)):(if k=5 then ks.all nul else ks.any nul)=decide (k=5):=by
 rcases hk with rfl|rfl
 ·simp only [show ¬ ((4:Int)=5) by omega,if_false,decide_false] at h ⊢
  rw [List.any_eq_false];intro x hx;rw [h x hx];simp
 ·simp only [if_true,decide_true] at h ⊢
  rw [List.all_eq_true];exact h
theorem rall_hit {k:Int} {ks:List Rx} {s:Rx} (hk:k=4∨k=5) (hm:s∈ks) (h:nul s=decide (k=4)):(if k=5 then ks.all nul else ks.any nul)=decide (k=4):=by
 rcases hk with rfl|rfl
 ·simp only [show ¬ ((4:Int)=5) by omega,if_false,decide_true] at h ⊢
  rw [List.any_eq_true];exact ⟨s,hm,h⟩
 ·simp only [if_true,show ¬ ((5:Int)=4) by omega,decide_false] at h ⊢
  cases e:ks.all nul with
  | false=>rfl
  | true=>rw [List.all_eq_true] at e;rw [e s hm] at h;cases h
section
variable {w w':World} {v:Value}
set_option maxRecDepth 100000 in
set_option maxHeartbeats 8000000 in
theorem match_calls:∀ (n:Nat) (r:Rx) {w:World} {v:Value},nodes r≤n→RxV [] w r v→proper r=true→Calls Tryz.prog 96 #[v,.string { data:=#[] }] w fun e w'=>e=.returned (.bool (nul r))∧Upd [] w w':=by
 intro n
 induction n with
 | zero=>intro r w v hn;have:=nodes_pos r;omega
 | succ n ih=>
  intro r w v hn hr hp
  have hfit:Fit r.kind r.lo r.hi r.kids∧∀ s∈r.kids,proper s=true:=by
   obtain ⟨_,_,_,_,hsc,_⟩:=hr.shape
   obtain ⟨k,lo,hi,ks⟩:=r
   exact proper_fit ⟨hsc.2.1.1,hsc.2.2.2⟩ hp
  have hkr:0≤r.kind∧r.kind≤7:=by have:=hfit.1;unfold Fit at this;omega
  have hnk:nodesL r.kids≤n:=by obtain ⟨k,lo,hi,ks⟩:=r;rw [nodes] at hn;simp only [Rx.kids];omega
  have HN:=Lib.hid (rnul_eq r)
  have HI:=Lib.hid (fun (s:Rx) (hs:s∈r.kids) (w:World) (v:Value) (h:RxV [] w s v)=>ih s (by have:=nodesL_mem hs;omega) h (hfit.2 s hs))
  have HT:=Lib.hid (fun (x:Rx) (l:List Rx) (hx:r.kids=x::l) (w:World) (v:Value) (h:RxV [] w (nd 3 0 0 l) v)=>ih (nd 3 0 0 l) (by rw [hx,nodesL] at hnk;rw [nodes];have:=nodes_pos x;omega) h (by
   rw [proper]
   have h2:=hfit.2
   rw [hx] at h2
   simp [(properL_iff l).2 fun y hy=>h2 y (by simp [hy])]))
  have H6:=Lib.hid (show r.kind=6→∃ x,r.kids=[x] from fun h=>by
   have:r.kids.length=1:=by have:=hfit.1;unfold Fit at this;omega
   match hq:r.kids,this with
   | [x],_=>exact ⟨x,rfl⟩)
  clear ih hfit hp hn hnk
  obtain ⟨a1,c1,rfl,hF,hsc,hL⟩:=hr.shape
  obtain ⟨a',c',he,q1,q2,_⟩:=id hL.form
  cases he
  have HL:=Lib.hid hL
  have HSC:=Lib.hid hsc
  clear hr hF hsc hL
  go_enter Tryz.func96,Tryz.ntmps96
  go_upto_region 1 with fail
  have bA:=Blk.new w (rxC r.kind r.lo r.hi (.slice a1 r.kids.length c1)) 25
  have uA:=(Upd.refl [] w).alloc (.cells (rxC r.kind r.lo r.hi (.slice a1 r.kids.length c1)).toArray 25)
  change Code.wp _ _ _ _ (w.alloc (.cells (rxC r.kind r.lo r.hi (.slice a1 r.kids.length c1)).toArray 25))
  generalize (w.alloc (.cells (rxC r.kind r.lo r.hi (.slice a1 r.kids.length c1)).toArray 25))=w1 at *
  have k0:=bA.cell (i:=0) rfl
  have k1:=bA.cell (i:=1) rfl
  have k2:=bA.cell (i:=2) rfl
  have k3:=bA.cell (i:=3) rfl
  have HU:=Lib.hid uA
  clear bA uA
  generalize w.heap.size=pb at *
  rcases (by omega:r.kind=0∨r.kind=2∨r.kind=1∨r.kind=7∨r.kind=3∨r.kind=4∨r.kind=5∨r.kind=6) with h|h|h|h|h|h|h|h
  ·have HE:=Lib.hid (show nul r=false by rw [HN.out,h];simp)
   rw [h] at k0 ⊢
   clear h hkr k1 k2 k3
   go_wp2_with fail
   go_ret
   rw [HE.out]
   exact ⟨rfl,HU.out⟩
  ·have HE:=Lib.hid (show nul r=false by rw [HN.out,h];simp)
   rw [h] at k0 ⊢
   clear h hkr
   go_upto_region 7 with fail
   refine wp_region_qx (by kernel_rfl) (by kernel_rfl) ?_
   repeat (go_big_quiet_step ((fail)))
   refine wpQuiet_nil ?_
   intro x
   go_wp2_with fail
   go_ret
   rw [HE.out]
   exact ⟨rfl,HU.out.step x.upd⟩
  ·have HE:=Lib.hid (show nul r=true by rw [HN.out,h];simp)
   rw [h] at k0 ⊢
   clear h hkr k1 k2 k3
   go_wp2_with fail
   go_ret
   rw [HE.out]
   exact ⟨rfl,HU.out⟩
  ·have HE:=Lib.hid (show nul r=true by rw [HN.out,h];simp)
   rw [h] at k0 ⊢
   clear h hkr k1 k2
   go_wp2_with fail
   go_loopw [8] (fun i wr=>i=.int .i64 1∧wr=w1) (fun _ _=>0)
   case atStart=>exact ⟨rfl,rfl⟩
   case round=>
    obtain ⟨rfl,rfl⟩:=hrel
    go_wp2_with fail
    go_ret
    rw [HE.out]
    exact ⟨rfl,HU.out⟩
  ·have HE:=Lib.hid (show nul r=r.kids.all nul by rw [HN.out,h];simp)
   rw [h] at k0 ⊢
   clear h hkr k1 k2
   match hks:r.kids with
   | []=>
    have hl:r.kids.length=0:=by rw [hks];rfl
    have HE2:=Lib.hid (show nul r=true by rw [HE.out,hks];rfl)
    rw [hl] at k3
    clear hks hl
    go_wp2_with fail
    go_ret
    rw [HE2.out]
    exact ⟨rfl,HU.out⟩
   | y::l=>
    have HLN:=Lib.hid (show 1≤r.kids.length∧r.kids.drop 1=l by rw [hks];simp)
    have hne:((r.kids.length:Nat):Int)≠0:=by have:=HLN.out.1;omega
    have HE2:=Lib.hid (show nul r=(nul y && l.all nul) by rw [HE.out,hks];rfl)
    have HTN:=Lib.hid (show nul (nd 3 0 0 l)=l.all nul by rw [rnul_eq];simp [Rx.kind,Rx.kids])
    have HK0:=Lib.hid (show r.kids[0]?=some y by rw [hks];rfl)
    have HMX:=Lib.hid (show y∈r.kids by rw [hks];simp)
    have HTT:=Lib.hid (HT.out y l hks)
    clear hks
    go_wp2_with fail
    go_loopw [5] (fun i wr=>(i=.int .i64 0∨i=.int .i64 1∧Hid (nul r=false))∧∃ x:Ext w1,wr=x.val) (fun i _=>2 - (intOf i).toNat)
    case atStart=>exact ⟨.inl rfl,Ext.of (by iterate 25 (first|exact Upd.refl _ _|assumption|refine Upd.alloc ?_ _|refine Upd.drew ?_|refine Upd.drewN ?_ _|refine Upd.dl ?_|refine Upd.step ?_ (Ext.upd _)|refine Upd.nil ?_|skip))⟩
    case round=>
     obtain ⟨hi,x,rfl⟩:=hrel
     have HXU:=Lib.hid x.upd
     have m3:=x.upd.some k3 (by simp)
     clear k0 k3
     generalize x.val=wq at *
     rcases hi with rfl|⟨rfl,HF⟩
     ·obtain ⟨g,off,a2,c2,rfl,hRF,e0,e1,e2,e3⟩:=(HL.out.ext (HU.out.step HXU.out)).kid HK0.out
      rw [Nat.zero_mul,Nat.add_zero] at e0 e1 e2 e3
      have HC:=Lib.hid (fun (w':World) (u:Upd [] wq w')=>HI.out _ HMX.out w' _ (hRF.ext u).val)
      obtain ⟨a3,k3,c3,hsl⟩:∃ a3 k3 c3,sliced (some ⟨g,off,none⟩) 1 r.kids.length c1 4=.slice a3 k3 c3:=⟨_,_,_,rfl⟩
      have HD:=Lib.hid (fun (w':World) (u:Upd [] wq w')=>HTT.out w' (.agg #[.int .i64 3,.int .u8 0,.int .u8 0,.slice a3 k3 c3]) (RxV.iff.2 ⟨_,rfl,⟨by unfold IsI64;omega,by omega,by omega⟩,hsl ▸ HLN.out.2 ▸ ((HL.out.ext (HU.out.step HXU.out)).ext u).from_ rfl HLN.out.1⟩))
      rw [HTN.out] at HD
      clear hRF
      cases hpy:nul y with
      | true=>
       rw [hpy] at HE2 HC
       clear hpy
       go_upto_region 14 with fail
       refine wp_region_qx (by kernel_rfl) (by kernel_rfl) ?_
       repeat (go_big_quiet_step (((go_at_call 96;exact qx (HC.out _ (Ext.upd _))))))
       refine wpQuiet_nil ?_
       intro x
       have hx0:=x.upd
       have m3:=hx0.some m3 (by simp)
       generalize x.val=wz at *
       have HX0:=Lib.hid hx0
       clear hx0
       go_upto_region 15 with fail
       have HD2:=Lib.hid (fun (w':World) (u:Upd [] wz w')=>HD.out w' (HX0.out.step u))
       refine wp_region_qx (by kernel_rfl) (by kernel_rfl) ?_
       repeat (go_big_quiet_step (((go_at_call 96;exact qx (HD2.out _ (Ext.upd _))))))
       refine wpQuiet_nil ?_
       intro x
       cases hpl:l.all nul with
       | true=>
        rw [hpl] at HE2
        clear hpl
        go_wp2_with fail
        go_ret
        rw [HE2.out]
        exact ⟨rfl,((HU.out.step HXU.out).step HX0.out).step x.upd⟩
       | false=>
        rw [hpl] at HE2
        clear hpl
        go_wp2_with fail
        exact ⟨⟨.inr ⟨rfl,Lib.hid (by rw [HE2.out];rfl)⟩,Ext.of ((HXU.out.step HX0.out).step x.upd)⟩,by simp [intOf]⟩
      | false=>
       rw [hpy] at HE2 HC
       clear hpy
       go_upto_region 14 with fail
       refine wp_region_qx (by kernel_rfl) (by kernel_rfl) ?_
       repeat (go_big_quiet_step (((go_at_call 96;exact qx (HC.out _ (Ext.upd _))))))
       refine wpQuiet_nil ?_
       intro x
       have hx0:=x.upd
       have m3:=hx0.some m3 (by simp)
       generalize x.val=wz at *
       have HX0:=Lib.hid hx0
       clear hx0
       go_upto_region 15 with fail
       refine wp_region_qx (by kernel_rfl) (by kernel_rfl) ?_
       repeat (go_big_quiet_step ((fail)))
       refine wpQuiet_nil ?_
       intro x
       go_wp2_with fail
       exact ⟨⟨.inr ⟨rfl,Lib.hid (by rw [HE2.out];rfl)⟩,Ext.of ((HXU.out.step HX0.out).step x.upd)⟩,by simp [intOf]⟩
     ·go_wp2_with fail
      go_ret
      rw [HF.out]
      exact ⟨rfl,HU.out.step HXU.out⟩
  iterate 2
   ·have HE:=Lib.hid (show nul r=(if r.kind=5 then r.kids.all nul else r.kids.any nul) by rw [HN.out,h];simp)
    have HK:=Lib.hid (show r.kind=4∨r.kind=5 by omega)
    have HK5:=Lib.hid h
    rw [h] at k0 ⊢
    clear h hkr k1 k2
    go_wp2_with fail
    go_loopw [7] (fun i wr=>∃ m:Nat,i=.int .i64 m∧m≤r.kids.length∧Hid (∀ x∈r.kids.take m,nul x=decide (r.kind=5))∧∃ x:Ext w1,wr=x.val) (fun i _=>r.kids.length - (intOf i).toNat)
    case atStart=>exact ⟨0,rfl,Nat.zero_le _,Lib.hid (by simp),Ext.of (by iterate 25 (first|exact Upd.refl _ _|assumption|refine Upd.alloc ?_ _|refine Upd.drew ?_|refine Upd.drewN ?_ _|refine Upd.dl ?_|refine Upd.step ?_ (Ext.upd _)|refine Upd.nil ?_|skip))⟩
    case round=>
     obtain ⟨m,rfl,hm,HPM,x,rfl⟩:=hrel
     have HXU:=Lib.hid x.upd
     have m0:=x.upd.some k0 (by simp)
     have m3:=x.upd.some k3 (by simp)
     clear k0 k3
     generalize x.val=wq at *
     by_cases hlt:m<r.kids.length
     ·have hli:(m:Int)<r.kids.length:=by omega
      have hr:=List.getElem?_eq_getElem hlt
      have hmem:=List.mem_of_getElem? hr
      generalize r.kids[m]=s at *
      obtain ⟨g,off,a2,c2,rfl,hRF,e0,e1,e2,e3⟩:=(HL.out.ext (HU.out.step HXU.out)).kid hr
      have HRR:=Lib.hid (And.intro hmem hr)
      have HC:=Lib.hid (fun (w':World) (u:Upd [] wq w')=>HI.out _ hmem w' _ (hRF.ext u).val)
      clear hRF hr hmem
      have HQ:=Lib.hid (fun h=>rtake_all HRR.out.2 HPM.out h)
      have HH:=Lib.hid (fun h=>rall_hit HK.out HRR.out.1 h)
      cases hpr:nul s with
      | true=>
       rw [hpr] at HC HQ HH
       clear hpr
       go_upto_region 23 with fail
       refine wp_region_qx (by kernel_rfl) (by kernel_rfl) ?_
       repeat (go_big_quiet_step (((go_at_call 96;exact qx (HC.out _ (Ext.upd _))))))
       refine wpQuiet_nil ?_
       intro x
       first
        | (go_wp2_with fail;exact ⟨⟨m+1,by go_num,by omega,Lib.hid (HQ.out (by rw [HK5.out];rfl)),Ext.of (HXU.out.step x.upd)⟩,by simp [intOf];omega⟩)
        | (go_wp2_with fail;go_ret;rw [HE.out,HH.out (by rw [HK5.out];rfl),HK5.out];exact ⟨rfl,(HU.out.step HXU.out).step x.upd⟩)
      | false=>
       rw [hpr] at HC HQ HH
       clear hpr
       go_upto_region 23 with fail
       refine wp_region_qx (by kernel_rfl) (by kernel_rfl) ?_
       repeat (go_big_quiet_step (((go_at_call 96;exact qx (HC.out _ (Ext.upd _))))))
       refine wpQuiet_nil ?_
       intro x
       first
        | (go_wp2_with fail;exact ⟨⟨m+1,by go_num,by omega,Lib.hid (HQ.out (by rw [HK5.out];rfl)),Ext.of (HXU.out.step x.upd)⟩,by simp [intOf];omega⟩)
        | (go_wp2_with fail;go_ret;rw [HE.out,HH.out (by rw [HK5.out];rfl),HK5.out];exact ⟨rfl,(HU.out.step HXU.out).step x.upd⟩)
     ·have hme:m=r.kids.length:=by omega
      subst hme
      rw [List.take_length] at HPM
      go_wp2_with fail
      go_ret
      rw [HE.out,rall_end HK.out HPM.out,HK5.out]
      exact ⟨rfl,HU.out.step HXU.out⟩
  ·obtain ⟨x,hx⟩:=H6.out h
   have HE:=Lib.hid (show nul r=!(nul x) by rw [HN.out,h,hx];simp)
   have hl:r.kids.length=1:=by rw [hx];rfl
   obtain ⟨g,off,a2,c2,rfl,hRF,e0,e1,e2,e3⟩:=(HL.out.ext HU.out).kid (i:=0) (r:=x) (by rw [hx];rfl)
   rw [Nat.zero_mul,Nat.add_zero] at e0 e1 e2 e3
   have HC:=Lib.hid (HI.out x (by rw [hx];simp) _ _ hRF.val)
   rw [h] at k0 ⊢
   rw [hl] at k3
   clear h hkr hRF hx hl
   go_wp2_with (first|(with_reducible refine HC.out.mono ?_);rintro e w3 ⟨rfl,hu⟩)
   go_ret
   rw [HE.out]
   exact ⟨rfl,HU.out.step hu⟩
set_option maxRecDepth 100000 in
set_option maxHeartbeats 8000000 in
theorem rNullable_calls {r:Rx} (hr:RxV [] w r v) (hn:nodes r≤64) (hp:proper r=true) :
 Calls Tryz.prog 57 #[v] w fun e w'=>e=.returned (.tuple #[.bool (nul r),.int .i64 0])∧Upd [] w w':=by
 have HV:=Lib.hid (fun (w':World) (u:Upd [] w w')=>show Calls Tryz.prog 91 #[v] w' fun e w2=>e=.returned (.int .i64 0)∧Upd [] w' w2 from by
  have h:=rvalid_calls (hr.ext u) (by omega)
  rwa [show vErr r=0 by rw [vErr,if_neg (by omega),if_pos hp]] at h)
 have HC:=Lib.hid (fun (w':World) (u:Upd [] w w')=>match_calls _ r (Nat.le_refl _) (hr.ext u) hp)
 obtain ⟨vk,rfl,_,_⟩:=box_load hr
 clear hr hn hp
 go_enter Tryz.func57,Tryz.ntmps57
 go_upto_region 1 with fail
 have b1:=Blk.new w (rxC r.kind r.lo r.hi vk) 25
 have u1:=(Upd.refl [] w).alloc (.cells (rxC r.kind r.lo r.hi vk).toArray 25)
 change Code.wp _ _ _ _ (w.alloc (.cells (rxC r.kind r.lo r.hi vk).toArray 25))
 generalize (w.alloc (.cells (rxC r.kind r.lo r.hi vk).toArray 25))=w1 at *
 have c0:=b1.cell (i:=0) rfl
 have c1:=b1.cell (i:=1) rfl
 have c2:=b1.cell (i:=2) rfl
 have c3:=b1.cell (i:=3) rfl
 have HU:=Lib.hid u1
 clear b1 u1
 have HX:=Lib.hid (HV.out w1 HU.out)
 generalize w.heap.size=pb at *
 go_upto_region 2 with (first|(with_reducible refine HX.out.mono ?_);rintro e _ ⟨rfl,hu⟩;obtain ⟨x,rfl⟩:=Ext.of hu)
 have HY:=Lib.hid (HC.out _ (HU.out.step x.upd))
 go_wp2_with (first|(with_reducible refine HY.out.mono ?_);rintro e w2 ⟨rfl,hu2⟩)
 go_ret2
 exact ⟨rfl,(HU.out.step x.upd).step hu2⟩
end
end Rgx
end Go.Proofs.YtjclbjdkkdijbaaGreat
end
section
open Go.RowKit
namespace Go.Proofs.YtjclbjdkkdijbaaGreat
open L
namespace Rgx
open Rx
section
variable {w w':World} {v:Value} {M:List Nat}
theorem rnormal_calls {k:Int} {ks:List Rx} (hf:(k=3∨k=4∨k=5)∨(k=6∨k=7)∧ks.length=1) (hks:∀ r∈ks,NF r) (hL:RxL M w ks v) (hM:∀ b∈M,b<w.heap.size) (hn:nodesL ks≤1000000) :
 Calls Tryz.prog 130 #[.int .i64 k,v] w fun e w'=>∃ v',e=.returned v'∧RxV M w' (form (nd k 0 0 ks)) v'∧Upd [] w w':=by
 rcases hf with hk|⟨hk,h1⟩
 ·exact rnormalJ_calls hk hL hM hn
 ·obtain ⟨x,rfl⟩:=List.length_eq_one_iff.1 h1
  have hx:=hks x (by simp)
  rcases hk with rfl|rfl
  ·refine rnormal6_calls hL hM fun h6=>?_
   cases hx <;> simp only [Rx.kind] at h6 <;> first|omega|skip
   exact ⟨_,rfl⟩
  ·refine rnormal7_calls hL hM ?_
   cases hx <;> simp only [Rx.kind] <;> omega
theorem two_boxesR {M:List Nat} {r:Rx} {a1:Option Addr} {c1:Nat} (hF:RxF M w r (rxC r.kind r.lo r.hi (.slice a1 r.kids.length c1))) (hM:∀ b∈M,b<w.heap.size) :
 ∃ w1 M1 rb,w1=(w.alloc (.cells (rxC r.kind r.lo r.hi (.slice a1 r.kids.length c1)).toArray 25)).alloc (.cells #[.int .i64 0,.int .u8 0,.int .u8 0,.slice none 0 0] 25)∧rb=w.heap.size+1∧M1=rb::w.heap.size::M ∧
  Blk w1 w.heap.size (rxC r.kind r.lo r.hi (.slice a1 r.kids.length c1)) 25∧Blk w1 rb [.int .i64 0,.int .u8 0,.int .u8 0,.slice none 0 0] 25∧Upd [] w w1∧w1.heap.size=w.heap.size+2∧RxF M1 w1 r (rxC r.kind r.lo r.hi (.slice a1 r.kids.length c1)) ∧
  (∀ b∈M1,b∈M∨w.heap.size≤b)∧(∀ b∈M1,b<w1.heap.size)∧(∀ b∈M,b∈M1)∧rb∈M1∧w.heap.size≤rb:=by
 have bA:=Blk.new w (rxC r.kind r.lo r.hi (.slice a1 r.kids.length c1)) 25
 have uA:=(Upd.refl [] w).alloc (.cells (rxC r.kind r.lo r.hi (.slice a1 r.kids.length c1)).toArray 25)
 have hz1:(w.alloc (.cells (rxC r.kind r.lo r.hi (.slice a1 r.kids.length c1)).toArray 25)).heap.size=w.heap.size+1:=by simp
 have bB:=Blk.new (w.alloc (.cells (rxC r.kind r.lo r.hi (.slice a1 r.kids.length c1)).toArray 25)) [.int .i64 0,.int .u8 0,.int .u8 0,.slice none 0 0] 25
 have uB:=uA.alloc (.cells #[.int .i64 0,.int .u8 0,.int .u8 0,.slice none 0 0] 25)
 have bA:=bA.alloc (.cells #[.int .i64 0,.int .u8 0,.int .u8 0,.slice none 0 0] 25)
 rw [hz1] at bB
 have hz2:((w.alloc (.cells (rxC r.kind r.lo r.hi (.slice a1 r.kids.length c1)).toArray 25)).alloc (.cells #[.int .i64 0,.int .u8 0,.int .u8 0,.slice none 0 0] 25)).heap.size=w.heap.size+2:=by simp
 have hnew:∀ b∈(w.heap.size+1)::w.heap.size::M,b∈M∨w.heap.size≤b:=fun b hb=>by
  rcases List.mem_cons.1 hb with rfl|hb
  ·right;omega
  ·rcases List.mem_cons.1 hb with rfl|hb
   ·right;omega
   ·exact .inl hb
 refine ⟨_,_,_,rfl,rfl,rfl,bA,bB,uB,hz2,(hF.sub hnew).ext uB,hnew,fun b hb=>?_,fun b hb=>by simp [hb],by simp,by omega⟩
 rw [hz2]
 rcases List.mem_cons.1 hb with rfl|hb
 ·omega
 ·rcases List.mem_cons.1 hb with rfl|hb
  ·omega
  ·have:=hM b hb;omega
theorem norm_leaf {k lo hi:Int} {ks:List Rx} (hk:k<3) (hp:proper (nd k lo hi ks)=true):norm (nd k lo hi ks)=nd k lo hi ks∧ks=[]:=by
 have h0:ks=[]:=by
  rw [proper,Bool.and_eq_true] at hp
  have h2:=hp.2
  split at h2
  ·simpa using h2
  ·split at h2
   ·rw [Bool.and_eq_true] at h2;simpa using h2.1
   ·rw [if_neg (by omega),if_neg (by omega)] at h2;cases h2
 subst h0
 refine ⟨?_,rfl⟩
 rw [norm,normL,form,if_neg (by omega),if_neg (by omega),if_neg (by omega),if_neg (by omega),if_neg (by omega)]
set_option maxRecDepth 100000 in
set_option maxHeartbeats 8000000 in
theorem simple_calls:∀ (r:Rx) {M:List Nat} {w:World} {v:Value},RxV M w r v→(∀ b∈M,b<w.heap.size)→proper r=true→nodes r≤400000→Calls Tryz.prog 93 #[v] w fun e w'=>∃ v',e=.returned v'∧RxV M w' (norm r) v'∧Upd [] w w':=by
 intro r0
 induction r0 using Rx.ind with
 | h k0 lo0 hi0 ks0 ih=>
  intro M w v hr hM hp hn
  have hbyt:Byt (nd k0 lo0 hi0 ks0):=by obtain ⟨cs,_,h⟩:=hr;exact h.byt
  obtain ⟨hfit,hkp⟩:Fit k0 lo0 hi0 ks0∧∀ r∈ks0,proper r=true∧Byt r:=by
   refine ⟨?_,(fit_norm hbyt hp).2⟩
   cases hbyt with
   | mk _ _ _ _ b1 b2 b3 b4 b5=>exact (proper_fit ⟨b1,b4⟩ hp).1
  have hnl:nodesL (normL ks0)≤1000000:=by
   have h1:nodesL (normL ks0)≤2*nodesL ks0:=by
    clear ih hr hM hp hn hbyt hfit hkp
    induction ks0 with
    | nil=>simp [normL,nodesL]
    | cons x l ih2=>rw [normL,nodesL,nodesL];have:=norm_nodes x;omega
   rw [nodes] at hn
   omega
  have hleaf:k0<3→norm (nd k0 lo0 hi0 ks0)=nd k0 lo0 hi0 ks0:=fun h=>(norm_leaf h hp).1
  have hnorm:¬ k0<3→norm (nd k0 lo0 hi0 ks0)=form (nd k0 0 0 (normL ks0))∧((k0=3∨k0=4∨k0=5)∨(k0=6∨k0=7)∧(normL ks0).length=1):=fun h=>by
   have h1:lo0=0∧hi0=0:=by unfold Fit at hfit;omega
   obtain ⟨rfl,rfl⟩:=h1
   refine ⟨by rw [norm],?_⟩
   rw [normL_map,List.length_map]
   unfold Fit at hfit
   omega
  have hnfk:∀ r∈normL ks0,NF r:=fun r h=>by
   rw [normL_map] at h
   obtain ⟨x,hx,rfl⟩:=List.mem_map.1 h
   exact norm_nf x (hkp x hx).2 (hkp x hx).1
  have hkr:0≤k0∧k0≤7:=by unfold Fit at hfit;omega
  generalize hR:nd k0 lo0 hi0 ks0=r at *
  have hks:ks0=r.kids:=by rw [←hR];rfl
  have hkk:k0=r.kind:=by rw [←hR];rfl
  have HZ:=Lib.hid (show r.kids.length≤400000∧∀ s∈r.kids,nodes s≤400000∧proper s=true from by
   rw [←hR] at hn ⊢
   rw [nodes] at hn
   have h1:=nodesL_len ks0
   exact ⟨by simp only [Rx.kids];omega,fun s hs=>by simp only [Rx.kids] at hs;have:=nodesL_mem hs;exact ⟨by omega,(hkp s hs).1⟩⟩)
  rw [hks] at ih hnorm hnl hnfk
  rw [hkk] at hnorm hleaf hkr
  have HI:=Lib.hid ih
  have HFT:=Lib.hid (And.intro hnorm (And.intro hleaf (And.intro hnl hnfk)))
  clear hks hR hkk ih hn hkp hbyt hfit hnl hnorm hleaf hnfk hp
  obtain ⟨a1,c1,rfl,hF,hsc,hL⟩:=hr.shape
  obtain ⟨w1,M1,rb,hw1,hrb,hM1,bA,bB,uB,hz2,hF1,hnew,hlt,hsub,hin,hle⟩:=two_boxesR hF hM
  have hL1:=(hL.sub hnew).ext uB
  obtain ⟨a',c',he,q1,q2,_⟩:=id hL.form
  cases he
  have HX:=Lib.hid (And.intro bB (And.intro uB (And.intro hF1 (And.intro hsub (And.intro hin hle)))))
  have HL:=Lib.hid (And.intro hL1 (And.intro hlt (And.intro hsc bA)))
  clear hr hF hM hsc
  go_enter Tryz.func93,Tryz.ntmps93
  go_upto_region 1 with fail
  change Code.wp _ _ _ _ ((w.alloc (.cells (rxC r.kind r.lo r.hi (.slice a1 r.kids.length c1)).toArray 25)).alloc (.cells #[.int .i64 0,.int .u8 0,.int .u8 0,.slice none 0 0] 25))
  rw [←hw1,←hrb]
  have k0:=bA.cell (i:=0) rfl
  have k1:=bA.cell (i:=1) rfl
  have k2:=bA.cell (i:=2) rfl
  have k3:=bA.cell (i:=3) rfl
  clear bA bB uB hz2 hF1 hnew hlt hsub hin hle hM1 hL hL1
  clear hw1 hrb
  generalize hpa:w.heap.size=pa at *
  have HPA:=Lib.hid hpa
  clear hpa
  by_cases h3:r.kind<3
  ·have HE:=Lib.hid (HFT.out.2.1 h3)
   have HB:=Lib.hid HX.out.1
   have r0:=HB.out.cell (i:=0) rfl
   have r1:=HB.out.cell (i:=1) rfl
   have r2:=HB.out.cell (i:=2) rfl
   have r3:=HB.out.cell (i:=3) rfl
   have rf:∀ q,w1.frozen? ⟨rb,q,none⟩=false:=HB.out.free
   go_wp2_with fail
   have hs:=box_set (a:=.int .i64 r.kind) (b:=.int .u8 r.lo) (c:=.int .u8 r.hi) (d:=.slice a1 r.kids.length c1) HB.out
   rw [HE.out]
   exact ret_rr rfl rfl hs.1 rfl ((HX.out.2.2.1.upd hs.2 (by simpa using HX.out.2.2.2.2.1)).sub (fun b hb=>.inl (HX.out.2.2.2.1 b hb))) (HX.out.2.1.fresh hs.2 (fun b hb=>.inr (by simp at hb;subst hb;have:=HX.out.2.2.2.2.2;have:=HPA.out;omega)))
  ·have hnc:nodesL (normL r.kids)≤1000000:=HFT.out.2.2.1
   have HNC:=Lib.hid hnc
   clear hnc
   clear k1 k2
   go_wp2_with fail
   go_loopw [3,4] (fun av iv wr=>∃ (m:Nat) (acc:Value),iv=.int .i64 m∧acc=av∧m≤r.kids.length∧OwR 25 M1 wr acc (normL (r.kids.take m))∧(∀ q,acc.ownBlock=some q→w1.heap.size≤q)∧Upd [] w1 wr) (fun _ iv _=>r.kids.length - (intOf iv).toNat)
   case atStart=>exact ⟨0,_,rfl,rfl,Nat.zero_le _,OwR.nil0,fun q hq=>by simp [Value.ownBlock] at hq,Upd.refl _ _⟩
   case round=>
    obtain ⟨m,acc,rfl,rfl,hm,hO,hq,hu⟩:=hrel
    have HO:=Lib.hid (And.intro hO (And.intro hq hu))
    have m3:=hu.some k3 (by simp)
    have m0:=hu.some k0 (by simp)
    clear hO hq hu k3 k0
    by_cases hlt:m<r.kids.length
    ·have hli:(m:Int)<r.kids.length:=by omega
     have hr:=List.getElem?_eq_getElem hlt
     have hmem:=List.mem_of_getElem? hr
     have htk:normL (r.kids.take (m+1))=normL (r.kids.take m)++[norm r.kids[m]]:=by rw [List.take_add_one,hr,normL_map,normL_map,List.map_append];rfl
     generalize r.kids[m]=s at *
     have hM2:∀ b∈M1++acc.ownBlock.toList,b∈M1∨w1.heap.size≤b:=fun b hb=>by
      rcases List.mem_append.1 hb with hb|hb
      ·exact .inl hb
      ·exact .inr (HO.out.2.1 b (by simpa using hb))
     obtain ⟨g,off,a3,c3,rfl,hRF,e0,e1,e2,e3⟩:=((HL.out.1.sub hM2).ext HO.out.2.2).kid hr
     have HR:=Lib.hid (And.intro hRF (And.intro htk (And.intro hmem hM2)))
     clear hRF hr hmem htk hM2
     obtain ⟨css,o1,o2,o3,o4⟩:=id HO.out.1
     have HO2:=Lib.hid (And.intro o1 (And.intro o2 (And.intro o3 (And.intro o4 HO.out.2.2))))
     have hsz:acc.ownBlock.toList=[]∨∀ b∈acc.ownBlock.toList,b<wr.heap.size:=by
      rcases o1.2 with ⟨rfl,_⟩|⟨gg,cap,cur,rfl,_,hgg,_⟩
      ·left;rfl
      ·right
       intro b hb
       simp [Value.ownBlock] at hb
       subst hb
       exact (Array.getElem?_eq_some_iff.1 hgg).1
     have HC:=Lib.hid (HI.out s HR.out.2.2.1 HR.out.1.val (fun b hb=>by
      rcases List.mem_append.1 hb with hb|hb
      ·have:=HL.out.2.1 b hb;have:=HO2.out.2.2.2.2.size;omega
      ·rcases hsz with h|h
       ·rw [h] at hb;simp at hb
       ·exact h b hb) (HZ.out.2 s HR.out.2.2.1).2 (HZ.out.2 s HR.out.2.2.1).1)
     clear o1 o2 o3 o4 hsz
     have HLN:=Lib.hid (show (normL (r.kids.take m)).length≤400000 from by have:=HZ.out.1;rw [normL_map,List.length_map,List.length_take];omega)
     go_wp2_with (first|((with_reducible refine HC.out.mono ?_);rintro e w3 ⟨v3,rfl,o3,u3⟩;obtain ⟨cs3,rfl,hF3,hl3,h13⟩:=o3.cells)|(refine wpList_push rfl rfl _ _ _ _ rfl rfl rfl 25 4 40 _ Tryz.underlying23 infoRR rfl (by decide) (by decide) (.agg cs3.toArray) cs3 rfl rfl hl3 h13 acc _ _ (ownsRow_updL HO2.out.1 u3 (by simp)) rfl rfl (by have:=HLN.out;unfold maxLen;omega) (by have:=HLN.out;omega) ?_;intro g7 c7 w7 o7 u7 k7))
     have HQ:=OwR.push (w:=w3) (w':=w7) (r:=norm s) HO2.out.2.1 (fun b hb=>by have:=HL.out.2.1 b hb;have:=(HO2.out.2.2.2.2.step u3).size;omega) HO2.out.2.2.1 rfl (fun i r hr=>(HO2.out.2.2.2.1 i r hr).ext u3) hF3 o7 u7 (k7.imp (fun h=>h.symm) fun h=>⟨_,rfl,h⟩)
     rw [←HR.out.2.1] at HQ
     refine ⟨⟨m+1,_,by go_num,rfl,by omega,HQ,fun q hq=>?_,(HO2.out.2.2.2.2.step u3).fresh u7 (fun b hb=>.inr (HO.out.2.1 b (by simpa using hb)))⟩,by simp [intOf];omega⟩
     simp only [Value.ownBlock,Option.some.injEq] at hq
     subst hq
     rcases k7 with k7|k7
     ·exact HO.out.2.1 _ k7
     ·have:=(HO2.out.2.2.2.2.step u3).size;omega
    ·have hme:m=r.kids.length:=by omega
     subst hme
     rw [List.take_length] at HO
     have bR:=HX.out.1.upd HO.out.2.2 (by simp)
     have r0:=bR.cell (i:=0) rfl
     have r1:=bR.cell (i:=1) rfl
     have r2:=bR.cell (i:=2) rfl
     have r3:=bR.cell (i:=3) rfl
     have HBR:=Lib.hid bR
     have HN:=Lib.hid (rnormal_calls (HFT.out.1 h3).2 HFT.out.2.2.2 HO.out.1.list (fun b hb=>by have:=HL.out.2.1 b hb;have:=HO.out.2.2.size;omega) HNC.out)
     clear bR r0 r1 r2 r3
     have HE:=Lib.hid (HFT.out.1 h3).1
     go_wp2_with ((with_reducible refine HN.out.mono ?_);rintro e w4 ⟨v4,rfl,o4,u4⟩;obtain ⟨a4,c4,rfl,hF4,_,_⟩:=o4.shape;have bR:=HBR.out.upd u4 (by simp);have r0:=bR.cell (i:=0) rfl;have r1:=bR.cell (i:=1) rfl;have r2:=bR.cell (i:=2) rfl;have r3:=bR.cell (i:=3) rfl;have rf:∀ q,w4.frozen? ⟨rb,q,none⟩=false:=bR.free;have H4:=Lib.hid (And.intro bR (And.intro u4 hF4));clear bR u4 hF4 o4)
     have hs:=box_set (a:=.int .i64 (form (nd r.kind 0 0 (normL r.kids))).kind) (b:=.int .u8 (form (nd r.kind 0 0 (normL r.kids))).lo) (c:=.int .u8 (form (nd r.kind 0 0 (normL r.kids))).hi) (d:=.slice a4 (form (nd r.kind 0 0 (normL r.kids))).kids.length c4) H4.out.1
     rw [HE.out]
     exact ret_rr rfl rfl hs.1 rfl ((H4.out.2.2.upd hs.2 (by simpa using HX.out.2.2.2.2.1)).sub (fun b hb=>.inl (HX.out.2.2.2.1 b hb))) (((HX.out.2.1.step HO.out.2.2).step H4.out.2.1).fresh hs.2 (fun b hb=>.inr (by simp at hb;subst hb;have:=HX.out.2.2.2.2.2;have:=HPA.out;omega)))
end
end Rgx
end Go.Proofs.YtjclbjdkkdijbaaGreat
end
section
open Go.RowKit
namespace Go.Proofs.YtjclbjdkkdijbaaGreat
open L
namespace Rgx
open Rx
section
variable {w w':World} {v:Value} {M:List Nat}
set_option maxRecDepth 100000 in
set_option maxHeartbeats 8000000 in
theorem few_calls {r:Rx} (hr:RxV M w r v) (hM:∀ b∈M,b<w.heap.size) (hn:nodes r≤1000000) :
 Calls Tryz.prog 92 #[v] w fun e w'=>∃ v',e=.returned (.tuple #[v',.int .i64 (limE r)])∧RxV M w' (limR r) v'∧Upd [] w w':=by
 obtain ⟨a1,c1,rfl,hF,_,_⟩:=hr.shape
 obtain ⟨w1,M1,rb,hw1,hrb,hM1,bA,bB,uB,hz2,hF1,hnew,hlt,hsub,hin,hle⟩:=two_boxesR hF hM
 have HX:=Lib.hid (And.intro bB (And.intro uB (And.intro hF1 (And.intro hsub (And.intro hin (And.intro hle hlt))))))
 have HT:=Lib.hid (rnodes_calls r (hF1.sub (M':=[]) (by simp)).val hn)
 clear hr hF hM hn
 go_enter Tryz.func92,Tryz.ntmps92
 go_upto_region 1 with fail
 change Code.wp _ _ _ _ ((w.alloc (.cells (rxC r.kind r.lo r.hi (.slice a1 r.kids.length c1)).toArray 25)).alloc (.cells #[.int .i64 0,.int .u8 0,.int .u8 0,.slice none 0 0] 25))
 rw [←hw1,←hrb]
 have k0:=bA.cell (i:=0) rfl
 have k1:=bA.cell (i:=1) rfl
 have k2:=bA.cell (i:=2) rfl
 have k3:=bA.cell (i:=3) rfl
 clear bA bB uB hz2 hF1 hnew hlt hsub hin hle hM1
 clear hw1 hrb
 generalize hpa:w.heap.size=pa at *
 have HPA:=Lib.hid hpa
 clear hpa
 by_cases h64:64<nodes r
 ·have HE:=Lib.hid (And.intro (show limE r=4 by rw [limE,if_pos h64]) (show limR r=rNone by rw [limR,if_pos h64]))
  have hni:(64:Int)<(nodes r:Nat):=by omega
  clear h64
  generalize ((nodes r:Nat):Int)=nr at *
  go_upto_region 2 with (first|(with_reducible refine HT.out.mono ?_);rintro e w2 ⟨rfl,hu⟩)
  have bR:=HX.out.1.upd hu (by simp)
  have r0:=bR.cell (i:=0) rfl
  have r1:=bR.cell (i:=1) rfl
  have r2:=bR.cell (i:=2) rfl
  have r3:=bR.cell (i:=3) rfl
  have rf:∀ q,w2.frozen? ⟨rb,q,none⟩=false:=bR.free
  have HB:=Lib.hid (And.intro bR hu)
  clear bR hu
  go_wp2_with fail
  have hs:=box_set (a:=.int .i64 0) (b:=.int .u8 0) (c:=.int .u8 0) (d:=.slice none 0 0) HB.out.1
  rw [HE.out.1,HE.out.2]
  exact ret_rr2 rfl rfl rfl hs.1 rfl rNone_F ((HX.out.2.1.step HB.out.2).fresh hs.2 (fun b hb=>.inr (by simp at hb;subst hb;have:=HX.out.2.2.2.2.2.1;have:=HPA.out;omega)))
 ·have HE:=Lib.hid (And.intro (show limE r=0 by rw [limE,if_neg h64]) (show limR r=r by rw [limR,if_neg h64]))
  have hni:¬ (64:Int)<(nodes r:Nat):=by omega
  clear h64
  generalize ((nodes r:Nat):Int)=nr at *
  go_upto_region 3 with (first|(with_reducible refine HT.out.mono ?_);rintro e w2 ⟨rfl,hu⟩)
  have bR:=HX.out.1.upd hu (by simp)
  have g0:=hu.some k0 (by simp)
  have g1:=hu.some k1 (by simp)
  have g2:=hu.some k2 (by simp)
  have g3:=hu.some k3 (by simp)
  have r0:=bR.cell (i:=0) rfl
  have r1:=bR.cell (i:=1) rfl
  have r2:=bR.cell (i:=2) rfl
  have r3:=bR.cell (i:=3) rfl
  have rf:∀ q,w2.frozen? ⟨rb,q,none⟩=false:=bR.free
  have HB:=Lib.hid (And.intro bR hu)
  clear bR k0 k1 k2 k3 hu
  go_wp2_with fail
  have hs:=box_set (a:=.int .i64 r.kind) (b:=.int .u8 r.lo) (c:=.int .u8 r.hi) (d:=.slice a1 r.kids.length c1) HB.out.1
  rw [HE.out.1,HE.out.2]
  exact ret_rr2 rfl rfl rfl hs.1 rfl (((HX.out.2.2.1.ext HB.out.2).upd hs.2 (by simpa using HX.out.2.2.2.2.1)).sub (fun b hb=>.inl (HX.out.2.2.2.1 b hb))) ((HX.out.2.1.step HB.out.2).fresh hs.2 (fun b hb=>.inr (by simp at hb;subst hb;have:=HX.out.2.2.2.2.2.1;have:=HPA.out;omega)))
set_option maxRecDepth 100000 in
set_option maxHeartbeats 8000000 in
theorem rNormal_calls {r:Rx} (hr:RxV M w r v) (hM:∀ b∈M,b<w.heap.size) (hn:nodes r≤1000000) :
 Calls Tryz.prog 53 #[v] w fun e w'=>∃ v',e=.returned (.tuple #[v',.int .i64 (nErr r)])∧RxV M w' (nRes r) v'∧Upd [] w w':=by
 obtain ⟨a1,c1,rfl,hF,_,_⟩:=hr.shape
 obtain ⟨w1,M1,rb,hw1,hrb,hM1,bA,bB,uB,hz2,hF1,hnew,hlt,hsub,hin,hle⟩:=two_boxesR hF hM
 have HX:=Lib.hid (And.intro bB (And.intro uB (And.intro hF1 (And.intro hsub (And.intro hin (And.intro hle hlt))))))
 have HT:=Lib.hid (rvalid_calls (hF1.sub (M':=[]) (by simp)).val hn)
 clear hr hF hM hn
 go_enter Tryz.func53,Tryz.ntmps53
 go_upto_region 1 with fail
 change Code.wp _ _ _ _ ((w.alloc (.cells (rxC r.kind r.lo r.hi (.slice a1 r.kids.length c1)).toArray 25)).alloc (.cells #[.int .i64 0,.int .u8 0,.int .u8 0,.slice none 0 0] 25))
 rw [←hw1,←hrb]
 have k0:=bA.cell (i:=0) rfl
 have k1:=bA.cell (i:=1) rfl
 have k2:=bA.cell (i:=2) rfl
 have k3:=bA.cell (i:=3) rfl
 clear bA bB uB hz2 hF1 hnew hlt hsub hin hle hM1
 clear hw1 hrb
 generalize hpa:w.heap.size=pa at *
 have HPA:=Lib.hid hpa
 clear hpa
 by_cases he:vErr r=0
 ·have HV:=Lib.hid (vErr_zero he)
  have HE:=Lib.hid (And.intro (show nErr r=limE (norm r) by rw [nErr,if_neg (by omega)]) (show nRes r=limR (norm r) by rw [nRes,if_neg (by omega)]))
  rw [he] at HT
  clear he
  go_upto_region 4 with (first|(with_reducible refine HT.out.mono ?_);rintro e w2 ⟨rfl,hu⟩)
  have g0:=hu.some k0 (by simp)
  have g1:=hu.some k1 (by simp)
  have g2:=hu.some k2 (by simp)
  have g3:=hu.some k3 (by simp)
  have HU2:=Lib.hid hu
  have HLT2:=Lib.hid (show ∀ b∈M1,b<w2.heap.size from fun b hb=>by have:=HX.out.2.2.2.2.2.2 b hb;have:=hu.size;omega)
  clear k0 k1 k2 k3 hu
  have HNM:=Lib.hid (simple_calls r ((HX.out.2.2.1.ext HU2.out)).val HLT2.out HV.out.2 (by have:=HV.out.1;omega))
  refine wp_region_lit ?_
  refine wpList_cutH 2 (fun K hK=>?_)
  simp only [List.take_succ_cons,List.take_zero]
  go_wp2_with ((with_reducible refine HNM.out.mono ?_);rintro e w4 ⟨v4,rfl,o4,u4⟩)
  refine Halt_.intro ?_;try simp only [List.drop_succ_cons,List.drop_zero]
  have HL:=Lib.hid (few_calls o4 (fun b hb=>by have:=HLT2.out b hb;have:=u4.size;omega) (by have:=norm_nodes r;have:=HV.out.1;omega))
  have HN4:=Lib.hid (And.intro u4 o4)
  obtain ⟨a4,c4,rfl,_⟩:=o4.shape
  clear u4 o4 g0 g1 g2 g3
  go_wp2_with ((with_reducible refine HL.out.mono ?_);rintro e w5 ⟨v5,rfl,o5,u5⟩;obtain ⟨a5,c5,rfl,hF5,_,_⟩:=o5.shape;have U5:=HU2.out.step (HN4.out.1.step u5);have bR:=HX.out.1.upd U5 (by simp);have r0:=bR.cell (i:=0) rfl;have r1:=bR.cell (i:=1) rfl;have r2:=bR.cell (i:=2) rfl;have r3:=bR.cell (i:=3) rfl;have rf:∀ q,w5.frozen? ⟨rb,q,none⟩=false:=bR.free;have H5:=Lib.hid (And.intro bR (And.intro U5 hF5));clear bR U5 u5 o5 hF5)
  have hs:=box_set (a:=.int .i64 (limR (norm r)).kind) (b:=.int .u8 (limR (norm r)).lo) (c:=.int .u8 (limR (norm r)).hi) (d:=.slice a5 (limR (norm r)).kids.length c5) H5.out.1
  rw [HE.out.1,HE.out.2]
  exact ret_rr2 rfl rfl rfl hs.1 rfl ((H5.out.2.2.upd hs.2 (by simpa using HX.out.2.2.2.2.1)).sub (fun b hb=>.inl (HX.out.2.2.2.1 b hb))) ((HX.out.2.1.step H5.out.2.1).fresh hs.2 (fun b hb=>.inr (by simp at hb;subst hb;have:=HX.out.2.2.2.2.2.1;have:=HPA.out;omega)))
 ·have HE:=Lib.hid (And.intro (show nErr r=vErr r by rw [nErr,if_pos he]) (show nRes r=rNone by rw [nRes,if_pos he]))
  have hb:(vErr r != 0)=true:=by simpa using he
  clear he
  generalize vErr r=er at *
  go_upto_region 3 with (first|(with_reducible refine HT.out.mono ?_);rintro e w2 ⟨rfl,hu⟩)
  have bR:=HX.out.1.upd hu (by simp)
  have r0:=bR.cell (i:=0) rfl
  have r1:=bR.cell (i:=1) rfl
  have r2:=bR.cell (i:=2) rfl
  have r3:=bR.cell (i:=3) rfl
  have rf:∀ q,w2.frozen? ⟨rb,q,none⟩=false:=bR.free
  have HB:=Lib.hid (And.intro bR hu)
  clear bR hu
  go_wp2_with fail
  have hs:=box_set (a:=.int .i64 0) (b:=.int .u8 0) (c:=.int .u8 0) (d:=.slice none 0 0) HB.out.1
  rw [HE.out.1,HE.out.2]
  exact ret_rr2 rfl rfl rfl hs.1 rfl rNone_F ((HX.out.2.1.step HB.out.2).fresh hs.2 (fun b hb=>.inr (by simp at hb;subst hb;have:=HX.out.2.2.2.2.2.1;have:=HPA.out;omega)))
end
end Rgx
end Go.Proofs.YtjclbjdkkdijbaaGreat
end
section
open Go.RowKit
namespace Go.Proofs.YtjclbjdkkdijbaaGreat
open L
namespace Rgx
open Rx
attribute [-go_sem] sliced
theorem NF.fits {r:Rx} (h:NF r):Fit r.kind r.lo r.hi r.kids:=by
 have h1:=h.proper
 have h2:=h.byt
 obtain ⟨k,lo,hi,ks⟩:=r
 cases h2 with
 | mk _ _ _ _ b1 b2 b3 b4 b5=>exact (proper_fit ⟨b1,b4⟩ h1).1
theorem rder01 {c:Int} {r:Rx} (h:r.kind=0∨r.kind=1):der c r=rNone:=by
 obtain ⟨k,lo,hi,ks⟩:=r
 simp only [Rx.kind] at h
 rw [der,if_neg (by omega),if_neg (by omega),if_neg (by omega),if_neg (by omega)]
theorem rder2 {c:Int} {r:Rx} (h:r.kind=2):der c r=if r.lo≤c∧c≤r.hi then rEmpty else rNone:=by
 obtain ⟨k,lo,hi,ks⟩:=r
 simp only [Rx.kind] at h
 rw [der,if_pos h]
 rfl
theorem rder3 {c:Int} {r:Rx} (h:r.kind=3) (hk:∀ s∈r.kids,NF s):der c r=rderC c r.kids:=by
 obtain ⟨k,lo,hi,ks⟩:=r
 simp only [Rx.kind] at h
 subst h
 rw [der,if_neg (by omega),if_pos rfl,rderC_eq hk]
 rfl
theorem rder456 {c:Int} {r:Rx} (h:r.kind=4∨r.kind=5∨r.kind=6):der c r=form (nd r.kind 0 0 (derL c r.kids)):=by
 obtain ⟨k,lo,hi,ks⟩:=r
 simp only [Rx.kind] at h
 rw [der,if_neg (by omega),if_neg (by omega),if_pos h]
 rfl
theorem rder7 {c:Int} {r x:Rx} (h:r.kind=7) (hk:r.kids=[x]):der c r=form (nd 3 0 0 [der c x,r]):=by
 obtain ⟨k,lo,hi,ks⟩:=r
 simp only [Rx.kind,Rx.kids] at h hk
 subst h hk
 rw [der,if_neg (by omega),if_neg (by omega),if_neg (by omega),if_pos rfl]
 rfl
theorem der_small {c:Int} {r:Rx} (h:nodes r≤64):nodes (der c r)≤10000:=by
 have h1:=der_nodes c 64 r h
 have h2:2*nodes r*(64+4)≤2*64*(64+4):=Nat.mul_le_mul_right _ (by omega)
 omega
theorem derL_small {c:Int} {ks:List Rx} (h:nodesL ks≤64):nodesL (derL c ks)≤10000:=by
 have h1:=derL_nodes c 64 ks (fun r hr=>der_nodes c 64 r (by have:=nodesL_mem hr;omega))
 have h2:2*nodesL ks*(64+4)≤2*64*(64+4):=Nat.mul_le_mul_right _ (by omega)
 omega
section
variable {w w':World} {v:Value} {M:List Nat}
theorem RxL.two {r s:Rx} {g:Nat} {c1 c2:List Value} {e:TypeId} (hb:Blk w g (c1++c2) e) (h1:RxF M w r c1) (h2:RxF M w s c2) (hg:g ∉ M):RxL M w [r,s] (.slice (some ⟨g,0,none⟩) 2 2):=by
 refine ⟨fun i=>if i=0 then c1 else c2,?_,fun i=>by by_cases h:i=0 <;> simp [h,h1.len,h2.len],fun g' _ hg' hm=>?_,fun i x hx=>?_⟩
 ·have k1:=h1.len
  have k2:=h2.len
  have:=SL.of_blk (k:=4) (n:=2) (cap:=2) (xs:=c1++c2) (pad:=[]) (b:=g) (e:=e) (by simpa using hb) (by simp [k1,k2]) (Nat.le_refl _) (by unfold maxLen;omega)
  have e2:rows 2 (fun i=>if i=0 then c1 else c2)=c1++c2:=by simp [rows,List.range,List.range.loop]
  rw [show [r,s].length=2 from rfl,e2]
  exact this
 ·simp [Value.ownBlock] at hg';subst hg';exact hg hm
 ·match i with
  | 0=>simp at hx;subst hx;exact h1
  | 1=>simp at hx;subst hx;exact h2
  | i+2=>simp at hx
set_option maxRecDepth 100000 in
set_option maxHeartbeats 8000000 in
theorem rderive_calls {c:Int} (hc:0≤c∧c≤255):∀ (n:Nat) (r:Rx) {M:List Nat} {w:World} {v:Value},nodes r≤n→n≤64→(∀ s∈r.kids,NF s)→Fit r.kind r.lo r.hi r.kids→RxV M w r v→(∀ b∈M,b<w.heap.size) →
 Calls Tryz.prog 94 #[v,.int .u8 c] w fun e w'=>∃ v',e=.returned v'∧RxV M w' (der c r) v'∧Upd [] w w':=by
 intro n
 induction n with
 | zero=>intro r M w v hn;have:=nodes_pos r;omega
 | succ n ih=>
  intro r M w v hn hn64 hnf hfit hr hM
  have hkr:0≤r.kind∧r.kind≤7:=by unfold Fit at hfit;omega
  have hnk:nodesL r.kids≤n:=by obtain ⟨k,lo,hi,ks⟩:=r;rw [nodes] at hn;simp only [Rx.kids];omega
  have HI:=Lib.hid (fun (s:Rx) (hs:s∈r.kids) (M:List Nat) (w:World) (v:Value) (h:RxV M w s v) (hM:∀ b∈M,b<w.heap.size)=>ih s (by have:=nodesL_mem hs;omega) (by omega) (hnf s hs).kids (hnf s hs).fits h hM)
  have HT:=Lib.hid (fun (x:Rx) (l:List Rx) (hx:r.kids=x::l) (M:List Nat) (w:World) (v:Value) (h:RxV M w (nd 3 0 0 l) v) (hM:∀ b∈M,b<w.heap.size)=>ih (nd 3 0 0 l) (by rw [hx,nodesL] at hnk;rw [nodes];have:=nodes_pos x;omega) (by omega) (fun s hs=>hnf s (by rw [hx];exact List.mem_cons_of_mem _ hs)) (.inr (.inr (.inl ⟨.inl rfl,rfl,rfl⟩))) h hM)
  have HF:=Lib.hid hfit
  have HNF:=Lib.hid (And.intro hnf (And.intro (show nodesL r.kids≤64 by omega) (show nodes r≤64 by omega)))
  have H7:=Lib.hid (show r.kind=6∨r.kind=7→∃ x,r.kids=[x] from fun h=>by
   have:r.kids.length=1:=by unfold Fit at hfit;omega
   match hq:r.kids,this with
   | [x],_=>exact ⟨x,rfl⟩)
  clear ih hn hn64 hnf hfit hnk
  obtain ⟨a1,c1,rfl,hF,hsc,hL⟩:=hr.shape
  obtain ⟨w1,M1,rb,hw1,hrb,hM1,bA,bB,uB,hz2,hF1,hnew,hlt,hsub,hin,hle⟩:=two_boxesR hF hM
  have hL1:=(hL.sub hnew).ext uB
  obtain ⟨a',c',he,q1,q2,_⟩:=id hL.form
  cases he
  have HX:=Lib.hid (And.intro bB (And.intro uB (And.intro hF1 (And.intro hsub (And.intro hin hle)))))
  have HL:=Lib.hid (And.intro hL1 (And.intro hlt (And.intro hsc bA)))
  have HCC:=Lib.hid hc
  clear hr hF hM hsc
  go_enter Tryz.func94,Tryz.ntmps94
  go_upto_region 1 with fail
  change Code.wp _ _ _ _ ((w.alloc (.cells (rxC r.kind r.lo r.hi (.slice a1 r.kids.length c1)).toArray 25)).alloc (.cells #[.int .i64 0,.int .u8 0,.int .u8 0,.slice none 0 0] 25))
  rw [←hw1,←hrb]
  have k0:=bA.cell (i:=0) rfl
  have k1:=bA.cell (i:=1) rfl
  have k2:=bA.cell (i:=2) rfl
  have k3:=bA.cell (i:=3) rfl
  have r0:=bB.cell (i:=0) rfl
  have r1:=bB.cell (i:=1) rfl
  have r2:=bB.cell (i:=2) rfl
  have r3:=bB.cell (i:=3) rfl
  have rf:∀ q,w1.frozen? ⟨rb,q,none⟩=false:=bB.free
  clear bA bB uB hz2 hF1 hnew hlt hsub hin hle hM1 hL hL1
  clear hw1 hrb
  generalize hpa:w.heap.size=pa at *
  have HPA:=Lib.hid hpa
  clear hpa
  rcases (by omega:(r.kind=0∨r.kind=1)∨r.kind=2∨r.kind=7∨r.kind=3∨(r.kind=4∨r.kind=5∨r.kind=6)) with h|h|h|h|h
  ·have HE:=Lib.hid (rder01 (c:=c) h)
   have HK:=Lib.hid HX.out.1
   have hs:=Lib.hid (box_set (a:=.int .i64 0) (b:=.int .u8 0) (c:=.int .u8 0) (d:=.slice none 0 0) HX.out.1)
   rcases h with h|h
   all_goals
    rw [h] at k0 ⊢
    clear h hkr k1 k2 k3
    go_wp2_with fail
    rw [HE.out]
    exact ret_rr (r:=rNone) rfl rfl hs.out.1 rfl rNone_F (HX.out.2.1.fresh hs.out.2 (fun b hb=>.inr (by simp at hb;subst hb;have:=HX.out.2.2.2.2.2;have:=HPA.out;omega)))
  ·have hE:=rder2 (c:=c) h
   rw [h] at k0 ⊢
   clear h hkr k3
   by_cases h1:r.lo≤c
   ·have d1:decide (r.lo≤c)=true:=by simpa using h1
    by_cases h2:c≤r.hi
    ·have d2:decide (c≤r.hi)=true:=by simpa using h2
     rw [if_pos ⟨h1,h2⟩] at hE
     have HE:=Lib.hid hE
     have hs:=Lib.hid (box_set (a:=.int .i64 1) (b:=.int .u8 0) (c:=.int .u8 0) (d:=.slice none 0 0) HX.out.1)
     clear hE
     go_wp2_with fail
     rw [HE.out]
     exact ret_rr (r:=rEmpty) rfl rfl hs.out.1 rfl (RxF.iff.2 ⟨_,rfl,⟨by unfold IsI64;omega,by omega,by omega⟩,RxL.nil0⟩) (HX.out.2.1.fresh hs.out.2 (fun b hb=>.inr (by simp at hb;subst hb;have:=HX.out.2.2.2.2.2;have:=HPA.out;omega)))
    ·have d2:decide (c≤r.hi)=false:=by simpa using h2
     rw [if_neg (fun h=>h2 h.2)] at hE
     have HE:=Lib.hid hE
     have hs:=Lib.hid (box_set (a:=.int .i64 0) (b:=.int .u8 0) (c:=.int .u8 0) (d:=.slice none 0 0) HX.out.1)
     clear hE
     go_wp2_with fail
     rw [HE.out]
     exact ret_rr (r:=rNone) rfl rfl hs.out.1 rfl rNone_F (HX.out.2.1.fresh hs.out.2 (fun b hb=>.inr (by simp at hb;subst hb;have:=HX.out.2.2.2.2.2;have:=HPA.out;omega)))
   ·have d1:decide (r.lo≤c)=false:=by simpa using h1
    rw [if_neg (fun h=>h1 h.1)] at hE
    have HE:=Lib.hid hE
    have hs:=Lib.hid (box_set (a:=.int .i64 0) (b:=.int .u8 0) (c:=.int .u8 0) (d:=.slice none 0 0) HX.out.1)
    clear hE
    go_wp2_with fail
    rw [HE.out]
    exact ret_rr (r:=rNone) rfl rfl hs.out.1 rfl rNone_F (HX.out.2.1.fresh hs.out.2 (fun b hb=>.inr (by simp at hb;subst hb;have:=HX.out.2.2.2.2.2;have:=HPA.out;omega)))
  ·obtain ⟨x,hx⟩:=H7.out (.inr h)
   have HE:=Lib.hid (rder7 (c:=c) h hx)
   have HK0:=Lib.hid (show r.kids[0]?=some x by rw [hx];rfl)
   have HMX:=Lib.hid (show x∈r.kids by rw [hx];simp)
   have HK:=Lib.hid h
   obtain ⟨g,off,a2,c2,rfl,hRF,e0,e1,e2,e3⟩:=HL.out.1.kid HK0.out
   rw [Nat.zero_mul,Nat.add_zero] at e0 e1 e2 e3
   have HC:=Lib.hid (fun (w':World) (u:Upd [] w1 w')=>HI.out x HMX.out M1 w' _ (hRF.ext u).val (fun b hb=>by have:=HL.out.2.1 b hb;have:=u.size;omega))
   have HRR:=Lib.hid (show RxF M1 w1 r [.int .i64 7,.int .u8 r.lo,.int .u8 r.hi,.slice (some ⟨g,off,none⟩) r.kids.length c1] by have:=HX.out.2.2.1;rw [h] at this;exact this)
   have HNR:=Lib.hid (show NF (der c x)∧nodes (der c x)≤10000 from ⟨der_nf (HNF.out.1 x HMX.out),der_small (by have:=nodesL_mem HMX.out;have:=HNF.out.2.1;omega)⟩)
   have hl1:r.kids.length=1:=by rw [hx];rfl
   rw [h] at k0 ⊢
   clear h hkr hRF hx
   go_upto_region 21 with fail
   refine wp_region_ord 7 4 [0,1,2,3,4,6] [1,3,6] [0,1,2,3,4,6,5,7,8,9] (fun w'=>∃ x:Ext w1,w'=x.val) (by kernel_rfl) (by kernel_rfl) (Ext.of (by iterate 25 (first|exact Upd.refl _ _|assumption|refine Upd.alloc ?_ _|refine Upd.drew ?_|refine Upd.drewN ?_ _|refine Upd.dl ?_|refine Upd.step ?_ (Ext.upd _)|refine Upd.nil ?_|skip))) ?_
   repeat (first|(refine wpOrd_load rfl rfl rfl rfl (fun K hK=>?_);go_big_quiet_step (fail);refine wpQuiet_nil ?_;refine hK _ ?_;clear hK K)|(refine wpOrd_free rfl rfl rfl (fun K hK=>?_);go_big_quiet_step (fail);refine wpQuiet_nil ?_;refine hK _ ?_;clear hK K))
   refine wpOrd_fix rfl rfl (fun K hK=>?_)
   go_wp2_with (go_at_call 94;refine (HC.out _ (by iterate 25 (first|exact Upd.refl _ _|assumption|refine Upd.alloc ?_ _|refine Upd.drew ?_|refine Upd.drewN ?_ _|refine Upd.dl ?_|refine Upd.step ?_ (Ext.upd _)|refine Upd.nil ?_|skip))).mono ?_;rintro e w6 ⟨v6,rfl,r6,u6⟩;obtain ⟨a6,c6,rfl,hF6,_,_⟩:=r6.shape)
   have HU6:=Lib.hid (And.intro (show Upd [] w1 w6 from Upd.step (by iterate 25 (first|exact Upd.refl _ _|assumption|refine Upd.alloc ?_ _|refine Upd.drew ?_|refine Upd.drewN ?_ _|refine Upd.dl ?_|refine Upd.step ?_ (Ext.upd _)|refine Upd.nil ?_|skip)) u6) hF6)
   clear u6 r6 hF6
   refine ⟨fun _=>Ext.of HU6.out.1,?_⟩
   repeat (first|(refine wpOrd_load rfl rfl rfl rfl (fun K hK=>?_);go_big_quiet_step (fail);refine wpQuiet_nil ?_;refine hK _ ?_;clear hK K)|(refine wpOrd_free rfl rfl rfl (fun K hK=>?_);go_big_quiet_step (fail);refine wpQuiet_nil ?_;refine hK _ ?_;clear hK K))
   refine wpOrd_fix rfl rfl (fun K hK=>?_)
   go_wp2_with fail
   have HNB:=Lib.hid (show Blk (w6.alloc (.cells #[.int .i64 (der c x).kind,.int .u8 (der c x).lo,.int .u8 (der c x).hi,.slice a6 (der c x).kids.length c6,.int .i64 7,.int .u8 r.lo,.int .u8 r.hi,.slice (some ⟨g,off,none⟩) 1 c1] 25)) w6.heap.size (rxC (der c x).kind (der c x).lo (der c x).hi (.slice a6 (der c x).kids.length c6)++[.int .i64 7,.int .u8 r.lo,.int .u8 r.hi,.slice (some ⟨g,off,none⟩) 1 c1]) 25∧Upd [] w6 (w6.alloc (.cells #[.int .i64 (der c x).kind,.int .u8 (der c x).lo,.int .u8 (der c x).hi,.slice a6 (der c x).kids.length c6,.int .i64 7,.int .u8 r.lo,.int .u8 r.hi,.slice (some ⟨g,off,none⟩) 1 c1] 25)) from ⟨Blk.new w6 _ _,(Upd.refl [] w6).alloc _⟩)
   generalize (w6.alloc (.cells #[.int .i64 (der c x).kind,.int .u8 (der c x).lo,.int .u8 (der c x).hi,.slice a6 (der c x).kids.length c6,.int .i64 7,.int .u8 r.lo,.int .u8 r.hi,.slice (some ⟨g,off,none⟩) 1 c1] 25))=wB at *
   have HG6:=Lib.hid (show w1.heap.size≤w6.heap.size from HU6.out.1.size)
   generalize w6.heap.size=gB at *
   have HRR1:=Lib.hid (show RxF M1 w1 r [.int .i64 7,.int .u8 r.lo,.int .u8 r.hi,.slice (some ⟨g,off,none⟩) 1 c1] by have:=HRR.out;rwa [hl1] at this)
   have HN:=Lib.hid (rnormalJ_calls (k:=3) (.inl rfl) (RxL.two (M:=M1) HNB.out.1 (HU6.out.2.ext HNB.out.2) ((HRR1.out.ext HU6.out.1).ext HNB.out.2) (fun hm=>by have:=HL.out.2.1 gB hm;have:=HG6.out;omega)) (fun b hb=>by have:=HL.out.2.1 b hb;have:=HG6.out;have:=HNB.out.1.lt;omega) (by have:=HNR.out.2;have:=HNF.out.2.2;simp only [nodesL];omega))
   have HUB:=Lib.hid (HU6.out.1.step HNB.out.2)
   refine ⟨fun hC=>absurd hC (by decide),?_⟩
   repeat (first|(refine wpOrd_load rfl rfl rfl rfl (fun K hK=>?_);go_big_quiet_step (fail);refine wpQuiet_nil ?_;refine hK _ ?_;clear hK K)|(refine wpOrd_free rfl rfl rfl (fun K hK=>?_);go_big_quiet_step (fail);refine wpQuiet_nil ?_;refine hK _ ?_;clear hK K))
   refine wpOrd_fix rfl rfl (fun K hK=>?_)
   go_wp2_with ((with_reducible refine HN.out.mono ?_);rintro e w9 ⟨v9,rfl,o9,u9⟩;obtain ⟨a9,c9,rfl,hF9,_,_⟩:=o9.shape)
   have U9:=HUB.out.step u9
   have bR:=HX.out.1.upd U9 (by simp)
   have r0:=bR.cell (i:=0) rfl
   have r1:=bR.cell (i:=1) rfl
   have r2:=bR.cell (i:=2) rfl
   have r3:=bR.cell (i:=3) rfl
   have rf:∀ q,w9.frozen? ⟨rb,q,none⟩=false:=bR.free
   have H9:=Lib.hid (And.intro bR (And.intro U9 hF9))
   clear bR U9 u9 o9 hF9
   refine ⟨fun hC=>absurd hC (by decide),?_⟩
   repeat (first|(refine wpOrd_load rfl rfl rfl rfl (fun K hK=>?_);go_big_quiet_step (fail);refine wpQuiet_nil ?_;refine hK _ ?_;clear hK K)|(refine wpOrd_free rfl rfl rfl (fun K hK=>?_);go_big_quiet_step (fail);refine wpQuiet_nil ?_;refine hK _ ?_;clear hK K))
   refine wpOrd_fix rfl rfl (fun K hK=>?_)
   go_wp2_with fail
   refine ⟨fun hC=>absurd hC (by decide),?_⟩
   refine wpOrd_nil ?_
   go_wp2_with fail
   have hs:=box_set (a:=.int .i64 (form (nd 3 0 0 [der c x,r])).kind) (b:=.int .u8 (form (nd 3 0 0 [der c x,r])).lo) (c:=.int .u8 (form (nd 3 0 0 [der c x,r])).hi) (d:=.slice a9 (form (nd 3 0 0 [der c x,r])).kids.length c9) H9.out.1
   rw [HE.out]
   exact ret_rr rfl rfl hs.1 rfl ((H9.out.2.2.upd hs.2 (by simpa using HX.out.2.2.2.2.1)).sub (fun b hb=>.inl (HX.out.2.2.2.1 b hb))) ((HX.out.2.1.step H9.out.2.1).fresh hs.2 (fun b hb=>.inr (by simp at hb;subst hb;have:=HX.out.2.2.2.2.2;have:=HPA.out;omega)))
  ·have HE:=Lib.hid (rder3 (c:=c) h HNF.out.1)
   rw [h] at k0 ⊢
   clear h hkr k1 k2
   match hks:r.kids with
   | []=>
    have hl:r.kids.length=0:=by rw [hks];rfl
    have HE2:=Lib.hid (show der c r=rNone by rw [HE.out,hks];rfl)
    have hs:=Lib.hid (box_set (a:=.int .i64 0) (b:=.int .u8 0) (c:=.int .u8 0) (d:=.slice none 0 0) HX.out.1)
    rw [hl] at k3
    clear hks hl
    go_wp2_with fail
    rw [HE2.out]
    exact ret_rr (r:=rNone) rfl rfl hs.out.1 rfl rNone_F (HX.out.2.1.fresh hs.out.2 (fun b hb=>.inr (by simp at hb;subst hb;have:=HX.out.2.2.2.2.2;have:=HPA.out;omega)))
   | y::l=>
    have HLN:=Lib.hid (show 1≤r.kids.length∧r.kids.drop 1=l∧r.kids.length≤64 by rw [hks];have:=nodesL_len r.kids;have:=HNF.out.2.1;rw [hks] at *;simp at *;omega)
    have hne:((r.kids.length:Nat):Int)≠0:=by have:=HLN.out.1;omega
    have HK0:=Lib.hid (show r.kids[0]?=some y by rw [hks];rfl)
    have HMX:=Lib.hid (show y∈r.kids by rw [hks];simp)
    have HTT:=Lib.hid (HT.out y l hks)
    have HE2:=Lib.hid (show der c r=rderC c (y::l) by rw [HE.out,hks])
    clear hks r0 r1 r2 r3 rf
    obtain ⟨g,off,a2,c2,rfl,hRF,e0,e1,e2,e3⟩:=HL.out.1.kid HK0.out
    rw [Nat.zero_mul,Nat.add_zero] at e0 e1 e2 e3
    have HC:=Lib.hid (HI.out y HMX.out M1 w1 _ hRF.val HL.out.2.1)
    have HRY:=Lib.hid hRF
    obtain ⟨css,o1,o2,o3',o4⟩:=(OwR.nil0:OwR 25 M1 w1 (.slice none 0 0) [])
    have HO2:=Lib.hid (And.intro o1 (And.intro o2 (And.intro o3' o4)))
    clear hRF o1 o2 o3' o4
    go_upto_region 14 with (first|((with_reducible refine HC.out.mono ?_);rintro e w3 ⟨v3,rfl,o3,u3⟩;obtain ⟨cs3,rfl,hF3,hl3,h13⟩:=o3.cells)|(refine wpList_push rfl rfl _ _ _ _ rfl rfl rfl 25 4 40 _ Tryz.underlying23 infoRR rfl (by decide) (by decide) (.agg cs3.toArray) cs3 rfl rfl hl3 h13 (.slice none 0 0) _ _ (ownsRow_updL HO2.out.1 u3 (by simp)) rfl rfl (by unfold maxLen;simp) (by simp) ?_;intro g7 c7 w7 o7 u7 k7))
    have HQ:=OwR.push (M:=M1) (v:=.slice none 0 0) (ks:=[]) (w:=w3) (w':=w7) (r:=der c y) HO2.out.2.1 (fun b hb=>by have:=HL.out.2.1 b hb;have:=u3.size;omega) HO2.out.2.2.1 rfl (fun i r hr=>(HO2.out.2.2.2 i r hr).ext u3) (hF3.sub (fun b hb=>.inl (by simpa [Value.ownBlock] using hb))) o7 u7 (k7.imp (fun h=>h.symm) fun h=>⟨_,rfl,h⟩)
    have HU7:=Lib.hid (And.intro (u3.step (show Upd [] w3 w7 from by simpa [Value.ownBlock] using u7)) (show w1.heap.size≤g7 from by
     rcases k7 with k7|k7
     ·simp [Value.ownBlock] at k7
     ·have:=u3.size;omega))
    change OwR 25 M1 w7 (.slice (some ⟨g7,0,none⟩) 1 c7) [der c y] at HQ
    have HS:=Lib.hid (show RxL (M1++[g7]) w7 l (sliced (some ⟨g,off,none⟩) 1 r.kids.length c1 4) from HLN.out.2.1 ▸ ((HL.out.1.sub (M':=M1++[g7]) (fun b hb=>by
     rcases List.mem_append.1 hb with hb|hb
     ·exact .inl hb
     ·rw [List.mem_singleton] at hb;subst hb;exact .inr HU7.out.2)).ext HU7.out.1).from_ rfl HLN.out.1)
    have HLL:=Lib.hid (show l.length≤64 by have h1:=HLN.out.2.1;have h2:(r.kids.drop 1).length=r.kids.length-1:=List.length_drop;rw [h1] at h2;have:=HLN.out.2.2;omega)
    have HNL:=Lib.hid (show nodesL l≤64 by
     have h1:=nodesL_app (r.kids.take 1) (r.kids.drop 1)
     rw [List.take_append_drop,HLN.out.2.1] at h1
     have:=HNF.out.2.1
     omega)
    have HNY:=Lib.hid (show NF y∧nodes (der c y)≤10000 from ⟨HNF.out.1 y HMX.out,der_small (by have:=nodesL_mem HMX.out;have:=HNF.out.2.1;omega)⟩)
    obtain ⟨cs8,p1,p2,_,p4⟩:=id HS.out
    obtain ⟨cs9,q1',q2',q3',q4'⟩:=id HQ
    have H8:=Lib.hid (And.intro p1 (And.intro p2 p4))
    have H9:=Lib.hid (And.intro (show w7.ownsRow 0 25 4 (.slice (some ⟨g7,0,none⟩) 1 c7) 1 (rows 1 cs9) from q1') (And.intro q2' (And.intro q3' q4')))
    have HK3:=Lib.hid (And.intro k3 (And.intro e0 (And.intro e1 (And.intro e2 e3))))
    have m3:=HU7.out.1.some k3 (by simp)
    have f0:=HU7.out.1.some e0 (by simp)
    have f1:=HU7.out.1.some e1 (by simp)
    have f2:=HU7.out.1.some e2 (by simp)
    have f3:=HU7.out.1.some e3 (by simp)
    clear p1 p2 p4 q1' q2' q3' q4' HQ u3 hF3 o7 u7 k7 k3 e0 e1 e2 e3
    go_upto_region 15 with (refine wpList_appS rfl _ _ _ rfl 25 4 40 _ Tryz.underlying23 infoRR rfl (by decide) (.slice (some ⟨g7,0,none⟩) 1 c7) 1 (rows 1 cs9) rfl H9.out.1 _ l.length _ rfl H8.out.1 (rows_one4 H8.out.2.2) (by have:=HLL.out;unfold maxLen;omega) (by have:=HLL.out;omega) ?_;intro a8 c8 w8 o8 u8 k8)
    have HQ8:=OwR.pushL (M:=M1) (ks:=[der c y]) (ls:=l) (v:=.slice (some ⟨g7,0,none⟩) 1 c7) (w:=w7) (w':=w8) H9.out.2.1 H8.out.2.1 (fun b hb=>by have:=HL.out.2.1 b hb;have:=HU7.out.1.size;omega) H9.out.2.2.1 rfl rfl H9.out.2.2.2 H8.out.2.2 o8 u8 (k8.imp id fun h=>⟨_,h,Nat.le_refl _⟩)
    have HU8:=Lib.hid (HU7.out.1.fresh u8 (fun b hb=>.inr (by simp [Value.ownBlock] at hb;subst hb;exact HU7.out.2)))
    have HN3:=Lib.hid (rnormalJ_calls (k:=3) (.inl rfl) HQ8.list (fun b hb=>by have:=HL.out.2.1 b hb;have:=HU8.out.size;omega) (by
     have h1:=HNY.out.2
     have h2:=HNL.out
     rw [nodesL_app,nodesL,nodesL]
     omega))
    have HFR:=Lib.hid (show form (nd 3 0 0 ([der c y]++l))=form (nd 3 0 0 (der c y::l)) from rfl)
    have HFN:=Lib.hid (show nodes (form (nd 3 0 0 ([der c y]++l)))≤20000 from by
     have h0:=form_nodes 3 0 0 ([der c y]++l)
     have h1:=HNY.out.2
     have h2:=HNL.out
     rw [nodesL_app,nodesL,nodesL] at h0
     omega)
    generalize form (nd 3 0 0 ([der c y]++l))=fr at *
    have m3:=HU8.out.some HK3.out.1 (by simp)
    clear f0 f1 f2 f3 o8 u8 k8 HQ8
    go_upto_region 16 with ((with_reducible refine HN3.out.mono ?_);rintro e w9 ⟨v9,rfl,o9,u9⟩;obtain ⟨a9,c9,rfl,hF9,_,_⟩:=o9.shape)
    have HB:=Lib.hid (show Blk (w9.alloc (.cells #[.int .i64 fr.kind,.int .u8 fr.lo,.int .u8 fr.hi,.slice a9 fr.kids.length c9] 25)) w9.heap.size (rxC fr.kind fr.lo fr.hi (.slice a9 fr.kids.length c9)) 25∧Upd [] w9 (w9.alloc (.cells #[.int .i64 fr.kind,.int .u8 fr.lo,.int .u8 fr.hi,.slice a9 fr.kids.length c9] 25)) from ⟨Blk.new w9 _ _,(Upd.refl [] w9).alloc _⟩)
    change Code.wp _ _ _ _ (w9.alloc (.cells #[.int .i64 fr.kind,.int .u8 fr.lo,.int .u8 fr.hi,.slice a9 fr.kids.length c9] 25))
    have HUB:=Lib.hid (show Upd [] w1 (w9.alloc (.cells #[.int .i64 fr.kind,.int .u8 fr.lo,.int .u8 fr.hi,.slice a9 fr.kids.length c9] 25)) from (HU8.out.step u9).step HB.out.2)
    have HFB:=Lib.hid (show RxF M1 (w9.alloc (.cells #[.int .i64 fr.kind,.int .u8 fr.lo,.int .u8 fr.hi,.slice a9 fr.kids.length c9] 25)) fr (rxC fr.kind fr.lo fr.hi (.slice a9 fr.kids.length c9)) from hF9.ext HB.out.2)
    generalize (w9.alloc (.cells #[.int .i64 fr.kind,.int .u8 fr.lo,.int .u8 fr.hi,.slice a9 fr.kids.length c9] 25))=wb at *
    generalize w9.heap.size=bx at *
    have b0:=HB.out.1.cell (i:=0) rfl
    have b1:=HB.out.1.cell (i:=1) rfl
    have b2:=HB.out.1.cell (i:=2) rfl
    have b3:=HB.out.1.cell (i:=3) rfl
    have m3:=HUB.out.some HK3.out.1 (by simp)
    have e0:=HUB.out.some HK3.out.2.1 (by simp)
    have e1:=HUB.out.some HK3.out.2.2.1 (by simp)
    have e2:=HUB.out.some HK3.out.2.2.2.1 (by simp)
    have e3:=HUB.out.some HK3.out.2.2.2.2 (by simp)
    have HM:=Lib.hid (match_calls _ y (Nat.le_refl _) (w:=wb) (RxF.val ((HRY.out.ext HUB.out).sub (M':=[]) (by simp))) HNY.out.1.proper)
    clear u9 o9 hF9
    cases hy:nul y with
    | false=>
     rw [hy] at HM
     have HE3:=Lib.hid (show der c r=form (nd 4 0 0 [fr]) by rw [HE2.out,rderC,hy,HFR.out];rfl)
     clear hy
     go_upto_region 18 with ((with_reducible refine HM.out.mono ?_);rintro e wc ⟨rfl,uc⟩)
     have b0:=uc.some b0 (by simp)
     have b1:=uc.some b1 (by simp)
     have b2:=uc.some b2 (by simp)
     have b3:=uc.some b3 (by simp)
     have HUC:=Lib.hid (And.intro (HUB.out.step uc) (HFB.out.ext uc))
     clear uc e0 e1 e2 e3 m3
     refine wp_region_lit ?_
     refine wpList_cutH 2 (fun K hK=>?_)
     simp only [List.take_succ_cons,List.take_zero]
     go_wp2_with fail
     refine Halt_.intro ?_;try simp only [List.drop_succ_cons,List.drop_zero]
     have HD:=Lib.hid (show Blk (wc.alloc (.cells #[.int .i64 fr.kind,.int .u8 fr.lo,.int .u8 fr.hi,.slice a9 fr.kids.length c9] 25)) wc.heap.size (rxC fr.kind fr.lo fr.hi (.slice a9 fr.kids.length c9)) 25∧Upd [] wc (wc.alloc (.cells #[.int .i64 fr.kind,.int .u8 fr.lo,.int .u8 fr.hi,.slice a9 fr.kids.length c9] 25)) from ⟨Blk.new wc _ _,(Upd.refl [] wc).alloc _⟩)
     have HUD:=Lib.hid (And.intro (HUC.out.1.step HD.out.2) (HUC.out.2.ext HD.out.2))
     generalize (wc.alloc (.cells #[.int .i64 fr.kind,.int .u8 fr.lo,.int .u8 fr.hi,.slice a9 fr.kids.length c9] 25))=wd at *
     have HGD:=Lib.hid (show w1.heap.size≤wc.heap.size from HUC.out.1.size)
     generalize wc.heap.size=gd at *
     have HN4:=Lib.hid (rnormalJ_calls (k:=4) (.inr (.inl rfl)) (RxL.one (M:=M1) HD.out.1 HUD.out.2 (fun hm=>by have:=HL.out.2.1 gd hm;have:=HGD.out;omega)) (fun b hb=>by have:=HL.out.2.1 b hb;have:=HUD.out.1.size;omega) (by have:=HFN.out;simp only [nodesL];omega))
     clear b0 b1 b2 b3
     go_wp2_with ((with_reducible refine HN4.out.mono ?_);rintro e wZ ⟨vZ,rfl,oZ,uZ⟩;obtain ⟨aZ,cZ,rfl,hFZ,_,_⟩:=oZ.shape;have UZ:=HUD.out.1.step uZ;have bR:=HX.out.1.upd UZ (by simp);have r0:=bR.cell (i:=0) rfl;have r1:=bR.cell (i:=1) rfl;have r2:=bR.cell (i:=2) rfl;have r3:=bR.cell (i:=3) rfl;have rf:∀ q,wZ.frozen? ⟨rb,q,none⟩=false:=bR.free;have HZZ:=Lib.hid (And.intro bR (And.intro UZ hFZ));clear bR UZ uZ oZ hFZ)
     have hs:=box_set (a:=.int .i64 (form (nd 4 0 0 [fr])).kind) (b:=.int .u8 (form (nd 4 0 0 [fr])).lo) (c:=.int .u8 (form (nd 4 0 0 [fr])).hi) (d:=.slice aZ (form (nd 4 0 0 [fr])).kids.length cZ) HZZ.out.1
     rw [HE3.out]
     exact ret_rr rfl rfl hs.1 rfl ((HZZ.out.2.2.upd hs.2 (by simpa using HX.out.2.2.2.2.1)).sub (fun b hb=>.inl (HX.out.2.2.2.1 b hb))) ((HX.out.2.1.step HZZ.out.2.1).fresh hs.2 (fun b hb=>.inr (by simp at hb;subst hb;have:=HX.out.2.2.2.2.2;have:=HPA.out;omega)))
    | true=>
     rw [hy] at HM
     have HE3:=Lib.hid (show der c r=form (nd 4 0 0 [fr,(der c (nd 3 0 0 l))]) by rw [HE2.out,rderC,hy,HFR.out,rder3 (r:=nd 3 0 0 l) rfl (fun s hs=>HNF.out.1 s (by rw [←HLN.out.2.1] at hs;exact List.mem_of_mem_drop hs))];rfl)
     have HND:=Lib.hid (show nodes (der c (nd 3 0 0 l))≤20000 from by
      have h1:=HNL.out
      have h2:=der_nodes c 65 (nd 3 0 0 l) (by rw [nodes];omega)
      have h3:2*nodes (nd 3 0 0 l)*(65+4)≤2*65*(65+4):=Nat.mul_le_mul_right _ (by rw [nodes];omega)
      omega)
     clear hy
     go_upto_region 19 with ((with_reducible refine HM.out.mono ?_);rintro e wc ⟨rfl,uc⟩)
     have b0:=uc.some b0 (by simp)
     have b1:=uc.some b1 (by simp)
     have b2:=uc.some b2 (by simp)
     have b3:=uc.some b3 (by simp)
     have m3:=uc.some m3 (by simp)
     have HUC:=Lib.hid (And.intro (HUB.out.step uc) (HFB.out.ext uc))
     clear uc e0 e1 e2 e3
     obtain ⟨sA,sK,sC,hsl⟩:∃ sA sK sC,sliced (some ⟨g,off,none⟩) 1 r.kids.length c1 4=.slice sA sK sC:=⟨_,_,_,rfl⟩
     have HTC:=Lib.hid (fun (w':World) (u:Upd [] wc w')=>HTT.out M1 w' (.agg #[.int .i64 3,.int .u8 0,.int .u8 0,.slice sA sK sC]) (RxV.iff.2 ⟨_,rfl,⟨by unfold IsI64;omega,by omega,by omega⟩,hsl ▸ HLN.out.2.1 ▸ ((HL.out.1.ext HUC.out.1).ext u).from_ rfl HLN.out.1⟩) (fun b hb=>by have:=HL.out.2.1 b hb;have:=HUC.out.1.size;have:=u.size;omega))
     refine wp_region_ord 7 4 [0,1,2,3,4,5] [0,2] [0,1,2,3,4,5,6,7,8,9] (fun w'=>∃ x:Ext wc,w'=x.val) (by kernel_rfl) (by kernel_rfl) (Ext.of (by iterate 25 (first|exact Upd.refl _ _|assumption|refine Upd.alloc ?_ _|refine Upd.drew ?_|refine Upd.drewN ?_ _|refine Upd.dl ?_|refine Upd.step ?_ (Ext.upd _)|refine Upd.nil ?_|skip))) ?_
     repeat (first|(refine wpOrd_load rfl rfl rfl rfl (fun K hK=>?_);go_big_quiet_step (fail);refine wpQuiet_nil ?_;refine hK _ ?_;clear hK K)|(refine wpOrd_free rfl rfl rfl (fun K hK=>?_);go_big_quiet_step (fail);refine wpQuiet_nil ?_;refine hK _ ?_;clear hK K))
     refine wpOrd_fix rfl rfl (fun K hK=>?_)
     go_wp2_with (go_at_call 94;refine (HTC.out _ (by iterate 25 (first|exact Upd.refl _ _|assumption|refine Upd.alloc ?_ _|refine Upd.drew ?_|refine Upd.drewN ?_ _|refine Upd.dl ?_|refine Upd.step ?_ (Ext.upd _)|refine Upd.nil ?_|skip))).mono ?_;rintro e w6 ⟨v6,rfl,r6,u6⟩;obtain ⟨a6,c6,rfl,hF6,_,_⟩:=r6.shape)
     have HU6:=Lib.hid (And.intro (show Upd [] wc w6 from Upd.step (by iterate 25 (first|exact Upd.refl _ _|assumption|refine Upd.alloc ?_ _|refine Upd.drew ?_|refine Upd.drewN ?_ _|refine Upd.dl ?_|refine Upd.step ?_ (Ext.upd _)|refine Upd.nil ?_|skip)) u6) hF6)
     clear u6 r6 hF6
     refine ⟨fun _=>Ext.of HU6.out.1,?_⟩
     repeat (first|(refine wpOrd_load rfl rfl rfl rfl (fun K hK=>?_);go_big_quiet_step (fail);refine wpQuiet_nil ?_;refine hK _ ?_;clear hK K)|(refine wpOrd_free rfl rfl rfl (fun K hK=>?_);go_big_quiet_step (fail);refine wpQuiet_nil ?_;refine hK _ ?_;clear hK K))
     refine wpOrd_fix rfl rfl (fun K hK=>?_)
     go_wp2_with fail
     have HNB:=Lib.hid (show Blk (w6.alloc (.cells #[.int .i64 fr.kind,.int .u8 fr.lo,.int .u8 fr.hi,.slice a9 fr.kids.length c9,.int .i64 (der c (nd 3 0 0 l)).kind,.int .u8 (der c (nd 3 0 0 l)).lo,.int .u8 (der c (nd 3 0 0 l)).hi,.slice a6 (der c (nd 3 0 0 l)).kids.length c6] 25)) w6.heap.size (rxC fr.kind fr.lo fr.hi (.slice a9 fr.kids.length c9)++rxC (der c (nd 3 0 0 l)).kind (der c (nd 3 0 0 l)).lo (der c (nd 3 0 0 l)).hi (.slice a6 (der c (nd 3 0 0 l)).kids.length c6)) 25∧Upd [] w6 (w6.alloc (.cells #[.int .i64 fr.kind,.int .u8 fr.lo,.int .u8 fr.hi,.slice a9 fr.kids.length c9,.int .i64 (der c (nd 3 0 0 l)).kind,.int .u8 (der c (nd 3 0 0 l)).lo,.int .u8 (der c (nd 3 0 0 l)).hi,.slice a6 (der c (nd 3 0 0 l)).kids.length c6] 25)) from ⟨Blk.new w6 _ _,(Upd.refl [] w6).alloc _⟩)
     generalize (w6.alloc (.cells #[.int .i64 fr.kind,.int .u8 fr.lo,.int .u8 fr.hi,.slice a9 fr.kids.length c9,.int .i64 (der c (nd 3 0 0 l)).kind,.int .u8 (der c (nd 3 0 0 l)).lo,.int .u8 (der c (nd 3 0 0 l)).hi,.slice a6 (der c (nd 3 0 0 l)).kids.length c6] 25))=wB at *
     have HG6:=Lib.hid (show w1.heap.size≤w6.heap.size from (HUC.out.1.step HU6.out.1).size)
     generalize w6.heap.size=gB at *
     have HUD:=Lib.hid ((HUC.out.1.step HU6.out.1).step HNB.out.2)
     have HN4:=Lib.hid (rnormalJ_calls (k:=4) (.inr (.inl rfl)) (RxL.two (M:=M1) HNB.out.1 ((HUC.out.2.ext HU6.out.1).ext HNB.out.2) (HU6.out.2.ext HNB.out.2) (fun hm=>by have:=HL.out.2.1 gB hm;have:=HG6.out;omega)) (fun b hb=>by have:=HL.out.2.1 b hb;have:=HUD.out.size;omega) (by have:=HFN.out;have:=HND.out;simp only [nodesL];omega))
     refine ⟨fun hC=>absurd hC (by decide),?_⟩
     repeat (first|(refine wpOrd_load rfl rfl rfl rfl (fun K hK=>?_);go_big_quiet_step (fail);refine wpQuiet_nil ?_;refine hK _ ?_;clear hK K)|(refine wpOrd_free rfl rfl rfl (fun K hK=>?_);go_big_quiet_step (fail);refine wpQuiet_nil ?_;refine hK _ ?_;clear hK K))
     refine wpOrd_fix rfl rfl (fun K hK=>?_)
     go_wp2_with ((with_reducible refine HN4.out.mono ?_);rintro e wZ ⟨vZ,rfl,oZ,uZ⟩;obtain ⟨aZ,cZ,rfl,hFZ,_,_⟩:=oZ.shape)
     have UZ:=HUD.out.step uZ
     have bR:=HX.out.1.upd UZ (by simp)
     have r0:=bR.cell (i:=0) rfl
     have r1:=bR.cell (i:=1) rfl
     have r2:=bR.cell (i:=2) rfl
     have r3:=bR.cell (i:=3) rfl
     have rf:∀ q,wZ.frozen? ⟨rb,q,none⟩=false:=bR.free
     have HZZ:=Lib.hid (And.intro bR (And.intro UZ hFZ))
     clear bR UZ uZ oZ hFZ
     refine ⟨fun hC=>absurd hC (by decide),?_⟩
     repeat (first|(refine wpOrd_load rfl rfl rfl rfl (fun K hK=>?_);go_big_quiet_step (fail);refine wpQuiet_nil ?_;refine hK _ ?_;clear hK K)|(refine wpOrd_free rfl rfl rfl (fun K hK=>?_);go_big_quiet_step (fail);refine wpQuiet_nil ?_;refine hK _ ?_;clear hK K))
     refine wpOrd_fix rfl rfl (fun K hK=>?_)
     go_wp2_with fail
     refine ⟨fun hC=>absurd hC (by decide),?_⟩
     refine wpOrd_nil ?_
     go_wp2_with fail
     have hs:=box_set (a:=.int .i64 (form (nd 4 0 0 [fr,(der c (nd 3 0 0 l))])).kind) (b:=.int .u8 (form (nd 4 0 0 [fr,(der c (nd 3 0 0 l))])).lo) (c:=.int .u8 (form (nd 4 0 0 [fr,(der c (nd 3 0 0 l))])).hi) (d:=.slice aZ (form (nd 4 0 0 [fr,(der c (nd 3 0 0 l))])).kids.length cZ) HZZ.out.1
     rw [HE3.out]
     exact ret_rr rfl rfl hs.1 rfl ((HZZ.out.2.2.upd hs.2 (by simpa using HX.out.2.2.2.2.1)).sub (fun b hb=>.inl (HX.out.2.2.2.1 b hb))) ((HX.out.2.1.step HZZ.out.2.1).fresh hs.2 (fun b hb=>.inr (by simp at hb;subst hb;have:=HX.out.2.2.2.2.2;have:=HPA.out;omega)))
  ·have HE:=Lib.hid (rder456 (c:=c) h)
   have HK:=Lib.hid h
   have HNC:=Lib.hid (derL_small (c:=c) HNF.out.2.1)
   have HLK:=Lib.hid (show r.kids.length≤64 by have:=nodesL_len r.kids;have:=HNF.out.2.1;omega)
   have HH:=Lib.hid (show ((r.kind=3∨r.kind=4∨r.kind=5)∨(r.kind=6∨r.kind=7)∧(derL c r.kids).length=1)∧∀ s∈derL c r.kids,NF s from by
    rw [derL_map,List.length_map]
    refine ⟨?_,fun s hs=>?_⟩
    ·rcases h with h|h|h
     ·omega
     ·omega
     ·obtain ⟨x,hx⟩:=H7.out (.inl h);rw [hx];exact .inr ⟨.inl h,rfl⟩
    ·obtain ⟨x,hx,rfl⟩:=List.mem_map.1 hs;exact der_nf (HNF.out.1 x hx))
   have h3:¬ r.kind=0∧¬ r.kind=1∧¬ r.kind=2∧¬ r.kind=3∧¬ r.kind=7:=by omega
   obtain ⟨n0,n1,n2,n3,n7⟩:=h3
   have b0:(r.kind == 0)=false:=by simpa using n0
   have b1:(r.kind == 1)=false:=by simpa using n1
   have b2:(r.kind == 2)=false:=by simpa using n2
   have b3:(r.kind == 3)=false:=by simpa using n3
   have b7:(r.kind == 7)=false:=by simpa using n7
   clear n0 n1 n2 n3 n7
   clear h k1 k2 r0 r1 r2 r3 rf
   go_wp2_with fail
   go_loopw [5,8] (fun av iv wr=>∃ (m:Nat) (acc:Value),iv=.int .i64 m∧acc=av∧m≤r.kids.length∧OwR 25 M1 wr acc (derL c (r.kids.take m))∧(∀ q,acc.ownBlock=some q→w1.heap.size≤q)∧Upd [] w1 wr) (fun _ iv _=>r.kids.length - (intOf iv).toNat)
   case atStart=>exact ⟨0,_,rfl,rfl,Nat.zero_le _,OwR.nil0,fun q hq=>by simp [Value.ownBlock] at hq,Upd.refl _ _⟩
   case round=>
    obtain ⟨m,acc,rfl,rfl,hm,hO,hq,hu⟩:=hrel
    have HO:=Lib.hid (And.intro hO (And.intro hq hu))
    have m3:=hu.some k3 (by simp)
    have m0:=hu.some k0 (by simp)
    clear hO hq hu k3 k0
    by_cases hlt:m<r.kids.length
    ·have hli:(m:Int)<r.kids.length:=by omega
     have hr:=List.getElem?_eq_getElem hlt
     have hmem:=List.mem_of_getElem? hr
     have htk:derL c (r.kids.take (m+1))=derL c (r.kids.take m)++[der c r.kids[m]]:=by rw [List.take_add_one,hr,derL_map,derL_map,List.map_append];rfl
     generalize r.kids[m]=s at *
     have hM2:∀ b∈M1++acc.ownBlock.toList,b∈M1∨w1.heap.size≤b:=fun b hb=>by
      rcases List.mem_append.1 hb with hb|hb
      ·exact .inl hb
      ·exact .inr (HO.out.2.1 b (by simpa using hb))
     obtain ⟨g,off,a3,c3,rfl,hRF,e0,e1,e2,e3⟩:=((HL.out.1.sub hM2).ext HO.out.2.2).kid hr
     have HR:=Lib.hid (And.intro hRF (And.intro htk (And.intro hmem hM2)))
     clear hRF hr hmem htk hM2
     obtain ⟨css,o1,o2,o3,o4⟩:=id HO.out.1
     have HO2:=Lib.hid (And.intro o1 (And.intro o2 (And.intro o3 (And.intro o4 HO.out.2.2))))
     have hsz:acc.ownBlock.toList=[]∨∀ b∈acc.ownBlock.toList,b<wr.heap.size:=by
      rcases o1.2 with ⟨rfl,_⟩|⟨gg,cap,cur,rfl,_,hgg,_⟩
      ·left;rfl
      ·right
       intro b hb
       simp [Value.ownBlock] at hb
       subst hb
       exact (Array.getElem?_eq_some_iff.1 hgg).1
     have HC:=Lib.hid (HI.out s HR.out.2.2.1 _ _ _ HR.out.1.val (fun b hb=>by
      rcases List.mem_append.1 hb with hb|hb
      ·have:=HL.out.2.1 b hb;have:=HO2.out.2.2.2.2.size;omega
      ·rcases hsz with h|h
       ·rw [h] at hb;simp at hb
       ·exact h b hb))
     clear o1 o2 o3 o4 hsz
     have HLN:=Lib.hid (show (derL c (r.kids.take m)).length≤64 from by have:=HLK.out;rw [derL_map,List.length_map,List.length_take];omega)
     go_wp2_with (first|((with_reducible refine HC.out.mono ?_);rintro e w3 ⟨v3,rfl,o3,u3⟩;obtain ⟨cs3,rfl,hF3,hl3,h13⟩:=o3.cells)|(refine wpList_push rfl rfl _ _ _ _ rfl rfl rfl 25 4 40 _ Tryz.underlying23 infoRR rfl (by decide) (by decide) (.agg cs3.toArray) cs3 rfl rfl hl3 h13 acc _ _ (ownsRow_updL HO2.out.1 u3 (by simp)) rfl rfl (by have:=HLN.out;unfold maxLen;omega) (by have:=HLN.out;omega) ?_;intro g7 c7 w7 o7 u7 k7))
     have HQ:=OwR.push (w:=w3) (w':=w7) (r:=der c s) HO2.out.2.1 (fun b hb=>by have:=HL.out.2.1 b hb;have:=(HO2.out.2.2.2.2.step u3).size;omega) HO2.out.2.2.1 rfl (fun i r hr=>(HO2.out.2.2.2.1 i r hr).ext u3) hF3 o7 u7 (k7.imp (fun h=>h.symm) fun h=>⟨_,rfl,h⟩)
     rw [←HR.out.2.1] at HQ
     refine ⟨⟨m+1,_,by go_num,rfl,by omega,HQ,fun q hq=>?_,(HO2.out.2.2.2.2.step u3).fresh u7 (fun b hb=>.inr (HO.out.2.1 b (by simpa using hb)))⟩,by simp [intOf];omega⟩
     simp only [Value.ownBlock,Option.some.injEq] at hq
     subst hq
     rcases k7 with k7|k7
     ·exact HO.out.2.1 _ k7
     ·have:=(HO2.out.2.2.2.2.step u3).size;omega
    ·have hme:m=r.kids.length:=by omega
     subst hme
     rw [List.take_length] at HO
     have bR:=HX.out.1.upd HO.out.2.2 (by simp)
     have HBR:=Lib.hid bR
     have HN:=Lib.hid (rnormal_calls HH.out.1 HH.out.2 HO.out.1.list (fun b hb=>by have:=HL.out.2.1 b hb;have:=HO.out.2.2.size;omega) (by have:=HNC.out;omega))
     clear bR
     go_wp2_with ((with_reducible refine HN.out.mono ?_);rintro e w4 ⟨v4,rfl,o4,u4⟩;obtain ⟨a4,c4,rfl,hF4,_,_⟩:=o4.shape;have bR:=HBR.out.upd u4 (by simp);have r0:=bR.cell (i:=0) rfl;have r1:=bR.cell (i:=1) rfl;have r2:=bR.cell (i:=2) rfl;have r3:=bR.cell (i:=3) rfl;have rf:∀ q,w4.frozen? ⟨rb,q,none⟩=false:=bR.free;have H4:=Lib.hid (And.intro bR (And.intro u4 hF4));clear bR u4 hF4 o4)
     have hs:=box_set (a:=.int .i64 (form (nd r.kind 0 0 (derL c r.kids))).kind) (b:=.int .u8 (form (nd r.kind 0 0 (derL c r.kids))).lo) (c:=.int .u8 (form (nd r.kind 0 0 (derL c r.kids))).hi) (d:=.slice a4 (form (nd r.kind 0 0 (derL c r.kids))).kids.length c4) H4.out.1
     rw [HE.out]
     exact ret_rr rfl rfl hs.1 rfl ((H4.out.2.2.upd hs.2 (by simpa using HX.out.2.2.2.2.1)).sub (fun b hb=>.inl (HX.out.2.2.2.1 b hb))) (((HX.out.2.1.step HO.out.2.2).step H4.out.2.1).fresh hs.2 (fun b hb=>.inr (by simp at hb;subst hb;have:=HX.out.2.2.2.2.2;have:=HPA.out;omega)))
end
end Rgx
end Go.Proofs.YtjclbjdkkdijbaaGreat
end
section
open Go.RowKit
namespace Go.Proofs.YtjclbjdkkdijbaaGreat
open L
namespace Rgx
open Rx
section
variable {w w':World} {v:Value} {M:List Nat}
set_option maxRecDepth 100000 in
set_option maxHeartbeats 8000000 in
theorem rDerive_calls {r:Rx} {c:Int} (hr:RxV M w r v) (hM:∀ b∈M,b<w.heap.size) (hnf:NF r) (hn:nodes r≤64) (hc:0≤c∧c≤255) :
 Calls Tryz.prog 55 #[v,.int .u8 c] w fun e w'=>∃ v',e=.returned (.tuple #[v',.int .i64 (limE (der c r))])∧RxV M w' (limR (der c r)) v'∧Upd [] w w':=by
 obtain ⟨a1,c1,rfl,hF,_,_⟩:=hr.shape
 obtain ⟨w1,M1,rb,hw1,hrb,hM1,bA,bB,uB,hz2,hF1,hnew,hlt,hsub,hin,hle⟩:=two_boxesR hF hM
 have HX:=Lib.hid (And.intro bB (And.intro uB (And.intro hF1 (And.intro hsub (And.intro hin (And.intro hle hlt))))))
 have HT:=Lib.hid (show Calls Tryz.prog 91 #[.agg #[.int .i64 r.kind,.int .u8 r.lo,.int .u8 r.hi,.slice a1 r.kids.length c1]] w1 fun e w'=>e=.returned (.int .i64 0)∧Upd [] w1 w' from by
  have h:=rvalid_calls (hF1.sub (M':=[]) (by simp)).val (by omega)
  rw [hnf.vErr0 hn] at h
  exact h)
 have HV:=Lib.hid (And.intro hnf (And.intro hn (And.intro hc (norm_fix r hnf))))
 clear hr hF hM hnf hn hc
 go_enter Tryz.func55,Tryz.ntmps55
 go_upto_region 1 with fail
 change Code.wp _ _ _ _ ((w.alloc (.cells (rxC r.kind r.lo r.hi (.slice a1 r.kids.length c1)).toArray 25)).alloc (.cells #[.int .i64 0,.int .u8 0,.int .u8 0,.slice none 0 0] 25))
 rw [←hw1,←hrb]
 have k0:=bA.cell (i:=0) rfl
 have k1:=bA.cell (i:=1) rfl
 have k2:=bA.cell (i:=2) rfl
 have k3:=bA.cell (i:=3) rfl
 clear bA bB uB hz2 hF1 hnew hlt hsub hin hle hM1
 clear hw1 hrb
 generalize hpa:w.heap.size=pa at *
 have HPA:=Lib.hid hpa
 clear hpa
 go_upto_region 4 with (first|(with_reducible refine HT.out.mono ?_);rintro e w2 ⟨rfl,hu⟩)
 have g0:=hu.some k0 (by simp)
 have g1:=hu.some k1 (by simp)
 have g2:=hu.some k2 (by simp)
 have g3:=hu.some k3 (by simp)
 have HU2:=Lib.hid hu
 have HLT2:=Lib.hid (show ∀ b∈M1,b<w2.heap.size from fun b hb=>by have:=HX.out.2.2.2.2.2.2 b hb;have:=hu.size;omega)
 clear k0 k1 k2 k3 hu
 have HNM:=Lib.hid (simple_calls r ((HX.out.2.2.1.ext HU2.out)).val HLT2.out HV.out.1.proper (by have:=HV.out.2.1;omega))
 rw [HV.out.2.2.2] at HNM
 refine wp_region_lit ?_
 refine wpList_cutH 2 (fun K hK=>?_)
 simp only [List.take_succ_cons,List.take_zero]
 go_wp2_with ((with_reducible refine HNM.out.mono ?_);rintro e w4 ⟨v4,rfl,o4,u4⟩)
 refine Halt_.intro ?_;try simp only [List.drop_succ_cons,List.drop_zero]
 have HLT4:=Lib.hid (show ∀ b∈M1,b<w4.heap.size from fun b hb=>by have:=HLT2.out b hb;have:=u4.size;omega)
 have HDR:=Lib.hid (rderive_calls HV.out.2.2.1 64 r HV.out.2.1 (Nat.le_refl _) HV.out.1.kids HV.out.1.fits o4 HLT4.out)
 have HN4:=Lib.hid (And.intro u4 o4)
 obtain ⟨a4,c4,rfl,_⟩:=o4.shape
 clear u4 o4 g0 g1 g2 g3
 refine wpList_cutH 2 (fun K hK=>?_)
 simp only [List.take_succ_cons,List.take_zero]
 go_wp2_with ((with_reducible refine HDR.out.mono ?_);rintro e w5 ⟨v5,rfl,o5,u5⟩)
 refine Halt_.intro ?_;try simp only [List.drop_succ_cons,List.drop_zero]
 have HL:=Lib.hid (few_calls o5 (fun b hb=>by have:=HLT4.out b hb;have:=u5.size;omega) (by have:=der_small (c:=c) HV.out.2.1;omega))
 have HN5:=Lib.hid (And.intro u5 o5)
 obtain ⟨a5,c5,rfl,_⟩:=o5.shape
 clear u5 o5
 go_wp2_with ((with_reducible refine HL.out.mono ?_);rintro e w6 ⟨v6,rfl,o6,u6⟩;obtain ⟨a6,c6,rfl,hF6,_,_⟩:=o6.shape;have U6:=HU2.out.step (HN4.out.1.step (HN5.out.1.step u6));have bR:=HX.out.1.upd U6 (by simp);have r0:=bR.cell (i:=0) rfl;have r1:=bR.cell (i:=1) rfl;have r2:=bR.cell (i:=2) rfl;have r3:=bR.cell (i:=3) rfl;have rf:∀ q,w6.frozen? ⟨rb,q,none⟩=false:=bR.free;have H6:=Lib.hid (And.intro bR (And.intro U6 hF6));clear bR U6 u6 o6 hF6)
 have hs:=box_set (a:=.int .i64 (limR (der c r)).kind) (b:=.int .u8 (limR (der c r)).lo) (c:=.int .u8 (limR (der c r)).hi) (d:=.slice a6 (limR (der c r)).kids.length c6) H6.out.1
 exact ret_rr2 rfl rfl rfl hs.1 rfl ((H6.out.2.2.upd hs.2 (by simpa using HX.out.2.2.2.2.1)).sub (fun b hb=>.inl (HX.out.2.2.2.1 b hb))) ((HX.out.2.1.step H6.out.2.1).fresh hs.2 (fun b hb=>.inr (by simp at hb;subst hb;have:=HX.out.2.2.2.2.2.1;have:=HPA.out;omega)))
end
end Rgx
end Go.Proofs.YtjclbjdkkdijbaaGreat
end
