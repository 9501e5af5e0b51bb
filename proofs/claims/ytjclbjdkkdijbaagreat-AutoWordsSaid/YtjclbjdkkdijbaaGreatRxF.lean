/- Walks through package regex: slices.CompactFunc of expressions. Conditions: none. -/
import Derived.Test.YtjclbjdkkdijbaaGreatRxE
import Derived.Test.YtjclbjdkkdijbaaGreatReg
set_option linter.unusedVariables false
set_option linter.unusedSimpArgs false
set_option linter.unusedSectionVars false
open Go.RowKit
namespace Go.Proofs.YtjclbjdkkdijbaaGreat
open L
namespace Rgx
open Rx
attribute [-go_sem] sliced
def ddn (ks:List Rx):Nat→List Rx
 | 0=>[]
 | n+1=>ddn ks n++(if 0<n∧ks[n]?=ks[n-1]? then [] else (ks[n]?).toList)
theorem ddn_same {ks:List Rx} {n:Nat} {r:Rx} (h0:0<n) (h1:ks[n]?=some r) (h2:ks[n-1]?=some r):ddn ks (n+1)=ddn ks n:=by
 rw [ddn,if_pos ⟨h0,by rw [h1,h2]⟩,List.append_nil]
theorem ddn_new {ks:List Rx} {n:Nat} {r s:Rx} (h1:ks[n]?=some r) (h2:ks[n-1]?=some s) (h:r≠s):ddn ks (n+1)=ddn ks n++[r]:=by
 rw [ddn,if_neg,h1]
 ·rfl
 ·rw [h1,h2];intro h';exact h (Option.some.inj h'.2)
theorem ddn_take {ks:List Rx}:∀ n,n≤ks.length→(∀ j,0<j→j<n→ks[j]?≠ks[j-1]?)→ddn ks n=ks.take n
 | 0,_,_=>by simp [ddn]
 | n+1,hn,h=>by
  have hg:=List.getElem?_eq_getElem (show n<ks.length by omega)
  rw [ddn,ddn_take n (by omega) (fun j h0 h1=>h j h0 (by omega)),if_neg,List.take_add_one]
  rintro ⟨h0,h1⟩
  exact h n h0 (by omega) h1
theorem ddn_sort {ks:List Rx} (hs:ks.Pairwise fun a b=>ltR b a=false):ddn ks ks.length=sortR ks:=by
 have key:∀ n,n≤ks.length→Inc (ddn ks n)∧(∀ x,x∈ddn ks n↔x∈ks.take n)∧∀ r,0<n→ks[n-1]?=some r→∀ x∈ddn ks n,x=r∨ltR x r=true:=by
  intro n
  induction n with
  | zero=>intro _;exact ⟨.nil,fun x=>by simp [ddn],fun r h=>by omega⟩
  | succ n ih=>
   intro hn
   obtain ⟨h1,h2,h3⟩:=ih (by omega)
   have hg:=List.getElem?_eq_getElem (show n<ks.length by omega)
   rcases Nat.eq_zero_or_pos n with h0|h0
   ·subst h0
    have e:ddn ks 1=[ks[0]]:=by rw [ddn,if_neg (by omega),hg];simp [ddn]
    refine ⟨by rw [e];simp [Inc],fun x=>by rw [e,List.take_add_one,hg];simp,fun r _ hr x hx=>?_⟩
    rw [e] at hx
    simp at hx hr
    rw [hg] at hr
    left;rw [hx];exact Option.some.inj hr
   ·have hp:=List.getElem?_eq_getElem (show n-1<ks.length by omega)
    have hle:ltR ks[n] ks[n-1]=false:=List.pairwise_iff_getElem.1 hs (n-1) n (by omega) (by omega) (by omega)
    by_cases he:ks[n]=ks[n-1]
    ·have e:=ddn_same h0 hg (by rw [hp,he])
     rw [e]
     refine ⟨h1,fun x=>?_,fun r _ hr x hx=>?_⟩
     ·rw [h2 x,List.take_add_one,hg,List.mem_append]
      simp only [Option.toList_some,List.mem_singleton]
      constructor
      ·exact .inl
      ·rintro (h|h)
       ·exact h
       ·rw [h,he]
        exact List.mem_of_getElem? (show (ks.take n)[n-1]?=some ks[n-1] by rw [List.getElem?_take,if_pos (by omega),hp])
     ·rw [Nat.add_sub_cancel,hg] at hr
      exact h3 r h0 (by rw [hp,←he];exact hr) x hx
    ·have e:=ddn_new hg hp he
     have hlt:ltR ks[n-1] ks[n]=true:=by
      rcases ltR_tri ks[n-1] ks[n] with h|h|h
      ·exact h
      ·exact absurd h.symm he
      ·rw [hle] at h;cases h
     have hall:∀ x∈ddn ks n,ltR x ks[n]=true:=fun x hx=>by
      rcases h3 _ h0 hp x hx with h|h
      ·rw [h];exact hlt
      ·exact ltR_tr h hlt
     rw [e]
     refine ⟨?_,fun x=>?_,fun r _ hr x hx=>?_⟩
     ·exact List.pairwise_append.2 ⟨h1,by simp,fun a ha b hb=>by simp at hb;rw [hb];exact hall a ha⟩
     ·rw [List.take_add_one,hg,List.mem_append,List.mem_append,h2 x];simp
     ·rw [Nat.add_sub_cancel,hg] at hr
      have hr:=Option.some.inj hr
      rcases List.mem_append.1 hx with hx|hx
      ·right;rw [←hr];exact hall x hx
      ·left;simp at hx;rw [hx];exact hr
 obtain ⟨h1,h2,_⟩:=key ks.length (Nat.le_refl _)
 exact (sortR_eq h1 fun x=>by rw [h2 x,List.take_length]).symm
section
variable {w w':World} {v:Value}
theorem row_cells {g n j:Nat} {css:Nat→List Value} {pad cs:List Value} {e:TypeId} (hb:Blk w g (rows n css++pad) e) (h4:∀ i,(css i).length=4) (hj:j<n) (hc:css j=cs):∀ q y,cs[q]?=some y→w.cell? ⟨g,j*4+q,none⟩=some y:=fun q y hq=>by
 refine hb.cell ?_
 have hq4:q<4:=by
  have:=(List.getElem?_eq_some_iff.1 hq).1
  rw [←hc,h4] at this;exact this
 have:=rows_length h4 n
 rw [List.getElem?_append_left (by omega),rows_get h4 hq4 hj,hc]
 exact hq
set_option maxRecDepth 100000 in
set_option maxHeartbeats 8000000 in
theorem compactFunc_calls {M:List Nat} {ks:List Rx} (h:OwR 37 M w v ks) :
 Calls Tryz.prog 123 #[v,.func (.func 120) #[] #[]] w fun e w'=>∃ v',e=.returned v'∧OwR 37 M w' v' (ddn ks ks.length)∧Upd v.ownBlock.toList w w'∧v'.ownBlock=v.ownBlock:=by
 obtain ⟨a,c,rfl,q1,q2,_⟩:=id h.list.form
 by_cases h2:ks.length<2
 ·have h2i:(ks.length:Int)<2:=by omega
  have hd:ddn ks ks.length=ks:=by rw [ddn_take _ (Nat.le_refl _) (fun j h0 h1=>by omega),List.take_length]
  have HF:=Lib.hid (And.intro hd h)
  clear hd h2 h
  go_enter Tryz.func123,Tryz.ntmps123
  go_wp2_with fail
  go_ret
  rw [HF.out.1]
  exact ⟨_,rfl,HF.out.2,Upd.refl _ _,rfl⟩
 ·have h2i:¬ (ks.length:Int)<2:=by omega
  have hks:ks≠[]:=by rintro rfl;simp at h2
  obtain ⟨g,c',css,pad,hv,hblk,hbl,hc1,hc2,h4,hgM,hel⟩:=h.blk hks
  cases hv
  have HS:=Lib.hid (And.intro hel (And.intro hgM (And.intro hbl (And.intro h4 hblk))))
  have HH:=Lib.hid h
  clear h hel hgM hbl h4 hblk hks
  generalize hn:ks.length=n at *
  have HN:=Lib.hid hn
  clear hn
  have HE:=Lib.hid (fun (wr:World) (u:Upd [g] w wr) (i j:Nat) (r s:Rx) (a1 a2:Option Addr) (c1 c2:Nat) (hr:ks[i]?=some r) (hs:ks[j]?=some s) (h1:css i=rxC r.kind r.lo r.hi (.slice a1 r.kids.length c1)) (h2:css j=rxC s.kind s.lo s.hi (.slice a2 s.kids.length c2))=>
   equal_calls (w:=wr) (va:=.agg #[.int .i64 r.kind,.int .u8 r.lo,.int .u8 r.hi,.slice a1 r.kids.length c1]) (vb:=.agg #[.int .i64 s.kind,.int .u8 s.lo,.int .u8 s.hi,.slice a2 s.kids.length c2])
    ⟨_,rfl,by have:=(HS.out.1 i r hr).upd u (by simp);rw [h1] at this;exact this.sub (by simp)⟩ ⟨_,rfl,by have:=(HS.out.1 j s hs).upd u (by simp);rw [h2] at this;exact this.sub (by simp)⟩)
  go_enter Tryz.func123,Tryz.ntmps123
  go_wp2_with fail
  go_loopw [5] (fun iv wr=>∃ m:Nat,iv=.int .i64 ((m:Int)+1)∧m+1≤n∧(∀ j,0<j→j<m+1→ks[j]?≠ks[j-1]?)∧∃ x:Ext w,wr=x.val) (fun iv _=>n - (intOf iv).toNat)
  case atStart=>exact ⟨0,rfl,by omega,fun j h0 h1=>by omega,Ext.of (by iterate 25 (first|exact Upd.refl _ _|assumption|refine Upd.alloc ?_ _|refine Upd.drew ?_|refine Upd.drewN ?_ _|refine Upd.dl ?_|refine Upd.step ?_ (Ext.upd _)|refine Upd.nil ?_|skip))⟩
  case round=>
   obtain ⟨m,rfl,hm,hlo,x,rfl⟩:=hrel
   have HLO:=Lib.hid hlo
   clear hlo
   by_cases hlt:m+1<n
   ·have hli:(m:Int)+1<n:=by omega
    obtain ⟨r,hr⟩:∃ r,ks[m+1]?=some r:=⟨_,List.getElem?_eq_getElem (show m+1<ks.length by rw [HN.out];exact hlt)⟩
    obtain ⟨s,hs⟩:∃ s,ks[m]?=some s:=⟨_,List.getElem?_eq_getElem (show m<ks.length by rw [HN.out];omega)⟩
    obtain ⟨a1,c1,hcr⟩:=(HS.out.1 _ r hr).cs
    obtain ⟨a2,c2,hcs⟩:=(HS.out.1 _ s hs).cs
    have er:=row_cells (HS.out.2.2.2.2.ext x) HS.out.2.2.2.1 hlt hcr
    have es:=row_cells (HS.out.2.2.2.2.ext x) HS.out.2.2.2.1 (show m<n by omega) hcs
    have e0:=er 0 _ rfl
    have e1:=er 1 _ rfl
    have e2:=er 2 _ rfl
    have e3:=er 3 _ rfl
    have f0:=es 0 _ rfl
    have f1:=es 1 _ rfl
    have f2:=es 2 _ rfl
    have f3:=es 3 _ rfl
    rw [Nat.add_zero] at e0 f0
    have HX:=Lib.hid (fun (w2:World) (u:Upd [] x.val w2)=>HE.out w2 ((x.upd.step u).nil) _ _ r s a1 a2 c1 c2 hr hs hcr hcs)
    have HR:=Lib.hid (And.intro hr hs)
    clear er es hcr hcs hr hs
    have hmi:(m:Int)<n:=by omega
    go_upto_region 6 with fail
    go_cut [28] (fun b w'=>b=.bool (decide (r=s))∧Upd [] x.val w')
    case first=>
     go_wp2_with fail
     refine wp_region_ord 10 1 [0,1,2,3,4,5,6,7,8,9] [4,9] [0,1,2,3,4,5,6,7,8,9,10] (fun w'=>∃ x2:Ext x.val,w'=x2.val) (by kernel_rfl) (by kernel_rfl) (Ext.of (by iterate 25 (first|exact Upd.refl _ _|assumption|refine Upd.alloc ?_ _|refine Upd.drew ?_|refine Upd.drewN ?_ _|refine Upd.dl ?_|refine Upd.step ?_ (Ext.upd _)|refine Upd.nil ?_|skip))) ?_
     repeat (first|(refine wpOrd_load rfl rfl rfl rfl (fun K hK=>?_);go_big_quiet_step (fail);refine wpQuiet_nil ?_;refine hK _ ?_;clear hK K)|(refine wpOrd_free rfl rfl rfl (fun K hK=>?_);go_big_quiet_step (fail);refine wpQuiet_nil ?_;refine hK _ ?_;clear hK K))
     refine wpOrd_fix rfl rfl (fun K hK=>?_)
     go_wp2_with (go_at_call 120;refine (HX.out _ (by iterate 25 (first|exact Upd.refl _ _|assumption|refine Upd.alloc ?_ _|refine Upd.drew ?_|refine Upd.drewN ?_ _|refine Upd.dl ?_|refine Upd.step ?_ (Ext.upd _)|refine Upd.nil ?_|skip))).mono ?_;rintro e w3 ⟨rfl,hu⟩)
     have HU:=Lib.hid (show Upd [] x.val w3 from Upd.step (by iterate 25 (first|exact Upd.refl _ _|assumption|refine Upd.alloc ?_ _|refine Upd.drew ?_|refine Upd.drewN ?_ _|refine Upd.dl ?_|refine Upd.step ?_ (Ext.upd _)|refine Upd.nil ?_|skip)) hu)
     clear hu
     refine ⟨fun hC=>absurd hC (by decide),?_⟩
     repeat (first|(refine wpOrd_load rfl rfl rfl rfl (fun K hK=>?_);go_big_quiet_step (fail);refine wpQuiet_nil ?_;refine hK _ ?_;clear hK K)|(refine wpOrd_free rfl rfl rfl (fun K hK=>?_);go_big_quiet_step (fail);refine wpQuiet_nil ?_;refine hK _ ?_;clear hK K))
     refine wpOrd_nil ?_
     go_wp2_with fail
     go_meet
     case rel=>exact ⟨rfl,HU.out⟩
    case rest=>
    obtain ⟨rfl,uc⟩:=hcut
    have HU:=Lib.hid (x.upd.step uc)
    clear e0 e1 e2 e3 f0 f1 f2 f3 HX
    by_cases hrs:r=s
    ·rw [decide_eq_true hrs]
     have HRS:=Lib.hid hrs
     clear hrs
     obtain ⟨d,hd⟩:∃ d,n=m+1+d:=⟨n - (m+1),by omega⟩
     have hslc:sliced (some ⟨g,0,none⟩) (m+1) n c 4=.slice (some ⟨g,(m+1)*4,none⟩) d (c - (m+1)):=by
      unfold sliced
      rw [if_neg (show ¬ c=m+1 by omega)]
      simp only [Option.map_some,addr_add,Nat.zero_add]
      congr 1
      omega
     have hd0:0<d:=by omega
     have hdc:d≤c - (m+1):=by omega
     have hcm:c - (m+1)≤9223372036854775807:=by omega
     have HD:=Lib.hid hd
     have hmi1:(m:Int)+1≤n:=by omega
     clear hd
     obtain ⟨wo,rfl⟩:∃ wo:World,wo=wc:=⟨_,rfl⟩
     clear uc
     generalize hcd:c - (m+1)=cd at *
     clear hcd
     go_wp2_with fail
     go_loopw [5,7] (fun iv kv wr=>∃ q p:Nat,iv=.int .i64 q∧kv=.int .i64 ((p:Int)+1)∧q≤m+1+p∧p+1≤d∧(∃ css2,Blk wr g (rows n css2++pad) 37∧(∀ k,(css2 k).length=4)∧(∀ k,m+1+p≤k→css2 k=css k)∧(ddn ks (m+1+p+1)).length=q∧∀ k y,(ddn ks (m+1+p+1))[k]?=some y→RxF (M++[g]) w y (css2 k))∧Upd [g] w wr) (fun _ kv _=>d - (intOf kv).toNat)
     case atStart=>
      have hds:ddn ks (m+1+1)=ks.take (m+1):=by
       rw [ddn_same (by omega) HR.out.1 (by rw [Nat.add_sub_cancel,HR.out.2,HRS.out]),ddn_take _ (by rw [HN.out];omega) HLO.out]
      refine ⟨m+1,0,by go_num,by go_num,by omega,by omega,⟨css,HS.out.2.2.2.2.upd HU.out (by simp),HS.out.2.2.2.1,fun _ _=>rfl,?_,fun k y hk=>?_⟩,HU.out.nil⟩
      ·rw [hds,List.length_take,HN.out];omega
      ·rw [hds,List.getElem?_take] at hk
       split at hk
       ·exact HS.out.1 k y hk
       ·cases hk
     case round=>
      obtain ⟨q,p,rfl,rfl,hq,hp,⟨css2,hB,h4,hcs,hlen,hk⟩,hu⟩:=hrel
      have HL:=Lib.hid (And.intro hB (And.intro h4 (And.intro hcs (And.intro hlen (And.intro hk hu)))))
      clear hB h4 hcs hlen hk hu
      by_cases hlt2:p+1<d
      ·have hli2:(p:Int)+1<d:=by omega
       have hpi:(p:Int)<d:=by omega
       have hdn:=HD.out
       obtain ⟨r2,hr⟩:∃ r,ks[m+1+p+1]?=some r:=⟨_,List.getElem?_eq_getElem (show m+1+p+1<ks.length by have:=HN.out;omega)⟩
       obtain ⟨s2,hs⟩:∃ s,ks[m+1+p]?=some s:=⟨_,List.getElem?_eq_getElem (show m+1+p<ks.length by have:=HN.out;omega)⟩
       obtain ⟨a3,c3,hcr⟩:=(HS.out.1 _ r2 hr).cs
       obtain ⟨a4,c4,hcs⟩:=(HS.out.1 _ s2 hs).cs
       have er:=row_cells HL.out.1 HL.out.2.1 (show m+1+p+1<n by omega) (show css2 (m+1+p+1)=rxC r2.kind r2.lo r2.hi (.slice a3 r2.kids.length c3) by rw [HL.out.2.2.1 _ (by omega)];exact hcr)
       have es:=row_cells HL.out.1 HL.out.2.1 (show m+1+p<n by omega) (show css2 (m+1+p)=rxC s2.kind s2.lo s2.hi (.slice a4 s2.kids.length c4) by rw [HL.out.2.2.1 _ (by omega)];exact hcs)
       have e0:=er 0 _ rfl
       have e1:=er 1 _ rfl
       have e2:=er 2 _ rfl
       have e3:=er 3 _ rfl
       have f0:=es 0 _ rfl
       have f1:=es 1 _ rfl
       have f2:=es 2 _ rfl
       have f3:=es 3 _ rfl
       rw [Nat.add_zero] at e0 f0
       rw [show (m+1+p+1)*4=(m+1)*4+(p+1)*4 by omega] at e0 e1 e2 e3
       rw [show (m+1+p)*4=(m+1)*4+p*4 by omega] at f0 f1 f2 f3
       have HX:=Lib.hid (fun (w2:World) (u:Upd [] wr w2)=>HE.out w2 (HL.out.2.2.2.2.2.step u) _ _ r2 s2 a3 a4 c3 c4 hr hs hcr hcs)
       have HR2:=Lib.hid (And.intro hr (And.intro hs hcr))
       clear er es hcr hcs hr hs hdn
       go_upto_region 11 with fail
       go_cut [49] (fun b w'=>b=.bool (!decide (r2=s2))∧Upd [] wr w')
       case first=>
        go_wp2_with fail
        refine wp_region_ord 10 1 [0,1,2,3,4,5,6,7,8,9,11] [4,9] [0,1,2,3,4,5,6,7,8,9,10,11] (fun w'=>∃ x2:Ext wr,w'=x2.val) (by kernel_rfl) (by kernel_rfl) (Ext.of (by iterate 25 (first|exact Upd.refl _ _|assumption|refine Upd.alloc ?_ _|refine Upd.drew ?_|refine Upd.drewN ?_ _|refine Upd.dl ?_|refine Upd.step ?_ (Ext.upd _)|refine Upd.nil ?_|skip))) ?_
        repeat (first|(refine wpOrd_load rfl rfl rfl rfl (fun K hK=>?_);go_big_quiet_step (fail);refine wpQuiet_nil ?_;refine hK _ ?_;clear hK K)|(refine wpOrd_free rfl rfl rfl (fun K hK=>?_);go_big_quiet_step (fail);refine wpQuiet_nil ?_;refine hK _ ?_;clear hK K))
        refine wpOrd_fix rfl rfl (fun K hK=>?_)
        go_wp2_with (go_at_call 120;refine (HX.out _ (by iterate 25 (first|exact Upd.refl _ _|assumption|refine Upd.alloc ?_ _|refine Upd.drew ?_|refine Upd.drewN ?_ _|refine Upd.dl ?_|refine Upd.step ?_ (Ext.upd _)|refine Upd.nil ?_|skip))).mono ?_;rintro e w3 ⟨rfl,hu⟩)
        have HU3:=Lib.hid (show Upd [] wr w3 from Upd.step (by iterate 25 (first|exact Upd.refl _ _|assumption|refine Upd.alloc ?_ _|refine Upd.drew ?_|refine Upd.drewN ?_ _|refine Upd.dl ?_|refine Upd.step ?_ (Ext.upd _)|refine Upd.nil ?_|skip)) hu)
        clear hu
        refine ⟨fun hC=>absurd hC (by decide),?_⟩
        repeat (first|(refine wpOrd_load rfl rfl rfl rfl (fun K hK=>?_);go_big_quiet_step (fail);refine wpQuiet_nil ?_;refine hK _ ?_;clear hK K)|(refine wpOrd_free rfl rfl rfl (fun K hK=>?_);go_big_quiet_step (fail);refine wpQuiet_nil ?_;refine hK _ ?_;clear hK K))
        refine wpOrd_nil ?_
        go_wp2_with fail
        go_meet
        case rel=>exact ⟨rfl,HU3.out⟩
       case rest=>
       obtain ⟨rfl,uc⟩:=hcut
       have HU3:=Lib.hid uc
       clear f0 f1 f2 f3 HX
       by_cases hrs:r2=s2
       ·rw [decide_eq_true hrs]
        have HE2:=Lib.hid (show ddn ks (m+1+(p+1)+1)=ddn ks (m+1+p+1) from by
         rw [show m+1+(p+1)+1=(m+1+p+1)+1 by omega]
         exact ddn_same (by omega) HR2.out.1 (by rw [Nat.add_sub_cancel,HR2.out.2.1,hrs]))
        clear hrs e0 e1 e2 e3 uc
        go_wp2_with fail
        refine ⟨⟨q,p+1,rfl,by go_num,by omega,by omega,⟨css2,HL.out.1.upd HU3.out (by simp),HL.out.2.1,fun k hk=>HL.out.2.2.1 k (by omega),?_,?_⟩,HL.out.2.2.2.2.2.step HU3.out⟩,by simp [intOf];omega⟩
        ·rw [HE2.out];exact HL.out.2.2.2.1
        ·rw [HE2.out];exact HL.out.2.2.2.2.1
       ·rw [decide_eq_false hrs]
        have HE2:=Lib.hid (show ddn ks (m+1+(p+1)+1)=ddn ks (m+1+p+1)++[r2] from by
         rw [show m+1+(p+1)+1=(m+1+p+1)+1 by omega]
         exact ddn_new HR2.out.1 (by rw [Nat.add_sub_cancel,HR2.out.2.1]) hrs)
        clear hrs
        obtain ⟨w3,rfl⟩:∃ wo:World,wo=wc:=⟨_,rfl⟩
        have hB3:=HL.out.1.upd HU3.out (by simp)
        obtain ⟨p0,p1,p2,p3,hp4⟩:∃ p0 p1 p2 p3,css2 q=[p0,p1,p2,p3]:=by
         have:=HL.out.2.1 q
         match hq:css2 q,this with
         | [a,b,c,d],_=>exact ⟨a,b,c,d,rfl⟩
        have eq4:=row_cells hB3 HL.out.2.1 (show q<n by have:=HD.out;omega) hp4
        have f0:=eq4 0 _ rfl
        have f1:=eq4 1 _ rfl
        have f2:=eq4 2 _ rfl
        have f3:=eq4 3 _ rfl
        rw [Nat.add_zero] at f0
        have g0:=uc.some e0 (by simp)
        have g1:=uc.some e1 (by simp)
        have g2:=uc.some e2 (by simp)
        have g3:=uc.some e3 (by simp)
        have hfr:∀ q,w3.frozen? ⟨g,q,none⟩=false:=hB3.free
        have hin:(q:Int)<n:=by have:=HD.out;omega
        have HB3:=Lib.hid (And.intro hB3 (HL.out.2.2.2.2.2.step uc))
        clear eq4 hB3 hp4 uc e0 e1 e2 e3
        go_wp2_with fail
        refine ⟨?_,by simp [intOf];omega⟩
        have hs:=(((HB3.out.1.set (q*4) (.int .i64 r2.kind)).set (q*4+1) (.int .u8 r2.lo)).set (q*4+2) (.int .u8 r2.hi)).set (q*4+3) (.slice a3 r2.kids.length c3)
        rw [rows_set4 HL.out.2.1 (by have:=HD.out;omega)] at hs
        refine ⟨q+1,p+1,by go_num,by go_num,by omega,by omega,⟨_,hs,fun k=>?_,fun k hk=>?_,?_,fun k y hk=>?_⟩,?_⟩
        ·try dsimp only
         split
         ·rfl
         ·exact HL.out.2.1 k
        ·try dsimp only
         rw [if_neg (by omega)]
         exact HL.out.2.2.1 k (by omega)
        ·rw [HE2.out,List.length_append,HL.out.2.2.2.1];rfl
        ·rw [HE2.out] at hk
         try dsimp only
         rcases Nat.lt_or_ge k q with h|h
         ·rw [List.getElem?_append_left (by rw [HL.out.2.2.2.1];exact h)] at hk
          rw [if_neg (by omega)]
          exact HL.out.2.2.2.2.1 k y hk
         ·rw [List.getElem?_append_right (by rw [HL.out.2.2.2.1];exact h),HL.out.2.2.2.1] at hk
          have h0:k=q:=by
           have:=(List.getElem?_eq_some_iff.1 hk).1
           simp at this;omega
          subst h0
          simp at hk
          subst hk
          rw [if_pos rfl]
          have:=HS.out.1 _ _ HR2.out.1
          rw [HR2.out.2.2] at this
          exact this
        ·exact (((HB3.out.2.set (.inl (by simp)) _).set (.inl (by simp)) _).set (.inl (by simp)) _).set (.inl (by simp)) _
      ·have hpd:p+1=d:=by omega
       have hli2:¬ (p:Int)+1<d:=by omega
       have hdn:=HD.out
       have hqn:q<n:=by omega
       obtain ⟨w5,hrun,hu5,cs5,hb5,hl5,hk5⟩:=run_clear_rx HL.out.1 (o:=q*4) (n:=n-q) (c:=c-q) (by omega) (by
        have:=rows_length HL.out.2.1 n
        rw [List.length_append,this]
        omega)
       have hrun':∀ ty,(Builtin.clear_ #[35] ty #[sliced (some ⟨g,0,none⟩) q n c 4]).run Tryz.prog wr=.ok (.tuple #[]) w5:=fun ty=>by
        rw [←hrun ty]
        unfold sliced
        rw [if_neg (show ¬ c=q by omega)]
        simp [addr_add]
       have HC5:=Lib.hid (And.intro hu5 (And.intro hb5 (And.intro hl5 (And.intro hk5 hqn))))
       have HPD:=Lib.hid (show m+1+p+1=n by omega)
       have hqi:(q:Int)≤n:=by omega
       clear hrun hu5 hb5 hl5 hk5 hdn hqn hpd
       go_wp2_with fail
       go_ret
       rw [HPD.out] at HL
       refine ⟨.slice (some ⟨g,0,none⟩) q c,?_,?_,?_,rfl⟩
       ·show Ending.returned (sliced (some ⟨g,0,none⟩) 0 q c 4)=_
        unfold sliced
        rw [if_neg (show ¬ c=0 by omega)]
        simp [addr_add]
       ·have hrl:=rows_length HL.out.2.1 n
        have hqn:=HC5.out.2.2.2.2
        have hcs5:cs5=rows q css2++cs5.drop (q*4):=by
         conv=>lhs;rw [←List.take_append_drop (q*4) cs5]
         congr 1
         rw [←rows_take HL.out.2.1 (show q≤n by omega)]
         apply List.ext_getElem?
         intro y
         rw [List.getElem?_take,List.getElem?_take]
         split
         ·rename_i hq
          rw [HC5.out.2.2.2.1 y hq,List.getElem?_append_left (by rw [hrl];omega)]
         ·rfl
        have hlc:(rows n css2++pad).length=c*4:=by
         have:=HS.out.2.2.1
         rw [List.length_append,rows_length HS.out.2.2.2.1] at this
         rw [List.length_append,hrl]
         exact this
        have hb5:=HC5.out.2.1
        rw [hcs5] at hb5
        refine OwR.of_blk hb5 (by rw [←hcs5,HC5.out.2.2.1,hlc]) HL.out.2.2.2.1.symm (by omega) hc2 HL.out.2.1 HS.out.2.1 (fun k x hk=>?_)
        exact (HL.out.2.2.2.2.1 k x hk).upd (HL.out.2.2.2.2.2.trans HC5.out.1) (by simp)
       ·simp only [Value.ownBlock,Option.toList_some]
        exact HL.out.2.2.2.2.2.trans HC5.out.1
    ·rw [decide_eq_false hrs]
     have HRS:=Lib.hid hrs
     clear hrs
     go_wp2_with fail
     refine ⟨⟨m+1,by go_num,by omega,fun j h0 h1=>?_,Ext.of (HU.out)⟩,by simp [intOf];omega⟩
     rcases Nat.lt_or_ge j (m+1) with h|h
     ·exact HLO.out j h0 h
     ·obtain rfl:j=m+1:=by omega
      rw [Nat.add_sub_cancel,HR.out.1,HR.out.2]
      exact fun h=>HRS.out (Option.some.inj h)
   ·have hmn:m+1=n:=by omega
    have hli:¬ (m:Int)+1<n:=by omega
    have hd:ddn ks n=ks:=by rw [ddn_take n (by rw [HN.out];exact Nat.le_refl _) (fun j h0 h1=>HLO.out j h0 (by omega)),←HN.out,List.take_length]
    have HF:=Lib.hid hd
    clear hd hmn
    go_wp2_with fail
    go_ret
    rw [HF.out]
    exact ⟨_,rfl,HH.out.ext x.upd,x.upd.nil,rfl⟩
end
end Rgx
end Go.Proofs.YtjclbjdkkdijbaaGreat
