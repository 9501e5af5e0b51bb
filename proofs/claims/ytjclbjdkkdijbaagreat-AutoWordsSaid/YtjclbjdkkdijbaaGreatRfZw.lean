/- Walks through the reference of automata: Left. Conditions: none. Walks through the reference of automata: Least. Conditions: none. Walks through the law of chapter 05: sameBools. Conditions: none. -/
import Derived.Test.YtjclbjdkkdijbaaGreatAuZb
import Derived.Test.YtjclbjdkkdijbaaGreatAuZd
import Derived.Test.YtjclbjdkkdijbaaGreatRfZf
import Derived.Test.YtjclbjdkkdijbaaGreatSame
import Derived.Test.YtjclbjdkkdijbaaGreatLib2
set_option linter.unusedVariables false
set_option linter.unusedSimpArgs false
set_option linter.unusedSectionVars false
section
open Go.RowKit
namespace Go.Proofs.YtjclbjdkkdijbaaGreat
open L
namespace Aut
open Auto
attribute [-go_sem] sliced
def MarkP (a:Au) (now:List Bool) (i k:Nat) (nx:List Bool):Prop:=nx.length=a.next.length∧∀ t,t<a.next.length→(nx.getD t false=true↔(∃ u,u<i∧now.getD u false=true∧(t:Int)∈a.next.getD u [])∨∃ j,j<k∧(a.next.getD i []).getD j 0=(t:Int))
def HitP (a:Au) (now:List Bool) (i:Nat) (hit:Bool):Prop:=hit=true↔∃ u,u<i∧now.getD u false=true∧a.acc.getD u false=true
def FwP (a:Au) (s m:Nat) (now:List Bool):Prop:=now.length=a.next.length∧∀ t,t<a.next.length→(now.getD t false=true↔fwd a s m t)
theorem rep_false (n t:Nat):(List.replicate n false).getD t false=false:=by
 rw [List.getD_eq_getElem?_getD,List.getElem?_replicate]
 split <;> rfl
theorem set_getD_eq {l:List Bool} {i:Nat} {x:Bool} (h:i<l.length):(l.set i x).getD i false=x:=by
 rw [List.getD_eq_getElem?_getD,List.getElem?_set_self h];rfl
theorem set_getD_ne {l:List Bool} {i t:Nat} {x:Bool} (h:i≠t):(l.set i x).getD t false=l.getD t false:=by
 rw [List.getD_eq_getElem?_getD,List.getElem?_set_ne h,←List.getD_eq_getElem?_getD]
theorem MarkP.start (a:Au) (now:List Bool):MarkP a now 0 0 (List.replicate a.next.length false):=by
 refine ⟨by simp,fun t ht=>?_⟩
 rw [rep_false]
 constructor
 ·intro h;cases h
 ·rintro (⟨u,h,_⟩|⟨j,h,_⟩) <;> omega
theorem MarkP.skip {a:Au} {now nx:List Bool} {i:Nat} (h:MarkP a now i 0 nx) (hn:now.getD i false=false):MarkP a now (i+1) 0 nx:=by
 refine ⟨h.1,fun t ht=>(h.2 t ht).trans ?_⟩
 constructor
 ·rintro (⟨u,h1,h2⟩|⟨j,h1,_⟩)
  ·exact .inl ⟨u,by omega,h2⟩
  ·omega
 ·rintro (⟨u,h1,h2,h3⟩|⟨j,h1,_⟩)
  ·rcases Nat.lt_or_ge u i with h4|h4
   ·exact .inl ⟨u,h4,h2,h3⟩
   ·have:u=i:=by omega
    subst this
    rw [hn] at h2;cases h2
  ·omega
theorem MarkP.next {a:Au} {now nx:List Bool} {i:Nat} (h:MarkP a now i (a.next.getD i []).length nx) (hn:now.getD i false=true):MarkP a now (i+1) 0 nx:=by
 refine ⟨h.1,fun t ht=>(h.2 t ht).trans ?_⟩
 constructor
 ·rintro (⟨u,h1,h2⟩|⟨j,h1,h2⟩)
  ·exact .inl ⟨u,by omega,h2⟩
  ·exact .inl ⟨i,by omega,hn,by rw [←h2];exact gd_memA h1⟩
 ·rintro (⟨u,h1,h2,h3⟩|⟨j,h1,_⟩)
  ·rcases Nat.lt_or_ge u i with h4|h4
   ·exact .inl ⟨u,h4,h2,h3⟩
   ·have:u=i:=by omega
    subst this
    obtain ⟨j,hj,he⟩:=List.getElem_of_mem h3
    exact .inr ⟨j,hj,by rw [List.getD_eq_getElem?_getD,List.getElem?_eq_getElem hj];exact he⟩
  ·omega
theorem MarkP.set {a:Au} {now nx:List Bool} {i k x:Nat} (h:MarkP a now i k nx) (hx:(a.next.getD i []).getD k 0=(x:Int)) (hl:x<a.next.length):MarkP a now i (k+1) (nx.set x true):=by
 refine ⟨by rw [List.length_set];exact h.1,fun t ht=>?_⟩
 by_cases he:x=t
 ·subst he
  rw [set_getD_eq (by rw [h.1];exact hl)]
  exact ⟨fun _=>.inr ⟨k,by omega,hx⟩,fun _=>rfl⟩
 ·rw [set_getD_ne he]
  refine (h.2 t ht).trans ?_
  constructor
  ·rintro (h1|⟨j,h1,h2⟩)
   ·exact .inl h1
   ·exact .inr ⟨j,by omega,h2⟩
  ·rintro (h1|⟨j,h1,h2⟩)
   ·exact .inl h1
   ·rcases Nat.lt_or_ge j k with h4|h4
    ·exact .inr ⟨j,h4,h2⟩
    ·have:j=k:=by omega
     subst this
     rw [hx] at h2
     omega
theorem HitP.start (a:Au) (now:List Bool):HitP a now 0 false:=⟨fun h=>(by cases h),fun ⟨u,h,_⟩=>by omega⟩
theorem HitP.skip {a:Au} {now:List Bool} {i:Nat} {hit:Bool} (h:HitP a now i hit) (hn:now.getD i false=false):HitP a now (i+1) hit:=by
 refine Iff.trans h ⟨fun ⟨u,h1,h2⟩=>⟨u,by omega,h2⟩,fun ⟨u,h1,h2,h3⟩=>?_⟩
 rcases Nat.lt_or_ge u i with h4|h4
 ·exact ⟨u,h4,h2,h3⟩
 ·have:u=i:=by omega
  subst this
  rw [hn] at h2;cases h2
theorem HitP.next {a:Au} {now:List Bool} {i:Nat} {hit:Bool} (h:HitP a now i hit) (hn:now.getD i false=true):HitP a now (i+1) (hit || a.acc.getD i false):=by
 unfold HitP
 rw [Bool.or_eq_true]
 constructor
 ·rintro (h1|h1)
  ·obtain ⟨u,h2,h3⟩:=Iff.mp h h1
   exact ⟨u,by omega,h3⟩
  ·exact ⟨i,by omega,hn,h1⟩
 ·rintro ⟨u,h1,h2,h3⟩
  rcases Nat.lt_or_ge u i with h4|h4
  ·exact .inl (Iff.mpr h ⟨u,h4,h2,h3⟩)
  ·have:u=i:=by omega
   subst this
   exact .inr h3
theorem FwP.start {a:Au} {s:Nat} (hs:s<a.next.length):FwP a s 0 ((List.replicate a.next.length false).set s true):=by
 refine ⟨by simp,fun t ht=>?_⟩
 by_cases he:s=t
 ·subst he
  rw [set_getD_eq (by simpa using hs)]
  exact ⟨fun _=>rfl,fun _=>rfl⟩
 ·rw [set_getD_ne he,rep_false]
  exact ⟨fun h=>(by cases h),fun h=>absurd (show t=s from h).symm he⟩
theorem FwP.next {a:Au} {s m:Nat} {now nx:List Bool} (h:FwP a s m now) (hm:MarkP a now a.next.length 0 nx):FwP a s (m+1) nx:=by
 refine ⟨hm.1,fun t ht=>(hm.2 t ht).trans ?_⟩
 constructor
 ·rintro (⟨u,h1,h2,h3⟩|⟨j,h1,_⟩)
  ·exact ⟨u,h1,(h.2 u h1).1 h2,h3⟩
  ·omega
 ·rintro ⟨u,h1,h2,h3⟩
  exact .inl ⟨u,h1,(h.2 u h1).2 h2,h3⟩
theorem FwP.hit {a:Au} {s m:Nat} {now:List Bool} {hit:Bool} (ha:Ok a) (h:FwP a s m now) (hh:HitP a now a.next.length hit):hit=leftN a m s:=by
 have h1:hit=true↔leftN a m s=true:=by
  rw [left_iff ha]
  refine Iff.trans hh ⟨fun ⟨u,h2,h3,h4⟩=>⟨u,(h.2 u h2).1 h3,h4⟩,fun ⟨u,h2,h3⟩=>?_⟩
  have hu:u<a.next.length:=by
   rcases Nat.lt_or_ge u a.next.length with h4|h4
   ·exact h4
   ·rw [List.getD_eq_getElem?_getD,List.getElem?_eq_none (by have:=ha.acc;omega)] at h3
    cases h3
  exact ⟨u,hu,(h.2 u hu).2 h2,h3⟩
 cases hit <;> cases h5:leftN a m s <;> simp_all
section
variable {w w':World} {v:Value}
set_option maxRecDepth 100000 in
set_option maxHeartbeats 16000000 in
theorem LeftR_calls {a:Au} {s m:Nat} (h:AuV w a v) (hok:Ok a) (hs:s<a.next.length) (hm:m≤64):Calls Tryz.prog 26 #[v,.int .i64 s,.int .i64 m] w fun e w'=>∃ v',e=.returned v'∧SL w' 1 v' (m+1) (bools (resL a s (m+1)))∧Upd [] w w':=by
 obtain ⟨a1,c1,a2,c2,a3,c3,rfl,hF⟩:=h.shape
 have HF:=Lib.hid hF
 have HOK:=Lib.hid (And.intro hok hs)
 have hfew:((a.next.length:Nat):Int)≤256:=by have:=hok.few;omega
 have hsi:(s:Int)<a.next.length:=by omega
 have HW:=Lib.hid (And.intro hok.few hm)
 clear h hF hok
 go_enter Tryz.func26,Tryz.ntmps26
 go_upto_region 1 with fail
 have bA:=Blk.new w [.slice a1 a.cuts.length c1,.slice a2 a.next.length c2,.slice a3 a.acc.length c3] 39
 have uA:=(Upd.refl [] w).alloc (.cells #[.slice a1 a.cuts.length c1,.slice a2 a.next.length c2,.slice a3 a.acc.length c3] 39)
 change Blk (w.alloc (.cells #[.slice a1 a.cuts.length c1,.slice a2 a.next.length c2,.slice a3 a.acc.length c3] 39)) _ _ _ at bA
 generalize (w.alloc (.cells #[.slice a1 a.cuts.length c1,.slice a2 a.next.length c2,.slice a3 a.acc.length c3] 39))=w1 at *
 have k0:=bA.cell (i:=0) rfl
 have k1:=bA.cell (i:=1) rfl
 have k2:=bA.cell (i:=2) rfl
 have HU:=Lib.hid uA
 have HK:=Lib.hid (And.intro k0 (And.intro k1 k2))
 have HFW:=Lib.hid (HF.out.ext uA)
 clear bA uA
 generalize w.heap.size=pb at *
 go_upto_region 2 with fail
 go_upto_region 3 with (at_make;refine wpList_mk rfl _ _ _ rfl 4 1 1 _ Tryz.underlying29 infoBool rfl (by decide) .i64 .i64 a.next.length a.next.length a.next.length rfl rfl (by omega) (by omega) (by omega) (by omega) ?_)
 have hrep:(rows a.next.length fun _=>[Value.bool false])=bools (List.replicate a.next.length false):=by rw [rows_one];simp [bools]
 change Code.wp _ _ _ _ (w1.alloc (.cells (rows a.next.length fun _=>[Value.bool false]).toArray 4))
 rw [hrep]
 have bN:=Blk.new w1 (bools (List.replicate a.next.length false)) 4
 have uN:=(Upd.refl [] w1).alloc (.cells (bools (List.replicate a.next.length false)).toArray 4)
 generalize (w1.alloc (.cells (bools (List.replicate a.next.length false)).toArray 4))=w2 at *
 generalize hh:w1.heap.size=hb at bN ⊢
 have HN:=Lib.hid (And.intro bN (And.intro uN (Nat.le_of_eq hh)))
 have c8:w2.cell? ⟨hb,s,none⟩=some (.bool false):=bN.cell (by rw [bools,List.getElem?_map,List.getElem?_replicate,if_pos hs];rfl)
 have f8:∀ q,w2.frozen? ⟨hb,q,none⟩=false:=bN.free
 clear bN uN hh hrep
 go_upto_region 4 with fail
 have HB:=Lib.hid (show Blk (w2.setCell ⟨hb,s,none⟩ (.bool true)) hb (bools ((List.replicate a.next.length false).set s true)) 4 from by
  have:=HN.out.1.set s (.bool true)
  unfold bools at *
  rwa [←List.map_set] at this)
 have HUB:=Lib.hid (show Upd [] w1 (w2.setCell ⟨hb,s,none⟩ (.bool true)) from HN.out.2.1.fresh ((Upd.refl [hb] w2).set (p:=⟨hb,s,none⟩) (by simp) _) (fun b hb'=>.inr (by simp at hb';subst hb';exact HN.out.2.2)))
 have HFW0:=Lib.hid (FwP.start HOK.out.2)
 clear c8 f8
 generalize (w2.setCell ⟨hb,s,none⟩ (.bool true))=w3 at *
 go_wp2_with fail
 go_loopw [7,8,9] (fun lw nw kv wr=>∃ (k g:Nat) (lv:Value) (now:List Bool),lv=lw∧nw=.slice (some ⟨g,0,none⟩) a.next.length a.next.length∧kv=.int .i64 k∧k≤m+1∧Hid (Blk wr g (bools now) 4∧FwP a s k now∧OwW 4 1 k w1 (.slice none 0 0) lv (bools (resL a s k)) wr∧lv.ownBlock≠some g∧w1.heap.size≤g)) (fun _ _ kv _=>m+1 - (intOf kv).toNat)
 case atStart=>exact ⟨0,hb,_,_,rfl,rfl,rfl,Nat.zero_le _,Lib.hid ⟨HB.out,HFW0.out,(OwW.nil w1 4 1).quiet HUB.out,by simp [Value.ownBlock],HN.out.2.2⟩⟩
 case round=>
  obtain ⟨k,g,lv,now,rfl,rfl,rfl,hk,HI⟩:=hrel
  obtain ⟨wo,rfl⟩:∃ wo:World,wo=wr:=⟨_,rfl⟩
  by_cases hkm:k≤m
  ·have hki:(k:Int)≤m:=by omega
   have HU1:=Lib.hid HI.out.2.2.1.fresh
   have k1:=HU1.out.some HK.out.2.1 (by simp)
   go_upto_region 8 with fail
   go_upto_region 9 with (at_make;refine wpList_mk rfl _ _ _ rfl 4 1 1 _ Tryz.underlying29 infoBool rfl (by decide) .i64 .i64 a.next.length a.next.length a.next.length rfl rfl (by omega) (by omega) (by omega) (by omega) ?_)
   have hrep:(rows a.next.length fun _=>[Value.bool false])=bools (List.replicate a.next.length false):=by rw [rows_one];simp [bools]
   change Code.wp _ _ _ _ (wo.alloc (.cells (rows a.next.length fun _=>[Value.bool false]).toArray 4))
   rw [hrep]
   have bN:=Blk.new wo (bools (List.replicate a.next.length false)) 4
   have uN:=(Upd.refl [] wo).alloc (.cells (bools (List.replicate a.next.length false)).toArray 4)
   generalize (wo.alloc (.cells (bools (List.replicate a.next.length false)).toArray 4))=wn at *
   generalize hnb:wo.heap.size=nb at bN ⊢
   have HNB:=Lib.hid (And.intro (Nat.le_of_eq hnb) (And.intro bN uN))
   clear bN uN hrep hnb k1
   go_wp2_with fail
   go_loopw [10,12] (fun hv iv wz=>∃ (i:Nat) (hit:Bool) (nx:List Bool),hv=.bool hit∧iv=.int .i64 i∧i≤a.next.length∧Hid (Blk wz nb (bools nx) 4∧Upd [] wo wz∧MarkP a now i 0 nx∧HitP a now i hit)) (fun _ iv _=>a.next.length - (intOf iv).toNat)
   case atStart=>exact ⟨0,false,_,rfl,rfl,Nat.zero_le _,Lib.hid ⟨HNB.out.2.1,HNB.out.2.2,MarkP.start a now,HitP.start a now⟩⟩
   case round=>
    obtain ⟨i,hit,nx,rfl,rfl,hi,HJ⟩:=hrel
    have HU2:=Lib.hid (HU1.out.step HJ.out.2.1)
    by_cases hlt:i<a.next.length
    ·have hli:(i:Int)<a.next.length:=by omega
     have hnl:i<now.length:=by rw [HI.out.2.1.1];exact hlt
     have n8:=(HI.out.1.upd HJ.out.2.1 (by simp)).cell (bools_get (gd_some (d:=false) hnl))
     obtain ⟨x,hx⟩:∃ x,now.getD i false=x:=⟨_,rfl⟩
     rw [hx] at n8
     cases x
     ·have HX:=Lib.hid hx
      clear hx
      go_wp2_with fail
      exact ⟨⟨i+1,hit,nx,rfl,by go_num,by omega,Lib.hid ⟨HJ.out.1,HJ.out.2.1,HJ.out.2.2.1.skip HX.out,HJ.out.2.2.2.skip HX.out⟩⟩,by simp [intOf];omega⟩
     ·have HX:=Lib.hid hx
      clear hx
      have k0:=HU2.out.some HK.out.1 (by simp)
      have k2:=HU2.out.some HK.out.2.2 (by simp)
      obtain ⟨ga,oa,hae,acell⟩:=(HFW.out.ext HU2.out).acc (i:=i) (by rw [HOK.out.1.acc];exact hlt)
      have hla:(i:Int)<a.acc.length:=by rw [HOK.out.1.acc];exact hli
      have HHT:=Lib.hid (HJ.out.2.2.2.next HX.out)
      have HAC:=Lib.hid acell
      have HN8:=Lib.hid n8
      generalize a.acc.getD i false=ab at *
      subst hae
      have HRW:=Lib.hid (And.intro (HOK.out.1.rows _ (gd_memA (d:=[]) hlt)) ((HFW.out.ext HU2.out).row hlt))
      clear k0 k2 n8 acell
      have HCT:=Lib.hid (show a.cuts.length≤256 from cuts_len HOK.out.1)
      have k0:=HK.out.1
      have k2:=(HU2.out.some HK.out.2.2 (by simp))
      have acell:=HAC.out
      have n8:=HN8.out
      cases hit
      all_goals
       go_upto_region 14 with fail
       clear n8 acell k0 k2
       go_wp2_with fail
       go_loopw [13] (fun jv wy=>∃ (j:Nat) (nx:List Bool),jv=.int .i64 j∧j≤a.cuts.length∧Hid (Blk wy nb (bools nx) 4∧Upd [] wo wy∧MarkP a now i j nx)) (fun jv _=>a.cuts.length - (intOf jv).toNat)
       case atStart=>exact ⟨0,nx,rfl,Nat.zero_le _,Lib.hid ⟨HJ.out.1,HJ.out.2.1,HJ.out.2.2.1⟩⟩
       case round=>
        obtain ⟨j,nx,rfl,hj,HY⟩:=hrel
        have k0:=(HU1.out.step HY.out.2.1).some HK.out.1 (by simp)
        by_cases hjl:j<a.cuts.length
        ·have hji:(j:Int)<a.cuts.length:=by omega
         have hcl:=HCT.out
         have k1:=(HU1.out.step HY.out.2.1).some HK.out.2.1 (by simp)
         obtain ⟨gr,og,ar,cr,he,hc,hrow⟩:=(HFW.out.ext (HU1.out.step HY.out.2.1)).row hlt
         have HRR:=Lib.hid (HOK.out.1.rows _ (gd_memA (d:=[]) hlt))
         have HMS:=Lib.hid (fun (x:Nat)=>HY.out.2.2.set (x:=x))
         generalize a.next.getD i []=row at *
         have hjr:j<row.length:=by have:=HRR.out.1;omega
         obtain ⟨ra,rc,he2,q1,r1,hce⟩:=hrow.elems
         cases he2
         cases he
         obtain ⟨g2,off2,rfl,kk⟩:=hce (by omega)
         have hx2:=HRR.out.2 _ (gd_memA (d:=0) hjr)
         have hcx:=kk j _ (by rw [ints_get (gd_some (d:=0) hjr)])
         obtain ⟨x,hxe⟩:∃ x:Nat,row.getD j 0=(x:Int):=⟨(row.getD j 0).toNat,by omega⟩
         rw [hxe] at hcx hx2
         have HM2:=Lib.hid (HMS.out x hxe (by omega))
         have hxl:(x:Int)<a.next.length:=hx2.2
         have hnx:x<nx.length:=by have:=HY.out.2.2.1;omega
         have c8:=HY.out.1.cell (bools_get (gd_some (d:=false) hnx))
         have f8:∀ q,wr.frozen? ⟨nb,q,none⟩=false:=HY.out.1.free
         generalize nx.getD x false=old at *
         have hjri:(j:Int)<row.length:=by omega
         clear hrow hce kk hxe hx2 q1 r1
         go_wp2_with fail
         have uS:Upd [nb] wr (wr.setCell ⟨nb,x,none⟩ (.bool true)):=(Upd.refl [nb] wr).set (p:=⟨nb,x,none⟩) (by simp) _
         refine ⟨⟨j+1,nx.set x true,by go_num,by omega,Lib.hid ⟨?_,HY.out.2.1.fresh uS (fun b hb=>.inr (by simp at hb;subst hb;exact HNB.out.1)),HM2.out⟩⟩,by simp [intOf];omega⟩
         have:=HY.out.1.set x (.bool true)
         unfold bools at *
         rwa [←List.map_set] at this
        ·have hje:j=a.cuts.length:=by omega
         have hni:¬ ((j:Int)<a.cuts.length):=by omega
         go_wp2_with fail
         refine ⟨⟨i+1,_,nx,rfl,by go_num,by omega,Lib.hid ⟨HY.out.1,HY.out.2.1,MarkP.next (by rw [HRW.out.1.1,←hje];exact HY.out.2.2) HX.out,HHT.out⟩⟩,by simp [intOf];omega⟩
    ·have hie:i=a.next.length:=by omega
     subst hie
     have hln:¬ ((a.next.length:Int)<now.length):=by rw [HI.out.2.1.1];omega
     have hni:¬ ((a.next.length:Int)<a.next.length):=by omega
     have HLV:=Lib.hid (HI.out.2.2.1.quiet HJ.out.2.1)
     have HE:=Lib.hid (FwP.hit HOK.out.1 HI.out.2.1 HJ.out.2.2.2)
     have HK2:=Lib.hid (show k+1≤1000 by have:=HW.out.2;omega)
     go_wp2_with (refine wpList_push rfl rfl _ _ _ _ rfl rfl rfl 4 1 1 _ Tryz.underlying29 infoBool rfl (by decide) (by decide) (.bool hit) [.bool hit] rfl rfl rfl (by simp [Value.oneCell']) lv _ _ HLV.out.row rfl rfl (by have:=HK2.out;unfold maxLen;omega) (by have:=HK2.out;omega) ?_;intro g7 c7 w7 o7 u7 k7)
     have hlvn:∀ q,lv.ownBlock=some q→q≠nb:=fun q hq h=>by
      have:=HI.out.2.2.1.lt hq
      have:=HNB.out.1
      omega
     refine ⟨⟨k+1,nb,_,nx,rfl,rfl,by go_num,by omega,Lib.hid ⟨HJ.out.1.upd u7 (fun hb=>hlvn nb (by simpa using hb) rfl),HI.out.2.1.next HJ.out.2.2.1,?_,?_,?_⟩⟩,by simp [intOf];omega⟩
     ·rw [resL_succ,←HE.out]
      have:=HLV.out.push (by simpa using o7) u7 k7
      unfold bools at *
      rwa [List.map_append]
     ·intro h
      simp only [Value.ownBlock,Option.some.injEq] at h
      subst h
      rcases k7 with h1|h1
      ·exact hlvn _ h1 rfl
      ·have:=HJ.out.1.lt;omega
     ·have:=HU1.out.size
      have:=HNB.out.1
      omega
  ·have hke:k=m+1:=by omega
   subst hke
   have hni:¬ (((m+1:Nat):Int)≤m):=by omega
   go_wp2_with fail
   go_ret
   exact ⟨_,rfl,HI.out.2.2.1.sl,HU.out.step HI.out.2.2.1.fresh⟩
end
end Aut
end Go.Proofs.YtjclbjdkkdijbaaGreat
end
section
open Go.RowKit
namespace Go.Proofs.YtjclbjdkkdijbaaGreat
open L
namespace Aut
open Auto
attribute [-go_sem] sliced
theorem infoStr:(Tryz.prog.info? 9).map (fun i=>(i.zero,i.size,i.bytes))=some (some (.string ⟨#[]⟩),1,16):=by kernel_rfl
section
variable {w w':World}
set_option maxHeartbeats 1000000 in
theorem HasI_calls {v:Value} {c:List Int} (h:SL w 1 v c.length (ints c)) (n:Int):Calls Tryz.prog 63 #[v,.int .i64 n] w fun e w'=>e=.returned (.bool (decide (n∈c)))∧Upd [] w w':=by
 obtain ⟨a,cap,rfl,q1,r1,hc⟩:=h.elems
 have HC:=Lib.hid hc
 clear h hc
 go_enter Tryz.func63,Tryz.ntmps63
 go_wp2_with fail
 go_loop [5] (fun i=>∃ k:Nat,k≤c.length∧i=.int .i64 k∧n ∉ c.take k) (fun i=>c.length - (intOf i).toNat)
 case atStart=>exact ⟨0,Nat.zero_le _,rfl,by simp⟩
 case round=>
  obtain ⟨k,hk,rfl,hlo⟩:=hrel
  have HLO:=Lib.hid hlo
  clear hlo
  by_cases hlt:k<c.length
  ·obtain ⟨g,off,rfl,k1⟩:=HC.out (by omega)
   have e1:=k1 k _ (ints_get (List.getElem?_eq_getElem hlt))
   have HG:=Lib.hid (show c[k]?=some c[k] from List.getElem?_eq_getElem hlt)
   clear k1
   generalize c[k]=x at *
   by_cases hx:x=n
   ·subst hx
    go_wp2_with fail
    go_ret
    have:=List.mem_of_getElem? HG.out
    exact ⟨by rw [decide_eq_true this];rfl,Upd.refl _ _⟩
   ·have hb:(x == n)=false:=by simpa using hx
    have HX:=Lib.hid hx
    clear hx
    go_wp2_with fail
    refine ⟨⟨k+1,by omega,by go_num,?_⟩,by simp [intOf];omega⟩
    have h2:=HLO.out
    rw [List.take_add_one,HG.out]
    simp only [Option.toList_some,List.mem_append,List.mem_singleton] at h2 ⊢
    rintro (h3|h3)
    ·exact h2 h3
    ·exact HX.out h3.symm
  ·have hke:k=c.length:=by omega
   subst hke
   have hni:¬ ((c.length:Int)<c.length):=by omega
   rw [List.take_length] at HLO
   go_wp2_with fail
   go_ret
   exact ⟨by rw [decide_eq_false HLO.out];rfl,Upd.refl _ _⟩
end
def stI (q:Qu):List Int:=q.map fun e=>(e.1:Int)
def wdS (q:Qu):List Value:=q.map fun e=>.string (strB e.2)
theorem stI_len (q:Qu):(stI q).length=q.length:=by simp [stI]
theorem stI_mem {q:Qu} {t:Nat}:((t:Int)∈stI q)↔t∈q.map (·.1):=by
 unfold stI
 simp only [List.mem_map]
 constructor
 ·rintro ⟨e,h1,h2⟩;exact ⟨e,h1,by omega⟩
 ·rintro ⟨e,h1,h2⟩;exact ⟨e,h1,by omega⟩
structure Lr (w0:World) (wv iv:Value) (p q:Qu) (w:World):Prop where
 wo:OwW 9 1 p.length w0 (.slice none 0 0) wv (wdS p) w
 io:OwW 3 1 q.length w0 (.slice none 0 0) iv (ints (stI q)) w
section
variable {w w' w0:World} {wv iv:Value} {p q:Qu}
theorem Lr.quiet (h:Lr w0 wv iv p q w) (hu:Upd [] w w'):Lr w0 wv iv p q w':=⟨h.wo.quiet hu,h.io.quiet hu⟩
theorem Lr.u (h:Lr w0 wv iv p q w):Upd [] w0 w:=h.io.fresh
theorem OwW.new0 {v:Value} {e:TypeId} {k n:Nat} {cs:List Value} (h:OwW e k n w0 (.slice none 0 0) v cs w):∀ b∈v.ownBlock.toList,w0.heap.size≤b:=fun b hb=>by
 rcases h.old b (by simpa using hb) with h1|h1
 ·simp [Value.ownBlock] at h1
 ·exact h1
theorem Lr.pushI {t:Nat} {wd:List Int} {g cap:Nat} (h:Lr w0 wv iv p q w) (o:w'.ownsRow 0 3 1 (.slice (some ⟨g,0,none⟩) (q.length+1) cap) (q.length+1) (ints (stI q)++[.int .i64 t])) (hu:Upd iv.ownBlock.toList w w') (hk:iv.ownBlock=some g∨w.heap.size≤g) :
 Lr w0 wv (.slice (some ⟨g,0,none⟩) (q.length+1) cap) p (q++[(t,wd)]) w':=by
 refine ⟨h.wo.other hu (fun b hb hv=>own_ne h.wo.row h.io.row (by decide) hv (by simpa using hb)) h.io.new0,?_⟩
 have:=h.io.push (cs:=ints (stI q)) o hu hk
 have e:ints (stI (q++[(t,wd)]))=ints (stI q)++[.int .i64 t]:=by simp [ints,stI]
 rw [e,show (q++[(t,wd)]).length=q.length+1 by simp]
 exact this
theorem Lr.pushW {t:Nat} {wd:List Int} {g cap:Nat} (h:Lr w0 wv iv p q w) (o:w'.ownsRow 0 9 1 (.slice (some ⟨g,0,none⟩) (p.length+1) cap) (p.length+1) (wdS p++[.string (strB wd)])) (hu:Upd wv.ownBlock.toList w w') (hk:wv.ownBlock=some g∨w.heap.size≤g) :
 Lr w0 (.slice (some ⟨g,0,none⟩) (p.length+1) cap) iv (p++[(t,wd)]) q w':=by
 refine ⟨?_,h.io.other hu (fun b hb hv=>own_ne h.io.row h.wo.row (by decide) hv (by simpa using hb)) h.wo.new0⟩
 have:=h.wo.push o hu hk
 have e:wdS (p++[(t,wd)])=wdS p++[.string (strB wd)]:=by simp [wdS]
 rw [e,show (p++[(t,wd)]).length=p.length+1 by simp]
 exact this
theorem Lr.cellI (h:Lr w0 wv iv p q w) {i:Nat} {e:Nat × List Int} (hi:q[i]?=some e):∃ g cap,iv=.slice (some ⟨g,0,none⟩) q.length cap∧w.cell? ⟨g,i,none⟩=some (.int .i64 e.1):=by
 obtain ⟨a,cap,rfl,_,_,hc⟩:=h.io.form
 have hl:=(List.getElem?_eq_some_iff.1 hi).1
 obtain ⟨g,rfl,hc2⟩:=hc (by omega) (by decide)
 exact ⟨g,cap,rfl,hc2 _ _ (by simp [ints,stI,hi])⟩
theorem Lr.cellW (h:Lr w0 wv iv p q w) {i:Nat} {e:Nat × List Int} (hi:p[i]?=some e):∃ g cap,wv=.slice (some ⟨g,0,none⟩) p.length cap∧w.cell? ⟨g,i,none⟩=some (.string (strB e.2)):=by
 obtain ⟨a,cap,rfl,_,_,hc⟩:=h.wo.form
 have hl:=(List.getElem?_eq_some_iff.1 hi).1
 obtain ⟨g,rfl,hc2⟩:=hc (by omega) (by decide)
 exact ⟨g,cap,rfl,hc2 _ _ (by simp [wdS,hi])⟩
end
section
variable {w w':World} {v:Value}
set_option maxRecDepth 100000 in
set_option maxHeartbeats 16000000 in
theorem LeastR_calls {a:Au} (h:AuV w a v) (hok:Ok a) (h0:vErr a=0):Calls Tryz.prog 28 #[v] w fun e w'=>e=.returned (.tuple #[.string (lstS a),.bool (lstB a)])∧Upd [] w w':=by
 obtain ⟨a1,c1,a2,c2,a3,c3,rfl,hF⟩:=h.shape
 have HF:=Lib.hid hF
 have HOK:=Lib.hid (And.intro hok h0)
 clear h hF hok h0
 go_enter Tryz.func28,Tryz.ntmps28
 go_upto_region 1 with fail
 have bA:=Blk.new w [.slice a1 a.cuts.length c1,.slice a2 a.next.length c2,.slice a3 a.acc.length c3] 39
 have uA:=(Upd.refl [] w).alloc (.cells #[.slice a1 a.cuts.length c1,.slice a2 a.next.length c2,.slice a3 a.acc.length c3] 39)
 change Blk (w.alloc (.cells #[.slice a1 a.cuts.length c1,.slice a2 a.next.length c2,.slice a3 a.acc.length c3] 39)) _ _ _ at bA
 generalize (w.alloc (.cells #[.slice a1 a.cuts.length c1,.slice a2 a.next.length c2,.slice a3 a.acc.length c3] 39))=w1 at *
 have HU:=Lib.hid uA
 have HK:=Lib.hid (And.intro (bA.cell (i:=0) rfl) (And.intro (bA.cell (i:=1) rfl) (bA.cell (i:=2) rfl)))
 have HFW:=Lib.hid (HF.out.ext uA)
 clear bA uA
 generalize w.heap.size=pb at *
 go_upto_region 2 with fail
 change Code.wp _ _ _ _ (w1.alloc (.cells #[.string ⟨#[]⟩] 9))
 have bW:=Blk.new w1 [.string ⟨#[]⟩] 9
 have uW:=(Upd.refl [] w1).alloc (.cells #[.string ⟨#[]⟩] 9)
 change Blk (w1.alloc (.cells #[.string ⟨#[]⟩] 9)) _ _ _ at bW
 generalize (w1.alloc (.cells #[.string ⟨#[]⟩] 9))=w2 at *
 generalize hwb:w1.heap.size=wb at bW ⊢
 go_upto_region 3 with fail
 change Code.wp _ _ _ _ (w2.alloc (.cells #[.int .i64 0] 3))
 have bI:=Blk.new w2 [.int .i64 0] 3
 have uI:=(Upd.refl [] w2).alloc (.cells #[.int .i64 0] 3)
 change Blk (w2.alloc (.cells #[.int .i64 0] 3)) _ _ _ at bI
 generalize (w2.alloc (.cells #[.int .i64 0] 3))=w3 at *
 generalize hib:w2.heap.size=ib at bI ⊢
 have HL0:=Lib.hid (show Lr w1 (.slice (some ⟨wb,0,none⟩) 1 1) (.slice (some ⟨ib,0,none⟩) 1 1) (bfsQ a 0) (bfsQ a 0) w3 from by
  have hz:=uW.size
  refine ⟨⟨owns_blk (bW.upd uI (by simp)) rfl (by unfold maxLen;decide),by simpa [Value.ownBlock] using uW.step uI,fun g hg=>?_⟩,⟨owns_blk bI rfl (by unfold maxLen;decide),by simpa [Value.ownBlock] using uW.step uI,fun g hg=>?_⟩⟩
  ·simp only [Value.ownBlock,Option.some.injEq] at hg
   exact .inr (by omega)
  ·simp only [Value.ownBlock,Option.some.injEq] at hg
   exact .inr (by omega))
 clear bW uW bI uI hwb hib
 go_wp2_with fail
 go_loopw [4,5,6] (fun s4 s5 s6 wr=>∃ (i:Nat),s6=.int .i64 i∧i≤256∧Hid (Lr w1 s4 s5 (bfsQ a i) (bfsQ a i) wr∧∀ j e',j<i→(bfsQ a i)[j]?=some e'→a.acc.getD e'.1 false=false)) (fun _ _ s6 _=>256 - (intOf s6).toNat)
 case atStart=>exact ⟨0,rfl,by omega,Lib.hid ⟨HL0.out,fun j e' hj=>by omega⟩⟩
 case round=>
  obtain ⟨i,rfl,hi,HI⟩:=hrel
  have hql:=bf_len HOK.out.1 i
  have k2:=HI.out.1.u.some HK.out.2.2 (by simp)
  by_cases hlt:i<(bfsQ a i).length
  ·have hge:=List.getElem?_eq_getElem hlt
   generalize (bfsQ a i)[i]=e at hge
   obtain ⟨ig,ic,rfl,cq0⟩:=HI.out.1.cellI hge
   obtain ⟨wg,wc,rfl,cq1⟩:=HI.out.1.cellW hge
   have hst:=(bf_run HOK.out.1 i e (List.mem_of_getElem? hge)).1
   have hwl:=bf_wlen a i e (List.mem_of_getElem? hge)
   obtain ⟨st,wd⟩:=e
   simp only at hst cq0 cq1 hwl
   have HWL:=Lib.hid (show (strB wd).size≤256 by simp [strB,ByteArray.size];omega)
   clear hwl
   have hi256:i<256:=by omega
   have hli:(i:Int)<(bfsQ a i).length:=by omega
   obtain ⟨g3,off3,he3,hacc⟩:=(HFW.out.ext HI.out.1.u).acc (i:=st) (by rw [HOK.out.1.acc];exact hst)
   cases he3
   have hsta:(st:Int)<a.acc.length:=by have:=HOK.out.1.acc;omega
   obtain ⟨wo,rfl⟩:∃ wo:World,wo=wr:=⟨_,rfl⟩
   by_cases hac:a.acc.getD st false=true
   ·have HL:=Lib.hid (show lstS a=strB wd∧lstB a=true by
     have:=leastA_at hi256 hge hac HI.out.2
     unfold lstS lstB
     rw [if_neg (by simpa using HOK.out.2),if_neg (by simpa using HOK.out.2),this]
     exact ⟨rfl,rfl⟩)
    rw [hac] at hacc
    clear hac
    go_upto_region 6 with fail
    refine wp_region_qx (by kernel_rfl) (by kernel_rfl) ?_
    repeat (go_big_quiet_step ((fail)))
    refine wpQuiet_nil ?_
    intro x
    have cq1':=x.upd.some cq1 (by simp)
    generalize strB wd=sw at *
    go_wp2_with fail
    go_ret2
    rw [HL.out.1,HL.out.2]
    exact ⟨rfl,HU.out.step (HI.out.1.u.step x.upd)⟩
   ·rw [Bool.not_eq_true] at hac
    have HAC:=Lib.hid hac
    rw [hac] at hacc
    clear hac
    go_upto_region 6 with fail
    refine wp_region_qx (by kernel_rfl) (by kernel_rfl) ?_
    repeat (go_big_quiet_step ((fail)))
    refine wpQuiet_nil ?_
    intro x
    have HROW:=Lib.hid (And.intro (HOK.out.1.rows _ (gd_memA (d:=[]) hst)) (And.intro (HFW.out.row hst) (show ∀ k,rowA a st k=((a.next.getD st []).getD k 0).toNat from fun k=>rfl)))
    have HSTEP:=Lib.hid (bfsQ_step hge)
    have HGE:=Lib.hid hge
    have HCL:=Lib.hid (cuts_len HOK.out.1)
    have HX:=Lib.hid x.upd
    have HI1:=Lib.hid (HI.out.1.quiet x.upd)
    generalize x.val=w5 at *
    generalize a.next.getD st []=row at *
    have hrl:a.cuts.length≤256:=HCL.out
    have HST:=Lib.hid (And.intro hst cq0)
    clear hge hacc cq0 cq1 k2
    clear x
    go_wp2_with fail
    go_loopw [4,5,7] (fun s4 s5 s7 wr2=>∃ (k:Nat),s7=.int .i64 k∧k≤a.cuts.length∧Hid (Lr w1 s4 s5 (scanQ (rowA a st) (fun k=>a.cuts.getD k 0) wd k (bfsQ a i)) (scanQ (rowA a st) (fun k=>a.cuts.getD k 0) wd k (bfsQ a i)) wr2)) (fun _ _ s7 _=>a.cuts.length - (intOf s7).toNat)
    case atStart=>exact ⟨0,rfl,Nat.zero_le _,Lib.hid HI1.out⟩
    case round=>
     obtain ⟨k,rfl,hk,HK2⟩:=hrel
     have k0:=HK2.out.u.some HK.out.1 (by simp)
     by_cases hkl:k<a.cuts.length
     ·have hkli:(k:Int)<a.cuts.length:=by omega
      have k1:=HK2.out.u.some HK.out.2.1 (by simp)
      have htn:=(HROW.out.1.2 _ (gd_memA (d:=0) (show k<row.length by rw [HROW.out.1.1];exact hkl)))
      have hkr:k<row.length:=by rw [HROW.out.1.1];exact hkl
      obtain ⟨gr,og,ar,cr,he,hc,hrow⟩:=HROW.out.2.1
      cases he
      have hcw:=HK2.out.u.some hc (by simp)
      obtain ⟨ra,rc,he,_,_,hce⟩:=hrow.elems
      cases he
      obtain ⟨g5,off5,rfl,kk⟩:=hce (by omega)
      have hcx:=HK2.out.u.some (kk k _ (by rw [ints_get (gd_some (d:=0) hkr)])) (by simp)
      have hrk:=HROW.out.2.2 k
      obtain ⟨tn,htx⟩:∃ tn:Nat,row.getD k 0=tn:=⟨(row.getD k 0).toNat,by omega⟩
      rw [htx] at hcx htn hrk
      simp only [Int.toNat_natCast] at hrk
      have htn':tn<a.next.length:=by omega
      have HSC:=Lib.hid (show scanQ (rowA a st) (fun k=>a.cuts.getD k 0) wd (k+1) (bfsQ a i)=addQ (scanQ (rowA a st) (fun k=>a.cuts.getD k 0) wd k (bfsQ a i)) tn (wd++[a.cuts.getD k 0]) by show addQ _ (rowA a st k) _=_;rw [hrk])
      have hql5:(scanQ (rowA a st) (fun k=>a.cuts.getD k 0) wd k (bfsQ a i)).length≤512:=by have:=scanQ_len (rowA a st) (fun k=>a.cuts.getD k 0) wd (bfsQ a i) k;omega
      have HAT:=Lib.hid (show (scanQ (rowA a st) (fun k=>a.cuts.getD k 0) wd k (bfsQ a i))[i]?=some (st,wd) from by
       obtain ⟨r,hr⟩:=scanQ_pre (rowA a st) (fun k=>a.cuts.getD k 0) wd k (bfsQ a i)
       rw [←hr,List.getElem?_append_left hlt]
       exact HGE.out)
      clear hrk hce kk htx
      generalize scanQ (rowA a st) (fun k=>a.cuts.getD k 0) wd k (bfsQ a i)=q at *
      obtain ⟨ig,ic,rfl,cq0⟩:=HK2.out.cellI HAT.out
      obtain ⟨wg,wc,rfl,cq1⟩:=HK2.out.cellW HAT.out
      have hiq:(i:Int)<q.length:=by have:=(List.getElem?_eq_some_iff.1 HAT.out).1;omega
      have hstn:(st:Int)<a.next.length:=by have:=HST.out.1;omega
      have hkri:(k:Int)<row.length:=by omega
      clear hc hrow
      obtain ⟨wo,rfl⟩:∃ wo:World,wo=wr:=⟨_,rfl⟩
      go_upto_region 11 with fail
      refine wp_region_qx (by kernel_rfl) (by kernel_rfl) ?_
      repeat (go_big_quiet_step ((fail)))
      refine wpQuiet_nil ?_
      intro x
      have HK3:=Lib.hid (HK2.out.quiet x.upd)
      have HXU:=Lib.hid x.upd
      generalize x.val=w6 at *
      have HAS:=Lib.hid (HasI_calls (v:=.slice (some ⟨ig,0,none⟩) q.length ic) (w:=w6) (c:=stI q) (by rw [stI_len];exact HK3.out.io.sl) (tn:Int))
      clear cq0 cq1 hcw hcx k0 k1
      clear x
      by_cases hm:tn∈q.map (·.1)
      ·have HA:=Lib.hid (show addQ q tn (wd++[a.cuts.getD k 0])=q by unfold addQ;rw [if_pos hm])
       rw [decide_eq_true (stI_mem.2 hm)] at HAS
       clear hm
       go_wp2_with ((with_reducible refine HAS.out.mono ?_);rintro e w7 ⟨rfl,u7⟩)
       refine ⟨⟨k+1,by go_num,by omega,Lib.hid ?_⟩,by simp [intOf];omega⟩
       rw [HSC.out,HA.out]
       exact HK3.out.quiet u7
      ·have HA:=Lib.hid (show addQ q tn (wd++[a.cuts.getD k 0])=q++[(tn,wd++[a.cuts.getD k 0])] by unfold addQ;rw [if_neg hm])
       rw [decide_eq_false (fun h=>hm (stI_mem.1 h))] at HAS
       clear hm
       go_upto_region 13 with ((with_reducible refine HAS.out.mono ?_);rintro e w7 ⟨rfl,u7⟩)
       have HK4:=Lib.hid (HK3.out.quiet u7)
       clear u7
       go_upto_region 14 with (refine wpList_push rfl rfl _ _ _ _ rfl rfl rfl 3 1 8 _ Tryz.underlying22 infoInt rfl (by decide) (by decide) (.int .i64 tn) [.int .i64 tn] rfl rfl rfl (by simp [Value.oneCell']) (.slice (some ⟨ig,0,none⟩) q.length ic) _ _ HK4.out.io.row rfl rfl (by unfold maxLen;omega) (by omega) ?_;intro g8 c8 w8 o8 u8 k8)
       have HK5:=Lib.hid (HK4.out.pushI (t:=tn) (wd:=wd++[a.cuts.getD k 0]) (by simpa using o8) u8 k8)
       clear o8 u8 k8
       obtain ⟨g6,off6,he6,hcc⟩:=(HFW.out.ext HK5.out.u).cuts hkl
       cases he6
       obtain ⟨wg2,wc2,he7,cq1⟩:=HK5.out.cellW HAT.out
       cases he7
       have t0:=HK5.out.u.some HK.out.1 (by simp)
       have hcin:a.cuts.getD k 0∈a.cuts:=gd_memA hkl
       have hc0:=HOK.out.1.nonneg _ hcin
       have hc1:=HOK.out.1.top _ hcin
       generalize a.cuts.getD k 0=ck at *
       clear hcin
       refine wp_region_ord 15 12 [0,1,2,3,4,5,6,7,8,9,10,16] [4,6,9] [0,1,2,3,4,5,6,7,8,9,10,11,12,13,14,15,16] (fun w'=>∃ x:Ext w8,w'=x.val) (by kernel_rfl) (by kernel_rfl) (Ext.of (by iterate 25 (first|exact Upd.refl _ _|assumption|refine Upd.alloc ?_ _|refine Upd.drew ?_|refine Upd.drewN ?_ _|refine Upd.dl ?_|refine Upd.step ?_ (Ext.upd _)|refine Upd.nil ?_|skip))) ?_
       repeat (first|(refine wpOrd_load rfl rfl rfl rfl (fun K hK=>?_);go_big_quiet_step (fail);refine wpQuiet_nil ?_;refine hK _ ?_;clear hK K)|(refine wpOrd_free rfl rfl rfl (fun K hK=>?_);go_big_quiet_step (fail);refine wpQuiet_nil ?_;refine hK _ ?_;clear hK K))
       refine wpOrd_fix rfl rfl (fun K hK=>?_)
       go_wp2_with fail
       have HB7:=Lib.hid (show Blk ((w8.alloc (.cells #[.int .u8 ck] 5)).drew) w8.heap.size [.int .u8 ck] 5∧Upd [] w8 ((w8.alloc (.cells #[.int .u8 ck] 5)).drew) from ⟨Blk.new w8 [.int .u8 ck] 5,(by iterate 25 (first|exact Upd.refl _ _|assumption|refine Upd.alloc ?_ _|refine Upd.drew ?_|refine Upd.drewN ?_ _|refine Upd.dl ?_|refine Upd.step ?_ (Ext.upd _)|refine Upd.nil ?_|skip))⟩)
       generalize ((w8.alloc (.cells #[.int .u8 ck] 5)).drew)=w9 at *
       generalize w8.heap.size=tb at HB7 ⊢
       have HR7:=Lib.hid (show w9.ownsRow 0 5 1 (.slice (some ⟨tb,0,none⟩) 1 1) [UInt8.ofNat ck.toNat].length (bcs [UInt8.ofNat ck.toNat]) from by
        have e:bcs [UInt8.ofNat ck.toNat]=[.int .u8 ck]:=by
         simp only [bcs,List.map_cons,List.map_nil,UInt8.toNat_ofNat']
         congr 2
         omega
        rw [e]
        exact OwW.of_blk (pad:=[]) HB7.out.1 rfl rfl (by decide))
       refine ⟨by first|exact (fun _=>Ext.of HB7.out.2)|exact Ext.of HB7.out.2,?_⟩
       repeat (first|(refine wpOrd_load rfl rfl rfl rfl (fun K hK=>?_);go_big_quiet_step (fail);refine wpQuiet_nil ?_;refine hK _ ?_;clear hK K)|(refine wpOrd_free rfl rfl rfl (fun K hK=>?_);go_big_quiet_step (fail);refine wpQuiet_nil ?_;refine hK _ ?_;clear hK K))
       refine wpOrd_fix rfl rfl (fun K hK=>?_)
       refine wpList_bstr Tryz.underlying92 Tryz.underlying5 Tryz.underlying9 _ rfl rfl (.slice (some ⟨tb,0,none⟩) 1 1) [UInt8.ofNat ck.toNat] rfl HR7.out ?_
       simp only [Act.put,List.setIfInBounds_toArray,List.set_cons_zero,List.set_cons_succ]
       generalize hbw:(ByteArray.mk [UInt8.ofNat ck.toNat].toArray)=bw
       have hcat:¬ ((strB wd).size+bw.size > 9223372036854775807):=by
        have h1:=HWL.out
        have h2:bw.size=1:=by rw [←hbw];rfl
        omega
       have HBW:=Lib.hid (show strB wd++bw=strB (wd++[ck]) by rw [←hbw];exact strB_snoc wd ck)
       clear hbw
       go_wp2_with fail
       refine ⟨by first|exact (fun _=>Ext.of HB7.out.2)|exact Ext.of HB7.out.2,?_⟩
       repeat (first|(refine wpOrd_load rfl rfl rfl rfl (fun K hK=>?_);go_big_quiet_step (fail);refine wpQuiet_nil ?_;refine hK _ ?_;clear hK K)|(refine wpOrd_free rfl rfl rfl (fun K hK=>?_);go_big_quiet_step (fail);refine wpQuiet_nil ?_;refine hK _ ?_;clear hK K))
       refine wpOrd_fix rfl rfl (fun K hK=>?_)
       go_wp2_with fail
       refine ⟨by first|exact (fun _=>Ext.of HB7.out.2)|exact Ext.of HB7.out.2,?_⟩
       repeat (first|(refine wpOrd_load rfl rfl rfl rfl (fun K hK=>?_);go_big_quiet_step (fail);refine wpQuiet_nil ?_;refine hK _ ?_;clear hK K)|(refine wpOrd_free rfl rfl rfl (fun K hK=>?_);go_big_quiet_step (fail);refine wpQuiet_nil ?_;refine hK _ ?_;clear hK K))
       refine wpOrd_fix rfl rfl (fun K hK=>?_)
       go_wp2_with fail
       have HB8:=Lib.hid (show Blk (w9.alloc (.cells #[.string (strB wd++bw)] 9)) w9.heap.size [.string (strB wd++bw)] 9∧Upd [] w9 (w9.alloc (.cells #[.string (strB wd++bw)] 9)) from ⟨Blk.new w9 _ _,(Upd.refl [] w9).alloc _⟩)
       generalize (w9.alloc (.cells #[.string (strB wd++bw)] 9))=wA at *
       generalize w9.heap.size=tb8 at HB8 ⊢
       have HU8:=Lib.hid (HB7.out.2.step HB8.out.2)
       have HK6:=Lib.hid (HK5.out.quiet HU8.out)
       refine ⟨by first|exact (fun _=>Ext.of HU8.out)|exact Ext.of HU8.out,?_⟩
       repeat (first|(refine wpOrd_load rfl rfl rfl rfl (fun K hK=>?_);go_big_quiet_step (fail);refine wpQuiet_nil ?_;refine hK _ ?_;clear hK K)|(refine wpOrd_free rfl rfl rfl (fun K hK=>?_);go_big_quiet_step (fail);refine wpQuiet_nil ?_;refine hK _ ?_;clear hK K))
       refine wpOrd_fix rfl rfl (fun K hK=>?_)
       refine wpList_app rfl _ _ _ rfl 9 1 16 _ Tryz.underlying62 infoStr rfl (by decide) (.slice (some ⟨wg,0,none⟩) q.length wc) _ _ rfl HK6.out.wo.row tb8 1 1 [.string (strB wd++bw)] 9 rfl rfl HB8.out.1 (by simp [Value.oneCell']) (by omega) (by unfold maxLen;omega) (by omega) ?_
       intro gB cB wB oB uB kB
       simp only [Act.put,List.setIfInBounds_toArray,List.set_cons_zero,List.set_cons_succ]
       have H9:=Lib.hid (And.intro oB (And.intro uB kB))
       clear oB uB kB
       go_wp2_with fail
       refine ⟨fun hC=>absurd hC (by decide),?_⟩
       repeat (first|(refine wpOrd_load rfl rfl rfl rfl (fun K hK=>?_);go_big_quiet_step (fail);refine wpQuiet_nil ?_;refine hK _ ?_;clear hK K)|(refine wpOrd_free rfl rfl rfl (fun K hK=>?_);go_big_quiet_step (fail);refine wpQuiet_nil ?_;refine hK _ ?_;clear hK K))
       refine wpOrd_nil ?_
       go_wp2_with fail
       refine ⟨⟨k+1,by go_num,by omega,Lib.hid ?_⟩,by simp [intOf];omega⟩
       rw [HSC.out,HA.out]
       have ho:=H9.out.1
       rw [HBW.out] at ho
       exact HK6.out.pushW (t:=tn) (wd:=wd++[ck]) (by simpa using ho) H9.out.2.1 (H9.out.2.2.imp id (fun h=>Nat.le_of_eq h.symm))
     ·have hke:k=a.cuts.length:=by omega
      have hni:¬ ((k:Int)<a.cuts.length):=by omega
      subst hke
      go_wp2_with fail
      refine ⟨⟨i+1,by go_num,by omega,Lib.hid ?_⟩,by simp [intOf];omega⟩
      rw [HSTEP.out]
      refine ⟨HK2.out,fun j e' hj he'=>?_⟩
      obtain ⟨r,hr⟩:=scanQ_pre (rowA a st) (fun k=>a.cuts.getD k 0) wd a.cuts.length (bfsQ a i)
      have hjl:j<(bfsQ a i).length:=by omega
      rw [←hr,List.getElem?_append_left hjl] at he'
      rcases Nat.lt_or_ge j i with h|h
      ·exact HI.out.2 j e' h he'
      ·have:j=i:=by omega
       subst this
       rw [HGE.out] at he'
       cases he'
       exact HAC.out
  ·have hni:¬ ((i:Int)<(bfsQ a i).length):=by omega
   have HL:=Lib.hid (show lstS a=⟨#[]⟩∧lstB a=false by
    have:=leastA_none hi (by omega) HI.out.2
    unfold lstS lstB
    rw [if_neg (by simpa using HOK.out.2),if_neg (by simpa using HOK.out.2),this]
    exact ⟨rfl,rfl⟩)
   obtain ⟨qa,qc,rfl,_⟩:=id HI.out.1.io.form
   go_wp2_with fail
   go_ret2
   rw [HL.out.1,HL.out.2]
   exact ⟨rfl,HU.out.step HI.out.1.u⟩
end
end Aut
end Go.Proofs.YtjclbjdkkdijbaaGreat
end
section
open Go.RowKit
namespace Go.Proofs.YtjclbjdkkdijbaaGreat
open L
namespace Aut
open R01
theorem SameBools_calls {w:World} {v1 v2:Value} {xs ys:List Bool} (h1:SL w 1 v1 xs.length (bools xs)) (h2:SL w 1 v2 ys.length (bools ys)) :
 Calls Tryz.prog 25 #[v1,v2] w fun e w'=>e=.returned (.bool (decide (xs=ys)))∧Upd [] w w':=by
 obtain ⟨a1,cap1,rfl,q1,r1,hc1⟩:=SL.form h1
 obtain ⟨a2,cap2,rfl,q2,r2,hc2⟩:=SL.form h2
 have HC1:=Lib.hid hc1
 have HC2:=Lib.hid hc2
 clear h1 h2 hc1 hc2
 by_cases hl:xs.length=ys.length
 ·have HL:=Lib.hid hl
  have hb:((xs.length:Int) != (ys.length:Int))=false:=by simp [hl]
  have hle:xs.length≤ys.length:=by omega
  have hle2:ys.length≤xs.length:=by omega
  clear hl
  go_enter Tryz.func25,Tryz.ntmps25
  go_wp2_with fail
  go_loopw [5] (fun i wr=>∃ k:Nat,k≤xs.length∧i=.int .i64 k∧xs.take k=ys.take k∧Upd [] w wr) (fun i _=>xs.length - (intOf i).toNat)
  case atStart=>exact ⟨0,Nat.zero_le _,rfl,rfl,Upd.refl _ _⟩
  case round=>
   obtain ⟨k,hk,rfl,ht,hu⟩:=hrel
   have HT:=Lib.hid ht
   clear ht
   by_cases hlt:k<xs.length
   ·obtain ⟨g1,o1,rfl,c1⟩:=HC1.out (by omega)
    obtain ⟨g2,o2,rfl,c2⟩:=HC2.out (by omega)
    have e1:=hu.some (c1 k _ (bools_get (List.getElem?_eq_getElem hlt))) (by simp)
    have e2:=hu.some (c2 k _ (bools_get (List.getElem?_eq_getElem (show k<ys.length by omega)))) (by simp)
    by_cases hxy:xs[k]=ys[k]
    ·have HB:Hid (xs.take (k+1)=ys.take (k+1)):=by
      unfold Hid
      rw [List.take_add_one,List.take_add_one,HT.out,List.getElem?_eq_getElem hlt,List.getElem?_eq_getElem (show k<ys.length by omega),hxy]
     generalize xs[k]=x at *
     generalize ys[k]'(by omega)=y at *
     subst hxy
     clear c1 c2
     cases x with
     | false=>
      go_wp2_with fail
      refine wp_region_qx (by kernel_rfl) (by kernel_rfl) ?_
      repeat (go_big_quiet_step ((fail)))
      refine wpQuiet_nil ?_
      intro x
      go_wp2_with fail
      exact ⟨⟨k+1,by omega,by go_num,HB.out,hu.step x.upd⟩,by simp [intOf];omega⟩
     | true=>
      go_wp2_with fail
      refine wp_region_qx (by kernel_rfl) (by kernel_rfl) ?_
      repeat (go_big_quiet_step ((fail)))
      refine wpQuiet_nil ?_
      intro x
      go_wp2_with fail
      exact ⟨⟨k+1,by omega,by go_num,HB.out,hu.step x.upd⟩,by simp [intOf];omega⟩
    ·have HB:Hid (xs≠ys):=fun h=>hxy (by subst h;rfl)
     generalize xs[k]=x at *
     generalize ys[k]'(by omega)=y at *
     clear c1 c2
     cases x <;> cases y
     ·exact absurd rfl hxy
     ·clear hxy
      go_wp2_with fail
      refine wp_region_qx (by kernel_rfl) (by kernel_rfl) ?_
      repeat (go_big_quiet_step ((fail)))
      refine wpQuiet_nil ?_
      intro x
      go_wp2_with fail
      go_ret
      exact ⟨ret_bool (by simp [HB.out]),hu.step x.upd⟩
     ·clear hxy
      go_wp2_with fail
      refine wp_region_qx (by kernel_rfl) (by kernel_rfl) ?_
      repeat (go_big_quiet_step ((fail)))
      refine wpQuiet_nil ?_
      intro x
      go_wp2_with fail
      go_ret
      exact ⟨ret_bool (by simp [HB.out]),hu.step x.upd⟩
     ·exact absurd rfl hxy
   ·have HB:Hid (xs=ys):=by
     have:=HT.out
     rw [List.take_of_length_le (by omega),List.take_of_length_le (by omega)] at this
     exact this
    go_wp2_with fail
    go_ret
    exact ⟨ret_bool (by simp [HB.out]),hu⟩
 ·have hb:((xs.length:Int) != (ys.length:Int))=true:=by simp;omega
  go_enter Tryz.func25,Tryz.ntmps25
  go_wp2_with fail
  go_ret
  exact ⟨ret_bool (by have:xs≠ys:=fun h=>hl (by rw [h])
                      simp [this]),Upd.refl _ _⟩
end Aut
end Go.Proofs.YtjclbjdkkdijbaaGreat
end
