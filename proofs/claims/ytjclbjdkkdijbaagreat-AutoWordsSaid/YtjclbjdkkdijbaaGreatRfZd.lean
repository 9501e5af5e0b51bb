/- Walks through the reference model of package auto: place. Conditions: none. Walks through the reference model of package auto: cuts. Conditions: none. The state of the reference's Of in memory: the automaton that is being made, the list of states, the row. Conditions: none. Walks through the reference model of package auto: Of. Conditions: none. -/
import Derived.Test.YtjclbjdkkdijbaaGreatRfZa
import Derived.Test.YtjclbjdkkdijbaaGreatAutoP
import Derived.Test.YtjclbjdkkdijbaaGreatAuZc
import Derived.Test.YtjclbjdkkdijbaaGreatAuZa
import Derived.Test.YtjclbjdkkdijbaaGreatAuO
import Derived.Test.YtjclbjdkkdijbaaGreatRfZc
import Derived.Test.YtjclbjdkkdijbaaGreatAuF
import Derived.Test.YtjclbjdkkdijbaaGreatAuZq
set_option linter.unusedVariables false
set_option linter.unusedSimpArgs false
set_option linter.unusedSectionVars false
section
open Go.RowKit
namespace Go.Proofs.YtjclbjdkkdijbaaGreat
open L
namespace Rgx
open Rx
def plcR (l:List Rx) (r:Rx):Int:=if r∈l then (Auto.place l r:Nat) else -1
theorem plcR_hit {l:List Rx} {r:Rx} {m:Nat} (h:l[m]?=some r) (h1:r ∉ l.take m):plcR l r=m:=by
 have hm:r∈l:=List.mem_of_getElem? h
 obtain ⟨hl,he⟩:=List.getElem?_eq_some_iff.1 h
 rw [plcR,if_pos hm]
 have h2:Auto.place l r=m:=by
  unfold Auto.place
  rw [List.findIdx_eq hl]
  refine ⟨by simp [he],fun j hj=>?_⟩
  simp only [decide_eq_false_iff_not]
  intro e
  exact h1 (List.mem_take_iff_getElem.2 ⟨j,by omega,e⟩)
 rw [h2]
theorem rtake_not {ks:List Rx} {m:Nat} {s r:Rx} (h:ks[m]?=some s) (h1:r ∉ ks.take m) (h2:s≠r):r ∉ ks.take (m+1):=by
 rw [List.take_add_one,h]
 intro hx
 rcases List.mem_append.1 hx with hx|hx
 ·exact h1 hx
 ·simp at hx;exact h2 hx.symm
section
variable {w w':World} {v:Value}
set_option maxRecDepth 100000 in
set_option maxHeartbeats 8000000 in
theorem place_calls {r:Rx} {l:List Rx} {vl vr:Value} (hl:RxL [] w l vl) (hr:RxV [] w r vr) (hn:l.length≤1000000) :
 Calls Tryz.prog 56 #[vl,vr] w fun e w'=>e=.returned (.int .i64 (plcR l r))∧Upd [] w w':=by
 obtain ⟨a,c,rfl,q1,q2,_⟩:=id hl.form
 have HL:=Lib.hid hl
 have HCM:=Lib.hid (fun (w':World) (u:Upd [] w w') (s:Rx) (vs:Value) (h:RxV [] w' s vs)=>rcmp_calls s r h (hr.ext u))
 obtain ⟨vk,rfl,_,_⟩:=box_load hr
 clear hl hr
 go_enter Tryz.func56,Tryz.ntmps56
 go_upto_region 1 with fail
 have b1:=Blk.new w (rxC r.kind r.lo r.hi vk) 25
 have u1:=(Upd.refl [] w).alloc (.cells (rxC r.kind r.lo r.hi vk).toArray 25)
 change Code.wp _ _ _ _ (w.alloc (.cells (rxC r.kind r.lo r.hi vk).toArray 25))
 generalize (w.alloc (.cells (rxC r.kind r.lo r.hi vk).toArray 25))=w1 at *
 generalize w.heap.size=pb at *
 have k0:=b1.cell (i:=0) rfl
 have k1:=b1.cell (i:=1) rfl
 have k2:=b1.cell (i:=2) rfl
 have k3:=b1.cell (i:=3) rfl
 have HU:=Lib.hid u1
 clear b1 u1
 go_wp2_with fail
 go_loopw [5] (fun i wr=>∃ m:Nat,i=.int .i64 m∧m≤l.length∧Hid (r ∉ l.take m)∧∃ x:Ext w1,wr=x.val) (fun i _=>l.length - (intOf i).toNat)
 case atStart=>exact ⟨0,rfl,Nat.zero_le _,Lib.hid (by simp),Ext.of (by iterate 25 (first|exact Upd.refl _ _|assumption|refine Upd.alloc ?_ _|refine Upd.drew ?_|refine Upd.drewN ?_ _|refine Upd.dl ?_|refine Upd.step ?_ (Ext.upd _)|refine Upd.nil ?_|skip))⟩
 case round=>
  obtain ⟨m,rfl,hm,HE,x,rfl⟩:=hrel
  have HXU:=Lib.hid (HU.out.step x.upd)
  have HW0:=Lib.hid x.upd
  have m0:=x.upd.some k0 (by simp)
  have m1:=x.upd.some k1 (by simp)
  have m2:=x.upd.some k2 (by simp)
  have m3:=x.upd.some k3 (by simp)
  clear k0 k1 k2 k3
  generalize x.val=wq at *
  by_cases hlt:m<l.length
  ·have hli:(m:Int)<l.length:=by omega
   have hr:=List.getElem?_eq_getElem hlt
   generalize l[m]=s at *
   obtain ⟨g,off,a3,c3,rfl,hRF,e0,e1,e2,e3⟩:=(HL.out.ext HXU.out).kid hr
   have HCC:=Lib.hid (fun (w':World) (u:Upd [] wq w')=>HCM.out w' (HXU.out.step u) s _ (hRF.ext u).val)
   have HR:=Lib.hid hr
   clear hRF hr
   by_cases hz:s=r
   ·have HV:=Lib.hid (plcR_hit (hz ▸ HR.out) HE.out)
    rw [cmpR_zero.2 hz] at HCC
    clear hz
    go_upto_region 4 with fail
    refine wp_region_qx (by kernel_rfl) (by kernel_rfl) ?_
    repeat (go_big_quiet_step (((go_at_call 95;exact qx (HCC.out _ (Ext.upd _))))))
    refine wpQuiet_nil ?_
    intro x
    go_wp2_with fail
    go_ret
    rw [HV.out]
    exact ⟨rfl,HXU.out.step x.upd⟩
   ·have HV:=Lib.hid (rtake_not HR.out HE.out hz)
    have hz0:cmpR s r≠0:=fun h=>hz (cmpR_zero.1 h)
    clear hz
    generalize cmpR s r=z at *
    go_upto_region 4 with fail
    refine wp_region_qx (by kernel_rfl) (by kernel_rfl) ?_
    repeat (go_big_quiet_step (((go_at_call 95;exact qx (HCC.out _ (Ext.upd _))))))
    refine wpQuiet_nil ?_
    intro x
    go_wp2_with fail
    exact ⟨⟨m+1,by go_num,by omega,Lib.hid HV.out,Ext.of (HW0.out.step x.upd)⟩,by simp [intOf];omega⟩
  ·have hme:m=l.length:=by omega
   subst hme
   rw [List.take_length] at HE
   go_wp2_with fail
   go_ret
   rw [plcR,if_neg HE.out]
   exact ⟨rfl,HXU.out⟩
end
end Rgx
end Go.Proofs.YtjclbjdkkdijbaaGreat
end
section
open Go.RowKit
namespace Go.Proofs.YtjclbjdkkdijbaaGreat
open L
namespace Rgx
open Rx Auto Aut
def CutF (l:List Int) (v0:Value) (w:World) (v:Value) (w':World):Prop:=SL w' 1 v l.length (ints l)∧Upd [] w w'∧∀ g,v.ownBlock=some g→v0.ownBlock=some g∨w.heap.size≤g
theorem putAllC_len:∀ (r l:List Int),(putAllC l r).length≤l.length+r.length
 | [],l=>by simp [putAllC]
 | x::r,l=>by
  have h1:=putAllC_len r (putC l x)
  have h2:=putC_length l x
  have e:putAllC l (x::r)=putAllC (putC l x) r:=rfl
  rw [e,List.length_cons]
  omega
theorem putAllC_app (l r s:List Int):putAllC l (r++s)=putAllC (putAllC l r) s:=by unfold putAllC;rw [List.foldl_append]
section
variable {w w':World} {v:Value}
set_option maxRecDepth 100000 in
set_option maxHeartbeats 8000000 in
theorem cuts_calls:∀ (r:Rx) {w:World} {v u:Value} {xs:List Int},SL w 1 v xs.length (ints xs)→RxV [] w r u→xs.length+2*nodes r≤1000000 →
 Calls Tryz.prog 54 #[u,v] w fun e w'=>∃ v',e=.returned v'∧CutF (putAllC xs (cutB r)) v w v' w':=by
 intro r0
 induction r0 using Rx.ind with
 | h k0 lo0 hi0 ks0 ih=>
  intro w v u xs hv hr hn
  generalize hR:nd k0 lo0 hi0 ks0=r at *
  have hks:ks0=r.kids:=by rw [←hR];rfl
  subst hks
  have hnn:nodes r=1+nodesL r.kids:=by rw [←Rx.eta r,nodes];rfl
  have HI:=Lib.hid (fun (s:Rx) (hs:s∈r.kids) (w:World) (v u:Value) (xs:List Int)=>@ih s hs w v u xs)
  have HC:=Lib.hid (cutB_eq r)
  have HN:=Lib.hid (And.intro hn hnn)
  clear hR ih hn hnn
  obtain ⟨a1,c1,rfl,hF,hsc,hL⟩:=hr.shape
  obtain ⟨a',c',he,q1,q2,_⟩:=id hL.form
  cases he
  have HL:=Lib.hid hL
  have HV:=Lib.hid hv
  have hlo:0≤r.lo∧r.lo≤255:=hsc.2.1
  have hhi:0≤r.hi∧r.hi≤255:=hsc.2.2
  clear hr hF hsc hL hv
  go_enter Tryz.func54,Tryz.ntmps54
  go_upto_region 1 with fail
  have bA:=Blk.new w (rxC r.kind r.lo r.hi (.slice a1 r.kids.length c1)) 25
  have uA:=(Upd.refl [] w).alloc (.cells (rxC r.kind r.lo r.hi (.slice a1 r.kids.length c1)).toArray 25)
  change Code.wp _ _ _ _ (w.alloc (.cells (rxC r.kind r.lo r.hi (.slice a1 r.kids.length c1)).toArray 25))
  generalize (w.alloc (.cells (rxC r.kind r.lo r.hi (.slice a1 r.kids.length c1)).toArray 25))=w1 at *
  have k0:=bA.cell (i:=0) rfl
  have k1:=bA.cell (i:=1) rfl
  have k2:=bA.cell (i:=2) rfl
  have k3:=bA.cell (i:=3) rfl
  have HU:=Lib.hid (And.intro uA bA)
  clear bA uA
  generalize w.heap.size=pb at *
  go_upto_if 8 with fail
  go_cut [1] (fun a w'=>CutF (putAllC xs (if r.kind=2 then r.lo::(if r.hi<255 then [r.hi+1] else []) else [])) v w a w'∧Upd [] w1 w')
  case first=>
   have hlen:xs.length+2≤1000000:=by have:=HN.out;omega
   have HP:=Lib.hid (Put_callsF (w:=w1) (HV.out.upd HU.out.1 (by simp)) (by omega) r.lo)
   by_cases hk:r.kind=2
   ·have hkb:(r.kind == 2)=true:=by simpa using hk
    have hpl:=putC_length xs r.lo
    by_cases hh:r.hi<255
    ·have HH:=Lib.hid (show putAllC xs (if r.kind=2 then r.lo::(if r.hi<255 then [r.hi+1] else []) else [])=putC (putC xs r.lo) (r.hi+1) by rw [if_pos hk,if_pos hh];rfl)
     clear hk
     go_upto_region 3 with ((with_reducible refine HP.out.mono ?_);rintro e w2 ⟨v2,rfl,s2,u2,p2⟩)
     have HP2:=Lib.hid (Put_callsF s2 (by omega) (r.hi+1))
     have HU2:=Lib.hid u2
     have HP3:=Lib.hid p2
     have k2:=u2.some k2 (by simp)
     clear s2 u2 k0 k1 k3
     go_wp2_with ((with_reducible refine HP2.out.mono ?_);rintro e w3 ⟨v3,rfl,s3,u3,p3⟩)
     go_meet
     case rel=>
      rw [HH.out]
      exact ⟨⟨s3,(HU.out.1.step HU2.out).step u3,fun g hg=>by
       have h1:=HU.out.1.size
       have h2:=HU2.out.size
       rcases p3 g hg with h|h
       ·rcases HP3.out g h with h|h
        ·exact .inl h
        ·right;omega
       ·right;omega⟩,HU2.out.step u3⟩
    ·have HH:=Lib.hid (show putAllC xs (if r.kind=2 then r.lo::(if r.hi<255 then [r.hi+1] else []) else [])=putC xs r.lo by rw [if_pos hk,if_neg hh];rfl)
     clear hk
     go_upto_region 3 with ((with_reducible refine HP.out.mono ?_);rintro e w2 ⟨v2,rfl,s2,u2,p2⟩)
     have HS2:=Lib.hid (And.intro s2 (And.intro u2 p2))
     have k2:=u2.some k2 (by simp)
     clear s2 u2 k0 k1 k3
     go_wp2_with fail
     go_meet
     case rel=>
      rw [HH.out]
      exact ⟨⟨HS2.out.1,HU.out.1.step HS2.out.2.1,fun g hg=>by
       have h1:=HU.out.1.size
       rcases HS2.out.2.2 g hg with h|h
       ·exact .inl h
       ·right;omega⟩,HS2.out.2.1⟩
   ·have HH:=Lib.hid (show putAllC xs (if r.kind=2 then r.lo::(if r.hi<255 then [r.hi+1] else []) else [])=xs by rw [if_neg hk];rfl)
    go_wp2_with fail
    go_meet
    case rel=>
     rw [HH.out]
     exact ⟨⟨HV.out.upd HU.out.1 (by simp),HU.out.1,fun g hg=>.inl hg⟩,Upd.refl _ _⟩
  case rest=>
  have HY:=Lib.hid (show (putAllC xs (if r.kind=2 then r.lo::(if r.hi<255 then [r.hi+1] else []) else [])).length≤xs.length+2 from by
   have h:=putAllC_len (if r.kind=2 then r.lo::(if r.hi<255 then [r.hi+1] else []) else []) xs
   have h2:(if r.kind=2 then r.lo::(if r.hi<255 then [r.hi+1] else []) else []).length≤2:=by split <;> (try split) <;> simp
   omega)
  have HCC:=Lib.hid (show putAllC xs (cutB r)=putAllC (putAllC xs (if r.kind=2 then r.lo::(if r.hi<255 then [r.hi+1] else []) else [])) (cutL r.kids) by rw [HC.out,putAllC_app])
  generalize putAllC xs (if r.kind=2 then r.lo::(if r.hi<255 then [r.hi+1] else []) else [])=ys at *
  obtain ⟨hO,hB⟩:=hcut
  have k0:=hB.some k0 (by simp)
  have k3:=hB.some k3 (by simp)
  have HO:=Lib.hid (And.intro hO hB)
  clear hO hB k1 k2 HC
  go_wp2_with fail
  go_loopw [1,5] (fun av iv wr=>∃ (m:Nat) (acc:Value),iv=.int .i64 m∧acc=av∧m≤r.kids.length∧CutF (putAllC ys (cutL (r.kids.take m))) v w acc wr∧Upd [] w1 wr) (fun _ iv _=>r.kids.length - (intOf iv).toNat)
  case atStart=>exact ⟨0,_,rfl,rfl,Nat.zero_le _,by simpa [cutL,putAllC] using HO.out.1,HO.out.2⟩
  case round=>
   obtain ⟨m,acc,rfl,rfl,hm,hO,hu⟩:=hrel
   have k3:=(show Upd [] w1 wr from hu).some (HU.out.2.cell (i:=3) rfl) (by simp)
   have HO:=Lib.hid (And.intro hO hu)
   clear hO hu
   by_cases hlt:m<r.kids.length
   ·have hli:(m:Int)<r.kids.length:=by omega
    have hr:=List.getElem?_eq_getElem hlt
    have hmem:=List.mem_of_getElem? hr
    have hct:=cutL_take hr
    have hn1:=nodesL_mem hmem
    have hn2:=nodesL_take (m+1) r.kids
    have hn3:=cutL_len (r.kids.take m)
    have hn4:nodesL (r.kids.take (m+1))=nodesL (r.kids.take m)+nodes r.kids[m]:=by rw [List.take_add_one,hr,nodesL_app];simp [nodesL]
    generalize r.kids[m]=s at *
    have HLEN:=Lib.hid (show (putAllC ys (cutL (r.kids.take m))).length+2*nodes s≤1000000 from by
     have:=HN.out
     have:=HY.out
     have:=putAllC_len (cutL (r.kids.take m)) ys
     omega)
    obtain ⟨g,off,a2,c2,rfl,hRF,e0,e1,e2,e3⟩:=(HL.out.ext (HU.out.1.step HO.out.2)).kid hr
    have HS:=Lib.hid (HI.out s hmem _ _ _ _ HO.out.1.1 hRF.val HLEN.out)
    have HT:=Lib.hid (show putAllC ys (cutL (r.kids.take (m+1)))=putAllC (putAllC ys (cutL (r.kids.take m))) (cutB s) by rw [hct,putAllC_app])
    clear hr hmem hct hn1 hn2 hn3 hn4 hRF
    go_wp2_with ((with_reducible refine HS.out.mono ?_);rintro e w3 ⟨v3,rfl,s3,u3,p3⟩)
    exact ⟨⟨m+1,_,by go_num,rfl,by omega,by
     rw [HT.out]
     refine ⟨s3,HO.out.1.2.1.step u3,fun g hg=>?_⟩
     rcases p3 g hg with h|h
     ·exact HO.out.1.2.2 g h
     ·have:=HO.out.1.2.1.size;right;omega,HO.out.2.step u3⟩,by simp [intOf];omega⟩
   ·have hme:m=r.kids.length:=by omega
    subst hme
    rw [List.take_length] at HO
    go_wp2_with fail
    go_ret
    refine ⟨_,rfl,?_⟩
    rw [HCC.out]
    exact HO.out.1
end
end Rgx
end Go.Proofs.YtjclbjdkkdijbaaGreat
end
section
open Go.RowKit
namespace Go.Proofs.YtjclbjdkkdijbaaGreat
open L
namespace Rgx
open Rx Auto Aut
section
variable {T:TypeId} {w0 w w' w1:World} {ab g cap:Nat} {cv nv av lv nx y:Value} {cs row:List Int} {ns:List (List Int)} {bs:List Bool} {F U:List Nat} {S:List Rx} {d:Rx}
theorem mk_other (h:Mk T w0 ab cv nv av cs ns bs F w) (hu:Upd U w w') (hU:∀ b∈U,w0.heap.size≤b∧b≠ab∧cv.ownBlock≠some b∧nv.ownBlock≠some b∧av.ownBlock≠some b∧b ∉ F):Mk T w0 ab cv nv av cs ns bs F w':=
 ⟨h.bx.upd hu (fun hm=>(hU _ hm).2.1 rfl),h.cu.upd hu (fun b hb=>(hU b hb).2.2.1),h.cn,h.tb.upd hu (fun b hb=>⟨(hU b hb).2.2.2.2.2,(hU b hb).2.2.2.1⟩),ownsRow_updL h.ac hu (fun b hb=>(hU b hb).2.2.2.2.1),h.an,h.nn,h.u.fresh hu (fun b hb=>.inr (hU b hb).1),h.fn,fun q hq=>Nat.lt_of_lt_of_le (h.cl q hq) hu.size⟩
def busy (ab:Nat) (nv av nx:Value):List Nat:=ab::(nv.ownBlock.toList++(av.ownBlock.toList++nx.ownBlock.toList))
theorem mem_busy {b:Nat}:b∈busy ab nv av nx↔b=ab∨nv.ownBlock=some b∨av.ownBlock=some b∨nx.ownBlock=some b:=by simp [busy]
structure OfS (w0:World) (ab:Nat) (cv nv av lv nx:Value) (cs:List Int) (ns:List (List Int)) (bs:List Bool) (F:List Nat) (S:List Rx) (row:List Int) (w:World):Prop where
 m:Mk 39 w0 ab cv nv av cs ns bs F w
 l:OwR 25 (busy ab nv av nx) w lv S
 lF:∀ q,lv.ownBlock=some q→w0.heap.size≤q∧q ∉ F∧cv.ownBlock≠some q
 rw:w.ownsRow 0 3 1 nx row.length (ints row)
 nF:∀ q,nx.ownBlock=some q→w0.heap.size≤q∧q≠ab∧nv.ownBlock≠some q∧av.ownBlock≠some q∧q ∉ F∧cv.ownBlock≠some q
theorem OfS.quiet (h:OfS w0 ab cv nv av lv nx cs ns bs F S row w) (hu:Upd [] w w'):OfS w0 ab cv nv av lv nx cs ns bs F S row w':=
 ⟨h.m.quiet hu,h.l.ext hu,h.lF,ownsRow_updL h.rw hu (by simp),h.nF⟩
theorem OfS.lap (h:OfS w0 ab cv nv av lv nx cs ns bs F S row w):∀ q,lv.ownBlock=some q→q ∉ busy ab nv av nx:=fun q hq hm=>by
 obtain ⟨css,_,_,c,_⟩:=h.l
 exact c q hm hq
theorem OfS.blt (h:OfS w0 ab cv nv av lv nx cs ns bs F S row w):∀ b∈busy ab nv av nx,b<w.heap.size:=fun b hb=>by
 rcases mem_busy.1 hb with rfl|hb|hb|hb
 ·exact h.m.bx.lt
 ·exact (h.m.nv_new _ hb).2
 ·exact (h.m.ac.lt _ hb).2
 ·exact (h.rw.lt _ hb).2
theorem OfS.pushL (h:OfS w0 ab cv nv av lv nx cs ns bs F S row w) {lv':Value} (hl:OwR 25 (busy ab nv av nx) w' lv' (S++[d])) (hu:Upd lv.ownBlock.toList w w') (hk:∀ q,lv'.ownBlock=some q→lv.ownBlock=some q∨w.heap.size≤q) :
 OfS w0 ab cv nv av lv' nx cs ns bs F (S++[d]) row w':=by
 have hb:∀ b∈lv.ownBlock.toList,w0.heap.size≤b∧b≠ab∧cv.ownBlock≠some b∧nv.ownBlock≠some b∧av.ownBlock≠some b∧b ∉ F:=fun b hb=>by
  have hq:lv.ownBlock=some b:=by simpa using hb
  have h1:=h.lap b hq
  rw [mem_busy] at h1
  obtain ⟨a1,a2,a3⟩:=h.lF b hq
  exact ⟨a1,fun e=>h1 (.inl e),a3,fun e=>h1 (.inr (.inl e)),fun e=>h1 (.inr (.inr (.inl e))),a2⟩
 refine ⟨mk_other h.m hu hb,hl,fun q hq=>?_,ownsRow_updL h.rw hu (fun b hb2 hn=>?_),h.nF⟩
 ·rcases hk q hq with h1|h1
  ·exact h.lF q h1
  ·have hz:=h.m.u.size
   refine ⟨by omega,fun hf=>?_,fun hc=>?_⟩
   ·have:=h.m.tb.lt _ hf;omega
   ·have:=h.m.cl _ hc;omega
 ·exact h.lap b (by simpa using hb2) (mem_busy.2 (.inr (.inr (.inr hn))))
theorem OfS.pushN {p:Int} (h:OfS w0 ab cv nv av lv nx cs ns bs F S row w) (o:w'.ownsRow 0 3 1 (.slice (some ⟨g,0,none⟩) (row.length+1) cap) (row.length+1) (ints row++[.int .i64 p])) (hu:Upd nx.ownBlock.toList w w') (hk:nx.ownBlock=some g∨w.heap.size≤g) :
 OfS w0 ab cv nv av lv (.slice (some ⟨g,0,none⟩) (row.length+1) cap) cs ns bs F S (row++[p]) w':=by
 have hb:∀ b∈nx.ownBlock.toList,w0.heap.size≤b∧b≠ab∧cv.ownBlock≠some b∧nv.ownBlock≠some b∧av.ownBlock≠some b∧b ∉ F:=fun b hb=>by
  obtain ⟨a1,a2,a3,a4,a5,a6⟩:=h.nF b (by simpa using hb)
  exact ⟨a1,a2,a6,a3,a4,a5⟩
 refine ⟨mk_other h.m hu hb,?_,h.lF,by rw [show (row++[p]).length=row.length+1 by simp,show ints (row++[p])=ints row++[.int .i64 p] by simp [ints]];exact o,fun q hq=>?_⟩
 ·have F1:∀ b∈g::busy ab nv av nx,b∈busy ab nv av nx∨w.heap.size≤b:=fun b hb2=>by
   rcases List.mem_cons.1 hb2 with rfl|hb2
   ·rcases hk with hk|hk
    ·exact .inl (mem_busy.2 (.inr (.inr (.inr hk))))
    ·exact .inr hk
   ·exact .inl hb2
  have F2:∀ b∈nx.ownBlock.toList,b∈g::busy ab nv av nx:=fun b hb2=>by
   exact List.mem_cons_of_mem _ (mem_busy.2 (.inr (.inr (.inr (by simpa using hb2)))))
  have F3:∀ b∈busy ab nv av (.slice (some ⟨g,0,none⟩) (row.length+1) cap),b∈g::busy ab nv av nx:=fun b hb2=>by
   rcases mem_busy.1 hb2 with h1|h1|h1|h1
   ·exact (List.mem_cons_of_mem _ (mem_busy.2 (.inl h1)))
   ·exact (List.mem_cons_of_mem _ (mem_busy.2 (.inr (.inl h1))))
   ·exact (List.mem_cons_of_mem _ (mem_busy.2 (.inr (.inr (.inl h1)))))
   ·simp [Value.ownBlock] at h1;subst h1;exact (by simp)
  exact owr_sub ((owr_sub h.l F1).upd hu F2) (fun b hb=>.inl (F3 b hb))
 ·simp only [Value.ownBlock,Option.some.injEq] at hq
  subst hq
  rcases hk with hk|hk
  ·exact h.nF _ hk
  ·have hz:=h.m.u.size
   refine ⟨by omega,?_,fun e=>?_,fun e=>?_,fun e=>?_,fun e=>?_⟩
   ·have:=h.m.bx.lt;omega
   ·have:=(h.m.nv_new _ e).2;omega
   ·have:=(h.m.ac.lt _ e).2;omega
   ·have:=h.m.tb.lt _ e;omega
   ·have:=h.m.cl _ e;omega
theorem OfS.row_ {vals:List Value} (h:OfS w0 ab cv nv av lv nx cs ns bs F S row w) (h1:OwnV w0 22 1 nv ns.length vals w) (h2:∀ (i:Nat) (c:List Int),ns[i]?=some c→∃ y,vals[i]?=some y∧SL w 1 y c.length (ints c)∧∀ b,y.ownBlock=some b→b∈F)
 (o:w1.ownsRow 0 22 1 (.slice (some ⟨g,0,none⟩) (ns.length+1) cap) (ns.length+1) (vals++[nx])) (hu:Upd nv.ownBlock.toList w w1) (hk:nv.ownBlock=some g∨w.heap.size≤g) :
 OfS w0 ab cv (.slice (some ⟨g,0,none⟩) (ns.length+1) cap) av lv (.slice none 0 0) cs (ns++[row]) bs (F++nx.ownBlock.toList) S [] (w1.setCell ⟨ab,1,none⟩ (.slice (some ⟨g,0,none⟩) (ns.length+1) cap)):=by
 have us:Upd [ab] w1 (w1.setCell ⟨ab,1,none⟩ (.slice (some ⟨g,0,none⟩) (ns.length+1) cap)):=(Upd.refl [ab] w1).set (p:=⟨ab,1,none⟩) (by simp) _
 have hM:=h.m.row h1 h2 (SL.of_owns h.rw) (fun b hb=>by
  obtain ⟨a1,a2,a3,a4,a5,a6⟩:=h.nF b hb
  exact ⟨a1,a2,a3,a4,(h.rw.lt _ hb).2⟩) o hu hk
 refine ⟨hM,?_,fun q hq=>?_,World.ownsRow_nil _ _ _ _,by simp [Value.ownBlock]⟩
 ·have F1:∀ b∈g::busy ab nv av nx,b∈busy ab nv av nx∨w.heap.size≤b:=fun b hb2=>by
   rcases List.mem_cons.1 hb2 with rfl|hb2
   ·rcases hk with hk|hk
    ·exact .inl (mem_busy.2 (.inr (.inl hk)))
    ·exact .inr hk
   ·exact .inl hb2
  have F2:∀ b∈nv.ownBlock.toList,b∈g::busy ab nv av nx:=fun b hb2=>by
   exact List.mem_cons_of_mem _ (mem_busy.2 (.inr (.inl (by simpa using hb2))))
  have F3:∀ b∈[ab],b∈g::busy ab nv av nx:=fun b hb2=>by
   simp at hb2;subst hb2;exact List.mem_cons_of_mem _ (mem_busy.2 (.inl rfl))
  have F4:∀ b∈busy ab (.slice (some ⟨g,0,none⟩) (ns.length+1) cap) av (.slice none 0 0),b∈g::busy ab nv av nx:=fun b hb2=>by
   rcases mem_busy.1 hb2 with h1|h1|h1|h1
   ·exact (List.mem_cons_of_mem _ (mem_busy.2 (.inl h1)))
   ·simp [Value.ownBlock] at h1;subst h1;exact (by simp)
   ·exact (List.mem_cons_of_mem _ (mem_busy.2 (.inr (.inr (.inl h1)))))
   ·simp [Value.ownBlock] at h1
  exact owr_sub (((owr_sub h.l F1).upd hu F2).upd us F3) (fun b hb=>.inl (F4 b hb))
 ·obtain ⟨a1,a2,a3⟩:=h.lF q hq
  refine ⟨a1,fun hm=>?_,a3⟩
  rcases List.mem_append.1 hm with hm|hm
  ·exact a2 hm
  ·exact h.lap q hq (mem_busy.2 (.inr (.inr (.inr (by simpa using hm)))))
theorem OfS.flag_ {x:Bool} (h:OfS w0 ab cv nv av lv nx cs ns bs F S row w)
 (o:w1.ownsRow 0 4 1 (.slice (some ⟨g,0,none⟩) (bs.length+1) cap) (bs.length+1) (bools bs++[.bool x])) (hu:Upd av.ownBlock.toList w w1) (hk:av.ownBlock=some g∨w.heap.size≤g) :
 OfS w0 ab cv nv (.slice (some ⟨g,0,none⟩) (bs.length+1) cap) lv nx cs ns (bs++[x]) F S row (w1.setCell ⟨ab,2,none⟩ (.slice (some ⟨g,0,none⟩) (bs.length+1) cap)):=by
 have us:Upd [ab] w1 (w1.setCell ⟨ab,2,none⟩ (.slice (some ⟨g,0,none⟩) (bs.length+1) cap)):=(Upd.refl [ab] w1).set (p:=⟨ab,2,none⟩) (by simp) _
 have hM:=h.m.flag o hu hk
 refine ⟨hM,?_,h.lF,ownsRow_updL (ownsRow_updL h.rw hu (fun b hb hv=>?_)) us (fun b hb hv=>?_),fun q hq=>?_⟩
 ·have F1:∀ b∈g::busy ab nv av nx,b∈busy ab nv av nx∨w.heap.size≤b:=fun b hb2=>by
   rcases List.mem_cons.1 hb2 with rfl|hb2
   ·rcases hk with hk|hk
    ·exact .inl (mem_busy.2 (.inr (.inr (.inl hk))))
    ·exact .inr hk
   ·exact .inl hb2
  have F2:∀ b∈av.ownBlock.toList,b∈g::busy ab nv av nx:=fun b hb2=>by
   exact List.mem_cons_of_mem _ (mem_busy.2 (.inr (.inr (.inl (by simpa using hb2)))))
  have F3:∀ b∈[ab],b∈g::busy ab nv av nx:=fun b hb2=>by
   simp at hb2;subst hb2;exact List.mem_cons_of_mem _ (mem_busy.2 (.inl rfl))
  have F4:∀ b∈busy ab nv (.slice (some ⟨g,0,none⟩) (bs.length+1) cap) nx,b∈g::busy ab nv av nx:=fun b hb2=>by
   rcases mem_busy.1 hb2 with h1|h1|h1|h1
   ·exact (List.mem_cons_of_mem _ (mem_busy.2 (.inl h1)))
   ·exact (List.mem_cons_of_mem _ (mem_busy.2 (.inr (.inl h1))))
   ·simp [Value.ownBlock] at h1;subst h1;exact (by simp)
   ·exact (List.mem_cons_of_mem _ (mem_busy.2 (.inr (.inr (.inr h1)))))
  exact owr_sub (((owr_sub h.l F1).upd hu F2).upd us F3) (fun b hb=>.inl (F4 b hb))
 ·exact (h.nF _ hv).2.2.2.1 (by simpa using hb)
 ·simp at hb;subst hb;exact (h.nF _ hv).2.1 rfl
 ·obtain ⟨a1,a2,a3,a4,a5,a6⟩:=h.nF q hq
  refine ⟨a1,a2,a3,fun e=>?_,a5,a6⟩
  simp [Value.ownBlock] at e
  subst e
  rcases hk with hk|hk
  ·exact a4 hk
  ·have:=(h.rw.lt _ hq).2;omega
end
end Rgx
end Go.Proofs.YtjclbjdkkdijbaaGreat
end
section
open Go.RowKit
namespace Go.Proofs.YtjclbjdkkdijbaaGreat
open L
namespace Rgx
open Rx Auto Aut
theorem numO_over {first:Rx} {m:Nat} {g:Rx→Nat→Option Rx} {i:Nat} {S S':List Rx} {T:List (List Nat)} {row:List Nat} {s:Rx} (h:upTo (some first) m (nxO g) i=(S.map some,T)) (hs:S[i]?=some s) (hi:i<256) (hr:scan (nxO g (some s)) m (S.map some)=(S'.map some,row)) (h256:256<S'.length):numO first m g=none:=by
 unfold numO
 rw [numb_none (s:=some s) (i:=i) (k:=m) hi (Nat.le_refl _) (by rw [h];simp [hs]) (by rw [h];simp only;rw [hr];simpa using h256)]
theorem take_of_scan {f:Nat→Option Rx} {k s:Nat} {S S':List Rx} {row:List Nat} (h:scan f k (S.map some)=(S'.map some,row)) (hs:s≤S.length):S'.take s=S.take s:=by
 have h1:=scan_pre f k (S.map some)
 rw [h] at h1
 obtain ⟨t,ht⟩:=h1
 have h2:S.map some=(S'.take S.length).map some:=by
  simp only at ht
  rw [List.map_take,←ht,List.take_left' (by simp)]
 have h3:S=S'.take S.length:=(List.map_inj_right (fun x y h=>by simpa using h)).1 h2
 conv=>rhs;rw [h3]
 rw [List.take_take,Nat.min_eq_left hs]
theorem of_none {r:Rx} (he:nErr r=0) (h:numO (nRes r) (srtC (0::cutB (nRes r))).length (nxR (srtC (0::cutB (nRes r))))=none):ofE r=4∧ofA r=noA:=by
 unfold ofE ofA
 rw [if_neg (by simpa using he),if_neg (by simpa using he),h]
 exact ⟨rfl,rfl⟩
theorem of_some {r:Rx} (he:nErr r=0) (S:List Rx) (T:List (List Nat)) (h:numO (nRes r) (srtC (0::cutB (nRes r))).length (nxR (srtC (0::cutB (nRes r))))=some (S,T)):ofE r=0∧ofA r=⟨srtC (0::cutB (nRes r)),natRows T,S.map nul⟩:=by
 unfold ofE ofA
 rw [if_neg (by simpa using he),if_neg (by simpa using he),h]
 exact ⟨rfl,rfl⟩
section
variable {w w':World} {v:Value}
theorem ret_rau2 {w0:World} {fn:Func} {a:Act} {p q:Tmp} {rb:Nat} {cs:List Value} {r:Au} {n:Int} (h:fn.results=#[.cell p 39,.tmp q]) (hp:a.tmps.getD p undef=.pointer (some ⟨rb,0,none⟩)) (hq:a.tmps.getD q undef=.int .i64 n) (hB:Blk w rb cs 39) (hdf:a.defers=[]) (hv:AuF w r cs) (hu:Upd [] w0 w) :
 bodyPost Tryz.prog fn (fun e w'=>∃ v',e=.returned (.tuple #[v',.int .i64 n])∧AuV w' r v'∧Upd [] w0 w') .ret a w:=by
 have hl:(Tryz.prog.info? 39).map (·.size)=some cs.length:=by
  obtain ⟨_,_,_,rfl,_⟩:=hv
  kernel_rfl
 refine bodyPost_ret (v:=.tuple #[.agg cs.toArray,.int .i64 n]) ?_ hdf ⟨_,rfl,⟨cs,rfl,hv⟩,hu⟩
 rw [results_cell_tmp h,hp]
 have h2:=run_loadVar_row (P:=Tryz.prog) w rb 39 39 cs.toArray (0,0) (.struct _) hB Tryz.underlying39 rfl (by simpa using hl)
 simp [asAddr,h2,Result.andThen,hq]
set_option maxRecDepth 100000 in
set_option maxHeartbeats 16000000 in
theorem rOf_calls {r:Rx} (hr:RxV [] w r v) (hn:nodes r≤1000000):Calls Tryz.prog 15 #[v] w fun e w'=>∃ v',e=.returned (.tuple #[v',.int .i64 (ofE r)])∧AuV w' (ofA r) v'∧Upd [] w w':=by
 obtain ⟨a1,c1,rfl,hF,_,_⟩:=hr.shape
 have HR:=Lib.hid (And.intro hr (And.intro hF.byt hn))
 clear hr hF hn
 go_enter Tryz.func15,Tryz.ntmps15
 go_upto_region 1 with fail
 have b1:=(Blk.new w (rxC r.kind r.lo r.hi (.slice a1 r.kids.length c1)) 25).alloc (.cells #[.slice none 0 0,.slice none 0 0,.slice none 0 0] 39)
 have b2:=Blk.new (w.alloc (.cells (rxC r.kind r.lo r.hi (.slice a1 r.kids.length c1)).toArray 25)) [.slice none 0 0,.slice none 0 0,.slice none 0 0] 39
 have u1:=((Upd.refl [] w).alloc (.cells (rxC r.kind r.lo r.hi (.slice a1 r.kids.length c1)).toArray 25)).alloc (.cells #[.slice none 0 0,.slice none 0 0,.slice none 0 0] 39)
 have z1:(w.alloc (.cells (rxC r.kind r.lo r.hi (.slice a1 r.kids.length c1)).toArray 25)).heap.size=w.heap.size+1:=by simp
 rw [z1] at b2
 change Blk ((w.alloc (.cells (rxC r.kind r.lo r.hi (.slice a1 r.kids.length c1)).toArray 25)).alloc (.cells #[.slice none 0 0,.slice none 0 0,.slice none 0 0] 39)) _ _ _ at b2
 change Code.wp _ _ _ _ ((w.alloc (.cells (rxC r.kind r.lo r.hi (.slice a1 r.kids.length c1)).toArray 25)).alloc (.cells #[.slice none 0 0,.slice none 0 0,.slice none 0 0] 39))
 generalize ((w.alloc (.cells (rxC r.kind r.lo r.hi (.slice a1 r.kids.length c1)).toArray 25)).alloc (.cells #[.slice none 0 0,.slice none 0 0,.slice none 0 0] 39))=w1 at *
 have k0:=b1.cell (i:=0) rfl
 have k1:=b1.cell (i:=1) rfl
 have k2:=b1.cell (i:=2) rfl
 have k3:=b1.cell (i:=3) rfl
 have HW:=Lib.hid (And.intro b2 u1)
 clear b1 b2 u1 z1
 generalize hpa:w.heap.size=pa at *
 have HPA:=Lib.hid hpa
 clear hpa
 have HC1:=Lib.hid (rNormal_calls (M:=[]) (HR.out.1.ext HW.out.2) (by simp) HR.out.2.2)
 go_upto_region 2 with ((with_reducible refine HC1.out.mono ?_);rintro e w2 ⟨v2,rfl,o2,u2⟩;obtain ⟨a2,c2,rfl,hF2,_,_⟩:=o2.shape)
 change Code.wp _ _ _ _ (w2.alloc (.cells (rxC (nRes r).kind (nRes r).lo (nRes r).hi (.slice a2 (nRes r).kids.length c2)).toArray 25))
 have bN:=Blk.new w2 (rxC (nRes r).kind (nRes r).lo (nRes r).hi (.slice a2 (nRes r).kids.length c2)) 25
 have uN:=(Upd.refl [] w2).alloc (.cells (rxC (nRes r).kind (nRes r).lo (nRes r).hi (.slice a2 (nRes r).kids.length c2)).toArray 25)
 have bR3:=(HW.out.1.upd (u2.step uN) (by simp))
 generalize (w2.alloc (.cells (rxC (nRes r).kind (nRes r).lo (nRes r).hi (.slice a2 (nRes r).kids.length c2)).toArray 25))=w3 at *
 have H3:=Lib.hid (And.intro bR3 (And.intro (u2.step uN) (And.intro (hF2.ext uN) bN)))
 have HPL:=Lib.hid bR3.lt
 clear u2 o2 hF2 uN k0 k1 k2 k3
 generalize w2.heap.size=bn at *
 by_cases he:nErr r=0
 ·have hg:=nRes_good HR.out.2.1 he
  have HE:=Lib.hid (And.intro (of_none he) (of_some he))
  rw [he]
  clear he
  generalize nRes r=n at *
  have HG:=Lib.hid hg
  have j0:=bN.cell (i:=0) rfl
  have j1:=bN.cell (i:=1) rfl
  have j2:=bN.cell (i:=2) rfl
  have j3:=bN.cell (i:=3) rfl
  have hcl:=cutB_len n
  have HCL:=Lib.hid (show (0::cutB n).length≤129 from by have:=hg.2;simp;omega)
  have HSC:=Lib.hid (show putAllC [0] (cutB n)=srtC (0::cutB n) by rw [srtC_put];rfl)
  clear bN bR3 hg hcl
  go_upto_region 4 with fail
  refine wp_region_lit ?_
  refine wpList_cutH 2 (fun K hK=>?_)
  simp only [List.take_succ_cons,List.take_zero]
  go_wp2_with fail
  refine Halt_.intro ?_;try simp only [List.drop_succ_cons,List.drop_zero]
  have HL:=Lib.hid (show Blk (w3.alloc (.cells #[.int .i64 0] 3)) w3.heap.size [.int .i64 0] 3∧Upd [] w3 (w3.alloc (.cells #[.int .i64 0] 3)) from ⟨Blk.new w3 _ _,(Upd.refl [] w3).alloc _⟩)
  generalize (w3.alloc (.cells #[.int .i64 0] 3))=w4 at *
  generalize hz3:w3.heap.size=z3 at *
  have HZ3:=Lib.hid hz3
  clear hz3
  have HCT:=Lib.hid (show Calls Tryz.prog 54 #[.agg #[.int .i64 n.kind,.int .u8 n.lo,.int .u8 n.hi,.slice a2 n.kids.length c2],.slice (some ⟨z3,0,none⟩) 1 1] w4 fun e w'=>∃ v',e=.returned v'∧CutF (srtC (0::cutB n)) (.slice (some ⟨z3,0,none⟩) 1 1) w4 v' w' from by
   rw [←HSC.out]
   exact cuts_calls n (xs:=[0]) (SL.of_blk (pad:=[]) (k:=1) (n:=1) (cap:=1) (xs:=ints [0]) HL.out.1 rfl (Nat.le_refl _) (by unfold maxLen;omega)) (H3.out.2.2.1.ext HL.out.2).val (by have:=HG.out.2;simp;omega))
  refine wpList_cutH 1 (fun K hK=>?_)
  simp only [List.take_succ_cons,List.take_zero]
  go_wp2_with ((with_reducible refine HCT.out.mono ?_);rintro e w5 ⟨v5,rfl,s5,u5,p5⟩)
  refine Halt_.intro ?_;try simp only [List.drop_succ_cons,List.drop_zero]
  obtain ⟨ca,cc,rfl,_⟩:=id s5.elems
  have hby:∀ c∈srtC (0::cutB n),0≤c∧c≤255:=fun c hc=>by
   rcases List.mem_cons.1 ((srtC_mem (0::cutB n) c).1 hc) with h|h
   ·subst h;omega
   ·exact cutB_byte n HG.out.1.byt c h
  have h0:0<(srtC (0::cutB n)).length:=List.length_pos_of_mem ((srtC_mem (0::cutB n) 0).2 (by simp))
  have hm:(srtC (0::cutB n)).length≤129:=by have:=HCL.out;have:=srtC_length (0::cutB n);omega
  have HE2:=HE.out
  clear HE HSC
  generalize srtC (0::cutB n)=cuts at *
  have HE:=Lib.hid HE2
  have HCU:=Lib.hid (And.intro hby (And.intro h0 hm))
  clear HE2 hby
  have H5:=Lib.hid (And.intro s5 (And.intro u5 p5))
  clear s5 u5 p5
  go_upto_region 5 with fail
  obtain ⟨ca',cc',hcae,_,_,hcae2⟩:=SL.elems H5.out.1
  cases hcae
  obtain ⟨gc,oc,rfl,_⟩:=hcae2 h0
  have HMK:=Lib.hid (show Mk 39 w3 w5.heap.size (.slice (some ⟨gc,oc,none⟩) cuts.length cc) (.slice none 0 0) (.slice none 0 0) cuts [] [] [] (w5.alloc (.cells #[(.slice (some ⟨gc,oc,none⟩) cuts.length cc),(.slice none 0 0),(.slice none 0 0)] 39)) from by
   have ua:=(Upd.refl [] w5).alloc (.cells #[(.slice (some ⟨gc,oc,none⟩) cuts.length cc),(.slice none 0 0),(.slice none 0 0)] 39)
   have h35:Upd [] w3 w5:=HL.out.2.step H5.out.2.1
   refine ⟨Blk.new w5 _ _,H5.out.1.upd ua (by simp),fun q hq=>?_,OwnL.nil _ _ _,World.ownsRow_nil _ _ _ _,fun q hq=>by simp [Value.ownBlock] at hq,⟨by simp,by simp [Value.ownBlock],h35.size⟩,h35.step ua,by simp,fun q hq=>by have:=sl_lt H5.out.1 HCU.out.2.1 hq;have:=ua.size;omega⟩
   have h1:=sl_lt H5.out.1 HCU.out.2.1 hq
   have h2:=HL.out.2.size
   have h3:=HZ3.out
   refine ⟨?_,by omega,by simp [Value.ownBlock],by simp [Value.ownBlock]⟩
   rcases H5.out.2.2 q hq with h|h
   ·simp [Value.ownBlock] at h;omega
   ·omega)
  change Code.wp _ _ _ _ (w5.alloc (.cells #[(.slice (some ⟨gc,oc,none⟩) cuts.length cc),(.slice none 0 0),(.slice none 0 0)] 39))
  generalize (w5.alloc (.cells #[(.slice (some ⟨gc,oc,none⟩) cuts.length cc),(.slice none 0 0),(.slice none 0 0)] 39))=w6 at *
  generalize w5.heap.size=ab at *
  have j0:=HMK.out.u.some j0 (by simp)
  have j1:=HMK.out.u.some j1 (by simp)
  have j2:=HMK.out.u.some j2 (by simp)
  have j3:=HMK.out.u.some j3 (by simp)
  go_upto_region 6 with fail
  have HOF:=Lib.hid (show OfS w3 ab (.slice (some ⟨gc,oc,none⟩) cuts.length cc) (.slice none 0 0) (.slice none 0 0) (.slice (some ⟨w6.heap.size,0,none⟩) 1 1) (.slice none 0 0) cuts [] [] [] [n] [] (w6.alloc (.cells (rxC n.kind n.lo n.hi (.slice a2 n.kids.length c2)).toArray 25)) from by
   have ul:=(Upd.refl [] w6).alloc (.cells (rxC n.kind n.lo n.hi (.slice a2 n.kids.length c2)).toArray 25)
   have hz:=HMK.out.u.size
   refine ⟨HMK.out.quiet ul,?_,fun q hq=>?_,World.ownsRow_nil _ _ _ _,by simp [Value.ownBlock]⟩
   ·refine OwR.of_blk (c:=1) (m:=1) (css:=fun _=>rxC n.kind n.lo n.hi (.slice a2 n.kids.length c2)) (pad:=[]) (by simpa [rows] using Blk.new w6 (rxC n.kind n.lo n.hi (.slice a2 n.kids.length c2)) 25) rfl rfl (Nat.le_refl _) (by omega) (fun _=>rfl) (fun hm=>?_) (fun i x hx=>?_)
    ·rw [mem_busy] at hm
     simp [Value.ownBlock] at hm
     have:=HMK.out.bx.lt
     omega
    ·match i with
     | 0=>
      cases hx
      refine ((H3.out.2.2.1.sub (M':=busy ab (.slice none 0 0) (.slice none 0 0) (.slice none 0 0)++[w6.heap.size]) (fun b hb=>?_)).ext HMK.out.u).ext ul
      rcases List.mem_append.1 hb with hb|hb
      ·rw [mem_busy] at hb
       simp [Value.ownBlock] at hb
       subst hb
       exact .inr HMK.out.nn.2.2
      ·simp at hb;subst hb;exact .inr hz
     | i+1=>simp at hx
   ·simp only [Value.ownBlock,Option.some.injEq] at hq
    subst hq
    refine ⟨hz,by simp,fun h=>?_⟩
    have:=HMK.out.cl _ h
    omega)
  change Code.wp _ _ _ _ (w6.alloc (.cells (rxC n.kind n.lo n.hi (.slice a2 n.kids.length c2)).toArray 25))
  generalize (w6.alloc (.cells (rxC n.kind n.lo n.hi (.slice a2 n.kids.length c2)).toArray 25))=w7 at *
  generalize w6.heap.size=lb at *
  have hm129:=HCU.out.2.2
  clear j0 j1 j2 j3 h0 hm HCT HCL
  go_wp2_with fail
  go_loopw [7,8] (fun lx sx wr=>∃ (s:Nat) (S:List Rx) (T:List (List Nat)) (F:List Nat) (nv av lv:Value),sx=.int .i64 s∧lv=lx∧s≤S.length∧S.length≤256∧Hid (upTo (some n) cuts.length (nxO (nxR cuts)) s=(S.map some,T)∧(∀ x∈S,Gd x)∧OfS w3 ab (.slice (some ⟨gc,oc,none⟩) cuts.length cc) nv av lv (.slice none 0 0) cuts (natRows T) ((S.take s).map nul) F S [] wr∧T.length=s)) (fun _ sx _=>257 - (intOf sx).toNat)
  case atStart=>exact ⟨0,[n],[],[],_,_,_,rfl,rfl,Nat.zero_le _,by simp,Lib.hid ⟨rfl,by simpa using HG.out,HOF.out,rfl⟩⟩
  case round=>
   obtain ⟨s,S,T,F,nv,av,lv,rfl,rfl,hs,h256,HI⟩:=hrel
   obtain ⟨la,lc,rfl,_⟩:=id HI.out.2.2.1.l.list.form
   obtain ⟨wo,rfl⟩:∃ wo:World,wo=wr:=⟨_,rfl⟩
   by_cases hlt:s<S.length
   ·have hli:(s:Int)<S.length:=by omega
    have hcu:=List.getElem?_eq_getElem hlt
    generalize S[s]=cur at *
    have HCR:=Lib.hid hcu
    clear hcu
    go_wp2_with fail
    go_loopw [7,9,10] (fun lx nx9 kx wr=>∃ (k:Nat) (S':List Rx) (row:List Nat) (lv nx:Value),kx=.int .i64 k∧lv=lx∧nx=nx9∧k≤cuts.length∧S'.length≤S.length+k∧Hid (scan (nxO (nxR cuts) (some cur)) k (S.map some)=(S'.map some,row)∧(∀ x∈S',Gd x)∧OfS w3 ab (.slice (some ⟨gc,oc,none⟩) cuts.length cc) nv av lv nx cuts (natRows T) ((S.take s).map nul) F S' (row.map Int.ofNat) wr∧S'[s]?=some cur)) (fun _ _ kx _=>cuts.length - (intOf kx).toNat)
    case atStart=>exact ⟨0,S,[],_,_,rfl,rfl,rfl,Nat.zero_le _,by omega,Lib.hid ⟨rfl,HI.out.2.1,HI.out.2.2.1,HCR.out⟩⟩
    case round=>
     obtain ⟨k,S',row,lv,nx,rfl,rfl,rfl,hk,hlen,HJ⟩:=hrel
     obtain ⟨la2,lc2,rfl,_⟩:=id HJ.out.2.2.1.l.list.form
     obtain ⟨na,nc,hnx,_⟩:=(SL.of_owns HJ.out.2.2.1.rw).elems
     rw [List.length_map] at hnx
     subst hnx
     have q0:=HJ.out.2.2.1.m.bx.cell (i:=0) rfl
     by_cases hk2:k<cuts.length
     ·have hki:(k:Int)<cuts.length:=by omega
      obtain ⟨cA,cC,hce,_,_,hcc⟩:=SL.elems HJ.out.2.2.1.m.cu
      cases hce
      obtain ⟨gA,oA,hge,hcell⟩:=hcc (by omega)
      cases hge
      have hck:=List.getElem?_eq_getElem hk2
      have hcy:=HCU.out.1 _ (List.mem_of_getElem? hck)
      have hcd:cuts.getD k 0=cuts[k]:=by rw [List.getD_eq_getElem?_getD,hck];rfl
      have ck:=hcell k (.int .i64 cuts[k]) (ints_get hck)
      generalize cuts[k]=c at *
      have HCD:=Lib.hid hcd
      have hc0:=hcy.1
      have hc1:=hcy.2
      have HSI:=Lib.hid HJ.out.2.2.2
      have hsi2:(s:Int)<S'.length:=by have:=(List.getElem?_eq_some_iff.1 HSI.out).1;omega
      obtain ⟨g,a3,c3,hge,hgM,hgl,hRF,e0,e1,e2,e3⟩:=owr_kid HJ.out.2.2.1.l HSI.out
      cases hge
      have HBL:=Lib.hid (show ∀ b∈busy ab nv av (.slice na row.length nc)++[g],b<wr.heap.size from fun b hb=>by
       rcases List.mem_append.1 hb with hb|hb
       ·exact HJ.out.2.2.1.blt b hb
       ·simp at hb;subst hb;exact hgl)
      have HGC:=Lib.hid (HJ.out.2.1 cur (List.mem_of_getElem? HSI.out))
      have HD:=Lib.hid (fun (M':List Nat) (hM':∀ b∈M',b∈(busy ab nv av (.slice na row.length nc)++[g])∨wr.heap.size≤b) (w':World) (u:Upd [] wr w') (hlt':∀ b∈M',b<w'.heap.size)=>rDerive_calls (c:=c) ((hRF.sub hM').ext u).val hlt' HGC.out.1 HGC.out.2 hcy)
      clear hcell hck hcy hcd hRF hcc hgM hgl
      go_upto_region 13 with fail
      go_cut [11,12] (fun x11 x12 w'=>∃ xb,x11=.pointer (some ⟨xb,0,none⟩)∧x12=.int .i64 (limE (der c cur))∧Box 25 (busy ab nv av (.slice na row.length nc)++[g]) w' xb (limR (der c cur))∧Upd [] wr w')
      case first=>
       go_wp2_with fail
       refine wp_region_wa 17 15 (fun w'=>∃ x:Ext wr,w'=x.val) (by kernel_rfl) (by kernel_rfl) (Ext.of (by iterate 25 (first|exact Upd.refl _ _|assumption|refine Upd.alloc ?_ _|refine Upd.drew ?_|refine Upd.drewN ?_ _|refine Upd.dl ?_|refine Upd.step ?_ (Ext.upd _)|refine Upd.nil ?_|skip))) ?_
       (refine WA.free 0 rfl rfl (by kernel_rfl) (fun K hK=>?_);go_big_quiet_step (fail);refine wpQuiet_nil ?_;refine hK _ ?_;clear hK K);(refine WA.free 1 rfl rfl (by kernel_rfl) (fun K hK=>?_);go_big_quiet_step (fail);refine wpQuiet_nil ?_;refine hK _ ?_;clear hK K);(refine WA.free 2 rfl rfl (by kernel_rfl) (fun K hK=>?_);go_big_quiet_step (fail);refine wpQuiet_nil ?_;refine hK _ ?_;clear hK K)
       (refine WA.load 3 15 rfl rfl (by kernel_rfl) (by kernel_rfl) (fun K hK=>?_);go_big_quiet_step (fail);refine wpQuiet_nil ?_;refine hK _ ?_;clear hK K)
       (refine WA.free 4 rfl rfl (by kernel_rfl) (fun K hK=>?_);go_big_quiet_step (fail);refine wpQuiet_nil ?_;refine hK _ ?_;clear hK K)
       (refine WA.load 5 15 rfl rfl (by kernel_rfl) (by kernel_rfl) (fun K hK=>?_);go_big_quiet_step (fail);refine wpQuiet_nil ?_;refine hK _ ?_;clear hK K)
       (refine WA.free 6 rfl rfl (by kernel_rfl) (fun K hK=>?_);go_big_quiet_step (fail);refine wpQuiet_nil ?_;refine hK _ ?_;clear hK K);(refine WA.free 7 rfl rfl (by kernel_rfl) (fun K hK=>?_);go_big_quiet_step (fail);refine wpQuiet_nil ?_;refine hK _ ?_;clear hK K)
       (refine WA.load 8 15 rfl rfl (by kernel_rfl) (by kernel_rfl) (fun K hK=>?_);go_big_quiet_step (fail);refine wpQuiet_nil ?_;refine hK _ ?_;clear hK K)
       (refine WA.free 9 rfl rfl (by kernel_rfl) (fun K hK=>?_);go_big_quiet_step (fail);refine wpQuiet_nil ?_;refine hK _ ?_;clear hK K)
       refine WA.two 10 14 (by kernel_rfl) (Do_.mk rfl (fun K hK=>?_)) (Do_.mk rfl (fun K hK=>?_))
       ·go_wp2_with ((with_reducible refine (HD.out (busy ab nv av (.slice na row.length nc)++[g]) (fun b hb=>.inl hb) _ (by iterate 25 (first|exact Upd.refl _ _|assumption|refine Upd.alloc ?_ _|refine Upd.drew ?_|refine Upd.drewN ?_ _|refine Upd.dl ?_|refine Upd.step ?_ (Ext.upd _)|refine Upd.nil ?_|skip)) (fun b hb=>Nat.lt_of_lt_of_le (HBL.out b hb) (Upd.size (show Upd [] wr _ from (by iterate 25 (first|exact Upd.refl _ _|assumption|refine Upd.alloc ?_ _|refine Upd.drew ?_|refine Upd.drewN ?_ _|refine Upd.dl ?_|refine Upd.step ?_ (Ext.upd _)|refine Upd.nil ?_|skip)))))).mono ?_);rintro e w9 ⟨v9,rfl,o9,u9⟩;obtain ⟨a9,c9,rfl,hF9,_,_⟩:=o9.shape)
        have H9:=Lib.hid (And.intro (show Upd [] wr w9 from Upd.step (by iterate 25 (first|exact Upd.refl _ _|assumption|refine Upd.alloc ?_ _|refine Upd.drew ?_|refine Upd.drewN ?_ _|refine Upd.dl ?_|refine Upd.step ?_ (Ext.upd _)|refine Upd.nil ?_|skip)) u9) hF9)
        clear u9 o9 hF9
        refine WA.keep (Ext.of H9.out.1) ?_
        (refine WA.free 11 rfl rfl (by kernel_rfl) (fun K hK=>?_);go_big_quiet_step (fail);refine wpQuiet_nil ?_;refine hK _ ?_;clear hK K);(refine WA.free 12 rfl rfl (by kernel_rfl) (fun K hK=>?_);go_big_quiet_step (fail);refine wpQuiet_nil ?_;refine hK _ ?_;clear hK K);(refine WA.free 13 rfl rfl (by kernel_rfl) (fun K hK=>?_);go_big_quiet_step (fail);refine wpQuiet_nil ?_;refine hK _ ?_;clear hK K)
        refine WA.one 14 (by kernel_rfl) (Do_.mk rfl (fun K hK=>?_))
        go_wp2_with fail
        have HZB:=Lib.hid (show Blk (w9.alloc (.cells #[.int .i64 0,.int .u8 0,.int .u8 0,.slice none 0 0] 25)) w9.heap.size [.int .i64 0,.int .u8 0,.int .u8 0,.slice none 0 0] 25∧Upd [] w9 (w9.alloc (.cells #[.int .i64 0,.int .u8 0,.int .u8 0,.slice none 0 0] 25)) from ⟨Blk.new w9 _ _,(Upd.refl [] w9).alloc _⟩)
        generalize (w9.alloc (.cells #[.int .i64 0,.int .u8 0,.int .u8 0,.slice none 0 0] 25))=wB at *
        have HXB:=Lib.hid (show wr.heap.size≤w9.heap.size from H9.out.1.size)
        obtain ⟨xb,hxe⟩:∃ xb,w9.heap.size=xb:=⟨_,rfl⟩
        rw [hxe] at HZB HXB ⊢
        have HXE:=Lib.hid (Nat.le_of_eq hxe)
        clear hxe
        have HUB:=Lib.hid (H9.out.1.step HZB.out.2)
        refine WA.keep (Ext.of HUB.out) ?_
        have bS:=HZB.out.1
        have s0:=bS.cell (i:=0) rfl
        have s1:=bS.cell (i:=1) rfl
        have s2:=bS.cell (i:=2) rfl
        have s3:=bS.cell (i:=3) rfl
        have sf:∀ q,wB.frozen? ⟨xb,q,none⟩=false:=bS.free
        clear bS
        refine WA.one 15 (by kernel_rfl) (Do_.mk rfl (fun K hK=>?_))
        go_wp2_with fail
        refine WA.past (by kernel_rfl) ?_
        refine WA.one 16 (by kernel_rfl) (Do_.mk rfl (fun K hK=>?_))
        go_wp2_with fail
        refine WA.past (by kernel_rfl) ?_
        refine WA.nil (by kernel_rfl) ?_
        go_wp2_with fail
        go_meet
        case rel=>
         have hs:=box_set (a:=.int .i64 (limR (der c cur)).kind) (b:=.int .u8 (limR (der c cur)).lo) (c:=.int .u8 (limR (der c cur)).hi) (d:=.slice a9 (limR (der c cur)).kids.length c9) HZB.out.1
         have hxM:xb ∉ (busy ab nv av (.slice na row.length nc)++[g]):=fun hm=>by have:=HBL.out xb hm;have:=HXB.out;omega
         refine ⟨xb,rfl,rfl,⟨a9,c9,hs.1,?_,hxM⟩,HUB.out.fresh hs.2 (fun b hb=>.inr (by simp at hb;subst hb;exact HXB.out))⟩
         exact (((H9.out.2.sub (M':=(busy ab nv av (.slice na row.length nc)++[g])++[xb]) (fun b hb=>by
          rcases List.mem_append.1 hb with hb|hb
          ·exact .inl hb
          ·simp at hb;subst hb;exact .inr HXE.out)).ext HZB.out.2).upd hs.2 (by simp)).sub (fun b hb=>.inl (List.mem_append_left _ hb))
       ·go_wp2_with fail
        have HZB:=Lib.hid (show Blk ((wr.alloc (.cells #[.int .i64 0,.int .u8 0,.int .u8 0,.slice none 0 0] 25)).drew) wr.heap.size [.int .i64 0,.int .u8 0,.int .u8 0,.slice none 0 0] 25∧Upd [] wr ((wr.alloc (.cells #[.int .i64 0,.int .u8 0,.int .u8 0,.slice none 0 0] 25)).drew) from ⟨Blk.new wr [.int .i64 0,.int .u8 0,.int .u8 0,.slice none 0 0] 25,((Upd.refl [] wr).alloc _).drew⟩)
        generalize ((wr.alloc (.cells #[.int .i64 0,.int .u8 0,.int .u8 0,.slice none 0 0] 25)).drew)=wB at *
        obtain ⟨xb,hxe⟩:∃ xb,wr.heap.size=xb:=⟨_,rfl⟩
        rw [hxe] at HZB ⊢
        have HXE:=Lib.hid (Nat.le_of_eq hxe)
        clear hxe
        refine WA.keep (Ext.of HZB.out.2) ?_
        refine WA.one 10 (by kernel_rfl) (Do_.mk rfl (fun K hK=>?_))
        go_wp2_with ((with_reducible refine (HD.out ((busy ab nv av (.slice na row.length nc)++[g])++[xb]) (fun b hb=>by
         rcases List.mem_append.1 hb with hb|hb
         ·exact .inl hb
         ·simp at hb;subst hb;exact .inr HXE.out) _ HZB.out.2 (fun b hb=>by
         rcases List.mem_append.1 hb with hb|hb
         ·have:=HBL.out b hb;have:=HZB.out.2.size;omega
         ·simp at hb;subst hb;exact HZB.out.1.lt)).mono ?_);rintro e w9 ⟨v9,rfl,o9,u9⟩;obtain ⟨a9,c9,rfl,hF9,_,_⟩:=o9.shape)
        have bS:=HZB.out.1.upd u9 (by simp)
        have H9:=Lib.hid (And.intro (HZB.out.2.step u9) (And.intro hF9 bS))
        refine WA.keep (Ext.of H9.out.1) ?_
        have s0:=bS.cell (i:=0) rfl
        have s1:=bS.cell (i:=1) rfl
        have s2:=bS.cell (i:=2) rfl
        have s3:=bS.cell (i:=3) rfl
        have sf:∀ q,w9.frozen? ⟨xb,q,none⟩=false:=bS.free
        clear bS u9 o9 hF9
        (refine WA.free 11 rfl rfl (by kernel_rfl) (fun K hK=>?_);go_big_quiet_step (fail);refine wpQuiet_nil ?_;refine hK _ ?_;clear hK K);(refine WA.free 12 rfl rfl (by kernel_rfl) (fun K hK=>?_);go_big_quiet_step (fail);refine wpQuiet_nil ?_;refine hK _ ?_;clear hK K);(refine WA.free 13 rfl rfl (by kernel_rfl) (fun K hK=>?_);go_big_quiet_step (fail);refine wpQuiet_nil ?_;refine hK _ ?_;clear hK K)
        refine WA.one 15 (by kernel_rfl) (Do_.mk rfl (fun K hK=>?_))
        go_wp2_with fail
        refine WA.past (by kernel_rfl) ?_
        refine WA.one 16 (by kernel_rfl) (Do_.mk rfl (fun K hK=>?_))
        go_wp2_with fail
        refine WA.past (by kernel_rfl) ?_
        refine WA.nil (by kernel_rfl) ?_
        go_wp2_with fail
        go_meet
        case rel=>
         have hs:=box_set (a:=.int .i64 (limR (der c cur)).kind) (b:=.int .u8 (limR (der c cur)).lo) (c:=.int .u8 (limR (der c cur)).hi) (d:=.slice a9 (limR (der c cur)).kids.length c9) H9.out.2.2
         have hxM:xb ∉ (busy ab nv av (.slice na row.length nc)++[g]):=fun hm=>by have:=HBL.out xb hm;have:=HXE.out;omega
         refine ⟨xb,rfl,rfl,⟨a9,c9,hs.1,?_,hxM⟩,H9.out.1.fresh hs.2 (fun b hb=>.inr (by simp at hb;subst hb;exact HXE.out))⟩
         exact (H9.out.2.1.upd hs.2 (by simp)).sub (fun b hb=>.inl (List.mem_append_left _ hb))
      case rest=>
      obtain ⟨xb,rfl,rfl,hBX,uc⟩:=hcut
      have HJ2:=Lib.hid (HJ.out.2.2.1.quiet uc)
      obtain ⟨a9,c9,hXB,hXF,hXM⟩:=hBX
      have HXF:=Lib.hid hXF
      have x0:=hXB.cell (i:=0) rfl
      have x1:=hXB.cell (i:=1) rfl
      have x2:=hXB.cell (i:=2) rfl
      have x3:=hXB.cell (i:=3) rfl
      clear hXB hXF hXM uc e0 e1 e2 e3 ck q0 HD
      by_cases h64:64<nodes (der c cur)
      ·have hno:=nxR_none (cuts:=cuts) (s:=cur) (k:=k) (by rw [HCD.out];exact h64)
       rw [HCD.out] at hno
       have HNO:=Lib.hid (HE.out.1 (numO_fail HI.out.1 HCR.out (by omega) hk2 HJ.out.1 hno.1))
       rw [hno.2]
       clear hno h64 x0 x1 x2 x3
       have bR:=H3.out.1.upd HJ2.out.m.u (by simp)
       have r0:=bR.cell (i:=0) rfl
       have r1:=bR.cell (i:=1) rfl
       have r2:=bR.cell (i:=2) rfl
       have rf:∀ q,wc.frozen? ⟨pa+1,q,none⟩=false:=bR.free
       have HBR:=Lib.hid bR
       clear bR
       go_wp2_with fail
       have hs:=cell3_set (a:=.slice none 0 0) (b:=.slice none 0 0) (c:=.slice none 0 0) HBR.out
       rw [HNO.out.1,HNO.out.2]
       exact ret_rau2 rfl rfl rfl hs.1 rfl noA_F (((HW.out.2.step H3.out.2.1).step HJ2.out.m.u).fresh hs.2 (fun b hb=>.inr (by simp at hb;subst hb;have:=HPA.out;omega)))
      ·have hno:=nxR_some (cuts:=cuts) (s:=cur) (k:=k) (by rw [HCD.out];exact h64)
       rw [HCD.out] at hno
       have HNX:=Lib.hid (show nxO (nxR cuts) (some cur) k=some (der c cur) from hno.1)
       have HGD:=Lib.hid (show Gd (der c cur) from ⟨der_nf HGC.out.1,by omega⟩)
       rw [hno.2.1]
       rw [hno.2.2] at HXF x0 x1 x2 x3
       clear hno h64
       generalize (der c cur)=d at *
       have HPL2:=Lib.hid (place_calls (r:=d) (l:=S') (w:=wc) ((HJ2.out.l.list).sub (M':=[]) (by simp)) (RxF.val (HXF.out.sub (M':=[]) (by simp))) (by omega))
       have HRL:=Lib.hid (show row.length=k from by have:=scan_len (nxO (nxR cuts) (some cur)) k (S.map some);rw [HJ.out.1] at this;exact this)
       have HRW:=Lib.hid (show wc.ownsRow 0 3 1 (.slice na row.length nc) row.length (ints (row.map Int.ofNat)) from by have:=HJ2.out.rw;rwa [List.length_map] at this)
       have hrl:row.length≤129:=by rw [HRL.out];omega
       by_cases hmm:d∈S'
       ·have hpl:plcR S' d=(place S' d:Nat):=by rw [plcR,if_pos hmm]
        have HSN:=Lib.hid (scan_old HJ.out.1 HNX.out hmm)
        rw [hpl] at HPL2
        clear hpl hmm
        generalize place S' d=p at *
        have hp0:¬ ((p:Nat):Int)<0:=by omega
        go_wp2_with (first|((with_reducible refine HPL2.out.mono ?_);rintro e w8 ⟨rfl,u8⟩;have HU8:=Lib.hid u8;clear u8)|(refine wpList_push rfl rfl _ _ _ _ rfl rfl rfl 3 1 8 _ Tryz.underlying22 infoInt rfl (by decide) (by decide) (.int .i64 (p:Nat)) [.int .i64 (p:Nat)] rfl rfl rfl (by simp [Value.oneCell']) (.slice na row.length nc) _ _ (ownsRow_updL HRW.out HU8.out (by simp)) rfl rfl (by unfold maxLen;omega) (by omega) ?_;intro g7 c7 w7 o7 u7 k7))
        have HQ:=(HJ2.out.quiet HU8.out).pushN (p:=((p:Nat):Int)) (by rw [List.length_map];exact o7) u7 k7
        rw [List.length_map] at HQ
        exact ⟨⟨k+1,S',row++[p],_,_,by go_num,rfl,rfl,by omega,by omega,Lib.hid ⟨HSN.out,HJ.out.2.1,by rw [List.map_append];exact HQ,HJ.out.2.2.2⟩⟩,by simp [intOf];omega⟩
       ·have hpl:plcR S' d=-1:=by rw [plcR,if_neg hmm]
        have HSN:=Lib.hid (scan_new HJ.out.1 HNX.out hmm)
        rw [hpl] at HPL2
        clear hpl hmm
        obtain ⟨css,o1,o2,o3,o4⟩:=id HJ2.out.l
        have HCS:=Lib.hid (And.intro o1 (And.intro o2 (And.intro o3 o4)))
        clear o1 o2 o3 o4
        have hsl:S'.length≤1000:=by omega
        go_upto_region 20 with (first|((with_reducible refine HPL2.out.mono ?_);rintro e w8 ⟨rfl,u8⟩;have HU8:=Lib.hid u8;have x0:=u8.some x0 (by simp);have x1:=u8.some x1 (by simp);have x2:=u8.some x2 (by simp);have x3:=u8.some x3 (by simp);clear u8)|(refine wpList_push rfl rfl _ _ _ _ rfl rfl rfl 25 4 40 _ Tryz.underlying23 infoRR rfl (by decide) (by decide) (.agg #[.int .i64 d.kind,.int .u8 d.lo,.int .u8 d.hi,.slice a9 d.kids.length c9]) (rxC d.kind d.lo d.hi (.slice a9 d.kids.length c9)) rfl rfl rfl (by simp [rxC,Value.oneCell']) (.slice (some ⟨g,0,none⟩) S'.length lc2) _ _ (ownsRow_updL HCS.out.1 HU8.out (by simp)) rfl rfl (by unfold maxLen;omega) (by omega) ?_;intro g6 c6 w6 o6 u6 k6))
        have HQ6:=OwR.push (M:=(busy ab nv av (.slice na row.length nc))) (v:=.slice (some ⟨g,0,none⟩) S'.length lc2) (ks:=S') (w:=w8) (w':=w6) (r:=d) HCS.out.2.1 (fun b hb=>(HJ2.out.quiet HU8.out).blt b hb) HCS.out.2.2.1 rfl (fun i r hr=>(HCS.out.2.2.2 i r hr).ext HU8.out) (HXF.out.ext HU8.out) o6 u6 (k6.imp (fun h=>h.symm) fun h=>⟨_,rfl,h⟩)
        have HL6:=Lib.hid ((HJ2.out.quiet HU8.out).pushL HQ6 u6 (fun q hq=>by
         simp only [Value.ownBlock,Option.some.injEq] at hq
         subst hq
         exact k6))
        have HRW6:=Lib.hid (show w6.ownsRow 0 3 1 (.slice na row.length nc) row.length (ints (row.map Int.ofNat)) from by have:=HL6.out.rw;rwa [List.length_map] at this)
        clear HQ6 o6 u6 k6 x0 x1 x2 x3
        go_wp2_with (refine wpList_push rfl rfl _ _ _ _ rfl rfl rfl 3 1 8 _ Tryz.underlying22 infoInt rfl (by decide) (by decide) (.int .i64 (S'.length:Nat)) [.int .i64 (S'.length:Nat)] rfl rfl rfl (by simp [Value.oneCell']) (.slice na row.length nc) _ _ HRW6.out rfl rfl (by unfold maxLen;omega) (by omega) ?_;intro g7 c7 w7 o7 u7 k7)
        have HQ:=HL6.out.pushN (p:=((S'.length:Nat):Int)) (by rw [List.length_map];exact o7) u7 k7
        rw [List.length_map] at HQ
        refine ⟨⟨k+1,S'++[d],row++[S'.length],_,_,by go_num,rfl,rfl,by omega,by rw [List.length_append];simp;omega,Lib.hid ⟨HSN.out,?_,by rw [List.map_append];exact HQ,?_⟩⟩,by simp [intOf];omega⟩
        ·intro x hx
         rcases List.mem_append.1 hx with hx|hx
         ·exact HJ.out.2.1 x hx
         ·simp at hx;subst hx;exact HGD.out
        ·have h1:=HJ.out.2.2.2
         rw [List.getElem?_append_left (List.getElem?_eq_some_iff.1 h1).1]
         exact h1
     ·have hke:k=cuts.length:=by omega
      subst hke
      have HRL:=Lib.hid (show row.length=cuts.length from by have:=scan_len (nxO (nxR cuts) (some cur)) cuts.length (S.map some);rw [HJ.out.1] at this;exact this)
      by_cases h257:256<S'.length
      ·have hgi:(256:Int)<S'.length:=by omega
       have HNO:=Lib.hid (HE.out.1 (numO_over HI.out.1 HCR.out (by omega) HJ.out.1 h257))
       have bR:=H3.out.1.upd HJ.out.2.2.1.m.u (by simp)
       have r0:=bR.cell (i:=0) rfl
       have r1:=bR.cell (i:=1) rfl
       have r2:=bR.cell (i:=2) rfl
       have rf:∀ q,wr.frozen? ⟨pa+1,q,none⟩=false:=bR.free
       have HBR:=Lib.hid bR
       clear bR
       go_wp2_with fail
       have hs:=cell3_set (a:=.slice none 0 0) (b:=.slice none 0 0) (c:=.slice none 0 0) HBR.out
       rw [HNO.out.1,HNO.out.2]
       exact ret_rau2 rfl rfl rfl hs.1 rfl noA_F (((HW.out.2.step H3.out.2.1).step HJ.out.2.2.1.m.u).fresh hs.2 (fun b hb=>.inr (by simp at hb;subst hb;have:=HPA.out;omega)))
      ·have hgi:¬ (256:Int)<S'.length:=by omega
       have HT4:=Lib.hid (show T.length=s from HI.out.2.2.2)
       have HNT:=Lib.hid (show (natRows T).length≤256 from by unfold natRows;rw [List.length_map,HT4.out];omega)
       have HNS:=Lib.hid (show ((S.take s).map nul).length≤256 from by rw [List.length_map,List.length_take];omega)
       have HTK:=Lib.hid (take_of_scan (s:=s) HJ.out.1 (by omega))
       generalize hNN:natRows T=NT at *
       generalize hBB:(S.take s).map nul=BS at *
       have HNN:=Lib.hid (And.intro hNN hBB)
       clear hNN hBB
       obtain ⟨vals,hv1,hv2⟩:=id HJ.out.2.2.1.m.tb.ex
       have HV:=Lib.hid (And.intro hv1 hv2)
       clear hv1 hv2
       have q1:=HJ.out.2.2.1.m.bx.cell (i:=1) rfl
       go_upto_region 24 with (refine wpList_push rfl rfl _ _ _ _ rfl rfl rfl 22 1 24 _ Tryz.underlying28 infoInts rfl (by decide) (by decide) (.slice na row.length nc) [.slice na row.length nc] rfl rfl rfl (by simp [Value.oneCell']) nv _ _ HV.out.1.row rfl rfl (by have:=HNT.out;unfold maxLen;omega) (by have:=HNT.out;omega) ?_;intro g7 c7 w7 o7 u7 k7;have bx7:=HJ.out.2.2.1.m.bx.upd u7 (fun hm=>HJ.out.2.2.1.m.nn.2.1 (by simpa using hm));have p1:=bx7.cell (i:=1) rfl;have pf:∀ q,w7.frozen? ⟨ab,q,none⟩=false:=bx7.free;have HO7:=Lib.hid (And.intro o7 (And.intro u7 k7));clear o7 u7 k7 bx7)
       have HR2:=Lib.hid (HJ.out.2.2.1.row_ HV.out.1 HV.out.2 HO7.out.1 HO7.out.2.1 HO7.out.2.2)
       generalize (w7.setCell ⟨ab,1,none⟩ (.slice (some ⟨g7,0,none⟩) (NT.length+1) c7))=w8 at *
       have HSI:=Lib.hid HJ.out.2.2.2
       have hsi2:(s:Int)<S'.length:=by have:=(List.getElem?_eq_some_iff.1 HSI.out).1;omega
       obtain ⟨g,a3,c3,hge,hgM,hgl,hRF,e0,e1,e2,e3⟩:=owr_kid HR2.out.l HSI.out
       cases hge
       have HGC:=Lib.hid (HJ.out.2.1 cur (List.mem_of_getElem? HSI.out))
       have HNU:=Lib.hid (rNullable_calls (RxF.val (hRF.sub (M':=[]) (by simp))) HGC.out.2 HGC.out.1.proper)
       clear p1 pf q1 hgM hgl hRF
       go_upto_region 25 with ((with_reducible refine HNU.out.mono ?_);rintro e w9 ⟨rfl,u9⟩)
       have HR3:=Lib.hid (HR2.out.quiet u9)
       clear u9 e0 e1 e2 e3
       have q2:=HR3.out.m.bx.cell (i:=2) rfl
       go_wp2_with (refine wpList_push rfl rfl _ _ _ _ rfl rfl rfl 4 1 1 _ Tryz.underlying29 infoBool rfl (by decide) (by decide) (.bool (nul cur)) [.bool (nul cur)] rfl rfl rfl (by simp [Value.oneCell']) av _ _ HR3.out.m.ac rfl rfl (by have:=HNS.out;unfold maxLen;omega) (by have:=HNS.out;omega) ?_;intro g5 c5 w5' o5 u5 k5;have bx5:=HR3.out.m.bx.upd u5 (fun hm=>(HR3.out.m.an ab (by simpa using hm)).2.1 rfl);have p2:=bx5.cell (i:=2) rfl;have pf:∀ q,w5'.frozen? ⟨ab,q,none⟩=false:=bx5.free;have HO5:=Lib.hid (And.intro o5 (And.intro u5 k5));clear o5 u5 k5 bx5)
       have HR4:=Lib.hid (HR3.out.flag_ HO5.out.1 HO5.out.2.1 HO5.out.2.2)
       refine ⟨⟨s+1,S',T++[row],F++(Value.slice na row.length nc).ownBlock.toList,.slice (some ⟨g7,0,none⟩) (NT.length+1) c7,.slice (some ⟨g5,0,none⟩) (BS.length+1) c5,_,by go_num,rfl,by have:=(List.getElem?_eq_some_iff.1 HSI.out).1;omega,by omega,Lib.hid ⟨upTo_step HI.out.1 HCR.out HJ.out.1,HJ.out.2.1,?_,by rw [List.length_append,HT4.out];rfl⟩⟩,by simp [intOf];omega⟩
       have e1:natRows (T++[row])=NT++[row.map Int.ofNat]:=by rw [←HNN.out.1];simp [natRows]
       have e2:(S'.take (s+1)).map nul=BS++[nul cur]:=by
        rw [List.take_add_one,HSI.out,List.map_append,HTK.out,HNN.out.2];rfl
       rw [e1,e2]
       exact HR4.out
   ·have hse:s=S.length:=by omega
    subst hse
    have HNO:=Lib.hid (HE.out.2 S T (numO_done HI.out.1 (Nat.le_refl _) h256))
    have hTL:(natRows T).length=T.length:=by simp [natRows]
    have hBL:((S.take S.length).map nul)=S.map nul:=by rw [List.take_length]
    have HJ:=Lib.hid (show OfS w3 ab (.slice (some ⟨gc,oc,none⟩) cuts.length cc) nv av (.slice la S.length lc) (.slice none 0 0) cuts (natRows T) (S.map nul) F S [] wo from by have:=HI.out.2.2.1;rwa [hBL] at this)
    generalize natRows T=NT at *
    generalize S.map nul=BS at *
    obtain ⟨a2',c2',rfl,_⟩:=id HJ.out.m.tb.cl.form
    obtain ⟨a3',c3',rfl,_⟩:=id (SL.of_owns HJ.out.m.ac).elems
    have q0:=HJ.out.m.bx.cell (i:=0) rfl
    have q1:=HJ.out.m.bx.cell (i:=1) rfl
    have q2:=HJ.out.m.bx.cell (i:=2) rfl
    have bR:=H3.out.1.upd HJ.out.m.u (by simp)
    have r0:=bR.cell (i:=0) rfl
    have r1:=bR.cell (i:=1) rfl
    have r2:=bR.cell (i:=2) rfl
    have rf:∀ q,wo.frozen? ⟨pa+1,q,none⟩=false:=bR.free
    have HBR:=Lib.hid bR
    clear bR hTL hBL
    go_wp2_with fail
    have hs3:=cell3_set (a:=.slice (some ⟨gc,oc,none⟩) cuts.length cc) (b:=.slice a2' NT.length c2') (c:=.slice a3' BS.length c3') HBR.out
    have hlt1:=HPL.out
    have hlt2:=HZ3.out
    rw [HNO.out.1,HNO.out.2]
    refine ret_rau2 rfl rfl rfl hs3.1 rfl ⟨_,_,_,rfl,?_,?_,?_⟩ (((HW.out.2.step H3.out.2.1).step HJ.out.m.u).fresh hs3.2 (fun b hb=>.inr (by simp at hb;subst hb;have:=HPA.out;omega)))
    ·exact HJ.out.m.cu.upd hs3.2 (fun b hb hv=>by simp at hb;subst hb;have:=(HJ.out.m.cn _ hv).1;omega)
    ·exact (HJ.out.m.tb.upd hs3.2 (fun b hb=>by
      simp at hb;subst hb
      refine ⟨fun hf=>?_,fun hv=>?_⟩
      ·have:=HJ.out.m.fn _ hf;omega
      ·have:=(HJ.out.m.nv_new _ hv).1;omega)).cl
    ·exact SL.of_owns (ownsRow_updL HJ.out.m.ac hs3.2 (fun b hb hv=>by simp at hb;subst hb;have:=(HJ.out.m.an _ hv).1;omega))
 ·have HEE:=Lib.hid (show ofE r=nErr r∧ofA r=noA by unfold ofE ofA;rw [if_pos he,if_pos he];exact ⟨rfl,rfl⟩)
  have hb:(nErr r != 0)=true:=by simpa using he
  have r0:=bR3.cell (i:=0) rfl
  have r1:=bR3.cell (i:=1) rfl
  have r2:=bR3.cell (i:=2) rfl
  have rf:∀ q,w3.frozen? ⟨pa+1,q,none⟩=false:=bR3.free
  clear he bR3 bN
  generalize nErr r=er at *
  go_wp2_with fail
  have hs:=cell3_set (a:=.slice none 0 0) (b:=.slice none 0 0) (c:=.slice none 0 0) H3.out.1
  rw [HEE.out.1,HEE.out.2]
  exact ret_rau2 rfl rfl rfl hs.1 rfl noA_F ((HW.out.2.step H3.out.2.1).fresh hs.2 (fun b hb=>.inr (by simp at hb;subst hb;have:=HPA.out;omega)))
end
end Rgx
end Go.Proofs.YtjclbjdkkdijbaaGreat
end
