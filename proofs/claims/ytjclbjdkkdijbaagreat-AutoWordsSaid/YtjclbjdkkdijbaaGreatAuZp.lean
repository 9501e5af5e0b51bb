/- Walks through package auto: Complement. Conditions: none. Walks through the law of chapter 05: lives. Conditions: none. -/
import Derived.Test.YtjclbjdkkdijbaaGreatAuZb
import Derived.Test.YtjclbjdkkdijbaaGreatAuZd
import Derived.Test.YtjclbjdkkdijbaaGreatSame
set_option linter.unusedVariables false
set_option linter.unusedSimpArgs false
set_option linter.unusedSectionVars false
section
open Go.RowKit
namespace Go.Proofs.YtjclbjdkkdijbaaGreat
open L
namespace Aut
open Auto
attribute [-go_sem] sliced
def compA (a:Au):Au:=if vErr a≠0 then noA else ⟨a.cuts,a.next,a.acc.map not⟩
structure Cp (w0:World) (a:Au) (cb i j:Nat) (cv nv av:Value) (F:List Nat) (w:World):Prop where
 bx:Blk w cb [cv,nv,av] 31
 tb:OwnL 22 w0 nv (a.next.take i) F w
 ac:w.ownsRow 0 4 1 av j (bools ((a.acc.take j).map not))
 an:∀ q,av.ownBlock=some q→w0.heap.size≤q∧q≠cb∧q ∉ F∧nv.ownBlock≠some q
 cn:cb ∉ F∧nv.ownBlock≠some cb∧w0.heap.size≤cb
 u:Upd [] w0 w
 fn:∀ b∈F,w0.heap.size≤b
section
variable {w0 w w':World} {a:Au} {cb i j:Nat} {cv nv av:Value} {F:List Nat}
theorem Cp.quiet (h:Cp w0 a cb i j cv nv av F w) (hu:Upd [] w w'):Cp w0 a cb i j cv nv av F w':=
 ⟨h.bx.upd hu (by simp),h.tb.upd hu (by simp),ownsRow_updL h.ac hu (by simp),h.an,h.cn,h.u.step hu,h.fn⟩
end
section
variable {w w':World} {v:Value}
set_option maxRecDepth 100000 in
set_option maxHeartbeats 16000000 in
theorem Complement_calls {a:Au} (h:AuV w a v):Calls Tryz.prog 36 #[v] w fun e w'=>∃ v',e=.returned (.tuple #[v',.int .i64 (vErr a)])∧AuV w' (compA a) v'∧Upd [] w w':=by
 obtain ⟨a1,c1,a2,c2,a3,c3,rfl,hF⟩:=h.shape
 have HF:=Lib.hid hF
 clear h hF
 go_enter Tryz.func36,Tryz.ntmps36
 go_upto_region 1 with fail
 have b1:=(Blk.new w [.slice a1 a.cuts.length c1,.slice a2 a.next.length c2,.slice a3 a.acc.length c3] 31).alloc (.cells #[.slice none 0 0,.slice none 0 0,.slice none 0 0] 31)
 have b2:=Blk.new (w.alloc (.cells #[.slice a1 a.cuts.length c1,.slice a2 a.next.length c2,.slice a3 a.acc.length c3] 31)) [.slice none 0 0,.slice none 0 0,.slice none 0 0] 31
 have u1:=((Upd.refl [] w).alloc (.cells #[.slice a1 a.cuts.length c1,.slice a2 a.next.length c2,.slice a3 a.acc.length c3] 31)).alloc (.cells #[.slice none 0 0,.slice none 0 0,.slice none 0 0] 31)
 have z1:(w.alloc (.cells #[.slice a1 a.cuts.length c1,.slice a2 a.next.length c2,.slice a3 a.acc.length c3] 31)).heap.size=w.heap.size+1:=by simp
 rw [z1] at b2
 change Blk ((w.alloc (.cells #[.slice a1 a.cuts.length c1,.slice a2 a.next.length c2,.slice a3 a.acc.length c3] 31)).alloc (.cells #[.slice none 0 0,.slice none 0 0,.slice none 0 0] 31)) _ _ _ at b1
 change Blk ((w.alloc (.cells #[.slice a1 a.cuts.length c1,.slice a2 a.next.length c2,.slice a3 a.acc.length c3] 31)).alloc (.cells #[.slice none 0 0,.slice none 0 0,.slice none 0 0] 31)) _ _ _ at b2
 generalize ((w.alloc (.cells #[.slice a1 a.cuts.length c1,.slice a2 a.next.length c2,.slice a3 a.acc.length c3] 31)).alloc (.cells #[.slice none 0 0,.slice none 0 0,.slice none 0 0] 31))=w1 at *
 have k0:=b1.cell (i:=0) rfl
 have k1:=b1.cell (i:=1) rfl
 have k2:=b1.cell (i:=2) rfl
 have HB:=Lib.hid (And.intro b2 u1)
 have HVC:=Lib.hid (Valid_calls (v:=.agg #[.slice a1 a.cuts.length c1,.slice a2 a.next.length c2,.slice a3 a.acc.length c3]) ⟨_,rfl,HF.out.ext u1⟩)
 clear b1 b2 u1 z1
 generalize hpa:w.heap.size=pa at *
 have HPA:=Lib.hid hpa
 clear hpa
 by_cases he:vErr a=0
 ·have HOK:=Lib.hid (And.intro (vErr_ok he) he)
  have HE:=Lib.hid (show compA a=⟨a.cuts,a.next,a.acc.map not⟩ by unfold compA;rw [if_neg (by simpa using he)])
  rw [he] at HVC
  clear he
  go_upto_region 4 with ((with_reducible refine HVC.out.mono ?_);rintro e w2 ⟨rfl,u2⟩)
  have HU2:=Lib.hid (HB.out.2.step u2)
  have g0:=u2.some k0 (by simp)
  have g1:=u2.some k1 (by simp)
  have g2:=u2.some k2 (by simp)
  have HB2:=Lib.hid (HB.out.1.upd u2 (by simp))
  clear k0 k1 k2 u2
  have hsl:SL w2 1 (.slice a1 a.cuts.length c1) a.cuts.length (ints a.cuts):=by
   obtain ⟨cv,nv,av,he,h3,_,_⟩:=HF.out
   cases he
   exact h3.upd HU2.out (by simp)
  have hle:=hsl.elems
  have HCL:=Lib.hid (CloneI_calls hsl (by have:=cuts_len HOK.out.1;omega))
  clear hsl hle
  go_upto_region 5 with ((with_reducible refine HCL.out.mono ?_);rintro e w3 ⟨an,cn,rfl,o3⟩)
  have bC:=Blk.new w3 [.slice an a.cuts.length cn,.slice none 0 0,.slice none 0 0] 31
  have uC:=(Upd.refl [] w3).alloc (.cells #[.slice an a.cuts.length cn,.slice none 0 0,.slice none 0 0] 31)
  change Blk (w3.alloc (.cells #[.slice an a.cuts.length cn,.slice none 0 0,.slice none 0 0] 31)) _ _ _ at bC
  have j1:=(o3.fresh.step uC).some g1 (by simp)
  have H3:=Lib.hid (And.intro o3.sl (And.intro (HU2.out.step o3.fresh) (And.intro (HB2.out.upd o3.fresh (by simp)) o3.fresh)))
  have HCO:=Lib.hid (show ∀ q,(Value.slice an a.cuts.length cn).ownBlock=some q→w2.heap.size≤q from fun q hq=>by
   rcases o3.old q hq with h|h
   ·simp [Value.ownBlock] at h
   ·exact h)
  have HSZ:=Lib.hid (And.intro HB2.out.lt o3.fresh.size)
  generalize (w3.alloc (.cells #[.slice an a.cuts.length cn,.slice none 0 0,.slice none 0 0] 31))=w4 at *
  have HC:=Lib.hid (And.intro bC uC)
  clear bC uC o3
  have HZ:=Lib.hid (Nat.le_refl w3.heap.size)
  go_wp2_with fail
  have HCB:∃ cb,w3.heap.size=cb:=⟨_,rfl⟩
  obtain ⟨cb,hcb⟩:=HCB
  rw [hcb] at HC ⊢
  have HLE:=Lib.hid (Nat.le_of_eq hcb)
  clear hcb HZ
  go_loopw [21] (fun kv wr=>∃ (i:Nat) (nv av:Value) (F:List Nat),kv=.int .i64 i∧i≤a.next.length∧Hid (Cp w3 a cb i i (.slice an a.cuts.length cn) nv av F wr)) (fun kv _=>a.next.length - (intOf kv).toNat)
  case atStart=>exact ⟨0,_,_,[],rfl,Nat.zero_le _,Lib.hid ⟨HC.out.1,OwnL.nil _ _ _,World.ownsRow_nil _ _ _ _,fun q hq=>by simp [Value.ownBlock] at hq,⟨by simp,by simp [Value.ownBlock],HLE.out⟩,HC.out.2,by simp⟩⟩
  case round=>
   obtain ⟨i,nv,av,F,rfl,hi,HI⟩:=hrel
   by_cases hlt:i<a.next.length
   ·have hli:(i:Int)<a.next.length:=by omega
    obtain ⟨g,off,ar,cr,he,hc,hrow⟩:=(HF.out.ext HU2.out).row hlt
    cases he
    have HROW:=Lib.hid (And.intro (HOK.out.1.rows _ (gd_memA (d:=[]) hlt)).1 (And.intro (cuts_len HOK.out.1) (show a.next.take (i+1)=a.next.take i++[a.next.getD i []] by rw [List.take_add_one,gd_some (d:=[]) hlt];rfl)))
    generalize a.next.getD i []=row at *
    have hc':=(H3.out.2.2.2.step HI.out.u)
    have HRO:=Lib.hid (show SL wr 1 (.slice ar row.length cr) row.length (ints row) from hrow.upd hc' (by simp))
    have hcc:wr.cell? ⟨g,off+i,none⟩=some (.slice ar row.length cr):=HI.out.u.some (H3.out.2.2.2.some hc (by simp)) (by simp)
    have q1:=HI.out.bx.cell (i:=1) rfl
    have q2:=HI.out.bx.cell (i:=2) rfl
    clear hc hrow hc'
    go_upto_region 8 with fail
    go_cut [] (fun w'=>∃ nv' F',Cp w3 a cb (i+1) i (.slice an a.cuts.length cn) nv' av F' w')
    case first=>
     obtain ⟨vals,hv1,hv2⟩:=HI.out.tb.ex
     have HV:=Lib.hid (And.intro hv1 hv2)
     have hfew:=HOK.out.1.few
     have HTK:=Lib.hid (show (a.next.take i).length≤256 by rw [List.length_take];omega)
     clear hv1 hv2 hfew
     have HCR:=Lib.hid (fun (w5:World) (u5:Upd [] wr w5)=>CloneI_calls (HRO.out.upd u5 (by simp)) (by have:=HROW.out.1;have:=HROW.out.2.1;omega))
     go_wp2_with fail
     refine wp_region_ord 5 1 [0,1,2,6] [1] [0,1,2,3,4,5,6,7] (fun w'=>∃ x:Ext wr,w'=x.val) (by kernel_rfl) (by kernel_rfl) (Ext.of (by iterate 25 (first|exact Upd.refl _ _|assumption|refine Upd.alloc ?_ _|refine Upd.drew ?_|refine Upd.drewN ?_ _|refine Upd.dl ?_|refine Upd.step ?_ (Ext.upd _)|refine Upd.nil ?_|skip))) ?_
     repeat (first|(refine wpOrd_load rfl rfl rfl rfl (fun K hK=>?_);go_big_quiet_step (fail);refine wpQuiet_nil ?_;refine hK _ ?_;clear hK K)|(refine wpOrd_free rfl rfl rfl (fun K hK=>?_);go_big_quiet_step (fail);refine wpQuiet_nil ?_;refine hK _ ?_;clear hK K))
     refine wpOrd_fix rfl rfl (fun K hK=>?_)
     go_wp2_with ((with_reducible refine (HCR.out _ (by iterate 25 (first|exact Upd.refl _ _|assumption|refine Upd.alloc ?_ _|refine Upd.drew ?_|refine Upd.drewN ?_ _|refine Upd.dl ?_|refine Upd.step ?_ (Ext.upd _)|refine Upd.nil ?_|skip))).mono ?_);rintro e w6 ⟨a6,c6,rfl,o6⟩)
     have HO6:=Lib.hid (And.intro o6 (show Upd [] wr w6 from Upd.step (by iterate 25 (first|exact Upd.refl _ _|assumption|refine Upd.alloc ?_ _|refine Upd.drew ?_|refine Upd.drewN ?_ _|refine Upd.dl ?_|refine Upd.step ?_ (Ext.upd _)|refine Upd.nil ?_|skip)) o6.fresh))
     clear o6
     refine ⟨fun _=>Ext.of HO6.out.2,?_⟩
     repeat (first|(refine wpOrd_load rfl rfl rfl rfl (fun K hK=>?_);go_big_quiet_step (fail);refine wpQuiet_nil ?_;refine hK _ ?_;clear hK K)|(refine wpOrd_free rfl rfl rfl (fun K hK=>?_);go_big_quiet_step (fail);refine wpQuiet_nil ?_;refine hK _ ?_;clear hK K))
     refine wpOrd_fix rfl rfl (fun K hK=>?_)
     go_wp2_with fail
     have HNB2:=Lib.hid (show Blk (w6.alloc (.cells #[.slice a6 row.length c6] 22)) w6.heap.size [.slice a6 row.length c6] 22∧Upd [] w6 (w6.alloc (.cells #[.slice a6 row.length c6] 22)) from ⟨Blk.new w6 _ _,(Upd.refl [] w6).alloc _⟩)
     generalize (w6.alloc (.cells #[.slice a6 row.length c6] 22))=wB at *
     generalize w6.heap.size=gB at *
     have HUB:=Lib.hid (HO6.out.2.step HNB2.out.2)
     refine ⟨fun _=>Ext.of HUB.out,?_⟩
     repeat (first|(refine wpOrd_load rfl rfl rfl rfl (fun K hK=>?_);go_big_quiet_step (fail);refine wpQuiet_nil ?_;refine hK _ ?_;clear hK K)|(refine wpOrd_free rfl rfl rfl (fun K hK=>?_);go_big_quiet_step (fail);refine wpQuiet_nil ?_;refine hK _ ?_;clear hK K))
     refine wpOrd_fix rfl rfl (fun K hK=>?_)
     refine wpList_app rfl _ _ _ rfl 22 1 24 _ Tryz.underlying28 infoInts rfl (by decide) nv _ _ rfl (ownsRow_updL HV.out.1.row HUB.out (by simp)) gB 1 1 [.slice a6 row.length c6] 22 rfl rfl HNB2.out.1 (by simp [Value.oneCell']) (by omega) (by have:=HTK.out;unfold maxLen;omega) (by have:=HTK.out;omega) ?_
     intro g7 c7 w7 o7 u7 k7
     simp only [Act.put,List.setIfInBounds_toArray,List.set_cons_zero,List.set_cons_succ]
     have bx7:Blk w7 cb [.slice an a.cuts.length cn,nv,av] 31:=(HI.out.bx.upd HUB.out (by simp)).upd u7 (fun hm=>HI.out.cn.2.1 (by simpa using hm))
     have q1':=bx7.cell (i:=1) rfl
     have f1':∀ q,w7.frozen? ⟨cb,q,none⟩=false:=bx7.free
     have H7:=Lib.hid (And.intro o7 (And.intro u7 (And.intro k7 bx7)))
     clear o7 u7 k7 bx7 q1
     go_wp2_with fail
     refine ⟨fun hC=>absurd hC (by decide),?_⟩
     repeat (first|(refine wpOrd_load rfl rfl rfl rfl (fun K hK=>?_);go_big_quiet_step (fail);refine wpQuiet_nil ?_;refine hK _ ?_;clear hK K)|(refine wpOrd_free rfl rfl rfl (fun K hK=>?_);go_big_quiet_step (fail);refine wpQuiet_nil ?_;refine hK _ ?_;clear hK K))
     refine wpOrd_fix rfl rfl (fun K hK=>?_)
     go_wp2_with fail
     refine ⟨fun hC=>absurd hC (by decide),?_⟩
     refine wpOrd_nil ?_
     go_wp2_with fail
     go_meet
     case rel=>
      have hti:(a.next.take i).length=i:=by rw [List.length_take];omega
      have hyf:∀ b,(Value.slice a6 row.length c6).ownBlock=some b→wr.heap.size≤b:=fun b hb=>by
       rcases HO6.out.1.old b hb with h|h
       ·simp [Value.ownBlock] at h
       ·exact Nat.le_trans (Nat.le_of_eq rfl) h
      have htb:=(HI.out.tb.upd HUB.out (by simp)).push (HV.out.1.upd HUB.out (by simp)) (fun i c hc=>by
       obtain ⟨y,h1,h2,h3⟩:=HV.out.2 i c hc
       exact ⟨y,h1,h2.upd HUB.out (by simp),h3⟩) (by have:=HI.out.u.size;have:=HUB.out.size;omega) (c:=row) (y:=.slice a6 row.length c6) (HO6.out.1.sl.upd HNB2.out.2 (by simp)) (fun b hb=>⟨fun hn=>by have:=HI.out.tb.own_lt b hn;have:=hyf b hb;omega,by have:=HO6.out.1.lt hb;have:=HNB2.out.2.size;omega⟩) H7.out.1 H7.out.2.1 (H7.out.2.2.1.imp id fun h=>Nat.le_of_eq h.symm)
      rw [←HROW.out.2.2,hti] at htb
      have us:Upd [cb] w7 (w7.setCell ⟨cb,1,none⟩ (.slice (some ⟨g7,0,none⟩) (i+1) c7)):=(Upd.refl [cb] w7).set (p:=⟨cb,1,none⟩) (by simp) _
      have hcl:=HI.out.bx.lt
      have hcF:∀ b∈(Value.slice a6 row.length c6).ownBlock.toList,wr.heap.size≤b:=fun b hb=>hyf b (by simpa using hb)
      have hg7:nv.ownBlock=some g7∨wr.heap.size≤g7:=H7.out.2.2.1.imp id fun h=>by have:=HUB.out.size;omega
      have hzz:=HI.out.u.size
      have hgc:g7≠cb:=fun e=>by
       rcases hg7 with h|h
       ·exact HI.out.cn.2.1 (e ▸ h)
       ·omega
      refine ⟨_,F++(Value.slice a6 row.length c6).ownBlock.toList,H7.out.2.2.2.set 1 _,htb.upd us (fun b hb=>?_),?_,fun q hq=>?_,⟨?_,?_,HI.out.cn.2.2⟩,?_,fun b hb=>?_⟩
      ·simp at hb;subst hb
       refine ⟨fun hf=>?_,fun hv=>hgc (by simpa [Value.ownBlock] using hv)⟩
       rcases List.mem_append.1 hf with h|h
       ·exact HI.out.cn.1 h
       ·have:=hcF _ h;omega
      ·exact ownsRow_updL (ownsRow_updL (ownsRow_updL HI.out.ac HUB.out (by simp)) H7.out.2.1 (fun b hb hv=>(HI.out.an _ hv).2.2.2 (by simpa using hb))) us (fun b hb hv=>(HI.out.an _ hv).2.1 (by simpa using hb))
      ·obtain ⟨h1,h2,h3,h4⟩:=HI.out.an q hq
       have hql:=(HI.out.ac.lt q hq).2
       refine ⟨h1,h2,fun hm=>?_,fun he=>?_⟩
       ·rcases List.mem_append.1 hm with h|h
        ·exact h3 h
        ·have:=hcF _ h;omega
       ·simp [Value.ownBlock] at he;subst he
        rcases hg7 with h|h
        ·exact h4 h
        ·omega
      ·intro hm
       rcases List.mem_append.1 hm with h|h
       ·exact HI.out.cn.1 h
       ·have:=hcF _ h;omega
      ·exact fun hv=>hgc (by simpa [Value.ownBlock] using hv)
      ·exact ((HI.out.u.step HUB.out).fresh H7.out.2.1 (fun b hb=>.inr (HV.out.1.fresh _ (by simpa using hb)))).fresh us (fun b hb=>.inr (by simp at hb;subst hb;exact HI.out.cn.2.2))
      ·rcases List.mem_append.1 hb with h|h
       ·exact HI.out.fn _ h
       ·have:=hcF _ h;omega
    case rest=>
     obtain ⟨nv',F',hC⟩:=hcut
     have HC2:=Lib.hid hC
     clear hC
     have hia:i<a.acc.length:=by rw [HOK.out.1.acc];exact hlt
     obtain ⟨g3,off3,he3,hacc⟩:=(HF.out.ext HU2.out).acc hia
     cases he3
     have hac':wc.cell? ⟨g3,off3+i,none⟩=some (.bool (a.acc.getD i false)):=HC2.out.u.some (H3.out.2.2.2.some hacc (by simp)) (by simp)
     have hp2:wc.cell? ⟨pa,2,none⟩=some (.slice (some ⟨g3,off3,none⟩) a.acc.length c3):=HC2.out.u.some (H3.out.2.2.2.some g2 (by simp)) (by simp)
     have q2:=HC2.out.bx.cell (i:=2) rfl
     have HBI:=Lib.hid (show (a.acc.take (i+1)).map not=(a.acc.take i).map not++[!a.acc.getD i false] by
      rw [List.take_add_one,gd_some (d:=false) hia];simp)
     clear hacc
     generalize a.acc.getD i false=bi at *
     go_wp2_with fail
     refine wp_region_ord 9 6 [0,1,2,3,4,5,6,7,10] [1,3,6] [0,1,2,3,4,5,6,7,8,9,10,11] (fun w'=>∃ x:Ext wc,w'=x.val) (by kernel_rfl) (by kernel_rfl) (Ext.of (by iterate 25 (first|exact Upd.refl _ _|assumption|refine Upd.alloc ?_ _|refine Upd.drew ?_|refine Upd.drewN ?_ _|refine Upd.dl ?_|refine Upd.step ?_ (Ext.upd _)|refine Upd.nil ?_|skip))) ?_
     repeat (first|(refine wpOrd_load rfl rfl rfl rfl (fun K hK=>?_);go_big_quiet_step (fail);refine wpQuiet_nil ?_;refine hK _ ?_;clear hK K)|(refine wpOrd_free rfl rfl rfl (fun K hK=>?_);go_big_quiet_step (fail);refine wpQuiet_nil ?_;refine hK _ ?_;clear hK K))
     refine wpOrd_fix rfl rfl (fun K hK=>?_)
     go_wp2_with fail
     have HNB3:=Lib.hid (show Blk ((wc.alloc (.cells #[.bool !bi] 4)).drew) wc.heap.size [.bool !bi] 4∧Upd [] wc ((wc.alloc (.cells #[.bool !bi] 4)).drew) from ⟨Blk.new wc [.bool !bi] 4,(by iterate 25 (first|exact Upd.refl _ _|assumption|refine Upd.alloc ?_ _|refine Upd.drew ?_|refine Upd.drewN ?_ _|refine Upd.dl ?_|refine Upd.step ?_ (Ext.upd _)|refine Upd.nil ?_|skip))⟩)
     have HGB:=Lib.hid (Nat.le_refl wc.heap.size)
     generalize ((wc.alloc (.cells #[.bool !bi] 4)).drew)=wB at *
     generalize wc.heap.size=gB at HNB3 HGB ⊢
     have hi6:i≤256:=by have:=HOK.out.1.few;omega
     refine ⟨fun _=>Ext.of HNB3.out.2,?_⟩
     repeat (first|(refine wpOrd_load rfl rfl rfl rfl (fun K hK=>?_);go_big_quiet_step (fail);refine wpQuiet_nil ?_;refine hK _ ?_;clear hK K)|(refine wpOrd_free rfl rfl rfl (fun K hK=>?_);go_big_quiet_step (fail);refine wpQuiet_nil ?_;refine hK _ ?_;clear hK K))
     refine wpOrd_fix rfl rfl (fun K hK=>?_)
     refine wpList_app rfl _ _ _ rfl 4 1 1 _ Tryz.underlying29 infoBool rfl (by decide) av _ _ rfl (ownsRow_updL HC2.out.ac HNB3.out.2 (by simp)) gB 1 1 [.bool !bi] 4 rfl rfl HNB3.out.1 (by simp [Value.oneCell']) (by omega) (by unfold maxLen;omega) (by omega) ?_
     intro g7 c7 w7 o7 u7 k7
     simp only [Act.put,List.setIfInBounds_toArray,List.set_cons_zero,List.set_cons_succ]
     have bx7:=(HC2.out.bx.upd HNB3.out.2 (by simp)).upd u7 (fun hm=>(HC2.out.an cb (by simpa using hm)).2.1 rfl)
     have q2':=bx7.cell (i:=2) rfl
     have f2':∀ q,w7.frozen? ⟨cb,q,none⟩=false:=bx7.free
     have H7:=Lib.hid (And.intro o7 (And.intro u7 (And.intro k7 bx7)))
     clear o7 u7 k7 bx7 q2
     go_wp2_with fail
     refine ⟨fun hC=>absurd hC (by decide),?_⟩
     repeat (first|(refine wpOrd_load rfl rfl rfl rfl (fun K hK=>?_);go_big_quiet_step (fail);refine wpQuiet_nil ?_;refine hK _ ?_;clear hK K)|(refine wpOrd_free rfl rfl rfl (fun K hK=>?_);go_big_quiet_step (fail);refine wpQuiet_nil ?_;refine hK _ ?_;clear hK K))
     refine wpOrd_fix rfl rfl (fun K hK=>?_)
     go_wp2_with fail
     refine ⟨fun hC=>absurd hC (by decide),?_⟩
     refine wpOrd_nil ?_
     go_wp2_with fail
     have us:Upd [cb] w7 (w7.setCell ⟨cb,2,none⟩ (.slice (some ⟨g7,0,none⟩) (i+1) c7)):=(Upd.refl [cb] w7).set (p:=⟨cb,2,none⟩) (by simp) _
     have hz1:=HNB3.out.2.size
     have hz2:=HC2.out.bx.lt
     have hz3:=HC2.out.u.size
     have hg7:av.ownBlock=some g7∨wc.heap.size≤g7:=H7.out.2.2.1.imp id fun h=>by omega
     have hgc:g7≠cb:=fun e=>by
      rcases hg7 with h|h
      ·exact (HC2.out.an _ h).2.1 e
      ·omega
     refine ⟨⟨i+1,nv',_,F',by go_num,by omega,Lib.hid ⟨H7.out.2.2.2.set 2 _,((HC2.out.tb.upd HNB3.out.2 (by simp)).upd H7.out.2.1 (fun b hb=>?_)).upd us (fun b hb=>?_),?_,fun q hq=>?_,HC2.out.cn,((HC2.out.u.step HNB3.out.2).fresh H7.out.2.1 (fun b hb=>.inr (HC2.out.an b (by simpa using hb)).1)).fresh us (fun b hb=>.inr (by simp at hb;subst hb;exact HC2.out.cn.2.2)),HC2.out.fn⟩⟩,by simp [intOf];omega⟩
     ·have:=HC2.out.an b (by simpa using hb)
      exact ⟨this.2.2.1,this.2.2.2⟩
     ·simp at hb;subst hb;exact ⟨HC2.out.cn.1,HC2.out.cn.2.1⟩
     ·have h1:=ownsRow_updL H7.out.1 us (fun b hb hv=>by simp at hb;subst hb;simp [Value.ownBlock] at hv;exact hgc hv)
      rw [HBI.out]
      simpa [bools] using h1
     ·simp only [Value.ownBlock,Option.some.injEq] at hq
      subst hq
      rcases hg7 with h|h
      ·exact HC2.out.an _ h
      ·refine ⟨by omega,hgc,fun hf=>?_,fun hv=>?_⟩
       ·have:=HC2.out.tb.lt _ hf;omega
       ·have:=HC2.out.tb.own_lt _ hv;omega
   ·have hie:i=a.next.length:=by omega
    subst hie
    have hni:¬ ((a.next.length:Int)<a.next.length):=by omega
    obtain ⟨vals,hv1,hv2⟩:=id HI.out.tb.ex
    obtain ⟨a2',c2',rfl,_⟩:=id HI.out.tb.cl.form
    obtain ⟨a3',c3',rfl,_⟩:=id (SL.of_owns HI.out.ac).elems
    have q0:=HI.out.bx.cell (i:=0) rfl
    have q1:=HI.out.bx.cell (i:=1) rfl
    have q2:=HI.out.bx.cell (i:=2) rfl
    have bR:=H3.out.2.2.1.upd HI.out.u (by simp)
    have r0:=bR.cell (i:=0) rfl
    have r1:=bR.cell (i:=1) rfl
    have r2:=bR.cell (i:=2) rfl
    have rf:∀ q,wr.frozen? ⟨pa+1,q,none⟩=false:=bR.free
    have HBR:=Lib.hid bR
    clear bR hv1 hv2
    go_wp2_with fail
    have hs:=cell3_set (a:=.slice an a.cuts.length cn) (b:=.slice a2' a.next.length c2') (c:=.slice a3' a.next.length c3') HBR.out
    have z1:=HSZ.out.1
    have z2:=HSZ.out.2
    rw [HE.out,HOK.out.2]
    refine ret_au2 rfl rfl rfl hs.1 rfl ⟨_,_,_,rfl,?_,?_,?_⟩ ((H3.out.2.1.step HI.out.u).fresh hs.2 (fun b hb=>.inr (by simp at hb;subst hb;have:=HPA.out;omega)))
    ·exact (H3.out.1.upd HI.out.u (by simp)).upd hs.2 (fun b hb hv=>by simp at hb;subst hb;have:=HCO.out _ hv;omega)
    ·have h1:=(HI.out.tb.upd hs.2 (fun b hb=>by
      simp at hb;subst hb
      refine ⟨fun hf=>?_,fun hv=>?_⟩
      ·have:=HI.out.fn _ hf;omega
      ·obtain ⟨vals,h1,_⟩:=HI.out.tb.ex
       have:=h1.fresh _ hv;omega)).cl
     rw [List.take_length] at h1
     simpa using h1
    ·have h1:=SL.of_owns (ownsRow_updL HI.out.ac hs.2 (fun b hb hv=>by simp at hb;subst hb;have:=(HI.out.an _ hv).1;omega))
     rw [List.take_of_length_le (by rw [HOK.out.1.acc];exact Nat.le_refl _)] at h1
     simpa [HOK.out.1.acc] using h1
 ·have hb:(vErr a != 0)=true:=by simpa using he
  have HE:=Lib.hid (show compA a=noA by unfold compA;rw [if_pos he])
  clear he
  generalize her:vErr a=er at HVC hb
  have HER:=Lib.hid her
  clear her
  go_wp2_with ((with_reducible refine HVC.out.mono ?_);rintro e w2 ⟨rfl,u2⟩;have bR:=HB.out.1.upd u2 (by simp);have r0:=bR.cell (i:=0) rfl;have r1:=bR.cell (i:=1) rfl;have r2:=bR.cell (i:=2) rfl;have rf:∀ q,w2.frozen? ⟨pa+1,q,none⟩=false:=bR.free;have HBR:=Lib.hid (And.intro bR u2);clear bR u2)
  have hs:=cell3_set (a:=.slice none 0 0) (b:=.slice none 0 0) (c:=.slice none 0 0) HBR.out.1
  rw [HE.out,HER.out]
  exact ret_au2 rfl rfl rfl hs.1 rfl noA_F ((HB.out.2.step HBR.out.2).fresh hs.2 (fun b hb=>.inr (by simp at hb;subst hb;have:=HPA.out;omega)))
end
end Aut
end Go.Proofs.YtjclbjdkkdijbaaGreat
end
section
open Go.RowKit
namespace Go.Proofs.YtjclbjdkkdijbaaGreat
open L
namespace Aut
open Auto R01 Rgx Rx
attribute [-go_sem] sliced
def rS:Rx:=nd 7 0 0 [nd 2 97 97 []]
def aS:Au:=⟨[0,97,98],[[1,0,1],[1,1,1]],[true,false]⟩
theorem rS_err:nErr rS=0:=by kernel_rfl
theorem rS_res:nRes rS=rS:=by kernel_rfl
theorem rS_cuts:srtC (0::cutB (nRes rS))=[0,97,98]:=by rw [srtC_put,rS_res];kernel_rfl
theorem rS_upTo:upTo (some rS) 3 (nxO (nxR [0,97,98])) 2=([rS,rNone].map some,[[1,0,1],[1,1,1]]):=by kernel_rfl
theorem rS_of:ofE rS=0∧ofA rS=aS:=by
 have h:=numO_done rS_upTo (by decide) (by decide)
 unfold ofE ofA
 rw [if_neg (by simp [rS_err]),if_neg (by simp [rS_err]),rS_cuts,rS_res]
 rw [show ([0,97,98]:List Int).length=3 from rfl,h]
 exact ⟨rfl,by kernel_rfl⟩
theorem aS_v:vErr aS=0:=by decide
theorem aS_least:lstS aS=⟨#[]⟩∧lstB aS=true:=by
 have h:=leastA_at (a:=aS) (i:=0) (e:=(0,[])) (by decide) rfl rfl (fun j e' hj=>by omega)
 unfold lstS lstB
 rw [if_neg (by simp [aS_v]),if_neg (by simp [aS_v]),h]
 exact ⟨rfl,rfl⟩
theorem cS:compA aS=⟨[0,97,98],[[1,0,1],[1,1,1]],[false,true]⟩:=by unfold compA;rw [if_neg (by simp [aS_v])];rfl
theorem cS_v:vErr (compA aS)=0:=by rw [cS];decide
theorem cS_least:lstS (compA aS)=⟨#[0]⟩∧lstB (compA aS)=true:=by
 have hq:bfsQ (compA aS) 1=[(0,[]),(1,[0])]:=by rw [cS];decide
 have h:=leastA_at (a:=compA aS) (i:=1) (e:=(1,[0])) (by decide) (by rw [hq];rfl) (by rw [cS];rfl) (fun j e' hj he=>by
  have:j=0:=by omega
  subst this
  rw [hq] at he
  cases he
  rw [cS];rfl)
 unfold lstS lstB
 rw [if_neg (by simp [cS_v]),if_neg (by simp [cS_v]),h]
 exact ⟨rfl,rfl⟩
theorem aS_left:leftE aS 0 5=0∧leftR aS 0 5=[true,true,true,true,true,true]:=by decide
def cA:Au:=⟨[0,97,98],[[1,0,1],[1,1,1]],[false,true]⟩
theorem aS_shape {w:World} {v:Value} (h:AuV w aS v):∃ a1 c1 a2 c2 a3 c3,v=.agg #[.slice a1 3 c1,.slice a2 2 c2,.slice a3 2 c3]∧AuF w aS [.slice a1 3 c1,.slice a2 2 c2,.slice a3 2 c3]:=h.shape
theorem cA_shape {w:World} {v:Value} (h:AuV w (compA aS) v):∃ a1 c1 a2 c2 a3 c3,v=.agg #[.slice a1 3 c1,.slice a2 2 c2,.slice a3 2 c3]∧AuF w cA [.slice a1 3 c1,.slice a2 2 c2,.slice a3 2 c3]:=by
 rw [cS] at h
 exact AuV.shape (a:=cA) h
theorem cA_least:vErr cA=0∧lstS cA=⟨#[0]⟩∧lstB cA=true:=by
 have h1:=cS_v
 have h2:=cS_least
 rw [cS] at h1 h2
 exact ⟨h1,h2⟩
section
variable {w:World}
theorem rS_V {w:World} {g c:Nat} (h:Blk w g [.int .i64 2,.int .u8 97,.int .u8 97,.slice none 0 0] 37) (hc:1≤c) (hm:c≤maxLen):RxV [] w rS (.agg #[.int .i64 7,.int .u8 0,.int .u8 0,.slice (some ⟨g,0,none⟩) 1 c]):=by
 refine RxV.iff.2 ⟨_,rfl,⟨⟨by decide,by decide⟩,by omega,by omega⟩,fun _=>rxC 2 97 97 (.slice none 0 0),⟨rfl,_,c,rfl,hc,hm,by simp,.inr ⟨g,0,rfl,fun j u hj=>?_⟩⟩,fun _=>rfl,fun g' _ _=>by simp,fun i r hi=>?_⟩
 ·rw [Nat.zero_add];exact h.cell hj
 ·have:i=0:=by
   have:=(List.getElem?_eq_some_iff.1 hi).1
   simpa using this
  subst this
  simp at hi
  subst hi
  exact RxF.iff.2 ⟨_,rfl,⟨⟨by decide,by decide⟩,by omega,by omega⟩,RxL.nil0⟩
set_option maxRecDepth 100000 in
set_option maxHeartbeats 16000000 in
theorem lives_calls:Calls Tryz.prog 18 #[] w fun e w'=>e=.returned (.bool true)∧Upd [] w w':=by
 go_enter Tryz.func18,Tryz.ntmps18
 go_upto_region 2 with fail
 change Code.wp _ _ _ _ ((w.alloc (.cells #[.int .i64 2,.int .u8 97,.int .u8 97,.slice none 0 0] 37)).alloc (.cells #[.int .i64 7,.int .u8 0,.int .u8 0,.slice (some ⟨w.heap.size,0,none⟩) 1 1] 37))
 have bK:=(Blk.new w [.int .i64 2,.int .u8 97,.int .u8 97,.slice none 0 0] 37).alloc (.cells #[.int .i64 7,.int .u8 0,.int .u8 0,.slice (some ⟨w.heap.size,0,none⟩) 1 1] 37)
 have bS:=Blk.new (w.alloc (.cells #[.int .i64 2,.int .u8 97,.int .u8 97,.slice none 0 0] 37)) [.int .i64 7,.int .u8 0,.int .u8 0,.slice (some ⟨w.heap.size,0,none⟩) 1 1] 37
 have u1:=((Upd.refl [] w).alloc (.cells #[.int .i64 2,.int .u8 97,.int .u8 97,.slice none 0 0] 37)).alloc (.cells #[.int .i64 7,.int .u8 0,.int .u8 0,.slice (some ⟨w.heap.size,0,none⟩) 1 1] 37)
 have z1:(w.alloc (.cells #[.int .i64 2,.int .u8 97,.int .u8 97,.slice none 0 0] 37)).heap.size=w.heap.size+1:=by simp
 rw [z1] at bS
 change Blk ((w.alloc (.cells #[.int .i64 2,.int .u8 97,.int .u8 97,.slice none 0 0] 37)).alloc (.cells #[.int .i64 7,.int .u8 0,.int .u8 0,.slice (some ⟨w.heap.size,0,none⟩) 1 1] 37)) _ _ _ at bS
 generalize ((w.alloc (.cells #[.int .i64 2,.int .u8 97,.int .u8 97,.slice none 0 0] 37)).alloc (.cells #[.int .i64 7,.int .u8 0,.int .u8 0,.slice (some ⟨w.heap.size,0,none⟩) 1 1] 37))=w1 at *
 have HU1:=Lib.hid u1
 have HOF:=Lib.hid (Of_calls (rS_V bK (Nat.le_refl _) (by decide)))
 rw [rS_of.1,rS_of.2] at HOF
 have s0:=bS.cell (i:=0) rfl
 have s1:=bS.cell (i:=1) rfl
 have s2:=bS.cell (i:=2) rfl
 have s3:=bS.cell (i:=3) rfl
 clear bK bS u1 z1
 generalize w.heap.size=sb at *
 go_upto_region 3 with ((with_reducible refine HOF.out.mono ?_);rintro e w2 ⟨v2,rfl,hA,u2⟩;obtain ⟨a1,c1,a2,c2,a3,c3,rfl,hF⟩:=aS_shape hA;have HF:=Lib.hid (And.intro hF (HU1.out.step u2));clear hA hF u2)
 change Code.wp _ _ _ _ (w2.alloc (.cells #[.slice a1 3 c1,.slice a2 2 c2,.slice a3 2 c3] 31))
 have b3:=Blk.new w2 [.slice a1 3 c1,.slice a2 2 c2,.slice a3 2 c3] 31
 have u3:=(Upd.refl [] w2).alloc (.cells #[.slice a1 3 c1,.slice a2 2 c2,.slice a3 2 c3] 31)
 change Blk (w2.alloc (.cells #[.slice a1 3 c1,.slice a2 2 c2,.slice a3 2 c3] 31)) _ _ _ at b3
 generalize (w2.alloc (.cells #[.slice a1 3 c1,.slice a2 2 c2,.slice a3 2 c3] 31))=w3 at *
 generalize w2.heap.size=ab at *
 have HF3:=Lib.hid (And.intro (HF.out.1.ext u3) (HF.out.2.step u3))
 have k0:=b3.cell (i:=0) rfl
 have k1:=b3.cell (i:=1) rfl
 have k2:=b3.cell (i:=2) rfl
 have HL:=Lib.hid (Least_calls (a:=aS) ⟨_,rfl,HF3.out.1⟩)
 rw [aS_least.1,aS_least.2,aS_v] at HL
 clear b3 u3 s0 s1 s2 s3 HOF HF
 go_upto_region 4 with ((with_reducible refine HL.out.mono ?_);rintro e w4 ⟨rfl,u4⟩)
 have HF4:=Lib.hid (And.intro (HF3.out.1.ext u4) (HF3.out.2.step u4))
 have m0:=u4.some k0 (by simp)
 have m1:=u4.some k1 (by simp)
 have m2:=u4.some k2 (by simp)
 have HLN:=Lib.hid (Lengths_calls (a:=aS) (most:=5) ⟨_,rfl,HF4.out.1⟩)
 rw [aS_left.1,aS_left.2] at HLN
 clear u4 k0 k1 k2 HL HF3
 go_upto_region 5 with ((with_reducible refine HLN.out.mono ?_);rintro e w5 ⟨v5,rfl,hs5,u5⟩;obtain ⟨a5,c5,rfl,_⟩:=id hs5.elems;have HS5:=Lib.hid hs5;clear hs5)
 have HF5:=Lib.hid (And.intro (HF4.out.1.ext u5) (HF4.out.2.step u5))
 have n0:=u5.some m0 (by simp)
 have n1:=u5.some m1 (by simp)
 have n2:=u5.some m2 (by simp)
 have HCM:=Lib.hid (Complement_calls (a:=aS) ⟨_,rfl,HF5.out.1⟩)
 rw [aS_v] at HCM
 clear u5 m0 m1 m2 HLN HF4
 go_upto_region 6 with ((with_reducible refine HCM.out.mono ?_);rintro e w6 ⟨v6,rfl,hC,u6⟩;obtain ⟨d1,e1,d2,e2,d3,e3,rfl,hG⟩:=cA_shape hC;have HG:=Lib.hid (And.intro hG u6);clear hC hG u6)
 change Code.wp _ _ _ _ (w6.alloc (.cells #[.slice d1 3 e1,.slice d2 2 e2,.slice d3 2 e3] 31))
 have b7:=Blk.new w6 [.slice d1 3 e1,.slice d2 2 e2,.slice d3 2 e3] 31
 have u7:=(Upd.refl [] w6).alloc (.cells #[.slice d1 3 e1,.slice d2 2 e2,.slice d3 2 e3] 31)
 change Blk (w6.alloc (.cells #[.slice d1 3 e1,.slice d2 2 e2,.slice d3 2 e3] 31)) _ _ _ at b7
 generalize (w6.alloc (.cells #[.slice d1 3 e1,.slice d2 2 e2,.slice d3 2 e3] 31))=w7 at *
 generalize w6.heap.size=db at *
 have HU7:=Lib.hid (HG.out.2.step u7)
 have k0:=b7.cell (i:=0) rfl
 have k1:=b7.cell (i:=1) rfl
 have k2:=b7.cell (i:=2) rfl
 have HL2:=Lib.hid (Least_calls (a:=cA) ⟨_,rfl,HG.out.1.ext u7⟩)
 rw [cA_least.1,cA_least.2.1,cA_least.2.2] at HL2
 clear b7 HCM
 go_upto_region 7 with ((with_reducible refine HL2.out.mono ?_);rintro e w8 ⟨rfl,u8⟩;have HU8:=Lib.hid (HU7.out.step u8);have HU9:=Lib.hid (u7.step u8);clear u8)
 have q0:=HU8.out.some n0 (by simp)
 have q1:=HU8.out.some n1 (by simp)
 have q2:=HU8.out.some n2 (by simp)
 have HF8:=Lib.hid (And.intro (HF5.out.1.ext HU8.out) (HF5.out.2.step HU8.out))
 have HS8:=Lib.hid (HS5.out.upd HU8.out (by simp))
 go_upto_region 9 with fail
 obtain ⟨g3,o3,he3,x0⟩:=HF8.out.1.acc (i:=0) (by decide)
 obtain ⟨g3',o3',he3',x1⟩:=HF8.out.1.acc (i:=1) (by decide)
 rw [he3] at he3'
 cases he3'
 cases he3
 obtain ⟨_,_,he5,_,_,hc5⟩:=HS8.out.elems
 cases he5
 obtain ⟨g5,o5,rfl,hc6⟩:=hc5 (by decide)
 have y0:=hc6 0 _ rfl
 have y5:=hc6 5 _ rfl
 have hs1:SL w8 1 (.slice a1 3 c1) ([0,97,98]:List Int).length (ints [0,97,98]):=by
  obtain ⟨_,_,_,he,h,_,_⟩:=HF8.out.1
  cases he
  exact h
 have uB:=(Upd.refl [] w8).alloc (.cells #[.int .i64 0,.int .i64 97,.int .i64 98] 3)
 have hs2:SL (w8.alloc (.cells #[.int .i64 0,.int .i64 97,.int .i64 98] 3)) 1 (.slice (some ⟨w8.heap.size,0,none⟩) 3 3) ([0,97,98]:List Int).length (ints [0,97,98]):=SL.of_blk (pad:=[]) (k:=1) (n:=3) (cap:=3) (xs:=ints [0,97,98]) (Blk.new w8 (ints [0,97,98]) 3) rfl (Nat.le_refl _) (by decide)
 have HSI:=Lib.hid (SameInts_calls (hs1.upd uB (by simp)) hs2)
 have x0:w8.cell? ⟨g3,o3,none⟩=some (.bool true):=x0
 have x1:w8.cell? ⟨g3,o3+1,none⟩=some (.bool false):=x1
 have y0:w8.cell? ⟨g5,o5,none⟩=some (.bool true):=y0
 have y5:w8.cell? ⟨g5,o5+5,none⟩=some (.bool true):=y5
 have z0:=uB.some x0 (by simp)
 have z1:=uB.some x1 (by simp)
 have z2:=uB.some q2 (by simp)
 have z3:=uB.some y0 (by simp)
 have z4:=uB.some y5 (by simp)
 go_wp2_with ((with_reducible refine HSI.out.mono ?_);rintro e w9 ⟨rfl,u9⟩;have j0:=u9.some z0 (by simp);have j1:=u9.some z1 (by simp);have j2:=u9.some z2 (by simp);have j3:=u9.some z3 (by simp);have j4:=u9.some z4 (by simp))
 go_ret
 exact ⟨by first|rfl|simp [aS],(HF8.out.2.step uB).step u9⟩
end
end Aut
end Go.Proofs.YtjclbjdkkdijbaaGreat
end
