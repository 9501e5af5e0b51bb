/- What a claim's walk is told of its arguments. Conditions: none. Walks through package auto: Complement. Conditions: none. Walks through the law of chapter 05: lives. Conditions: none. What Both and Complement return, as plain data. Conditions: none. An automaton that is valid does not lie in a box of nil slices. Conditions: none. Walks through the reference of automata: Complement. Conditions: none. Walks through the law of chapter 05: AutoCombined. Conditions: none. -/
import Derived.Test.YtjclbjdkkdijbaaGreatLib
import Derived.ChangeSlices
import Derived.Test.YtjclbjdkkdijbaaGreatAuZb
import Derived.Test.YtjclbjdkkdijbaaGreatAuZd
import Derived.Test.YtjclbjdkkdijbaaGreatSame
import Derived.Test.YtjclbjdkkdijbaaGreatAuZr
import Derived.Test.YtjclbjdkkdijbaaGreatAuT
import Derived.Test.YtjclbjdkkdijbaaGreatAutoY
import Derived.Test.YtjclbjdkkdijbaaGreatAuF
import Derived.Test.YtjclbjdkkdijbaaGreatAutoL
import Derived.Test.YtjclbjdkkdijbaaGreatRfZo
import Derived.Test.YtjclbjdkkdijbaaGreatAuK
import Derived.Test.YtjclbjdkkdijbaaGreatRfZf
set_option linter.unusedVariables false
set_option linter.unusedSimpArgs false
set_option linter.unusedSectionVars false
section
open Go.RowKit
namespace Go.Proofs.YtjclbjdkkdijbaaGreat
namespace L
def IsRow (k:IntKind) (w:World) (a:Option Addr) (len cap:Nat) (zs:List Int):Prop:=
 (a=none∧len=0∧cap=0∧zs=[]) ∨
 ∃ x,a=some x∧len≤cap∧cap≤maxLen∧zs.length=cap∧(∀ i,i<zs.length→w.cell? (x.add i)=some (.int k (zs.getD i 0)))∧∀ n∈zs,(Lit.int k n).wf=true
theorem wf_i64 {n:Int} (h:(Lit.int .i64 n).wf=true):IsI64 n:=by
 simp [Lit.wf,IntKind.min,IntKind.max,IntKind.bits,IntKind.signed] at h
 unfold IsI64
 omega
def IsU8 (n:Int):Prop:=0≤n∧n≤255
theorem wf_u8 {n:Int} (h:(Lit.int .u8 n).wf=true):IsU8 n:=by
 simp [Lit.wf,IntKind.min,IntKind.max,IntKind.bits,IntKind.signed] at h
 unfold IsU8
 omega
theorem IsRow.read {k:IntKind} {w:World} {a:Option Addr} {len cap:Nat} {zs:List Int} (h:IsRow k w a len cap zs) :
 ∃ xs:List Int,(∀ x∈xs,(Lit.int k x).wf=true)∧len=xs.length∧SL w 1 (.slice a len cap) xs.length (xs.map (Value.int k)):=by
 rcases h with ⟨rfl,rfl,rfl,rfl⟩|⟨x,rfl,hlc,hcm,hz,hc,hwf⟩
 ·exact ⟨[],by simp,rfl,rfl,none,0,rfl,Nat.le_refl _,by unfold maxLen;omega,fun _=>rfl,.inl rfl⟩
 ·have hlen:(zs.take len).length=len:=by rw [List.length_take];omega
  refine ⟨zs.take len,fun y hy=>hwf y (List.mem_of_mem_take hy),hlen.symm,by rw [List.length_map];omega,some x,cap,by rw [hlen],by omega,hcm,(fun h=>by cases h),?_⟩
  by_cases h0:len=0
  ·left;omega
  right
  have hx:=hc 0 (by omega)
  obtain ⟨b,o,sp⟩:=x
  have hsp:sp=none:=by
   cases sp with
   | none=>rfl
   | some v=>
    simp [World.cell?,Addr.add] at hx
    split at hx <;> simp at hx
  subst hsp
  refine ⟨b,o,rfl,fun j u hj=>?_⟩
  have hj1:j<((zs.take len).map (Value.int k)).length:=(List.getElem?_eq_some_iff.1 hj).1
  rw [List.length_map,hlen] at hj1
  have h1:=hc j (by omega)
  rw [addr_add] at h1
  rw [h1,←hj,List.getElem?_map,List.getElem?_take_of_lt hj1,List.getD_eq_getElem?_getD,List.getElem?_eq_getElem (by omega)]
  simp
theorem IsRow.ints {w:World} {a:Option Addr} {len cap:Nat} {zs:List Int} (h:IsRow .i64 w a len cap zs) :
 ∃ xs:List Int,(∀ x∈xs,IsI64 x)∧len=xs.length∧SL w 1 (.slice a len cap) xs.length (ints xs):=by
 obtain ⟨xs,h1,h2,h3⟩:=h.read
 exact ⟨xs,fun x hx=>wf_i64 (h1 x hx),h2,h3⟩
def byts (xs:List Int):List Value:=xs.map (Value.int .u8)
theorem IsRow.bytes {w:World} {a:Option Addr} {len cap:Nat} {zs:List Int} (h:IsRow .u8 w a len cap zs) :
 ∃ xs:List Int,(∀ x∈xs,IsU8 x)∧len=xs.length∧SL w 1 (.slice a len cap) xs.length (byts xs):=by
 obtain ⟨xs,h1,h2,h3⟩:=h.read
 exact ⟨xs,fun x hx=>wf_u8 (h1 x hx),h2,h3⟩
end L
end Go.Proofs.YtjclbjdkkdijbaaGreat
end
section
open Go.RowKit
namespace Go.Proofs.YtjclbjdkkdijbaaGreat
open L
namespace Aut
open Auto
attribute [-go_sem] sliced
def compA (a:Au):Au:=if vErr a≠0 then noA else ⟨a.cuts,a.next,a.acc.map not⟩
structure Cp (w0:World) (a:Au) (cb i j:Nat) (cv nv av:Value) (F:List Nat) (w:World):Prop where
 bx:Blk w cb [cv,nv,av] 31
 tb:OwnL 22 w0 nv (a.next.take i) F w
 ac:w.ownsRow 0 4 1 av j (bools ((a.acc.take j).map not))
 an:∀ q,av.ownBlock=some q→w0.heap.size≤q∧q≠cb∧q ∉ F∧nv.ownBlock≠some q
 cn:cb ∉ F∧nv.ownBlock≠some cb∧w0.heap.size≤cb
 u:Upd [] w0 w
 fn:∀ b∈F,w0.heap.size≤b
section
variable {w0 w w':World} {a:Au} {cb i j:Nat} {cv nv av:Value} {F:List Nat}
theorem Cp.quiet (h:Cp w0 a cb i j cv nv av F w) (hu:Upd [] w w'):Cp w0 a cb i j cv nv av F w':=
 ⟨h.bx.upd hu (by simp),h.tb.upd hu (by simp),ownsRow_updL h.ac hu (by simp),h.an,h.cn,h.u.step hu,h.fn⟩
end
section
variable {w w':World} {v:Value}
set_option maxRecDepth 100000 in
set_option maxHeartbeats 16000000 in
theorem Complement_calls {a:Au} (h:AuV w a v):Calls Tryz.prog 36 #[v] w fun e w'=>∃ v',e=.returned (.tuple #[v',.int .i64 (vErr a)])∧AuV w' (compA a) v'∧Upd [] w w':=by
 obtain ⟨a1,c1,a2,c2,a3,c3,rfl,hF⟩:=h.shape
 have HF:=Lib.hid hF
 clear h hF
 go_enter Tryz.func36,Tryz.ntmps36
 go_upto_region 1 with fail
 have b1:=(Blk.new w [.slice a1 a.cuts.length c1,.slice a2 a.next.length c2,.slice a3 a.acc.length c3] 31).alloc (.cells #[.slice none 0 0,.slice none 0 0,.slice none 0 0] 31)
 have b2:=Blk.new (w.alloc (.cells #[.slice a1 a.cuts.length c1,.slice a2 a.next.length c2,.slice a3 a.acc.length c3] 31)) [.slice none 0 0,.slice none 0 0,.slice none 0 0] 31
 have u1:=((Upd.refl [] w).alloc (.cells #[.slice a1 a.cuts.length c1,.slice a2 a.next.length c2,.slice a3 a.acc.length c3] 31)).alloc (.cells #[.slice none 0 0,.slice none 0 0,.slice none 0 0] 31)
 have z1:(w.alloc (.cells #[.slice a1 a.cuts.length c1,.slice a2 a.next.length c2,.slice a3 a.acc.length c3] 31)).heap.size=w.heap.size+1:=by simp
 rw [z1] at b2
 change Blk ((w.alloc (.cells #[.slice a1 a.cuts.length c1,.slice a2 a.next.length c2,.slice a3 a.acc.length c3] 31)).alloc (.cells #[.slice none 0 0,.slice none 0 0,.slice none 0 0] 31)) _ _ _ at b1
 change Blk ((w.alloc (.cells #[.slice a1 a.cuts.length c1,.slice a2 a.next.length c2,.slice a3 a.acc.length c3] 31)).alloc (.cells #[.slice none 0 0,.slice none 0 0,.slice none 0 0] 31)) _ _ _ at b2
 generalize ((w.alloc (.cells #[.slice a1 a.cuts.length c1,.slice a2 a.next.length c2,.slice a3 a.acc.length c3] 31)).alloc (.cells #[.slice none 0 0,.slice none 0 0,.slice none 0 0] 31))=w1 at *
 have k0:=b1.cell (i:=0) rfl
 have k1:=b1.cell (i:=1) rfl
 have k2:=b1.cell (i:=2) rfl
 have HB:=Lib.hid (And.intro b2 u1)
 have HVC:=Lib.hid (Valid_calls (v:=.agg #[.slice a1 a.cuts.length c1,.slice a2 a.next.length c2,.slice a3 a.acc.length c3]) ⟨_,rfl,HF.out.ext u1⟩)
 clear b1 b2 u1 z1
 generalize hpa:w.heap.size=pa at *
 have HPA:=Lib.hid hpa
 clear hpa
 by_cases he:vErr a=0
 ·have HOK:=Lib.hid (And.intro (vErr_ok he) he)
  have HE:=Lib.hid (show compA a=⟨a.cuts,a.next,a.acc.map not⟩ by unfold compA;rw [if_neg (by simpa using he)])
  rw [he] at HVC
  clear he
  go_upto_region 4 with ((with_reducible refine HVC.out.mono ?_);rintro e w2 ⟨rfl,u2⟩)
  have HU2:=Lib.hid (HB.out.2.step u2)
  have g0:=u2.some k0 (by simp)
  have g1:=u2.some k1 (by simp)
  have g2:=u2.some k2 (by simp)
  have HB2:=Lib.hid (HB.out.1.upd u2 (by simp))
  clear k0 k1 k2 u2
  have hsl:SL w2 1 (.slice a1 a.cuts.length c1) a.cuts.length (ints a.cuts):=by
   obtain ⟨cv,nv,av,he,h3,_,_⟩:=HF.out
   cases he
   exact h3.upd HU2.out (by simp)
  have hle:=hsl.elems
  have HCL:=Lib.hid (CloneI_calls hsl (by have:=cuts_len HOK.out.1;omega))
  clear hsl hle
  go_upto_region 5 with ((with_reducible refine HCL.out.mono ?_);rintro e w3 ⟨an,cn,rfl,o3⟩)
  have bC:=Blk.new w3 [.slice an a.cuts.length cn,.slice none 0 0,.slice none 0 0] 31
  have uC:=(Upd.refl [] w3).alloc (.cells #[.slice an a.cuts.length cn,.slice none 0 0,.slice none 0 0] 31)
  change Blk (w3.alloc (.cells #[.slice an a.cuts.length cn,.slice none 0 0,.slice none 0 0] 31)) _ _ _ at bC
  have j1:=(o3.fresh.step uC).some g1 (by simp)
  have H3:=Lib.hid (And.intro o3.sl (And.intro (HU2.out.step o3.fresh) (And.intro (HB2.out.upd o3.fresh (by simp)) o3.fresh)))
  have HCO:=Lib.hid (show ∀ q,(Value.slice an a.cuts.length cn).ownBlock=some q→w2.heap.size≤q from fun q hq=>by
   rcases o3.old q hq with h|h
   ·simp [Value.ownBlock] at h
   ·exact h)
  have HSZ:=Lib.hid (And.intro HB2.out.lt o3.fresh.size)
  generalize (w3.alloc (.cells #[.slice an a.cuts.length cn,.slice none 0 0,.slice none 0 0] 31))=w4 at *
  have HC:=Lib.hid (And.intro bC uC)
  clear bC uC o3
  have HZ:=Lib.hid (Nat.le_refl w3.heap.size)
  go_wp2_with fail
  have HCB:∃ cb,w3.heap.size=cb:=⟨_,rfl⟩
  obtain ⟨cb,hcb⟩:=HCB
  rw [hcb] at HC ⊢
  have HLE:=Lib.hid (Nat.le_of_eq hcb)
  clear hcb HZ
  go_loopw [21] (fun kv wr=>∃ (i:Nat) (nv av:Value) (F:List Nat),kv=.int .i64 i∧i≤a.next.length∧Hid (Cp w3 a cb i i (.slice an a.cuts.length cn) nv av F wr)) (fun kv _=>a.next.length - (intOf kv).toNat)
  case atStart=>exact ⟨0,_,_,[],rfl,Nat.zero_le _,Lib.hid ⟨HC.out.1,OwnL.nil _ _ _,World.ownsRow_nil _ _ _ _,fun q hq=>by simp [Value.ownBlock] at hq,⟨by simp,by simp [Value.ownBlock],HLE.out⟩,HC.out.2,by simp⟩⟩
  case round=>
   obtain ⟨i,nv,av,F,rfl,hi,HI⟩:=hrel
   by_cases hlt:i<a.next.length
   ·have hli:(i:Int)<a.next.length:=by omega
    obtain ⟨g,off,ar,cr,he,hc,hrow⟩:=(HF.out.ext HU2.out).row hlt
    cases he
    have HROW:=Lib.hid (And.intro (HOK.out.1.rows _ (gd_memA (d:=[]) hlt)).1 (And.intro (cuts_len HOK.out.1) (show a.next.take (i+1)=a.next.take i++[a.next.getD i []] by rw [List.take_add_one,gd_some (d:=[]) hlt];rfl)))
    generalize a.next.getD i []=row at *
    have hc':=(H3.out.2.2.2.step HI.out.u)
    have HRO:=Lib.hid (show SL wr 1 (.slice ar row.length cr) row.length (ints row) from hrow.upd hc' (by simp))
    have hcc:wr.cell? ⟨g,off+i,none⟩=some (.slice ar row.length cr):=HI.out.u.some (H3.out.2.2.2.some hc (by simp)) (by simp)
    have q1:=HI.out.bx.cell (i:=1) rfl
    have q2:=HI.out.bx.cell (i:=2) rfl
    clear hc hrow hc'
    go_upto_region 8 with fail
    go_cut [] (fun w'=>∃ nv' F',Cp w3 a cb (i+1) i (.slice an a.cuts.length cn) nv' av F' w')
    case first=>
     obtain ⟨vals,hv1,hv2⟩:=HI.out.tb.ex
     have HV:=Lib.hid (And.intro hv1 hv2)
     have hfew:=HOK.out.1.few
     have HTK:=Lib.hid (show (a.next.take i).length≤256 by rw [List.length_take];omega)
     clear hv1 hv2 hfew
     have HCR:=Lib.hid (fun (w5:World) (u5:Upd [] wr w5)=>CloneI_calls (HRO.out.upd u5 (by simp)) (by have:=HROW.out.1;have:=HROW.out.2.1;omega))
     go_wp2_with fail
     refine wp_region_ord 5 1 [0,1,2,6] [1] [0,1,2,3,4,5,6,7] (fun w'=>∃ x:Ext wr,w'=x.val) (by kernel_rfl) (by kernel_rfl) (Ext.of (by iterate 25 (first|exact Upd.refl _ _|assumption|refine Upd.alloc ?_ _|refine Upd.drew ?_|refine Upd.drewN ?_ _|refine Upd.dl ?_|refine Upd.step ?_ (Ext.upd _)|refine Upd.nil ?_|skip))) ?_
     repeat (first|(refine wpOrd_load rfl rfl rfl rfl (fun K hK=>?_);go_big_quiet_step (fail);refine wpQuiet_nil ?_;refine hK _ ?_;clear hK K)|(refine wpOrd_free rfl rfl rfl (fun K hK=>?_);go_big_quiet_step (fail);refine wpQuiet_nil ?_;refine hK _ ?_;clear hK K))
     refine wpOrd_fix rfl rfl (fun K hK=>?_)
     go_wp2_with ((with_reducible refine (HCR.out _ (by iterate 25 (first|exact Upd.refl _ _|assumption|refine Upd.alloc ?_ _|refine Upd.drew ?_|refine Upd.drewN ?_ _|refine Upd.dl ?_|refine Upd.step ?_ (Ext.upd _)|refine Upd.nil ?_|skip))).mono ?_);rintro e w6 ⟨a6,c6,rfl,o6⟩)
     have HO6:=Lib.hid (And.intro o6 (show Upd [] wr w6 from Upd.step (by iterate 25 (first|exact Upd.refl _ _|assumption|refine Upd.alloc ?_ _|refine Upd.drew ?_|refine Upd.drewN ?_ _|refine Upd.dl ?_|refine Upd.step ?_ (Ext.upd _)|refine Upd.nil ?_|skip)) o6.fresh))
     clear o6
     refine ⟨fun _=>Ext.of HO6.out.2,?_⟩
     repeat (first|(refine wpOrd_load rfl rfl rfl rfl (fun K hK=>?_);go_big_quiet_step (fail);refine wpQuiet_nil ?_;refine hK _ ?_;clear hK K)|(refine wpOrd_free rfl rfl rfl (fun K hK=>?_);go_big_quiet_step (fail);refine wpQuiet_nil ?_;refine hK _ ?_;clear hK K))
     refine wpOrd_fix rfl rfl (fun K hK=>?_)
     go_wp2_with fail
     have HNB2:=Lib.hid (show Blk (w6.alloc (.cells #[.slice a6 row.length c6] 22)) w6.heap.size [.slice a6 row.length c6] 22∧Upd [] w6 (w6.alloc (.cells #[.slice a6 row.length c6] 22)) from ⟨Blk.new w6 _ _,(Upd.refl [] w6).alloc _⟩)
     generalize (w6.alloc (.cells #[.slice a6 row.length c6] 22))=wB at *
     generalize w6.heap.size=gB at *
     have HUB:=Lib.hid (HO6.out.2.step HNB2.out.2)
     refine ⟨fun _=>Ext.of HUB.out,?_⟩
     repeat (first|(refine wpOrd_load rfl rfl rfl rfl (fun K hK=>?_);go_big_quiet_step (fail);refine wpQuiet_nil ?_;refine hK _ ?_;clear hK K)|(refine wpOrd_free rfl rfl rfl (fun K hK=>?_);go_big_quiet_step (fail);refine wpQuiet_nil ?_;refine hK _ ?_;clear hK K))
     refine wpOrd_fix rfl rfl (fun K hK=>?_)
     refine wpList_app rfl _ _ _ rfl 22 1 24 _ Tryz.underlying28 infoInts rfl (by decide) nv _ _ rfl (ownsRow_updL HV.out.1.row HUB.out (by simp)) gB 1 1 [.slice a6 row.length c6] 22 rfl rfl HNB2.out.1 (by simp [Value.oneCell']) (by omega) (by have:=HTK.out;unfold maxLen;omega) (by have:=HTK.out;omega) ?_
     intro g7 c7 w7 o7 u7 k7
     simp only [Act.put,List.setIfInBounds_toArray,List.set_cons_zero,List.set_cons_succ]
     have bx7:Blk w7 cb [.slice an a.cuts.length cn,nv,av] 31:=(HI.out.bx.upd HUB.out (by simp)).upd u7 (fun hm=>HI.out.cn.2.1 (by simpa using hm))
     have q1':=bx7.cell (i:=1) rfl
     have f1':∀ q,w7.frozen? ⟨cb,q,none⟩=false:=bx7.free
     have H7:=Lib.hid (And.intro o7 (And.intro u7 (And.intro k7 bx7)))
     clear o7 u7 k7 bx7 q1
     go_wp2_with fail
     refine ⟨fun hC=>absurd hC (by decide),?_⟩
     repeat (first|(refine wpOrd_load rfl rfl rfl rfl (fun K hK=>?_);go_big_quiet_step (fail);refine wpQuiet_nil ?_;refine hK _ ?_;clear hK K)|(refine wpOrd_free rfl rfl rfl (fun K hK=>?_);go_big_quiet_step (fail);refine wpQuiet_nil ?_;refine hK _ ?_;clear hK K))
     refine wpOrd_fix rfl rfl (fun K hK=>?_)
     go_wp2_with fail
     refine ⟨fun hC=>absurd hC (by decide),?_⟩
     refine wpOrd_nil ?_
     go_wp2_with fail
     go_meet
     case rel=>
      have hti:(a.next.take i).length=i:=by rw [List.length_take];omega
      have hyf:∀ b,(Value.slice a6 row.length c6).ownBlock=some b→wr.heap.size≤b:=fun b hb=>by
       rcases HO6.out.1.old b hb with h|h
       ·simp [Value.ownBlock] at h
       ·exact Nat.le_trans (Nat.le_of_eq rfl) h
      have htb:=(HI.out.tb.upd HUB.out (by simp)).push (HV.out.1.upd HUB.out (by simp)) (fun i c hc=>by
       obtain ⟨y,h1,h2,h3⟩:=HV.out.2 i c hc
       exact ⟨y,h1,h2.upd HUB.out (by simp),h3⟩) (by have:=HI.out.u.size;have:=HUB.out.size;omega) (c:=row) (y:=.slice a6 row.length c6) (HO6.out.1.sl.upd HNB2.out.2 (by simp)) (fun b hb=>⟨fun hn=>by have:=HI.out.tb.own_lt b hn;have:=hyf b hb;omega,by have:=HO6.out.1.lt hb;have:=HNB2.out.2.size;omega⟩) H7.out.1 H7.out.2.1 (H7.out.2.2.1.imp id fun h=>Nat.le_of_eq h.symm)
      rw [←HROW.out.2.2,hti] at htb
      have us:Upd [cb] w7 (w7.setCell ⟨cb,1,none⟩ (.slice (some ⟨g7,0,none⟩) (i+1) c7)):=(Upd.refl [cb] w7).set (p:=⟨cb,1,none⟩) (by simp) _
      have hcl:=HI.out.bx.lt
      have hcF:∀ b∈(Value.slice a6 row.length c6).ownBlock.toList,wr.heap.size≤b:=fun b hb=>hyf b (by simpa using hb)
      have hg7:nv.ownBlock=some g7∨wr.heap.size≤g7:=H7.out.2.2.1.imp id fun h=>by have:=HUB.out.size;omega
      have hzz:=HI.out.u.size
      have hgc:g7≠cb:=fun e=>by
       rcases hg7 with h|h
       ·exact HI.out.cn.2.1 (e ▸ h)
       ·omega
      refine ⟨_,F++(Value.slice a6 row.length c6).ownBlock.toList,H7.out.2.2.2.set 1 _,htb.upd us (fun b hb=>?_),?_,fun q hq=>?_,⟨?_,?_,HI.out.cn.2.2⟩,?_,fun b hb=>?_⟩
      ·simp at hb;subst hb
       refine ⟨fun hf=>?_,fun hv=>hgc (by simpa [Value.ownBlock] using hv)⟩
       rcases List.mem_append.1 hf with h|h
       ·exact HI.out.cn.1 h
       ·have:=hcF _ h;omega
      ·exact ownsRow_updL (ownsRow_updL (ownsRow_updL HI.out.ac HUB.out (by simp)) H7.out.2.1 (fun b hb hv=>(HI.out.an _ hv).2.2.2 (by simpa using hb))) us (fun b hb hv=>(HI.out.an _ hv).2.1 (by simpa using hb))
      ·obtain ⟨h1,h2,h3,h4⟩:=HI.out.an q hq
       have hql:=(HI.out.ac.lt q hq).2
       refine ⟨h1,h2,fun hm=>?_,fun he=>?_⟩
       ·rcases List.mem_append.1 hm with h|h
        ·exact h3 h
        ·have:=hcF _ h;omega
       ·simp [Value.ownBlock] at he;subst he
        rcases hg7 with h|h
        ·exact h4 h
        ·omega
      ·intro hm
       rcases List.mem_append.1 hm with h|h
       ·exact HI.out.cn.1 h
       ·have:=hcF _ h;omega
      ·exact fun hv=>hgc (by simpa [Value.ownBlock] using hv)
      ·exact ((HI.out.u.step HUB.out).fresh H7.out.2.1 (fun b hb=>.inr (HV.out.1.fresh _ (by simpa using hb)))).fresh us (fun b hb=>.inr (by simp at hb;subst hb;exact HI.out.cn.2.2))
      ·rcases List.mem_append.1 hb with h|h
       ·exact HI.out.fn _ h
       ·have:=hcF _ h;omega
    case rest=>
     obtain ⟨nv',F',hC⟩:=hcut
     have HC2:=Lib.hid hC
     clear hC
     have hia:i<a.acc.length:=by rw [HOK.out.1.acc];exact hlt
     obtain ⟨g3,off3,he3,hacc⟩:=(HF.out.ext HU2.out).acc hia
     cases he3
     have hac':wc.cell? ⟨g3,off3+i,none⟩=some (.bool (a.acc.getD i false)):=HC2.out.u.some (H3.out.2.2.2.some hacc (by simp)) (by simp)
     have hp2:wc.cell? ⟨pa,2,none⟩=some (.slice (some ⟨g3,off3,none⟩) a.acc.length c3):=HC2.out.u.some (H3.out.2.2.2.some g2 (by simp)) (by simp)
     have q2:=HC2.out.bx.cell (i:=2) rfl
     have HBI:=Lib.hid (show (a.acc.take (i+1)).map not=(a.acc.take i).map not++[!a.acc.getD i false] by
      rw [List.take_add_one,gd_some (d:=false) hia];simp)
     clear hacc
     generalize a.acc.getD i false=bi at *
     go_wp2_with fail
     refine wp_region_ord 9 6 [0,1,2,3,4,5,6,7,10] [1,3,6] [0,1,2,3,4,5,6,7,8,9,10,11] (fun w'=>∃ x:Ext wc,w'=x.val) (by kernel_rfl) (by kernel_rfl) (Ext.of (by iterate 25 (first|exact Upd.refl _ _|assumption|refine Upd.alloc ?_ _|refine Upd.drew ?_|refine Upd.drewN ?_ _|refine Upd.dl ?_|refine Upd.step ?_ (Ext.upd _)|refine Upd.nil ?_|skip))) ?_
     repeat (first|(refine wpOrd_load rfl rfl rfl rfl (fun K hK=>?_);go_big_quiet_step (fail);refine wpQuiet_nil ?_;refine hK _ ?_;clear hK K)|(refine wpOrd_free rfl rfl rfl (fun K hK=>?_);go_big_quiet_step (fail);refine wpQuiet_nil ?_;refine hK _ ?_;clear hK K))
     refine wpOrd_fix rfl rfl (fun K hK=>?_)
     go_wp2_with fail
     have HNB3:=Lib.hid (show Blk ((wc.alloc (.cells #[.bool !bi] 4)).drew) wc.heap.size [.bool !bi] 4∧Upd [] wc ((wc.alloc (.cells #[.bool !bi] 4)).drew) from ⟨Blk.new wc [.bool !bi] 4,(by iterate 25 (first|exact Upd.refl _ _|assumption|refine Upd.alloc ?_ _|refine Upd.drew ?_|refine Upd.drewN ?_ _|refine Upd.dl ?_|refine Upd.step ?_ (Ext.upd _)|refine Upd.nil ?_|skip))⟩)
     have HGB:=Lib.hid (Nat.le_refl wc.heap.size)
     generalize ((wc.alloc (.cells #[.bool !bi] 4)).drew)=wB at *
     generalize wc.heap.size=gB at HNB3 HGB ⊢
     have hi6:i≤256:=by have:=HOK.out.1.few;omega
     refine ⟨fun _=>Ext.of HNB3.out.2,?_⟩
     repeat (first|(refine wpOrd_load rfl rfl rfl rfl (fun K hK=>?_);go_big_quiet_step (fail);refine wpQuiet_nil ?_;refine hK _ ?_;clear hK K)|(refine wpOrd_free rfl rfl rfl (fun K hK=>?_);go_big_quiet_step (fail);refine wpQuiet_nil ?_;refine hK _ ?_;clear hK K))
     refine wpOrd_fix rfl rfl (fun K hK=>?_)
     refine wpList_app rfl _ _ _ rfl 4 1 1 _ Tryz.underlying29 infoBool rfl (by decide) av _ _ rfl (ownsRow_updL HC2.out.ac HNB3.out.2 (by simp)) gB 1 1 [.bool !bi] 4 rfl rfl HNB3.out.1 (by simp [Value.oneCell']) (by omega) (by unfold maxLen;omega) (by omega) ?_
     intro g7 c7 w7 o7 u7 k7
     simp only [Act.put,List.setIfInBounds_toArray,List.set_cons_zero,List.set_cons_succ]
     have bx7:=(HC2.out.bx.upd HNB3.out.2 (by simp)).upd u7 (fun hm=>(HC2.out.an cb (by simpa using hm)).2.1 rfl)
     have q2':=bx7.cell (i:=2) rfl
     have f2':∀ q,w7.frozen? ⟨cb,q,none⟩=false:=bx7.free
     have H7:=Lib.hid (And.intro o7 (And.intro u7 (And.intro k7 bx7)))
     clear o7 u7 k7 bx7 q2
     go_wp2_with fail
     refine ⟨fun hC=>absurd hC (by decide),?_⟩
     repeat (first|(refine wpOrd_load rfl rfl rfl rfl (fun K hK=>?_);go_big_quiet_step (fail);refine wpQuiet_nil ?_;refine hK _ ?_;clear hK K)|(refine wpOrd_free rfl rfl rfl (fun K hK=>?_);go_big_quiet_step (fail);refine wpQuiet_nil ?_;refine hK _ ?_;clear hK K))
     refine wpOrd_fix rfl rfl (fun K hK=>?_)
     go_wp2_with fail
     refine ⟨fun hC=>absurd hC (by decide),?_⟩
     refine wpOrd_nil ?_
     go_wp2_with fail
     have us:Upd [cb] w7 (w7.setCell ⟨cb,2,none⟩ (.slice (some ⟨g7,0,none⟩) (i+1) c7)):=(Upd.refl [cb] w7).set (p:=⟨cb,2,none⟩) (by simp) _
     have hz1:=HNB3.out.2.size
     have hz2:=HC2.out.bx.lt
     have hz3:=HC2.out.u.size
     have hg7:av.ownBlock=some g7∨wc.heap.size≤g7:=H7.out.2.2.1.imp id fun h=>by omega
     have hgc:g7≠cb:=fun e=>by
      rcases hg7 with h|h
      ·exact (HC2.out.an _ h).2.1 e
      ·omega
     refine ⟨⟨i+1,nv',_,F',by go_num,by omega,Lib.hid ⟨H7.out.2.2.2.set 2 _,((HC2.out.tb.upd HNB3.out.2 (by simp)).upd H7.out.2.1 (fun b hb=>?_)).upd us (fun b hb=>?_),?_,fun q hq=>?_,HC2.out.cn,((HC2.out.u.step HNB3.out.2).fresh H7.out.2.1 (fun b hb=>.inr (HC2.out.an b (by simpa using hb)).1)).fresh us (fun b hb=>.inr (by simp at hb;subst hb;exact HC2.out.cn.2.2)),HC2.out.fn⟩⟩,by simp [intOf];omega⟩
     ·have:=HC2.out.an b (by simpa using hb)
      exact ⟨this.2.2.1,this.2.2.2⟩
     ·simp at hb;subst hb;exact ⟨HC2.out.cn.1,HC2.out.cn.2.1⟩
     ·have h1:=ownsRow_updL H7.out.1 us (fun b hb hv=>by simp at hb;subst hb;simp [Value.ownBlock] at hv;exact hgc hv)
      rw [HBI.out]
      simpa [bools] using h1
     ·simp only [Value.ownBlock,Option.some.injEq] at hq
      subst hq
      rcases hg7 with h|h
      ·exact HC2.out.an _ h
      ·refine ⟨by omega,hgc,fun hf=>?_,fun hv=>?_⟩
       ·have:=HC2.out.tb.lt _ hf;omega
       ·have:=HC2.out.tb.own_lt _ hv;omega
   ·have hie:i=a.next.length:=by omega
    subst hie
    have hni:¬ ((a.next.length:Int)<a.next.length):=by omega
    obtain ⟨vals,hv1,hv2⟩:=id HI.out.tb.ex
    obtain ⟨a2',c2',rfl,_⟩:=id HI.out.tb.cl.form
    obtain ⟨a3',c3',rfl,_⟩:=id (SL.of_owns HI.out.ac).elems
    have q0:=HI.out.bx.cell (i:=0) rfl
    have q1:=HI.out.bx.cell (i:=1) rfl
    have q2:=HI.out.bx.cell (i:=2) rfl
    have bR:=H3.out.2.2.1.upd HI.out.u (by simp)
    have r0:=bR.cell (i:=0) rfl
    have r1:=bR.cell (i:=1) rfl
    have r2:=bR.cell (i:=2) rfl
    have rf:∀ q,wr.frozen? ⟨pa+1,q,none⟩=false:=bR.free
    have HBR:=Lib.hid bR
    clear bR hv1 hv2
    go_wp2_with fail
    have hs:=cell3_set (a:=.slice an a.cuts.length cn) (b:=.slice a2' a.next.length c2') (c:=.slice a3' a.next.length c3') HBR.out
    have z1:=HSZ.out.1
    have z2:=HSZ.out.2
    rw [HE.out,HOK.out.2]
    refine ret_au2 rfl rfl rfl hs.1 rfl ⟨_,_,_,rfl,?_,?_,?_⟩ ((H3.out.2.1.step HI.out.u).fresh hs.2 (fun b hb=>.inr (by simp at hb;subst hb;have:=HPA.out;omega)))
    ·exact (H3.out.1.upd HI.out.u (by simp)).upd hs.2 (fun b hb hv=>by simp at hb;subst hb;have:=HCO.out _ hv;omega)
    ·have h1:=(HI.out.tb.upd hs.2 (fun b hb=>by
      simp at hb;subst hb
      refine ⟨fun hf=>?_,fun hv=>?_⟩
      ·have:=HI.out.fn _ hf;omega
      ·obtain ⟨vals,h1,_⟩:=HI.out.tb.ex
       have:=h1.fresh _ hv;omega)).cl
     rw [List.take_length] at h1
     simpa using h1
    ·have h1:=SL.of_owns (ownsRow_updL HI.out.ac hs.2 (fun b hb hv=>by simp at hb;subst hb;have:=(HI.out.an _ hv).1;omega))
     rw [List.take_of_length_le (by rw [HOK.out.1.acc];exact Nat.le_refl _)] at h1
     simpa [HOK.out.1.acc] using h1
 ·have hb:(vErr a != 0)=true:=by simpa using he
  have HE:=Lib.hid (show compA a=noA by unfold compA;rw [if_pos he])
  clear he
  generalize her:vErr a=er at HVC hb
  have HER:=Lib.hid her
  clear her
  go_wp2_with ((with_reducible refine HVC.out.mono ?_);rintro e w2 ⟨rfl,u2⟩;have bR:=HB.out.1.upd u2 (by simp);have r0:=bR.cell (i:=0) rfl;have r1:=bR.cell (i:=1) rfl;have r2:=bR.cell (i:=2) rfl;have rf:∀ q,w2.frozen? ⟨pa+1,q,none⟩=false:=bR.free;have HBR:=Lib.hid (And.intro bR u2);clear bR u2)
  have hs:=cell3_set (a:=.slice none 0 0) (b:=.slice none 0 0) (c:=.slice none 0 0) HBR.out.1
  rw [HE.out,HER.out]
  exact ret_au2 rfl rfl rfl hs.1 rfl noA_F ((HB.out.2.step HBR.out.2).fresh hs.2 (fun b hb=>.inr (by simp at hb;subst hb;have:=HPA.out;omega)))
end
end Aut
end Go.Proofs.YtjclbjdkkdijbaaGreat
end
section
open Go.RowKit
namespace Go.Proofs.YtjclbjdkkdijbaaGreat
open L
namespace Aut
open Auto R01 Rgx Rx
attribute [-go_sem] sliced
def rS:Rx:=nd 7 0 0 [nd 2 97 97 []]
def aS:Au:=⟨[0,97,98],[[1,0,1],[1,1,1]],[true,false]⟩
theorem rS_err:nErr rS=0:=by kernel_rfl
theorem rS_res:nRes rS=rS:=by kernel_rfl
theorem rS_cuts:srtC (0::cutB (nRes rS))=[0,97,98]:=by rw [srtC_put,rS_res];kernel_rfl
theorem rS_upTo:upTo (some rS) 3 (nxO (nxR [0,97,98])) 2=([rS,rNone].map some,[[1,0,1],[1,1,1]]):=by kernel_rfl
theorem rS_of:ofE rS=0∧ofA rS=aS:=by
 have h:=numO_done rS_upTo (by decide) (by decide)
 unfold ofE ofA
 rw [if_neg (by simp [rS_err]),if_neg (by simp [rS_err]),rS_cuts,rS_res]
 rw [show ([0,97,98]:List Int).length=3 from rfl,h]
 exact ⟨rfl,by kernel_rfl⟩
theorem aS_v:vErr aS=0:=by decide
theorem aS_least:lstS aS=⟨#[]⟩∧lstB aS=true:=by
 have h:=leastA_at (a:=aS) (i:=0) (e:=(0,[])) (by decide) rfl rfl (fun j e' hj=>by omega)
 unfold lstS lstB
 rw [if_neg (by simp [aS_v]),if_neg (by simp [aS_v]),h]
 exact ⟨rfl,rfl⟩
theorem cS:compA aS=⟨[0,97,98],[[1,0,1],[1,1,1]],[false,true]⟩:=by unfold compA;rw [if_neg (by simp [aS_v])];rfl
theorem cS_v:vErr (compA aS)=0:=by rw [cS];decide
theorem cS_least:lstS (compA aS)=⟨#[0]⟩∧lstB (compA aS)=true:=by
 have hq:bfsQ (compA aS) 1=[(0,[]),(1,[0])]:=by rw [cS];decide
 have h:=leastA_at (a:=compA aS) (i:=1) (e:=(1,[0])) (by decide) (by rw [hq];rfl) (by rw [cS];rfl) (fun j e' hj he=>by
  have:j=0:=by omega
  subst this
  rw [hq] at he
  cases he
  rw [cS];rfl)
 unfold lstS lstB
 rw [if_neg (by simp [cS_v]),if_neg (by simp [cS_v]),h]
 exact ⟨rfl,rfl⟩
theorem aS_left:leftE aS 0 5=0∧leftR aS 0 5=[true,true,true,true,true,true]:=by decide
def cA:Au:=⟨[0,97,98],[[1,0,1],[1,1,1]],[false,true]⟩
theorem aS_shape {w:World} {v:Value} (h:AuV w aS v):∃ a1 c1 a2 c2 a3 c3,v=.agg #[.slice a1 3 c1,.slice a2 2 c2,.slice a3 2 c3]∧AuF w aS [.slice a1 3 c1,.slice a2 2 c2,.slice a3 2 c3]:=h.shape
theorem cA_shape {w:World} {v:Value} (h:AuV w (compA aS) v):∃ a1 c1 a2 c2 a3 c3,v=.agg #[.slice a1 3 c1,.slice a2 2 c2,.slice a3 2 c3]∧AuF w cA [.slice a1 3 c1,.slice a2 2 c2,.slice a3 2 c3]:=by
 rw [cS] at h
 exact AuV.shape (a:=cA) h
theorem cA_least:vErr cA=0∧lstS cA=⟨#[0]⟩∧lstB cA=true:=by
 have h1:=cS_v
 have h2:=cS_least
 rw [cS] at h1 h2
 exact ⟨h1,h2⟩
section
variable {w:World}
theorem rS_V {w:World} {g c:Nat} (h:Blk w g [.int .i64 2,.int .u8 97,.int .u8 97,.slice none 0 0] 37) (hc:1≤c) (hm:c≤maxLen):RxV [] w rS (.agg #[.int .i64 7,.int .u8 0,.int .u8 0,.slice (some ⟨g,0,none⟩) 1 c]):=by
 refine RxV.iff.2 ⟨_,rfl,⟨⟨by decide,by decide⟩,by omega,by omega⟩,fun _=>rxC 2 97 97 (.slice none 0 0),⟨rfl,_,c,rfl,hc,hm,by simp,.inr ⟨g,0,rfl,fun j u hj=>?_⟩⟩,fun _=>rfl,fun g' _ _=>by simp,fun i r hi=>?_⟩
 ·rw [Nat.zero_add];exact h.cell hj
 ·have:i=0:=by
   have:=(List.getElem?_eq_some_iff.1 hi).1
   simpa using this
  subst this
  simp at hi
  subst hi
  exact RxF.iff.2 ⟨_,rfl,⟨⟨by decide,by decide⟩,by omega,by omega⟩,RxL.nil0⟩
set_option maxRecDepth 100000 in
set_option maxHeartbeats 16000000 in
theorem lives_calls:Calls Tryz.prog 18 #[] w fun e w'=>e=.returned (.bool true)∧Upd [] w w':=by
 go_enter Tryz.func18,Tryz.ntmps18
 go_upto_region 2 with fail
 change Code.wp _ _ _ _ ((w.alloc (.cells #[.int .i64 2,.int .u8 97,.int .u8 97,.slice none 0 0] 37)).alloc (.cells #[.int .i64 7,.int .u8 0,.int .u8 0,.slice (some ⟨w.heap.size,0,none⟩) 1 1] 37))
 have bK:=(Blk.new w [.int .i64 2,.int .u8 97,.int .u8 97,.slice none 0 0] 37).alloc (.cells #[.int .i64 7,.int .u8 0,.int .u8 0,.slice (some ⟨w.heap.size,0,none⟩) 1 1] 37)
 have bS:=Blk.new (w.alloc (.cells #[.int .i64 2,.int .u8 97,.int .u8 97,.slice none 0 0] 37)) [.int .i64 7,.int .u8 0,.int .u8 0,.slice (some ⟨w.heap.size,0,none⟩) 1 1] 37
 have u1:=((Upd.refl [] w).alloc (.cells #[.int .i64 2,.int .u8 97,.int .u8 97,.slice none 0 0] 37)).alloc (.cells #[.int .i64 7,.int .u8 0,.int .u8 0,.slice (some ⟨w.heap.size,0,none⟩) 1 1] 37)
 have z1:(w.alloc (.cells #[.int .i64 2,.int .u8 97,.int .u8 97,.slice none 0 0] 37)).heap.size=w.heap.size+1:=by simp
 rw [z1] at bS
 change Blk ((w.alloc (.cells #[.int .i64 2,.int .u8 97,.int .u8 97,.slice none 0 0] 37)).alloc (.cells #[.int .i64 7,.int .u8 0,.int .u8 0,.slice (some ⟨w.heap.size,0,none⟩) 1 1] 37)) _ _ _ at bS
 generalize ((w.alloc (.cells #[.int .i64 2,.int .u8 97,.int .u8 97,.slice none 0 0] 37)).alloc (.cells #[.int .i64 7,.int .u8 0,.int .u8 0,.slice (some ⟨w.heap.size,0,none⟩) 1 1] 37))=w1 at *
 have HU1:=Lib.hid u1
 have HOF:=Lib.hid (Of_calls (rS_V bK (Nat.le_refl _) (by decide)))
 rw [rS_of.1,rS_of.2] at HOF
 have s0:=bS.cell (i:=0) rfl
 have s1:=bS.cell (i:=1) rfl
 have s2:=bS.cell (i:=2) rfl
 have s3:=bS.cell (i:=3) rfl
 clear bK bS u1 z1
 generalize w.heap.size=sb at *
 go_upto_region 3 with ((with_reducible refine HOF.out.mono ?_);rintro e w2 ⟨v2,rfl,hA,u2⟩;obtain ⟨a1,c1,a2,c2,a3,c3,rfl,hF⟩:=aS_shape hA;have HF:=Lib.hid (And.intro hF (HU1.out.step u2));clear hA hF u2)
 change Code.wp _ _ _ _ (w2.alloc (.cells #[.slice a1 3 c1,.slice a2 2 c2,.slice a3 2 c3] 31))
 have b3:=Blk.new w2 [.slice a1 3 c1,.slice a2 2 c2,.slice a3 2 c3] 31
 have u3:=(Upd.refl [] w2).alloc (.cells #[.slice a1 3 c1,.slice a2 2 c2,.slice a3 2 c3] 31)
 change Blk (w2.alloc (.cells #[.slice a1 3 c1,.slice a2 2 c2,.slice a3 2 c3] 31)) _ _ _ at b3
 generalize (w2.alloc (.cells #[.slice a1 3 c1,.slice a2 2 c2,.slice a3 2 c3] 31))=w3 at *
 generalize w2.heap.size=ab at *
 have HF3:=Lib.hid (And.intro (HF.out.1.ext u3) (HF.out.2.step u3))
 have k0:=b3.cell (i:=0) rfl
 have k1:=b3.cell (i:=1) rfl
 have k2:=b3.cell (i:=2) rfl
 have HL:=Lib.hid (Least_calls (a:=aS) ⟨_,rfl,HF3.out.1⟩)
 rw [aS_least.1,aS_least.2,aS_v] at HL
 clear b3 u3 s0 s1 s2 s3 HOF HF
 go_upto_region 4 with ((with_reducible refine HL.out.mono ?_);rintro e w4 ⟨rfl,u4⟩)
 have HF4:=Lib.hid (And.intro (HF3.out.1.ext u4) (HF3.out.2.step u4))
 have m0:=u4.some k0 (by simp)
 have m1:=u4.some k1 (by simp)
 have m2:=u4.some k2 (by simp)
 have HLN:=Lib.hid (Lengths_calls (a:=aS) (most:=5) ⟨_,rfl,HF4.out.1⟩)
 rw [aS_left.1,aS_left.2] at HLN
 clear u4 k0 k1 k2 HL HF3
 go_upto_region 5 with ((with_reducible refine HLN.out.mono ?_);rintro e w5 ⟨v5,rfl,hs5,u5⟩;obtain ⟨a5,c5,rfl,_⟩:=id hs5.elems;have HS5:=Lib.hid hs5;clear hs5)
 have HF5:=Lib.hid (And.intro (HF4.out.1.ext u5) (HF4.out.2.step u5))
 have n0:=u5.some m0 (by simp)
 have n1:=u5.some m1 (by simp)
 have n2:=u5.some m2 (by simp)
 have HCM:=Lib.hid (Complement_calls (a:=aS) ⟨_,rfl,HF5.out.1⟩)
 rw [aS_v] at HCM
 clear u5 m0 m1 m2 HLN HF4
 go_upto_region 6 with ((with_reducible refine HCM.out.mono ?_);rintro e w6 ⟨v6,rfl,hC,u6⟩;obtain ⟨d1,e1,d2,e2,d3,e3,rfl,hG⟩:=cA_shape hC;have HG:=Lib.hid (And.intro hG u6);clear hC hG u6)
 change Code.wp _ _ _ _ (w6.alloc (.cells #[.slice d1 3 e1,.slice d2 2 e2,.slice d3 2 e3] 31))
 have b7:=Blk.new w6 [.slice d1 3 e1,.slice d2 2 e2,.slice d3 2 e3] 31
 have u7:=(Upd.refl [] w6).alloc (.cells #[.slice d1 3 e1,.slice d2 2 e2,.slice d3 2 e3] 31)
 change Blk (w6.alloc (.cells #[.slice d1 3 e1,.slice d2 2 e2,.slice d3 2 e3] 31)) _ _ _ at b7
 generalize (w6.alloc (.cells #[.slice d1 3 e1,.slice d2 2 e2,.slice d3 2 e3] 31))=w7 at *
 generalize w6.heap.size=db at *
 have HU7:=Lib.hid (HG.out.2.step u7)
 have k0:=b7.cell (i:=0) rfl
 have k1:=b7.cell (i:=1) rfl
 have k2:=b7.cell (i:=2) rfl
 have HL2:=Lib.hid (Least_calls (a:=cA) ⟨_,rfl,HG.out.1.ext u7⟩)
 rw [cA_least.1,cA_least.2.1,cA_least.2.2] at HL2
 clear b7 HCM
 go_upto_region 7 with ((with_reducible refine HL2.out.mono ?_);rintro e w8 ⟨rfl,u8⟩;have HU8:=Lib.hid (HU7.out.step u8);have HU9:=Lib.hid (u7.step u8);clear u8)
 have q0:=HU8.out.some n0 (by simp)
 have q1:=HU8.out.some n1 (by simp)
 have q2:=HU8.out.some n2 (by simp)
 have HF8:=Lib.hid (And.intro (HF5.out.1.ext HU8.out) (HF5.out.2.step HU8.out))
 have HS8:=Lib.hid (HS5.out.upd HU8.out (by simp))
 go_upto_region 9 with fail
 obtain ⟨g3,o3,he3,x0⟩:=HF8.out.1.acc (i:=0) (by decide)
 obtain ⟨g3',o3',he3',x1⟩:=HF8.out.1.acc (i:=1) (by decide)
 rw [he3] at he3'
 cases he3'
 cases he3
 obtain ⟨_,_,he5,_,_,hc5⟩:=HS8.out.elems
 cases he5
 obtain ⟨g5,o5,rfl,hc6⟩:=hc5 (by decide)
 have y0:=hc6 0 _ rfl
 have y5:=hc6 5 _ rfl
 have hs1:SL w8 1 (.slice a1 3 c1) ([0,97,98]:List Int).length (ints [0,97,98]):=by
  obtain ⟨_,_,_,he,h,_,_⟩:=HF8.out.1
  cases he
  exact h
 have uB:=(Upd.refl [] w8).alloc (.cells #[.int .i64 0,.int .i64 97,.int .i64 98] 3)
 have hs2:SL (w8.alloc (.cells #[.int .i64 0,.int .i64 97,.int .i64 98] 3)) 1 (.slice (some ⟨w8.heap.size,0,none⟩) 3 3) ([0,97,98]:List Int).length (ints [0,97,98]):=SL.of_blk (pad:=[]) (k:=1) (n:=3) (cap:=3) (xs:=ints [0,97,98]) (Blk.new w8 (ints [0,97,98]) 3) rfl (Nat.le_refl _) (by decide)
 have HSI:=Lib.hid (SameInts_calls (hs1.upd uB (by simp)) hs2)
 have x0:w8.cell? ⟨g3,o3,none⟩=some (.bool true):=x0
 have x1:w8.cell? ⟨g3,o3+1,none⟩=some (.bool false):=x1
 have y0:w8.cell? ⟨g5,o5,none⟩=some (.bool true):=y0
 have y5:w8.cell? ⟨g5,o5+5,none⟩=some (.bool true):=y5
 have z0:=uB.some x0 (by simp)
 have z1:=uB.some x1 (by simp)
 have z2:=uB.some q2 (by simp)
 have z3:=uB.some y0 (by simp)
 have z4:=uB.some y5 (by simp)
 go_wp2_with ((with_reducible refine HSI.out.mono ?_);rintro e w9 ⟨rfl,u9⟩;have j0:=u9.some z0 (by simp);have j1:=u9.some z1 (by simp);have j2:=u9.some z2 (by simp);have j3:=u9.some z3 (by simp);have j4:=u9.some z4 (by simp))
 go_ret
 exact ⟨by first|rfl|simp [aS],(HF8.out.2.step uB).step u9⟩
end
end Aut
end Go.Proofs.YtjclbjdkkdijbaaGreat
end
section
open Go.RowKit
namespace Go.Proofs.YtjclbjdkkdijbaaGreat
open L
namespace Auto
theorem Ok.v {a:Au} (h:Ok a):vErr a=0:=by
 have hl:0<a.cuts.length:=by
  have:=h.mem0
  exact List.length_pos_of_mem this
 have hz:a.cuts.getD 0 0=0:=by
  have:=h.zero
  rw [List.getD_eq_getElem?_getD,List.getElem?_eq_getElem hl] at this ⊢
  simpa using this
 have h1:=h.few
 have h2:=h.some_
 have h3:=h.acc
 unfold vErr
 rw [if_neg (by omega),if_neg (by rw [hz];omega),if_neg,if_neg]
 ·exact fun hn=>hn h.rows
 ·intro hn
  refine hn fun i hi h1=>?_
  have hg:∀ j,(hj:j<a.cuts.length)→a.cuts.getD j 0=a.cuts[j]:=fun j hj=>by rw [List.getD_eq_getElem?_getD,List.getElem?_eq_getElem hj];rfl
  rw [hg (i-1) (by omega),hg i hi]
  exact ⟨List.pairwise_iff_getElem.1 h.inc (i-1) i (by omega) hi (by omega),h.top _ (List.getElem_mem hi)⟩
section
variable {α:Type} [DecidableEq α]
theorem upTo_rowlen (first:α) (m:Nat) (nx:α→Nat→α):∀ i,∀ r∈(upTo first m nx i).2,r.length=m
 | 0,r,hr=>by simp [upTo] at hr
 | i+1,r,hr=>by
  rw [upTo] at hr
  cases hs:(upTo first m nx i).1[i]? with
  | none=>rw [hs] at hr;exact upTo_rowlen first m nx i r hr
  | some s=>
   rw [hs] at hr
   rcases List.mem_append.1 hr with h|h
   ·exact upTo_rowlen first m nx i r h
   ·simp at h;subst h;exact scan_len _ _ _
end
end Auto
namespace Aut
open Auto
attribute [-go_sem] sliced
section
variable {a b:Au}
theorem cutsB_inc (a b:Au):(cutsB a b).Pairwise (·<·):=srtC_inc _
theorem cutsB_mem (a b:Au) (x:Int):x∈cutsB a b↔x∈a.cuts∨x∈b.cuts:=by unfold cutsB;rw [srtC_mem,List.mem_append]
theorem cutsB_rng (oa:Ok a) (ob:Ok b):∀ c∈cutsB a b,0≤c∧c≤255:=fun c hc=>by
 rcases (cutsB_mem a b c).1 hc with h|h
 ·exact ⟨oa.nonneg c h,oa.top c h⟩
 ·exact ⟨ob.nonneg c h,ob.top c h⟩
theorem both_cases (oa:Ok a) (ob:Ok b) (o:Bool):bothA a b o=noA∨Ok (bothA a b o):=by
 cases h:numb (0,0) (cutsB a b).length (bothNx a b (cutsB a b)) with
 | none=>
  left
  unfold bothA
  rw [h,if_neg (by simp [oa.v]),if_neg (by simp [ob.v])]
 | some q=>
  right
  have hq:(upTo (0,0) (cutsB a b).length (bothNx a b (cutsB a b)) 256).1.length≤256∧q=upTo (0,0) (cutsB a b).length (bothNx a b (cutsB a b)) 256:=by
   unfold numb at h
   split at h
   ·rename_i h1
    exact ⟨h1,(Option.some.inj h).symm⟩
   ·cases h
  have e:bothA a b o=numA (cutsB a b) (upTo (0,0) (cutsB a b).length (bothNx a b (cutsB a b)) 256) (accB a b o):=by
   unfold bothA
   rw [h,if_neg (by simp [oa.v]),if_neg (by simp [ob.v]),←hq.2]
   rfl
  rw [e]
  have h1:=hq.1
  have h2:=upTo_full h1
  have h3:0<(upTo (0,0) (cutsB a b).length (bothNx a b (cutsB a b)) 256).1.length:=(List.getElem?_eq_some_iff.1 (upTo_head (0,0) (cutsB a b).length (bothNx a b (cutsB a b)) 256)).1
  have h0:(0:Int)∈cutsB a b:=(cutsB_mem a b 0).2 (.inl oa.mem0)
  refine ⟨by simp [numA];omega,by simp [numA];omega,by simp [numA];omega,zero_head (cutsB_inc a b) h0 (fun c hc=>(cutsB_rng oa ob c hc).1),cutsB_inc a b,fun c hc=>(cutsB_rng oa ob c hc).2,fun l hl=>?_⟩
  simp only [numA,List.mem_map] at hl
  obtain ⟨r,hr,rfl⟩:=hl
  have h4:=upTo_rowlen (0,0) (cutsB a b).length (bothNx a b (cutsB a b)) 256 r hr
  refine ⟨by rw [List.length_map];exact h4,fun s hs=>?_⟩
  obtain ⟨n,hn,rfl⟩:=List.mem_map.1 hs
  refine ⟨Int.natCast_nonneg n,?_⟩
  obtain ⟨i,hi,rfl⟩:=List.getElem_of_mem hr
  obtain ⟨j,hj,rfl⟩:=List.getElem_of_mem hn
  obtain ⟨st,h5,h6⟩:=upTo_ok (0,0) (cutsB a b).length (bothNx a b (cutsB a b)) 256 i j hi (by omega)
  have h7:=(List.getElem?_eq_some_iff.1 h6).1
  rw [List.getD_eq_getElem?_getD,List.getD_eq_getElem?_getD,List.getElem?_eq_getElem hi,Option.getD_some,List.getElem?_eq_getElem hj,Option.getD_some] at h7
  simp only [numA,List.length_map,Int.ofNat_eq_natCast]
  omega
end
end Aut
end Go.Proofs.YtjclbjdkkdijbaaGreat
end
section
open Go.RowKit
namespace Go.Proofs.YtjclbjdkkdijbaaGreat
open L
namespace Aut
open Auto
attribute [-go_sem] sliced
section
variable {w w':World}
theorem SL_off {v:Value} {n b:Nat} {cs:List Value} {T:TypeId} {u:Value} (h:SL w 1 v n cs) (hn:0<n) (hu:cs[0]?=some u) (hne:u≠.slice none 0 0) (hB:Blk w b [.slice none 0 0,.slice none 0 0,.slice none 0 0] T):v.ownBlock≠some b:=by
 obtain ⟨a,cap,rfl,_,_,hc⟩:=h.elems
 obtain ⟨g,off,rfl,hc2⟩:=hc hn
 intro he
 simp only [Value.ownBlock,Option.some.injEq] at he
 subst he
 have h0:=hc2 0 u hu
 rw [cell_of_row w g (off+0) _ _ _ hB] at h0
 match off,h0 with
 | 0,h0=>simp at h0;exact hne h0.symm
 | 1,h0=>simp at h0;exact hne h0.symm
 | 2,h0=>simp at h0;exact hne h0.symm
 | (m+3),h0=>simp at h0
theorem AuF_keep {a:Au} {cs:List Value} {b:Nat} {T:TypeId} (h:AuF w a cs) (hok:Ok a) (hB:Blk w b [.slice none 0 0,.slice none 0 0,.slice none 0 0] T) (hu:Upd [b] w w'):AuF w' a cs:=by
 obtain ⟨cv,nv,av,rfl,h1,h2,h3⟩:=h
 have hcl:=List.length_pos_of_mem hok.mem0
 have hal:0<a.acc.length:=by have h1:=hok.acc;have h2:=hok.some_;omega
 have k1:=SL_off h1 hcl (ints_get (gd_some (d:=0) hcl)) (by simp) hB
 have k3:=SL_off h3 hal (bools_get (gd_some (d:=false) hal)) (by simp) hB
 refine ⟨cv,nv,av,rfl,h1.upd hu (fun c hc=>by simp at hc;subst hc;exact k1),?_,h3.upd hu (fun c hc=>by simp at hc;subst hc;exact k3)⟩
 obtain ⟨vals,q1,q2,q3⟩:=h2.ex
 have row:∀ (i:Nat) (c:List Int),a.next[i]?=some c→∃ v,vals[i]?=some v∧SL w 1 v c.length (ints c)∧v≠.slice none 0 0∧v.ownBlock≠some b:=fun i c hc=>by
  obtain ⟨v,hv,hs⟩:=q3 i c hc
  have hl:=(hok.rows c (List.mem_of_getElem? hc)).1
  have hp:0<c.length:=by omega
  refine ⟨v,hv,hs,fun he=>?_,SL_off hs hp (ints_get (gd_some (d:=0) hp)) (by simp) hB⟩
  subst he
  obtain ⟨a',cap,he2,_⟩:=hs.elems
  simp only [Value.slice.injEq] at he2
  omega
 have h0:=hok.some_
 obtain ⟨v0,e0,_,e2,_⟩:=row 0 _ (List.getElem?_eq_getElem h0)
 have k2:=SL_off q2 h0 e0 e2 hB
 refine ⟨vals,q1,q2.upd hu (fun c hc=>by simp at hc;subst hc;exact k2),fun i c hc=>?_⟩
 obtain ⟨v,hv,hs,_,hb⟩:=row i c hc
 exact ⟨v,hv,hs.upd hu (fun d hd=>by simp at hd;subst hd;exact hb)⟩
end
end Aut
end Go.Proofs.YtjclbjdkkdijbaaGreat
end
section
open Go.RowKit
namespace Go.Proofs.YtjclbjdkkdijbaaGreat
open L
namespace Aut
open Auto
attribute [-go_sem] sliced
section
variable {w w':World} {v:Value}
set_option maxRecDepth 100000 in
set_option maxHeartbeats 16000000 in
theorem CompR_calls {a:Au} (h:AuV w a v) (hb:a.acc.length≤1000000):Calls Tryz.prog 37 #[v] w fun e w'=>∃ v',e=.returned v'∧AuV w' ⟨a.cuts,a.next,a.acc.map not⟩ v'∧Upd [] w w':=by
 obtain ⟨a1,c1,a2,c2,a3,c3,rfl,hF⟩:=h.shape
 have HF:=Lib.hid hF
 obtain ⟨w1,hw1,e1,e2,u1⟩:=two_rows3 w (.slice a1 a.cuts.length c1) (.slice a2 a.next.length c2) (.slice a3 a.acc.length c3) (.slice none 0 0) (.slice none 0 0) (.slice none 0 0) 39
 clear h hF
 go_enter Tryz.func37,Tryz.ntmps37
 go_upto_region 1 with fail
 rw [←hw1]
 clear hw1
 have k0:=e1.cell (i:=0) rfl
 have k1:=e1.cell (i:=1) rfl
 have k2:=e1.cell (i:=2) rfl
 have HB:=Lib.hid (And.intro e2 u1)
 clear e1 e2 u1
 generalize hpa:w.heap.size=pa at *
 have HPA:=Lib.hid (Nat.le_of_eq hpa)
 clear hpa
 go_upto_region 2 with fail
 change Code.wp _ _ _ _ (w1.alloc (.cells #[.slice a1 a.cuts.length c1,.slice a2 a.next.length c2,.slice none 0 0] 39))
 have bC:=Blk.new w1 [.slice a1 a.cuts.length c1,.slice a2 a.next.length c2,.slice none 0 0] 39
 have uC:=(Upd.refl [] w1).alloc (.cells #[.slice a1 a.cuts.length c1,.slice a2 a.next.length c2,.slice none 0 0] 39)
 change Blk (w1.alloc (.cells #[.slice a1 a.cuts.length c1,.slice a2 a.next.length c2,.slice none 0 0] 39)) _ _ _ at bC
 generalize (w1.alloc (.cells #[.slice a1 a.cuts.length c1,.slice a2 a.next.length c2,.slice none 0 0] 39))=w2 at *
 generalize hcb:w1.heap.size=cb at *
 have HCB:=Lib.hid (Nat.le_of_eq hcb)
 have HC:=Lib.hid (And.intro bC uC)
 have HK2:=Lib.hid k2
 clear bC uC hcb k0 k1 k2
 go_wp2_with fail
 go_loopw [4] (fun kv wr=>∃ (i:Nat) (av:Value),kv=.int .i64 i∧i≤a.acc.length∧Hid (Blk wr cb [.slice a1 a.cuts.length c1,.slice a2 a.next.length c2,av] 39∧wr.ownsRow 0 4 1 av i (bools ((a.acc.take i).map not))∧(∀ q,av.ownBlock=some q→w1.heap.size≤q∧q≠cb)∧Upd [] w1 wr)) (fun kv _=>a.acc.length - (intOf kv).toNat)
 case atStart=>exact ⟨0,_,rfl,Nat.zero_le _,Lib.hid ⟨HC.out.1,World.ownsRow_nil _ _ _ _,fun q hq=>by simp [Value.ownBlock] at hq,HC.out.2⟩⟩
 case round=>
  obtain ⟨i,av,rfl,hi,HI⟩:=hrel
  have p2:=HI.out.2.2.2.some HK2.out (by simp)
  by_cases hlt:i<a.acc.length
  ·have hli:(i:Int)<a.acc.length:=by omega
   obtain ⟨g3,off3,he3,hacc⟩:=(HF.out.ext HB.out.2).acc hlt
   cases he3
   have hac':=HI.out.2.2.2.some hacc (by simp)
   have q2:=HI.out.1.cell (i:=2) rfl
   have HBI:=Lib.hid (show (a.acc.take (i+1)).map not=(a.acc.take i).map not++[!a.acc.getD i false] by
    rw [List.take_add_one,gd_some (d:=false) hlt];simp)
   clear hacc
   generalize a.acc.getD i false=bi at *
   go_wp2_with fail
   refine wp_region_ord 9 6 [0,1,2,3,4,5,6,7,10] [1,3,6] [0,1,2,3,4,5,6,7,8,9,10,11] (fun w'=>∃ x:Ext wr,w'=x.val) (by kernel_rfl) (by kernel_rfl) (Ext.of (by iterate 25 (first|exact Upd.refl _ _|assumption|refine Upd.alloc ?_ _|refine Upd.drew ?_|refine Upd.drewN ?_ _|refine Upd.dl ?_|refine Upd.step ?_ (Ext.upd _)|refine Upd.nil ?_|skip))) ?_
   repeat (first|(refine wpOrd_load rfl rfl rfl rfl (fun K hK=>?_);go_big_quiet_step (fail);refine wpQuiet_nil ?_;refine hK _ ?_;clear hK K)|(refine wpOrd_free rfl rfl rfl (fun K hK=>?_);go_big_quiet_step (fail);refine wpQuiet_nil ?_;refine hK _ ?_;clear hK K))
   refine wpOrd_fix rfl rfl (fun K hK=>?_)
   go_wp2_with fail
   have HNB3:=Lib.hid (show Blk ((wr.alloc (.cells #[.bool !bi] 4)).drew) wr.heap.size [.bool !bi] 4∧Upd [] wr ((wr.alloc (.cells #[.bool !bi] 4)).drew) from ⟨Blk.new wr [.bool !bi] 4,(by iterate 25 (first|exact Upd.refl _ _|assumption|refine Upd.alloc ?_ _|refine Upd.drew ?_|refine Upd.drewN ?_ _|refine Upd.dl ?_|refine Upd.step ?_ (Ext.upd _)|refine Upd.nil ?_|skip))⟩)
   have HGB:=Lib.hid (Nat.le_refl wr.heap.size)
   generalize ((wr.alloc (.cells #[.bool !bi] 4)).drew)=wB at *
   generalize wr.heap.size=gB at HNB3 HGB ⊢
   have hi6:i≤1000000:=by omega
   refine ⟨fun _=>Ext.of HNB3.out.2,?_⟩
   repeat (first|(refine wpOrd_load rfl rfl rfl rfl (fun K hK=>?_);go_big_quiet_step (fail);refine wpQuiet_nil ?_;refine hK _ ?_;clear hK K)|(refine wpOrd_free rfl rfl rfl (fun K hK=>?_);go_big_quiet_step (fail);refine wpQuiet_nil ?_;refine hK _ ?_;clear hK K))
   refine wpOrd_fix rfl rfl (fun K hK=>?_)
   refine wpList_app rfl _ _ _ rfl 4 1 1 _ Tryz.underlying29 infoBool rfl (by decide) av _ _ rfl (ownsRow_updL HI.out.2.1 HNB3.out.2 (by simp)) gB 1 1 [.bool !bi] 4 rfl rfl HNB3.out.1 (by simp [Value.oneCell']) (by omega) (by unfold maxLen;omega) (by omega) ?_
   intro g7 c7 w7 o7 u7 k7
   simp only [Act.put,List.setIfInBounds_toArray,List.set_cons_zero,List.set_cons_succ]
   have bx7:=(HI.out.1.upd HNB3.out.2 (by simp)).upd u7 (fun hm=>(HI.out.2.2.1 cb (by simpa using hm)).2 rfl)
   have q2':=bx7.cell (i:=2) rfl
   have f2':∀ q,w7.frozen? ⟨cb,q,none⟩=false:=bx7.free
   have H7:=Lib.hid (And.intro o7 (And.intro u7 (And.intro k7 bx7)))
   clear o7 u7 k7 bx7 q2
   go_wp2_with fail
   refine ⟨fun hC=>absurd hC (by decide),?_⟩
   repeat (first|(refine wpOrd_load rfl rfl rfl rfl (fun K hK=>?_);go_big_quiet_step (fail);refine wpQuiet_nil ?_;refine hK _ ?_;clear hK K)|(refine wpOrd_free rfl rfl rfl (fun K hK=>?_);go_big_quiet_step (fail);refine wpQuiet_nil ?_;refine hK _ ?_;clear hK K))
   refine wpOrd_fix rfl rfl (fun K hK=>?_)
   go_wp2_with fail
   refine ⟨fun hC=>absurd hC (by decide),?_⟩
   refine wpOrd_nil ?_
   go_wp2_with fail
   have us:Upd [cb] w7 (w7.setCell ⟨cb,2,none⟩ (.slice (some ⟨g7,0,none⟩) (i+1) c7)):=(Upd.refl [cb] w7).set (p:=⟨cb,2,none⟩) (by simp) _
   have hz1:=HNB3.out.2.size
   have hz2:=HI.out.1.lt
   have hz3:=HI.out.2.2.2.size
   have hcb':=HCB.out
   have hg7:av.ownBlock=some g7∨wB.heap.size≤g7:=H7.out.2.2.1.imp id fun h=>by omega
   have hgc:g7≠cb:=fun e=>by
    rcases hg7 with h|h
    ·exact (HI.out.2.2.1 _ h).2 e
    ·omega
   refine ⟨⟨i+1,_,by go_num,by omega,Lib.hid ⟨H7.out.2.2.2.set 2 _,?_,fun q hq=>?_,((HI.out.2.2.2.step HNB3.out.2).fresh H7.out.2.1 (fun b hb=>.inr (HI.out.2.2.1 b (by simpa using hb)).1)).fresh us (fun b hb=>.inr (by simp at hb;subst hb;omega))⟩⟩,by simp [intOf];omega⟩
   ·have h1:=ownsRow_updL H7.out.1 us (fun b hb hv=>by simp at hb;subst hb;simp [Value.ownBlock] at hv;exact hgc hv)
    rw [HBI.out]
    simpa [bools] using h1
   ·simp only [Value.ownBlock,Option.some.injEq] at hq
    subst hq
    rcases hg7 with h|h
    ·exact HI.out.2.2.1 _ h
    ·exact ⟨by omega,hgc⟩
  ·have hie:i=a.acc.length:=by omega
   subst hie
   have hni:¬ ((a.acc.length:Int)<a.acc.length):=by omega
   obtain ⟨a3',c3',rfl,_⟩:=id (SL.of_owns HI.out.2.1).elems
   have q0:=HI.out.1.cell (i:=0) rfl
   have q1:=HI.out.1.cell (i:=1) rfl
   have q2:=HI.out.1.cell (i:=2) rfl
   have bR:=HB.out.1.upd HI.out.2.2.2 (by simp)
   have r0:=bR.cell (i:=0) rfl
   have r1:=bR.cell (i:=1) rfl
   have r2:=bR.cell (i:=2) rfl
   have rf:∀ q,wr.frozen? ⟨pa+1,q,none⟩=false:=bR.free
   have HBR:=Lib.hid bR
   clear bR
   go_wp2_with fail
   have hs:=cell3_set (a:=.slice a1 a.cuts.length c1) (b:=.slice a2 a.next.length c2) (c:=.slice a3' a.acc.length c3') HBR.out
   have hu:=(HB.out.2.step HI.out.2.2.2).fresh hs.2 (fun b hb=>.inr (by simp at hb;subst hb;have:=HPA.out;omega))
   have z1:=HB.out.1.lt
   obtain ⟨_,_,_,he,f1,f2,_⟩:=HF.out.ext hu
   cases he
   refine ret_plain rfl rfl hs.1 rfl ⟨_,_,_,rfl,f1,f2,?_⟩ hu
   have h1:=SL.of_owns (ownsRow_updL HI.out.2.1 hs.2 (fun b hb hv=>by simp at hb;subst hb;have:=(HI.out.2.2.1 _ hv).1;omega))
   rw [List.take_length] at h1
   simpa using h1
end
end Aut
end Go.Proofs.YtjclbjdkkdijbaaGreat
end
section
open Go.RowKit
namespace Go.Proofs.YtjclbjdkkdijbaaGreat
open L
namespace Law
open Aut Auto R01 Rgx
attribute [-go_sem] sliced
section
variable {w w':World} {v v2 v3:Value}
theorem SameC_yes {a b:Au} {v1 v2:Value} (he:a=b) (ha:AuV w a v1) (hb:AuV w b v2):Calls Tryz.prog 16 #[v1,v2] w fun e w'=>e=.returned (.bool true)∧Upd [] w w':=by
 refine (SameA_calls ha hb).mono ?_
 rintro e w2 ⟨x,rfl,hx,u⟩
 have:x=true:=hx.2 he
 subst this
 exact ⟨rfl,u⟩
theorem AuF_box {a:Au} {cs:List Value} {b:Nat} {T:TypeId} (h:AuF w a cs) (hok:a=noA∨Ok a) (hB:Blk w b [.slice none 0 0,.slice none 0 0,.slice none 0 0] T) (hu:Upd [b] w w'):AuF w' a cs:=by
 rcases hok with h0|h0
 ·subst h0
  obtain ⟨cv,nv,av,rfl,h1,h2,h3⟩:=h
  have key:∀ {v:Value},SL w 1 v 0 []→SL w' 1 v 0 []:=fun {v} hs=>by
   obtain ⟨q1,a,cap,he,q2,q3,q4,q5⟩:=hs
   exact ⟨q1,a,cap,he,q2,q3,q4,.inl rfl⟩
  refine ⟨cv,nv,av,rfl,key h1,?_,key h3⟩
  obtain ⟨vals,q1,q2,q3⟩:=h2.ex
  have:vals=[]:=by simpa [noA] using q1
  subst this
  exact ⟨[],rfl,key q2,fun i c hc=>by simp [noA] at hc⟩
 ·exact AuF_keep h h0 hB hu
set_option maxRecDepth 100000 in
set_option maxHeartbeats 16000000 in
theorem AutoCombined_calls {xs ys zs:List Int} {at_ how by_:Int} (hx:∀ x∈xs,IsI64 x) (hl:SL w 1 v xs.length (ints xs)) (hy:∀ x∈ys,IsI64 x) (hl2:SL w 1 v2 ys.length (ints ys)) (hz:∀ x∈zs,IsI64 x) (hl3:SL w 1 v3 zs.length (ints zs)) (h1:IsI64 at_) (h2:IsI64 how) (h3:IsI64 by_) :
 Calls Tryz.prog 7 #[v,v2,v3,.int .i64 at_,.int .i64 how,.int .i64 by_] w fun e w'=>e=.returned (.bool true)∧Upd [] w w':=by
 have HC1:=Lib.hid (some_calls hx hl hy hl2 h1 h2 h3)
 have HC2:=Lib.hid (fun (w':World) (u:Upd [] w w')=>some_calls (w:=w') hy (hl2.upd u (by simp)) hz (hl3.upd u (by simp)) h2 h1 h3)
 have hl5:(someL xs ys at_ how by_).length≤5:=Nat.le_refl _
 have HL5:=Lib.hid hl5
 have hl6:(someL ys zs how at_ by_).length≤5:=Nat.le_refl _
 have HL6:=Lib.hid hl6
 clear hl5 hl6
 generalize someL xs ys at_ how by_=ls at *
 generalize someL ys zs how at_ by_=os at *
 clear hx hl hy hl2 hz hl3 h1 h2 h3
 go_enter Tryz.func7,Tryz.ntmps7
 go_upto_region 2 with ((with_reducible refine HC1.out.mono ?_);rintro e w0 ⟨v1,rfl,hls,u0⟩)
 obtain ⟨lg,lc,rfl,hc1⟩:=id hls
 have HLS:=Lib.hid (And.intro u0 hc1)
 clear hls u0 hc1
 have HC3:=Lib.hid (HC2.out w0 HLS.out.1)
 go_upto_region 3 with ((with_reducible refine HC3.out.mono ?_);rintro e w1 ⟨v2',rfl,hos,u1⟩)
 obtain ⟨mg,mc,rfl,hc2⟩:=id hos
 have HOS:=Lib.hid (And.intro u1 hc2)
 clear hos u1 hc2 HC3 HC2 HC1
 go_wp2_with fail
 go_loopw [15] (fun iv wr=>∃ m:Nat,iv=.int .i64 m∧m≤ls.length∧∃ x:Ext w1,wr=x.val) (fun iv _=>ls.length - (intOf iv).toNat)
 case atStart=>exact ⟨0,rfl,Nat.zero_le _,Ext.of (by iterate 25 (first|exact Upd.refl _ _|assumption|refine Upd.alloc ?_ _|refine Upd.drew ?_|refine Upd.drewN ?_ _|refine Upd.dl ?_|refine Upd.step ?_ (Ext.upd _)|refine Upd.nil ?_|skip))⟩
 case round=>
  obtain ⟨m,rfl,hm,x,rfl⟩:=hrel
  have HXU:=Lib.hid x.upd
  generalize x.val=wq at *
  by_cases hlt:m<ls.length
  ·have hli:(m:Int)<ls.length:=by omega
   have hm5:(m:Int)≤5:=by have:=HL5.out;omega
   have ha:=List.getElem?_eq_getElem hlt
   generalize ls[m]=a at *
   obtain ⟨y0,y1,y2,hF,e0,e1,e2⟩:=HLS.out.2 m a ha
   obtain ⟨a1,c1,a2,c2,a3,c3,hve,hFF⟩:=AuV.shape (show AuV w0 a (.agg #[y0,y1,y2]) from ⟨_,rfl,hF⟩)
   cases hve
   have HAU:=Lib.hid (fun (w':World) (u:Upd [] w1 w')=>show AuV w' a (.agg #[.slice a1 a.cuts.length c1,.slice a2 a.next.length c2,.slice a3 a.acc.length c3]) from ⟨_,rfl,hFF.ext (HOS.out.1.step u)⟩)
   have HCE:=Lib.hid (And.intro (HOS.out.1.some e0 (by simp)) (And.intro (HOS.out.1.some e1 (by simp)) (HOS.out.1.some e2 (by simp))))
   have HON:=Lib.hid (fun (w':World) (u:Upd [] w1 w')=>own_calls (HAU.out w' u))
   obtain ⟨er,hee⟩:∃ er,vErr a=er:=⟨_,rfl⟩
   have HEE:=Lib.hid hee
   obtain ⟨ca,hca⟩:∃ ca,compA a=ca:=⟨_,rfl⟩
   have HCA:=Lib.hid hca
   have HCC:=Lib.hid (fun (w':World) (v':Value) (o:AuV w' a v')=>show Calls Tryz.prog 36 #[v'] w' fun e w2=>∃ v',e=.returned (.tuple #[v',.int .i64 er])∧AuV w2 ca v'∧Upd [] w' w2 from by have h:=Complement_calls o;rwa [hee,hca] at h)
   have f0:=HXU.out.some HCE.out.1 (by simp)
   have f1:=HXU.out.some HCE.out.2.1 (by simp)
   have f2:=HXU.out.some HCE.out.2.2 (by simp)
   have HON5:=Lib.hid (HON.out wq HXU.out)
   clear hF hFF e0 e1 e2 ha hee hca
   go_upto_region 7 with (first|((with_reducible refine HON5.out.mono ?_);rintro e w6 ⟨v6,rfl,o6,u6⟩;have HVC:=Lib.hid (HCC.out _ _ o6);have HU6:=Lib.hid u6;clear u6 o6)|((with_reducible refine HVC.out.mono ?_);rintro e w7 ⟨v7,rfl,o7,u7⟩;obtain ⟨x1,q1,x2,q2,x3,q3,rfl,hF7⟩:=o7.shape;have H7:=Lib.hid (And.intro u7 hF7);clear o7 u7 hF7))
   change Code.wp _ _ _ _ (w7.alloc (.cells #[.slice x1 ca.cuts.length q1,.slice x2 ca.next.length q2,.slice x3 ca.acc.length q3] 31))
   have HB:=Lib.hid (show Blk (w7.alloc (.cells #[.slice x1 ca.cuts.length q1,.slice x2 ca.next.length q2,.slice x3 ca.acc.length q3] 31)) w7.heap.size [.slice x1 ca.cuts.length q1,.slice x2 ca.next.length q2,.slice x3 ca.acc.length q3] 31∧Upd [] w7 (w7.alloc (.cells #[.slice x1 ca.cuts.length q1,.slice x2 ca.next.length q2,.slice x3 ca.acc.length q3] 31)) from ⟨Blk.new w7 _ _,(Upd.refl [] w7).alloc _⟩)
   generalize (w7.alloc (.cells #[.slice x1 ca.cuts.length q1,.slice x2 ca.next.length q2,.slice x3 ca.acc.length q3] 31))=w8 at *
   generalize w7.heap.size=cb at *
   have HX8:=Lib.hid (((HXU.out.step HU6.out).step H7.out.1).step HB.out.2)
   have HRV:=Lib.hid (show Calls Tryz.prog 20 #[.agg #[.slice a1 a.cuts.length c1,.slice a2 a.next.length c2,.slice a3 a.acc.length c3]] w8 fun e w'=>e=.returned (.int .i64 er)∧Upd [] w8 w' from by have h:=rValid_calls (HAU.out w8 HX8.out);rwa [HEE.out] at h)
   clear f0 f1 f2
   have f0:=HX8.out.some HCE.out.1 (by simp)
   have f1:=HX8.out.some HCE.out.2.1 (by simp)
   have f2:=HX8.out.some HCE.out.2.2 (by simp)
   go_upto_region 8 with ((with_reducible refine HRV.out.mono ?_);rintro e w9 ⟨rfl,u9⟩)
   have HX9:=Lib.hid (HX8.out.step u9)
   have HB9:=Lib.hid (HB.out.1.upd u9 (by simp))
   have HF9:=Lib.hid ((H7.out.2.ext HB.out.2).ext u9)
   clear f0 f1 f2 u9
   have f0:=HX9.out.some HCE.out.1 (by simp)
   have f1:=HX9.out.some HCE.out.2.1 (by simp)
   have f2:=HX9.out.some HCE.out.2.2 (by simp)
   have b0:=HB9.out.cell (i:=0) rfl
   have b1:=HB9.out.cell (i:=1) rfl
   have b2:=HB9.out.cell (i:=2) rfl
   have her:((er:Int) != er)=false:=by simp
   have HPL:=Lib.hid (fun (w':World) (u:Upd [] w9 w')=>plain_calls (w:=w') (a:=ca) (v:=.agg #[.slice x1 ca.cuts.length q1,.slice x2 ca.next.length q2,.slice x3 ca.acc.length q3]) ⟨_,rfl,HF9.out.ext u⟩)
   by_cases he:er=0
   ·subst he
    have HOK:=Lib.hid (And.intro (vErr_ok HEE.out) HEE.out)
    have HCQ:=Lib.hid (show ca=⟨a.cuts,a.next,a.acc.map not⟩ from by rw [←HCA.out];unfold compA;rw [if_neg (by simpa using HEE.out)])
    have HCR:=Lib.hid (fun (w':World) (u:Upd [] w9 w')=>CompR_calls (HAU.out w' (HX9.out.step u)) (by have h1:=HOK.out.1.acc;have h2:=HOK.out.1.few;omega))
    refine wp_region_ord 23 5 [0,1,2,3,4,5,6,7,9,10,11,12,15,16,17,18,19,20,21,22,24,26,27,28] [7,12,22] [0,1,2,3,4,5,6,7,9,10,11,12,8,13,14,15,16,17,18,19,20,21,22,24,23,25,26,27,28] (fun w'=>∃ x:Ext w9,w'=x.val) (by kernel_rfl) (by kernel_rfl) (Ext.of (by iterate 25 (first|exact Upd.refl _ _|assumption|refine Upd.alloc ?_ _|refine Upd.drew ?_|refine Upd.drewN ?_ _|refine Upd.dl ?_|refine Upd.step ?_ (Ext.upd _)|refine Upd.nil ?_|skip))) ?_
    repeat (first|(refine wpOrd_load rfl rfl rfl rfl (fun K hK=>?_);go_big_quiet_step (fail);refine wpQuiet_nil ?_;refine hK _ ?_;clear hK K)|(refine wpOrd_free rfl rfl rfl (fun K hK=>?_);go_big_quiet_step (fail);refine wpQuiet_nil ?_;refine hK _ ?_;clear hK K))
    refine wpOrd_fix rfl rfl (fun K hK=>?_)
    go_wp2_with (go_at_call 17;refine (HPL.out _ (by iterate 25 (first|exact Upd.refl _ _|assumption|refine Upd.alloc ?_ _|refine Upd.drew ?_|refine Upd.drewN ?_ _|refine Upd.dl ?_|refine Upd.step ?_ (Ext.upd _)|refine Upd.nil ?_|skip))).mono ?_;rintro e wa ⟨va,rfl,oa,ua⟩)
    have HA:=Lib.hid (And.intro (show Upd [] w9 wa from Upd.step (by iterate 25 (first|exact Upd.refl _ _|assumption|refine Upd.alloc ?_ _|refine Upd.drew ?_|refine Upd.drewN ?_ _|refine Upd.dl ?_|refine Upd.step ?_ (Ext.upd _)|refine Upd.nil ?_|skip)) ua) oa)
    clear oa ua
    refine ⟨by first|exact Ext.of HA.out.1|exact fun _=>Ext.of HA.out.1,?_⟩
    repeat (first|(refine wpOrd_load rfl rfl rfl rfl (fun K hK=>?_);go_big_quiet_step (fail);refine wpQuiet_nil ?_;refine hK _ ?_;clear hK K)|(refine wpOrd_free rfl rfl rfl (fun K hK=>?_);go_big_quiet_step (fail);refine wpQuiet_nil ?_;refine hK _ ?_;clear hK K))
    refine wpOrd_fix rfl rfl (fun K hK=>?_)
    go_wp2_with (go_at_call 37;refine (HCR.out _ HA.out.1).mono ?_;rintro e wb ⟨vb,rfl,ob,ub⟩)
    have HBb:=Lib.hid (And.intro (HA.out.1.step ub) (And.intro (HA.out.2.ext ub) ob))
    clear ob ub
    refine ⟨by first|exact Ext.of HBb.out.1|exact fun _=>Ext.of HBb.out.1,?_⟩
    repeat (first|(refine wpOrd_load rfl rfl rfl rfl (fun K hK=>?_);go_big_quiet_step (fail);refine wpQuiet_nil ?_;refine hK _ ?_;clear hK K)|(refine wpOrd_free rfl rfl rfl (fun K hK=>?_);go_big_quiet_step (fail);refine wpQuiet_nil ?_;refine hK _ ?_;clear hK K))
    refine wpOrd_fix rfl rfl (fun K hK=>?_)
    go_wp2_with (go_at_call 16;refine (SameC_yes HCQ.out HBb.out.2.1 HBb.out.2.2).mono ?_;rintro e wc ⟨rfl,uc⟩)
    have HC:=Lib.hid (HBb.out.1.step uc)
    clear uc
    refine ⟨by first|exact Ext.of HC.out|exact fun _=>Ext.of HC.out,?_⟩
    repeat (first|(refine wpOrd_load rfl rfl rfl rfl (fun K hK=>?_);go_big_quiet_step (fail);refine wpQuiet_nil ?_;refine hK _ ?_;clear hK K)|(refine wpOrd_free rfl rfl rfl (fun K hK=>?_);go_big_quiet_step (fail);refine wpQuiet_nil ?_;refine hK _ ?_;clear hK K))
    refine wpOrd_fix rfl rfl (fun K hK=>?_)
    go_wp2_with fail
    refine ⟨fun hC=>absurd hC (by decide),?_⟩
    repeat (first|(refine wpOrd_load rfl rfl rfl rfl (fun K hK=>?_);go_big_quiet_step (fail);refine wpQuiet_nil ?_;refine hK _ ?_;clear hK K)|(refine wpOrd_free rfl rfl rfl (fun K hK=>?_);go_big_quiet_step (fail);refine wpQuiet_nil ?_;refine hK _ ?_;clear hK K))
    refine wpOrd_fix rfl rfl (fun K hK=>?_)
    go_wp2_with fail
    refine ⟨fun hC=>absurd hC (by decide),?_⟩
    repeat (first|(refine wpOrd_load rfl rfl rfl rfl (fun K hK=>?_);go_big_quiet_step (fail);refine wpQuiet_nil ?_;refine hK _ ?_;clear hK K)|(refine wpOrd_free rfl rfl rfl (fun K hK=>?_);go_big_quiet_step (fail);refine wpQuiet_nil ?_;refine hK _ ?_;clear hK K))
    refine wpOrd_nil ?_
    have HX10:=Lib.hid (HX9.out.step HC.out)
    clear f0 f1 f2 b0 b1 b2
    go_wp2_with fail
    go_loopw [19] (fun jv wr=>∃ j:Nat,jv=.int .i64 j∧j≤os.length∧∃ x:Ext wc,wr=x.val) (fun jv _=>os.length - (intOf jv).toNat)
    case atStart=>exact ⟨0,rfl,Nat.zero_le _,Ext.of (by iterate 25 (first|exact Upd.refl _ _|assumption|refine Upd.alloc ?_ _|refine Upd.drew ?_|refine Upd.drewN ?_ _|refine Upd.dl ?_|refine Upd.step ?_ (Ext.upd _)|refine Upd.nil ?_|skip))⟩
    case round=>
     obtain ⟨j,rfl,hj,x,rfl⟩:=hrel
     have HX11:=Lib.hid (HX10.out.step x.upd)
     have HY11:=Lib.hid x.upd
     generalize x.val=wd at *
     by_cases hjl:j<os.length
     ·have hji:(j:Int)<os.length:=by omega
      have hj5:(j:Int)≤5:=by have:=HL6.out;omega
      have hb:=List.getElem?_eq_getElem hjl
      generalize os[j]=b at *
      obtain ⟨z0,z1,z2,hG,g0,g1,g2⟩:=HOS.out.2 j b hb
      obtain ⟨b1,d1,b2,d2,b3,d3,hvf,hGG⟩:=AuV.shape (show AuV w1 b (.agg #[z0,z1,z2]) from ⟨_,rfl,hG⟩)
      cases hvf
      have HBU:=Lib.hid (fun (w':World) (u:Upd [] w1 w')=>show AuV w' b (.agg #[.slice b1 b.cuts.length d1,.slice b2 b.next.length d2,.slice b3 b.acc.length d3]) from ⟨_,rfl,hGG.ext u⟩)
      have HDE:=Lib.hid (And.intro g0 (And.intro g1 g2))
      have HOB:=Lib.hid (fun (w':World) (u:Upd [] w1 w')=>own_calls (HBU.out w' u))
      obtain ⟨es,hes⟩:∃ es,vErr b=es:=⟨_,rfl⟩
      have HES:=Lib.hid hes
      clear hG hGG g0 g1 g2 hb hes
      go_wp2_with fail
      go_loopw [20] (fun nv wr=>∃ n:Nat,nv=.int .i64 n∧n≤2∧∃ x:Ext wd,wr=x.val) (fun nv _=>2 - (intOf nv).toNat)
      case atStart=>exact ⟨0,rfl,by omega,Ext.of (by iterate 25 (first|exact Upd.refl _ _|assumption|refine Upd.alloc ?_ _|refine Upd.drew ?_|refine Upd.drewN ?_ _|refine Upd.dl ?_|refine Upd.step ?_ (Ext.upd _)|refine Upd.nil ?_|skip))⟩
      case round=>
       obtain ⟨n,rfl,hn,x,rfl⟩:=hrel
       have HX12:=Lib.hid (HX11.out.step x.upd)
       have HY12:=Lib.hid x.upd
       generalize x.val=we at *
       by_cases hn2:n<2
       ·have hni:(n:Int)<2:=by omega
        obtain ⟨ob,hob⟩:∃ ob:Bool,((n:Int) == 1)=ob:=⟨_,rfl⟩
        obtain ⟨be,hbe⟩:∃ be,bothE a b=be:=⟨_,rfl⟩
        obtain ⟨ba,hba⟩:∃ ba,bothA a b ob=ba:=⟨_,rfl⟩
        have HBE:=Lib.hid (And.intro hbe hba)
        have HBO:=Lib.hid (fun (w':World) (v1 v2:Value) (o1:AuV w' a v1) (o2:AuV w' b v2)=>show Calls Tryz.prog 38 #[v1,v2,.bool ob] w' fun e w2=>∃ v',e=.returned (.tuple #[v',.int .i64 be])∧AuV w2 ba v'∧Upd [] w' w2 from by have h:=Both_calls ob o1 o2;rwa [hbe,hba] at h)
        clear hbe hba
        have f0:=HX12.out.some HCE.out.1 (by simp)
        have f1:=HX12.out.some HCE.out.2.1 (by simp)
        have f2:=HX12.out.some HCE.out.2.2 (by simp)
        have h0:=HX12.out.some HDE.out.1 (by simp)
        have h1:=HX12.out.some HDE.out.2.1 (by simp)
        have h2:=HX12.out.some HDE.out.2.2 (by simp)
        have HBK:=Lib.hid (show ba=noA∨Ok ba from by
         rw [←HBE.out.2]
         by_cases hse:vErr b=0
         ·exact both_cases HOK.out.1 (vErr_ok hse) ob
         ·left
          unfold bothA
          rw [if_neg (by simpa using HEE.out),if_pos hse])
        go_upto_region 16 with fail
        go_cut [21,22] (fun x21 x22 w'=>∃ xb s1 s2 s3,x21=.pointer (some ⟨xb,0,none⟩)∧x22=.int .i64 be∧Blk w' xb [s1,s2,s3] 31∧AuF w' ba [s1,s2,s3]∧Upd [] we w')
        case first=>
         go_wp2_with fail
         refine wp_region_wa 19 17 (fun w'=>∃ x:Ext we,w'=x.val) (by kernel_rfl) (by kernel_rfl) (Ext.of (by iterate 25 (first|exact Upd.refl _ _|assumption|refine Upd.alloc ?_ _|refine Upd.drew ?_|refine Upd.drewN ?_ _|refine Upd.dl ?_|refine Upd.step ?_ (Ext.upd _)|refine Upd.nil ?_|skip))) ?_
         (refine WA.free 0 rfl rfl (by kernel_rfl) (fun K hK=>?_);go_big_quiet_step (fail);refine wpQuiet_nil ?_;refine hK _ ?_;clear hK K);(refine WA.free 1 rfl rfl (by kernel_rfl) (fun K hK=>?_);go_big_quiet_step (fail);refine wpQuiet_nil ?_;refine hK _ ?_;clear hK K);(refine WA.free 2 rfl rfl (by kernel_rfl) (fun K hK=>?_);go_big_quiet_step (fail);refine wpQuiet_nil ?_;refine hK _ ?_;clear hK K)
         (refine WA.load 3 17 rfl rfl (by kernel_rfl) (by kernel_rfl) (fun K hK=>?_);go_big_quiet_step (fail);refine wpQuiet_nil ?_;refine hK _ ?_;clear hK K)
         (refine WA.free 5 rfl rfl (by kernel_rfl) (fun K hK=>?_);go_big_quiet_step (fail);refine wpQuiet_nil ?_;refine hK _ ?_;clear hK K);(refine WA.free 6 rfl rfl (by kernel_rfl) (fun K hK=>?_);go_big_quiet_step (fail);refine wpQuiet_nil ?_;refine hK _ ?_;clear hK K);(refine WA.free 7 rfl rfl (by kernel_rfl) (fun K hK=>?_);go_big_quiet_step (fail);refine wpQuiet_nil ?_;refine hK _ ?_;clear hK K)
         (refine WA.load 8 17 rfl rfl (by kernel_rfl) (by kernel_rfl) (fun K hK=>?_);go_big_quiet_step (fail);refine wpQuiet_nil ?_;refine hK _ ?_;clear hK K)
         (refine WA.free 10 rfl rfl (by kernel_rfl) (fun K hK=>?_);go_big_quiet_step (fail);refine wpQuiet_nil ?_;refine hK _ ?_;clear hK K);(refine WA.free 11 rfl rfl (by kernel_rfl) (fun K hK=>?_);go_big_quiet_step (fail);refine wpQuiet_nil ?_;refine hK _ ?_;clear hK K)
         refine WA.two 4 16 (by kernel_rfl) (Do_.mk rfl (fun K hK=>?_)) (Do_.mk rfl (fun K hK=>?_))
         ·go_wp2_with ((with_reducible refine (HON.out _ (HX12.out.step (by iterate 25 (first|exact Upd.refl _ _|assumption|refine Upd.alloc ?_ _|refine Upd.drew ?_|refine Upd.drewN ?_ _|refine Upd.dl ?_|refine Upd.step ?_ (Ext.upd _)|refine Upd.nil ?_|skip)))).mono ?_);rintro e wA ⟨vA,rfl,oA,uA⟩)
          have HA1:=Lib.hid (And.intro (show Upd [] we wA from Upd.step (by iterate 25 (first|exact Upd.refl _ _|assumption|refine Upd.alloc ?_ _|refine Upd.drew ?_|refine Upd.drewN ?_ _|refine Upd.dl ?_|refine Upd.step ?_ (Ext.upd _)|refine Upd.nil ?_|skip)) uA) oA)
          clear uA oA
          refine WA.keep (Ext.of HA1.out.1) ?_
          refine WA.two 9 16 (by kernel_rfl) (Do_.mk rfl (fun K hK=>?_)) (Do_.mk rfl (fun K hK=>?_))
          ·go_wp2_with ((with_reducible refine (HOB.out _ (HX12.out.step HA1.out.1)).mono ?_);rintro e wB ⟨vB,rfl,oB,uB⟩)
           have HB1:=Lib.hid (And.intro (show Upd [] we wB from Upd.step HA1.out.1 uB) (And.intro (HA1.out.2.ext uB) oB))
           clear uB oB
           refine WA.keep (Ext.of HB1.out.1) ?_
           refine WA.two 12 16 (by kernel_rfl) (Do_.mk rfl (fun K hK=>?_)) (Do_.mk rfl (fun K hK=>?_))
           ·go_wp2_with ((with_reducible refine (HBO.out _ _ _ HB1.out.2.1 HB1.out.2.2).mono ?_);rintro e wC ⟨vC,rfl,oC,uC⟩;obtain ⟨r1,t1,r2,t2,r3,t3,rfl,hFC⟩:=oC.shape)
            have HC1:=Lib.hid (And.intro (show Upd [] we wC from Upd.step HB1.out.1 uC) hFC)
            clear uC oC hFC
            refine WA.keep (Ext.of HC1.out.1) ?_
            (refine WA.free 13 rfl rfl (by kernel_rfl) (fun K hK=>?_);go_big_quiet_step (fail);refine wpQuiet_nil ?_;refine hK _ ?_;clear hK K);(refine WA.free 14 rfl rfl (by kernel_rfl) (fun K hK=>?_);go_big_quiet_step (fail);refine wpQuiet_nil ?_;refine hK _ ?_;clear hK K);(refine WA.free 15 rfl rfl (by kernel_rfl) (fun K hK=>?_);go_big_quiet_step (fail);refine wpQuiet_nil ?_;refine hK _ ?_;clear hK K)
            refine WA.one 16 (by kernel_rfl) (Do_.mk rfl (fun K hK=>?_))
            go_wp2_with fail
            have HZ:=Lib.hid (show Blk (wC.alloc (.cells #[.slice none 0 0,.slice none 0 0,.slice none 0 0] 31)) wC.heap.size [.slice none 0 0,.slice none 0 0,.slice none 0 0] 31∧Upd [] wC (wC.alloc (.cells #[.slice none 0 0,.slice none 0 0,.slice none 0 0] 31))∧we.heap.size≤wC.heap.size from ⟨Blk.new wC [.slice none 0 0,.slice none 0 0,.slice none 0 0] _,(Upd.refl [] wC).alloc _,HC1.out.1.size⟩)
            generalize (wC.alloc (.cells #[.slice none 0 0,.slice none 0 0,.slice none 0 0] 31))=wZ at *
            generalize wC.heap.size=xb at *
            have HUZ:=Lib.hid (HC1.out.1.step HZ.out.2.1)
            refine WA.keep (Ext.of HUZ.out) ?_
            have s0:=HZ.out.1.cell (i:=0) rfl
            have s1:=HZ.out.1.cell (i:=1) rfl
            have s2:=HZ.out.1.cell (i:=2) rfl
            have sf:∀ q,wZ.frozen? ⟨xb,q,none⟩=false:=HZ.out.1.free
            refine WA.one 17 (by kernel_rfl) (Do_.mk rfl (fun K hK=>?_))
            go_wp2_with fail
            refine WA.past (by kernel_rfl) ?_
            refine WA.one 18 (by kernel_rfl) (Do_.mk rfl (fun K hK=>?_))
            go_wp2_with fail
            refine WA.past (by kernel_rfl) ?_
            refine WA.nil (by kernel_rfl) ?_
            go_wp2_with fail
            go_meet
            case rel=>
             have hs:=cell3_set (a:=.slice r1 ba.cuts.length t1) (b:=.slice r2 ba.next.length t2) (c:=.slice r3 ba.acc.length t3) HZ.out.1
             exact ⟨xb,_,_,_,rfl,rfl,hs.1,AuF_box (HC1.out.2.ext HZ.out.2.1) HBK.out HZ.out.1 hs.2,HUZ.out.fresh hs.2 (fun c hc=>.inr (by simp at hc;subst hc;exact HZ.out.2.2))⟩
           ·go_wp2_with fail
            have HZ:=Lib.hid (show Blk (wB.alloc (.cells #[.slice none 0 0,.slice none 0 0,.slice none 0 0] 31)) wB.heap.size [.slice none 0 0,.slice none 0 0,.slice none 0 0] 31∧Upd [] wB (wB.alloc (.cells #[.slice none 0 0,.slice none 0 0,.slice none 0 0] 31))∧we.heap.size≤wB.heap.size from ⟨Blk.new wB [.slice none 0 0,.slice none 0 0,.slice none 0 0] _,(Upd.refl [] wB).alloc _,HB1.out.1.size⟩)
            generalize (wB.alloc (.cells #[.slice none 0 0,.slice none 0 0,.slice none 0 0] 31))=wZ at *
            generalize wB.heap.size=xb at *
            have HUZ:=Lib.hid (HB1.out.1.step HZ.out.2.1)
            refine WA.keep (Ext.of HUZ.out) ?_
            refine WA.one 12 (by kernel_rfl) (Do_.mk rfl (fun K hK=>?_))
            go_wp2_with ((with_reducible refine (HBO.out _ _ _ (HB1.out.2.1.ext HZ.out.2.1) (HB1.out.2.2.ext HZ.out.2.1)).mono ?_);rintro e wC ⟨vC,rfl,oC,uC⟩;obtain ⟨r1,t1,r2,t2,r3,t3,rfl,hFC⟩:=oC.shape)
            have HC1:=Lib.hid (And.intro (show Upd [] we wC from Upd.step HUZ.out uC) hFC)
            have HZC:=Lib.hid (HZ.out.1.upd uC (by simp))
            clear uC oC hFC
            refine WA.keep (Ext.of HC1.out.1) ?_
            (refine WA.free 13 rfl rfl (by kernel_rfl) (fun K hK=>?_);go_big_quiet_step (fail);refine wpQuiet_nil ?_;refine hK _ ?_;clear hK K);(refine WA.free 14 rfl rfl (by kernel_rfl) (fun K hK=>?_);go_big_quiet_step (fail);refine wpQuiet_nil ?_;refine hK _ ?_;clear hK K);(refine WA.free 15 rfl rfl (by kernel_rfl) (fun K hK=>?_);go_big_quiet_step (fail);refine wpQuiet_nil ?_;refine hK _ ?_;clear hK K)
            have s0:=HZC.out.cell (i:=0) rfl
            have s1:=HZC.out.cell (i:=1) rfl
            have s2:=HZC.out.cell (i:=2) rfl
            have sf:∀ q,wC.frozen? ⟨xb,q,none⟩=false:=HZC.out.free
            refine WA.one 17 (by kernel_rfl) (Do_.mk rfl (fun K hK=>?_))
            go_wp2_with fail
            refine WA.past (by kernel_rfl) ?_
            refine WA.one 18 (by kernel_rfl) (Do_.mk rfl (fun K hK=>?_))
            go_wp2_with fail
            refine WA.past (by kernel_rfl) ?_
            refine WA.nil (by kernel_rfl) ?_
            go_wp2_with fail
            go_meet
            case rel=>
             have hs:=cell3_set (a:=.slice r1 ba.cuts.length t1) (b:=.slice r2 ba.next.length t2) (c:=.slice r3 ba.acc.length t3) HZC.out
             exact ⟨xb,_,_,_,rfl,rfl,hs.1,AuF_box HC1.out.2 HBK.out HZC.out hs.2,HC1.out.1.fresh hs.2 (fun c hc=>.inr (by simp at hc;subst hc;exact HZ.out.2.2))⟩
          ·go_wp2_with fail
           have HZ:=Lib.hid (show Blk (wA.alloc (.cells #[.slice none 0 0,.slice none 0 0,.slice none 0 0] 31)) wA.heap.size [.slice none 0 0,.slice none 0 0,.slice none 0 0] 31∧Upd [] wA (wA.alloc (.cells #[.slice none 0 0,.slice none 0 0,.slice none 0 0] 31))∧we.heap.size≤wA.heap.size from ⟨Blk.new wA [.slice none 0 0,.slice none 0 0,.slice none 0 0] _,(Upd.refl [] wA).alloc _,HA1.out.1.size⟩)
           generalize (wA.alloc (.cells #[.slice none 0 0,.slice none 0 0,.slice none 0 0] 31))=wZ at *
           generalize wA.heap.size=xb at *
           have HUZ:=Lib.hid (HA1.out.1.step HZ.out.2.1)
           refine WA.keep (Ext.of HUZ.out) ?_
           refine WA.one 9 (by kernel_rfl) (Do_.mk rfl (fun K hK=>?_))
           go_wp2_with ((with_reducible refine (HOB.out _ (HX12.out.step HUZ.out)).mono ?_);rintro e wB ⟨vB,rfl,oB,uB⟩)
           have HB1:=Lib.hid (And.intro (show Upd [] we wB from Upd.step HUZ.out uB) (And.intro (HA1.out.2.ext (HZ.out.2.1.step uB)) oB))
           have HZB:=Lib.hid (HZ.out.1.upd uB (by simp))
           clear uB oB
           refine WA.keep (Ext.of HB1.out.1) ?_
           refine WA.one 12 (by kernel_rfl) (Do_.mk rfl (fun K hK=>?_))
           go_wp2_with ((with_reducible refine (HBO.out _ _ _ HB1.out.2.1 HB1.out.2.2).mono ?_);rintro e wC ⟨vC,rfl,oC,uC⟩;obtain ⟨r1,t1,r2,t2,r3,t3,rfl,hFC⟩:=oC.shape)
           have HC1:=Lib.hid (And.intro (show Upd [] we wC from Upd.step HB1.out.1 uC) hFC)
           have HZC:=Lib.hid (HZB.out.upd uC (by simp))
           clear uC oC hFC
           refine WA.keep (Ext.of HC1.out.1) ?_
           (refine WA.free 13 rfl rfl (by kernel_rfl) (fun K hK=>?_);go_big_quiet_step (fail);refine wpQuiet_nil ?_;refine hK _ ?_;clear hK K);(refine WA.free 14 rfl rfl (by kernel_rfl) (fun K hK=>?_);go_big_quiet_step (fail);refine wpQuiet_nil ?_;refine hK _ ?_;clear hK K);(refine WA.free 15 rfl rfl (by kernel_rfl) (fun K hK=>?_);go_big_quiet_step (fail);refine wpQuiet_nil ?_;refine hK _ ?_;clear hK K)
           have s0:=HZC.out.cell (i:=0) rfl
           have s1:=HZC.out.cell (i:=1) rfl
           have s2:=HZC.out.cell (i:=2) rfl
           have sf:∀ q,wC.frozen? ⟨xb,q,none⟩=false:=HZC.out.free
           refine WA.one 17 (by kernel_rfl) (Do_.mk rfl (fun K hK=>?_))
           go_wp2_with fail
           refine WA.past (by kernel_rfl) ?_
           refine WA.one 18 (by kernel_rfl) (Do_.mk rfl (fun K hK=>?_))
           go_wp2_with fail
           refine WA.past (by kernel_rfl) ?_
           refine WA.nil (by kernel_rfl) ?_
           go_wp2_with fail
           go_meet
           case rel=>
            have hs:=cell3_set (a:=.slice r1 ba.cuts.length t1) (b:=.slice r2 ba.next.length t2) (c:=.slice r3 ba.acc.length t3) HZC.out
            exact ⟨xb,_,_,_,rfl,rfl,hs.1,AuF_box HC1.out.2 HBK.out HZC.out hs.2,HC1.out.1.fresh hs.2 (fun c hc=>.inr (by simp at hc;subst hc;exact HZ.out.2.2))⟩
         ·go_wp2_with fail
          have HZ:=Lib.hid (show Blk ((we.alloc (.cells #[.slice none 0 0,.slice none 0 0,.slice none 0 0] 31)).drew) we.heap.size [.slice none 0 0,.slice none 0 0,.slice none 0 0] 31∧Upd [] we ((we.alloc (.cells #[.slice none 0 0,.slice none 0 0,.slice none 0 0] 31)).drew)∧we.heap.size≤we.heap.size from ⟨(Blk.new we [.slice none 0 0,.slice none 0 0,.slice none 0 0] 31).drew,((Upd.refl [] we).alloc _).drew,Nat.le_refl _⟩)
          generalize ((we.alloc (.cells #[.slice none 0 0,.slice none 0 0,.slice none 0 0] 31)).drew)=wZ at *
          obtain ⟨xb,hxe⟩:∃ xb,we.heap.size=xb:=⟨_,rfl⟩
          rw [hxe] at HZ ⊢
          have HXE:=Lib.hid (Nat.le_of_eq hxe)
          clear hxe
          refine WA.keep (Ext.of HZ.out.2.1) ?_
          refine WA.one 4 (by kernel_rfl) (Do_.mk rfl (fun K hK=>?_))
          go_wp2_with ((with_reducible refine (HON.out _ (HX12.out.step HZ.out.2.1)).mono ?_);rintro e wA ⟨vA,rfl,oA,uA⟩)
          have HA1:=Lib.hid (And.intro (show Upd [] we wA from Upd.step HZ.out.2.1 uA) oA)
          have HZA:=Lib.hid (HZ.out.1.upd uA (by simp))
          clear uA oA
          refine WA.keep (Ext.of HA1.out.1) ?_
          refine WA.one 9 (by kernel_rfl) (Do_.mk rfl (fun K hK=>?_))
          go_wp2_with ((with_reducible refine (HOB.out _ (HX12.out.step HA1.out.1)).mono ?_);rintro e wB ⟨vB,rfl,oB,uB⟩)
          have HB1:=Lib.hid (And.intro (show Upd [] we wB from Upd.step HA1.out.1 uB) (And.intro (HA1.out.2.ext uB) oB))
          have HZB:=Lib.hid (HZA.out.upd uB (by simp))
          clear uB oB
          refine WA.keep (Ext.of HB1.out.1) ?_
          refine WA.one 12 (by kernel_rfl) (Do_.mk rfl (fun K hK=>?_))
          go_wp2_with ((with_reducible refine (HBO.out _ _ _ HB1.out.2.1 HB1.out.2.2).mono ?_);rintro e wC ⟨vC,rfl,oC,uC⟩;obtain ⟨r1,t1,r2,t2,r3,t3,rfl,hFC⟩:=oC.shape)
          have HC1:=Lib.hid (And.intro (show Upd [] we wC from Upd.step HB1.out.1 uC) hFC)
          have HZC:=Lib.hid (HZB.out.upd uC (by simp))
          clear uC oC hFC
          refine WA.keep (Ext.of HC1.out.1) ?_
          (refine WA.free 13 rfl rfl (by kernel_rfl) (fun K hK=>?_);go_big_quiet_step (fail);refine wpQuiet_nil ?_;refine hK _ ?_;clear hK K);(refine WA.free 14 rfl rfl (by kernel_rfl) (fun K hK=>?_);go_big_quiet_step (fail);refine wpQuiet_nil ?_;refine hK _ ?_;clear hK K);(refine WA.free 15 rfl rfl (by kernel_rfl) (fun K hK=>?_);go_big_quiet_step (fail);refine wpQuiet_nil ?_;refine hK _ ?_;clear hK K)
          have s0:=HZC.out.cell (i:=0) rfl
          have s1:=HZC.out.cell (i:=1) rfl
          have s2:=HZC.out.cell (i:=2) rfl
          have sf:∀ q,wC.frozen? ⟨xb,q,none⟩=false:=HZC.out.free
          refine WA.one 17 (by kernel_rfl) (Do_.mk rfl (fun K hK=>?_))
          go_wp2_with fail
          refine WA.past (by kernel_rfl) ?_
          refine WA.one 18 (by kernel_rfl) (Do_.mk rfl (fun K hK=>?_))
          go_wp2_with fail
          refine WA.past (by kernel_rfl) ?_
          refine WA.nil (by kernel_rfl) ?_
          go_wp2_with fail
          go_meet
          case rel=>
           have hs:=cell3_set (a:=.slice r1 ba.cuts.length t1) (b:=.slice r2 ba.next.length t2) (c:=.slice r3 ba.acc.length t3) HZC.out
           exact ⟨xb,_,_,_,rfl,rfl,hs.1,AuF_box HC1.out.2 HBK.out HZC.out hs.2,HC1.out.1.fresh hs.2 (fun c hc=>.inr (by simp at hc;subst hc;exact HXE.out))⟩
        case rest=>
        obtain ⟨xb,s1,s2,s3,rfl,rfl,hxB,hxF,uc⟩:=hcut
        have HXB:=Lib.hid (And.intro hxB (And.intro hxF uc))
        clear hxB hxF uc
        obtain ⟨wv,rfl⟩:∃ wv:World,wv=wc:=⟨_,rfl⟩
        clear f0 f1 f2 h0 h1 h2
        go_upto_region 18 with fail
        change Code.wp _ _ _ _ (wv.alloc (.cells #[.slice none 0 0,.slice none 0 0,.slice none 0 0] 39))
        have HRR:=Lib.hid (show Blk (wv.alloc (.cells #[.slice none 0 0,.slice none 0 0,.slice none 0 0] 39)) wv.heap.size [.slice none 0 0,.slice none 0 0,.slice none 0 0] 39∧Upd [] wv (wv.alloc (.cells #[.slice none 0 0,.slice none 0 0,.slice none 0 0] 39)) from ⟨Blk.new wv [.slice none 0 0,.slice none 0 0,.slice none 0 0] _,(Upd.refl [] wv).alloc _⟩)
        generalize (wv.alloc (.cells #[.slice none 0 0,.slice none 0 0,.slice none 0 0] 39))=wR at *
        generalize hre:wv.heap.size=rb at *
        have HRE:=Lib.hid hre
        clear hre
        obtain ⟨aA,n1,aN,n2,aC,n3,hse,_⟩:=AuV.shape (show AuV wv ba (.agg #[s1,s2,s3]) from ⟨_,rfl,HXB.out.2.1⟩)
        simp only [Value.agg.injEq,Array.mk.injEq,List.cons.injEq,and_true] at hse
        obtain ⟨rfl,rfl,rfl⟩:=hse
        have HPB:=Lib.hid (fun (w':World) (u:Upd [] wv w')=>plain_calls (w:=w') (a:=ba) (v:=.agg #[.slice aA ba.cuts.length n1,.slice aN ba.next.length n2,.slice aC ba.acc.length n3]) ⟨_,rfl,HXB.out.2.1.ext u⟩)
        have HXR:=Lib.hid ((HX12.out.step HXB.out.2.2).step HRR.out.2)
        have HYR:=Lib.hid ((HY12.out.step HXB.out.2.2).step HRR.out.2)
        have x0:=HRR.out.2.some (HXB.out.1.cell (i:=0) rfl) (by simp)
        have x1:=HRR.out.2.some (HXB.out.1.cell (i:=1) rfl) (by simp)
        have x2:=HRR.out.2.some (HXB.out.1.cell (i:=2) rfl) (by simp)
        have r0:=HRR.out.1.cell (i:=0) rfl
        have r1:=HRR.out.1.cell (i:=1) rfl
        have r2:=HRR.out.1.cell (i:=2) rfl
        go_upto_region 20 with fail
        have hb0:=HXR.out.some HDE.out.1 (by simp)
        have hb1:=HXR.out.some HDE.out.2.1 (by simp)
        have hb2:=HXR.out.some HDE.out.2.2 (by simp)
        have HRV:=Lib.hid (show Calls Tryz.prog 20 #[.agg #[.slice b1 b.cuts.length d1,.slice b2 b.next.length d2,.slice b3 b.acc.length d3]] wR fun e w'=>e=.returned (.int .i64 es)∧Upd [] wR w' from by have h:=rValid_calls (HBU.out wR HXR.out);rwa [HES.out] at h)
        go_upto_region 21 with ((with_reducible refine HRV.out.mono ?_);rintro e wS ⟨rfl,uS⟩)
        have HXS:=Lib.hid (HXR.out.step uS)
        have HYS:=Lib.hid (HYR.out.step uS)
        have HSR:=Lib.hid (HRR.out.1.upd uS (by simp))
        have HVS:=Lib.hid (HRR.out.2.step uS)
        have x0:=uS.some x0 (by simp)
        have x1:=uS.some x1 (by simp)
        have x2:=uS.some x2 (by simp)
        clear r0 r1 r2 hb0 hb1 hb2 uS
        have r0:=HSR.out.cell (i:=0) rfl
        have r1:=HSR.out.cell (i:=1) rfl
        have r2:=HSR.out.cell (i:=2) rfl
        have rf:∀ q,wS.frozen? ⟨rb,q,none⟩=false:=HSR.out.free
        by_cases hse:es=0
        ·subst hse
         have HOKB:=Lib.hid (And.intro (vErr_ok HES.out) HES.out)
         have HBR:=Lib.hid (fun (w':World) (u:Upd [] w1 w')=>show Calls Tryz.prog 39 #[.agg #[.slice a1 a.cuts.length c1,.slice a2 a.next.length c2,.slice a3 a.acc.length c3],.agg #[.slice b1 b.cuts.length d1,.slice b2 b.next.length d2,.slice b3 b.acc.length d3],.bool ob] w' fun e w2=>∃ v',e=.returned (.tuple #[v',.int .i64 be])∧AuV w2 ba v'∧Upd [] w' w2 from by have h:=BothR_calls ob (HAU.out w' u) (HBU.out w' u) HOK.out.1 HOKB.out.1 HOK.out.2 HOKB.out.2;rwa [HBE.out.1,HBE.out.2] at h)
         have f0:=HXS.out.some HCE.out.1 (by simp)
         have f1:=HXS.out.some HCE.out.2.1 (by simp)
         have f2:=HXS.out.some HCE.out.2.2 (by simp)
         have h0:=HXS.out.some HDE.out.1 (by simp)
         have h1:=HXS.out.some HDE.out.2.1 (by simp)
         have h2:=HXS.out.some HDE.out.2.2 (by simp)
         go_upto_region 22 with fail
         refine wp_region_ord 10 1 [0,1,2,3,4,5,6,7,8,9,11,12,13,15] [3,7] [0,1,2,3,4,5,6,7,8,9,10,11,12,13,14,15] (fun w'=>∃ x:Ext wS,w'=x.val) (by kernel_rfl) (by kernel_rfl) (Ext.of (by iterate 25 (first|exact Upd.refl _ _|assumption|refine Upd.alloc ?_ _|refine Upd.drew ?_|refine Upd.drewN ?_ _|refine Upd.dl ?_|refine Upd.step ?_ (Ext.upd _)|refine Upd.nil ?_|skip))) ?_
         repeat (first|(refine wpOrd_load rfl rfl rfl rfl (fun K hK=>?_);go_big_quiet_step (fail);refine wpQuiet_nil ?_;refine hK _ ?_;clear hK K)|(refine wpOrd_free rfl rfl rfl (fun K hK=>?_);go_big_quiet_step (fail);refine wpQuiet_nil ?_;refine hK _ ?_;clear hK K))
         refine wpOrd_fix rfl rfl (fun K hK=>?_)
         go_wp2_with (go_at_call 39;refine (HBR.out _ (HXS.out.step (by iterate 25 (first|exact Upd.refl _ _|assumption|refine Upd.alloc ?_ _|refine Upd.drew ?_|refine Upd.drewN ?_ _|refine Upd.dl ?_|refine Upd.step ?_ (Ext.upd _)|refine Upd.nil ?_|skip)))).mono ?_;rintro e wT ⟨vT,rfl,oT,uT⟩;obtain ⟨p1,m1,p2,m2,p3,m3,rfl,hFT⟩:=oT.shape)
         have HT:=Lib.hid (And.intro (show Upd [] wS wT from Upd.step (by iterate 25 (first|exact Upd.refl _ _|assumption|refine Upd.alloc ?_ _|refine Upd.drew ?_|refine Upd.drewN ?_ _|refine Upd.dl ?_|refine Upd.step ?_ (Ext.upd _)|refine Upd.nil ?_|skip)) uT) hFT)
         clear oT uT hFT f0 f1 f2 h0 h1 h2
         have HTR:=Lib.hid (HSR.out.upd HT.out.1 (by simp))
         have x0:=HT.out.1.some x0 (by simp)
         have x1:=HT.out.1.some x1 (by simp)
         have x2:=HT.out.1.some x2 (by simp)
         clear r0 r1 r2 rf
         have r0:=HTR.out.cell (i:=0) rfl
         have r1:=HTR.out.cell (i:=1) rfl
         have r2:=HTR.out.cell (i:=2) rfl
         have rf:∀ q,wT.frozen? ⟨rb,q,none⟩=false:=HTR.out.free
         refine ⟨fun hC=>absurd hC (by decide),?_⟩
         repeat (first|(refine wpOrd_load rfl rfl rfl rfl (fun K hK=>?_);go_big_quiet_step (fail);refine wpQuiet_nil ?_;refine hK _ ?_;clear hK K)|(refine wpOrd_free rfl rfl rfl (fun K hK=>?_);go_big_quiet_step (fail);refine wpQuiet_nil ?_;refine hK _ ?_;clear hK K))
         refine wpOrd_fix rfl rfl (fun K hK=>?_)
         go_wp2_with fail
         refine ⟨fun hC=>absurd hC (by decide),?_⟩
         repeat (first|(refine wpOrd_load rfl rfl rfl rfl (fun K hK=>?_);go_big_quiet_step (fail);refine wpQuiet_nil ?_;refine hK _ ?_;clear hK K)|(refine wpOrd_free rfl rfl rfl (fun K hK=>?_);go_big_quiet_step (fail);refine wpQuiet_nil ?_;refine hK _ ?_;clear hK K))
         refine wpOrd_nil ?_
         have hs:=cell3_set (a:=.slice p1 ba.cuts.length m1) (b:=.slice p2 ba.next.length m2) (c:=.slice p3 ba.acc.length m3) HTR.out
         have HFW:=Lib.hid (And.intro hs.1 (And.intro (AuF_box HT.out.2 HBK.out HTR.out hs.2) ((HVS.out.step HT.out.1).fresh (T:=[rb]) hs.2 (fun c hc=>.inr (by simp at hc;subst hc;exact Nat.le_of_eq HRE.out)))))
         clear hs r0 r1 r2 rf x0 x1 x2
         generalize (((wT.setCell ⟨rb,0,none⟩ (.slice p1 ba.cuts.length m1)).setCell ⟨rb,1,none⟩ (.slice p2 ba.next.length m2)).setCell ⟨rb,2,none⟩ (.slice p3 ba.acc.length m3))=wW at *
         have HYW:=Lib.hid ((HY12.out.step HXB.out.2.2).step HFW.out.2.2)
         have x0:=HFW.out.2.2.some (HXB.out.1.cell (i:=0) rfl) (by simp)
         have x1:=HFW.out.2.2.some (HXB.out.1.cell (i:=1) rfl) (by simp)
         have x2:=HFW.out.2.2.some (HXB.out.1.cell (i:=2) rfl) (by simp)
         have r0:=HFW.out.1.cell (i:=0) rfl
         have r1:=HFW.out.1.cell (i:=1) rfl
         have r2:=HFW.out.1.cell (i:=2) rfl
         have hbb:(be != be)=false:=by simp
         go_upto_region 23 with fail
         refine wp_region_ord 7 2 [0,1,2,3,4,6,8,9] [4,6] [0,1,2,3,4,6,5,7,8,9] (fun w'=>∃ x:Ext wW,w'=x.val) (by kernel_rfl) (by kernel_rfl) (Ext.of (by iterate 25 (first|exact Upd.refl _ _|assumption|refine Upd.alloc ?_ _|refine Upd.drew ?_|refine Upd.drewN ?_ _|refine Upd.dl ?_|refine Upd.step ?_ (Ext.upd _)|refine Upd.nil ?_|skip))) ?_
         repeat (first|(refine wpOrd_load rfl rfl rfl rfl (fun K hK=>?_);go_big_quiet_step (fail);refine wpQuiet_nil ?_;refine hK _ ?_;clear hK K)|(refine wpOrd_free rfl rfl rfl (fun K hK=>?_);go_big_quiet_step (fail);refine wpQuiet_nil ?_;refine hK _ ?_;clear hK K))
         refine wpOrd_fix rfl rfl (fun K hK=>?_)
         go_wp2_with (go_at_call 17;refine (HPB.out _ (Upd.step (HFW.out.2.2) (by iterate 25 (first|exact Upd.refl _ _|assumption|refine Upd.alloc ?_ _|refine Upd.drew ?_|refine Upd.drewN ?_ _|refine Upd.dl ?_|refine Upd.step ?_ (Ext.upd _)|refine Upd.nil ?_|skip)))).mono ?_;rintro e wM ⟨vM,rfl,oM,uM⟩)
         have HM:=Lib.hid (And.intro (show Upd [] wW wM from Upd.step (by iterate 25 (first|exact Upd.refl _ _|assumption|refine Upd.alloc ?_ _|refine Upd.drew ?_|refine Upd.drewN ?_ _|refine Upd.dl ?_|refine Upd.step ?_ (Ext.upd _)|refine Upd.nil ?_|skip)) uM) oM)
         clear uM oM
         refine ⟨by first|exact Ext.of HM.out.1|exact fun _=>Ext.of HM.out.1,?_⟩
         repeat (first|(refine wpOrd_load rfl rfl rfl rfl (fun K hK=>?_);go_big_quiet_step (fail);refine wpQuiet_nil ?_;refine hK _ ?_;clear hK K)|(refine wpOrd_free rfl rfl rfl (fun K hK=>?_);go_big_quiet_step (fail);refine wpQuiet_nil ?_;refine hK _ ?_;clear hK K))
         refine wpOrd_fix rfl rfl (fun K hK=>?_)
         go_wp2_with (go_at_call 16;refine (SameC_yes (a:=ba) rfl HM.out.2 ⟨_,rfl,HFW.out.2.1.ext HM.out.1⟩).mono ?_;rintro e wN ⟨rfl,uN⟩)
         have HN:=Lib.hid (HM.out.1.step uN)
         clear uN
         refine ⟨fun hC=>absurd hC (by decide),?_⟩
         repeat (first|(refine wpOrd_load rfl rfl rfl rfl (fun K hK=>?_);go_big_quiet_step (fail);refine wpQuiet_nil ?_;refine hK _ ?_;clear hK K)|(refine wpOrd_free rfl rfl rfl (fun K hK=>?_);go_big_quiet_step (fail);refine wpQuiet_nil ?_;refine hK _ ?_;clear hK K))
         refine wpOrd_nil ?_
         go_wp2_with fail
         exact ⟨⟨n+1,by go_num,by omega,Ext.of (HYW.out.step HN.out)⟩,by simp [intOf];omega⟩
        ·have hsb:(es == 0)=false:=by simpa using hse
         have HBN:=Lib.hid (show ba=noA∧be=es from by rw [←HBE.out.1,←HBE.out.2];have h0:¬ Auto.vErr a≠0:=fun h=>h HEE.out;have h1:Auto.vErr b≠0:=(by rw [HES.out];exact hse);unfold bothE bothA;rw [if_neg h0,if_neg h0,if_pos h1,if_pos h1];exact ⟨rfl,HES.out⟩)
         obtain ⟨hb1,hb2⟩:=id HBN.out
         have hbb:(be != es)=false:=by rw [hb2];simp
         clear hb1 hb2 rf
         go_upto_region 23 with fail
         refine wp_region_ord 7 2 [0,1,2,3,4,6,8,9] [4,6] [0,1,2,3,4,6,5,7,8,9] (fun w'=>∃ x:Ext wS,w'=x.val) (by kernel_rfl) (by kernel_rfl) (Ext.of (by iterate 25 (first|exact Upd.refl _ _|assumption|refine Upd.alloc ?_ _|refine Upd.drew ?_|refine Upd.drewN ?_ _|refine Upd.dl ?_|refine Upd.step ?_ (Ext.upd _)|refine Upd.nil ?_|skip))) ?_
         repeat (first|(refine wpOrd_load rfl rfl rfl rfl (fun K hK=>?_);go_big_quiet_step (fail);refine wpQuiet_nil ?_;refine hK _ ?_;clear hK K)|(refine wpOrd_free rfl rfl rfl (fun K hK=>?_);go_big_quiet_step (fail);refine wpQuiet_nil ?_;refine hK _ ?_;clear hK K))
         refine wpOrd_fix rfl rfl (fun K hK=>?_)
         go_wp2_with (go_at_call 17;refine (HPB.out _ (Upd.step (HVS.out) (by iterate 25 (first|exact Upd.refl _ _|assumption|refine Upd.alloc ?_ _|refine Upd.drew ?_|refine Upd.drewN ?_ _|refine Upd.dl ?_|refine Upd.step ?_ (Ext.upd _)|refine Upd.nil ?_|skip)))).mono ?_;rintro e wM ⟨vM,rfl,oM,uM⟩)
         have HM:=Lib.hid (And.intro (show Upd [] wS wM from Upd.step (by iterate 25 (first|exact Upd.refl _ _|assumption|refine Upd.alloc ?_ _|refine Upd.drew ?_|refine Upd.drewN ?_ _|refine Upd.dl ?_|refine Upd.step ?_ (Ext.upd _)|refine Upd.nil ?_|skip)) uM) oM)
         clear uM oM
         refine ⟨by first|exact Ext.of HM.out.1|exact fun _=>Ext.of HM.out.1,?_⟩
         repeat (first|(refine wpOrd_load rfl rfl rfl rfl (fun K hK=>?_);go_big_quiet_step (fail);refine wpQuiet_nil ?_;refine hK _ ?_;clear hK K)|(refine wpOrd_free rfl rfl rfl (fun K hK=>?_);go_big_quiet_step (fail);refine wpQuiet_nil ?_;refine hK _ ?_;clear hK K))
         refine wpOrd_fix rfl rfl (fun K hK=>?_)
         go_wp2_with (go_at_call 16;refine (SameC_yes (a:=ba) rfl HM.out.2 (show AuV _ ba (.agg #[.slice none 0 0,.slice none 0 0,.slice none 0 0]) from by rw [HBN.out.1];exact ⟨_,rfl,noA_F⟩)).mono ?_;rintro e wN ⟨rfl,uN⟩)
         have HN:=Lib.hid (HM.out.1.step uN)
         clear uN
         refine ⟨fun hC=>absurd hC (by decide),?_⟩
         repeat (first|(refine wpOrd_load rfl rfl rfl rfl (fun K hK=>?_);go_big_quiet_step (fail);refine wpQuiet_nil ?_;refine hK _ ?_;clear hK K)|(refine wpOrd_free rfl rfl rfl (fun K hK=>?_);go_big_quiet_step (fail);refine wpQuiet_nil ?_;refine hK _ ?_;clear hK K))
         refine wpOrd_nil ?_
         go_wp2_with fail
         exact ⟨⟨n+1,by go_num,by omega,Ext.of (HYS.out.step HN.out)⟩,by simp [intOf];omega⟩
       ·have hne:n=2:=by omega
        subst hne
        go_wp2_with fail
        exact ⟨⟨j+1,by go_num,by omega,Ext.of (HY11.out.step HY12.out)⟩,by simp [intOf];omega⟩
     ·have hje:j=os.length:=by omega
      subst hje
      go_wp2_with fail
      exact ⟨⟨m+1,by go_num,by omega,Ext.of HX11.out⟩,by simp [intOf];omega⟩
   ·have heb:(er == 0)=false:=by simpa using he
    have hez:(er != 0)=true:=by simpa using he
    have HCQ:=Lib.hid (show ca=noA from by rw [←HCA.out];unfold compA;rw [if_pos (by rw [HEE.out];exact he)])
    refine wp_region_ord 23 5 [0,1,2,3,4,5,6,7,9,10,11,12,15,16,17,18,19,20,21,22,24,26,27,28] [7,12,22] [0,1,2,3,4,5,6,7,9,10,11,12,8,13,14,15,16,17,18,19,20,21,22,24,23,25,26,27,28] (fun w'=>∃ x:Ext w9,w'=x.val) (by kernel_rfl) (by kernel_rfl) (Ext.of (by iterate 25 (first|exact Upd.refl _ _|assumption|refine Upd.alloc ?_ _|refine Upd.drew ?_|refine Upd.drewN ?_ _|refine Upd.dl ?_|refine Upd.step ?_ (Ext.upd _)|refine Upd.nil ?_|skip))) ?_
    repeat (first|(refine wpOrd_load rfl rfl rfl rfl (fun K hK=>?_);go_big_quiet_step (fail);refine wpQuiet_nil ?_;refine hK _ ?_;clear hK K)|(refine wpOrd_free rfl rfl rfl (fun K hK=>?_);go_big_quiet_step (fail);refine wpQuiet_nil ?_;refine hK _ ?_;clear hK K))
    refine wpOrd_fix rfl rfl (fun K hK=>?_)
    go_wp2_with fail
    refine ⟨by first|exact Ext.of (by iterate 25 (first|exact Upd.refl _ _|assumption|refine Upd.alloc ?_ _|refine Upd.drew ?_|refine Upd.drewN ?_ _|refine Upd.dl ?_|refine Upd.step ?_ (Ext.upd _)|refine Upd.nil ?_|skip))|exact fun _=>Ext.of (by iterate 25 (first|exact Upd.refl _ _|assumption|refine Upd.alloc ?_ _|refine Upd.drew ?_|refine Upd.drewN ?_ _|refine Upd.dl ?_|refine Upd.step ?_ (Ext.upd _)|refine Upd.nil ?_|skip)),?_⟩
    repeat (first|(refine wpOrd_load rfl rfl rfl rfl (fun K hK=>?_);go_big_quiet_step (fail);refine wpQuiet_nil ?_;refine hK _ ?_;clear hK K)|(refine wpOrd_free rfl rfl rfl (fun K hK=>?_);go_big_quiet_step (fail);refine wpQuiet_nil ?_;refine hK _ ?_;clear hK K))
    refine wpOrd_fix rfl rfl (fun K hK=>?_)
    go_wp2_with fail
    refine ⟨by first|exact Ext.of (by iterate 25 (first|exact Upd.refl _ _|assumption|refine Upd.alloc ?_ _|refine Upd.drew ?_|refine Upd.drewN ?_ _|refine Upd.dl ?_|refine Upd.step ?_ (Ext.upd _)|refine Upd.nil ?_|skip))|exact fun _=>Ext.of (by iterate 25 (first|exact Upd.refl _ _|assumption|refine Upd.alloc ?_ _|refine Upd.drew ?_|refine Upd.drewN ?_ _|refine Upd.dl ?_|refine Upd.step ?_ (Ext.upd _)|refine Upd.nil ?_|skip)),?_⟩
    repeat (first|(refine wpOrd_load rfl rfl rfl rfl (fun K hK=>?_);go_big_quiet_step (fail);refine wpQuiet_nil ?_;refine hK _ ?_;clear hK K)|(refine wpOrd_free rfl rfl rfl (fun K hK=>?_);go_big_quiet_step (fail);refine wpQuiet_nil ?_;refine hK _ ?_;clear hK K))
    refine wpOrd_fix rfl rfl (fun K hK=>?_)
    go_wp2_with fail
    refine ⟨by first|exact Ext.of (by iterate 25 (first|exact Upd.refl _ _|assumption|refine Upd.alloc ?_ _|refine Upd.drew ?_|refine Upd.drewN ?_ _|refine Upd.dl ?_|refine Upd.step ?_ (Ext.upd _)|refine Upd.nil ?_|skip))|exact fun _=>Ext.of (by iterate 25 (first|exact Upd.refl _ _|assumption|refine Upd.alloc ?_ _|refine Upd.drew ?_|refine Upd.drewN ?_ _|refine Upd.dl ?_|refine Upd.step ?_ (Ext.upd _)|refine Upd.nil ?_|skip)),?_⟩
    repeat (first|(refine wpOrd_load rfl rfl rfl rfl (fun K hK=>?_);go_big_quiet_step (fail);refine wpQuiet_nil ?_;refine hK _ ?_;clear hK K)|(refine wpOrd_free rfl rfl rfl (fun K hK=>?_);go_big_quiet_step (fail);refine wpQuiet_nil ?_;refine hK _ ?_;clear hK K))
    refine wpOrd_fix rfl rfl (fun K hK=>?_)
    go_wp2_with (go_at_call 17;refine (HPL.out _ (by iterate 25 (first|exact Upd.refl _ _|assumption|refine Upd.alloc ?_ _|refine Upd.drew ?_|refine Upd.drewN ?_ _|refine Upd.dl ?_|refine Upd.step ?_ (Ext.upd _)|refine Upd.nil ?_|skip))).mono ?_;rintro e wa ⟨va,rfl,oa,ua⟩)
    have HA:=Lib.hid (And.intro (show Upd [] w9 wa from Upd.step (by iterate 25 (first|exact Upd.refl _ _|assumption|refine Upd.alloc ?_ _|refine Upd.drew ?_|refine Upd.drewN ?_ _|refine Upd.dl ?_|refine Upd.step ?_ (Ext.upd _)|refine Upd.nil ?_|skip)) ua) oa)
    clear oa ua
    refine ⟨fun hC=>absurd hC (by decide),?_⟩
    repeat (first|(refine wpOrd_load rfl rfl rfl rfl (fun K hK=>?_);go_big_quiet_step (fail);refine wpQuiet_nil ?_;refine hK _ ?_;clear hK K)|(refine wpOrd_free rfl rfl rfl (fun K hK=>?_);go_big_quiet_step (fail);refine wpQuiet_nil ?_;refine hK _ ?_;clear hK K))
    refine wpOrd_fix rfl rfl (fun K hK=>?_)
    go_wp2_with (go_at_call 16;refine (SameC_yes HCQ.out HA.out.2 (show AuV _ noA (.agg #[.slice none 0 0,.slice none 0 0,.slice none 0 0]) from ⟨_,rfl,noA_F⟩)).mono ?_;rintro e wc ⟨rfl,uc⟩)
    have HC:=Lib.hid (HA.out.1.step uc)
    clear uc
    refine ⟨fun hC=>absurd hC (by decide),?_⟩
    repeat (first|(refine wpOrd_load rfl rfl rfl rfl (fun K hK=>?_);go_big_quiet_step (fail);refine wpQuiet_nil ?_;refine hK _ ?_;clear hK K)|(refine wpOrd_free rfl rfl rfl (fun K hK=>?_);go_big_quiet_step (fail);refine wpQuiet_nil ?_;refine hK _ ?_;clear hK K))
    refine wpOrd_nil ?_
    have HX10:=Lib.hid (HX9.out.step HC.out)
    clear f0 f1 f2 b0 b1 b2
    go_wp2_with fail
    go_loopw [19] (fun jv wr=>∃ j:Nat,jv=.int .i64 j∧j≤os.length∧∃ x:Ext wc,wr=x.val) (fun jv _=>os.length - (intOf jv).toNat)
    case atStart=>exact ⟨0,rfl,Nat.zero_le _,Ext.of (by iterate 25 (first|exact Upd.refl _ _|assumption|refine Upd.alloc ?_ _|refine Upd.drew ?_|refine Upd.drewN ?_ _|refine Upd.dl ?_|refine Upd.step ?_ (Ext.upd _)|refine Upd.nil ?_|skip))⟩
    case round=>
     obtain ⟨j,rfl,hj,x,rfl⟩:=hrel
     have HX11:=Lib.hid (HX10.out.step x.upd)
     have HY11:=Lib.hid x.upd
     generalize x.val=wd at *
     by_cases hjl:j<os.length
     ·have hji:(j:Int)<os.length:=by omega
      have hj5:(j:Int)≤5:=by have:=HL6.out;omega
      have hb:=List.getElem?_eq_getElem hjl
      generalize os[j]=b at *
      obtain ⟨z0,z1,z2,hG,g0,g1,g2⟩:=HOS.out.2 j b hb
      obtain ⟨b1,d1,b2,d2,b3,d3,hvf,hGG⟩:=AuV.shape (show AuV w1 b (.agg #[z0,z1,z2]) from ⟨_,rfl,hG⟩)
      cases hvf
      have HBU:=Lib.hid (fun (w':World) (u:Upd [] w1 w')=>show AuV w' b (.agg #[.slice b1 b.cuts.length d1,.slice b2 b.next.length d2,.slice b3 b.acc.length d3]) from ⟨_,rfl,hGG.ext u⟩)
      have HDE:=Lib.hid (And.intro g0 (And.intro g1 g2))
      have HOB:=Lib.hid (fun (w':World) (u:Upd [] w1 w')=>own_calls (HBU.out w' u))
      obtain ⟨es,hes⟩:∃ es,vErr b=es:=⟨_,rfl⟩
      have HES:=Lib.hid hes
      clear hG hGG g0 g1 g2 hb hes
      go_wp2_with fail
      go_loopw [20] (fun nv wr=>∃ n:Nat,nv=.int .i64 n∧n≤2∧∃ x:Ext wd,wr=x.val) (fun nv _=>2 - (intOf nv).toNat)
      case atStart=>exact ⟨0,rfl,by omega,Ext.of (by iterate 25 (first|exact Upd.refl _ _|assumption|refine Upd.alloc ?_ _|refine Upd.drew ?_|refine Upd.drewN ?_ _|refine Upd.dl ?_|refine Upd.step ?_ (Ext.upd _)|refine Upd.nil ?_|skip))⟩
      case round=>
       obtain ⟨n,rfl,hn,x,rfl⟩:=hrel
       have HX12:=Lib.hid (HX11.out.step x.upd)
       have HY12:=Lib.hid x.upd
       generalize x.val=we at *
       by_cases hn2:n<2
       ·have hni:(n:Int)<2:=by omega
        obtain ⟨ob,hob⟩:∃ ob:Bool,((n:Int) == 1)=ob:=⟨_,rfl⟩
        obtain ⟨be,hbe⟩:∃ be,bothE a b=be:=⟨_,rfl⟩
        obtain ⟨ba,hba⟩:∃ ba,bothA a b ob=ba:=⟨_,rfl⟩
        have HBE:=Lib.hid (And.intro hbe hba)
        have HBO:=Lib.hid (fun (w':World) (v1 v2:Value) (o1:AuV w' a v1) (o2:AuV w' b v2)=>show Calls Tryz.prog 38 #[v1,v2,.bool ob] w' fun e w2=>∃ v',e=.returned (.tuple #[v',.int .i64 be])∧AuV w2 ba v'∧Upd [] w' w2 from by have h:=Both_calls ob o1 o2;rwa [hbe,hba] at h)
        clear hbe hba
        have f0:=HX12.out.some HCE.out.1 (by simp)
        have f1:=HX12.out.some HCE.out.2.1 (by simp)
        have f2:=HX12.out.some HCE.out.2.2 (by simp)
        have h0:=HX12.out.some HDE.out.1 (by simp)
        have h1:=HX12.out.some HDE.out.2.1 (by simp)
        have h2:=HX12.out.some HDE.out.2.2 (by simp)
        have HBN:=Lib.hid (show ba=noA∧be=er from by rw [←HBE.out.1,←HBE.out.2];have h0:Auto.vErr a≠0:=(by rw [HEE.out];exact he);unfold bothE bothA;rw [if_pos h0,if_pos h0];exact ⟨rfl,HEE.out⟩)
        have HBK:=Lib.hid (show ba=noA∨Ok ba from .inl HBN.out.1)
        go_upto_region 16 with fail
        go_cut [21,22] (fun x21 x22 w'=>∃ xb s1 s2 s3,x21=.pointer (some ⟨xb,0,none⟩)∧x22=.int .i64 be∧Blk w' xb [s1,s2,s3] 31∧AuF w' ba [s1,s2,s3]∧Upd [] we w')
        case first=>
         go_wp2_with fail
         refine wp_region_wa 19 17 (fun w'=>∃ x:Ext we,w'=x.val) (by kernel_rfl) (by kernel_rfl) (Ext.of (by iterate 25 (first|exact Upd.refl _ _|assumption|refine Upd.alloc ?_ _|refine Upd.drew ?_|refine Upd.drewN ?_ _|refine Upd.dl ?_|refine Upd.step ?_ (Ext.upd _)|refine Upd.nil ?_|skip))) ?_
         (refine WA.free 0 rfl rfl (by kernel_rfl) (fun K hK=>?_);go_big_quiet_step (fail);refine wpQuiet_nil ?_;refine hK _ ?_;clear hK K);(refine WA.free 1 rfl rfl (by kernel_rfl) (fun K hK=>?_);go_big_quiet_step (fail);refine wpQuiet_nil ?_;refine hK _ ?_;clear hK K);(refine WA.free 2 rfl rfl (by kernel_rfl) (fun K hK=>?_);go_big_quiet_step (fail);refine wpQuiet_nil ?_;refine hK _ ?_;clear hK K)
         (refine WA.load 3 17 rfl rfl (by kernel_rfl) (by kernel_rfl) (fun K hK=>?_);go_big_quiet_step (fail);refine wpQuiet_nil ?_;refine hK _ ?_;clear hK K)
         (refine WA.free 5 rfl rfl (by kernel_rfl) (fun K hK=>?_);go_big_quiet_step (fail);refine wpQuiet_nil ?_;refine hK _ ?_;clear hK K);(refine WA.free 6 rfl rfl (by kernel_rfl) (fun K hK=>?_);go_big_quiet_step (fail);refine wpQuiet_nil ?_;refine hK _ ?_;clear hK K);(refine WA.free 7 rfl rfl (by kernel_rfl) (fun K hK=>?_);go_big_quiet_step (fail);refine wpQuiet_nil ?_;refine hK _ ?_;clear hK K)
         (refine WA.load 8 17 rfl rfl (by kernel_rfl) (by kernel_rfl) (fun K hK=>?_);go_big_quiet_step (fail);refine wpQuiet_nil ?_;refine hK _ ?_;clear hK K)
         (refine WA.free 10 rfl rfl (by kernel_rfl) (fun K hK=>?_);go_big_quiet_step (fail);refine wpQuiet_nil ?_;refine hK _ ?_;clear hK K);(refine WA.free 11 rfl rfl (by kernel_rfl) (fun K hK=>?_);go_big_quiet_step (fail);refine wpQuiet_nil ?_;refine hK _ ?_;clear hK K)
         refine WA.two 4 16 (by kernel_rfl) (Do_.mk rfl (fun K hK=>?_)) (Do_.mk rfl (fun K hK=>?_))
         ·go_wp2_with ((with_reducible refine (HON.out _ (HX12.out.step (by iterate 25 (first|exact Upd.refl _ _|assumption|refine Upd.alloc ?_ _|refine Upd.drew ?_|refine Upd.drewN ?_ _|refine Upd.dl ?_|refine Upd.step ?_ (Ext.upd _)|refine Upd.nil ?_|skip)))).mono ?_);rintro e wA ⟨vA,rfl,oA,uA⟩)
          have HA1:=Lib.hid (And.intro (show Upd [] we wA from Upd.step (by iterate 25 (first|exact Upd.refl _ _|assumption|refine Upd.alloc ?_ _|refine Upd.drew ?_|refine Upd.drewN ?_ _|refine Upd.dl ?_|refine Upd.step ?_ (Ext.upd _)|refine Upd.nil ?_|skip)) uA) oA)
          clear uA oA
          refine WA.keep (Ext.of HA1.out.1) ?_
          refine WA.two 9 16 (by kernel_rfl) (Do_.mk rfl (fun K hK=>?_)) (Do_.mk rfl (fun K hK=>?_))
          ·go_wp2_with ((with_reducible refine (HOB.out _ (HX12.out.step HA1.out.1)).mono ?_);rintro e wB ⟨vB,rfl,oB,uB⟩)
           have HB1:=Lib.hid (And.intro (show Upd [] we wB from Upd.step HA1.out.1 uB) (And.intro (HA1.out.2.ext uB) oB))
           clear uB oB
           refine WA.keep (Ext.of HB1.out.1) ?_
           refine WA.two 12 16 (by kernel_rfl) (Do_.mk rfl (fun K hK=>?_)) (Do_.mk rfl (fun K hK=>?_))
           ·go_wp2_with ((with_reducible refine (HBO.out _ _ _ HB1.out.2.1 HB1.out.2.2).mono ?_);rintro e wC ⟨vC,rfl,oC,uC⟩;obtain ⟨r1,t1,r2,t2,r3,t3,rfl,hFC⟩:=oC.shape)
            have HC1:=Lib.hid (And.intro (show Upd [] we wC from Upd.step HB1.out.1 uC) hFC)
            clear uC oC hFC
            refine WA.keep (Ext.of HC1.out.1) ?_
            (refine WA.free 13 rfl rfl (by kernel_rfl) (fun K hK=>?_);go_big_quiet_step (fail);refine wpQuiet_nil ?_;refine hK _ ?_;clear hK K);(refine WA.free 14 rfl rfl (by kernel_rfl) (fun K hK=>?_);go_big_quiet_step (fail);refine wpQuiet_nil ?_;refine hK _ ?_;clear hK K);(refine WA.free 15 rfl rfl (by kernel_rfl) (fun K hK=>?_);go_big_quiet_step (fail);refine wpQuiet_nil ?_;refine hK _ ?_;clear hK K)
            refine WA.one 16 (by kernel_rfl) (Do_.mk rfl (fun K hK=>?_))
            go_wp2_with fail
            have HZ:=Lib.hid (show Blk (wC.alloc (.cells #[.slice none 0 0,.slice none 0 0,.slice none 0 0] 31)) wC.heap.size [.slice none 0 0,.slice none 0 0,.slice none 0 0] 31∧Upd [] wC (wC.alloc (.cells #[.slice none 0 0,.slice none 0 0,.slice none 0 0] 31))∧we.heap.size≤wC.heap.size from ⟨Blk.new wC [.slice none 0 0,.slice none 0 0,.slice none 0 0] _,(Upd.refl [] wC).alloc _,HC1.out.1.size⟩)
            generalize (wC.alloc (.cells #[.slice none 0 0,.slice none 0 0,.slice none 0 0] 31))=wZ at *
            generalize wC.heap.size=xb at *
            have HUZ:=Lib.hid (HC1.out.1.step HZ.out.2.1)
            refine WA.keep (Ext.of HUZ.out) ?_
            have s0:=HZ.out.1.cell (i:=0) rfl
            have s1:=HZ.out.1.cell (i:=1) rfl
            have s2:=HZ.out.1.cell (i:=2) rfl
            have sf:∀ q,wZ.frozen? ⟨xb,q,none⟩=false:=HZ.out.1.free
            refine WA.one 17 (by kernel_rfl) (Do_.mk rfl (fun K hK=>?_))
            go_wp2_with fail
            refine WA.past (by kernel_rfl) ?_
            refine WA.one 18 (by kernel_rfl) (Do_.mk rfl (fun K hK=>?_))
            go_wp2_with fail
            refine WA.past (by kernel_rfl) ?_
            refine WA.nil (by kernel_rfl) ?_
            go_wp2_with fail
            go_meet
            case rel=>
             have hs:=cell3_set (a:=.slice r1 ba.cuts.length t1) (b:=.slice r2 ba.next.length t2) (c:=.slice r3 ba.acc.length t3) HZ.out.1
             exact ⟨xb,_,_,_,rfl,rfl,hs.1,AuF_box (HC1.out.2.ext HZ.out.2.1) HBK.out HZ.out.1 hs.2,HUZ.out.fresh hs.2 (fun c hc=>.inr (by simp at hc;subst hc;exact HZ.out.2.2))⟩
           ·go_wp2_with fail
            have HZ:=Lib.hid (show Blk (wB.alloc (.cells #[.slice none 0 0,.slice none 0 0,.slice none 0 0] 31)) wB.heap.size [.slice none 0 0,.slice none 0 0,.slice none 0 0] 31∧Upd [] wB (wB.alloc (.cells #[.slice none 0 0,.slice none 0 0,.slice none 0 0] 31))∧we.heap.size≤wB.heap.size from ⟨Blk.new wB [.slice none 0 0,.slice none 0 0,.slice none 0 0] _,(Upd.refl [] wB).alloc _,HB1.out.1.size⟩)
            generalize (wB.alloc (.cells #[.slice none 0 0,.slice none 0 0,.slice none 0 0] 31))=wZ at *
            generalize wB.heap.size=xb at *
            have HUZ:=Lib.hid (HB1.out.1.step HZ.out.2.1)
            refine WA.keep (Ext.of HUZ.out) ?_
            refine WA.one 12 (by kernel_rfl) (Do_.mk rfl (fun K hK=>?_))
            go_wp2_with ((with_reducible refine (HBO.out _ _ _ (HB1.out.2.1.ext HZ.out.2.1) (HB1.out.2.2.ext HZ.out.2.1)).mono ?_);rintro e wC ⟨vC,rfl,oC,uC⟩;obtain ⟨r1,t1,r2,t2,r3,t3,rfl,hFC⟩:=oC.shape)
            have HC1:=Lib.hid (And.intro (show Upd [] we wC from Upd.step HUZ.out uC) hFC)
            have HZC:=Lib.hid (HZ.out.1.upd uC (by simp))
            clear uC oC hFC
            refine WA.keep (Ext.of HC1.out.1) ?_
            (refine WA.free 13 rfl rfl (by kernel_rfl) (fun K hK=>?_);go_big_quiet_step (fail);refine wpQuiet_nil ?_;refine hK _ ?_;clear hK K);(refine WA.free 14 rfl rfl (by kernel_rfl) (fun K hK=>?_);go_big_quiet_step (fail);refine wpQuiet_nil ?_;refine hK _ ?_;clear hK K);(refine WA.free 15 rfl rfl (by kernel_rfl) (fun K hK=>?_);go_big_quiet_step (fail);refine wpQuiet_nil ?_;refine hK _ ?_;clear hK K)
            have s0:=HZC.out.cell (i:=0) rfl
            have s1:=HZC.out.cell (i:=1) rfl
            have s2:=HZC.out.cell (i:=2) rfl
            have sf:∀ q,wC.frozen? ⟨xb,q,none⟩=false:=HZC.out.free
            refine WA.one 17 (by kernel_rfl) (Do_.mk rfl (fun K hK=>?_))
            go_wp2_with fail
            refine WA.past (by kernel_rfl) ?_
            refine WA.one 18 (by kernel_rfl) (Do_.mk rfl (fun K hK=>?_))
            go_wp2_with fail
            refine WA.past (by kernel_rfl) ?_
            refine WA.nil (by kernel_rfl) ?_
            go_wp2_with fail
            go_meet
            case rel=>
             have hs:=cell3_set (a:=.slice r1 ba.cuts.length t1) (b:=.slice r2 ba.next.length t2) (c:=.slice r3 ba.acc.length t3) HZC.out
             exact ⟨xb,_,_,_,rfl,rfl,hs.1,AuF_box HC1.out.2 HBK.out HZC.out hs.2,HC1.out.1.fresh hs.2 (fun c hc=>.inr (by simp at hc;subst hc;exact HZ.out.2.2))⟩
          ·go_wp2_with fail
           have HZ:=Lib.hid (show Blk (wA.alloc (.cells #[.slice none 0 0,.slice none 0 0,.slice none 0 0] 31)) wA.heap.size [.slice none 0 0,.slice none 0 0,.slice none 0 0] 31∧Upd [] wA (wA.alloc (.cells #[.slice none 0 0,.slice none 0 0,.slice none 0 0] 31))∧we.heap.size≤wA.heap.size from ⟨Blk.new wA [.slice none 0 0,.slice none 0 0,.slice none 0 0] _,(Upd.refl [] wA).alloc _,HA1.out.1.size⟩)
           generalize (wA.alloc (.cells #[.slice none 0 0,.slice none 0 0,.slice none 0 0] 31))=wZ at *
           generalize wA.heap.size=xb at *
           have HUZ:=Lib.hid (HA1.out.1.step HZ.out.2.1)
           refine WA.keep (Ext.of HUZ.out) ?_
           refine WA.one 9 (by kernel_rfl) (Do_.mk rfl (fun K hK=>?_))
           go_wp2_with ((with_reducible refine (HOB.out _ (HX12.out.step HUZ.out)).mono ?_);rintro e wB ⟨vB,rfl,oB,uB⟩)
           have HB1:=Lib.hid (And.intro (show Upd [] we wB from Upd.step HUZ.out uB) (And.intro (HA1.out.2.ext (HZ.out.2.1.step uB)) oB))
           have HZB:=Lib.hid (HZ.out.1.upd uB (by simp))
           clear uB oB
           refine WA.keep (Ext.of HB1.out.1) ?_
           refine WA.one 12 (by kernel_rfl) (Do_.mk rfl (fun K hK=>?_))
           go_wp2_with ((with_reducible refine (HBO.out _ _ _ HB1.out.2.1 HB1.out.2.2).mono ?_);rintro e wC ⟨vC,rfl,oC,uC⟩;obtain ⟨r1,t1,r2,t2,r3,t3,rfl,hFC⟩:=oC.shape)
           have HC1:=Lib.hid (And.intro (show Upd [] we wC from Upd.step HB1.out.1 uC) hFC)
           have HZC:=Lib.hid (HZB.out.upd uC (by simp))
           clear uC oC hFC
           refine WA.keep (Ext.of HC1.out.1) ?_
           (refine WA.free 13 rfl rfl (by kernel_rfl) (fun K hK=>?_);go_big_quiet_step (fail);refine wpQuiet_nil ?_;refine hK _ ?_;clear hK K);(refine WA.free 14 rfl rfl (by kernel_rfl) (fun K hK=>?_);go_big_quiet_step (fail);refine wpQuiet_nil ?_;refine hK _ ?_;clear hK K);(refine WA.free 15 rfl rfl (by kernel_rfl) (fun K hK=>?_);go_big_quiet_step (fail);refine wpQuiet_nil ?_;refine hK _ ?_;clear hK K)
           have s0:=HZC.out.cell (i:=0) rfl
           have s1:=HZC.out.cell (i:=1) rfl
           have s2:=HZC.out.cell (i:=2) rfl
           have sf:∀ q,wC.frozen? ⟨xb,q,none⟩=false:=HZC.out.free
           refine WA.one 17 (by kernel_rfl) (Do_.mk rfl (fun K hK=>?_))
           go_wp2_with fail
           refine WA.past (by kernel_rfl) ?_
           refine WA.one 18 (by kernel_rfl) (Do_.mk rfl (fun K hK=>?_))
           go_wp2_with fail
           refine WA.past (by kernel_rfl) ?_
           refine WA.nil (by kernel_rfl) ?_
           go_wp2_with fail
           go_meet
           case rel=>
            have hs:=cell3_set (a:=.slice r1 ba.cuts.length t1) (b:=.slice r2 ba.next.length t2) (c:=.slice r3 ba.acc.length t3) HZC.out
            exact ⟨xb,_,_,_,rfl,rfl,hs.1,AuF_box HC1.out.2 HBK.out HZC.out hs.2,HC1.out.1.fresh hs.2 (fun c hc=>.inr (by simp at hc;subst hc;exact HZ.out.2.2))⟩
         ·go_wp2_with fail
          have HZ:=Lib.hid (show Blk ((we.alloc (.cells #[.slice none 0 0,.slice none 0 0,.slice none 0 0] 31)).drew) we.heap.size [.slice none 0 0,.slice none 0 0,.slice none 0 0] 31∧Upd [] we ((we.alloc (.cells #[.slice none 0 0,.slice none 0 0,.slice none 0 0] 31)).drew)∧we.heap.size≤we.heap.size from ⟨(Blk.new we [.slice none 0 0,.slice none 0 0,.slice none 0 0] 31).drew,((Upd.refl [] we).alloc _).drew,Nat.le_refl _⟩)
          generalize ((we.alloc (.cells #[.slice none 0 0,.slice none 0 0,.slice none 0 0] 31)).drew)=wZ at *
          obtain ⟨xb,hxe⟩:∃ xb,we.heap.size=xb:=⟨_,rfl⟩
          rw [hxe] at HZ ⊢
          have HXE:=Lib.hid (Nat.le_of_eq hxe)
          clear hxe
          refine WA.keep (Ext.of HZ.out.2.1) ?_
          refine WA.one 4 (by kernel_rfl) (Do_.mk rfl (fun K hK=>?_))
          go_wp2_with ((with_reducible refine (HON.out _ (HX12.out.step HZ.out.2.1)).mono ?_);rintro e wA ⟨vA,rfl,oA,uA⟩)
          have HA1:=Lib.hid (And.intro (show Upd [] we wA from Upd.step HZ.out.2.1 uA) oA)
          have HZA:=Lib.hid (HZ.out.1.upd uA (by simp))
          clear uA oA
          refine WA.keep (Ext.of HA1.out.1) ?_
          refine WA.one 9 (by kernel_rfl) (Do_.mk rfl (fun K hK=>?_))
          go_wp2_with ((with_reducible refine (HOB.out _ (HX12.out.step HA1.out.1)).mono ?_);rintro e wB ⟨vB,rfl,oB,uB⟩)
          have HB1:=Lib.hid (And.intro (show Upd [] we wB from Upd.step HA1.out.1 uB) (And.intro (HA1.out.2.ext uB) oB))
          have HZB:=Lib.hid (HZA.out.upd uB (by simp))
          clear uB oB
          refine WA.keep (Ext.of HB1.out.1) ?_
          refine WA.one 12 (by kernel_rfl) (Do_.mk rfl (fun K hK=>?_))
          go_wp2_with ((with_reducible refine (HBO.out _ _ _ HB1.out.2.1 HB1.out.2.2).mono ?_);rintro e wC ⟨vC,rfl,oC,uC⟩;obtain ⟨r1,t1,r2,t2,r3,t3,rfl,hFC⟩:=oC.shape)
          have HC1:=Lib.hid (And.intro (show Upd [] we wC from Upd.step HB1.out.1 uC) hFC)
          have HZC:=Lib.hid (HZB.out.upd uC (by simp))
          clear uC oC hFC
          refine WA.keep (Ext.of HC1.out.1) ?_
          (refine WA.free 13 rfl rfl (by kernel_rfl) (fun K hK=>?_);go_big_quiet_step (fail);refine wpQuiet_nil ?_;refine hK _ ?_;clear hK K);(refine WA.free 14 rfl rfl (by kernel_rfl) (fun K hK=>?_);go_big_quiet_step (fail);refine wpQuiet_nil ?_;refine hK _ ?_;clear hK K);(refine WA.free 15 rfl rfl (by kernel_rfl) (fun K hK=>?_);go_big_quiet_step (fail);refine wpQuiet_nil ?_;refine hK _ ?_;clear hK K)
          have s0:=HZC.out.cell (i:=0) rfl
          have s1:=HZC.out.cell (i:=1) rfl
          have s2:=HZC.out.cell (i:=2) rfl
          have sf:∀ q,wC.frozen? ⟨xb,q,none⟩=false:=HZC.out.free
          refine WA.one 17 (by kernel_rfl) (Do_.mk rfl (fun K hK=>?_))
          go_wp2_with fail
          refine WA.past (by kernel_rfl) ?_
          refine WA.one 18 (by kernel_rfl) (Do_.mk rfl (fun K hK=>?_))
          go_wp2_with fail
          refine WA.past (by kernel_rfl) ?_
          refine WA.nil (by kernel_rfl) ?_
          go_wp2_with fail
          go_meet
          case rel=>
           have hs:=cell3_set (a:=.slice r1 ba.cuts.length t1) (b:=.slice r2 ba.next.length t2) (c:=.slice r3 ba.acc.length t3) HZC.out
           exact ⟨xb,_,_,_,rfl,rfl,hs.1,AuF_box HC1.out.2 HBK.out HZC.out hs.2,HC1.out.1.fresh hs.2 (fun c hc=>.inr (by simp at hc;subst hc;exact HXE.out))⟩
        case rest=>
        obtain ⟨xb,s1,s2,s3,rfl,rfl,hxB,hxF,uc⟩:=hcut
        have HXB:=Lib.hid (And.intro hxB (And.intro hxF uc))
        clear hxB hxF uc
        obtain ⟨wv,rfl⟩:∃ wv:World,wv=wc:=⟨_,rfl⟩
        clear f0 f1 f2 h0 h1 h2
        go_upto_region 18 with fail
        change Code.wp _ _ _ _ (wv.alloc (.cells #[.slice none 0 0,.slice none 0 0,.slice none 0 0] 39))
        have HRR:=Lib.hid (show Blk (wv.alloc (.cells #[.slice none 0 0,.slice none 0 0,.slice none 0 0] 39)) wv.heap.size [.slice none 0 0,.slice none 0 0,.slice none 0 0] 39∧Upd [] wv (wv.alloc (.cells #[.slice none 0 0,.slice none 0 0,.slice none 0 0] 39)) from ⟨Blk.new wv [.slice none 0 0,.slice none 0 0,.slice none 0 0] _,(Upd.refl [] wv).alloc _⟩)
        generalize (wv.alloc (.cells #[.slice none 0 0,.slice none 0 0,.slice none 0 0] 39))=wR at *
        generalize hre:wv.heap.size=rb at *
        have HRE:=Lib.hid hre
        clear hre
        obtain ⟨aA,n1,aN,n2,aC,n3,hse,_⟩:=AuV.shape (show AuV wv ba (.agg #[s1,s2,s3]) from ⟨_,rfl,HXB.out.2.1⟩)
        simp only [Value.agg.injEq,Array.mk.injEq,List.cons.injEq,and_true] at hse
        obtain ⟨rfl,rfl,rfl⟩:=hse
        have HPB:=Lib.hid (fun (w':World) (u:Upd [] wv w')=>plain_calls (w:=w') (a:=ba) (v:=.agg #[.slice aA ba.cuts.length n1,.slice aN ba.next.length n2,.slice aC ba.acc.length n3]) ⟨_,rfl,HXB.out.2.1.ext u⟩)
        have HXR:=Lib.hid ((HX12.out.step HXB.out.2.2).step HRR.out.2)
        have HYR:=Lib.hid ((HY12.out.step HXB.out.2.2).step HRR.out.2)
        have x0:=HRR.out.2.some (HXB.out.1.cell (i:=0) rfl) (by simp)
        have x1:=HRR.out.2.some (HXB.out.1.cell (i:=1) rfl) (by simp)
        have x2:=HRR.out.2.some (HXB.out.1.cell (i:=2) rfl) (by simp)
        have r0:=HRR.out.1.cell (i:=0) rfl
        have r1:=HRR.out.1.cell (i:=1) rfl
        have r2:=HRR.out.1.cell (i:=2) rfl
        obtain ⟨hb1,hb2⟩:=id HBN.out
        have hbb:(be != er)=false:=by rw [hb2];simp
        clear hb1 hb2
        go_upto_region 23 with fail
        refine wp_region_ord 7 2 [0,1,2,3,4,6,8,9] [4,6] [0,1,2,3,4,6,5,7,8,9] (fun w'=>∃ x:Ext wR,w'=x.val) (by kernel_rfl) (by kernel_rfl) (Ext.of (by iterate 25 (first|exact Upd.refl _ _|assumption|refine Upd.alloc ?_ _|refine Upd.drew ?_|refine Upd.drewN ?_ _|refine Upd.dl ?_|refine Upd.step ?_ (Ext.upd _)|refine Upd.nil ?_|skip))) ?_
        repeat (first|(refine wpOrd_load rfl rfl rfl rfl (fun K hK=>?_);go_big_quiet_step (fail);refine wpQuiet_nil ?_;refine hK _ ?_;clear hK K)|(refine wpOrd_free rfl rfl rfl (fun K hK=>?_);go_big_quiet_step (fail);refine wpQuiet_nil ?_;refine hK _ ?_;clear hK K))
        refine wpOrd_fix rfl rfl (fun K hK=>?_)
        go_wp2_with (go_at_call 17;refine (HPB.out _ (Upd.step (HRR.out.2) (by iterate 25 (first|exact Upd.refl _ _|assumption|refine Upd.alloc ?_ _|refine Upd.drew ?_|refine Upd.drewN ?_ _|refine Upd.dl ?_|refine Upd.step ?_ (Ext.upd _)|refine Upd.nil ?_|skip)))).mono ?_;rintro e wM ⟨vM,rfl,oM,uM⟩)
        have HM:=Lib.hid (And.intro (show Upd [] wR wM from Upd.step (by iterate 25 (first|exact Upd.refl _ _|assumption|refine Upd.alloc ?_ _|refine Upd.drew ?_|refine Upd.drewN ?_ _|refine Upd.dl ?_|refine Upd.step ?_ (Ext.upd _)|refine Upd.nil ?_|skip)) uM) oM)
        clear uM oM
        refine ⟨by first|exact Ext.of HM.out.1|exact fun _=>Ext.of HM.out.1,?_⟩
        repeat (first|(refine wpOrd_load rfl rfl rfl rfl (fun K hK=>?_);go_big_quiet_step (fail);refine wpQuiet_nil ?_;refine hK _ ?_;clear hK K)|(refine wpOrd_free rfl rfl rfl (fun K hK=>?_);go_big_quiet_step (fail);refine wpQuiet_nil ?_;refine hK _ ?_;clear hK K))
        refine wpOrd_fix rfl rfl (fun K hK=>?_)
        go_wp2_with (go_at_call 16;refine (SameC_yes (a:=ba) rfl HM.out.2 (show AuV _ ba (.agg #[.slice none 0 0,.slice none 0 0,.slice none 0 0]) from by rw [HBN.out.1];exact ⟨_,rfl,noA_F⟩)).mono ?_;rintro e wN ⟨rfl,uN⟩)
        have HN:=Lib.hid (HM.out.1.step uN)
        clear uN
        refine ⟨fun hC=>absurd hC (by decide),?_⟩
        repeat (first|(refine wpOrd_load rfl rfl rfl rfl (fun K hK=>?_);go_big_quiet_step (fail);refine wpQuiet_nil ?_;refine hK _ ?_;clear hK K)|(refine wpOrd_free rfl rfl rfl (fun K hK=>?_);go_big_quiet_step (fail);refine wpQuiet_nil ?_;refine hK _ ?_;clear hK K))
        refine wpOrd_nil ?_
        go_wp2_with fail
        exact ⟨⟨n+1,by go_num,by omega,Ext.of (HYR.out.step HN.out)⟩,by simp [intOf];omega⟩
       ·have hne:n=2:=by omega
        subst hne
        go_wp2_with fail
        exact ⟨⟨j+1,by go_num,by omega,Ext.of (HY11.out.step HY12.out)⟩,by simp [intOf];omega⟩
     ·have hje:j=os.length:=by omega
      subst hje
      go_wp2_with fail
      exact ⟨⟨m+1,by go_num,by omega,Ext.of HX11.out⟩,by simp [intOf];omega⟩
  ·have hme:m=ls.length:=by omega
   subst hme
   have HLV:=Lib.hid (lives_calls (w:=wq))
   go_wp2_with ((with_reducible refine HLV.out.mono ?_);rintro e w8 ⟨rfl,u8⟩)
   go_ret
   exact ⟨rfl,((HLS.out.1.step HOS.out.1).step HXU.out).step u8⟩
end
end Law
end Go.Proofs.YtjclbjdkkdijbaaGreat
end
