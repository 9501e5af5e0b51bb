/- Walks through the reference of automata: Same. Conditions: none. The state of the reference's Both in memory: the automaton that is being made out of cuts that may be old, the list of pairs, the row. Conditions: none. The state of the reference's Minimal in memory. Conditions: none. Walks through the reference model of package auto: Minimal. Conditions: none. Walks through the law of chapter 05: AutoMinimal. Conditions: none. -/
import Derived.Test.YtjclbjdkkdijbaaGreatAuZb
import Derived.Test.YtjclbjdkkdijbaaGreatSame
import Derived.Test.YtjclbjdkkdijbaaGreatRfZf
import Derived.Test.YtjclbjdkkdijbaaGreatAuZm
import Derived.Test.YtjclbjdkkdijbaaGreatRfZm
import Derived.Test.YtjclbjdkkdijbaaGreatAuZp
import Derived.Test.YtjclbjdkkdijbaaGreatAuK
set_option linter.unusedVariables false
set_option linter.unusedSimpArgs false
set_option linter.unusedSectionVars false
section
open Go.RowKit
namespace Go.Proofs.YtjclbjdkkdijbaaGreat
open L
namespace Aut
open Auto R01
attribute [-go_sem] sliced
theorem two_rows3 (w:World) (a0 a1 a2 b0 b1 b2:Value) (T:TypeId):∃ w1,w1=((w.alloc (.cells #[a0,a1,a2] T)).alloc (.cells #[b0,b1,b2] T))∧Blk w1 w.heap.size [a0,a1,a2] T∧Blk w1 (w.heap.size+1) [b0,b1,b2] T∧Upd [] w w1:=by
 have s1:(w.alloc (.cells #[a0,a1,a2] T)).heap.size=w.heap.size+1:=by simp
 have h2:=Blk.new (w.alloc (.cells #[a0,a1,a2] T)) [b0,b1,b2] T
 rw [s1] at h2
 exact ⟨_,rfl,(Blk.new w [a0,a1,a2] T).alloc _,h2,((Upd.refl [] w).alloc _).alloc _⟩
def SameT (a b:Au) (w:World) (e:Ending) (w':World):Prop:=∃ x:Bool,e=.returned (.bool x)∧(x=true↔a=b)∧Upd [] w w'
theorem SameT.no {a b:Au} {w w':World} (h:a≠b) (u:Upd [] w w'):SameT a b w (.returned (.bool false)) w':=⟨false,rfl,by simp [h],u⟩
theorem SameT.yes {a b:Au} {w w':World} (h:a=b) (u:Upd [] w w'):SameT a b w (.returned (.bool true)) w':=⟨true,rfl,by simp [h],u⟩
theorem step_rel {a b:Au} {s:Nat} (h:∀ j,j<s→a.next.getD j []=b.next.getD j []∧(j<a.acc.length→a.acc.getD j false=b.acc.getD j false)) (h1:a.next.getD s []=b.next.getD s []) (h2:s<a.acc.length→a.acc.getD s false=b.acc.getD s false) :
 ∀ j,j<s+1→a.next.getD j []=b.next.getD j []∧(j<a.acc.length→a.acc.getD j false=b.acc.getD j false):=fun j hj=>by
 rcases Nat.lt_or_ge j s with h3|h3
 ·exact h j h3
 ·have:j=s:=by omega
  subst this
  exact ⟨h1,h2⟩
theorem au_ext {a b:Au} (h1:a.cuts=b.cuts) (h2:a.next.length=b.next.length) (h3:a.acc.length=b.acc.length) (h4:∀ j,j<a.next.length→a.next.getD j []=b.next.getD j []) (h5:∀ j,j<a.acc.length→a.acc.getD j false=b.acc.getD j false):a=b:=by
 have e1:a.next=b.next:=List.ext_getElem h2 fun i p q=>by
  have:=h4 i p
  rw [List.getD_eq_getElem?_getD,List.getD_eq_getElem?_getD,List.getElem?_eq_getElem p,List.getElem?_eq_getElem q] at this
  exact this
 have e2:a.acc=b.acc:=List.ext_getElem h3 fun i p q=>by
  have:=h5 i p
  rw [List.getD_eq_getElem?_getD,List.getD_eq_getElem?_getD,List.getElem?_eq_getElem p,List.getElem?_eq_getElem q] at this
  exact this
 cases a;cases b
 simp_all
section
variable {w w':World} {v v2:Value}
set_option maxRecDepth 100000 in
set_option maxHeartbeats 16000000 in
theorem SameA_calls {a b:Au} (ha:AuV w a v) (hb:AuV w b v2):Calls Tryz.prog 16 #[v,v2] w (SameT a b w):=by
 obtain ⟨a1,c1,a2,c2,a3,c3,rfl,hF⟩:=ha.shape
 obtain ⟨b1,d1,b2,d2,b3,d3,rfl,hG⟩:=hb.shape
 have HF:=Lib.hid hF
 have HG:=Lib.hid hG
 obtain ⟨w1,hw1,e1,e2,u1⟩:=two_rows3 w (.slice a1 a.cuts.length c1) (.slice a2 a.next.length c2) (.slice a3 a.acc.length c3) (.slice b1 b.cuts.length d1) (.slice b2 b.next.length d2) (.slice b3 b.acc.length d3) 39
 have lims:a.next.length≤9223372036854775807∧a.acc.length≤9223372036854775807:=by
  obtain ⟨_,_,_,he,_,h4,h5⟩:=hF
  cases he
  obtain ⟨_,_,he,q1,q2,_⟩:=h4.form
  cases he
  obtain ⟨_,_,he,q3,q4,_⟩:=h5.elems
  cases he
  omega
 have lim1:=lims.1
 have lim2:=lims.2
 clear ha hb hF hG lims
 go_enter Tryz.func16,Tryz.ntmps16
 go_upto_region 1 with fail
 rw [←hw1]
 clear hw1
 have HB:=Lib.hid (And.intro e1 (And.intro e2 u1))
 have HCB:=Lib.hid (show ∀ (w5:World),Upd [] w1 w5→w5.cell? ⟨w.heap.size,0,none⟩=some (.slice a1 a.cuts.length c1)∧w5.cell? ⟨w.heap.size,1,none⟩=some (.slice a2 a.next.length c2)∧w5.cell? ⟨w.heap.size,2,none⟩=some (.slice a3 a.acc.length c3)∧w5.cell? ⟨w.heap.size+1,0,none⟩=some (.slice b1 b.cuts.length d1)∧w5.cell? ⟨w.heap.size+1,1,none⟩=some (.slice b2 b.next.length d2)∧w5.cell? ⟨w.heap.size+1,2,none⟩=some (.slice b3 b.acc.length d3) from fun w5 u5=>by
  have x1:=e1.upd u5 (by simp)
  have x2:=e2.upd u5 (by simp)
  exact ⟨x1.cell (i:=0) rfl,x1.cell (i:=1) rfl,x1.cell (i:=2) rfl,x2.cell (i:=0) rfl,x2.cell (i:=1) rfl,x2.cell (i:=2) rfl⟩)
 have HSC:=SameInts_calls (w:=w1) (v1:=.slice a1 a.cuts.length c1) (v2:=.slice b1 b.cuts.length d1) (xs:=a.cuts) (ys:=b.cuts) (by
  obtain ⟨_,_,_,he,h3,_,_⟩:=HF.out
  cases he
  exact h3.upd u1 (by simp)) (by
  obtain ⟨_,_,_,he,h3,_,_⟩:=HG.out
  cases he
  exact h3.upd u1 (by simp))
 clear e1 e2 u1
 generalize w.heap.size=pa at *
 obtain ⟨k0,k1,k2,l0,l1,l2⟩:=HCB.out w1 (Upd.refl _ _)
 by_cases hc:a.cuts=b.cuts
 ·rw [decide_eq_true hc] at HSC
  have HSC:=Lib.hid HSC
  have HC:=Lib.hid hc
  clear hc
  by_cases hn:a.next.length=b.next.length
  ·have hnb:((a.next.length:Int) != (b.next.length:Int))=false:=by simp [hn]
   have HNL:=Lib.hid hn
   clear hn
   by_cases hk:a.acc.length=b.acc.length
   ·have hkb:((a.acc.length:Int) != (b.acc.length:Int))=false:=by simp [hk]
    have HKL:=Lib.hid hk
    clear hk
    go_upto_region 3 with ((with_reducible refine HSC.out.mono ?_);rintro e w2 ⟨rfl,u2⟩;obtain ⟨k0,k1,k2,l0,l1,l2⟩:=HCB.out w2 u2;have HU2:=Lib.hid u2;clear u2)
    go_wp2_with fail
    go_loopw [5] (fun s5 wr=>∃ s:Nat,s5=.int .i64 s∧s≤a.next.length∧Hid ((∀ j,j<s→a.next.getD j []=b.next.getD j []∧(j<a.acc.length→a.acc.getD j false=b.acc.getD j false))∧Upd [] w1 wr)) (fun s5 _=>a.next.length - (intOf s5).toNat)
    case atStart=>exact ⟨0,rfl,Nat.zero_le _,Lib.hid ⟨fun j hj=>absurd hj (Nat.not_lt_zero _),HU2.out⟩⟩
    case round=>
     obtain ⟨s,rfl,hs,HI⟩:=hrel
     obtain ⟨k0,k1,k2,l0,l1,l2⟩:=HCB.out wr HI.out.2
     by_cases hlt:s<a.next.length
     ·have hli:(s:Int)<a.next.length:=by omega
      have hlt2:s<b.next.length:=by have:=HNL.out;omega
      have hli2:(s:Int)<b.next.length:=by omega
      obtain ⟨g,off,ar,cr,he,hrc,hrow⟩:=(HF.out.ext (HB.out.2.2.step HI.out.2)).row hlt
      cases he
      obtain ⟨g',off',br,dr,he,hrd,hrow2⟩:=(HG.out.ext (HB.out.2.2.step HI.out.2)).row hlt2
      cases he
      have HRR:=Lib.hid (And.intro hrow hrow2)
      have HGR:=Lib.hid (show a=b→a.next.getD s []=b.next.getD s [] from fun h=>by rw [h])
      clear hrow hrow2
      generalize hra:a.next.getD s []=ra at *
      generalize hrb:b.next.getD s []=rb at *
      have HRA:=Lib.hid (And.intro hra hrb)
      clear hra hrb
      by_cases hr:ra=rb
      ·have HSR:=Lib.hid (show ∀ w5,Upd [] wr w5→Calls Tryz.prog 58 #[.slice ar ra.length cr,.slice br rb.length dr] w5 fun e w'=>e=.returned (.bool true)∧Upd [] w5 w' from fun w5 u5=>by
        have:=SameInts_calls (HRR.out.1.upd u5 (by simp)) (HRR.out.2.upd u5 (by simp))
        rw [decide_eq_true hr] at this
        exact this)
       have HEQ:=Lib.hid (show a.next.getD s []=b.next.getD s [] by rw [HRA.out.1,HRA.out.2];exact hr)
       clear hr
       go_upto_region 6 with fail
       refine wp_region_qx (by kernel_rfl) (by kernel_rfl) ?_
       repeat (go_big_quiet_step (((go_at_call 58;exact qx (HSR.out _ (Ext.upd _))))))
       refine wpQuiet_nil ?_
       intro x
       have hU3:=HI.out.2.step x.upd
       generalize x.val=w3 at *
       obtain ⟨k0,k1,k2,l0,l1,l2⟩:=HCB.out w3 hU3
       have HU3:=Lib.hid hU3
       clear hU3
       by_cases hac:s<a.acc.length
       ·have haci:(s:Int)<a.acc.length:=by omega
        have hac2:s<b.acc.length:=by have:=HKL.out;omega
        have haci2:(s:Int)<b.acc.length:=by omega
        obtain ⟨ga,oa3,he3,hxa⟩:=(HF.out.ext (HB.out.2.2.step HU3.out)).acc hac
        cases he3
        obtain ⟨gb,ob3,he3,hxb⟩:=(HG.out.ext (HB.out.2.2.step HU3.out)).acc hac2
        cases he3
        have HGA:=Lib.hid (show ∀ h:a=b,a.acc.getD s false=b.acc.getD s false from fun h=>by rw [h])
        by_cases hxx:a.acc.getD s false=b.acc.getD s false
        ·have HXX:=Lib.hid (step_rel HI.out.1 HEQ.out (fun _=>hxx))
         generalize a.acc.getD s false=xa at *
         generalize b.acc.getD s false=xb at *
         subst hxx
         clear HGA
         cases xa with
         | false=>
          go_upto_region 7 with fail
          refine wp_region_qx (by kernel_rfl) (by kernel_rfl) ?_
          repeat (go_big_quiet_step ((fail)))
          refine wpQuiet_nil ?_
          intro x
          go_wp2_with fail
          exact ⟨⟨s+1,by go_num,by omega,Lib.hid ⟨HXX.out,HU3.out.step x.upd⟩⟩,by simp [intOf];omega⟩
         | true=>
          go_upto_region 7 with fail
          refine wp_region_qx (by kernel_rfl) (by kernel_rfl) ?_
          repeat (go_big_quiet_step ((fail)))
          refine wpQuiet_nil ?_
          intro x
          go_wp2_with fail
          exact ⟨⟨s+1,by go_num,by omega,Lib.hid ⟨HXX.out,HU3.out.step x.upd⟩⟩,by simp [intOf];omega⟩
        ·have HNE:=Lib.hid (show a≠b from fun h=>hxx (HGA.out h))
         generalize a.acc.getD s false=xa at *
         generalize b.acc.getD s false=xb at *
         cases xa <;> cases xb
         ·exact absurd rfl hxx
         ·clear hxx
          go_upto_region 7 with fail
          refine wp_region_qx (by kernel_rfl) (by kernel_rfl) ?_
          repeat (go_big_quiet_step ((fail)))
          refine wpQuiet_nil ?_
          intro x
          go_wp2_with fail
          go_ret
          exact SameT.no HNE.out ((HB.out.2.2.step HU3.out).step x.upd)
         ·clear hxx
          go_upto_region 7 with fail
          refine wp_region_qx (by kernel_rfl) (by kernel_rfl) ?_
          repeat (go_big_quiet_step ((fail)))
          refine wpQuiet_nil ?_
          intro x
          go_wp2_with fail
          go_ret
          exact SameT.no HNE.out ((HB.out.2.2.step HU3.out).step x.upd)
         ·exact absurd rfl hxx
       ·have haci:¬ ((s:Int)<a.acc.length):=by omega
        go_upto_region 7 with fail
        refine wp_region_qx (by kernel_rfl) (by kernel_rfl) ?_
        repeat (go_big_quiet_step ((fail)))
        refine wpQuiet_nil ?_
        intro x
        go_wp2_with fail
        exact ⟨⟨s+1,by go_num,by omega,Lib.hid ⟨step_rel HI.out.1 HEQ.out (fun h=>absurd h hac),HU3.out.step x.upd⟩⟩,by simp [intOf];omega⟩
      ·have HSR:=Lib.hid (show ∀ w5,Upd [] wr w5→Calls Tryz.prog 58 #[.slice ar ra.length cr,.slice br rb.length dr] w5 fun e w'=>e=.returned (.bool false)∧Upd [] w5 w' from fun w5 u5=>by
        have:=SameInts_calls (HRR.out.1.upd u5 (by simp)) (HRR.out.2.upd u5 (by simp))
        rw [decide_eq_false hr] at this
        exact this)
       have HNE:=Lib.hid (show a≠b from fun h=>hr (HGR.out h))
       clear hr
       go_upto_region 6 with fail
       refine wp_region_qx (by kernel_rfl) (by kernel_rfl) ?_
       repeat (go_big_quiet_step (((go_at_call 58;exact qx (HSR.out _ (Ext.upd _))))))
       refine wpQuiet_nil ?_
       intro x
       have hU3:=HI.out.2.step x.upd
       generalize x.val=w3 at *
       obtain ⟨k0,k1,k2,l0,l1,l2⟩:=HCB.out w3 hU3
       have HU3:=Lib.hid hU3
       clear hU3
       go_upto_region 7 with fail
       refine wp_region_qx (by kernel_rfl) (by kernel_rfl) ?_
       repeat (go_big_quiet_step ((fail)))
       refine wpQuiet_nil ?_
       intro x
       go_wp2_with fail
       go_ret
       exact SameT.no HNE.out ((HB.out.2.2.step HU3.out).step x.upd)
     ·have hse:s=a.next.length:=by omega
      subst hse
      have hni:¬ ((a.next.length:Int)<a.next.length):=by omega
      go_wp2_with fail
      go_loopw [7] (fun s7 wr2=>∃ s:Nat,s7=.int .i64 s∧(s≤a.acc.length∨s=a.next.length)∧Hid ((∀ j,j<s→j<a.acc.length→a.acc.getD j false=b.acc.getD j false)∧Upd [] w1 wr2)) (fun s7 _=>a.acc.length - (intOf s7).toNat)
      case atStart=>exact ⟨a.next.length,rfl,.inr rfl,Lib.hid ⟨fun j hj hj2=>(HI.out.1 j hj).2 hj2,HI.out.2⟩⟩
      case round=>
       obtain ⟨s,rfl,hs,HJ⟩:=hrel
       obtain ⟨k0,k1,k2,l0,l1,l2⟩:=HCB.out wr HJ.out.2
       by_cases hac:s<a.acc.length
       ·have haci:(s:Int)<a.acc.length:=by omega
        have hac2:s<b.acc.length:=by have:=HKL.out;omega
        have haci2:(s:Int)<b.acc.length:=by omega
        obtain ⟨ga,oa3,he3,hxa⟩:=(HF.out.ext (HB.out.2.2.step HJ.out.2)).acc hac
        cases he3
        obtain ⟨gb,ob3,he3,hxb⟩:=(HG.out.ext (HB.out.2.2.step HJ.out.2)).acc hac2
        cases he3
        have HGA:=Lib.hid (show ∀ h:a=b,a.acc.getD s false=b.acc.getD s false from fun h=>by rw [h])
        by_cases hxx:a.acc.getD s false=b.acc.getD s false
        ·have HXX:=Lib.hid (show ∀ j,j<s+1→j<a.acc.length→a.acc.getD j false=b.acc.getD j false from fun j hj hj2=>by
          rcases Nat.lt_or_ge j s with h|h
          ·exact HJ.out.1 j h hj2
          ·have:j=s:=by omega
           subst this;exact hxx)
         generalize a.acc.getD s false=xa at *
         generalize b.acc.getD s false=xb at *
         subst hxx
         clear HGA
         cases xa with
         | false=>
          go_upto_region 12 with fail
          refine wp_region_qx (by kernel_rfl) (by kernel_rfl) ?_
          repeat (go_big_quiet_step ((fail)))
          refine wpQuiet_nil ?_
          intro x
          go_wp2_with fail
          exact ⟨⟨s+1,by go_num,.inl (by omega),Lib.hid ⟨HXX.out,HJ.out.2.step x.upd⟩⟩,by simp [intOf];omega⟩
         | true=>
          go_upto_region 12 with fail
          refine wp_region_qx (by kernel_rfl) (by kernel_rfl) ?_
          repeat (go_big_quiet_step ((fail)))
          refine wpQuiet_nil ?_
          intro x
          go_wp2_with fail
          exact ⟨⟨s+1,by go_num,.inl (by omega),Lib.hid ⟨HXX.out,HJ.out.2.step x.upd⟩⟩,by simp [intOf];omega⟩
        ·have HNE:=Lib.hid (show a≠b from fun h=>hxx (HGA.out h))
         generalize a.acc.getD s false=xa at *
         generalize b.acc.getD s false=xb at *
         cases xa <;> cases xb
         ·exact absurd rfl hxx
         ·clear hxx
          go_upto_region 12 with fail
          refine wp_region_qx (by kernel_rfl) (by kernel_rfl) ?_
          repeat (go_big_quiet_step ((fail)))
          refine wpQuiet_nil ?_
          intro x
          go_wp2_with fail
          go_ret
          exact SameT.no HNE.out ((HB.out.2.2.step HJ.out.2).step x.upd)
         ·clear hxx
          go_upto_region 12 with fail
          refine wp_region_qx (by kernel_rfl) (by kernel_rfl) ?_
          repeat (go_big_quiet_step ((fail)))
          refine wpQuiet_nil ?_
          intro x
          go_wp2_with fail
          go_ret
          exact SameT.no HNE.out ((HB.out.2.2.step HJ.out.2).step x.upd)
         ·exact absurd rfl hxx
       ·have haci:¬ ((s:Int)<a.acc.length):=by omega
        have HAE:=Lib.hid (show a=b from au_ext HC.out HNL.out HKL.out (fun j hj=>(HI.out.1 j hj).1) (fun j hj=>HJ.out.1 j (by omega) hj))
        go_wp2_with fail
        go_ret
        exact SameT.yes HAE.out (HB.out.2.2.step HJ.out.2)
   ·have hkb:((a.acc.length:Int) != (b.acc.length:Int))=true:=by simp;omega
    have HNE:=Lib.hid (show a≠b from fun h=>hk (by rw [h]))
    clear hk
    go_wp2_with ((with_reducible refine HSC.out.mono ?_);rintro e w2 ⟨rfl,u2⟩;obtain ⟨k0,k1,k2,l0,l1,l2⟩:=HCB.out w2 u2;have HU2:=Lib.hid u2;clear u2)
    go_ret
    exact SameT.no HNE.out (HB.out.2.2.step HU2.out)
  ·have hnb:((a.next.length:Int) != (b.next.length:Int))=true:=by simp;omega
   have HNE:=Lib.hid (show a≠b from fun h=>hn (by rw [h]))
   clear hn
   go_wp2_with ((with_reducible refine HSC.out.mono ?_);rintro e w2 ⟨rfl,u2⟩;obtain ⟨k0,k1,k2,l0,l1,l2⟩:=HCB.out w2 u2;have HU2:=Lib.hid u2;clear u2)
   go_ret
   exact SameT.no HNE.out (HB.out.2.2.step HU2.out)
 ·rw [decide_eq_false hc] at HSC
  have HSC:=Lib.hid HSC
  have HNE:=Lib.hid (show a≠b from fun h=>hc (by rw [h]))
  clear hc
  go_wp2_with ((with_reducible refine HSC.out.mono ?_);rintro e w2 ⟨rfl,u2⟩;have HU2:=Lib.hid u2;clear u2)
  go_ret
  exact SameT.no HNE.out (HB.out.2.2.step HU2.out)
end
end Aut
end Go.Proofs.YtjclbjdkkdijbaaGreat
end
section
open Go.RowKit
namespace Go.Proofs.YtjclbjdkkdijbaaGreat
open L
namespace Aut
open Auto R01
attribute [-go_sem] sliced
structure MkO (T:TypeId) (w0:World) (ab:Nat) (cv nv av:Value) (cs:List Int) (ns:List (List Int)) (bs:List Bool) (F:List Nat) (w:World):Prop where
 bx:Blk w ab [cv,nv,av] T
 cu:SL w 1 cv cs.length (ints cs)
 cn:∀ q,cv.ownBlock=some q→True∧q≠ab∧nv.ownBlock≠some q∧av.ownBlock≠some q
 tb:OwnL 22 w0 nv ns F w
 ac:w.ownsRow 0 4 1 av bs.length (bools bs)
 an:∀ q,av.ownBlock=some q→w0.heap.size≤q∧q≠ab∧q ∉ F∧nv.ownBlock≠some q
 nn:ab ∉ F∧nv.ownBlock≠some ab∧w0.heap.size≤ab
 u:Upd [] w0 w
 fn:∀ b∈F,w0.heap.size≤b
 cl:∀ q,cv.ownBlock=some q→q<w.heap.size
section
variable {T:TypeId} {w0 w w' w1:World} {ab g cap:Nat} {cv nv av:Value} {cs:List Int} {ns:List (List Int)} {bs:List Bool} {F:List Nat}
theorem MkO.quiet (h:MkO T w0 ab cv nv av cs ns bs F w) (hu:Upd [] w w'):MkO T w0 ab cv nv av cs ns bs F w':=
 ⟨h.bx.upd hu (by simp),h.cu.upd hu (by simp),h.cn,h.tb.upd hu (by simp),ownsRow_updL h.ac hu (by simp),h.an,h.nn,h.u.step hu,h.fn,fun q hq=>Nat.lt_of_lt_of_le (h.cl q hq) hu.size⟩
theorem MkO.nv_new (h:MkO T w0 ab cv nv av cs ns bs F w):∀ q,nv.ownBlock=some q→w0.heap.size≤q∧q<w.heap.size:=fun q hq=>by
 obtain ⟨vals,h1,_⟩:=h.tb.ex
 exact ⟨h1.fresh _ hq,h1.lt _ hq⟩
theorem MkO.cuts {cv':Value} {cs':List Int} (h:MkO T w0 ab cv nv av cs ns bs F w) (hs:SL w 1 cv' cs'.length (ints cs')) (hn:∀ q,cv'.ownBlock=some q→True∧q≠ab∧nv.ownBlock≠some q∧av.ownBlock≠some q∧q<w.heap.size) :
 MkO T w0 ab cv' nv av cs' ns bs F (w.setCell ⟨ab,0,none⟩ cv'):=by
 have us:Upd [ab] w (w.setCell ⟨ab,0,none⟩ cv'):=(Upd.refl [ab] w).set (p:=⟨ab,0,none⟩) (by simp) _
 refine ⟨h.bx.set 0 _,hs.upd us (fun b hb hv=>?_),fun q hq=>?_,h.tb.upd us (fun b hb=>?_),ownsRow_updL h.ac us (fun b hb hv=>?_),h.an,h.nn,h.u.fresh us (fun b hb=>.inr ?_),h.fn,fun q hq=>?_⟩
 ·simp at hb;subst hb;exact (hn _ hv).2.1 rfl
 ·obtain ⟨h1,h2,h3,h4,_⟩:=hn q hq;exact ⟨h1,h2,h3,h4⟩
 ·simp at hb;subst hb;exact ⟨h.nn.1,h.nn.2.1⟩
 ·simp at hb;subst hb;exact (h.an _ hv).2.1 rfl
 ·simp at hb;subst hb;exact h.nn.2.2
 ·exact Nat.lt_of_lt_of_le (hn q hq).2.2.2.2 us.size
theorem MkO.row {y:Value} {row:List Int} {vals:List Value} (h:MkO T w0 ab cv nv av cs ns bs F w) (h1:OwnV w0 22 1 nv ns.length vals w) (h2:∀ (i:Nat) (c:List Int),ns[i]?=some c→∃ y,vals[i]?=some y∧SL w 1 y c.length (ints c)∧∀ b,y.ownBlock=some b→b∈F)
 (hy:SL w 1 y row.length (ints row)) (hyn:∀ b,y.ownBlock=some b→w0.heap.size≤b∧b≠ab∧nv.ownBlock≠some b∧av.ownBlock≠some b∧b<w.heap.size)
 (o:w1.ownsRow 0 22 1 (.slice (some ⟨g,0,none⟩) (ns.length+1) cap) (ns.length+1) (vals++[y])) (hu:Upd nv.ownBlock.toList w w1) (hk:nv.ownBlock=some g∨w.heap.size≤g) :
 MkO T w0 ab cv (.slice (some ⟨g,0,none⟩) (ns.length+1) cap) av cs (ns++[row]) bs (F++y.ownBlock.toList) (w1.setCell ⟨ab,1,none⟩ (.slice (some ⟨g,0,none⟩) (ns.length+1) cap)):=by
 have htb:=h.tb.push h1 h2 h.u.size (c:=row) (y:=y) hy (fun b hb=>⟨(hyn b hb).2.2.1,(hyn b hb).2.2.2.2⟩) o hu hk
 have us:Upd [ab] w1 (w1.setCell ⟨ab,1,none⟩ (.slice (some ⟨g,0,none⟩) (ns.length+1) cap)):=(Upd.refl [ab] w1).set (p:=⟨ab,1,none⟩) (by simp) _
 have hab:=h.bx.lt
 have hgab:g≠ab:=fun e=>by
  rcases hk with h3|h3
  ·exact h.nn.2.1 (e ▸ h3)
  ·omega
 have hbx:Blk w1 ab [cv,nv,av] T:=h.bx.upd hu (fun hm=>h.nn.2.1 (by simpa using hm))
 have hnF:∀ b,b ∉ F→y.ownBlock≠some b→b ∉ F++y.ownBlock.toList:=fun b h3 h4 hm=>by
  rcases List.mem_append.1 hm with h5|h5
  ·exact h3 h5
  ·exact h4 (by simpa using h5)
 refine ⟨hbx.set 1 _,(h.cu.upd hu (fun b hb hv=>(h.cn _ hv).2.2.1 (by simpa using hb))).upd us (fun b hb hv=>?_),fun q hq=>?_,htb.upd us (fun b hb=>?_),ownsRow_updL (ownsRow_updL h.ac hu (fun b hb hv=>(h.an _ hv).2.2.2 (by simpa using hb))) us (fun b hb hv=>?_),fun q hq=>?_,⟨?_,?_,h.nn.2.2⟩,?_,fun b hb=>?_,fun q hq=>?_⟩
 ·simp at hb;subst hb;exact (h.cn _ hv).2.1 rfl
 ·obtain ⟨a1,a2,a3,a4⟩:=h.cn q hq
  refine ⟨a1,a2,fun he=>?_,a4⟩
  simp [Value.ownBlock] at he;subst he
  rcases hk with h3|h3
  ·exact a3 h3
  ·have:=h.cl _ hq;omega
 ·simp at hb;subst hb
  exact ⟨hnF _ h.nn.1 (fun e=>(hyn _ e).2.1 rfl),fun hv=>hgab (by simpa [Value.ownBlock] using hv)⟩
 ·simp at hb;subst hb;exact (h.an _ hv).2.1 rfl
 ·obtain ⟨a1,a2,a3,a4⟩:=h.an q hq
  have hql:=(h.ac.lt q hq).2
  refine ⟨a1,a2,hnF _ a3 (fun e=>(hyn _ e).2.2.2.1 hq),fun he=>?_⟩
  simp [Value.ownBlock] at he;subst he
  rcases hk with h3|h3
  ·exact a4 h3
  ·omega
 ·exact hnF _ h.nn.1 (fun e=>(hyn _ e).2.1 rfl)
 ·exact fun hv=>hgab (by simpa [Value.ownBlock] using hv)
 ·exact (h.u.fresh hu (fun b hb=>.inr (h1.fresh _ (by simpa using hb)))).fresh us (fun b hb=>.inr (by simp at hb;subst hb;exact h.nn.2.2))
 ·rcases List.mem_append.1 hb with h3|h3
  ·exact h.fn _ h3
  ·exact (hyn b (by simpa using h3)).1
 ·have:=h.cl q hq;have:=hu.size;have:=us.size;omega
theorem MkO.flag {x:Bool} (h:MkO T w0 ab cv nv av cs ns bs F w)
 (o:w1.ownsRow 0 4 1 (.slice (some ⟨g,0,none⟩) (bs.length+1) cap) (bs.length+1) (bools bs++[.bool x])) (hu:Upd av.ownBlock.toList w w1) (hk:av.ownBlock=some g∨w.heap.size≤g) :
 MkO T w0 ab cv nv (.slice (some ⟨g,0,none⟩) (bs.length+1) cap) cs ns (bs++[x]) F (w1.setCell ⟨ab,2,none⟩ (.slice (some ⟨g,0,none⟩) (bs.length+1) cap)):=by
 have us:Upd [ab] w1 (w1.setCell ⟨ab,2,none⟩ (.slice (some ⟨g,0,none⟩) (bs.length+1) cap)):=(Upd.refl [ab] w1).set (p:=⟨ab,2,none⟩) (by simp) _
 have hab:=h.bx.lt
 have hgab:g≠ab:=fun e=>by
  rcases hk with h3|h3
  ·exact (h.an _ h3).2.1 e
  ·omega
 have hbx:Blk w1 ab [cv,nv,av] T:=h.bx.upd hu (fun hm=>(h.an ab (by simpa using hm)).2.1 rfl)
 have hz:=h.u.size
 refine ⟨hbx.set 2 _,(h.cu.upd hu (fun b hb hv=>(h.cn _ hv).2.2.2 (by simpa using hb))).upd us (fun b hb hv=>?_),fun q hq=>?_,(h.tb.upd hu (fun b hb=>?_)).upd us (fun b hb=>?_),ownsRow_updL (by rw [show (bs++[x]).length=bs.length+1 by simp,show bools (bs++[x])=bools bs++[.bool x] by simp [bools]];exact o) us (fun b hb hv=>?_),fun q hq=>?_,h.nn,?_,h.fn,fun q hq=>?_⟩
 ·simp at hb;subst hb;exact (h.cn _ hv).2.1 rfl
 ·obtain ⟨a1,a2,a3,a4⟩:=h.cn q hq
  refine ⟨a1,a2,a3,fun he=>?_⟩
  simp [Value.ownBlock] at he;subst he
  rcases hk with h3|h3
  ·exact a4 h3
  ·have:=h.cl _ hq;omega
 ·have:=h.an b (by simpa using hb)
  exact ⟨this.2.2.1,this.2.2.2⟩
 ·simp at hb;subst hb;exact ⟨h.nn.1,h.nn.2.1⟩
 ·simp at hb;subst hb;simp [Value.ownBlock] at hv;exact hgab hv
 ·simp only [Value.ownBlock,Option.some.injEq] at hq
  subst hq
  rcases hk with h3|h3
  ·exact h.an _ h3
  ·refine ⟨by omega,hgab,fun hf=>?_,fun hv=>?_⟩
   ·have:=h.tb.lt _ hf;omega
   ·have:=(h.nv_new _ hv).2;omega
 ·exact (h.u.fresh hu (fun b hb=>.inr (h.an b (by simpa using hb)).1)).fresh us (fun b hb=>.inr (by simp at hb;subst hb;exact h.nn.2.2))
 ·have:=h.cl q hq;have:=hu.size;have:=us.size;omega
theorem MkO.other {U:List Nat} (h:MkO T w0 ab cv nv av cs ns bs F w) (hu:Upd U w w') (hU:∀ b∈U,w0.heap.size≤b∧b≠ab∧cv.ownBlock≠some b∧nv.ownBlock≠some b∧av.ownBlock≠some b∧b ∉ F):MkO T w0 ab cv nv av cs ns bs F w':=
 ⟨h.bx.upd hu (fun hm=>(hU _ hm).2.1 rfl),h.cu.upd hu (fun b hb=>(hU b hb).2.2.1),h.cn,h.tb.upd hu (fun b hb=>⟨(hU b hb).2.2.2.2.2,(hU b hb).2.2.2.1⟩),ownsRow_updL h.ac hu (fun b hb=>(hU b hb).2.2.2.2.1),h.an,h.nn,h.u.fresh hu (fun b hb=>.inr (hU b hb).1),h.fn,fun q hq=>Nat.lt_of_lt_of_le (h.cl q hq) hu.size⟩
end
structure BoS (w0:World) (ab:Nat) (cv nv av lv nx:Value) (cs:List Int) (ns:List (List Int)) (bs:List Bool) (F:List Nat) (S:List (Nat × Nat)) (row:List Int) (w:World):Prop where
 m:MkO 39 w0 ab cv nv av cs ns bs F w
 l:w.ownsRow 0 129 2 lv S.length (pcs S)
 lF:∀ q,lv.ownBlock=some q→w0.heap.size≤q∧q ∉ F∧cv.ownBlock≠some q
 rw:w.ownsRow 0 3 1 nx row.length (ints row)
 nF:∀ q,nx.ownBlock=some q→w0.heap.size≤q∧q≠ab∧nv.ownBlock≠some q∧av.ownBlock≠some q∧q ∉ F∧cv.ownBlock≠some q
section
variable {w0 w w' w1:World} {ab g cap:Nat} {cv nv av lv nx y:Value} {cs row:List Int} {ns:List (List Int)} {bs:List Bool} {F U:List Nat} {S:List (Nat × Nat)} {p:Nat × Nat}
theorem BoS.quiet (h:BoS w0 ab cv nv av lv nx cs ns bs F S row w) (hu:Upd [] w w'):BoS w0 ab cv nv av lv nx cs ns bs F S row w':=
 ⟨h.m.quiet hu,ownsRow_updL h.l hu (by simp),h.lF,ownsRow_updL h.rw hu (by simp),h.nF⟩
theorem BoS.lap (h:BoS w0 ab cv nv av lv nx cs ns bs F S row w):∀ q,lv.ownBlock=some q→q≠ab∧nv.ownBlock≠some q∧av.ownBlock≠some q∧nx.ownBlock≠some q:=fun q hq=>by
 obtain ⟨vals,h1,_⟩:=h.m.tb.ex
 exact ⟨own_bne h.l h.m.bx (by decide) hq,own_ne h.l h1.row (by decide) hq,own_ne h.l h.m.ac (by decide) hq,own_ne h.l h.rw (by decide) hq⟩
theorem BoS.pushP (h:BoS w0 ab cv nv av lv nx cs ns bs F S row w) (o:w'.ownsRow 0 129 2 (.slice (some ⟨g,0,none⟩) (S.length+1) cap) (S.length+1) (pcs S++[.int .i64 p.1,.int .i64 p.2])) (hu:Upd lv.ownBlock.toList w w') (hk:lv.ownBlock=some g∨w.heap.size≤g) :
 BoS w0 ab cv nv av (.slice (some ⟨g,0,none⟩) (S.length+1) cap) nx cs ns bs F (S++[p]) row w':=by
 have hb:∀ b∈lv.ownBlock.toList,w0.heap.size≤b∧b≠ab∧cv.ownBlock≠some b∧nv.ownBlock≠some b∧av.ownBlock≠some b∧b ∉ F:=fun b hb=>by
  have hq:lv.ownBlock=some b:=by simpa using hb
  obtain ⟨a1,a2,a3⟩:=h.lF b hq
  obtain ⟨b1,b2,b3,_⟩:=h.lap b hq
  exact ⟨a1,b1,a3,b2,b3,a2⟩
 refine ⟨h.m.other hu hb,by rw [show (S++[p]).length=S.length+1 by simp,pcs_snoc];exact o,fun q hq=>?_,ownsRow_updL h.rw hu (fun b hb2 hn=>?_),h.nF⟩
 ·simp only [Value.ownBlock,Option.some.injEq] at hq
  subst hq
  rcases hk with hk|hk
  ·exact h.lF _ hk
  ·have hz:=h.m.u.size
   refine ⟨by omega,fun hf=>?_,fun hc=>?_⟩
   ·have:=h.m.tb.lt _ hf;omega
   ·have:=h.m.cl _ hc;omega
 ·exact (h.lap b (by simpa using hb2)).2.2.2 hn
theorem BoS.pushN {n:Int} (h:BoS w0 ab cv nv av lv nx cs ns bs F S row w) (o:w'.ownsRow 0 3 1 (.slice (some ⟨g,0,none⟩) (row.length+1) cap) (row.length+1) (ints row++[.int .i64 n])) (hu:Upd nx.ownBlock.toList w w') (hk:nx.ownBlock=some g∨w.heap.size≤g) :
 BoS w0 ab cv nv av lv (.slice (some ⟨g,0,none⟩) (row.length+1) cap) cs ns bs F S (row++[n]) w':=by
 have hb:∀ b∈nx.ownBlock.toList,w0.heap.size≤b∧b≠ab∧cv.ownBlock≠some b∧nv.ownBlock≠some b∧av.ownBlock≠some b∧b ∉ F:=fun b hb=>by
  obtain ⟨a1,a2,a3,a4,a5,a6⟩:=h.nF b (by simpa using hb)
  exact ⟨a1,a2,a6,a3,a4,a5⟩
 refine ⟨h.m.other hu hb,ownsRow_updL h.l hu (fun b hb2 hv=>(h.lap b hv).2.2.2 (by simpa using hb2)),h.lF,by rw [show (row++[n]).length=row.length+1 by simp,show ints (row++[n])=ints row++[.int .i64 n] by simp [ints]];exact o,fun q hq=>?_⟩
 simp only [Value.ownBlock,Option.some.injEq] at hq
 subst hq
 rcases hk with hk|hk
 ·exact h.nF _ hk
 ·have hz:=h.m.u.size
  refine ⟨by omega,?_,fun e=>?_,fun e=>?_,fun e=>?_,fun e=>?_⟩
  ·have:=h.m.bx.lt;omega
  ·have:=(h.m.nv_new _ e).2;omega
  ·have:=(h.m.ac.lt _ e).2;omega
  ·have:=h.m.tb.lt _ e;omega
  ·have:=h.m.cl _ e;omega
theorem BoS.row_ {vals:List Value} (h:BoS w0 ab cv nv av lv nx cs ns bs F S row w) (h1:OwnV w0 22 1 nv ns.length vals w) (h2:∀ (i:Nat) (c:List Int),ns[i]?=some c→∃ y,vals[i]?=some y∧SL w 1 y c.length (ints c)∧∀ b,y.ownBlock=some b→b∈F)
 (o:w1.ownsRow 0 22 1 (.slice (some ⟨g,0,none⟩) (ns.length+1) cap) (ns.length+1) (vals++[nx])) (hu:Upd nv.ownBlock.toList w w1) (hk:nv.ownBlock=some g∨w.heap.size≤g) :
 BoS w0 ab cv (.slice (some ⟨g,0,none⟩) (ns.length+1) cap) av lv (.slice none 0 0) cs (ns++[row]) bs (F++nx.ownBlock.toList) S [] (w1.setCell ⟨ab,1,none⟩ (.slice (some ⟨g,0,none⟩) (ns.length+1) cap)):=by
 have us:Upd [ab] w1 (w1.setCell ⟨ab,1,none⟩ (.slice (some ⟨g,0,none⟩) (ns.length+1) cap)):=(Upd.refl [ab] w1).set (p:=⟨ab,1,none⟩) (by simp) _
 have hM:=h.m.row h1 h2 (SL.of_owns h.rw) (fun b hb=>by
  obtain ⟨a1,a2,a3,a4,a5,a6⟩:=h.nF b hb
  exact ⟨a1,a2,a3,a4,(h.rw.lt _ hb).2⟩) o hu hk
 refine ⟨hM,ownsRow_updL (ownsRow_updL h.l hu (fun b hb hv=>(h.lap b hv).2.1 (by simpa using hb))) us (fun b hb hv=>?_),fun q hq=>?_,World.ownsRow_nil _ _ _ _,by simp [Value.ownBlock]⟩
 ·simp at hb;subst hb;exact (h.lap _ hv).1 rfl
 ·obtain ⟨a1,a2,a3⟩:=h.lF q hq
  refine ⟨a1,fun hm=>?_,a3⟩
  rcases List.mem_append.1 hm with hm|hm
  ·exact a2 hm
  ·exact (h.lap q hq).2.2.2 (by simpa using hm)
theorem BoS.flag_ {x:Bool} (h:BoS w0 ab cv nv av lv nx cs ns bs F S row w)
 (o:w1.ownsRow 0 4 1 (.slice (some ⟨g,0,none⟩) (bs.length+1) cap) (bs.length+1) (bools bs++[.bool x])) (hu:Upd av.ownBlock.toList w w1) (hk:av.ownBlock=some g∨w.heap.size≤g) :
 BoS w0 ab cv nv (.slice (some ⟨g,0,none⟩) (bs.length+1) cap) lv nx cs ns (bs++[x]) F S row (w1.setCell ⟨ab,2,none⟩ (.slice (some ⟨g,0,none⟩) (bs.length+1) cap)):=by
 have us:Upd [ab] w1 (w1.setCell ⟨ab,2,none⟩ (.slice (some ⟨g,0,none⟩) (bs.length+1) cap)):=(Upd.refl [ab] w1).set (p:=⟨ab,2,none⟩) (by simp) _
 have hM:=h.m.flag o hu hk
 refine ⟨hM,ownsRow_updL (ownsRow_updL h.l hu (fun b hb hv=>(h.lap b hv).2.2.1 (by simpa using hb))) us (fun b hb hv=>?_),h.lF,ownsRow_updL (ownsRow_updL h.rw hu (fun b hb hv=>?_)) us (fun b hb hv=>?_),fun q hq=>?_⟩
 ·simp at hb;subst hb;exact (h.lap _ hv).1 rfl
 ·exact (h.nF _ hv).2.2.2.1 (by simpa using hb)
 ·simp at hb;subst hb;exact (h.nF _ hv).2.1 rfl
 ·obtain ⟨a1,a2,a3,a4,a5,a6⟩:=h.nF q hq
  refine ⟨a1,a2,a3,fun e=>?_,a5,a6⟩
  simp [Value.ownBlock] at e
  subst e
  rcases hk with hk|hk
  ·exact a4 hk
  ·have:=(h.rw.lt _ hq).2;omega
end
end Aut
end Go.Proofs.YtjclbjdkkdijbaaGreat
end
section
open Go.RowKit
namespace Go.Proofs.YtjclbjdkkdijbaaGreat
open L
namespace Aut
open Auto R01
attribute [-go_sem] sliced
structure MiS (w0:World) (ab:Nat) (cv nv av lv nx:Value) (cs:List Int) (ns:List (List Int)) (bs:List Bool) (F:List Nat) (S:List Nat) (row:List Int) (w:World):Prop where
 m:MkO 39 w0 ab cv nv av cs ns bs F w
 l:w.ownsRow 0 3 1 lv S.length (ints (S.map Int.ofNat))
 lF:∀ q,lv.ownBlock=some q→w0.heap.size≤q∧q ∉ F∧cv.ownBlock≠some q∧nx.ownBlock≠some q
 rw:w.ownsRow 0 3 1 nx row.length (ints row)
 nF:∀ q,nx.ownBlock=some q→w0.heap.size≤q∧q≠ab∧nv.ownBlock≠some q∧av.ownBlock≠some q∧q ∉ F∧cv.ownBlock≠some q
section
variable {w0 w w' w1:World} {ab g cap:Nat} {cv nv av lv nx y:Value} {cs row:List Int} {ns:List (List Int)} {bs:List Bool} {F U:List Nat} {S:List Nat} {p:Nat}
theorem MiS.quiet (h:MiS w0 ab cv nv av lv nx cs ns bs F S row w) (hu:Upd [] w w'):MiS w0 ab cv nv av lv nx cs ns bs F S row w':=
 ⟨h.m.quiet hu,ownsRow_updL h.l hu (by simp),h.lF,ownsRow_updL h.rw hu (by simp),h.nF⟩
theorem MiS.lap (h:MiS w0 ab cv nv av lv nx cs ns bs F S row w):∀ q,lv.ownBlock=some q→q≠ab∧nv.ownBlock≠some q∧av.ownBlock≠some q∧nx.ownBlock≠some q:=fun q hq=>by
 obtain ⟨vals,h1,_⟩:=h.m.tb.ex
 exact ⟨own_bne h.l h.m.bx (by decide) hq,own_ne h.l h1.row (by decide) hq,own_ne h.l h.m.ac (by decide) hq,(h.lF q hq).2.2.2⟩
theorem MiS.pushP (h:MiS w0 ab cv nv av lv nx cs ns bs F S row w) (o:w'.ownsRow 0 3 1 (.slice (some ⟨g,0,none⟩) (S.length+1) cap) (S.length+1) (ints (S.map Int.ofNat)++[.int .i64 (p:Nat)])) (hu:Upd lv.ownBlock.toList w w') (hk:lv.ownBlock=some g∨w.heap.size≤g) :
 MiS w0 ab cv nv av (.slice (some ⟨g,0,none⟩) (S.length+1) cap) nx cs ns bs F (S++[p]) row w':=by
 have hb:∀ b∈lv.ownBlock.toList,w0.heap.size≤b∧b≠ab∧cv.ownBlock≠some b∧nv.ownBlock≠some b∧av.ownBlock≠some b∧b ∉ F:=fun b hb=>by
  have hq:lv.ownBlock=some b:=by simpa using hb
  obtain ⟨a1,a2,a3,_⟩:=h.lF b hq
  obtain ⟨b1,b2,b3,_⟩:=h.lap b hq
  exact ⟨a1,b1,a3,b2,b3,a2⟩
 refine ⟨h.m.other hu hb,by rw [show (S++[p]).length=S.length+1 by simp,show ints ((S++[p]).map Int.ofNat)=ints (S.map Int.ofNat)++[.int .i64 (p:Nat)] by simp [ints]];exact o,fun q hq=>?_,ownsRow_updL h.rw hu (fun b hb2 hn=>?_),h.nF⟩
 ·simp only [Value.ownBlock,Option.some.injEq] at hq
  subst hq
  rcases hk with hk|hk
  ·exact h.lF _ hk
  ·have hz:=h.m.u.size
   refine ⟨by omega,fun hf=>?_,fun hc=>?_,fun hn=>?_⟩
   ·have:=h.m.tb.lt _ hf;omega
   ·have:=h.m.cl _ hc;omega
   ·have:=(h.rw.lt _ hn).2;omega
 ·exact (h.lap b (by simpa using hb2)).2.2.2 hn
theorem MiS.pushN {n:Int} (h:MiS w0 ab cv nv av lv nx cs ns bs F S row w) (o:w'.ownsRow 0 3 1 (.slice (some ⟨g,0,none⟩) (row.length+1) cap) (row.length+1) (ints row++[.int .i64 n])) (hu:Upd nx.ownBlock.toList w w') (hk:nx.ownBlock=some g∨w.heap.size≤g) :
 MiS w0 ab cv nv av lv (.slice (some ⟨g,0,none⟩) (row.length+1) cap) cs ns bs F S (row++[n]) w':=by
 have hb:∀ b∈nx.ownBlock.toList,w0.heap.size≤b∧b≠ab∧cv.ownBlock≠some b∧nv.ownBlock≠some b∧av.ownBlock≠some b∧b ∉ F:=fun b hb=>by
  obtain ⟨a1,a2,a3,a4,a5,a6⟩:=h.nF b (by simpa using hb)
  exact ⟨a1,a2,a6,a3,a4,a5⟩
 refine ⟨h.m.other hu hb,ownsRow_updL h.l hu (fun b hb2 hv=>(h.lap b hv).2.2.2 (by simpa using hb2)),(fun q hq=>⟨(h.lF q hq).1,(h.lF q hq).2.1,(h.lF q hq).2.2.1,fun e=>by
  simp only [Value.ownBlock,Option.some.injEq] at e
  subst e
  rcases hk with hk|hk
  ·exact (h.lF _ hq).2.2.2 hk
  ·have:=(h.l.lt _ hq).2;omega⟩),by rw [show (row++[n]).length=row.length+1 by simp,show ints (row++[n])=ints row++[.int .i64 n] by simp [ints]];exact o,fun q hq=>?_⟩
 simp only [Value.ownBlock,Option.some.injEq] at hq
 subst hq
 rcases hk with hk|hk
 ·exact h.nF _ hk
 ·have hz:=h.m.u.size
  refine ⟨by omega,?_,fun e=>?_,fun e=>?_,fun e=>?_,fun e=>?_⟩
  ·have:=h.m.bx.lt;omega
  ·have:=(h.m.nv_new _ e).2;omega
  ·have:=(h.m.ac.lt _ e).2;omega
  ·have:=h.m.tb.lt _ e;omega
  ·have:=h.m.cl _ e;omega
theorem MiS.row_ {vals:List Value} (h:MiS w0 ab cv nv av lv nx cs ns bs F S row w) (h1:OwnV w0 22 1 nv ns.length vals w) (h2:∀ (i:Nat) (c:List Int),ns[i]?=some c→∃ y,vals[i]?=some y∧SL w 1 y c.length (ints c)∧∀ b,y.ownBlock=some b→b∈F)
 (o:w1.ownsRow 0 22 1 (.slice (some ⟨g,0,none⟩) (ns.length+1) cap) (ns.length+1) (vals++[nx])) (hu:Upd nv.ownBlock.toList w w1) (hk:nv.ownBlock=some g∨w.heap.size≤g) :
 MiS w0 ab cv (.slice (some ⟨g,0,none⟩) (ns.length+1) cap) av lv (.slice none 0 0) cs (ns++[row]) bs (F++nx.ownBlock.toList) S [] (w1.setCell ⟨ab,1,none⟩ (.slice (some ⟨g,0,none⟩) (ns.length+1) cap)):=by
 have us:Upd [ab] w1 (w1.setCell ⟨ab,1,none⟩ (.slice (some ⟨g,0,none⟩) (ns.length+1) cap)):=(Upd.refl [ab] w1).set (p:=⟨ab,1,none⟩) (by simp) _
 have hM:=h.m.row h1 h2 (SL.of_owns h.rw) (fun b hb=>by
  obtain ⟨a1,a2,a3,a4,a5,a6⟩:=h.nF b hb
  exact ⟨a1,a2,a3,a4,(h.rw.lt _ hb).2⟩) o hu hk
 refine ⟨hM,ownsRow_updL (ownsRow_updL h.l hu (fun b hb hv=>(h.lap b hv).2.1 (by simpa using hb))) us (fun b hb hv=>?_),fun q hq=>?_,World.ownsRow_nil _ _ _ _,by simp [Value.ownBlock]⟩
 ·simp at hb;subst hb;exact (h.lap _ hv).1 rfl
 ·obtain ⟨a1,a2,a3,_⟩:=h.lF q hq
  refine ⟨a1,fun hm=>?_,a3,by simp [Value.ownBlock]⟩
  rcases List.mem_append.1 hm with hm|hm
  ·exact a2 hm
  ·exact (h.lap q hq).2.2.2 (by simpa using hm)
theorem MiS.flag_ {x:Bool} (h:MiS w0 ab cv nv av lv nx cs ns bs F S row w)
 (o:w1.ownsRow 0 4 1 (.slice (some ⟨g,0,none⟩) (bs.length+1) cap) (bs.length+1) (bools bs++[.bool x])) (hu:Upd av.ownBlock.toList w w1) (hk:av.ownBlock=some g∨w.heap.size≤g) :
 MiS w0 ab cv nv (.slice (some ⟨g,0,none⟩) (bs.length+1) cap) lv nx cs ns (bs++[x]) F S row (w1.setCell ⟨ab,2,none⟩ (.slice (some ⟨g,0,none⟩) (bs.length+1) cap)):=by
 have us:Upd [ab] w1 (w1.setCell ⟨ab,2,none⟩ (.slice (some ⟨g,0,none⟩) (bs.length+1) cap)):=(Upd.refl [ab] w1).set (p:=⟨ab,2,none⟩) (by simp) _
 have hM:=h.m.flag o hu hk
 refine ⟨hM,ownsRow_updL (ownsRow_updL h.l hu (fun b hb hv=>(h.lap b hv).2.2.1 (by simpa using hb))) us (fun b hb hv=>?_),h.lF,ownsRow_updL (ownsRow_updL h.rw hu (fun b hb hv=>?_)) us (fun b hb hv=>?_),fun q hq=>?_⟩
 ·simp at hb;subst hb;exact (h.lap _ hv).1 rfl
 ·exact (h.nF _ hv).2.2.2.1 (by simpa using hb)
 ·simp at hb;subst hb;exact (h.nF _ hv).2.1 rfl
 ·obtain ⟨a1,a2,a3,a4,a5,a6⟩:=h.nF q hq
  refine ⟨a1,a2,a3,fun e=>?_,a5,a6⟩
  simp [Value.ownBlock] at e
  subst e
  rcases hk with hk|hk
  ·exact a4 hk
  ·have:=(h.rw.lt _ hq).2;omega
end
end Aut
end Go.Proofs.YtjclbjdkkdijbaaGreat
end
section
open Go.RowKit
namespace Go.Proofs.YtjclbjdkkdijbaaGreat
open L
namespace Aut
open Auto R01
attribute [-go_sem] sliced
theorem placeN_step {S:List Nat} {p q n:Nat} (h:n≤place S p) (hn:S[n]?=some q) (hne:q≠p):n+1≤place S p:=by
 rcases Nat.lt_or_ge n (place S p) with h1|h1
 ·omega
 ·have e:n=place S p:=by omega
  have hl:=(List.getElem?_eq_some_iff.1 hn).1
  have h2:=place_get (x:=p) (l:=S) (by omega)
  have h3:=(List.getElem?_eq_some_iff.1 hn).2
  subst e
  exact absurd (h3.symm.trans h2) hne
theorem placeN_found {S:List Nat} {p n:Nat} (h:n≤place S p) (hn:S[n]?=some p):n=place S p:=by
 rcases Nat.lt_or_ge n (place S p) with h1|h1
 ·have h2:=List.not_of_lt_findIdx (p:=fun y=>decide (y=p)) (xs:=S) (i:=n) h1
  have h3:=(List.getElem?_eq_some_iff.1 hn).2
  exact absurd h3 (by simpa using h2)
 ·omega
theorem repL_at {a:Au} {s:Nat} (h:s<a.next.length):(repL a).getD s 0=rep a s:=by
 unfold repL
 rw [List.getD_eq_getElem?_getD,List.getElem?_map,List.getElem?_range h]
 rfl
theorem repL_len (a:Au):(repL a).length=a.next.length:=by simp [repL]
section
variable {w w':World}
theorem SL_off {v:Value} {n b:Nat} {cs:List Value} {T:TypeId} {u:Value} (h:SL w 1 v n cs) (hn:0<n) (hu:cs[0]?=some u) (hne:u≠.slice none 0 0) (hB:Blk w b [.slice none 0 0,.slice none 0 0,.slice none 0 0] T):v.ownBlock≠some b:=by
 obtain ⟨a,cap,rfl,_,_,hc⟩:=h.elems
 obtain ⟨g,off,rfl,hc2⟩:=hc hn
 intro he
 simp only [Value.ownBlock,Option.some.injEq] at he
 subst he
 have h0:=hc2 0 u hu
 rw [cell_of_row w g (off+0) _ _ _ hB] at h0
 match off,h0 with
 | 0,h0=>simp at h0;exact hne h0.symm
 | 1,h0=>simp at h0;exact hne h0.symm
 | 2,h0=>simp at h0;exact hne h0.symm
 | (m+3),h0=>simp at h0
theorem AuF_keep {a:Au} {cs:List Value} {b:Nat} {T:TypeId} (h:AuF w a cs) (hok:Ok a) (hB:Blk w b [.slice none 0 0,.slice none 0 0,.slice none 0 0] T) (hu:Upd [b] w w'):AuF w' a cs:=by
 obtain ⟨cv,nv,av,rfl,h1,h2,h3⟩:=h
 have hcl:=List.length_pos_of_mem hok.mem0
 have hal:0<a.acc.length:=by have h1:=hok.acc;have h2:=hok.some_;omega
 have k1:=SL_off h1 hcl (ints_get (gd_some (d:=0) hcl)) (by simp) hB
 have k3:=SL_off h3 hal (bools_get (gd_some (d:=false) hal)) (by simp) hB
 refine ⟨cv,nv,av,rfl,h1.upd hu (fun c hc=>by simp at hc;subst hc;exact k1),?_,h3.upd hu (fun c hc=>by simp at hc;subst hc;exact k3)⟩
 obtain ⟨vals,q1,q2,q3⟩:=h2.ex
 have row:∀ (i:Nat) (c:List Int),a.next[i]?=some c→∃ v,vals[i]?=some v∧SL w 1 v c.length (ints c)∧v≠.slice none 0 0∧v.ownBlock≠some b:=fun i c hc=>by
  obtain ⟨v,hv,hs⟩:=q3 i c hc
  have hl:=(hok.rows c (List.mem_of_getElem? hc)).1
  have hp:0<c.length:=by omega
  refine ⟨v,hv,hs,fun he=>?_,SL_off hs hp (ints_get (gd_some (d:=0) hp)) (by simp) hB⟩
  subst he
  obtain ⟨a',cap,he2,_⟩:=hs.elems
  simp only [Value.slice.injEq] at he2
  omega
 have h0:=hok.some_
 obtain ⟨v0,e0,_,e2,_⟩:=row 0 _ (List.getElem?_eq_getElem h0)
 have k2:=SL_off q2 h0 e0 e2 hB
 refine ⟨vals,q1,q2.upd hu (fun c hc=>by simp at hc;subst hc;exact k2),fun i c hc=>?_⟩
 obtain ⟨v,hv,hs,_,hb⟩:=row i c hc
 exact ⟨v,hv,hs.upd hu (fun d hd=>by simp at hd;subst hd;exact hb)⟩
end
section
variable {w w':World} {v v2:Value}
set_option maxRecDepth 100000 in
set_option maxHeartbeats 16000000 in
theorem MinR_calls {a:Au} (h:AuV w a v) (hok:Ok a):Calls Tryz.prog 35 #[v] w fun e w'=>∃ v',e=.returned v'∧AuV w' (minA a) v'∧Upd [] w w':=by
 obtain ⟨a1,c1,a2,c2,a3,c3,rfl,hF⟩:=h.shape
 have HOK:=Lib.hid hok
 have hfew:((a.next.length:Nat):Int)≤256:=by have:=hok.few;omega
 have hcu:a.cuts.length≤256:=cuts_len hok
 clear h hok
 go_enter Tryz.func35,Tryz.ntmps35
 go_upto_region 1 with fail
 have bA:=(Blk.new w [.slice a1 a.cuts.length c1,.slice a2 a.next.length c2,.slice a3 a.acc.length c3] 39).alloc (.cells #[.slice none 0 0,.slice none 0 0,.slice none 0 0] 39)
 have bR:=Blk.new (w.alloc (.cells #[.slice a1 a.cuts.length c1,.slice a2 a.next.length c2,.slice a3 a.acc.length c3] 39)) [.slice none 0 0,.slice none 0 0,.slice none 0 0] 39
 have uA:=((Upd.refl [] w).alloc (.cells #[.slice a1 a.cuts.length c1,.slice a2 a.next.length c2,.slice a3 a.acc.length c3] 39)).alloc (.cells #[.slice none 0 0,.slice none 0 0,.slice none 0 0] 39)
 have z1:(w.alloc (.cells #[.slice a1 a.cuts.length c1,.slice a2 a.next.length c2,.slice a3 a.acc.length c3] 39)).heap.size=w.heap.size+1:=by simp
 rw [z1] at bR
 change Blk ((w.alloc (.cells #[.slice a1 a.cuts.length c1,.slice a2 a.next.length c2,.slice a3 a.acc.length c3] 39)).alloc (.cells #[.slice none 0 0,.slice none 0 0,.slice none 0 0] 39)) _ _ _ at bA
 change Blk ((w.alloc (.cells #[.slice a1 a.cuts.length c1,.slice a2 a.next.length c2,.slice a3 a.acc.length c3] 39)).alloc (.cells #[.slice none 0 0,.slice none 0 0,.slice none 0 0] 39)) _ _ _ at bR
 change Code.wp _ _ _ _ ((w.alloc (.cells #[.slice a1 a.cuts.length c1,.slice a2 a.next.length c2,.slice a3 a.acc.length c3] 39)).alloc (.cells #[.slice none 0 0,.slice none 0 0,.slice none 0 0] 39))
 generalize ((w.alloc (.cells #[.slice a1 a.cuts.length c1,.slice a2 a.next.length c2,.slice a3 a.acc.length c3] 39)).alloc (.cells #[.slice none 0 0,.slice none 0 0,.slice none 0 0] 39))=w1 at *
 have HF:=Lib.hid (hF.ext uA)
 have HC0:=Lib.hid (show ∀ q,(Value.slice a1 a.cuts.length c1).ownBlock=some q→q<w.heap.size from fun q hq=>by
  obtain ⟨_,_,_,he,h3,_,_⟩:=hF
  cases he
  exact sl_lt h3 (List.length_pos_of_mem HOK.out.mem0) hq)
 have HW:=Lib.hid (And.intro bR uA)
 have k0:=bA.cell (i:=0) rfl
 have k1:=bA.cell (i:=1) rfl
 have k2:=bA.cell (i:=2) rfl
 have HK:=Lib.hid (And.intro k0 (And.intro k1 k2))
 clear bA uA hF z1
 generalize hpa:w.heap.size=pa at *
 have HPA:=Lib.hid (Nat.le_of_eq hpa)
 have HPB:=Lib.hid (show pa+1<w1.heap.size from bR.lt)
 clear hpa bR
 have HBC:=Lib.hid (blocksR_calls (w:=w1) (a:=a) (v:=.agg #[.slice a1 a.cuts.length c1,.slice a2 a.next.length c2,.slice a3 a.acc.length c3]) ⟨_,rfl,HF.out⟩ HOK.out)
 go_upto_region 2 with ((with_reducible refine HBC.out.mono ?_);rintro e w2 ⟨v2,rfl,o2⟩;obtain ⟨oa,oc,rfl,_⟩:=id o2.form)
 have HU2:=Lib.hid o2.fresh
 have HO2:=Lib.hid (show SL w2 1 (.slice oa a.next.length oc) (repL a).length (ints ((repL a).map Int.ofNat)) from by rw [repL_len];exact o2.sl)
 clear o2 k0 k1 k2 HBC
 have hn0:(0:Int)<a.next.length:=by have:=HOK.out.some_;omega
 obtain ⟨go,oo,hge,ho0⟩:=nat_cell HO2.out (s:=0) (by rw [repL_len];exact HOK.out.some_)
 cases hge
 rw [repL_at HOK.out.some_,Nat.add_zero] at ho0
 have HOC:=Lib.hid (show ∀ s,s<a.next.length→w2.cell? ⟨go,oo+s,none⟩=some (.int .i64 (rep a s:Nat)) from fun s hs=>by
  obtain ⟨g',o',he,hc⟩:=nat_cell HO2.out (s:=s) (by rw [repL_len];exact hs)
  cases he
  rwa [repL_at hs] at hc)
 go_upto_region 3 with fail
 change Code.wp _ _ _ _ (w2.alloc (.cells #[.int .i64 (rep a 0:Nat)] 3))
 have HLB:=Lib.hid (show Blk (w2.alloc (.cells #[.int .i64 (rep a 0:Nat)] 3)) w2.heap.size [.int .i64 (rep a 0:Nat)] 3∧Upd [] w2 (w2.alloc (.cells #[.int .i64 (rep a 0:Nat)] 3)) from ⟨Blk.new w2 _ _,(Upd.refl [] w2).alloc _⟩)
 generalize (w2.alloc (.cells #[.int .i64 (rep a 0:Nat)] 3))=w3 at *
 have HLL:=Lib.hid HLB.out.1.lt
 clear ho0 hn0
 have k0:=(HU2.out.step HLB.out.2).some HK.out.1 (by simp)
 go_upto_region 4 with fail
 change Code.wp _ _ _ _ (w3.alloc (.cells #[.slice a1 a.cuts.length c1,.slice none 0 0,.slice none 0 0] 39))
 have HMS:=Lib.hid (show MiS w2 w3.heap.size (.slice a1 a.cuts.length c1) (.slice none 0 0) (.slice none 0 0) (.slice (some ⟨w2.heap.size,0,none⟩) 1 1) (.slice none 0 0) a.cuts [] [] [] [rep a 0] [] (w3.alloc (.cells #[.slice a1 a.cuts.length c1,.slice none 0 0,.slice none 0 0] 39)) from by
  have ua:=(Upd.refl [] w3).alloc (.cells #[.slice a1 a.cuts.length c1,.slice none 0 0,.slice none 0 0] 39)
  have hz2:=HU2.out.size
  have hz3:=HLB.out.2.size
  have hz1:=HPB.out
  have hza:=HPA.out
  have hs:SL w3 1 (.slice a1 a.cuts.length c1) a.cuts.length (ints a.cuts):=by
   obtain ⟨_,_,_,he,h3,_,_⟩:=HF.out
   cases he
   exact (h3.upd (HU2.out.step HLB.out.2) (by simp))
  refine ⟨⟨Blk.new w3 _ _,hs.upd ua (by simp),fun q hq=>⟨trivial,by have:=HC0.out q hq;omega,by simp [Value.ownBlock],by simp [Value.ownBlock]⟩,OwnL.nil _ _ _,World.ownsRow_nil _ _ _ _,fun q hq=>by simp [Value.ownBlock] at hq,⟨by simp,by simp [Value.ownBlock],by omega⟩,HLB.out.2.step ua,by simp,fun q hq=>by have:=HC0.out q hq;have:=ua.size;omega⟩,?_,fun q hq=>?_,World.ownsRow_nil _ _ _ _,by simp [Value.ownBlock]⟩
  ·exact owns_blk (HLB.out.1.upd ua (by simp)) rfl (by unfold maxLen;decide)
  ·simp only [Value.ownBlock,Option.some.injEq] at hq
   subst hq
   exact ⟨Nat.le_refl _,by simp,fun e=>by have:=HC0.out _ e;omega,by simp [Value.ownBlock]⟩)
 generalize (w3.alloc (.cells #[.slice a1 a.cuts.length c1,.slice none 0 0,.slice none 0 0] 39))=w4 at *
 generalize w3.heap.size=ab at *
 generalize hlb:w2.heap.size=lb at *
 have HLE:=Lib.hid hlb
 clear k0 hlb
 go_wp2_with fail
 go_loopw [4,6] (fun lx ix wr=>∃ (i:Nat) (S:List Nat) (T:List (List Nat)) (F:List Nat) (nv av lv:Value),lv=lx∧ix=.int .i64 i∧i≤S.length∧S.length≤256∧Hid (repU a i=(S,T)∧(∀ x∈S,x<a.next.length)∧MiS w2 ab (.slice a1 a.cuts.length c1) nv av lv (.slice none 0 0) a.cuts (natRows T) ((S.take i).map fun s=>a.acc.getD s false) F S [] wr∧T.length=i)) (fun _ ix _=>256 - (intOf ix).toNat)
 case atStart=>exact ⟨0,[rep a 0],[],[],_,_,_,rfl,rfl,Nat.zero_le _,by simp,Lib.hid ⟨by rw [repU_def];rfl,fun x hx=>by simp at hx;subst hx;exact rep_lt HOK.out.some_,HMS.out,rfl⟩⟩
 case round=>
  obtain ⟨i,S,T,F,nv,av,lv,rfl,rfl,hi,h256,HI⟩:=hrel
  obtain ⟨la,lc,rfl,_⟩:=(OwW.start HI.out.2.2.1.l).form
  obtain ⟨wo,rfl⟩:∃ wo:World,wo=wr:=⟨_,rfl⟩
  by_cases hlt:i<S.length
  ·have hli:(i:Int)<S.length:=by omega
   have hs0:=List.getElem?_eq_getElem hlt
   have hsn:=HI.out.2.1 _ (List.getElem_mem hlt)
   generalize S[i]=sx at *
   have HS0:=Lib.hid (And.intro hs0 hsn)
   clear hs0 hsn
   go_wp2_with fail
   go_loopw [4,7,8] (fun lx nx7 kx wr=>∃ (k:Nat) (S':List Nat) (row:List Nat) (lv nx:Value),lv=lx∧nx=nx7∧kx=.int .i64 k∧k≤a.cuts.length∧S'.length≤S.length+k∧Hid (scan (nxM a sx) k S=(S',row)∧(∀ x∈S',x<a.next.length)∧MiS w2 ab (.slice a1 a.cuts.length c1) nv av lv nx a.cuts (natRows T) ((S.take i).map fun s=>a.acc.getD s false) F S' (row.map Int.ofNat) wr∧S'[i]?=some sx)) (fun _ _ kx _=>a.cuts.length - (intOf kx).toNat)
   case atStart=>exact ⟨0,S,[],_,_,rfl,rfl,rfl,Nat.zero_le _,by omega,Lib.hid ⟨rfl,HI.out.2.1,HI.out.2.2.1,HS0.out.1⟩⟩
   case round=>
    obtain ⟨k,S',row,lv,nx,rfl,rfl,rfl,hk,hlen,HJ⟩:=hrel
    obtain ⟨la2,lc2,rfl,_,_,hcell⟩:=(OwW.start HJ.out.2.2.1.l).form
    obtain ⟨na,nc,hnx,_⟩:=(SL.of_owns HJ.out.2.2.1.rw).elems
    rw [List.length_map] at hnx
    subst hnx
    have k0:=(HU2.out.step HJ.out.2.2.1.m.u).some HK.out.1 (by simp)
    by_cases hk2:k<a.cuts.length
    ·have hki:(k:Int)<a.cuts.length:=by omega
     have hi':i<S'.length:=(List.getElem?_eq_some_iff.1 HJ.out.2.2.2).1
     have hii:(i:Int)<S'.length:=by omega
     obtain ⟨lg,rfl,hcell2⟩:=hcell (by omega) (by decide)
     have e0:=hcell2 i (.int .i64 (sx:Nat)) (by simp [ints,List.getElem?_map,HJ.out.2.2.2])
     obtain ⟨ga,og,rga,roa,rca,hea,ra1,ra2,_,_⟩:=row_at (HF.out.ext (HU2.out.step HJ.out.2.2.1.m.u)) HOK.out HS0.out.2 hk2
     subst hea
     have hy:=rowA_lt HOK.out HS0.out.2 hk2
     have oy:=HJ.out.2.2.1.m.u.some (HOC.out _ hy) (by simp)
     have HQ:=Lib.hid (show nxM a sx k=rep a (rowA a sx k) from rfl)
     have HPL:=Lib.hid (rep_lt hy)
     have k1:=(HU2.out.step HJ.out.2.2.1.m.u).some HK.out.2.1 (by simp)
     have hsx:(sx:Int)<a.next.length:=by have:=HS0.out.2;omega
     generalize rep a (rowA a sx k)=pb at *
     have hyi:(rowA a sx k:Int)<a.next.length:=by omega
     generalize rowA a sx k=y at *
     have HRL:=Lib.hid (show row.length=k from by have:=scan_len (nxM a sx) k S;rw [HJ.out.1] at this;exact this)
     have hrl:row.length≤512:=by rw [HRL.out];omega
     clear hcell hcell2 hy
     go_upto_region 11 with fail
     refine wp_region_qx (by kernel_rfl) (by kernel_rfl) ?_
     repeat (go_big_quiet_step ((fail)))
     refine wpQuiet_nil ?_
     intro x
     have HJ2:=Lib.hid (HJ.out.2.2.1.quiet x.upd)
     generalize x.val=wc at *
     clear e0 ra1 ra2 oy k1 k0
     go_wp2_with fail
     go_loopw [10] (fun nx wr2=>∃ n:Nat,nx=.int .i64 n∧n≤place S' pb∧∃ x:Ext wc,wr2=x.val) (fun nx _=>S'.length+1 - (intOf nx).toNat)
     case atStart=>exact ⟨0,rfl,Nat.zero_le _,Ext.of (by iterate 25 (first|exact Upd.refl _ _|assumption|refine Upd.alloc ?_ _|refine Upd.drew ?_|refine Upd.drewN ?_ _|refine Upd.dl ?_|refine Upd.step ?_ (Ext.upd _)|refine Upd.nil ?_|skip))⟩
     case round=>
      obtain ⟨n,rfl,hn,x,rfl⟩:=hrel
      have HX:=Lib.hid x.upd
      generalize x.val=wd at *
      have hpl:=place_le S' pb
      have HJ3:=Lib.hid (HJ2.out.quiet HX.out)
      have HRW:=Lib.hid (show wd.ownsRow 0 3 1 (.slice na row.length nc) row.length (ints (row.map Int.ofNat)) from by have:=HJ3.out.rw;rwa [List.length_map] at this)
      by_cases hnl:n<S'.length
      ·have hni:(n:Int)<S'.length:=by omega
       have hsn:=List.getElem?_eq_getElem hnl
       generalize S'[n]=z at *
       obtain ⟨la3,lc3,hle3,_,_,hcell3⟩:=(OwW.start HJ3.out.l).form
       cases hle3
       obtain ⟨lg3,hlg3,hcell4⟩:=hcell3 (by omega) (by decide)
       cases hlg3
       have e0:=hcell4 n (.int .i64 (z:Nat)) (by simp [ints,List.getElem?_map,hsn])
       have HSN:=Lib.hid hsn
       clear hcell3 hcell4 hsn
       by_cases hz:z=pb
       ·subst hz
        have HPF:=Lib.hid (placeN_found hn HSN.out)
        have HSC:=Lib.hid (scan_old' HJ.out.1 (by rw [HQ.out];exact List.mem_of_getElem? HSN.out))
        rw [HQ.out] at HSC
        have hnb:((n:Int) == S'.length)=false:=by simp;omega
        go_upto_region 15 with fail
        clear e0
        go_wp2_with (refine wpList_push rfl rfl _ _ _ _ rfl rfl rfl 3 1 8 _ Tryz.underlying22 infoInt rfl (by decide) (by decide) (.int .i64 (n:Nat)) [.int .i64 (n:Nat)] rfl rfl rfl (by simp [Value.oneCell']) (.slice na row.length nc) _ _ HRW.out rfl rfl (by unfold maxLen;omega) (by omega) ?_;intro g7 c7 w7 o7 u7 k7)
        have HQ3:=HJ3.out.pushN (n:=((n:Nat):Int)) (by rw [List.length_map];exact o7) u7 k7
        rw [List.length_map] at HQ3
        exact ⟨⟨k+1,S',row++[n],_,_,rfl,rfl,by go_num,by omega,by omega,Lib.hid ⟨by rw [HSC.out,←HPF.out],HJ.out.2.1,by rw [List.map_append];exact HQ3,HJ.out.2.2.2⟩⟩,by simp [intOf];omega⟩
       ·have HPN:=Lib.hid (placeN_step hn HSN.out hz)
        have hzx:((z:Int) != pb)=true:=by rw [nat_ne];simp [hz]
        have hzy:((z:Int) == pb)=false:=by simp;omega
        clear hz
        go_wp2_with fail
        exact ⟨⟨n+1,by go_num,HPN.out,Ext.of HX.out⟩,by simp [intOf];omega⟩
      ·have hne:n=S'.length:=by omega
       have HSC:=Lib.hid (scan_new' HJ.out.1 (f:=nxM a sx) (k:=k) (by
        rw [HQ.out]
        intro hm
        have:=place_lt.2 hm
        omega))
       rw [HQ.out] at HSC
       subst hne
       have hnb:((S'.length:Int) == S'.length)=true:=by simp
       have hni:¬ ((S'.length:Int)<S'.length):=by omega
       have HLL:=Lib.hid HJ3.out.l
       have hsl:S'.length≤1000:=by omega
       go_upto_region 17 with (refine wpList_push rfl rfl _ _ _ _ rfl rfl rfl 3 1 8 _ Tryz.underlying22 infoInt rfl (by decide) (by decide) (.int .i64 (pb:Nat)) [.int .i64 (pb:Nat)] rfl rfl rfl (by simp [Value.oneCell']) (.slice (some ⟨lg,0,none⟩) S'.length lc2) _ _ HLL.out rfl rfl (by unfold maxLen;omega) (by omega) ?_;intro g6 c6 w6 o6 u6 k6)
       have HJ4:=Lib.hid (HJ3.out.pushP (p:=pb) o6 u6 k6)
       have HRW:=Lib.hid (show w6.ownsRow 0 3 1 (.slice na row.length nc) row.length (ints (row.map Int.ofNat)) from by have:=HJ4.out.rw;rwa [List.length_map] at this)
       clear o6 u6 k6
       go_wp2_with (refine wpList_push rfl rfl _ _ _ _ rfl rfl rfl 3 1 8 _ Tryz.underlying22 infoInt rfl (by decide) (by decide) (.int .i64 (S'.length:Nat)) [.int .i64 (S'.length:Nat)] rfl rfl rfl (by simp [Value.oneCell']) (.slice na row.length nc) _ _ HRW.out rfl rfl (by unfold maxLen;omega) (by omega) ?_;intro g7 c7 w7 o7 u7 k7)
       have HQ3:=HJ4.out.pushN (n:=((S'.length:Nat):Int)) (by rw [List.length_map];exact o7) u7 k7
       rw [List.length_map] at HQ3
       refine ⟨⟨k+1,S'++[pb],row++[S'.length],_,_,by first|rfl|simp,rfl,by go_num,by omega,by rw [List.length_append];simp;omega,Lib.hid ⟨HSC.out,?_,by rw [List.map_append];exact HQ3,?_⟩⟩,by simp [intOf];omega⟩
       ·intro z hz
        rcases List.mem_append.1 hz with hz|hz
        ·exact HJ.out.2.1 z hz
        ·simp at hz;subst hz;exact HPL.out
       ·have h1:=HJ.out.2.2.2
        rw [List.getElem?_append_left (List.getElem?_eq_some_iff.1 h1).1]
        exact h1
    ·have hke:k=a.cuts.length:=by omega
     subst hke
     have HUS:=Lib.hid (show repU a (i+1)=(S',T++[row]) from by
      have h1:=HI.out.1
      rw [repU_def] at h1 ⊢
      exact upTo_step' h1 HS0.out.1 HJ.out.1)
     have h257:S'.length≤256:=by
      have h1:=repU_len HOK.out (i+1)
      rw [HUS.out] at h1
      have h2:=HOK.out.few
      simp only at h1
      omega
     have hnk:¬ ((a.cuts.length:Int)<a.cuts.length):=by omega
     have HT4:=Lib.hid (show T.length=i from HI.out.2.2.2)
     have HNT:=Lib.hid (show (natRows T).length≤256 from by unfold natRows;rw [List.length_map,HT4.out];omega)
     have HNS:=Lib.hid (show ((S.take i).map fun s=>a.acc.getD s false).length≤256 from by rw [List.length_map,List.length_take];omega)
     have HTK:=Lib.hid (show S'.take i=S.take i from by
      have h1:=scan_pre (nxM a sx) a.cuts.length S
      rw [HJ.out.1] at h1
      obtain ⟨r,hr⟩:=h1
      simp only at hr
      rw [←hr,List.take_append_of_le_length (by omega)])
     generalize hNN:natRows T=NT at *
     generalize hBB:((S.take i).map fun s=>a.acc.getD s false)=BS at *
     have HNN:=Lib.hid (And.intro hNN hBB)
     clear hNN hBB
     obtain ⟨vals,hv1,hv2⟩:=id HJ.out.2.2.1.m.tb.ex
     have HV:=Lib.hid (And.intro hv1 hv2)
     clear hv1 hv2 hlen
     have q1:=HJ.out.2.2.1.m.bx.cell (i:=1) rfl
     go_upto_region 18 with fail
     clear k0
     go_upto_region 19 with (refine wpList_push rfl rfl _ _ _ _ rfl rfl rfl 22 1 24 _ Tryz.underlying28 infoInts rfl (by decide) (by decide) (.slice na row.length nc) [.slice na row.length nc] rfl rfl rfl (by simp [Value.oneCell']) nv _ _ HV.out.1.row rfl rfl (by have:=HNT.out;unfold maxLen;omega) (by have:=HNT.out;omega) ?_;intro g7 c7 w7 o7 u7 k7;have bx7:=HJ.out.2.2.1.m.bx.upd u7 (fun hm=>HJ.out.2.2.1.m.nn.2.1 (by simpa using hm));have p1:=bx7.cell (i:=1) rfl;have pf:∀ q,w7.frozen? ⟨ab,q,none⟩=false:=bx7.free;have HO7:=Lib.hid (And.intro o7 (And.intro u7 k7));clear o7 u7 k7 bx7)
     have HR2:=Lib.hid (HJ.out.2.2.1.row_ HV.out.1 HV.out.2 HO7.out.1 HO7.out.2.1 HO7.out.2.2)
     generalize (w7.setCell ⟨ab,1,none⟩ (.slice (some ⟨g7,0,none⟩) (NT.length+1) c7))=w8 at *
     have HSI:=Lib.hid HJ.out.2.2.2
     have hi':i<S'.length:=(List.getElem?_eq_some_iff.1 HSI.out).1
     have hsi2:(i:Int)<S'.length:=by omega
     obtain ⟨la5,lc5,hle5,_,_,hcell5⟩:=(OwW.start HR2.out.l).form
     cases hle5
     obtain ⟨lg,rfl,hcell6⟩:=hcell5 (by omega) (by decide)
     have e0:=hcell6 i (.int .i64 (sx:Nat)) (by simp [ints,List.getElem?_map,HSI.out])
     obtain ⟨ga3,oa3,hea,ha3⟩:=(HF.out.ext (HU2.out.step HR2.out.m.u)).acc (i:=sx) (by rw [HOK.out.acc];exact HS0.out.2)
     subst hea
     have hsx:(sx:Int)<a.acc.length:=by rw [HOK.out.acc];have:=HS0.out.2;omega
     generalize hbx:a.acc.getD sx false=bi at *
     have HBX:=Lib.hid hbx
     clear hbx
     have k2:=(HU2.out.step HR2.out.m.u).some HK.out.2.2 (by simp)
     have q2:=HR2.out.m.bx.cell (i:=2) rfl
     have hbl:BS.length≤256:=HNS.out
     clear p1 pf q1 hcell5 hcell6 hcell
     refine wp_region_ord 11 4 [0,1,2,3,4,5,6,7,8,9,12] [1,3,7,9] [0,1,2,3,4,5,6,7,8,9,10,11,12,13] (fun w'=>∃ x:Ext w8,w'=x.val) (by kernel_rfl) (by kernel_rfl) (Ext.of (by iterate 25 (first|exact Upd.refl _ _|assumption|refine Upd.alloc ?_ _|refine Upd.drew ?_|refine Upd.drewN ?_ _|refine Upd.dl ?_|refine Upd.step ?_ (Ext.upd _)|refine Upd.nil ?_|skip))) ?_
     repeat (first|(refine wpOrd_load rfl rfl rfl rfl (fun K hK=>?_);go_big_quiet_step (fail);refine wpQuiet_nil ?_;refine hK _ ?_;clear hK K)|(refine wpOrd_free rfl rfl rfl (fun K hK=>?_);go_big_quiet_step (fail);refine wpQuiet_nil ?_;refine hK _ ?_;clear hK K))
     refine wpOrd_fix rfl rfl (fun K hK=>?_)
     go_wp2_with fail
     have HNB3:=Lib.hid (show Blk ((w8.alloc (.cells #[.bool bi] 4)).drew) w8.heap.size [.bool bi] 4∧Upd [] w8 ((w8.alloc (.cells #[.bool bi] 4)).drew) from ⟨Blk.new w8 [.bool bi] 4,(by iterate 25 (first|exact Upd.refl _ _|assumption|refine Upd.alloc ?_ _|refine Upd.drew ?_|refine Upd.drewN ?_ _|refine Upd.dl ?_|refine Upd.step ?_ (Ext.upd _)|refine Upd.nil ?_|skip))⟩)
     have HGB:=Lib.hid (Nat.le_refl w8.heap.size)
     generalize ((w8.alloc (.cells #[.bool bi] 4)).drew)=wB at *
     generalize w8.heap.size=gB at HNB3 HGB ⊢
     have HIB:=Lib.hid (HR2.out.quiet HNB3.out.2)
     refine ⟨by first|exact Ext.of HNB3.out.2|exact fun _=>Ext.of HNB3.out.2,?_⟩
     repeat (first|(refine wpOrd_load rfl rfl rfl rfl (fun K hK=>?_);go_big_quiet_step (fail);refine wpQuiet_nil ?_;refine hK _ ?_;clear hK K)|(refine wpOrd_free rfl rfl rfl (fun K hK=>?_);go_big_quiet_step (fail);refine wpQuiet_nil ?_;refine hK _ ?_;clear hK K))
     refine wpOrd_fix rfl rfl (fun K hK=>?_)
     refine wpList_app rfl _ _ _ rfl 4 1 1 _ Tryz.underlying29 infoBool rfl (by decide) av _ _ rfl HIB.out.m.ac gB 1 1 [.bool bi] 4 rfl rfl HNB3.out.1 (by simp [Value.oneCell']) (by omega) (by unfold maxLen;omega) (by omega) ?_
     intro g5 c5 w5' o5 u5 k5
     simp only [Act.put,List.setIfInBounds_toArray,List.set_cons_zero,List.set_cons_succ]
     have bx5:=HIB.out.m.bx.upd u5 (fun hm=>(HIB.out.m.an ab (by simpa using hm)).2.1 rfl)
     have p2:=bx5.cell (i:=2) rfl
     have pf:∀ q,w5'.frozen? ⟨ab,q,none⟩=false:=bx5.free
     have HO5:=Lib.hid (And.intro o5 (And.intro u5 k5))
     clear o5 u5 k5 bx5 q2 k2 e0 ha3
     go_wp2_with fail
     refine ⟨fun hC=>absurd hC (by decide),?_⟩
     repeat (first|(refine wpOrd_load rfl rfl rfl rfl (fun K hK=>?_);go_big_quiet_step (fail);refine wpQuiet_nil ?_;refine hK _ ?_;clear hK K)|(refine wpOrd_free rfl rfl rfl (fun K hK=>?_);go_big_quiet_step (fail);refine wpQuiet_nil ?_;refine hK _ ?_;clear hK K))
     refine wpOrd_fix rfl rfl (fun K hK=>?_)
     go_wp2_with fail
     refine ⟨fun hC=>absurd hC (by decide),?_⟩
     refine wpOrd_nil ?_
     go_wp2_with fail
     have HR4:=HIB.out.flag_ HO5.out.1 HO5.out.2.1 (HO5.out.2.2.imp id fun h=>by omega)
     refine ⟨⟨i+1,S',T++[row],F++(Value.slice na row.length nc).ownBlock.toList,.slice (some ⟨g7,0,none⟩) (NT.length+1) c7,.slice (some ⟨g5,0,none⟩) (BS.length+1) c5,_,rfl,by go_num,by omega,h257,Lib.hid ⟨HUS.out,HJ.out.2.1,?_,by rw [List.length_append,HT4.out];rfl⟩⟩,by simp [intOf];omega⟩
     have e1:natRows (T++[row])=NT++[row.map Int.ofNat]:=by rw [←HNN.out.1];simp [natRows]
     have e2:((S'.take (i+1)).map fun s=>a.acc.getD s false)=BS++[bi]:=by
      rw [List.take_add_one,HSI.out,List.map_append,HTK.out,HNN.out.2,←HBX.out];rfl
     rw [e1,e2]
     exact HR4
  ·have hse:i=S.length:=by omega
   subst hse
   have HPR:=Lib.hid (show preA a=⟨a.cuts,natRows T,S.map fun s=>a.acc.getD s false⟩ from by
    have h1:=repU_stays a (i:=S.length) (by rw [HI.out.1];exact Nat.le_refl _) h256
    unfold preA
    rw [h1,HI.out.1]
    rfl)
   have hBL:((S.take S.length).map fun s=>a.acc.getD s false)=S.map fun s=>a.acc.getD s false:=by rw [List.take_length]
   have HJ:=Lib.hid (show MiS w2 ab (.slice a1 a.cuts.length c1) nv av (.slice la S.length lc) (.slice none 0 0) a.cuts (natRows T) (S.map fun s=>a.acc.getD s false) F S [] wo from by have:=HI.out.2.2.1;rwa [hBL] at this)
   have HME:=Lib.hid (show minA a=mrgA ⟨a.cuts,natRows T,S.map fun s=>a.acc.getD s false⟩ from by unfold minA;rw [HPR.out])
   have HPO:=Lib.hid (show Ok ⟨a.cuts,natRows T,S.map fun s=>a.acc.getD s false⟩ from by rw [←HPR.out];exact pre_ok HOK.out)
   clear hBL HI HPR
   generalize natRows T=NT at *
   generalize (S.map fun s=>a.acc.getD s false)=BS at *
   obtain ⟨a2',c2',rfl,_⟩:=id HJ.out.m.tb.cl.form
   obtain ⟨a3',c3',rfl,_⟩:=id (SL.of_owns HJ.out.m.ac).elems
   have q0:=HJ.out.m.bx.cell (i:=0) rfl
   have q1:=HJ.out.m.bx.cell (i:=1) rfl
   have q2:=HJ.out.m.bx.cell (i:=2) rfl
   have HMC:=Lib.hid (merged_calls (w:=wo) (b:=⟨a.cuts,NT,BS⟩) (v:=.agg #[.slice a1 a.cuts.length c1,.slice a2' NT.length c2',.slice a3' BS.length c3']) ⟨_,rfl,⟨_,_,_,rfl,HJ.out.m.cu,HJ.out.m.tb.cl,SL.of_owns HJ.out.m.ac⟩⟩ HPO.out)
   have hni:¬ ((S.length:Int)<S.length):=by omega
   obtain ⟨mr,hmr⟩:∃ mr,mrgA ⟨a.cuts,NT,BS⟩=mr:=⟨_,rfl⟩
   rw [hmr] at HMC HME
   have HMK:=Lib.hid (show Ok mr from by rw [←HME.out];exact min_ok HOK.out)
   clear hmr
   go_wp2_with ((with_reducible refine HMC.out.mono ?_);rintro e w9 ⟨v9,rfl,o9,u9⟩;obtain ⟨x1,y1,x2,y2,x3,y3,rfl,hF9⟩:=o9.shape;have bR:=HW.out.1.upd (HU2.out.step (HJ.out.m.u.step u9)) (by simp);have r0:=bR.cell (i:=0) rfl;have r1:=bR.cell (i:=1) rfl;have r2:=bR.cell (i:=2) rfl;have rf:∀ q,w9.frozen? ⟨pa+1,q,none⟩=false:=bR.free;have HBR:=Lib.hid (And.intro bR (And.intro u9 hF9));clear bR u9 hF9 o9)
   have hs3:=cell3_set (a:=.slice x1 mr.cuts.length y1) (b:=.slice x2 mr.next.length y2) (c:=.slice x3 mr.acc.length y3) HBR.out.1
   rw [HME.out]
   exact ret_plain rfl rfl hs3.1 rfl (AuF_keep HBR.out.2.2 HMK.out HBR.out.1 hs3.2) ((HW.out.2.step (HU2.out.step (HJ.out.m.u.step HBR.out.2.1))).fresh hs3.2 (fun b hb=>.inr (by simp at hb;subst hb;have:=HPA.out;omega)))
end
end Aut
end Go.Proofs.YtjclbjdkkdijbaaGreat
end
section
open Go.RowKit
namespace Go.Proofs.YtjclbjdkkdijbaaGreat
open L
namespace Law
open Aut Auto R01 Rgx
attribute [-go_sem] sliced
section
variable {w w':World} {v v2:Value}
theorem Same_yes {a b:Au} {v1 v2:Value} (he:a=b) (ha:AuV w a v1) (hb:AuV w b v2):Calls Tryz.prog 16 #[v1,v2] w fun e w'=>e=.returned (.bool true)∧Upd [] w w':=by
 refine (SameA_calls ha hb).mono ?_
 rintro e w2 ⟨x,rfl,hx,u⟩
 have:x=true:=hx.2 he
 subst this
 exact ⟨rfl,u⟩
set_option maxRecDepth 100000 in
set_option maxHeartbeats 16000000 in
theorem AutoMinimal_calls {xs ys:List Int} {at_ how by_:Int} (hx:∀ x∈xs,IsI64 x) (hl:SL w 1 v xs.length (ints xs)) (hy:∀ x∈ys,IsI64 x) (hl2:SL w 1 v2 ys.length (ints ys)) (h1:IsI64 at_) (h2:IsI64 how) (h3:IsI64 by_) :
 Calls Tryz.prog 6 #[v,v2,.int .i64 at_,.int .i64 how,.int .i64 by_] w fun e w'=>e=.returned (.bool true)∧Upd [] w w':=by
 have HC1:=Lib.hid (some_calls hx hl hy hl2 h1 h2 h3)
 have hl5:(someL xs ys at_ how by_).length≤5:=Nat.le_refl _
 have HL5:=Lib.hid hl5
 clear hl5
 generalize someL xs ys at_ how by_=ls at *
 clear hx hl hy hl2 h1 h2 h3
 go_enter Tryz.func6,Tryz.ntmps6
 go_upto_region 2 with ((with_reducible refine HC1.out.mono ?_);rintro e w1 ⟨v1,rfl,hls,u1⟩)
 obtain ⟨lg,lc,rfl,hc1⟩:=id hls
 have HLS:=Lib.hid (And.intro u1 hc1)
 clear hls u1 hc1
 go_wp2_with fail
 go_loopw [12] (fun iv wr=>∃ m:Nat,iv=.int .i64 m∧m≤ls.length∧∃ x:Ext w1,wr=x.val) (fun iv _=>ls.length - (intOf iv).toNat)
 case atStart=>exact ⟨0,rfl,Nat.zero_le _,Ext.of (by iterate 25 (first|exact Upd.refl _ _|assumption|refine Upd.alloc ?_ _|refine Upd.drew ?_|refine Upd.drewN ?_ _|refine Upd.dl ?_|refine Upd.step ?_ (Ext.upd _)|refine Upd.nil ?_|skip))⟩
 case round=>
  obtain ⟨m,rfl,hm,x,rfl⟩:=hrel
  have HXU:=Lib.hid x.upd
  generalize x.val=wq at *
  by_cases hlt:m<ls.length
  ·have hli:(m:Int)<ls.length:=by omega
   have hm5:(m:Int)≤5:=by have:=HL5.out;omega
   have ha:=List.getElem?_eq_getElem hlt
   generalize ls[m]=a at *
   obtain ⟨y0,y1,y2,hF,e0,e1,e2⟩:=HLS.out.2 m a ha
   obtain ⟨a1,c1,a2,c2,a3,c3,hve,hFF⟩:=AuV.shape (show AuV w1 a (.agg #[y0,y1,y2]) from ⟨_,rfl,hF⟩)
   cases hve
   have HAU:=Lib.hid (fun (w':World) (u:Upd [] w1 w')=>show AuV w' a (.agg #[.slice a1 a.cuts.length c1,.slice a2 a.next.length c2,.slice a3 a.acc.length c3]) from ⟨_,rfl,hFF.ext u⟩)
   have HCE:=Lib.hid (And.intro e0 (And.intro e1 e2))
   have HON:=Lib.hid (fun (w':World) (u:Upd [] w1 w')=>own_calls (HAU.out w' u))
   obtain ⟨er,hee⟩:∃ er,vErr a=er:=⟨_,rfl⟩
   have f0:=HXU.out.some e0 (by simp)
   have f1:=HXU.out.some e1 (by simp)
   have f2:=HXU.out.some e2 (by simp)
   have HRV:=Lib.hid (show Calls Tryz.prog 20 #[.agg #[.slice a1 a.cuts.length c1,.slice a2 a.next.length c2,.slice a3 a.acc.length c3]] wq fun e w'=>e=.returned (.int .i64 er)∧Upd [] wq w' from by have h:=rValid_calls (HAU.out wq HXU.out);rwa [hee] at h)
   have HMN:=Lib.hid (fun (w':World) (v':Value) (o:AuV w' a v')=>show Calls Tryz.prog 34 #[v'] w' fun e w2=>∃ v',e=.returned (.tuple #[v',.int .i64 er])∧AuV w2 (minE a) v'∧Upd [] w' w2 from by have h:=Minimal_calls o;rwa [hee] at h)
   have her:((er:Int) != er)=false:=by simp
   clear hF hFF e0 e1 e2 ha
   go_upto_region 6 with ((with_reducible refine HRV.out.mono ?_);rintro e w5 ⟨rfl,u5⟩)
   have HX5:=Lib.hid (HXU.out.step u5)
   have f0:=u5.some f0 (by simp)
   have f1:=u5.some f1 (by simp)
   have f2:=u5.some f2 (by simp)
   have HON5:=Lib.hid (HON.out w5 HX5.out)
   clear u5
   obtain ⟨mn,hmn⟩:∃ mn,minE a=mn:=⟨_,rfl⟩
   have HME:=Lib.hid hmn
   rw [hmn] at HMN
   clear hmn
   go_upto_region 7 with (first|((with_reducible refine HON5.out.mono ?_);rintro e w6 ⟨v6,rfl,o6,u6⟩;have HVC:=Lib.hid (HMN.out _ _ o6);have HU6:=Lib.hid u6;clear u6 o6)|((with_reducible refine HVC.out.mono ?_);rintro e w7 ⟨v7,rfl,o7,u7⟩;obtain ⟨x1,y1,x2,y2,x3,y3,rfl,hF7⟩:=o7.shape;have H7:=Lib.hid (And.intro u7 hF7);clear o7 u7 hF7))
   change Code.wp _ _ _ _ (w7.alloc (.cells #[.slice x1 mn.cuts.length y1,.slice x2 mn.next.length y2,.slice x3 mn.acc.length y3] 31))
   have HB:=Lib.hid (show Blk (w7.alloc (.cells #[.slice x1 mn.cuts.length y1,.slice x2 mn.next.length y2,.slice x3 mn.acc.length y3] 31)) w7.heap.size [.slice x1 mn.cuts.length y1,.slice x2 mn.next.length y2,.slice x3 mn.acc.length y3] 31∧Upd [] w7 (w7.alloc (.cells #[.slice x1 mn.cuts.length y1,.slice x2 mn.next.length y2,.slice x3 mn.acc.length y3] 31)) from ⟨Blk.new w7 _ _,(Upd.refl [] w7).alloc _⟩)
   generalize (w7.alloc (.cells #[.slice x1 mn.cuts.length y1,.slice x2 mn.next.length y2,.slice x3 mn.acc.length y3] 31))=w8 at *
   generalize w7.heap.size=mb at *
   have HX8:=Lib.hid (((HX5.out.step HU6.out).step H7.out.1).step HB.out.2)
   clear f0 f1 f2
   go_upto_region 8 with fail
   change Code.wp _ _ _ _ (w8.alloc (.cells #[.slice none 0 0,.slice none 0 0,.slice none 0 0] 39))
   have HR:=Lib.hid (show Blk (w8.alloc (.cells #[.slice none 0 0,.slice none 0 0,.slice none 0 0] 39)) w8.heap.size [.slice none 0 0,.slice none 0 0,.slice none 0 0] 39∧Upd [] w8 (w8.alloc (.cells #[.slice none 0 0,.slice none 0 0,.slice none 0 0] 39)) from ⟨Blk.new w8 _ _,(Upd.refl [] w8).alloc _⟩)
   generalize (w8.alloc (.cells #[.slice none 0 0,.slice none 0 0,.slice none 0 0] 39))=w9 at *
   have HMR:=Lib.hid (show mb<w8.heap.size from HB.out.1.lt)
   generalize hre:w8.heap.size=rb at *
   have HRE:=Lib.hid hre
   clear hre
   have HX9:=Lib.hid (HX8.out.step HR.out.2)
   by_cases he:er=0
   ·subst he
    have HOK:=Lib.hid (And.intro (vErr_ok hee) hee)
    have HMQ:=Lib.hid (show mn=minA a from by rw [←HME.out];unfold minE;rw [if_neg (by simpa using hee)])
    have f0:=HX9.out.some HCE.out.1 (by simp)
    have f1:=HX9.out.some HCE.out.2.1 (by simp)
    have f2:=HX9.out.some HCE.out.2.2 (by simp)
    have HMC:=Lib.hid (MinR_calls (HAU.out w9 HX9.out) HOK.out.1)
    have HMO:=Lib.hid (show Ok mn from by rw [HMQ.out];exact min_ok HOK.out.1)
    have HRB:=Lib.hid (show w8.heap.size≤rb from Nat.le_of_eq HRE.out)
    obtain ⟨mr,hmr⟩:∃ mr,minA a=mr:=⟨_,rfl⟩
    rw [hmr] at HMC HMQ
    clear hmr
    go_upto_region 10 with ((with_reducible refine HMC.out.mono ?_);rintro e w10 ⟨v10,rfl,o10,u10⟩;obtain ⟨p1,q1,p2,q2,p3,q3,rfl,hF10⟩:=o10.shape;have HR10:=Lib.hid (HR.out.1.upd u10 (by simp));have H10:=Lib.hid (And.intro u10 hF10);have r0:=HR10.out.cell (i:=0) rfl;have r1:=HR10.out.cell (i:=1) rfl;have r2:=HR10.out.cell (i:=2) rfl;have rf:∀ q,w10.frozen? ⟨rb,q,none⟩=false:=HR10.out.free;clear o10 u10 hF10)
    have hs:=cell3_set (a:=.slice p1 mr.cuts.length q1) (b:=.slice p2 mr.next.length q2) (c:=.slice p3 mr.acc.length q3) HR10.out
    have HKR:=Lib.hid (AuF_keep H10.out.2 (by rw [←HMQ.out];exact HMO.out) HR10.out hs.2)
    have HBR:=Lib.hid hs.1
    have HU11:=Lib.hid ((HR.out.2.step H10.out.1).fresh (T:=[rb]) hs.2 (fun b hb=>.inr (by simp at hb;subst hb;exact HRB.out)))
    clear hs r0 r1 r2 rf f0 f1 f2
    generalize (((w10.setCell ⟨rb,0,none⟩ (.slice p1 mr.cuts.length q1)).setCell ⟨rb,1,none⟩ (.slice p2 mr.next.length q2)).setCell ⟨rb,2,none⟩ (.slice p3 mr.acc.length q3))=w11 at *
    have HX11:=Lib.hid (HX8.out.step HU11.out)
    have b0:=HU11.out.some (HB.out.1.cell (i:=0) rfl) (by simp)
    have b1:=HU11.out.some (HB.out.1.cell (i:=1) rfl) (by simp)
    have b2:=HU11.out.some (HB.out.1.cell (i:=2) rfl) (by simp)
    have c0:=HBR.out.cell (i:=0) rfl
    have c1':=HBR.out.cell (i:=1) rfl
    have c2':=HBR.out.cell (i:=2) rfl
    have HPL:=Lib.hid (fun (w':World) (u:Upd [] w11 w')=>plain_calls (w:=w') (a:=mn) (v:=.agg #[.slice x1 mn.cuts.length y1,.slice x2 mn.next.length y2,.slice x3 mn.acc.length y3]) ⟨_,rfl,(H7.out.2.ext HB.out.2).ext (HU11.out.step u)⟩)
    have HSM:=Lib.hid (fun (w':World) (v':Value) (o:AuV w' mn v') (u:Upd [] w11 w')=>Same_yes HMQ.out o (show AuV w' mr (.agg #[.slice p1 mr.cuts.length q1,.slice p2 mr.next.length q2,.slice p3 mr.acc.length q3]) from ⟨_,rfl,HKR.out.ext u⟩))
    refine wp_region_ord 7 2 [0,1,2,3,4,6,8,9] [4,6] [0,1,2,3,4,6,5,7,8,9] (fun w'=>∃ x:Ext w11,w'=x.val) (by kernel_rfl) (by kernel_rfl) (Ext.of (by iterate 25 (first|exact Upd.refl _ _|assumption|refine Upd.alloc ?_ _|refine Upd.drew ?_|refine Upd.drewN ?_ _|refine Upd.dl ?_|refine Upd.step ?_ (Ext.upd _)|refine Upd.nil ?_|skip))) ?_
    repeat (first|(refine wpOrd_load rfl rfl rfl rfl (fun K hK=>?_);go_big_quiet_step (fail);refine wpQuiet_nil ?_;refine hK _ ?_;clear hK K)|(refine wpOrd_free rfl rfl rfl (fun K hK=>?_);go_big_quiet_step (fail);refine wpQuiet_nil ?_;refine hK _ ?_;clear hK K))
    refine wpOrd_fix rfl rfl (fun K hK=>?_)
    go_wp2_with (go_at_call 17;refine (HPL.out _ (by iterate 25 (first|exact Upd.refl _ _|assumption|refine Upd.alloc ?_ _|refine Upd.drew ?_|refine Upd.drewN ?_ _|refine Upd.dl ?_|refine Upd.step ?_ (Ext.upd _)|refine Upd.nil ?_|skip))).mono ?_;rintro e w12 ⟨v12,rfl,o12,u12⟩)
    have H12:=Lib.hid (And.intro (show Upd [] w11 w12 from Upd.step (by iterate 25 (first|exact Upd.refl _ _|assumption|refine Upd.alloc ?_ _|refine Upd.drew ?_|refine Upd.drewN ?_ _|refine Upd.dl ?_|refine Upd.step ?_ (Ext.upd _)|refine Upd.nil ?_|skip)) u12) o12)
    clear u12 o12
    refine ⟨by first|exact Ext.of H12.out.1|exact fun _=>Ext.of H12.out.1,?_⟩
    repeat (first|(refine wpOrd_load rfl rfl rfl rfl (fun K hK=>?_);go_big_quiet_step (fail);refine wpQuiet_nil ?_;refine hK _ ?_;clear hK K)|(refine wpOrd_free rfl rfl rfl (fun K hK=>?_);go_big_quiet_step (fail);refine wpQuiet_nil ?_;refine hK _ ?_;clear hK K))
    refine wpOrd_fix rfl rfl (fun K hK=>?_)
    go_wp2_with (go_at_call 16;refine (HSM.out _ _ H12.out.2 H12.out.1).mono ?_;rintro e w13 ⟨rfl,u13⟩)
    have H13:=Lib.hid (H12.out.1.step u13)
    clear u13
    refine ⟨fun hC=>absurd hC (by decide),?_⟩
    repeat (first|(refine wpOrd_load rfl rfl rfl rfl (fun K hK=>?_);go_big_quiet_step (fail);refine wpQuiet_nil ?_;refine hK _ ?_;clear hK K)|(refine wpOrd_free rfl rfl rfl (fun K hK=>?_);go_big_quiet_step (fail);refine wpQuiet_nil ?_;refine hK _ ?_;clear hK K))
    refine wpOrd_nil ?_
    go_wp2_with fail
    exact ⟨⟨m+1,by go_num,by omega,Ext.of (HX11.out.step H13.out)⟩,by simp [intOf];omega⟩
   ·have heb:(er == 0)=false:=by simpa using he
    have HMQ:=Lib.hid (show mn=noA from by rw [←HME.out];unfold minE;rw [if_pos (by rw [hee];exact he)])
    have b0:=HR.out.2.some (HB.out.1.cell (i:=0) rfl) (by simp)
    have b1:=HR.out.2.some (HB.out.1.cell (i:=1) rfl) (by simp)
    have b2:=HR.out.2.some (HB.out.1.cell (i:=2) rfl) (by simp)
    have c0:=HR.out.1.cell (i:=0) rfl
    have c1':=HR.out.1.cell (i:=1) rfl
    have c2':=HR.out.1.cell (i:=2) rfl
    have HPL:=Lib.hid (fun (w':World) (u:Upd [] w9 w')=>plain_calls (w:=w') (a:=mn) (v:=.agg #[.slice x1 mn.cuts.length y1,.slice x2 mn.next.length y2,.slice x3 mn.acc.length y3]) ⟨_,rfl,(H7.out.2.ext HB.out.2).ext (HR.out.2.step u)⟩)
    have HSM:=Lib.hid (fun (w':World) (v':Value) (o:AuV w' mn v')=>Same_yes HMQ.out o (show AuV w' noA (.agg #[.slice none 0 0,.slice none 0 0,.slice none 0 0]) from ⟨_,rfl,noA_F⟩))
    go_upto_region 10 with fail
    refine wp_region_ord 7 2 [0,1,2,3,4,6,8,9] [4,6] [0,1,2,3,4,6,5,7,8,9] (fun w'=>∃ x:Ext w9,w'=x.val) (by kernel_rfl) (by kernel_rfl) (Ext.of (by iterate 25 (first|exact Upd.refl _ _|assumption|refine Upd.alloc ?_ _|refine Upd.drew ?_|refine Upd.drewN ?_ _|refine Upd.dl ?_|refine Upd.step ?_ (Ext.upd _)|refine Upd.nil ?_|skip))) ?_
    repeat (first|(refine wpOrd_load rfl rfl rfl rfl (fun K hK=>?_);go_big_quiet_step (fail);refine wpQuiet_nil ?_;refine hK _ ?_;clear hK K)|(refine wpOrd_free rfl rfl rfl (fun K hK=>?_);go_big_quiet_step (fail);refine wpQuiet_nil ?_;refine hK _ ?_;clear hK K))
    refine wpOrd_fix rfl rfl (fun K hK=>?_)
    go_wp2_with (go_at_call 17;refine (HPL.out _ (by iterate 25 (first|exact Upd.refl _ _|assumption|refine Upd.alloc ?_ _|refine Upd.drew ?_|refine Upd.drewN ?_ _|refine Upd.dl ?_|refine Upd.step ?_ (Ext.upd _)|refine Upd.nil ?_|skip))).mono ?_;rintro e w12 ⟨v12,rfl,o12,u12⟩)
    have H12:=Lib.hid (And.intro (show Upd [] w9 w12 from Upd.step (by iterate 25 (first|exact Upd.refl _ _|assumption|refine Upd.alloc ?_ _|refine Upd.drew ?_|refine Upd.drewN ?_ _|refine Upd.dl ?_|refine Upd.step ?_ (Ext.upd _)|refine Upd.nil ?_|skip)) u12) o12)
    clear u12 o12
    refine ⟨by first|exact Ext.of H12.out.1|exact fun _=>Ext.of H12.out.1,?_⟩
    repeat (first|(refine wpOrd_load rfl rfl rfl rfl (fun K hK=>?_);go_big_quiet_step (fail);refine wpQuiet_nil ?_;refine hK _ ?_;clear hK K)|(refine wpOrd_free rfl rfl rfl (fun K hK=>?_);go_big_quiet_step (fail);refine wpQuiet_nil ?_;refine hK _ ?_;clear hK K))
    refine wpOrd_fix rfl rfl (fun K hK=>?_)
    go_wp2_with (go_at_call 16;refine (HSM.out _ _ H12.out.2).mono ?_;rintro e w13 ⟨rfl,u13⟩)
    have H13:=Lib.hid (H12.out.1.step u13)
    clear u13
    refine ⟨fun hC=>absurd hC (by decide),?_⟩
    repeat (first|(refine wpOrd_load rfl rfl rfl rfl (fun K hK=>?_);go_big_quiet_step (fail);refine wpQuiet_nil ?_;refine hK _ ?_;clear hK K)|(refine wpOrd_free rfl rfl rfl (fun K hK=>?_);go_big_quiet_step (fail);refine wpQuiet_nil ?_;refine hK _ ?_;clear hK K))
    refine wpOrd_nil ?_
    go_wp2_with fail
    exact ⟨⟨m+1,by go_num,by omega,Ext.of (HX9.out.step H13.out)⟩,by simp [intOf];omega⟩
  ·have hme:m=ls.length:=by omega
   subst hme
   have HLV:=Lib.hid (lives_calls (w:=wq))
   go_wp2_with ((with_reducible refine HLV.out.mono ?_);rintro e w8 ⟨rfl,u8⟩)
   go_ret
   exact ⟨rfl,(HLS.out.1.step HXU.out).step u8⟩
end
end Law
end Go.Proofs.YtjclbjdkkdijbaaGreat
end
