/- Walks through the reference of automata: Same. Conditions: none. The state of the reference's Both in memory: the automaton that is being made out of cuts that may be old, the list of pairs, the row. Conditions: none. Two pairs of numbers are compared. Conditions: none. Walks through the reference of automata: Class, Run. Conditions: none. Walks through the reference model of package auto: Both. Conditions: none. -/
import Derived.Test.YtjclbjdkkdijbaaGreatAuZb
import Derived.Test.YtjclbjdkkdijbaaGreatSame
import Derived.Test.YtjclbjdkkdijbaaGreatRfZf
import Derived.Test.YtjclbjdkkdijbaaGreatAuZm
import Derived.Laws.StructEq
import Derived.ChangeKeysEq
import Derived.Test.YtjclbjdkkdijbaaGreatLib
import Derived.Test.YtjclbjdkkdijbaaGreatProg
import Derived.Test.YtjclbjdkkdijbaaGreatAuZd
import Derived.Test.YtjclbjdkkdijbaaGreatAuZr
import Derived.Test.YtjclbjdkkdijbaaGreatRfZd
import Derived.Test.YtjclbjdkkdijbaaGreatAutoY
set_option linter.unusedVariables false
set_option linter.unusedSimpArgs false
set_option linter.unusedSectionVars false
section
open Go.RowKit
namespace Go.Proofs.YtjclbjdkkdijbaaGreat
open L
namespace Aut
open Auto R01
attribute [-go_sem] sliced
theorem two_rows3 (w:World) (a0 a1 a2 b0 b1 b2:Value) (T:TypeId):∃ w1,w1=((w.alloc (.cells #[a0,a1,a2] T)).alloc (.cells #[b0,b1,b2] T))∧Blk w1 w.heap.size [a0,a1,a2] T∧Blk w1 (w.heap.size+1) [b0,b1,b2] T∧Upd [] w w1:=by
 have s1:(w.alloc (.cells #[a0,a1,a2] T)).heap.size=w.heap.size+1:=by simp
 have h2:=Blk.new (w.alloc (.cells #[a0,a1,a2] T)) [b0,b1,b2] T
 rw [s1] at h2
 exact ⟨_,rfl,(Blk.new w [a0,a1,a2] T).alloc _,h2,((Upd.refl [] w).alloc _).alloc _⟩
def SameT (a b:Au) (w:World) (e:Ending) (w':World):Prop:=∃ x:Bool,e=.returned (.bool x)∧(x=true↔a=b)∧Upd [] w w'
theorem SameT.no {a b:Au} {w w':World} (h:a≠b) (u:Upd [] w w'):SameT a b w (.returned (.bool false)) w':=⟨false,rfl,by simp [h],u⟩
theorem SameT.yes {a b:Au} {w w':World} (h:a=b) (u:Upd [] w w'):SameT a b w (.returned (.bool true)) w':=⟨true,rfl,by simp [h],u⟩
theorem step_rel {a b:Au} {s:Nat} (h:∀ j,j<s→a.next.getD j []=b.next.getD j []∧(j<a.acc.length→a.acc.getD j false=b.acc.getD j false)) (h1:a.next.getD s []=b.next.getD s []) (h2:s<a.acc.length→a.acc.getD s false=b.acc.getD s false) :
 ∀ j,j<s+1→a.next.getD j []=b.next.getD j []∧(j<a.acc.length→a.acc.getD j false=b.acc.getD j false):=fun j hj=>by
 rcases Nat.lt_or_ge j s with h3|h3
 ·exact h j h3
 ·have:j=s:=by omega
  subst this
  exact ⟨h1,h2⟩
theorem au_ext {a b:Au} (h1:a.cuts=b.cuts) (h2:a.next.length=b.next.length) (h3:a.acc.length=b.acc.length) (h4:∀ j,j<a.next.length→a.next.getD j []=b.next.getD j []) (h5:∀ j,j<a.acc.length→a.acc.getD j false=b.acc.getD j false):a=b:=by
 have e1:a.next=b.next:=List.ext_getElem h2 fun i p q=>by
  have:=h4 i p
  rw [List.getD_eq_getElem?_getD,List.getD_eq_getElem?_getD,List.getElem?_eq_getElem p,List.getElem?_eq_getElem q] at this
  exact this
 have e2:a.acc=b.acc:=List.ext_getElem h3 fun i p q=>by
  have:=h5 i p
  rw [List.getD_eq_getElem?_getD,List.getD_eq_getElem?_getD,List.getElem?_eq_getElem p,List.getElem?_eq_getElem q] at this
  exact this
 cases a;cases b
 simp_all
section
variable {w w':World} {v v2:Value}
set_option maxRecDepth 100000 in
set_option maxHeartbeats 16000000 in
theorem SameA_calls {a b:Au} (ha:AuV w a v) (hb:AuV w b v2):Calls Tryz.prog 16 #[v,v2] w (SameT a b w):=by
 obtain ⟨a1,c1,a2,c2,a3,c3,rfl,hF⟩:=ha.shape
 obtain ⟨b1,d1,b2,d2,b3,d3,rfl,hG⟩:=hb.shape
 have HF:=Lib.hid hF
 have HG:=Lib.hid hG
 obtain ⟨w1,hw1,e1,e2,u1⟩:=two_rows3 w (.slice a1 a.cuts.length c1) (.slice a2 a.next.length c2) (.slice a3 a.acc.length c3) (.slice b1 b.cuts.length d1) (.slice b2 b.next.length d2) (.slice b3 b.acc.length d3) 39
 have lims:a.next.length≤9223372036854775807∧a.acc.length≤9223372036854775807:=by
  obtain ⟨_,_,_,he,_,h4,h5⟩:=hF
  cases he
  obtain ⟨_,_,he,q1,q2,_⟩:=h4.form
  cases he
  obtain ⟨_,_,he,q3,q4,_⟩:=h5.elems
  cases he
  omega
 have lim1:=lims.1
 have lim2:=lims.2
 clear ha hb hF hG lims
 go_enter Tryz.func16,Tryz.ntmps16
 go_upto_region 1 with fail
 rw [←hw1]
 clear hw1
 have HB:=Lib.hid (And.intro e1 (And.intro e2 u1))
 have HCB:=Lib.hid (show ∀ (w5:World),Upd [] w1 w5→w5.cell? ⟨w.heap.size,0,none⟩=some (.slice a1 a.cuts.length c1)∧w5.cell? ⟨w.heap.size,1,none⟩=some (.slice a2 a.next.length c2)∧w5.cell? ⟨w.heap.size,2,none⟩=some (.slice a3 a.acc.length c3)∧w5.cell? ⟨w.heap.size+1,0,none⟩=some (.slice b1 b.cuts.length d1)∧w5.cell? ⟨w.heap.size+1,1,none⟩=some (.slice b2 b.next.length d2)∧w5.cell? ⟨w.heap.size+1,2,none⟩=some (.slice b3 b.acc.length d3) from fun w5 u5=>by
  have x1:=e1.upd u5 (by simp)
  have x2:=e2.upd u5 (by simp)
  exact ⟨x1.cell (i:=0) rfl,x1.cell (i:=1) rfl,x1.cell (i:=2) rfl,x2.cell (i:=0) rfl,x2.cell (i:=1) rfl,x2.cell (i:=2) rfl⟩)
 have HSC:=SameInts_calls (w:=w1) (v1:=.slice a1 a.cuts.length c1) (v2:=.slice b1 b.cuts.length d1) (xs:=a.cuts) (ys:=b.cuts) (by
  obtain ⟨_,_,_,he,h3,_,_⟩:=HF.out
  cases he
  exact h3.upd u1 (by simp)) (by
  obtain ⟨_,_,_,he,h3,_,_⟩:=HG.out
  cases he
  exact h3.upd u1 (by simp))
 clear e1 e2 u1
 generalize w.heap.size=pa at *
 obtain ⟨k0,k1,k2,l0,l1,l2⟩:=HCB.out w1 (Upd.refl _ _)
 by_cases hc:a.cuts=b.cuts
 ·rw [decide_eq_true hc] at HSC
  have HSC:=Lib.hid HSC
  have HC:=Lib.hid hc
  clear hc
  by_cases hn:a.next.length=b.next.length
  ·have hnb:((a.next.length:Int) != (b.next.length:Int))=false:=by simp [hn]
   have HNL:=Lib.hid hn
   clear hn
   by_cases hk:a.acc.length=b.acc.length
   ·have hkb:((a.acc.length:Int) != (b.acc.length:Int))=false:=by simp [hk]
    have HKL:=Lib.hid hk
    clear hk
    go_upto_region 3 with ((with_reducible refine HSC.out.mono ?_);rintro e w2 ⟨rfl,u2⟩;obtain ⟨k0,k1,k2,l0,l1,l2⟩:=HCB.out w2 u2;have HU2:=Lib.hid u2;clear u2)
    go_wp2_with fail
    go_loopw [5] (fun s5 wr=>∃ s:Nat,s5=.int .i64 s∧s≤a.next.length∧Hid ((∀ j,j<s→a.next.getD j []=b.next.getD j []∧(j<a.acc.length→a.acc.getD j false=b.acc.getD j false))∧Upd [] w1 wr)) (fun s5 _=>a.next.length - (intOf s5).toNat)
    case atStart=>exact ⟨0,rfl,Nat.zero_le _,Lib.hid ⟨fun j hj=>absurd hj (Nat.not_lt_zero _),HU2.out⟩⟩
    case round=>
     obtain ⟨s,rfl,hs,HI⟩:=hrel
     obtain ⟨k0,k1,k2,l0,l1,l2⟩:=HCB.out wr HI.out.2
     by_cases hlt:s<a.next.length
     ·have hli:(s:Int)<a.next.length:=by omega
      have hlt2:s<b.next.length:=by have:=HNL.out;omega
      have hli2:(s:Int)<b.next.length:=by omega
      obtain ⟨g,off,ar,cr,he,hrc,hrow⟩:=(HF.out.ext (HB.out.2.2.step HI.out.2)).row hlt
      cases he
      obtain ⟨g',off',br,dr,he,hrd,hrow2⟩:=(HG.out.ext (HB.out.2.2.step HI.out.2)).row hlt2
      cases he
      have HRR:=Lib.hid (And.intro hrow hrow2)
      have HGR:=Lib.hid (show a=b→a.next.getD s []=b.next.getD s [] from fun h=>by rw [h])
      clear hrow hrow2
      generalize hra:a.next.getD s []=ra at *
      generalize hrb:b.next.getD s []=rb at *
      have HRA:=Lib.hid (And.intro hra hrb)
      clear hra hrb
      by_cases hr:ra=rb
      ·have HSR:=Lib.hid (show ∀ w5,Upd [] wr w5→Calls Tryz.prog 58 #[.slice ar ra.length cr,.slice br rb.length dr] w5 fun e w'=>e=.returned (.bool true)∧Upd [] w5 w' from fun w5 u5=>by
        have:=SameInts_calls (HRR.out.1.upd u5 (by simp)) (HRR.out.2.upd u5 (by simp))
        rw [decide_eq_true hr] at this
        exact this)
       have HEQ:=Lib.hid (show a.next.getD s []=b.next.getD s [] by rw [HRA.out.1,HRA.out.2];exact hr)
       clear hr
       go_upto_region 6 with fail
       refine wp_region_qx (by kernel_rfl) (by kernel_rfl) ?_
       repeat (go_big_quiet_step (((go_at_call 58;exact qx (HSR.out _ (Ext.upd _))))))
       refine wpQuiet_nil ?_
       intro x
       have hU3:=HI.out.2.step x.upd
       generalize x.val=w3 at *
       obtain ⟨k0,k1,k2,l0,l1,l2⟩:=HCB.out w3 hU3
       have HU3:=Lib.hid hU3
       clear hU3
       by_cases hac:s<a.acc.length
       ·have haci:(s:Int)<a.acc.length:=by omega
        have hac2:s<b.acc.length:=by have:=HKL.out;omega
        have haci2:(s:Int)<b.acc.length:=by omega
        obtain ⟨ga,oa3,he3,hxa⟩:=(HF.out.ext (HB.out.2.2.step HU3.out)).acc hac
        cases he3
        obtain ⟨gb,ob3,he3,hxb⟩:=(HG.out.ext (HB.out.2.2.step HU3.out)).acc hac2
        cases he3
        have HGA:=Lib.hid (show ∀ h:a=b,a.acc.getD s false=b.acc.getD s false from fun h=>by rw [h])
        by_cases hxx:a.acc.getD s false=b.acc.getD s false
        ·have HXX:=Lib.hid (step_rel HI.out.1 HEQ.out (fun _=>hxx))
         generalize a.acc.getD s false=xa at *
         generalize b.acc.getD s false=xb at *
         subst hxx
         clear HGA
         cases xa with
         | false=>
          go_upto_region 7 with fail
          refine wp_region_qx (by kernel_rfl) (by kernel_rfl) ?_
          repeat (go_big_quiet_step ((fail)))
          refine wpQuiet_nil ?_
          intro x
          go_wp2_with fail
          exact ⟨⟨s+1,by go_num,by omega,Lib.hid ⟨HXX.out,HU3.out.step x.upd⟩⟩,by simp [intOf];omega⟩
         | true=>
          go_upto_region 7 with fail
          refine wp_region_qx (by kernel_rfl) (by kernel_rfl) ?_
          repeat (go_big_quiet_step ((fail)))
          refine wpQuiet_nil ?_
          intro x
          go_wp2_with fail
          exact ⟨⟨s+1,by go_num,by omega,Lib.hid ⟨HXX.out,HU3.out.step x.upd⟩⟩,by simp [intOf];omega⟩
        ·have HNE:=Lib.hid (show a≠b from fun h=>hxx (HGA.out h))
         generalize a.acc.getD s false=xa at *
         generalize b.acc.getD s false=xb at *
         cases xa <;> cases xb
         ·exact absurd rfl hxx
         ·clear hxx
          go_upto_region 7 with fail
          refine wp_region_qx (by kernel_rfl) (by kernel_rfl) ?_
          repeat (go_big_quiet_step ((fail)))
          refine wpQuiet_nil ?_
          intro x
          go_wp2_with fail
          go_ret
          exact SameT.no HNE.out ((HB.out.2.2.step HU3.out).step x.upd)
         ·clear hxx
          go_upto_region 7 with fail
          refine wp_region_qx (by kernel_rfl) (by kernel_rfl) ?_
          repeat (go_big_quiet_step ((fail)))
          refine wpQuiet_nil ?_
          intro x
          go_wp2_with fail
          go_ret
          exact SameT.no HNE.out ((HB.out.2.2.step HU3.out).step x.upd)
         ·exact absurd rfl hxx
       ·have haci:¬ ((s:Int)<a.acc.length):=by omega
        go_upto_region 7 with fail
        refine wp_region_qx (by kernel_rfl) (by kernel_rfl) ?_
        repeat (go_big_quiet_step ((fail)))
        refine wpQuiet_nil ?_
        intro x
        go_wp2_with fail
        exact ⟨⟨s+1,by go_num,by omega,Lib.hid ⟨step_rel HI.out.1 HEQ.out (fun h=>absurd h hac),HU3.out.step x.upd⟩⟩,by simp [intOf];omega⟩
      ·have HSR:=Lib.hid (show ∀ w5,Upd [] wr w5→Calls Tryz.prog 58 #[.slice ar ra.length cr,.slice br rb.length dr] w5 fun e w'=>e=.returned (.bool false)∧Upd [] w5 w' from fun w5 u5=>by
        have:=SameInts_calls (HRR.out.1.upd u5 (by simp)) (HRR.out.2.upd u5 (by simp))
        rw [decide_eq_false hr] at this
        exact this)
       have HNE:=Lib.hid (show a≠b from fun h=>hr (HGR.out h))
       clear hr
       go_upto_region 6 with fail
       refine wp_region_qx (by kernel_rfl) (by kernel_rfl) ?_
       repeat (go_big_quiet_step (((go_at_call 58;exact qx (HSR.out _ (Ext.upd _))))))
       refine wpQuiet_nil ?_
       intro x
       have hU3:=HI.out.2.step x.upd
       generalize x.val=w3 at *
       obtain ⟨k0,k1,k2,l0,l1,l2⟩:=HCB.out w3 hU3
       have HU3:=Lib.hid hU3
       clear hU3
       go_upto_region 7 with fail
       refine wp_region_qx (by kernel_rfl) (by kernel_rfl) ?_
       repeat (go_big_quiet_step ((fail)))
       refine wpQuiet_nil ?_
       intro x
       go_wp2_with fail
       go_ret
       exact SameT.no HNE.out ((HB.out.2.2.step HU3.out).step x.upd)
     ·have hse:s=a.next.length:=by omega
      subst hse
      have hni:¬ ((a.next.length:Int)<a.next.length):=by omega
      go_wp2_with fail
      go_loopw [7] (fun s7 wr2=>∃ s:Nat,s7=.int .i64 s∧(s≤a.acc.length∨s=a.next.length)∧Hid ((∀ j,j<s→j<a.acc.length→a.acc.getD j false=b.acc.getD j false)∧Upd [] w1 wr2)) (fun s7 _=>a.acc.length - (intOf s7).toNat)
      case atStart=>exact ⟨a.next.length,rfl,.inr rfl,Lib.hid ⟨fun j hj hj2=>(HI.out.1 j hj).2 hj2,HI.out.2⟩⟩
      case round=>
       obtain ⟨s,rfl,hs,HJ⟩:=hrel
       obtain ⟨k0,k1,k2,l0,l1,l2⟩:=HCB.out wr HJ.out.2
       by_cases hac:s<a.acc.length
       ·have haci:(s:Int)<a.acc.length:=by omega
        have hac2:s<b.acc.length:=by have:=HKL.out;omega
        have haci2:(s:Int)<b.acc.length:=by omega
        obtain ⟨ga,oa3,he3,hxa⟩:=(HF.out.ext (HB.out.2.2.step HJ.out.2)).acc hac
        cases he3
        obtain ⟨gb,ob3,he3,hxb⟩:=(HG.out.ext (HB.out.2.2.step HJ.out.2)).acc hac2
        cases he3
        have HGA:=Lib.hid (show ∀ h:a=b,a.acc.getD s false=b.acc.getD s false from fun h=>by rw [h])
        by_cases hxx:a.acc.getD s false=b.acc.getD s false
        ·have HXX:=Lib.hid (show ∀ j,j<s+1→j<a.acc.length→a.acc.getD j false=b.acc.getD j false from fun j hj hj2=>by
          rcases Nat.lt_or_ge j s with h|h
          ·exact HJ.out.1 j h hj2
          ·have:j=s:=by omega
           subst this;exact hxx)
         generalize a.acc.getD s false=xa at *
         generalize b.acc.getD s false=xb at *
         subst hxx
         clear HGA
         cases xa with
         | false=>
          go_upto_region 12 with fail
          refine wp_region_qx (by kernel_rfl) (by kernel_rfl) ?_
          repeat (go_big_quiet_step ((fail)))
          refine wpQuiet_nil ?_
          intro x
          go_wp2_with fail
          exact ⟨⟨s+1,by go_num,.inl (by omega),Lib.hid ⟨HXX.out,HJ.out.2.step x.upd⟩⟩,by simp [intOf];omega⟩
         | true=>
          go_upto_region 12 with fail
          refine wp_region_qx (by kernel_rfl) (by kernel_rfl) ?_
          repeat (go_big_quiet_step ((fail)))
          refine wpQuiet_nil ?_
          intro x
          go_wp2_with fail
          exact ⟨⟨s+1,by go_num,.inl (by omega),Lib.hid ⟨HXX.out,HJ.out.2.step x.upd⟩⟩,by simp [intOf];omega⟩
        ·have HNE:=Lib.hid (show a≠b from fun h=>hxx (HGA.out h))
         generalize a.acc.getD s false=xa at *
         generalize b.acc.getD s false=xb at *
         cases xa <;> cases xb
         ·exact absurd rfl hxx
         ·clear hxx
          go_upto_region 12 with fail
          refine wp_region_qx (by kernel_rfl) (by kernel_rfl) ?_
          repeat (go_big_quiet_step ((fail)))
          refine wpQuiet_nil ?_
          intro x
          go_wp2_with fail
          go_ret
          exact SameT.no HNE.out ((HB.out.2.2.step HJ.out.2).step x.upd)
         ·clear hxx
          go_upto_region 12 with fail
          refine wp_region_qx (by kernel_rfl) (by kernel_rfl) ?_
          repeat (go_big_quiet_step ((fail)))
          refine wpQuiet_nil ?_
          intro x
          go_wp2_with fail
          go_ret
          exact SameT.no HNE.out ((HB.out.2.2.step HJ.out.2).step x.upd)
         ·exact absurd rfl hxx
       ·have haci:¬ ((s:Int)<a.acc.length):=by omega
        have HAE:=Lib.hid (show a=b from au_ext HC.out HNL.out HKL.out (fun j hj=>(HI.out.1 j hj).1) (fun j hj=>HJ.out.1 j (by omega) hj))
        go_wp2_with fail
        go_ret
        exact SameT.yes HAE.out (HB.out.2.2.step HJ.out.2)
   ·have hkb:((a.acc.length:Int) != (b.acc.length:Int))=true:=by simp;omega
    have HNE:=Lib.hid (show a≠b from fun h=>hk (by rw [h]))
    clear hk
    go_wp2_with ((with_reducible refine HSC.out.mono ?_);rintro e w2 ⟨rfl,u2⟩;obtain ⟨k0,k1,k2,l0,l1,l2⟩:=HCB.out w2 u2;have HU2:=Lib.hid u2;clear u2)
    go_ret
    exact SameT.no HNE.out (HB.out.2.2.step HU2.out)
  ·have hnb:((a.next.length:Int) != (b.next.length:Int))=true:=by simp;omega
   have HNE:=Lib.hid (show a≠b from fun h=>hn (by rw [h]))
   clear hn
   go_wp2_with ((with_reducible refine HSC.out.mono ?_);rintro e w2 ⟨rfl,u2⟩;obtain ⟨k0,k1,k2,l0,l1,l2⟩:=HCB.out w2 u2;have HU2:=Lib.hid u2;clear u2)
   go_ret
   exact SameT.no HNE.out (HB.out.2.2.step HU2.out)
 ·rw [decide_eq_false hc] at HSC
  have HSC:=Lib.hid HSC
  have HNE:=Lib.hid (show a≠b from fun h=>hc (by rw [h]))
  clear hc
  go_wp2_with ((with_reducible refine HSC.out.mono ?_);rintro e w2 ⟨rfl,u2⟩;have HU2:=Lib.hid u2;clear u2)
  go_ret
  exact SameT.no HNE.out (HB.out.2.2.step HU2.out)
end
end Aut
end Go.Proofs.YtjclbjdkkdijbaaGreat
end
section
open Go.RowKit
namespace Go.Proofs.YtjclbjdkkdijbaaGreat
open L
namespace Aut
open Auto R01
attribute [-go_sem] sliced
structure MkO (T:TypeId) (w0:World) (ab:Nat) (cv nv av:Value) (cs:List Int) (ns:List (List Int)) (bs:List Bool) (F:List Nat) (w:World):Prop where
 bx:Blk w ab [cv,nv,av] T
 cu:SL w 1 cv cs.length (ints cs)
 cn:∀ q,cv.ownBlock=some q→True∧q≠ab∧nv.ownBlock≠some q∧av.ownBlock≠some q
 tb:OwnL 22 w0 nv ns F w
 ac:w.ownsRow 0 4 1 av bs.length (bools bs)
 an:∀ q,av.ownBlock=some q→w0.heap.size≤q∧q≠ab∧q ∉ F∧nv.ownBlock≠some q
 nn:ab ∉ F∧nv.ownBlock≠some ab∧w0.heap.size≤ab
 u:Upd [] w0 w
 fn:∀ b∈F,w0.heap.size≤b
 cl:∀ q,cv.ownBlock=some q→q<w.heap.size
section
variable {T:TypeId} {w0 w w' w1:World} {ab g cap:Nat} {cv nv av:Value} {cs:List Int} {ns:List (List Int)} {bs:List Bool} {F:List Nat}
theorem MkO.quiet (h:MkO T w0 ab cv nv av cs ns bs F w) (hu:Upd [] w w'):MkO T w0 ab cv nv av cs ns bs F w':=
 ⟨h.bx.upd hu (by simp),h.cu.upd hu (by simp),h.cn,h.tb.upd hu (by simp),ownsRow_updL h.ac hu (by simp),h.an,h.nn,h.u.step hu,h.fn,fun q hq=>Nat.lt_of_lt_of_le (h.cl q hq) hu.size⟩
theorem MkO.nv_new (h:MkO T w0 ab cv nv av cs ns bs F w):∀ q,nv.ownBlock=some q→w0.heap.size≤q∧q<w.heap.size:=fun q hq=>by
 obtain ⟨vals,h1,_⟩:=h.tb.ex
 exact ⟨h1.fresh _ hq,h1.lt _ hq⟩
theorem MkO.cuts {cv':Value} {cs':List Int} (h:MkO T w0 ab cv nv av cs ns bs F w) (hs:SL w 1 cv' cs'.length (ints cs')) (hn:∀ q,cv'.ownBlock=some q→True∧q≠ab∧nv.ownBlock≠some q∧av.ownBlock≠some q∧q<w.heap.size) :
 MkO T w0 ab cv' nv av cs' ns bs F (w.setCell ⟨ab,0,none⟩ cv'):=by
 have us:Upd [ab] w (w.setCell ⟨ab,0,none⟩ cv'):=(Upd.refl [ab] w).set (p:=⟨ab,0,none⟩) (by simp) _
 refine ⟨h.bx.set 0 _,hs.upd us (fun b hb hv=>?_),fun q hq=>?_,h.tb.upd us (fun b hb=>?_),ownsRow_updL h.ac us (fun b hb hv=>?_),h.an,h.nn,h.u.fresh us (fun b hb=>.inr ?_),h.fn,fun q hq=>?_⟩
 ·simp at hb;subst hb;exact (hn _ hv).2.1 rfl
 ·obtain ⟨h1,h2,h3,h4,_⟩:=hn q hq;exact ⟨h1,h2,h3,h4⟩
 ·simp at hb;subst hb;exact ⟨h.nn.1,h.nn.2.1⟩
 ·simp at hb;subst hb;exact (h.an _ hv).2.1 rfl
 ·simp at hb;subst hb;exact h.nn.2.2
 ·exact Nat.lt_of_lt_of_le (hn q hq).2.2.2.2 us.size
theorem MkO.row {y:Value} {row:List Int} {vals:List Value} (h:MkO T w0 ab cv nv av cs ns bs F w) (h1:OwnV w0 22 1 nv ns.length vals w) (h2:∀ (i:Nat) (c:List Int),ns[i]?=some c→∃ y,vals[i]?=some y∧SL w 1 y c.length (ints c)∧∀ b,y.ownBlock=some b→b∈F)
 (hy:SL w 1 y row.length (ints row)) (hyn:∀ b,y.ownBlock=some b→w0.heap.size≤b∧b≠ab∧nv.ownBlock≠some b∧av.ownBlock≠some b∧b<w.heap.size)
 (o:w1.ownsRow 0 22 1 (.slice (some ⟨g,0,none⟩) (ns.length+1) cap) (ns.length+1) (vals++[y])) (hu:Upd nv.ownBlock.toList w w1) (hk:nv.ownBlock=some g∨w.heap.size≤g) :
 MkO T w0 ab cv (.slice (some ⟨g,0,none⟩) (ns.length+1) cap) av cs (ns++[row]) bs (F++y.ownBlock.toList) (w1.setCell ⟨ab,1,none⟩ (.slice (some ⟨g,0,none⟩) (ns.length+1) cap)):=by
 have htb:=h.tb.push h1 h2 h.u.size (c:=row) (y:=y) hy (fun b hb=>⟨(hyn b hb).2.2.1,(hyn b hb).2.2.2.2⟩) o hu hk
 have us:Upd [ab] w1 (w1.setCell ⟨ab,1,none⟩ (.slice (some ⟨g,0,none⟩) (ns.length+1) cap)):=(Upd.refl [ab] w1).set (p:=⟨ab,1,none⟩) (by simp) _
 have hab:=h.bx.lt
 have hgab:g≠ab:=fun e=>by
  rcases hk with h3|h3
  ·exact h.nn.2.1 (e ▸ h3)
  ·omega
 have hbx:Blk w1 ab [cv,nv,av] T:=h.bx.upd hu (fun hm=>h.nn.2.1 (by simpa using hm))
 have hnF:∀ b,b ∉ F→y.ownBlock≠some b→b ∉ F++y.ownBlock.toList:=fun b h3 h4 hm=>by
  rcases List.mem_append.1 hm with h5|h5
  ·exact h3 h5
  ·exact h4 (by simpa using h5)
 refine ⟨hbx.set 1 _,(h.cu.upd hu (fun b hb hv=>(h.cn _ hv).2.2.1 (by simpa using hb))).upd us (fun b hb hv=>?_),fun q hq=>?_,htb.upd us (fun b hb=>?_),ownsRow_updL (ownsRow_updL h.ac hu (fun b hb hv=>(h.an _ hv).2.2.2 (by simpa using hb))) us (fun b hb hv=>?_),fun q hq=>?_,⟨?_,?_,h.nn.2.2⟩,?_,fun b hb=>?_,fun q hq=>?_⟩
 ·simp at hb;subst hb;exact (h.cn _ hv).2.1 rfl
 ·obtain ⟨a1,a2,a3,a4⟩:=h.cn q hq
  refine ⟨a1,a2,fun he=>?_,a4⟩
  simp [Value.ownBlock] at he;subst he
  rcases hk with h3|h3
  ·exact a3 h3
  ·have:=h.cl _ hq;omega
 ·simp at hb;subst hb
  exact ⟨hnF _ h.nn.1 (fun e=>(hyn _ e).2.1 rfl),fun hv=>hgab (by simpa [Value.ownBlock] using hv)⟩
 ·simp at hb;subst hb;exact (h.an _ hv).2.1 rfl
 ·obtain ⟨a1,a2,a3,a4⟩:=h.an q hq
  have hql:=(h.ac.lt q hq).2
  refine ⟨a1,a2,hnF _ a3 (fun e=>(hyn _ e).2.2.2.1 hq),fun he=>?_⟩
  simp [Value.ownBlock] at he;subst he
  rcases hk with h3|h3
  ·exact a4 h3
  ·omega
 ·exact hnF _ h.nn.1 (fun e=>(hyn _ e).2.1 rfl)
 ·exact fun hv=>hgab (by simpa [Value.ownBlock] using hv)
 ·exact (h.u.fresh hu (fun b hb=>.inr (h1.fresh _ (by simpa using hb)))).fresh us (fun b hb=>.inr (by simp at hb;subst hb;exact h.nn.2.2))
 ·rcases List.mem_append.1 hb with h3|h3
  ·exact h.fn _ h3
  ·exact (hyn b (by simpa using h3)).1
 ·have:=h.cl q hq;have:=hu.size;have:=us.size;omega
theorem MkO.flag {x:Bool} (h:MkO T w0 ab cv nv av cs ns bs F w)
 (o:w1.ownsRow 0 4 1 (.slice (some ⟨g,0,none⟩) (bs.length+1) cap) (bs.length+1) (bools bs++[.bool x])) (hu:Upd av.ownBlock.toList w w1) (hk:av.ownBlock=some g∨w.heap.size≤g) :
 MkO T w0 ab cv nv (.slice (some ⟨g,0,none⟩) (bs.length+1) cap) cs ns (bs++[x]) F (w1.setCell ⟨ab,2,none⟩ (.slice (some ⟨g,0,none⟩) (bs.length+1) cap)):=by
 have us:Upd [ab] w1 (w1.setCell ⟨ab,2,none⟩ (.slice (some ⟨g,0,none⟩) (bs.length+1) cap)):=(Upd.refl [ab] w1).set (p:=⟨ab,2,none⟩) (by simp) _
 have hab:=h.bx.lt
 have hgab:g≠ab:=fun e=>by
  rcases hk with h3|h3
  ·exact (h.an _ h3).2.1 e
  ·omega
 have hbx:Blk w1 ab [cv,nv,av] T:=h.bx.upd hu (fun hm=>(h.an ab (by simpa using hm)).2.1 rfl)
 have hz:=h.u.size
 refine ⟨hbx.set 2 _,(h.cu.upd hu (fun b hb hv=>(h.cn _ hv).2.2.2 (by simpa using hb))).upd us (fun b hb hv=>?_),fun q hq=>?_,(h.tb.upd hu (fun b hb=>?_)).upd us (fun b hb=>?_),ownsRow_updL (by rw [show (bs++[x]).length=bs.length+1 by simp,show bools (bs++[x])=bools bs++[.bool x] by simp [bools]];exact o) us (fun b hb hv=>?_),fun q hq=>?_,h.nn,?_,h.fn,fun q hq=>?_⟩
 ·simp at hb;subst hb;exact (h.cn _ hv).2.1 rfl
 ·obtain ⟨a1,a2,a3,a4⟩:=h.cn q hq
  refine ⟨a1,a2,a3,fun he=>?_⟩
  simp [Value.ownBlock] at he;subst he
  rcases hk with h3|h3
  ·exact a4 h3
  ·have:=h.cl _ hq;omega
 ·have:=h.an b (by simpa using hb)
  exact ⟨this.2.2.1,this.2.2.2⟩
 ·simp at hb;subst hb;exact ⟨h.nn.1,h.nn.2.1⟩
 ·simp at hb;subst hb;simp [Value.ownBlock] at hv;exact hgab hv
 ·simp only [Value.ownBlock,Option.some.injEq] at hq
  subst hq
  rcases hk with h3|h3
  ·exact h.an _ h3
  ·refine ⟨by omega,hgab,fun hf=>?_,fun hv=>?_⟩
   ·have:=h.tb.lt _ hf;omega
   ·have:=(h.nv_new _ hv).2;omega
 ·exact (h.u.fresh hu (fun b hb=>.inr (h.an b (by simpa using hb)).1)).fresh us (fun b hb=>.inr (by simp at hb;subst hb;exact h.nn.2.2))
 ·have:=h.cl q hq;have:=hu.size;have:=us.size;omega
theorem MkO.other {U:List Nat} (h:MkO T w0 ab cv nv av cs ns bs F w) (hu:Upd U w w') (hU:∀ b∈U,w0.heap.size≤b∧b≠ab∧cv.ownBlock≠some b∧nv.ownBlock≠some b∧av.ownBlock≠some b∧b ∉ F):MkO T w0 ab cv nv av cs ns bs F w':=
 ⟨h.bx.upd hu (fun hm=>(hU _ hm).2.1 rfl),h.cu.upd hu (fun b hb=>(hU b hb).2.2.1),h.cn,h.tb.upd hu (fun b hb=>⟨(hU b hb).2.2.2.2.2,(hU b hb).2.2.2.1⟩),ownsRow_updL h.ac hu (fun b hb=>(hU b hb).2.2.2.2.1),h.an,h.nn,h.u.fresh hu (fun b hb=>.inr (hU b hb).1),h.fn,fun q hq=>Nat.lt_of_lt_of_le (h.cl q hq) hu.size⟩
end
structure BoS (w0:World) (ab:Nat) (cv nv av lv nx:Value) (cs:List Int) (ns:List (List Int)) (bs:List Bool) (F:List Nat) (S:List (Nat × Nat)) (row:List Int) (w:World):Prop where
 m:MkO 39 w0 ab cv nv av cs ns bs F w
 l:w.ownsRow 0 129 2 lv S.length (pcs S)
 lF:∀ q,lv.ownBlock=some q→w0.heap.size≤q∧q ∉ F∧cv.ownBlock≠some q
 rw:w.ownsRow 0 3 1 nx row.length (ints row)
 nF:∀ q,nx.ownBlock=some q→w0.heap.size≤q∧q≠ab∧nv.ownBlock≠some q∧av.ownBlock≠some q∧q ∉ F∧cv.ownBlock≠some q
section
variable {w0 w w' w1:World} {ab g cap:Nat} {cv nv av lv nx y:Value} {cs row:List Int} {ns:List (List Int)} {bs:List Bool} {F U:List Nat} {S:List (Nat × Nat)} {p:Nat × Nat}
theorem BoS.quiet (h:BoS w0 ab cv nv av lv nx cs ns bs F S row w) (hu:Upd [] w w'):BoS w0 ab cv nv av lv nx cs ns bs F S row w':=
 ⟨h.m.quiet hu,ownsRow_updL h.l hu (by simp),h.lF,ownsRow_updL h.rw hu (by simp),h.nF⟩
theorem BoS.lap (h:BoS w0 ab cv nv av lv nx cs ns bs F S row w):∀ q,lv.ownBlock=some q→q≠ab∧nv.ownBlock≠some q∧av.ownBlock≠some q∧nx.ownBlock≠some q:=fun q hq=>by
 obtain ⟨vals,h1,_⟩:=h.m.tb.ex
 exact ⟨own_bne h.l h.m.bx (by decide) hq,own_ne h.l h1.row (by decide) hq,own_ne h.l h.m.ac (by decide) hq,own_ne h.l h.rw (by decide) hq⟩
theorem BoS.pushP (h:BoS w0 ab cv nv av lv nx cs ns bs F S row w) (o:w'.ownsRow 0 129 2 (.slice (some ⟨g,0,none⟩) (S.length+1) cap) (S.length+1) (pcs S++[.int .i64 p.1,.int .i64 p.2])) (hu:Upd lv.ownBlock.toList w w') (hk:lv.ownBlock=some g∨w.heap.size≤g) :
 BoS w0 ab cv nv av (.slice (some ⟨g,0,none⟩) (S.length+1) cap) nx cs ns bs F (S++[p]) row w':=by
 have hb:∀ b∈lv.ownBlock.toList,w0.heap.size≤b∧b≠ab∧cv.ownBlock≠some b∧nv.ownBlock≠some b∧av.ownBlock≠some b∧b ∉ F:=fun b hb=>by
  have hq:lv.ownBlock=some b:=by simpa using hb
  obtain ⟨a1,a2,a3⟩:=h.lF b hq
  obtain ⟨b1,b2,b3,_⟩:=h.lap b hq
  exact ⟨a1,b1,a3,b2,b3,a2⟩
 refine ⟨h.m.other hu hb,by rw [show (S++[p]).length=S.length+1 by simp,pcs_snoc];exact o,fun q hq=>?_,ownsRow_updL h.rw hu (fun b hb2 hn=>?_),h.nF⟩
 ·simp only [Value.ownBlock,Option.some.injEq] at hq
  subst hq
  rcases hk with hk|hk
  ·exact h.lF _ hk
  ·have hz:=h.m.u.size
   refine ⟨by omega,fun hf=>?_,fun hc=>?_⟩
   ·have:=h.m.tb.lt _ hf;omega
   ·have:=h.m.cl _ hc;omega
 ·exact (h.lap b (by simpa using hb2)).2.2.2 hn
theorem BoS.pushN {n:Int} (h:BoS w0 ab cv nv av lv nx cs ns bs F S row w) (o:w'.ownsRow 0 3 1 (.slice (some ⟨g,0,none⟩) (row.length+1) cap) (row.length+1) (ints row++[.int .i64 n])) (hu:Upd nx.ownBlock.toList w w') (hk:nx.ownBlock=some g∨w.heap.size≤g) :
 BoS w0 ab cv nv av lv (.slice (some ⟨g,0,none⟩) (row.length+1) cap) cs ns bs F S (row++[n]) w':=by
 have hb:∀ b∈nx.ownBlock.toList,w0.heap.size≤b∧b≠ab∧cv.ownBlock≠some b∧nv.ownBlock≠some b∧av.ownBlock≠some b∧b ∉ F:=fun b hb=>by
  obtain ⟨a1,a2,a3,a4,a5,a6⟩:=h.nF b (by simpa using hb)
  exact ⟨a1,a2,a6,a3,a4,a5⟩
 refine ⟨h.m.other hu hb,ownsRow_updL h.l hu (fun b hb2 hv=>(h.lap b hv).2.2.2 (by simpa using hb2)),h.lF,by rw [show (row++[n]).length=row.length+1 by simp,show ints (row++[n])=ints row++[.int .i64 n] by simp [ints]];exact o,fun q hq=>?_⟩
 simp only [Value.ownBlock,Option.some.injEq] at hq
 subst hq
 rcases hk with hk|hk
 ·exact h.nF _ hk
 ·have hz:=h.m.u.size
  refine ⟨by omega,?_,fun e=>?_,fun e=>?_,fun e=>?_,fun e=>?_⟩
  ·have:=h.m.bx.lt;omega
  ·have:=(h.m.nv_new _ e).2;omega
  ·have:=(h.m.ac.lt _ e).2;omega
  ·have:=h.m.tb.lt _ e;omega
  ·have:=h.m.cl _ e;omega
theorem BoS.row_ {vals:List Value} (h:BoS w0 ab cv nv av lv nx cs ns bs F S row w) (h1:OwnV w0 22 1 nv ns.length vals w) (h2:∀ (i:Nat) (c:List Int),ns[i]?=some c→∃ y,vals[i]?=some y∧SL w 1 y c.length (ints c)∧∀ b,y.ownBlock=some b→b∈F)
 (o:w1.ownsRow 0 22 1 (.slice (some ⟨g,0,none⟩) (ns.length+1) cap) (ns.length+1) (vals++[nx])) (hu:Upd nv.ownBlock.toList w w1) (hk:nv.ownBlock=some g∨w.heap.size≤g) :
 BoS w0 ab cv (.slice (some ⟨g,0,none⟩) (ns.length+1) cap) av lv (.slice none 0 0) cs (ns++[row]) bs (F++nx.ownBlock.toList) S [] (w1.setCell ⟨ab,1,none⟩ (.slice (some ⟨g,0,none⟩) (ns.length+1) cap)):=by
 have us:Upd [ab] w1 (w1.setCell ⟨ab,1,none⟩ (.slice (some ⟨g,0,none⟩) (ns.length+1) cap)):=(Upd.refl [ab] w1).set (p:=⟨ab,1,none⟩) (by simp) _
 have hM:=h.m.row h1 h2 (SL.of_owns h.rw) (fun b hb=>by
  obtain ⟨a1,a2,a3,a4,a5,a6⟩:=h.nF b hb
  exact ⟨a1,a2,a3,a4,(h.rw.lt _ hb).2⟩) o hu hk
 refine ⟨hM,ownsRow_updL (ownsRow_updL h.l hu (fun b hb hv=>(h.lap b hv).2.1 (by simpa using hb))) us (fun b hb hv=>?_),fun q hq=>?_,World.ownsRow_nil _ _ _ _,by simp [Value.ownBlock]⟩
 ·simp at hb;subst hb;exact (h.lap _ hv).1 rfl
 ·obtain ⟨a1,a2,a3⟩:=h.lF q hq
  refine ⟨a1,fun hm=>?_,a3⟩
  rcases List.mem_append.1 hm with hm|hm
  ·exact a2 hm
  ·exact (h.lap q hq).2.2.2 (by simpa using hm)
theorem BoS.flag_ {x:Bool} (h:BoS w0 ab cv nv av lv nx cs ns bs F S row w)
 (o:w1.ownsRow 0 4 1 (.slice (some ⟨g,0,none⟩) (bs.length+1) cap) (bs.length+1) (bools bs++[.bool x])) (hu:Upd av.ownBlock.toList w w1) (hk:av.ownBlock=some g∨w.heap.size≤g) :
 BoS w0 ab cv nv (.slice (some ⟨g,0,none⟩) (bs.length+1) cap) lv nx cs ns (bs++[x]) F S row (w1.setCell ⟨ab,2,none⟩ (.slice (some ⟨g,0,none⟩) (bs.length+1) cap)):=by
 have us:Upd [ab] w1 (w1.setCell ⟨ab,2,none⟩ (.slice (some ⟨g,0,none⟩) (bs.length+1) cap)):=(Upd.refl [ab] w1).set (p:=⟨ab,2,none⟩) (by simp) _
 have hM:=h.m.flag o hu hk
 refine ⟨hM,ownsRow_updL (ownsRow_updL h.l hu (fun b hb hv=>(h.lap b hv).2.2.1 (by simpa using hb))) us (fun b hb hv=>?_),h.lF,ownsRow_updL (ownsRow_updL h.rw hu (fun b hb hv=>?_)) us (fun b hb hv=>?_),fun q hq=>?_⟩
 ·simp at hb;subst hb;exact (h.lap _ hv).1 rfl
 ·exact (h.nF _ hv).2.2.2.1 (by simpa using hb)
 ·simp at hb;subst hb;exact (h.nF _ hv).2.1 rfl
 ·obtain ⟨a1,a2,a3,a4,a5,a6⟩:=h.nF q hq
  refine ⟨a1,a2,a3,fun e=>?_,a5,a6⟩
  simp [Value.ownBlock] at e
  subst e
  rcases hk with hk|hk
  ·exact a4 hk
  ·have:=(h.rw.lt _ hq).2;omega
end
end Aut
end Go.Proofs.YtjclbjdkkdijbaaGreat
end
section
open Go.RowKit
namespace Go.Proofs.YtjclbjdkkdijbaaGreat
namespace Aut
theorem underPr:Tryz.prog.underlying 129=some (.array 2 3):=Tryz.underlying129
theorem guardPr:Tryz.prog.eqGuardType Tryz.prog.depth 129=false:=by kernel_rfl
theorem cellsPr:Tryz.prog.cellsOf 3=1:=by kernel_rfl
theorem infoPrI:∃ i,Tryz.prog.info? 3=some i∧i.size=1:=by
 have h:(Tryz.prog.info? 3).map (fun i=>i.size)=some 1:=by kernel_rfl
 cases he:Tryz.prog.info? 3 with
 | none=>rw [he] at h;cases h
 | some i=>rw [he] at h;simp at h;exact ⟨i,rfl,h⟩
theorem runPr (w:World) (x y x' y':Int):(Op.equalIn 10000 129 (.agg #[.int .i64 x,.int .i64 y]) (.agg #[.int .i64 x',.int .i64 y'])).run Tryz.prog w=.ok ((x == x') && (y == y')) w:=by
 obtain ⟨i,hi,hs⟩:=infoPrI
 rw [show (10000:Nat)=9999+1 from rfl,run_equalIn_array w 9999 _ _ underPr hi,cellsPr]
 have hp:∀ (cs:Array Value) (k:Nat) (v:Value) (w:World),cs[k]?=some v→(part 3 cs k).run Tryz.prog w=.ok v w:=fun cs k v w h=>by
  unfold part
  simp [isAgg,run_underlying Tryz.underlying3,h]
 have q:=fun (a b:Int) (w:World)=>run_equalIn_int (P:=Tryz.prog) w 9998 3 .i64 .i64 a b Tryz.underlying3
 have e:List.range 2=[0,1]:=rfl
 rw [e]
 simp only [Op.eqItems,Sem.run_bind,Nat.zero_mul,Nat.one_mul]
 rw [hp _ 0 (.int .i64 x) _ rfl]
 simp only [Result.andThen_ok]
 rw [hp _ 0 (.int .i64 x') _ rfl]
 simp only [Result.andThen_ok]
 rw [q]
 simp only [Result.andThen_ok]
 by_cases h1:x=x'
 ·subst h1
  simp only [beq_self_eq_true,Bool.not_true,Bool.false_eq_true,if_false,Sem.run_bind,Bool.true_and]
  rw [hp _ 1 (.int .i64 y) _ rfl]
  simp only [Result.andThen_ok]
  rw [hp _ 1 (.int .i64 y') _ rfl]
  simp only [Result.andThen_ok]
  rw [q]
  simp only [Result.andThen_ok]
  by_cases h2:y=y'
  ·simp [h2]
  ·simp [h2]
 ·simp [h1]
attribute [go_sem] runPr guardPr
end Aut
end Go.Proofs.YtjclbjdkkdijbaaGreat
end
section
open Go.RowKit
namespace Go.Proofs.YtjclbjdkkdijbaaGreat
open L
namespace Aut
open Auto
attribute [-go_sem] sliced
theorem cls_at {cs:List Int} {c:Int} {k:Nat} (hs:cs.Pairwise (·<·)) (hk:k+1≤cs.length) (h1:∀ i,i<k+1→cs.getD i 0≤c) (h2:k+1<cs.length→¬ cs.getD (k+1) 0≤c):cls cs c=k:=by
 have g:∀ j,(hj:j<cs.length)→cs.getD j 0=cs[j]:=fun j hj=>by rw [List.getD_eq_getElem?_getD,List.getElem?_eq_getElem hj];rfl
 have:=countP_take (k:=k+1) hs hk (fun i hi hi2=>by rw [←g i hi2];exact h1 i hi) (fun h=>by have:=h2 h;rw [g _ h] at this;omega)
 unfold cls
 omega
section
variable {w w':World} {v:Value}
set_option maxRecDepth 100000 in
theorem ClassR_calls {cs:List Int} {c:Int} (h:SL w 1 v cs.length (ints cs)) (h0:(0:Int)∈cs) (hl:cs.length≤1000000) (hs:cs.Pairwise (·<·)) (hc:0≤c) (hc2:c≤255) :
 Calls Tryz.prog 65 #[v,.int .i64 c] w fun e w'=>e=.returned (.int .i64 (cls cs c:Nat))∧Upd [] w w':=by
 obtain ⟨a,cap,rfl,_,_,hcc⟩:=h.elems
 obtain ⟨g,off,rfl,kk⟩:=hcc (List.length_pos_of_mem h0)
 have hmin:∀ i,(hi:i<cs.length)→cs[0]'(List.length_pos_of_mem h0)≤cs[i]:=fun i hi=>by
  rcases Nat.eq_zero_or_pos i with h1|h1
  ·subst h1;exact Int.le_refl _
  ·exact Int.le_of_lt (List.pairwise_iff_getElem.1 hs 0 i (List.length_pos_of_mem h0) hi h1)
 have hz:cs.getD 0 0≤c:=by
  obtain ⟨i,hi,he⟩:=List.getElem_of_mem h0
  have:=hmin i hi
  rw [List.getD_eq_getElem?_getD,List.getElem?_eq_getElem (List.length_pos_of_mem h0),Option.getD_some]
  omega
 have HC:=Lib.hid (And.intro kk (And.intro hs (List.length_pos_of_mem h0)))
 have hpos:=List.length_pos_of_mem h0
 have HZ0:=Lib.hid (show ∀ i,i<0+1→cs.getD i 0≤c from fun i hi=>by
  have h1:i=0:=by omega
  rw [h1]
  exact hz)
 clear h h0 hs hcc kk hmin
 go_enter Tryz.func65,Tryz.ntmps65
 go_wp2_with fail
 go_loopw [5] (fun s5 wr=>∃ k:Nat,s5=.int .i64 k∧k<cs.length∧Hid ((∀ i,i<k+1→cs.getD i 0≤c)∧Upd [] w wr)) (fun s5 _=>cs.length - (intOf s5).toNat)
 case atStart=>exact ⟨0,rfl,hpos,Lib.hid ⟨HZ0.out,Upd.refl _ _⟩⟩
 case round=>
  obtain ⟨k,rfl,hk,HI⟩:=hrel
  by_cases hlt:k+1<cs.length
  ·have hli:(k:Int)+1<cs.length:=by omega
   have hcell:=HI.out.2.some (HC.out.1 (k+1) _ (ints_get (gd_some (d:=0) hlt))) (by simp)
   by_cases hx:cs.getD (k+1) 0≤c
   ·have HX:=Lib.hid (show ∀ i,i<k+1+1→cs.getD i 0≤c from fun i hi=>by
     rcases Nat.lt_or_ge i (k+1) with h|h
     ·exact HI.out.1 i h
     ·have:i=k+1:=by omega
      subst this;exact hx)
    generalize cs.getD (k+1) 0=x at *
    go_wp2_with fail
    exact ⟨⟨k+1,by go_num,by omega,Lib.hid ⟨HX.out,HI.out.2⟩⟩,by simp [intOf];omega⟩
   ·have HE:=Lib.hid (cls_at HC.out.2.1 (by omega) HI.out.1 (fun h=>by omega))
    generalize cs.getD (k+1) 0=x at *
    go_wp2_with fail
    go_ret
    exact ⟨by rw [HE.out];rfl,HI.out.2⟩
  ·have hli:¬ ((k:Int)+1<cs.length):=by omega
   have HE:=Lib.hid (cls_at HC.out.2.1 (by omega) HI.out.1 (fun h=>absurd h hlt))
   go_wp2_with fail
   go_ret
   exact ⟨by rw [HE.out];rfl,HI.out.2⟩
end
end Aut
end Go.Proofs.YtjclbjdkkdijbaaGreat
end
section
open Go.RowKit
namespace Go.Proofs.YtjclbjdkkdijbaaGreat
open L
namespace Aut
open Auto R01 Rgx
attribute [-go_sem] sliced
theorem infoPr:(Tryz.prog.info? 129).map (fun i=>(i.zero,i.size,i.bytes))=some (some (.agg #[.int .i64 0,.int .i64 0]),2,16):=by kernel_rfl
theorem putAllC_one (l r:List Int) (x:Int):putAllC l (r++[x])=putC (putAllC l r) x:=by unfold putAllC;rw [List.foldl_append];rfl
theorem putAllC_len:∀ (r l:List Int),(putAllC l r).length≤l.length+r.length
 | [],l=>by simp [putAllC]
 | x::r,l=>by
  have h1:=putAllC_len r (putC l x)
  have h2:=putC_length l x
  have e:putAllC l (x::r)=putAllC (putC l x) r:=rfl
  rw [e,List.length_cons]
  omega
theorem cutsR_eq {a b:Au} (oa:Ok a) (ob:Ok b):putAllC a.cuts b.cuts=cutsB a b:=by
 have h:=putAllC_spec b.cuts oa.inc
 exact inc_unique h.1 (srtC_inc _) fun x=>by rw [h.2 x];unfold cutsB;rw [srtC_mem,List.mem_append]
theorem box2_set {w:World} {rb:Nat} {o0 o1 a b:Value} {e:TypeId} (h:Blk w rb [o0,o1] e) :
 Blk ((w.setCell ⟨rb,0,none⟩ a).setCell ⟨rb,1,none⟩ b) rb [a,b] e∧Upd [rb] w ((w.setCell ⟨rb,0,none⟩ a).setCell ⟨rb,1,none⟩ b):=
 ⟨(h.set 0 a).set 1 b,((Upd.refl [rb] w).set (p:=⟨rb,0,none⟩) (by simp) a).set (p:=⟨rb,1,none⟩) (by simp) b⟩
theorem place_step {S:List (Nat × Nat)} {p q:Nat × Nat} {n:Nat} (h:n≤place S p) (hn:S[n]?=some q) (hne:q≠p):n+1≤place S p:=by
 rcases Nat.lt_or_ge n (place S p) with h1|h1
 ·omega
 ·have e:n=place S p:=by omega
  have hl:=(List.getElem?_eq_some_iff.1 hn).1
  have h2:=place_get (x:=p) (l:=S) (by omega)
  have h3:=(List.getElem?_eq_some_iff.1 hn).2
  subst e
  exact absurd (h3.symm.trans h2) hne
theorem place_found {S:List (Nat × Nat)} {p:Nat × Nat} {n:Nat} (h:n≤place S p) (hn:S[n]?=some p):n=place S p:=by
 rcases Nat.lt_or_ge n (place S p) with h1|h1
 ·have h2:=List.not_of_lt_findIdx (p:=fun y=>decide (y=p)) (xs:=S) (i:=n) h1
  have h3:=(List.getElem?_eq_some_iff.1 hn).2
  exact absurd h3 (by simpa using h2)
 ·omega
theorem both_over {a b:Au} {cs:List Int} {i:Nat} {S S':List (Nat × Nat)} {T:List (List Nat)} {row:List Nat} {s:Nat × Nat} (h:upTo (0,0) cs.length (bothNx a b cs) i=(S,T)) (hs:S[i]?=some s) (hi:i<256) (hr:scan (bothNx a b cs s) cs.length S=(S',row)) (h256:256<S'.length):numb (0,0) cs.length (bothNx a b cs)=none:=
 numb_none hi (Nat.le_refl _) (by rw [h];exact hs) (by rw [h];simp only;rw [hr];exact h256)
theorem row_cell {w:World} {a:Au} {a2:Option Addr} {c2:Nat} {x y:Value} (hF:AuF w a [x,.slice a2 a.next.length c2,y]) (hok:Ok a) {s:Nat} (hs:s<a.next.length) {c:Int} (hc:0≤c) :
 ∃ g off rg ro rc,a2=some ⟨g,off,none⟩∧w.cell? ⟨g,off+s,none⟩=some (.slice (some ⟨rg,ro,none⟩) a.cuts.length rc)∧w.cell? ⟨rg,ro+cls a.cuts c,none⟩=some (.int .i64 (stepA a s c:Nat))∧cls a.cuts c<a.cuts.length∧a.cuts.length≤rc∧rc≤9223372036854775807:=by
 obtain ⟨g,off,ar,cr,he,h1,h2⟩:=hF.row hs
 have hrow:=hok.rows _ (gd_memA (d:=[]) hs)
 have hk:=(cut_of hok.inc hok.mem0 hc).1
 obtain ⟨ra,rc,he2,q1,r1,hce⟩:=h2.elems
 cases he2
 obtain ⟨rg,ro,rfl,kk⟩:=hce (by omega)
 have hx:=hrow.2 _ (gd_memA (d:=0) (by omega:cls a.cuts c<(a.next.getD s []).length))
 have hcx:=kk (cls a.cuts c) _ (by rw [ints_get (gd_some (d:=0) (by omega:cls a.cuts c<(a.next.getD s []).length))])
 refine ⟨g,off,rg,ro,cr,he,by rw [←hrow.1];exact h1,?_,hk,by omega,r1⟩
 rw [hcx]
 have e:((stepA a s c:Nat):Int)=(a.next.getD s []).getD (cls a.cuts c) 0:=by unfold stepA;omega
 rw [e]
section
variable {w w':World} {v v2:Value}
set_option maxRecDepth 100000 in
set_option maxHeartbeats 16000000 in
theorem BothR_calls {a b:Au} (or_:Bool) (ha:AuV w a v) (hb:AuV w b v2) (oa:Ok a) (ob:Ok b) (ea:vErr a=0) (eb:vErr b=0):Calls Tryz.prog 39 #[v,v2,.bool or_] w fun e w'=>∃ v',e=.returned (.tuple #[v',.int .i64 (bothE a b)])∧AuV w' (bothA a b or_) v'∧Upd [] w w':=by
 obtain ⟨a1,c1,a2,c2,a3,c3,rfl,hF⟩:=ha.shape
 obtain ⟨b1,d1,b2,d2,b3,d3,rfl,hG⟩:=hb.shape
 have HE:=Lib.hid (show (∀ S T,numb (0,0) (cutsB a b).length (bothNx a b (cutsB a b))=some (S,T)→bothE a b=0∧bothA a b or_=⟨cutsB a b,natRows T,S.map (accB a b or_)⟩)∧(numb (0,0) (cutsB a b).length (bothNx a b (cutsB a b))=none→bothE a b=4∧bothA a b or_=noA) from by
  unfold bothE bothA
  rw [if_neg (by simpa using ea),if_neg (by simpa using eb),if_neg (by simpa using ea),if_neg (by simpa using eb)]
  exact ⟨fun S T h=>by rw [h];exact ⟨rfl,rfl⟩,fun h=>by rw [h];exact ⟨rfl,rfl⟩⟩)
 have HCE:=Lib.hid (cutsR_eq oa ob)
 have HOA:=Lib.hid oa
 have HOB:=Lib.hid ob
 have hca:=cuts_len oa
 have hcb:=cuts_len ob
 have HPS:=Lib.hid (fun i=>putAllC_spec (b.cuts.take i) oa.inc)
 have HPL:=Lib.hid (show ∀ i,(putAllC a.cuts (b.cuts.take i)).length≤512 from fun i=>by have:=putAllC_len (b.cuts.take i) a.cuts;rw [List.length_take] at this;omega)
 obtain ⟨w1,hw1,e1,e2,e3,u1⟩:=three_rows w (.slice a1 a.cuts.length c1) (.slice a2 a.next.length c2) (.slice a3 a.acc.length c3) (.slice b1 b.cuts.length d1) (.slice b2 b.next.length d2) (.slice b3 b.acc.length d3) (.slice none 0 0) (.slice none 0 0) (.slice none 0 0) 39
 have HF:=Lib.hid (hF.ext u1)
 have HG:=Lib.hid (hG.ext u1)
 have HC0:=Lib.hid (show ∀ q,(Value.slice a1 a.cuts.length c1).ownBlock=some q→q<w.heap.size from fun q hq=>by
  obtain ⟨_,_,_,he,h3,_,_⟩:=hF
  cases he
  exact sl_lt h3 (List.length_pos_of_mem oa.mem0) hq)
 clear ha hb hF hG oa ob ea eb
 go_enter Tryz.func39,Tryz.ntmps39
 go_upto_region 1 with fail
 rw [←hw1]
 clear hw1
 have HKA:=Lib.hid (And.intro (e1.cell (i:=0) rfl) (And.intro (e1.cell (i:=1) rfl) (e1.cell (i:=2) rfl)))
 have HKB:=Lib.hid (And.intro (e2.cell (i:=0) rfl) (And.intro (e2.cell (i:=1) rfl) (e2.cell (i:=2) rfl)))
 have HB:=Lib.hid (And.intro e3 (And.intro u1 (show w.heap.size+2<w1.heap.size from e3.lt)))
 clear e1 e2 e3 u1
 generalize hpa:w.heap.size=pa at *
 have HCV0:=Lib.hid (show ∀ q,(Value.slice a1 a.cuts.length c1).ownBlock=some q→q≠pa+2 from fun q hq=>by have:=HC0.out q hq;omega)
 have HPA:=Lib.hid (Nat.le_of_eq hpa)
 clear hpa
 have k0:=HKA.out.1
 go_upto_region 2 with fail
 change Code.wp _ _ _ _ (w1.alloc (.cells #[.slice a1 a.cuts.length c1,.slice none 0 0,.slice none 0 0] 39))
 have HM0:=Lib.hid (show MkO 39 w1 w1.heap.size (.slice a1 a.cuts.length c1) (.slice none 0 0) (.slice none 0 0) a.cuts [] [] [] (w1.alloc (.cells #[.slice a1 a.cuts.length c1,.slice none 0 0,.slice none 0 0] 39)) from by
  have ua:=(Upd.refl [] w1).alloc (.cells #[.slice a1 a.cuts.length c1,.slice none 0 0,.slice none 0 0] 39)
  have hs:SL w1 1 (.slice a1 a.cuts.length c1) a.cuts.length (ints a.cuts):=by
   obtain ⟨_,_,_,he,h3,_,_⟩:=HF.out
   cases he
   exact h3
  have hlt:∀ q,(Value.slice a1 a.cuts.length c1).ownBlock=some q→q<w1.heap.size:=fun q hq=>sl_lt hs (List.length_pos_of_mem HOA.out.mem0) hq
  refine ⟨Blk.new w1 _ _,hs.upd ua (by simp),fun q hq=>⟨trivial,?_,by simp [Value.ownBlock],by simp [Value.ownBlock]⟩,OwnL.nil _ _ _,World.ownsRow_nil _ _ _ _,fun q hq=>by simp [Value.ownBlock] at hq,⟨by simp,by simp [Value.ownBlock],Nat.le_refl _⟩,ua,by simp,fun q hq=>?_⟩
  ·have:=hlt q hq;omega
  ·have:=hlt q hq;have:=ua.size;omega)
 generalize (w1.alloc (.cells #[.slice a1 a.cuts.length c1,.slice none 0 0,.slice none 0 0] 39))=w2 at *
 generalize hab:w1.heap.size=ab at *
 have HAB:=Lib.hid (show pa+2<ab by have:=HB.out.2.2;omega)
 have HABE:=Lib.hid hab
 clear k0 hab
 go_wp2_with fail
 go_loopw [9] (fun kv wr=>∃ (i:Nat) (cv:Value),kv=.int .i64 i∧i≤b.cuts.length∧Hid (MkO 39 w1 ab cv (.slice none 0 0) (.slice none 0 0) (putAllC a.cuts (b.cuts.take i)) [] [] [] wr∧∀ q,cv.ownBlock=some q→q≠pa+2)) (fun kv _=>b.cuts.length - (intOf kv).toNat)
 case atStart=>exact ⟨0,_,rfl,Nat.zero_le _,Lib.hid ⟨HM0.out,HCV0.out⟩⟩
 case round=>
  obtain ⟨i,cv,rfl,hi,HI⟩:=hrel
  obtain ⟨cva,cvc,rfl,_⟩:=id HI.out.1.cu.elems
  have l0:=HI.out.1.u.some HKB.out.1 (by simp)
  by_cases hlt:i<b.cuts.length
  ·have hli:(i:Int)<b.cuts.length:=by omega
   have q0:=HI.out.1.bx.cell (i:=0) rfl
   have qf:∀ q,wr.frozen? ⟨ab,q,none⟩=false:=HI.out.1.bx.free
   obtain ⟨gB,oB,hge,hcB⟩:=(HG.out.ext HI.out.1.u).cuts hlt
   cases hge
   have HPT:=Lib.hid (show ∀ (w5:World),Upd [] wr w5→Calls Tryz.prog 78 #[.slice cva (putAllC a.cuts (b.cuts.take i)).length cvc,.int .i64 (b.cuts.getD i 0)] w5 (SlF (putAllC a.cuts (b.cuts.take (i+1))) (.slice cva (putAllC a.cuts (b.cuts.take i)).length cvc) w5) from fun w5 u5=>by
    have e:b.cuts.take (i+1)=b.cuts.take i++[b.cuts.getD i 0]:=by rw [List.take_add_one,gd_some (d:=0) hlt];rfl
    rw [e,putAllC_one]
    exact Put_callsF (HI.out.1.cu.upd u5 (by simp)) (by have:=HPL.out i;omega) _)
   have HLN:=Lib.hid (show 0<(putAllC a.cuts (b.cuts.take (i+1))).length from List.length_pos_of_mem (((HPS.out (i+1)).2 0).2 (.inl HOA.out.mem0)))
   generalize b.cuts.getD i 0=bc at *
   go_upto_region 5 with fail
   refine wp_region_ord 7 3 [0,1,2,3,4,5,6,8] [1,3,6] [0,1,2,3,4,5,6,7,8,9] (fun w'=>∃ x:Ext wr,w'=x.val) (by kernel_rfl) (by kernel_rfl) (Ext.of (by iterate 25 (first|exact Upd.refl _ _|assumption|refine Upd.alloc ?_ _|refine Upd.drew ?_|refine Upd.drewN ?_ _|refine Upd.dl ?_|refine Upd.step ?_ (Ext.upd _)|refine Upd.nil ?_|skip))) ?_
   repeat (first|(refine wpOrd_load rfl rfl rfl rfl (fun K hK=>?_);go_big_quiet_step (fail);refine wpQuiet_nil ?_;refine hK _ ?_;clear hK K)|(refine wpOrd_free rfl rfl rfl (fun K hK=>?_);go_big_quiet_step (fail);refine wpQuiet_nil ?_;refine hK _ ?_;clear hK K))
   refine wpOrd_fix rfl rfl (fun K hK=>?_)
   go_wp2_with (go_at_call 78;refine (HPT.out _ (by iterate 25 (first|exact Upd.refl _ _|assumption|refine Upd.alloc ?_ _|refine Upd.drew ?_|refine Upd.drewN ?_ _|refine Upd.dl ?_|refine Upd.step ?_ (Ext.upd _)|refine Upd.nil ?_|skip))).mono ?_;rintro e w6 ⟨cv',rfl,s6,u6,k6⟩;obtain ⟨a6,c6,rfl,_⟩:=id s6.elems)
   have H6:=Lib.hid (And.intro s6 (And.intro (show Upd [] wr w6 from Upd.step (by iterate 25 (first|exact Upd.refl _ _|assumption|refine Upd.alloc ?_ _|refine Upd.drew ?_|refine Upd.drewN ?_ _|refine Upd.dl ?_|refine Upd.step ?_ (Ext.upd _)|refine Upd.nil ?_|skip)) u6) (fun q hq=>(k6 q hq).imp id fun h=>Nat.le_trans (Upd.size (show Upd [] wr _ from (by iterate 25 (first|exact Upd.refl _ _|assumption|refine Upd.alloc ?_ _|refine Upd.drew ?_|refine Upd.drewN ?_ _|refine Upd.dl ?_|refine Upd.step ?_ (Ext.upd _)|refine Upd.nil ?_|skip)))) h)))
   have q6:=H6.out.2.1.some q0 (by simp)
   have f6:∀ q,w6.frozen? ⟨ab,q,none⟩=false:=(HI.out.1.bx.upd H6.out.2.1 (by simp)).free
   clear s6 k6 u6 q0 qf
   refine ⟨fun hC=>absurd hC (by decide),?_⟩
   repeat (first|(refine wpOrd_load rfl rfl rfl rfl (fun K hK=>?_);go_big_quiet_step (fail);refine wpQuiet_nil ?_;refine hK _ ?_;clear hK K)|(refine wpOrd_free rfl rfl rfl (fun K hK=>?_);go_big_quiet_step (fail);refine wpQuiet_nil ?_;refine hK _ ?_;clear hK K))
   refine wpOrd_fix rfl rfl (fun K hK=>?_)
   go_wp2_with fail
   refine ⟨fun hC=>absurd hC (by decide),?_⟩
   refine wpOrd_nil ?_
   go_wp2_with fail
   refine ⟨⟨i+1,_,by go_num,by omega,Lib.hid ⟨(HI.out.1.quiet H6.out.2.1).cuts H6.out.1 (fun q hq=>?_),fun q hq=>?_⟩⟩,by simp [intOf];omega⟩
   ·have hlt6:=sl_lt H6.out.1 HLN.out hq
    rcases H6.out.2.2 q hq with h|h
    ·obtain ⟨h1,h2,h3,h4⟩:=HI.out.1.cn q h
     exact ⟨h1,h2,h3,h4,hlt6⟩
    ·have:=HI.out.1.bx.lt
     exact ⟨trivial,by omega,by simp [Value.ownBlock],by simp [Value.ownBlock],hlt6⟩
   ·rcases H6.out.2.2 q hq with h|h
    ·exact HI.out.2 q h
    ·have:=HI.out.1.bx.lt
     have:=HAB.out
     omega
  ·have hie:i=b.cuts.length:=by omega
   subst hie
   have e:putAllC a.cuts (b.cuts.take b.cuts.length)=cutsB a b:=by rw [List.take_length];exact HCE.out
   rw [e] at HI
   have HCV:=Lib.hid (fun (wz:World) (hz:SL wz 1 (.slice cva (cutsB a b).length cvc) (cutsB a b).length (ints (cutsB a b))) (wy:World) (hu:Upd [pa+2] wz wy)=>hz.upd hu (fun b hb hv=>HI.out.2 _ hv (by simpa using hb)))
   have HI:=Lib.hid HI.out.1
   have hmem:∀ c∈cutsB a b,0≤c∧c≤255:=fun c hc=>by
    unfold cutsB at hc
    rw [srtC_mem,List.mem_append] at hc
    exact hc.elim (fun h=>⟨HOA.out.nonneg c h,HOA.out.top c h⟩) (fun h=>⟨HOB.out.nonneg c h,HOB.out.top c h⟩)
   have h0:0<(cutsB a b).length:=List.length_pos_of_mem (by unfold cutsB;rw [srtC_mem];exact List.mem_append_left _ HOA.out.mem0)
   have hm:(cutsB a b).length≤512:=by have:=HPL.out b.cuts.length;rw [e] at this;exact this
   clear e HCE HPS HPL
   generalize cutsB a b=cs at *
   have HCS:=Lib.hid (And.intro hmem h0)
   obtain ⟨ca',cc',hce,_,_,hcc⟩:=SL.elems HI.out.cu
   cases hce
   obtain ⟨gc,oc,rfl,_⟩:=hcc h0
   clear hcc hmem
   obtain ⟨w3,rfl⟩:∃ w3:World,w3=wr:=⟨_,rfl⟩
   have hni:¬ ((b.cuts.length:Int)<b.cuts.length):=by omega
   go_upto_region 7 with fail
   clear hni l0
   have HBS:=Lib.hid (show BoS w1 ab (.slice (some ⟨gc,oc,none⟩) cs.length cvc) (.slice none 0 0) (.slice none 0 0) (.slice (some ⟨w3.heap.size,0,none⟩) 1 1) (.slice none 0 0) cs [] [] [] [(0,0)] [] (w3.alloc (.cells #[.int .i64 0,.int .i64 0] 129)) from by
    have ul:=(Upd.refl [] w3).alloc (.cells #[.int .i64 0,.int .i64 0] 129)
    have hz:=HI.out.u.size
    refine ⟨HI.out.quiet ul,⟨by decide,.inr ⟨w3.heap.size,1,#[.int .i64 0,.int .i64 0],rfl,Nat.zero_le _,Blk.new w3 [.int .i64 0,.int .i64 0] 129,Nat.le_refl _,by decide,by decide,by simp [pcs]⟩⟩,fun q hq=>?_,World.ownsRow_nil _ _ _ _,by simp [Value.ownBlock]⟩
    simp only [Value.ownBlock,Option.some.injEq] at hq
    subst hq
    refine ⟨hz,by simp,fun hc=>?_⟩
    have:=HI.out.cl _ hc
    omega)
   change Code.wp _ _ _ _ (w3.alloc (.cells #[.int .i64 0,.int .i64 0] 129))
   generalize (w3.alloc (.cells #[.int .i64 0,.int .i64 0] 129))=w4 at *
   generalize w3.heap.size=lb at *
   go_wp2_with fail
   go_loopw [10,11] (fun lx ix wr=>∃ (i:Nat) (S:List (Nat × Nat)) (T:List (List Nat)) (F:List Nat) (nv av lv:Value),lv=lx∧ix=.int .i64 i∧i≤S.length∧S.length≤256∧Hid (upTo (0,0) cs.length (bothNx a b cs) i=(S,T)∧(∀ p∈S,p.1<a.next.length∧p.2<b.next.length)∧BoS w1 ab (.slice (some ⟨gc,oc,none⟩) cs.length cvc) nv av lv (.slice none 0 0) cs (natRows T) ((S.take i).map (accB a b or_)) F S [] wr∧T.length=i)) (fun _ ix _=>256 - (intOf ix).toNat)
   case atStart=>exact ⟨0,[(0,0)],[],[],_,_,_,rfl,rfl,Nat.zero_le _,by simp,Lib.hid ⟨rfl,fun p hp=>by simp at hp;subst hp;exact ⟨HOA.out.some_,HOB.out.some_⟩,HBS.out,rfl⟩⟩
   case round=>
    obtain ⟨i,S,T,F,nv,av,lv,rfl,rfl,hi,h256,HI⟩:=hrel
    obtain ⟨la,lc,rfl,_⟩:=(OwW.start HI.out.2.2.1.l).form
    obtain ⟨wo,rfl⟩:∃ wo:World,wo=wr:=⟨_,rfl⟩
    by_cases hlt:i<S.length
    ·have hli:(i:Int)<S.length:=by omega
     have hs0:=List.getElem?_eq_getElem hlt
     generalize S[i]=s at *
     obtain ⟨sx,sy⟩:=s
     have HS0:=Lib.hid hs0
     clear hs0
     go_wp2_with fail
     go_loopw [10,12,13] (fun lx nx12 kx wr=>∃ (k:Nat) (S':List (Nat × Nat)) (row:List Nat) (lv nx:Value),lv=lx∧nx=nx12∧kx=.int .i64 k∧k≤cs.length∧S'.length≤S.length+k∧Hid (scan (bothNx a b cs (sx,sy)) k S=(S',row)∧(∀ p∈S',p.1<a.next.length∧p.2<b.next.length)∧BoS w1 ab (.slice (some ⟨gc,oc,none⟩) cs.length cvc) nv av lv nx cs (natRows T) ((S.take i).map (accB a b or_)) F S' (row.map Int.ofNat) wr∧S'[i]?=some (sx,sy))) (fun _ _ kx _=>cs.length - (intOf kx).toNat)
     case atStart=>exact ⟨0,S,[],_,_,rfl,rfl,rfl,Nat.zero_le _,by omega,Lib.hid ⟨rfl,HI.out.2.1,HI.out.2.2.1,HS0.out⟩⟩
     case round=>
      obtain ⟨k,S',row,lv,nx,rfl,rfl,rfl,hk,hlen,HJ⟩:=hrel
      obtain ⟨la2,lc2,rfl,_,_,hcell⟩:=(OwW.start HJ.out.2.2.1.l).form
      obtain ⟨na,nc,hnx,_⟩:=(SL.of_owns HJ.out.2.2.1.rw).elems
      rw [List.length_map] at hnx
      subst hnx
      have q0:=HJ.out.2.2.1.m.bx.cell (i:=0) rfl
      by_cases hk2:k<cs.length
      ·have hki:(k:Int)<cs.length:=by omega
       obtain ⟨cA,cC,hce,_,_,hcc⟩:=SL.elems HJ.out.2.2.1.m.cu
       cases hce
       obtain ⟨gA,oA,hge,hcellc⟩:=hcc (by omega)
       cases hge
       have hck:=List.getElem?_eq_getElem hk2
       have hcy:=HCS.out.1 _ (List.mem_of_getElem? hck)
       have HQ:=Lib.hid (show bothNx a b cs (sx,sy) k=(stepA a sx cs[k],stepA b sy cs[k]) from by unfold bothNx;rw [List.getD_eq_getElem?_getD,hck];rfl)
       have ck:=hcellc k (.int .i64 cs[k]) (ints_get hck)
       generalize cs[k]=c at *
       have hi':i<S'.length:=(List.getElem?_eq_some_iff.1 HJ.out.2.2.2).1
       have hii:(i:Int)<S'.length:=by omega
       obtain ⟨lg,rfl,hcell2⟩:=hcell (by omega) (by decide)
       have e0:=hcell2 _ _ (pcs_at HJ.out.2.2.2).1
       have e1:=hcell2 _ _ (pcs_at HJ.out.2.2.2).2
       simp only at e0 e1
       have hgs:=HJ.out.2.1 _ (List.mem_of_getElem? HJ.out.2.2.2)
       simp only at hgs
       have HU:=Lib.hid HJ.out.2.2.1.m.u
       obtain ⟨ga,oa,rga,roa,rca,hea,ra1,ra2,hka,hra1,hra2⟩:=row_cell (HF.out.ext HU.out) HOA.out hgs.1 hcy.1
       obtain ⟨gb,ob,rgb,rob,rcb,heb,rb1,rb2,hkb,hrb1,hrb2⟩:=row_cell (HG.out.ext HU.out) HOB.out hgs.2 hcy.1
       have hpa1:=step_lt HOA.out hgs.1 hcy.1
       have hpb1:=step_lt HOB.out hgs.2 hcy.1
       have HPB:=Lib.hid (And.intro hpa1 hpb1)
       have HCA:=Lib.hid (fun (w5:World) (u5:Upd [] wr w5)=>ClassR_calls (w:=w5) (v:=.slice a1 a.cuts.length c1) (cs:=a.cuts) (c:=c) (by
        obtain ⟨_,_,_,he,h3,_,_⟩:=HF.out
        cases he
        exact (h3.upd HU.out (by simp)).upd u5 (by simp)) HOA.out.mem0 (by omega) HOA.out.inc hcy.1 hcy.2)
       have HCB:=Lib.hid (fun (w5:World) (u5:Upd [] wr w5)=>ClassR_calls (w:=w5) (v:=.slice b1 b.cuts.length d1) (cs:=b.cuts) (c:=c) (by
        obtain ⟨_,_,_,he,h3,_,_⟩:=HG.out
        cases he
        exact (h3.upd HU.out (by simp)).upd u5 (by simp)) HOB.out.mem0 (by omega) HOB.out.inc hcy.1 hcy.2)
       subst hea
       subst heb
       have hsx:(sx:Int)<a.next.length:=by omega
       have hsy:(sy:Int)<b.next.length:=by omega
       generalize cls a.cuts c=ka at *
       generalize cls b.cuts c=kb at *
       generalize stepA a sx c=px at *
       generalize stepA b sy c=py at *
       have hkai:(ka:Int)<a.cuts.length:=by omega
       have hkbi:(kb:Int)<b.cuts.length:=by omega
       have k0:=HU.out.some HKA.out.1 (by simp)
       have k1:=HU.out.some HKA.out.2.1 (by simp)
       have l0:=HU.out.some HKB.out.1 (by simp)
       have l1:=HU.out.some HKB.out.2.1 (by simp)
       clear hcell hcell2 hcellc hcc hck hpa1 hpb1
       go_upto_region 15 with fail
       go_cut [15] (fun x15 w'=>∃ xb,x15=.pointer (some ⟨xb,0,none⟩)∧Blk w' xb [.int .i64 px,.int .i64 py] 129∧Upd [] wr w')
       case first=>
        go_wp2_with fail
        refine wp_region_wa 33 32 (fun w'=>∃ x:Ext wr,w'=x.val) (by kernel_rfl) (by kernel_rfl) (Ext.of (by iterate 25 (first|exact Upd.refl _ _|assumption|refine Upd.alloc ?_ _|refine Upd.drew ?_|refine Upd.drewN ?_ _|refine Upd.dl ?_|refine Upd.step ?_ (Ext.upd _)|refine Upd.nil ?_|skip))) ?_
        (refine WA.free 0 rfl rfl (by kernel_rfl) (fun K hK=>?_);go_big_quiet_step (fail);refine wpQuiet_nil ?_;refine hK _ ?_;clear hK K)
        (refine WA.load 1 32 rfl rfl (by kernel_rfl) (by kernel_rfl) (fun K hK=>?_);go_big_quiet_step (fail);refine wpQuiet_nil ?_;refine hK _ ?_;clear hK K)
        (refine WA.free 2 rfl rfl (by kernel_rfl) (fun K hK=>?_);go_big_quiet_step (fail);refine wpQuiet_nil ?_;refine hK _ ?_;clear hK K);(refine WA.free 3 rfl rfl (by kernel_rfl) (fun K hK=>?_);go_big_quiet_step (fail);refine wpQuiet_nil ?_;refine hK _ ?_;clear hK K);(refine WA.free 4 rfl rfl (by kernel_rfl) (fun K hK=>?_);go_big_quiet_step (fail);refine wpQuiet_nil ?_;refine hK _ ?_;clear hK K);(refine WA.free 5 rfl rfl (by kernel_rfl) (fun K hK=>?_);go_big_quiet_step (fail);refine wpQuiet_nil ?_;refine hK _ ?_;clear hK K)
        (refine WA.load 6 32 rfl rfl (by kernel_rfl) (by kernel_rfl) (fun K hK=>?_);go_big_quiet_step (fail);refine wpQuiet_nil ?_;refine hK _ ?_;clear hK K)
        (refine WA.free 7 rfl rfl (by kernel_rfl) (fun K hK=>?_);go_big_quiet_step (fail);refine wpQuiet_nil ?_;refine hK _ ?_;clear hK K)
        (refine WA.load 8 32 rfl rfl (by kernel_rfl) (by kernel_rfl) (fun K hK=>?_);go_big_quiet_step (fail);refine wpQuiet_nil ?_;refine hK _ ?_;clear hK K)
        (refine WA.free 9 rfl rfl (by kernel_rfl) (fun K hK=>?_);go_big_quiet_step (fail);refine wpQuiet_nil ?_;refine hK _ ?_;clear hK K)
        (refine WA.load 10 32 rfl rfl (by kernel_rfl) (by kernel_rfl) (fun K hK=>?_);go_big_quiet_step (fail);refine wpQuiet_nil ?_;refine hK _ ?_;clear hK K)
        (refine WA.free 11 rfl rfl (by kernel_rfl) (fun K hK=>?_);go_big_quiet_step (fail);refine wpQuiet_nil ?_;refine hK _ ?_;clear hK K);(refine WA.free 15 rfl rfl (by kernel_rfl) (fun K hK=>?_);go_big_quiet_step (fail);refine wpQuiet_nil ?_;refine hK _ ?_;clear hK K)
        (refine WA.load 16 32 rfl rfl (by kernel_rfl) (by kernel_rfl) (fun K hK=>?_);go_big_quiet_step (fail);refine wpQuiet_nil ?_;refine hK _ ?_;clear hK K)
        (refine WA.free 17 rfl rfl (by kernel_rfl) (fun K hK=>?_);go_big_quiet_step (fail);refine wpQuiet_nil ?_;refine hK _ ?_;clear hK K);(refine WA.free 18 rfl rfl (by kernel_rfl) (fun K hK=>?_);go_big_quiet_step (fail);refine wpQuiet_nil ?_;refine hK _ ?_;clear hK K);(refine WA.free 19 rfl rfl (by kernel_rfl) (fun K hK=>?_);go_big_quiet_step (fail);refine wpQuiet_nil ?_;refine hK _ ?_;clear hK K);(refine WA.free 20 rfl rfl (by kernel_rfl) (fun K hK=>?_);go_big_quiet_step (fail);refine wpQuiet_nil ?_;refine hK _ ?_;clear hK K)
        (refine WA.load 21 32 rfl rfl (by kernel_rfl) (by kernel_rfl) (fun K hK=>?_);go_big_quiet_step (fail);refine wpQuiet_nil ?_;refine hK _ ?_;clear hK K)
        (refine WA.free 22 rfl rfl (by kernel_rfl) (fun K hK=>?_);go_big_quiet_step (fail);refine wpQuiet_nil ?_;refine hK _ ?_;clear hK K)
        (refine WA.load 23 32 rfl rfl (by kernel_rfl) (by kernel_rfl) (fun K hK=>?_);go_big_quiet_step (fail);refine wpQuiet_nil ?_;refine hK _ ?_;clear hK K)
        (refine WA.free 24 rfl rfl (by kernel_rfl) (fun K hK=>?_);go_big_quiet_step (fail);refine wpQuiet_nil ?_;refine hK _ ?_;clear hK K)
        (refine WA.load 25 32 rfl rfl (by kernel_rfl) (by kernel_rfl) (fun K hK=>?_);go_big_quiet_step (fail);refine wpQuiet_nil ?_;refine hK _ ?_;clear hK K)
        (refine WA.free 26 rfl rfl (by kernel_rfl) (fun K hK=>?_);go_big_quiet_step (fail);refine wpQuiet_nil ?_;refine hK _ ?_;clear hK K)
        refine WA.two 12 31 (by kernel_rfl) (Do_.mk rfl (fun K hK=>?_)) (Do_.mk rfl (fun K hK=>?_))
        ·go_wp2_with ((with_reducible refine (HCA.out _ (by iterate 25 (first|exact Upd.refl _ _|assumption|refine Upd.alloc ?_ _|refine Upd.drew ?_|refine Upd.drewN ?_ _|refine Upd.dl ?_|refine Upd.step ?_ (Ext.upd _)|refine Upd.nil ?_|skip))).mono ?_);rintro e w5 ⟨rfl,u5⟩)
         have U5:=Lib.hid (show Upd [] wr w5 from Upd.step (by iterate 25 (first|exact Upd.refl _ _|assumption|refine Upd.alloc ?_ _|refine Upd.drew ?_|refine Upd.drewN ?_ _|refine Upd.dl ?_|refine Upd.step ?_ (Ext.upd _)|refine Upd.nil ?_|skip)) u5)
         clear u5
         have ra3:=U5.out.some ra2 (by simp)
         have rb3:=U5.out.some rb2 (by simp)
         refine WA.keep (Ext.of U5.out) ?_
         (refine WA.free 13 rfl rfl (by kernel_rfl) (fun K hK=>?_);go_big_quiet_step (fail);refine wpQuiet_nil ?_;refine hK _ ?_;clear hK K)
         (refine WA.load 14 32 rfl rfl (by kernel_rfl) (by kernel_rfl) (fun K hK=>?_);go_big_quiet_step (fail);refine wpQuiet_nil ?_;refine hK _ ?_;clear hK K)
         refine WA.two 27 31 (by kernel_rfl) (Do_.mk rfl (fun K hK=>?_)) (Do_.mk rfl (fun K hK=>?_))
         ·go_wp2_with ((with_reducible refine (HCB.out _ U5.out).mono ?_);rintro e w6 ⟨rfl,u6⟩)
          have U6:=Lib.hid (show Upd [] wr w6 from Upd.step U5.out u6)
          have rb4:=U6.out.some rb2 (by simp)
          clear u6
          refine WA.keep (Ext.of U6.out) ?_
          (refine WA.free 28 rfl rfl (by kernel_rfl) (fun K hK=>?_);go_big_quiet_step (fail);refine wpQuiet_nil ?_;refine hK _ ?_;clear hK K)
          (refine WA.load 29 32 rfl rfl (by kernel_rfl) (by kernel_rfl) (fun K hK=>?_);go_big_quiet_step (fail);refine wpQuiet_nil ?_;refine hK _ ?_;clear hK K)
          (refine WA.free 30 rfl rfl (by kernel_rfl) (fun K hK=>?_);go_big_quiet_step (fail);refine wpQuiet_nil ?_;refine hK _ ?_;clear hK K)
          refine WA.one 31 (by kernel_rfl) (Do_.mk rfl (fun K hK=>?_))
          go_wp2_with fail
          have HZ:=Lib.hid (show Blk (w6.alloc (.cells #[.int .i64 0,.int .i64 0] 129)) w6.heap.size [.int .i64 0,.int .i64 0] 129∧Upd [] w6 (w6.alloc (.cells #[.int .i64 0,.int .i64 0] 129)) from ⟨Blk.new w6 [.int .i64 0,.int .i64 0] _,(Upd.refl [] w6).alloc _⟩)
          generalize (w6.alloc (.cells #[.int .i64 0,.int .i64 0] 129))=wB at *
          have HXB:=Lib.hid (show wr.heap.size≤w6.heap.size from U6.out.size)
          generalize w6.heap.size=xb at *
          have UB:=Lib.hid (U6.out.step HZ.out.2)
          refine WA.keep (Ext.of UB.out) ?_
          have s0:=HZ.out.1.cell (i:=0) rfl
          have s1:=HZ.out.1.cell (i:=1) rfl
          have sf:∀ q,wB.frozen? ⟨xb,q,none⟩=false:=HZ.out.1.free
          refine WA.one 32 (by kernel_rfl) (Do_.mk rfl (fun K hK=>?_))
          go_wp2_with fail
          refine WA.past (by kernel_rfl) ?_
          refine WA.nil (by kernel_rfl) ?_
          go_wp2_with fail
          go_meet
          case rel=>
           have hs:=box2_set (a:=.int .i64 px) (b:=.int .i64 py) HZ.out.1
           exact ⟨xb,rfl,hs.1,UB.out.fresh hs.2 (fun b hb=>.inr (by simp at hb;subst hb;exact HXB.out))⟩
         ·go_wp2_with fail
          have HZ:=Lib.hid (show Blk (w5.alloc (.cells #[.int .i64 0,.int .i64 0] 129)) w5.heap.size [.int .i64 0,.int .i64 0] 129∧Upd [] w5 (w5.alloc (.cells #[.int .i64 0,.int .i64 0] 129)) from ⟨Blk.new w5 [.int .i64 0,.int .i64 0] _,(Upd.refl [] w5).alloc _⟩)
          generalize (w5.alloc (.cells #[.int .i64 0,.int .i64 0] 129))=wB at *
          have HXB:=Lib.hid (show wr.heap.size≤w5.heap.size from U5.out.size)
          generalize w5.heap.size=xb at *
          have UB:=Lib.hid (U5.out.step HZ.out.2)
          refine WA.keep (Ext.of UB.out) ?_
          have rb5:=UB.out.some rb2 (by simp)
          refine WA.one 27 (by kernel_rfl) (Do_.mk rfl (fun K hK=>?_))
          go_wp2_with ((with_reducible refine (HCB.out _ UB.out).mono ?_);rintro e w6 ⟨rfl,u6⟩)
          have U6:=Lib.hid (show Upd [] wr w6 from Upd.step UB.out u6)
          have rb4:=U6.out.some rb2 (by simp)
          have HZ6:=Lib.hid (HZ.out.1.upd u6 (by simp))
          clear u6
          refine WA.keep (Ext.of U6.out) ?_
          (refine WA.free 28 rfl rfl (by kernel_rfl) (fun K hK=>?_);go_big_quiet_step (fail);refine wpQuiet_nil ?_;refine hK _ ?_;clear hK K)
          (refine WA.load 29 32 rfl rfl (by kernel_rfl) (by kernel_rfl) (fun K hK=>?_);go_big_quiet_step (fail);refine wpQuiet_nil ?_;refine hK _ ?_;clear hK K)
          (refine WA.free 30 rfl rfl (by kernel_rfl) (fun K hK=>?_);go_big_quiet_step (fail);refine wpQuiet_nil ?_;refine hK _ ?_;clear hK K)
          have s0:=HZ6.out.cell (i:=0) rfl
          have s1:=HZ6.out.cell (i:=1) rfl
          have sf:∀ q,w6.frozen? ⟨xb,q,none⟩=false:=HZ6.out.free
          refine WA.one 32 (by kernel_rfl) (Do_.mk rfl (fun K hK=>?_))
          go_wp2_with fail
          refine WA.past (by kernel_rfl) ?_
          refine WA.nil (by kernel_rfl) ?_
          go_wp2_with fail
          go_meet
          case rel=>
           have hs:=box2_set (a:=.int .i64 px) (b:=.int .i64 py) HZ6.out
           exact ⟨xb,rfl,hs.1,U6.out.fresh hs.2 (fun b hb=>.inr (by simp at hb;subst hb;exact HXB.out))⟩
        ·go_wp2_with fail
         have HZ:=Lib.hid (show Blk ((wr.alloc (.cells #[.int .i64 0,.int .i64 0] 129)).drew) wr.heap.size [.int .i64 0,.int .i64 0] 129∧Upd [] wr ((wr.alloc (.cells #[.int .i64 0,.int .i64 0] 129)).drew) from ⟨Blk.new wr [.int .i64 0,.int .i64 0] 129,((Upd.refl [] wr).alloc (.cells #[.int .i64 0,.int .i64 0] 129)).drew⟩)
         generalize ((wr.alloc (.cells #[.int .i64 0,.int .i64 0] 129)).drew)=wB at *
         obtain ⟨xb,hxe⟩:∃ xb,wr.heap.size=xb:=⟨_,rfl⟩
         rw [hxe] at HZ ⊢
         have HXB:=Lib.hid (Nat.le_of_eq hxe)
         clear hxe
         refine WA.keep (Ext.of HZ.out.2) ?_
         refine WA.one 12 (by kernel_rfl) (Do_.mk rfl (fun K hK=>?_))
         go_wp2_with ((with_reducible refine (HCA.out _ HZ.out.2).mono ?_);rintro e w5 ⟨rfl,u5⟩)
         have U5:=Lib.hid (show Upd [] wr w5 from Upd.step HZ.out.2 u5)
         have HZ5:=Lib.hid (HZ.out.1.upd u5 (by simp))
         clear u5
         have ra3:=U5.out.some ra2 (by simp)
         have rb3:=U5.out.some rb2 (by simp)
         refine WA.keep (Ext.of U5.out) ?_
         (refine WA.free 13 rfl rfl (by kernel_rfl) (fun K hK=>?_);go_big_quiet_step (fail);refine wpQuiet_nil ?_;refine hK _ ?_;clear hK K)
         (refine WA.load 14 32 rfl rfl (by kernel_rfl) (by kernel_rfl) (fun K hK=>?_);go_big_quiet_step (fail);refine wpQuiet_nil ?_;refine hK _ ?_;clear hK K)
         refine WA.one 27 (by kernel_rfl) (Do_.mk rfl (fun K hK=>?_))
         go_wp2_with ((with_reducible refine (HCB.out _ U5.out).mono ?_);rintro e w6 ⟨rfl,u6⟩)
         have U6:=Lib.hid (show Upd [] wr w6 from Upd.step U5.out u6)
         have rb4:=U6.out.some rb2 (by simp)
         have HZ6:=Lib.hid (HZ5.out.upd u6 (by simp))
         clear u6
         refine WA.keep (Ext.of U6.out) ?_
         (refine WA.free 28 rfl rfl (by kernel_rfl) (fun K hK=>?_);go_big_quiet_step (fail);refine wpQuiet_nil ?_;refine hK _ ?_;clear hK K)
         (refine WA.load 29 32 rfl rfl (by kernel_rfl) (by kernel_rfl) (fun K hK=>?_);go_big_quiet_step (fail);refine wpQuiet_nil ?_;refine hK _ ?_;clear hK K)
         (refine WA.free 30 rfl rfl (by kernel_rfl) (fun K hK=>?_);go_big_quiet_step (fail);refine wpQuiet_nil ?_;refine hK _ ?_;clear hK K)
         have s0:=HZ6.out.cell (i:=0) rfl
         have s1:=HZ6.out.cell (i:=1) rfl
         have sf:∀ q,w6.frozen? ⟨xb,q,none⟩=false:=HZ6.out.free
         refine WA.one 32 (by kernel_rfl) (Do_.mk rfl (fun K hK=>?_))
         go_wp2_with fail
         refine WA.past (by kernel_rfl) ?_
         refine WA.nil (by kernel_rfl) ?_
         go_wp2_with fail
         go_meet
         case rel=>
          have hs:=box2_set (a:=.int .i64 px) (b:=.int .i64 py) HZ6.out
          exact ⟨xb,rfl,hs.1,U6.out.fresh hs.2 (fun b hb=>.inr (by simp at hb;subst hb;exact HXB.out))⟩
       case rest=>
       obtain ⟨xb,rfl,hBX,uc⟩:=hcut
       have HJ2:=Lib.hid (HJ.out.2.2.1.quiet uc)
       have d0:=hBX.cell (i:=0) rfl
       have d1:=hBX.cell (i:=1) rfl
       have HRL:=Lib.hid (show row.length=k from by have:=scan_len (bothNx a b cs (sx,sy)) k S;rw [HJ.out.1] at this;exact this)
       have hrl:row.length≤512:=by rw [HRL.out];omega
       have HDD:=Lib.hid (And.intro d0 d1)
       clear d0 d1 hBX uc ra1 ra2 rb1 rb2 q0 ck e0 e1 HCA HCB k0 k1 l0 l1
       go_wp2_with fail
       go_loopw [16] (fun nx wr2=>∃ n:Nat,nx=.int .i64 n∧n≤place S' (px,py)∧∃ x:Ext wc,wr2=x.val) (fun nx _=>S'.length+1 - (intOf nx).toNat)
       case atStart=>exact ⟨0,rfl,Nat.zero_le _,Ext.of (by iterate 25 (first|exact Upd.refl _ _|assumption|refine Upd.alloc ?_ _|refine Upd.drew ?_|refine Upd.drewN ?_ _|refine Upd.dl ?_|refine Upd.step ?_ (Ext.upd _)|refine Upd.nil ?_|skip))⟩
       case round=>
        obtain ⟨n,rfl,hn,x,rfl⟩:=hrel
        have HX:=Lib.hid x.upd
        generalize x.val=wd at *
        have hpl:=place_le S' (px,py)
        have HJ3:=Lib.hid (HJ2.out.quiet HX.out)
        have d0:=HX.out.some HDD.out.1 (by simp)
        have d1:=HX.out.some HDD.out.2 (by simp)
        have HRW:=Lib.hid (show wd.ownsRow 0 3 1 (.slice na row.length nc) row.length (ints (row.map Int.ofNat)) from by have:=HJ3.out.rw;rwa [List.length_map] at this)
        by_cases hnl:n<S'.length
        ·have hni:(n:Int)<S'.length:=by omega
         have hsn:=List.getElem?_eq_getElem hnl
         generalize S'[n]=z at *
         obtain ⟨zx,zy⟩:=z
         obtain ⟨la3,lc3,hle3,_,_,hcell3⟩:=(OwW.start HJ3.out.l).form
         cases hle3
         obtain ⟨lg3,hlg3,hcell4⟩:=hcell3 (by omega) (by decide)
         cases hlg3
         have e0:=hcell4 _ _ (pcs_at hsn).1
         have e1:=hcell4 _ _ (pcs_at hsn).2
         simp only at e0 e1
         have HSN:=Lib.hid hsn
         clear hcell3 hcell4 hsn
         by_cases hz:(zx,zy)=(px,py)
         ·have HPF:=Lib.hid (place_found hn (hz ▸ HSN.out))
          have HSC:=Lib.hid (scan_old' HJ.out.1 (by rw [HQ.out];exact hz ▸ List.mem_of_getElem? HSN.out))
          rw [HQ.out] at HSC
          cases hz
          have hnb:((n:Int) == S'.length)=false:=by simp;omega
          go_upto_region 17 with fail
          refine wp_region_qx (by kernel_rfl) (by kernel_rfl) ?_
          repeat (go_big_quiet_step ((fail)))
          refine wpQuiet_nil ?_
          intro x
          have HX2:=Lib.hid x.upd
          generalize x.val=we at *
          have HJ4:=Lib.hid (HJ3.out.quiet HX2.out)
          have HRW:=Lib.hid (ownsRow_updL HRW.out HX2.out (by simp))
          clear d0 d1 e0 e1
          go_wp2_with (refine wpList_push rfl rfl _ _ _ _ rfl rfl rfl 3 1 8 _ Tryz.underlying22 infoInt rfl (by decide) (by decide) (.int .i64 (n:Nat)) [.int .i64 (n:Nat)] rfl rfl rfl (by simp [Value.oneCell']) (.slice na row.length nc) _ _ HRW.out rfl rfl (by unfold maxLen;omega) (by omega) ?_;intro g7 c7 w7 o7 u7 k7)
          have HQ3:=HJ4.out.pushN (n:=((n:Nat):Int)) (by rw [List.length_map];exact o7) u7 k7
          rw [List.length_map] at HQ3
          exact ⟨⟨k+1,S',row++[n],_,_,rfl,rfl,by go_num,by omega,by omega,Lib.hid ⟨by rw [HSC.out,←HPF.out],HJ.out.2.1,by rw [List.map_append];exact HQ3,HJ.out.2.2.2⟩⟩,by simp [intOf];omega⟩
         ·have HPN:=Lib.hid (place_step hn HSN.out hz)
          have hzx:((zx:Int) == px)=false∨(zx=px∧((zy:Int) == py)=false):=by
           by_cases h1:zx=px
           ·right
            refine ⟨h1,?_⟩
            have h2:zy≠py:=fun h=>hz (by rw [h1,h])
            simp;omega
           ·left;simp;omega
          clear hz
          rcases hzx with hzx|⟨rfl,hzy⟩
          all_goals
           go_upto_region 17 with fail
           refine wp_region_qx (by kernel_rfl) (by kernel_rfl) ?_
           repeat (go_big_quiet_step ((fail)))
           refine wpQuiet_nil ?_
           intro x
           have HX2:=Lib.hid x.upd
           generalize x.val=we at *
           clear d0 d1 e0 e1
           go_wp2_with fail
           exact ⟨⟨n+1,by go_num,HPN.out,Ext.of (HX.out.step HX2.out)⟩,by simp [intOf];omega⟩
        ·have hne:n=S'.length:=by omega
         have HSC:=Lib.hid (scan_new' HJ.out.1 (f:=bothNx a b cs (sx,sy)) (k:=k) (by
          rw [HQ.out]
          intro hm
          have:=place_lt.2 hm
          omega))
         rw [HQ.out] at HSC
         subst hne
         have hnb:((S'.length:Int) == S'.length)=true:=by simp
         have hni:=decide_eq_false (show ¬ ((S'.length:Int)<S'.length) by omega)
         go_upto_region 17 with fail
         refine wp_region_qx (by kernel_rfl) (by kernel_rfl) ?_
         repeat (go_big_quiet_step ((fail)))
         refine wpQuiet_nil ?_
         intro x
         have HJ3:=Lib.hid (HJ3.out.quiet x.upd)
         have d0:=x.upd.some d0 (by simp)
         have d1:=x.upd.some d1 (by simp)
         generalize x.val=we at *
         have HLL:=Lib.hid HJ3.out.l
         have hsl:S'.length≤1000:=by omega
         go_upto_region 21 with (refine wpList_push rfl rfl _ _ _ _ rfl rfl rfl 129 2 16 _ Tryz.underlying130 infoPr rfl (by decide) (by decide) (.agg #[.int .i64 px,.int .i64 py]) [.int .i64 px,.int .i64 py] rfl rfl rfl (by simp [Value.oneCell']) (.slice (some ⟨lg,0,none⟩) S'.length lc2) _ _ HLL.out rfl rfl (by unfold maxLen;omega) (by omega) ?_;intro g6 c6 w6 o6 u6 k6)
         have HJ4:=Lib.hid (HJ3.out.pushP (p:=(px,py)) o6 u6 k6)
         have HRW:=Lib.hid (show w6.ownsRow 0 3 1 (.slice na row.length nc) row.length (ints (row.map Int.ofNat)) from by have:=HJ4.out.rw;rwa [List.length_map] at this)
         clear o6 u6 k6 d0 d1
         go_wp2_with (refine wpList_push rfl rfl _ _ _ _ rfl rfl rfl 3 1 8 _ Tryz.underlying22 infoInt rfl (by decide) (by decide) (.int .i64 (S'.length:Nat)) [.int .i64 (S'.length:Nat)] rfl rfl rfl (by simp [Value.oneCell']) (.slice na row.length nc) _ _ HRW.out rfl rfl (by unfold maxLen;omega) (by omega) ?_;intro g7 c7 w7 o7 u7 k7)
         have HQ3:=HJ4.out.pushN (n:=((S'.length:Nat):Int)) (by rw [List.length_map];exact o7) u7 k7
         rw [List.length_map] at HQ3
         refine ⟨⟨k+1,S'++[(px,py)],row++[S'.length],_,_,by first|rfl|simp,rfl,by go_num,by omega,by rw [List.length_append];simp;omega,Lib.hid ⟨HSC.out,?_,by rw [List.map_append];exact HQ3,?_⟩⟩,by simp [intOf];omega⟩
         ·intro z hz
          rcases List.mem_append.1 hz with hz|hz
          ·exact HJ.out.2.1 z hz
          ·simp at hz;subst hz;exact HPB.out
         ·have h1:=HJ.out.2.2.2
          rw [List.getElem?_append_left (List.getElem?_eq_some_iff.1 h1).1]
          exact h1
      ·have hke:k=cs.length:=by omega
       subst hke
       by_cases h257:256<S'.length
       ·have hgi:(256:Int)<S'.length:=by omega
        have HNO:=Lib.hid (HE.out.2 (both_over HI.out.1 HS0.out (by omega) HJ.out.1 h257))
        have bR:=HB.out.1.upd (HJ.out.2.2.1.m.u) (by simp)
        have r0:=bR.cell (i:=0) rfl
        have r1:=bR.cell (i:=1) rfl
        have r2:=bR.cell (i:=2) rfl
        have rf:∀ q,wr.frozen? ⟨pa+2,q,none⟩=false:=bR.free
        have HBR:=Lib.hid bR
        clear bR
        go_wp2_with fail
        have hs:=cell3_set (a:=.slice none 0 0) (b:=.slice none 0 0) (c:=.slice none 0 0) HBR.out
        rw [HNO.out.1,HNO.out.2]
        exact ret_rau2 rfl rfl rfl hs.1 rfl noA_F ((HB.out.2.1.step HJ.out.2.2.1.m.u).fresh hs.2 (fun b hb=>.inr (by simp at hb;subst hb;have:=HPA.out;omega)))
       ·have hgi:¬ (256:Int)<S'.length:=by omega
        have HT4:=Lib.hid (show T.length=i from HI.out.2.2.2)
        have HNT:=Lib.hid (show (natRows T).length≤256 from by unfold natRows;rw [List.length_map,HT4.out];omega)
        have HNS:=Lib.hid (show ((S.take i).map (accB a b or_)).length≤256 from by rw [List.length_map,List.length_take];omega)
        have HTK:=Lib.hid (show S'.take i=S.take i from by
         have h1:=scan_pre (bothNx a b cs (sx,sy)) cs.length S
         rw [HJ.out.1] at h1
         obtain ⟨r,hr⟩:=h1
         simp only at hr
         rw [←hr,List.take_append_of_le_length (by omega)])
        generalize hNN:natRows T=NT at *
        generalize hBB:(S.take i).map (accB a b or_)=BS at *
        have HNN:=Lib.hid (And.intro hNN hBB)
        clear hNN hBB
        obtain ⟨vals,hv1,hv2⟩:=id HJ.out.2.2.1.m.tb.ex
        have HV:=Lib.hid (And.intro hv1 hv2)
        clear hv1 hv2
        have q1:=HJ.out.2.2.1.m.bx.cell (i:=1) rfl
        clear hcell hlen
        go_upto_region 24 with fail
        go_upto_region 25 with (refine wpList_push rfl rfl _ _ _ _ rfl rfl rfl 22 1 24 _ Tryz.underlying28 infoInts rfl (by decide) (by decide) (.slice na row.length nc) [.slice na row.length nc] rfl rfl rfl (by simp [Value.oneCell']) nv _ _ HV.out.1.row rfl rfl (by have:=HNT.out;unfold maxLen;omega) (by have:=HNT.out;omega) ?_;intro g7 c7 w7 o7 u7 k7;have bx7:=HJ.out.2.2.1.m.bx.upd u7 (fun hm=>HJ.out.2.2.1.m.nn.2.1 (by simpa using hm));have p1:=bx7.cell (i:=1) rfl;have pf:∀ q,w7.frozen? ⟨ab,q,none⟩=false:=bx7.free;have HO7:=Lib.hid (And.intro o7 (And.intro u7 k7));clear o7 u7 k7 bx7)
        have HR2:=Lib.hid (HJ.out.2.2.1.row_ HV.out.1 HV.out.2 HO7.out.1 HO7.out.2.1 HO7.out.2.2)
        generalize (w7.setCell ⟨ab,1,none⟩ (.slice (some ⟨g7,0,none⟩) (NT.length+1) c7))=w8 at *
        have HSI:=Lib.hid HJ.out.2.2.2
        have hi':i<S'.length:=(List.getElem?_eq_some_iff.1 HSI.out).1
        have hsi2:(i:Int)<S'.length:=by omega
        obtain ⟨la5,lc5,hle5,_,_,hcell5⟩:=(OwW.start HR2.out.l).form
        cases hle5
        obtain ⟨lg,rfl,hcell6⟩:=hcell5 (by omega) (by decide)
        have e0:=hcell6 _ _ (pcs_at HSI.out).1
        have e1:=hcell6 _ _ (pcs_at HSI.out).2
        simp only at e0 e1
        have hgs:=HJ.out.2.1 _ (List.mem_of_getElem? HSI.out)
        simp only at hgs
        obtain ⟨ga3,oa3,hea,ha3⟩:=(HF.out.ext HR2.out.m.u).acc (i:=sx) (by rw [HOA.out.acc];exact hgs.1)
        obtain ⟨gb3,ob3,heb,hb3⟩:=(HG.out.ext HR2.out.m.u).acc (i:=sy) (by rw [HOB.out.acc];exact hgs.2)
        subst hea
        subst heb
        have hsx:(sx:Int)<a.acc.length:=by rw [HOA.out.acc];omega
        have hsy:(sy:Int)<b.acc.length:=by rw [HOB.out.acc];omega
        have HAC:=Lib.hid (show accB a b or_ (sx,sy)=((a.acc.getD sx false && b.acc.getD sy false) || (or_ && (a.acc.getD sx false || b.acc.getD sy false))) from rfl)
        generalize a.acc.getD sx false=bx at *
        generalize b.acc.getD sy false=by_ at *
        have k2:=HR2.out.m.u.some HKA.out.2.2 (by simp)
        have l2:=HR2.out.m.u.some HKB.out.2.2 (by simp)
        clear p1 pf q1 hcell5 hcell6 q0
        refine wp_region_qx (by kernel_rfl) (by kernel_rfl) ?_
        repeat (go_big_quiet_step ((fail)))
        refine wpQuiet_nil ?_
        intro x
        have HX1:=Lib.hid x.upd
        generalize x.val=w9 at *
        have e0:=HX1.out.some e0 (by simp)
        have e1:=HX1.out.some e1 (by simp)
        have l2:=HX1.out.some l2 (by simp)
        have hb3:=HX1.out.some hb3 (by simp)
        clear k2 ha3
        go_upto_region 26 with fail
        refine wp_region_qx (by kernel_rfl) (by kernel_rfl) ?_
        repeat (go_big_quiet_step ((fail)))
        refine wpQuiet_nil ?_
        intro x
        have HX2:=Lib.hid (HX1.out.step x.upd)
        generalize x.val=w10 at *
        have HR3:=Lib.hid (HR2.out.quiet HX2.out)
        clear e0 e1 l2 hb3
        have q2:=HR3.out.m.bx.cell (i:=2) rfl
        have HFIN:=Lib.hid (show ∀ (z:Bool) (g5:Nat) (c5:Nat) (w5:World),accB a b or_ (sx,sy)=z→w5.ownsRow 0 4 1 (.slice (some ⟨g5,0,none⟩) (BS.length+1) c5) (BS.length+1) (bools BS++[.bool z])→Upd av.ownBlock.toList w10 w5→(av.ownBlock=some g5∨w10.heap.size≤g5)→upTo (0,0) cs.length (bothNx a b cs) (i+1)=(S',T++[row])∧(∀ p∈S',p.1<a.next.length∧p.2<b.next.length)∧BoS w1 ab (.slice (some ⟨gc,oc,none⟩) cs.length cvc) (.slice (some ⟨g7,0,none⟩) (NT.length+1) c7) (.slice (some ⟨g5,0,none⟩) (BS.length+1) c5) (.slice (some ⟨lg,0,none⟩) S'.length lc2) (.slice none 0 0) cs (natRows (T++[row])) ((S'.take (i+1)).map (accB a b or_)) (F++(Value.slice na row.length nc).ownBlock.toList) S' [] (w5.setCell ⟨ab,2,none⟩ (.slice (some ⟨g5,0,none⟩) (BS.length+1) c5))∧(T++[row]).length=i+1 from fun z g5 c5 w5 hz o5 u5 k5=>by
         have HR4:=HR3.out.flag_ o5 u5 k5
         refine ⟨upTo_step' HI.out.1 HS0.out HJ.out.1,HJ.out.2.1,?_,by rw [List.length_append,HT4.out];rfl⟩
         have e1:natRows (T++[row])=NT++[row.map Int.ofNat]:=by rw [←HNN.out.1];simp [natRows]
         have e2:(S'.take (i+1)).map (accB a b or_)=BS++[z]:=by
          rw [List.take_add_one,HSI.out,List.map_append,HTK.out,HNN.out.2,←hz];rfl
         rw [e1,e2]
         exact HR4)
        cases bx
        all_goals cases by_
        all_goals cases or_
        all_goals
         have HZZ:=Lib.hid HAC.out
         simp only [Bool.and_self,Bool.and_true,Bool.and_false,Bool.or_self,Bool.or_true,Bool.or_false,Bool.true_and,Bool.false_and,Bool.true_or,Bool.false_or] at HZZ
         go_wp2_with (refine wpList_push rfl rfl _ _ _ _ rfl rfl rfl 4 1 1 _ Tryz.underlying29 infoBool rfl (by decide) (by decide) (.bool _) [.bool _] rfl rfl rfl (by simp [Value.oneCell']) av _ _ HR3.out.m.ac rfl rfl (by have:=HNS.out;unfold maxLen;omega) (by have:=HNS.out;omega) ?_;intro g5 c5 w5' o5 u5 k5;have bx5:=HR3.out.m.bx.upd u5 (fun hm=>(HR3.out.m.an ab (by simpa using hm)).2.1 rfl);have p2:=bx5.cell (i:=2) rfl;have pf:∀ q,w5'.frozen? ⟨ab,q,none⟩=false:=bx5.free;have HO5:=Lib.hid (And.intro o5 (And.intro u5 k5));clear o5 u5 k5 bx5)
         exact ⟨⟨i+1,S',T++[row],F++(Value.slice na row.length nc).ownBlock.toList,_,_,_,rfl,by go_num,by omega,by omega,Lib.hid (HFIN.out _ _ _ _ HZZ.out HO5.out.1 HO5.out.2.1 HO5.out.2.2)⟩,by simp [intOf];omega⟩
    ·have hse:i=S.length:=by omega
     subst hse
     have HNO:=Lib.hid (HE.out.1 S T (by rw [←HI.out.1];exact numb_some (by rw [HI.out.1];exact Nat.le_refl _) h256))
     have hBL:((S.take S.length).map (accB a b or_))=S.map (accB a b or_):=by rw [List.take_length]
     have HJ:=Lib.hid (show BoS w1 ab (.slice (some ⟨gc,oc,none⟩) cs.length cvc) nv av (.slice la S.length lc) (.slice none 0 0) cs (natRows T) (S.map (accB a b or_)) F S [] wo from by have:=HI.out.2.2.1;rwa [hBL] at this)
     generalize natRows T=NT at *
     generalize S.map (accB a b or_)=BS at *
     obtain ⟨a2',c2',rfl,_⟩:=id HJ.out.m.tb.cl.form
     obtain ⟨a3',c3',rfl,_⟩:=id (SL.of_owns HJ.out.m.ac).elems
     have q0:=HJ.out.m.bx.cell (i:=0) rfl
     have q1:=HJ.out.m.bx.cell (i:=1) rfl
     have q2:=HJ.out.m.bx.cell (i:=2) rfl
     have bR:=HB.out.1.upd (HJ.out.m.u) (by simp)
     have r0:=bR.cell (i:=0) rfl
     have r1:=bR.cell (i:=1) rfl
     have r2:=bR.cell (i:=2) rfl
     have rf:∀ q,wo.frozen? ⟨pa+2,q,none⟩=false:=bR.free
     have HBR:=Lib.hid bR
     clear bR
     clear hBL
     go_wp2_with fail
     have hs3:=cell3_set (a:=.slice (some ⟨gc,oc,none⟩) cs.length cvc) (b:=.slice a2' NT.length c2') (c:=.slice a3' BS.length c3') HBR.out
     have hlt1:=HB.out.2.2
     have hlt2:=HABE.out
     rw [HNO.out.1,HNO.out.2]
     refine ret_rau2 rfl rfl rfl hs3.1 rfl ⟨_,_,_,rfl,?_,?_,?_⟩ ((HB.out.2.1.step HJ.out.m.u).fresh hs3.2 (fun b hb=>.inr (by simp at hb;subst hb;have:=HPA.out;omega)))
     ·exact HCV.out _ HJ.out.m.cu _ hs3.2
     ·exact (HJ.out.m.tb.upd hs3.2 (fun b hb=>by
       simp at hb;subst hb
       refine ⟨fun hf=>?_,fun hv=>?_⟩
       ·have:=HJ.out.m.fn _ hf;omega
       ·have:=(HJ.out.m.nv_new _ hv).1;omega)).cl
     ·exact SL.of_owns (ownsRow_updL HJ.out.m.ac hs3.2 (fun b hb hv=>by simp at hb;subst hb;have:=(HJ.out.m.an _ hv).1;omega))
end
end Aut
end Go.Proofs.YtjclbjdkkdijbaaGreat
end
