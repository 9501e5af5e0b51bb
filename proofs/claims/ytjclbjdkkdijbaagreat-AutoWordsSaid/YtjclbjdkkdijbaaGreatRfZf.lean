/- Walks through the reference model of package auto: Valid. Conditions: none. The state of the reference's Spoilt of automata in memory: every slice is one's own. Conditions: none. Walks through the reference model of package auto: Spoilt. Conditions: none. Walks through the law's automata made from numbers. Conditions: none. -/
import Derived.Test.YtjclbjdkkdijbaaGreatAuZb
import Derived.Test.YtjclbjdkkdijbaaGreatAuZc
import Derived.Test.YtjclbjdkkdijbaaGreatAuF
import Derived.Test.YtjclbjdkkdijbaaGreatAuZq
import Derived.Test.YtjclbjdkkdijbaaGreatRfZe
import Derived.Test.YtjclbjdkkdijbaaGreatRfZd
set_option linter.unusedVariables false
set_option linter.unusedSimpArgs false
set_option linter.unusedSectionVars false
section
open Go.RowKit
namespace Go.Proofs.YtjclbjdkkdijbaaGreat
open L
namespace Aut
open Auto
section
variable {w w':World} {v:Value}
set_option maxRecDepth 100000 in
set_option maxHeartbeats 16000000 in
theorem rValid_calls {a:Au} (h:AuV w a v):Calls Tryz.prog 20 #[v] w fun e w'=>e=.returned (.int .i64 (vErr a))∧Upd [] w w':=by
 obtain ⟨a1,c1,a2,c2,a3,c3,rfl,hF⟩:=h.shape
 have HF:=Lib.hid hF
 have HV:=Lib.hid (show vErr a=(if 256<a.next.length∨256<a.acc.length then 4
  else if a.next.length=0∨a.acc.length≠a.next.length∨a.cuts.length=0∨a.cuts.getD 0 0≠0 then 1
  else if ¬ (∀ i,i<a.cuts.length→1≤i→a.cuts.getD (i-1) 0<a.cuts.getD i 0∧a.cuts.getD i 0≤255) then 1
  else if ¬ (∀ l∈a.next,l.length=a.cuts.length∧∀ s∈l,0≤s∧s<a.next.length) then 1 else 0) from rfl)
 clear h hF
 go_enter Tryz.func20,Tryz.ntmps20
 go_upto_region 1 with fail
 have bA:=Blk.new w [.slice a1 a.cuts.length c1,.slice a2 a.next.length c2,.slice a3 a.acc.length c3] 39
 have uA:=(Upd.refl [] w).alloc (.cells #[.slice a1 a.cuts.length c1,.slice a2 a.next.length c2,.slice a3 a.acc.length c3] 39)
 change Blk (w.alloc (.cells #[.slice a1 a.cuts.length c1,.slice a2 a.next.length c2,.slice a3 a.acc.length c3] 39)) _ _ _ at bA
 generalize (w.alloc (.cells #[.slice a1 a.cuts.length c1,.slice a2 a.next.length c2,.slice a3 a.acc.length c3] 39))=w1 at *
 have k0:=bA.cell (i:=0) rfl
 have k1:=bA.cell (i:=1) rfl
 have k2:=bA.cell (i:=2) rfl
 have HU:=Lib.hid uA
 have HF1:=Lib.hid (HF.out.ext uA)
 clear bA uA
 generalize w.heap.size=pb at *
 by_cases h1:256<a.next.length
 ·have hi:(256:Int)<a.next.length:=by omega
  go_wp2_with fail
  go_ret
  exact ⟨ret_int (by rw [HV.out,if_pos (.inl h1)]),HU.out⟩
 have hi1:¬ (256:Int)<a.next.length:=by omega
 by_cases h2:256<a.acc.length
 ·have hi:(256:Int)<a.acc.length:=by omega
  have HH:=Lib.hid h2
  clear h1 h2
  go_wp2_with fail
  go_ret
  exact ⟨ret_int (by rw [HV.out,if_pos (.inr HH.out)]),HU.out⟩
 have hi2:¬ (256:Int)<a.acc.length:=by omega
 have HV2:=Lib.hid (HV.out.trans (if_neg (by rintro (h|h);exact h1 h;exact h2 h)))
 clear h1 h2
 by_cases h3:a.next.length=0
 ·have HH:=Lib.hid (show vErr a=1 by rw [HV2.out,if_pos (.inl h3)])
  have hb:((a.next.length:Int) == 0)=true:=by simp [h3]
  clear h3
  go_wp2_with fail
  go_ret
  exact ⟨ret_int HH.out.symm,HU.out⟩
 have hb3:((a.next.length:Int) == 0)=false:=by simpa using h3
 by_cases h4:a.acc.length≠a.next.length
 ·have HH:=Lib.hid (show vErr a=1 by rw [HV2.out,if_pos (.inr (.inl h4))])
  have hb:((a.next.length:Int) != a.acc.length)=true:=by simp;omega
  clear h3 h4
  go_wp2_with fail
  go_ret
  exact ⟨ret_int HH.out.symm,HU.out⟩
 have hb4:((a.next.length:Int) != a.acc.length)=false:=by simp;omega
 by_cases h5:a.cuts.length=0
 ·have HH:=Lib.hid (show vErr a=1 by rw [HV2.out,if_pos (.inr (.inr (.inl h5)))])
  have hb:((a.cuts.length:Int) == 0)=true:=by simp [h5]
  clear h3 h4 h5
  go_wp2_with fail
  go_ret
  exact ⟨ret_int HH.out.symm,HU.out⟩
 have hb5:((a.cuts.length:Int) == 0)=false:=by simpa using h5
 have hcp:0<a.cuts.length:=by omega
 obtain ⟨gc,oc,rfl,hc0⟩:=HF1.out.cuts hcp
 rw [Nat.add_zero] at hc0
 by_cases h6:a.cuts.getD 0 0≠0
 ·have HH:=Lib.hid (show vErr a=1 by rw [HV2.out,if_pos (.inr (.inr (.inr h6)))])
  have hb:(a.cuts.getD 0 0 != 0)=true:=by simpa using h6
  clear h3 h4 h5 h6
  generalize a.cuts.getD 0 0=x0 at *
  go_wp2_with fail
  go_ret
  exact ⟨ret_int HH.out.symm,HU.out⟩
 have HV3:=Lib.hid (HV2.out.trans (if_neg (by rintro (h|h|h|h);exact h3 h;exact h4 h;exact h5 h;exact h6 h)))
 have h60:a.cuts.getD 0 0=0:=Classical.byContradiction h6
 rw [h60] at hc0
 clear HV HV2 h3 h4 h5 h6 h60
 go_wp2_with fail
 have hcb:(a.cuts.length:Int)≤9223372036854775807:=by
  obtain ⟨cv,nv,av,he,hh,_,_⟩:=HF1.out
  cases he
  obtain ⟨a',c',he,q1,q2,_⟩:=hh.elems
  omega
 have HC:=Lib.hid (fun (i:Nat) (hi:i<a.cuts.length)=>HF1.out.cuts hi)
 have HB:=Lib.hid (And.intro k0 (And.intro k1 k2))
 clear hc0
 go_loopw [3] (fun iv wr=>∃ k:Nat,iv=.int .i64 k∧1≤k∧k≤a.cuts.length∧Hid ((∀ j,j<k→1≤j→a.cuts.getD (j-1) 0<a.cuts.getD j 0∧a.cuts.getD j 0≤255)∧Upd [] w1 wr)) (fun iv _=>a.cuts.length - (intOf iv).toNat)
 case atStart=>exact ⟨1,rfl,Nat.le_refl _,hcp,Lib.hid ⟨fun j h1 h2=>by omega,Upd.refl _ _⟩⟩
 case round=>
  obtain ⟨k,rfl,hk1,hk,HI⟩:=hrel
  have k0':=HI.out.2.some k0 (by simp)
  have k1':=HI.out.2.some k1 (by simp)
  have k2':=HI.out.2.some k2 (by simp)
  by_cases hlt:k<a.cuts.length
  ·have hk1i:(1:Int)≤k:=by omega
   have hli:(k:Int)<a.cuts.length:=by omega
   have hA:(0:Int)≤(k:Int) - 1:=by omega
   have hB:(k:Int) - 1<a.cuts.length:=by omega
   have hkb:(k:Int)≤9223372036854775807:=by omega
   have hT:((k:Int) - 1).toNat=k-1:=by omega
   obtain ⟨g1,o1,he1,hx⟩:=HC.out (k-1) (by omega)
   cases he1
   obtain ⟨g2,o2,he2,hy⟩:=HC.out k hlt
   cases he2
   have hx':=HI.out.2.some hx (by simp)
   have hy':=HI.out.2.some hy (by simp)
   have HXY:=Lib.hid (show ∀ j,j<k+1→1≤j→j≠k→a.cuts.getD (j-1) 0<a.cuts.getD j 0∧a.cuts.getD j 0≤255 from fun j h1 h2 h3=>HI.out.1 j (by omega) h2)
   by_cases hle:a.cuts.getD k 0≤a.cuts.getD (k-1) 0
   ·have HH:=Lib.hid (show vErr a=1 by
     rw [HV3.out,if_pos]
     intro h
     have:=(h k hlt (by omega)).1
     omega)
    clear HXY
    generalize a.cuts.getD k 0=y at *
    generalize a.cuts.getD (k-1) 0=x at *
    go_wp2_with fail
    refine wp_region_qx (by kernel_rfl) (by kernel_rfl) ?_
    repeat (go_big_quiet_step ((fail)))
    refine wpQuiet_nil ?_
    intro x
    go_wp2_with fail
    go_ret
    exact ⟨ret_int HH.out.symm,HU.out.step (HI.out.2.step x.upd)⟩
   ·have hgt:a.cuts.getD (k-1) 0<a.cuts.getD k 0:=by omega
    have hdf:decide (a.cuts.getD k 0≤a.cuts.getD (k-1) 0)=false:=by simpa using hgt
    by_cases h255:255<a.cuts.getD k 0
    ·have HH:=Lib.hid (show vErr a=1 by
      rw [HV3.out,if_pos]
      intro h
      have:=(h k hlt (by omega)).2
      omega)
     clear HXY
     generalize a.cuts.getD k 0=y at *
     generalize a.cuts.getD (k-1) 0=x at *
     go_wp2_with fail
     refine wp_region_qx (by kernel_rfl) (by kernel_rfl) ?_
     repeat (go_big_quiet_step ((fail)))
     refine wpQuiet_nil ?_
     intro x
     go_wp2_with fail
     go_ret
     exact ⟨ret_int HH.out.symm,HU.out.step (HI.out.2.step x.upd)⟩
    ·have HH:=Lib.hid (show ∀ j,j<k+1→1≤j→a.cuts.getD (j-1) 0<a.cuts.getD j 0∧a.cuts.getD j 0≤255 from fun j h1 h2=>by
      by_cases h3:j=k
      ·subst h3;omega
      ·exact HXY.out j h1 h2 h3)
     clear HXY
     generalize a.cuts.getD k 0=y at *
     generalize a.cuts.getD (k-1) 0=x at *
     go_wp2_with fail
     refine wp_region_qx (by kernel_rfl) (by kernel_rfl) ?_
     repeat (go_big_quiet_step ((fail)))
     refine wpQuiet_nil ?_
     intro x
     go_wp2_with fail
     exact ⟨⟨k+1,by go_num,by omega,by omega,Lib.hid ⟨HH.out,HI.out.2.step x.upd⟩⟩,by simp [intOf];omega⟩
  ·have HV4:=Lib.hid (HV3.out.trans (if_neg (fun h=>h (fun i h1 h2=>HI.out.1 i (by omega) h2))))
   have hke:a.cuts.length=k:=by omega
   have HIU:=Lib.hid HI.out.2
   have HRW:=Lib.hid (fun (i:Nat) (hi:i<a.next.length)=>HF1.out.row hi)
   have hni:¬ ((k:Int)<a.cuts.length):=by omega
   clear HI HV3 hke hlt hk1 hk hcp HC
   go_wp2_with fail
   go_loopw [4] (fun iv wq=>∃ i:Nat,iv=.int .i64 i∧i≤a.next.length∧Hid ((∀ l∈a.next.take i,l.length=a.cuts.length∧∀ s∈l,0≤s∧s<a.next.length)∧Upd [] w1 wq)) (fun iv _=>a.next.length - (intOf iv).toNat)
   case atStart=>exact ⟨0,rfl,Nat.zero_le _,Lib.hid ⟨fun l hl=>by simp at hl,HIU.out⟩⟩
   case round=>
    obtain ⟨i,rfl,hi,HJ⟩:=hrel
    obtain ⟨wo,rfl⟩:∃ y:World,y=wr:=⟨_,rfl⟩
    have q0:=HJ.out.2.some HB.out.1 (by simp)
    have q1:=HJ.out.2.some HB.out.2.1 (by simp)
    by_cases hlt:i<a.next.length
    ·have hli:(i:Int)<a.next.length:=by omega
     obtain ⟨g,off,ar,cr,he,hc,hrow⟩:=HRW.out i hlt
     cases he
     have hc':=HJ.out.2.some hc (by simp)
     have HL:=Lib.hid (And.intro hrow (And.intro (gd_memA (d:=[]) hlt) (And.intro (show a.next.take (i+1)=a.next.take i++[a.next.getD i []] by rw [List.take_add_one,gd_some (d:=[]) hlt];rfl) hc)))
     clear hc hrow
     generalize a.next.getD i []=l at *
     by_cases hll:l.length=a.cuts.length
     ·have hb:((l.length:Int) != a.cuts.length)=false:=by simp;omega
      have HLL:=Lib.hid hll
      clear hll
      go_upto_region 13 with fail
      refine wp_region_qx (by kernel_rfl) (by kernel_rfl) ?_
      repeat (go_big_quiet_step ((fail)))
      refine wpQuiet_nil ?_
      intro x
      have HXU:=Lib.hid (HJ.out.2.step x.upd)
      generalize x.val=wx at *
      clear q0 q1 hc'
      go_wp2_with fail
      go_loopw [5] (fun jv wz=>∃ j:Nat,jv=.int .i64 j∧j≤l.length∧Hid ((∀ s∈l.take j,0≤s∧s<a.next.length)∧Upd [] w1 wz)) (fun jv _=>l.length - (intOf jv).toNat)
      case atStart=>exact ⟨0,rfl,Nat.zero_le _,Lib.hid ⟨fun l hl=>by simp at hl,HXU.out⟩⟩
      case round=>
       obtain ⟨j,rfl,hj,HK⟩:=hrel
       have q0:=HK.out.2.some HB.out.1 (by simp)
       have q1:=HK.out.2.some HB.out.2.1 (by simp)
       have hc':=HK.out.2.some HL.out.2.2.2 (by simp)
       by_cases hjl:j<l.length
       ·have hji:(j:Int)<a.cuts.length:=by have:=HLL.out;omega
        have hji2:(j:Int)<l.length:=by omega
        obtain ⟨ar',cr',he,_,_,hcc⟩:=HL.out.1.elems
        cases he
        obtain ⟨gr,orr,hge,hcr⟩:=hcc (by omega)
        subst hge
        have hx:=HK.out.2.some (hcr j _ (ints_get (gd_some (d:=0) hjl))) (by simp)
        have HM:=Lib.hid (And.intro (gd_memA (d:=0) hjl) (show l.take (j+1)=l.take j++[l.getD j 0] by rw [List.take_add_one,gd_some (d:=0) hjl];rfl))
        clear hcc hcr
        generalize l.getD j 0=z at *
        by_cases hneg:z<0
        ·have HH:=Lib.hid (show vErr a=1 by
          rw [HV4.out,if_pos]
          intro h
          have:=((h l HL.out.2.1).2 z HM.out.1).1
          omega)
         go_upto_region 18 with fail
         refine wp_region_qx (by kernel_rfl) (by kernel_rfl) ?_
         repeat (go_big_quiet_step ((fail)))
         refine wpQuiet_nil ?_
         intro x
         go_wp2_with fail
         go_ret
         exact ⟨ret_int HH.out.symm,HU.out.step (HK.out.2.step x.upd)⟩
        ·have hd1:decide (z<0)=false:=by simpa using hneg
         by_cases hbig:(a.next.length:Int)≤z
         ·have HH:=Lib.hid (show vErr a=1 by
           rw [HV4.out,if_pos]
           intro h
           have:=((h l HL.out.2.1).2 z HM.out.1).2
           omega)
          go_upto_region 18 with fail
          refine wp_region_qx (by kernel_rfl) (by kernel_rfl) ?_
          repeat (go_big_quiet_step ((fail)))
          refine wpQuiet_nil ?_
          intro x
          go_wp2_with fail
          go_ret
          exact ⟨ret_int HH.out.symm,HU.out.step (HK.out.2.step x.upd)⟩
         ·have HH:=Lib.hid (And.intro (show 0≤z by omega) (show z<a.next.length by omega))
          go_upto_region 18 with fail
          refine wp_region_qx (by kernel_rfl) (by kernel_rfl) ?_
          repeat (go_big_quiet_step ((fail)))
          refine wpQuiet_nil ?_
          intro x
          go_wp2_with fail
          refine ⟨⟨j+1,by go_num,by omega,Lib.hid ⟨fun s hs=>?_,HK.out.2.step x.upd⟩⟩,by simp [intOf];omega⟩
          rw [HM.out.2] at hs
          rcases List.mem_append.1 hs with hs|hs
          ·exact HK.out.1 s hs
          ·simp at hs;subst hs;exact HH.out
       ·have hje:j=l.length:=by omega
        have hji:¬ (j:Int)<a.cuts.length:=by have:=HLL.out;omega
        subst hje
        have HH:=HK.out.1
        rw [List.take_length] at HH
        have HHH:=Lib.hid HH
        clear HH
        go_wp2_with fail
        refine ⟨⟨i+1,by go_num,by omega,Lib.hid ⟨fun s hs=>?_,HK.out.2⟩⟩,by simp [intOf];omega⟩
        rw [HL.out.2.2.1] at hs
        rcases List.mem_append.1 hs with hs|hs
        ·exact HJ.out.1 s hs
        ·simp at hs;subst hs;exact ⟨HLL.out,HHH.out⟩
     ·have hb:((l.length:Int) != a.cuts.length)=true:=by simp;omega
      have HH:=Lib.hid (show vErr a=1 by
       rw [HV4.out,if_pos]
       intro h
       exact hll (h l HL.out.2.1).1)
      clear hll
      go_upto_region 13 with fail
      refine wp_region_qx (by kernel_rfl) (by kernel_rfl) ?_
      repeat (go_big_quiet_step ((fail)))
      refine wpQuiet_nil ?_
      intro x
      go_wp2_with fail
      go_ret
      exact ⟨ret_int HH.out.symm,HU.out.step (HJ.out.2.step x.upd)⟩
    ·have hie:i=a.next.length:=by omega
     subst hie
     have HH:=HJ.out.1
     rw [List.take_length] at HH
     have HE:=Lib.hid (show vErr a=0 by rw [HV4.out,if_neg (fun h=>h HH)])
     clear HH
     go_wp2_with fail
     go_ret
     exact ⟨ret_int HE.out.symm,HU.out.step HJ.out.2⟩
end
end Aut
end Go.Proofs.YtjclbjdkkdijbaaGreat
end
section
open Go.RowKit
namespace Go.Proofs.YtjclbjdkkdijbaaGreat
open L
namespace Aut
open Auto R01
def spoilA (a:Au) (at_ how by_:Int):Au:=
 if a.next.length=0∨a.cuts.length=0 then a
 else if around how 8=0 then ⟨a.cuts.set (around at_ a.cuts.length).toNat by_,a.next,a.acc⟩
 else if around how 8=1 then ⟨a.cuts++[by_],a.next,a.acc⟩
 else if around how 8=2 then ⟨[],a.next,a.acc⟩
 else if around how 8=3 then (if 0<(a.next.getD (around at_ a.next.length).toNat []).length then ⟨a.cuts,a.next.set (around at_ a.next.length).toNat ((a.next.getD (around at_ a.next.length).toNat []).set (around by_ (a.next.getD (around at_ a.next.length).toNat []).length).toNat by_),a.acc⟩ else a)
 else if around how 8=4 then ⟨a.cuts,a.next.set (around at_ a.next.length).toNat (a.next.getD (around at_ a.next.length).toNat []++[0]),a.acc⟩
 else if around how 8=5 then ⟨a.cuts,a.next,a.acc++[true]⟩
 else if around how 8=6 then ⟨a.cuts,a.next.take (around at_ a.next.length).toNat,a.acc.take (around at_ a.next.length).toNat⟩
 else ⟨a.cuts,a.next,List.replicate (250+around by_ 12).toNat false⟩
section
variable {w0 w w' w1:World} {e e':TypeId} {k k' n n' b g cap:Nat} {v v' cv nv av y:Value} {x x' c rvs:List Value} {cs rw_:List Int} {ns:List (List Int)} {bs:List Bool} {U:List Nat} {ab:Nat}
def KindT (w:World) (b:Nat) (e:TypeId):Prop:=∃ c q,w.heap[b]?=some (.cells c e q)
theorem KindT.inj (h:KindT w b e) (h':KindT w b e'):e=e':=by
 obtain ⟨c,q,h⟩:=h
 obtain ⟨c',q',h'⟩:=h'
 rw [h] at h'
 simp at h'
 exact h'.2.1
theorem kt_row (h:w.ownsRow 0 e k v n x) (hg:v.ownBlock=some g):KindT w g e:=by
 rcases h.2 with ⟨rfl,_⟩|⟨a,cap,cur,rfl,_,ha,_⟩
 ·simp [Value.ownBlock] at hg
 ·simp only [Value.ownBlock,Option.some.injEq] at hg
  subst hg
  exact ⟨_,_,ha⟩
theorem own_ne (h:w.ownsRow 0 e k v n x) (h':w.ownsRow 0 e' k' v' n' x') (hne:e≠e') (hq:v.ownBlock=some g):v'.ownBlock≠some g:=fun h2=>hne ((kt_row h hq).inj (kt_row h' h2))
theorem own_bne (h:w.ownsRow 0 e k v n x) (hb:Blk w b c e') (hne:e≠e') (hq:v.ownBlock=some g):g≠b:=fun h2=>hne ((kt_row h hq).inj (h2 ▸ ⟨_,_,hb⟩))
theorem own_blk (h:w.ownsRow 0 e 1 (.slice (some ⟨g,0,none⟩) n cap) n x):∃ pad,Blk w g (x++pad) e∧x.length=n∧n≤cap∧cap≤maxLen∧(x++pad).length=cap:=by
 obtain ⟨h1,h2⟩:=h
 rcases h2 with ⟨h2,_⟩|⟨g',cap',cur,he,_,hg,hn,hc,hs,ht⟩
 ·cases h2
 ·simp only [Value.slice.injEq,Option.some.injEq,Addr.mk.injEq,and_true,true_and] at he
  obtain ⟨rfl,rfl⟩:=he
  refine ⟨cur.toList.drop (n*1),?_,by omega,hn,hc,?_⟩
  ·rw [←ht,List.take_append_drop]
   unfold Blk
   rw [hg]
  ·rw [←ht,List.take_append_drop]
   simpa using hs
structure SpS (w0:World) (ab:Nat) (cv nv av:Value) (cs:List Int) (ns:List (List Int)) (bs:List Bool) (rvs:List Value) (w:World):Prop where
 bx:Blk w ab [cv,nv,av] 39
 cu:w.ownsRow 0 3 1 cv cs.length (ints cs)
 tb:w.ownsRow 0 22 1 nv ns.length rvs
 ac:w.ownsRow 0 4 1 av bs.length (bools bs)
 rw:∀ (i:Nat) (c:List Int) (y:Value),ns[i]?=some c→rvs[i]?=some y→w.ownsRow 0 3 1 y c.length (ints c)
 ds:∀ (i j:Nat) (y z:Value) (q:Nat),rvs[i]?=some y→rvs[j]?=some z→y.ownBlock=some q→z.ownBlock=some q→i=j
 cd:∀ (i:Nat) (y:Value) (q:Nat),rvs[i]?=some y→y.ownBlock=some q→cv.ownBlock≠some q
 nw:w0.heap.size≤ab∧(∀ q,cv.ownBlock=some q→w0.heap.size≤q)∧(∀ q,nv.ownBlock=some q→w0.heap.size≤q)∧(∀ q,av.ownBlock=some q→w0.heap.size≤q)∧∀ (i:Nat) (y:Value) (q:Nat),rvs[i]?=some y→y.ownBlock=some q→w0.heap.size≤q
 u:Upd [] w0 w
theorem SpS.len (h:SpS w0 ab cv nv av cs ns bs rvs w):rvs.length=ns.length:=by have:=h.tb.1;omega
theorem SpS.val (h:SpS w0 ab cv nv av cs ns bs rvs w) {i:Nat} {c:List Int} (hc:ns[i]?=some c):∃ y,rvs[i]?=some y∧w.ownsRow 0 3 1 y c.length (ints c):=by
 have hi:=(List.getElem?_eq_some_iff.1 hc).1
 have hl:=h.len
 exact ⟨rvs[i],List.getElem?_eq_getElem (by omega),h.rw i c _ hc (List.getElem?_eq_getElem (by omega))⟩
theorem SpS.quiet (h:SpS w0 ab cv nv av cs ns bs rvs w) (hu:Upd [] w w'):SpS w0 ab cv nv av cs ns bs rvs w':=
 ⟨h.bx.upd hu (by simp),ownsRow_updL h.cu hu (by simp),ownsRow_updL h.tb hu (by simp),ownsRow_updL h.ac hu (by simp),fun i c y h1 h2=>ownsRow_updL (h.rw i c y h1 h2) hu (by simp),h.ds,h.cd,h.nw,h.u.step hu⟩
theorem SpS.cl_ (h:SpS w0 ab cv nv av cs ns bs rvs w) (hu:Upd U w w') (h1:∀ b∈U,nv.ownBlock≠some b) (h2:∀ (i:Nat) (y:Value),rvs[i]?=some y→∀ b∈U,y.ownBlock≠some b):CL w' nv ns:=by
 refine ⟨rvs,h.len,SL.of_owns (ownsRow_updL h.tb hu h1),fun i c hc=>?_⟩
 obtain ⟨y,hy,ho⟩:=h.val hc
 exact ⟨y,hy,SL.of_owns (ownsRow_updL ho hu (h2 i y hy))⟩
theorem SpS.addRow (h:SpS w0 ab cv nv av cs ns bs rvs w) (hy:w.ownsRow 0 3 1 y rw_.length (ints rw_)) (hyn:∀ q,y.ownBlock=some q→w0.heap.size≤q∧(∀ (i:Nat) (z:Value),rvs[i]?=some z→z.ownBlock≠some q)∧cv.ownBlock≠some q)
 (o:w1.ownsRow 0 22 1 (.slice (some ⟨g,0,none⟩) (ns.length+1) cap) (ns.length+1) (rvs++[y])) (hu:Upd nv.ownBlock.toList w w1) (hk:nv.ownBlock=some g∨w.heap.size≤g) :
 SpS w0 ab cv (.slice (some ⟨g,0,none⟩) (ns.length+1) cap) av cs (ns++[rw_]) bs (rvs++[y]) (w1.setCell ⟨ab,1,none⟩ (.slice (some ⟨g,0,none⟩) (ns.length+1) cap)):=by
 have us:Upd [ab] w1 (w1.setCell ⟨ab,1,none⟩ (.slice (some ⟨g,0,none⟩) (ns.length+1) cap)):=(Upd.refl [ab] w1).set (p:=⟨ab,1,none⟩) (by simp) _
 have hnb:nv.ownBlock≠some ab:=fun hq=>own_bne h.tb h.bx (by decide) hq rfl
 have hab:=h.bx.lt
 have hgab:g≠ab:=fun e=>by
  rcases hk with h3|h3
  ·exact hnb (e ▸ h3)
  ·omega
 have hb1:Blk w1 ab [cv,nv,av] 39:=h.bx.upd hu (fun hm=>hnb (by simpa using hm))
 have keep:∀ {z:Value} {m:Nat} {e:TypeId} {xs:List Value},w.ownsRow 0 e 1 z m xs→e≠22→e≠39→(w1.setCell ⟨ab,1,none⟩ (.slice (some ⟨g,0,none⟩) (ns.length+1) cap)).ownsRow 0 e 1 z m xs:=fun hz h1 h2=>
  ownsRow_updL (ownsRow_updL hz hu (fun b hb hq=>own_ne hz h.tb h1 hq (by simpa using hb))) us (fun b hb hq=>own_bne hz h.bx h2 hq (by simpa using hb))
 have hl:=h.len
 have hz:=h.u.size
 have htb:(w1.setCell ⟨ab,1,none⟩ (.slice (some ⟨g,0,none⟩) (ns.length+1) cap)).ownsRow 0 22 1 (.slice (some ⟨g,0,none⟩) (ns.length+1) cap) (ns++[rw_]).length (rvs++[y]):=by
  rw [show (ns++[rw_]).length=ns.length+1 by simp]
  exact ownsRow_updL o us (fun b hb hq=>by simp at hb;subst hb;simp [Value.ownBlock] at hq;exact hgab hq)
 refine ⟨hb1.set 1 _,keep h.cu (by decide) (by decide),htb,keep h.ac (by decide) (by decide),fun i c z h1 h2=>?_,fun i j z1 z2 q h1 h2 h3 h4=>?_,fun i z q h1 h2=>?_,⟨h.nw.1,h.nw.2.1,fun q hq=>?_,h.nw.2.2.2.1,fun i z q h1 h2=>?_⟩,(h.u.fresh hu (fun b hb=>.inr (h.nw.2.2.1 b (by simpa using hb)))).fresh us (fun b hb=>.inr (by simp at hb;subst hb;exact h.nw.1))⟩
 ·by_cases hi:i<ns.length
  ·rw [List.getElem?_append_left (by omega)] at h1 h2
   exact keep (h.rw i c z h1 h2) (by decide) (by decide)
  ·have hi2:=(List.getElem?_eq_some_iff.1 h1).1
   rw [List.length_append,List.length_singleton] at hi2
   have he:i=ns.length:=by omega
   subst he
   rw [List.getElem?_append_right (Nat.le_refl _)] at h1
   rw [←hl,List.getElem?_append_right (Nat.le_refl _)] at h2
   simp at h1 h2
   subst h1 h2
   exact keep hy (by decide) (by decide)
 ·rw [List.getElem?_append] at h1 h2
  split at h1
  ·split at h2
   ·exact h.ds i j z1 z2 q h1 h2 h3 h4
   ·have h5:=(List.getElem?_eq_some_iff.1 h2).1
    simp at h5
    rw [show j-rvs.length=0 by omega] at h2
    simp at h2
    subst h2
    exact absurd h3 ((hyn q h4).2.1 i z1 h1)
  ·have h6:=(List.getElem?_eq_some_iff.1 h1).1
   simp at h6
   rw [show i-rvs.length=0 by omega] at h1
   simp at h1
   subst h1
   split at h2
   ·exact absurd h4 ((hyn q h3).2.1 j z2 h2)
   ·have h5:=(List.getElem?_eq_some_iff.1 h2).1
    simp at h5
    omega
 ·rw [List.getElem?_append] at h1
  split at h1
  ·exact h.cd i z q h1 h2
  ·have h6:=(List.getElem?_eq_some_iff.1 h1).1
   simp at h6
   rw [show i-rvs.length=0 by omega] at h1
   simp at h1
   subst h1
   exact (hyn q h2).2.2
 ·simp only [Value.ownBlock,Option.some.injEq] at hq
  subst hq
  rcases hk with h3|h3
  ·exact h.nw.2.2.1 _ h3
  ·omega
 ·rw [List.getElem?_append] at h1
  split at h1
  ·exact h.nw.2.2.2.2 i z q h1 h2
  ·have h6:=(List.getElem?_eq_some_iff.1 h1).1
   simp at h6
   rw [show i-rvs.length=0 by omega] at h1
   simp at h1
   subst h1
   exact (hyn q h2).1
theorem own_cell (h:w.ownsRow 0 e 1 (.slice (some ⟨g,0,none⟩) n cap) n x) {i:Nat} (hi:i<n) (u:Value):(w.setCell ⟨g,i,none⟩ u).ownsRow 0 e 1 (.slice (some ⟨g,0,none⟩) n cap) n (x.set i u):=by
 obtain ⟨pad,hb,h1,h2,h3,h4⟩:=own_blk h
 have hb2:=hb.set i u
 rw [List.set_append_left _ _ (by omega)] at hb2
 refine ⟨by simpa using h1,.inr ⟨g,cap,(x.set i u++pad).toArray,rfl,Nat.zero_le _,hb2,h2,h3,?_,?_⟩⟩
 ·rw [List.length_append] at h4
  simp [List.length_append,h4]
 ·simp [List.take_append_of_le_length,h1]
theorem own_take (h:w.ownsRow 0 e 1 (.slice (some ⟨g,0,none⟩) n cap) n x) {m:Nat} (hm:m≤n):w.ownsRow 0 e 1 (.slice (some ⟨g,0,none⟩) m cap) m (x.take m):=by
 obtain ⟨pad,hb,h1,h2,h3,h4⟩:=own_blk h
 refine ⟨by rw [List.length_take];omega,.inr ⟨g,cap,(x++pad).toArray,rfl,Nat.zero_le _,hb,by omega,h3,by simpa using h4,?_⟩⟩
 simp only [Nat.mul_one]
 rw [List.take_append_of_le_length (by omega)]
theorem SpS.setCut {cv':Value} {cs':List Int} (h:SpS w0 ab cv nv av cs ns bs rvs w) (o:w1.ownsRow 0 3 1 cv' cs'.length (ints cs')) (hu:Upd cv.ownBlock.toList w w1) (hk:∀ q,cv'.ownBlock=some q→cv.ownBlock=some q∨w.heap.size≤q) :
 SpS w0 ab cv' nv av cs' ns bs rvs (w1.setCell ⟨ab,0,none⟩ cv'):=by
 have us:Upd [ab] w1 (w1.setCell ⟨ab,0,none⟩ cv'):=(Upd.refl [ab] w1).set (p:=⟨ab,0,none⟩) (by simp) _
 have hz:=h.u.size
 have hb1:Blk w1 ab [cv,nv,av] 39:=h.bx.upd hu (fun hm=>own_bne h.cu h.bx (by decide) (g:=ab) (by simpa using hm) rfl)
 refine ⟨hb1.set 0 _,ownsRow_updL o us (fun b hb hq=>?_),ownsRow_updL (ownsRow_updL h.tb hu (fun b hb hq=>own_ne h.tb h.cu (by decide) hq (by simpa using hb))) us (fun b hb hq=>own_bne h.tb h.bx (by decide) hq (by simpa using hb)),ownsRow_updL (ownsRow_updL h.ac hu (fun b hb hq=>own_ne h.ac h.cu (by decide) hq (by simpa using hb))) us (fun b hb hq=>own_bne h.ac h.bx (by decide) hq (by simpa using hb)),fun i c y h1 h2=>ownsRow_updL (ownsRow_updL (h.rw i c y h1 h2) hu (fun b hb hq=>h.cd i y b h2 hq (by simpa using hb))) us (fun b hb hq=>own_bne (h.rw i c y h1 h2) h.bx (by decide) hq (by simpa using hb)),h.ds,fun i y q h1 h2 h3=>?_,⟨h.nw.1,fun q hq=>?_,h.nw.2.2.1,h.nw.2.2.2.1,h.nw.2.2.2.2⟩,(h.u.fresh hu (fun b hb=>.inr (h.nw.2.1 b (by simpa using hb)))).fresh us (fun b hb=>.inr (by simp at hb;subst hb;exact h.nw.1))⟩
 ·simp at hb
  subst hb
  rcases hk _ hq with h1|h1
  ·exact own_bne h.cu h.bx (by decide) h1 rfl
  ·have:=h.bx.lt;omega
 ·rcases hk _ h3 with h4|h4
  ·exact h.cd i y q h1 h2 h4
  ·have hi:=(List.getElem?_eq_some_iff.1 h1).1
   have hl:=h.len
   have ho:=h.rw i ns[i] y (List.getElem?_eq_getElem (by omega)) h1
   have:=(ho.lt q h2).2
   omega
 ·rcases hk _ hq with h1|h1
  ·exact h.nw.2.1 _ h1
  ·omega
theorem SpS.cutCell (h:SpS w0 ab (.slice (some ⟨g,0,none⟩) cs.length cap) nv av cs ns bs rvs w) {i:Nat} (hi:i<cs.length) (z:Int) :
 SpS w0 ab (.slice (some ⟨g,0,none⟩) cs.length cap) nv av (cs.set i z) ns bs rvs (w.setCell ⟨g,i,none⟩ (.int .i64 z)):=by
 have us:Upd [g] w (w.setCell ⟨g,i,none⟩ (.int .i64 z)):=(Upd.refl [g] w).set (p:=⟨g,i,none⟩) (by simp) _
 have hc:(Value.slice (some ⟨g,0,none⟩) cs.length cap).ownBlock=some g:=rfl
 have e1:ints (cs.set i z)=(ints cs).set i (.int .i64 z):=by unfold ints;rw [List.map_set]
 refine ⟨h.bx.upd us (fun hm=>own_bne h.cu h.bx (by decide) hc (by simpa using Eq.symm (List.mem_singleton.1 hm))),by rw [List.length_set,e1];exact own_cell h.cu hi _,ownsRow_updL h.tb us (fun b hb hq=>own_ne h.tb h.cu (by decide) hq (by simp at hb;subst hb;exact hc)),ownsRow_updL h.ac us (fun b hb hq=>own_ne h.ac h.cu (by decide) hq (by simp at hb;subst hb;exact hc)),fun j c y h1 h2=>ownsRow_updL (h.rw j c y h1 h2) us (fun b hb hq=>h.cd j y b h2 hq (by simp at hb;subst hb;exact hc)),h.ds,h.cd,h.nw,h.u.fresh us (fun b hb=>.inr (by simp at hb;subst hb;exact h.nw.2.1 _ hc))⟩
theorem SpS.rowCell {s j n:Nat} {y:Value} {c:List Int} (h:SpS w0 ab cv nv av cs ns bs rvs w) (hc:ns[s]?=some c) (hy:rvs[s]?=some (.slice (some ⟨g,0,none⟩) n cap)) (hj:j<c.length) (z:Int) :
 SpS w0 ab cv nv av cs (ns.set s (c.set j z)) bs rvs (w.setCell ⟨g,j,none⟩ (.int .i64 z)):=by
 have us:Upd [g] w (w.setCell ⟨g,j,none⟩ (.int .i64 z)):=(Upd.refl [g] w).set (p:=⟨g,j,none⟩) (by simp) _
 have ho:=h.rw s c _ hc hy
 have hq0:(Value.slice (some ⟨g,0,none⟩) n cap).ownBlock=some g:=rfl
 have hn:n=c.length:=by
  rcases ho.2 with ⟨h1,_⟩|⟨g',cap',cur,he,_⟩
  ·cases h1
  ·cases he;rfl
 subst hn
 have e1:ints (c.set j z)=(ints c).set j (.int .i64 z):=by unfold ints;rw [List.map_set]
 have hs:=(List.getElem?_eq_some_iff.1 hc).1
 refine ⟨h.bx.upd us (fun hm=>own_bne ho h.bx (by decide) hq0 (by simpa using Eq.symm (List.mem_singleton.1 hm))),ownsRow_updL h.cu us (fun b hb hq=>by simp at hb;subst hb;exact h.cd s _ _ hy hq0 hq),by rw [List.length_set];exact ownsRow_updL h.tb us (fun b hb hq=>own_ne h.tb ho (by decide) hq (by simp at hb;subst hb;exact hq0)),ownsRow_updL h.ac us (fun b hb hq=>own_ne h.ac ho (by decide) hq (by simp at hb;subst hb;exact hq0)),fun i c' y' h1 h2=>?_,h.ds,h.cd,h.nw,h.u.fresh us (fun b hb=>.inr (by simp at hb;subst hb;exact h.nw.2.2.2.2 s _ _ hy hq0))⟩
 by_cases hi:i=s
 ·subst hi
  rw [hy] at h2
  cases h2
  rw [List.getElem?_set_self hs] at h1
  cases h1
  rw [List.length_set,e1]
  exact own_cell ho hj _
 ·rw [List.getElem?_set_ne (fun e=>hi e.symm)] at h1
  exact ownsRow_updL (h.rw i c' y' h1 h2) us (fun b hb hq=>by
   simp at hb;subst hb
   exact hi (h.ds i s y' _ _ h2 hy hq hq0))
theorem SpS.setAcc {av':Value} {bs':List Bool} (h:SpS w0 ab cv nv av cs ns bs rvs w) (o:w1.ownsRow 0 4 1 av' bs'.length (bools bs')) (hu:Upd av.ownBlock.toList w w1) (hk:∀ q,av'.ownBlock=some q→av.ownBlock=some q∨w.heap.size≤q) :
 SpS w0 ab cv nv av' cs ns bs' rvs (w1.setCell ⟨ab,2,none⟩ av'):=by
 have us:Upd [ab] w1 (w1.setCell ⟨ab,2,none⟩ av'):=(Upd.refl [ab] w1).set (p:=⟨ab,2,none⟩) (by simp) _
 have hz:=h.u.size
 have hb1:Blk w1 ab [cv,nv,av] 39:=h.bx.upd hu (fun hm=>own_bne h.ac h.bx (by decide) (g:=ab) (by simpa using hm) rfl)
 refine ⟨hb1.set 2 _,ownsRow_updL (ownsRow_updL h.cu hu (fun b hb hq=>own_ne h.cu h.ac (by decide) hq (by simpa using hb))) us (fun b hb hq=>own_bne h.cu h.bx (by decide) hq (by simpa using hb)),ownsRow_updL (ownsRow_updL h.tb hu (fun b hb hq=>own_ne h.tb h.ac (by decide) hq (by simpa using hb))) us (fun b hb hq=>own_bne h.tb h.bx (by decide) hq (by simpa using hb)),ownsRow_updL o us (fun b hb hq=>?_),fun i c y h1 h2=>ownsRow_updL (ownsRow_updL (h.rw i c y h1 h2) hu (fun b hb hq=>own_ne (h.rw i c y h1 h2) h.ac (by decide) hq (by simpa using hb))) us (fun b hb hq=>own_bne (h.rw i c y h1 h2) h.bx (by decide) hq (by simpa using hb)),h.ds,h.cd,⟨h.nw.1,h.nw.2.1,h.nw.2.2.1,fun q hq=>?_,h.nw.2.2.2.2⟩,(h.u.fresh hu (fun b hb=>.inr (h.nw.2.2.2.1 b (by simpa using hb)))).fresh us (fun b hb=>.inr (by simp at hb;subst hb;exact h.nw.1))⟩
 ·simp at hb
  subst hb
  rcases hk _ hq with h1|h1
  ·exact own_bne h.ac h.bx (by decide) h1 rfl
  ·have:=h.bx.lt;omega
 ·rcases hk _ hq with h1|h1
  ·exact h.nw.2.2.2.1 _ h1
  ·omega
theorem SpS.takeRows {s:Nat} (h:SpS w0 ab cv (.slice (some ⟨g,0,none⟩) ns.length cap) av cs ns bs rvs w) (hs:s≤ns.length) :
 SpS w0 ab cv (.slice (some ⟨g,0,none⟩) s cap) av cs (ns.take s) bs (rvs.take s) (w.setCell ⟨ab,1,none⟩ (.slice (some ⟨g,0,none⟩) s cap)):=by
 have us:Upd [ab] w (w.setCell ⟨ab,1,none⟩ (.slice (some ⟨g,0,none⟩) s cap)):=(Upd.refl [ab] w).set (p:=⟨ab,1,none⟩) (by simp) _
 have hg:∀ {i:Nat} {y:Value},(rvs.take s)[i]?=some y→rvs[i]?=some y:=fun {i y} h1=>by
  rw [List.getElem?_take] at h1
  split at h1
  ·exact h1
  ·cases h1
 refine ⟨h.bx.set 1 _,ownsRow_updL h.cu us (fun b hb hq=>own_bne h.cu h.bx (by decide) hq (by simpa using hb)),?_,ownsRow_updL h.ac us (fun b hb hq=>own_bne h.ac h.bx (by decide) hq (by simpa using hb)),fun i c y h1 h2=>?_,fun i j y z q h1 h2=>h.ds i j y z q (hg h1) (hg h2),fun i y q h1=>h.cd i y q (hg h1),⟨h.nw.1,h.nw.2.1,h.nw.2.2.1,h.nw.2.2.2.1,fun i y q h1=>h.nw.2.2.2.2 i y q (hg h1)⟩,h.u.fresh us (fun b hb=>.inr (by simp at hb;subst hb;exact h.nw.1))⟩
 ·rw [List.length_take,Nat.min_eq_left hs]
  exact ownsRow_updL (own_take h.tb hs) us (fun b hb hq=>own_bne h.tb h.bx (by decide) (g:=b) hq (by simpa using hb))
 ·have h3:ns[i]?=some c:=by
   rw [List.getElem?_take] at h1
   split at h1
   ·exact h1
   ·cases h1
  exact ownsRow_updL (h.rw i c y h3 (hg h2)) us (fun b hb hq=>own_bne (h.rw i c y h3 (hg h2)) h.bx (by decide) hq (by simpa using hb))
theorem SpS.rowPush {s gn:Nat} {c:List Int} {y':Value} {z:Int} (h:SpS w0 ab cv (.slice (some ⟨gn,0,none⟩) ns.length cap) av cs ns bs rvs w) (hc:ns[s]?=some c) (hy:rvs[s]?=some y) (o:w1.ownsRow 0 3 1 y' (c.length+1) (ints c++[.int .i64 z])) (hu:Upd y.ownBlock.toList w w1) (hk:∀ q,y'.ownBlock=some q→y.ownBlock=some q∨w.heap.size≤q) :
 SpS w0 ab cv (.slice (some ⟨gn,0,none⟩) ns.length cap) av cs (ns.set s (c++[z])) bs (rvs.set s y') (w1.setCell ⟨gn,s,none⟩ y'):=by
 have us:Upd [gn] w1 (w1.setCell ⟨gn,s,none⟩ y'):=(Upd.refl [gn] w1).set (p:=⟨gn,s,none⟩) (by simp) _
 have ho:=h.rw s c _ hc hy
 have hz:=h.u.size
 have hs:=(List.getElem?_eq_some_iff.1 hc).1
 have hl:=h.len
 have hnv:(Value.slice (some ⟨gn,0,none⟩) ns.length cap).ownBlock=some gn:=rfl
 have hgn:=(h.tb.lt gn hnv).2
 have hb1:Blk w1 ab [cv,.slice (some ⟨gn,0,none⟩) ns.length cap,av] 39:=h.bx.upd hu (fun hm=>own_bne ho h.bx (by decide) (g:=ab) (by simpa using hm) rfl)
 have ht1:=ownsRow_updL h.tb hu (fun b hb hq=>own_ne h.tb ho (by decide) hq (by simpa using hb))
 have hget:∀ {i:Nat} {u:Value},(rvs.set s y')[i]?=some u→(i=s∧u=y')∨(i≠s∧rvs[i]?=some u):=fun {i u} h1=>by
  by_cases e:i=s
  ·subst e
   rw [List.getElem?_set_self (by omega)] at h1
   exact .inl ⟨rfl,by simpa using h1.symm⟩
  ·rw [List.getElem?_set_ne (fun h2=>e h2.symm)] at h1
   exact .inr ⟨e,h1⟩
 have hlt:∀ {i:Nat} {u:Value} {q:Nat},rvs[i]?=some u→u.ownBlock=some q→q<w.heap.size:=fun {i u q} h1 h2=>by
  have hi:=(List.getElem?_eq_some_iff.1 h1).1
  exact ((h.rw i ns[i] u (List.getElem?_eq_getElem (by omega)) h1).lt q h2).2
 refine ⟨hb1.upd us (fun hm=>own_bne h.tb h.bx (by decide) hnv (by simpa using Eq.symm (List.mem_singleton.1 hm))),ownsRow_updL (ownsRow_updL h.cu hu (fun b hb hq=>h.cd s y b hy (by simpa using hb) hq)) us (fun b hb hq=>own_ne h.cu h.tb (by decide) hq (by simp at hb;subst hb;exact hnv)),by rw [List.length_set];exact own_cell ht1 hs _,ownsRow_updL (ownsRow_updL h.ac hu (fun b hb hq=>own_ne h.ac ho (by decide) hq (by simpa using hb))) us (fun b hb hq=>own_ne h.ac h.tb (by decide) hq (by simp at hb;subst hb;exact hnv)),fun i c' u h1 h2=>?_,fun i j u1 u2 q h1 h2 h3 h4=>?_,fun i u q h1 h2 h3=>?_,⟨h.nw.1,h.nw.2.1,h.nw.2.2.1,h.nw.2.2.2.1,fun i u q h1 h2=>?_⟩,(h.u.fresh hu (fun b hb=>.inr (h.nw.2.2.2.2 s y b hy (by simpa using hb)))).fresh us (fun b hb=>.inr (by simp at hb;subst hb;exact h.nw.2.2.1 _ hnv))⟩
 ·rcases hget h2 with ⟨rfl,rfl⟩|⟨hne,h2⟩
  ·rw [List.getElem?_set_self hs] at h1
   cases h1
   rw [show (c++[z]).length=c.length+1 by simp,show ints (c++[z])=ints c++[.int .i64 z] by simp [ints]]
   exact ownsRow_updL o us (fun b hb hq=>by
    simp at hb;subst hb
    rcases hk _ hq with h5|h5
    ·exact own_ne ho h.tb (by decide) h5 hnv
    ·omega)
  ·rw [List.getElem?_set_ne (fun e=>hne e.symm)] at h1
   have hi:=h.rw i c' u h1 h2
   exact ownsRow_updL (ownsRow_updL hi hu (fun b hb hq=>hne (h.ds i s u y b h2 hy hq (by simpa using hb)))) us (fun b hb hq=>own_ne hi h.tb (by decide) hq (by simp at hb;subst hb;exact hnv))
 ·rcases hget h1 with ⟨rfl,rfl⟩|⟨hn1,h1'⟩
  ·rcases hget h2 with ⟨rfl,rfl⟩|⟨hn2,h2⟩
   ·rfl
   ·rcases hk _ h3 with h5|h5
    ·exact h.ds _ _ _ _ q hy h2 h5 h4
    ·have:=hlt h2 h4;omega
  ·rcases hget h2 with ⟨rfl,rfl⟩|⟨hn2,h2'⟩
   ·rcases hk _ h4 with h5|h5
    ·exact h.ds _ _ _ _ q h1' hy h3 h5
    ·have:=hlt h1' h3;omega
   ·exact h.ds i j u1 u2 q h1' h2' h3 h4
 ·rcases hget h1 with ⟨rfl,rfl⟩|⟨hn1,h1⟩
  ·rcases hk _ h2 with h5|h5
   ·exact h.cd _ _ q hy h5 h3
   ·have:=(h.cu.lt q h3).2;omega
  ·exact h.cd i u q h1 h2 h3
 ·rcases hget h1 with ⟨rfl,rfl⟩|⟨hn1,h1⟩
  ·rcases hk _ h2 with h5|h5
   ·exact h.nw.2.2.2.2 _ _ q hy h5
   ·omega
  ·exact h.nw.2.2.2.2 i u q h1 h2
theorem SpS.fin (h:SpS w0 ab cv nv av cs ns bs rvs w) (hu:Upd U w w') (hU:∀ b∈U,b<w0.heap.size):AuF w' ⟨cs,ns,bs⟩ [cv,nv,av]:=
 ⟨_,_,_,rfl,SL.of_owns (ownsRow_updL h.cu hu (fun b hb hq=>by have:=h.nw.2.1 b hq;have:=hU b hb;omega)),h.cl_ hu (fun b hb hq=>by have:=h.nw.2.2.1 b hq;have:=hU b hb;omega) (fun i y hy b hb hq=>by have:=h.nw.2.2.2.2 i y b hy hq;have:=hU b hb;omega),SL.of_owns (ownsRow_updL h.ac hu (fun b hb hq=>by have:=h.nw.2.2.2.1 b hq;have:=hU b hb;omega))⟩
theorem SpS.start (w1:World) {cv av:Value} {cs:List Int} {bs:List Bool} (hb:Blk w ab [cv,.slice none 0 0,av] 39) (hc:w.ownsRow 0 3 1 cv cs.length (ints cs)) (ha:w.ownsRow 0 4 1 av bs.length (bools bs)) (h1:w1.heap.size≤ab) (h2:∀ q,cv.ownBlock=some q→w1.heap.size≤q) (h3:∀ q,av.ownBlock=some q→w1.heap.size≤q) (hu:Upd [] w1 w):SpS w1 ab cv (.slice none 0 0) av cs [] bs [] w:=
 ⟨hb,hc,World.ownsRow_nil _ _ _ _,ha,fun i c y h=>by simp at h,fun i j y z q h=>by simp at h,fun i y q h=>by simp at h,⟨h1,h2,fun q hq=>by simp [Value.ownBlock] at hq,h3,fun i y q h=>by simp at h⟩,hu⟩
end
end Aut
end Go.Proofs.YtjclbjdkkdijbaaGreat
end
section
open Go.RowKit
namespace Go.Proofs.YtjclbjdkkdijbaaGreat
open L
namespace Aut
open Auto R01
attribute [-go_sem] sliced
def Szd (a:Au):Prop:=a.cuts.length≤1000∧a.next.length≤1000∧a.acc.length≤1000∧a.next.length≤a.acc.length∧∀ l∈a.next,l.length≤1000
section
variable {w w':World} {v:Value}
def TwoC (p q:Addr) (u v:Value):Type:={ w:World // w.cell? p=some u∧w.cell? q=some v }
def TwoC.val {p q:Addr} {u v:Value} (x:TwoC p q u v):World:=x.1
theorem TwoC.c0 {p q:Addr} {u v:Value} (x:TwoC p q u v):x.val.cell? p=some u:=x.2.1
theorem TwoC.c1 {p q:Addr} {u v:Value} (x:TwoC p q u v):x.val.cell? q=some v:=x.2.2
attribute [go_sem] TwoC.c0 TwoC.c1
theorem TwoC.of {p q:Addr} {u v:Value} {w:World} (h:w.cell? p=some u) (h2:w.cell? q=some v):∃ x:TwoC p q u v,w=x.val:=⟨⟨w,h,h2⟩,rfl⟩
set_option maxRecDepth 100000 in
set_option maxHeartbeats 16000000 in
theorem spoilA_calls {a:Au} {at_ how by_:Int} (h:AuV w a v) (hz:Szd a) (h1:IsI64 at_) (h2:IsI64 how) (h3:IsI64 by_) :
 Calls Tryz.prog 59 #[v,.int .i64 at_,.int .i64 how,.int .i64 by_] w fun e w'=>∃ v',e=.returned v'∧AuV w' (spoilA a at_ how by_) v'∧Upd [] w w':=by
 obtain ⟨a1,c1,a2,c2,a3,c3,rfl,hF⟩:=h.shape
 have HF0:=Lib.hid (And.intro hF (And.intro hz (And.intro h1 (And.intro h2 h3))))
 clear h hF hz
 go_enter Tryz.func59,Tryz.ntmps59
 go_upto_region 1 with fail
 have b1:=(Blk.new w [.slice a1 a.cuts.length c1,.slice a2 a.next.length c2,.slice a3 a.acc.length c3] 39).alloc (.cells #[.slice none 0 0,.slice none 0 0,.slice none 0 0] 39)
 have b2:=Blk.new (w.alloc (.cells #[.slice a1 a.cuts.length c1,.slice a2 a.next.length c2,.slice a3 a.acc.length c3] 39)) [.slice none 0 0,.slice none 0 0,.slice none 0 0] 39
 have u1:=((Upd.refl [] w).alloc (.cells #[.slice a1 a.cuts.length c1,.slice a2 a.next.length c2,.slice a3 a.acc.length c3] 39)).alloc (.cells #[.slice none 0 0,.slice none 0 0,.slice none 0 0] 39)
 have z1:(w.alloc (.cells #[.slice a1 a.cuts.length c1,.slice a2 a.next.length c2,.slice a3 a.acc.length c3] 39)).heap.size=w.heap.size+1:=by simp
 rw [z1] at b2
 change Blk ((w.alloc (.cells #[.slice a1 a.cuts.length c1,.slice a2 a.next.length c2,.slice a3 a.acc.length c3] 39)).alloc (.cells #[.slice none 0 0,.slice none 0 0,.slice none 0 0] 39)) _ _ _ at b1
 change Blk ((w.alloc (.cells #[.slice a1 a.cuts.length c1,.slice a2 a.next.length c2,.slice a3 a.acc.length c3] 39)).alloc (.cells #[.slice none 0 0,.slice none 0 0,.slice none 0 0] 39)) _ _ _ at b2
 generalize ((w.alloc (.cells #[.slice a1 a.cuts.length c1,.slice a2 a.next.length c2,.slice a3 a.acc.length c3] 39)).alloc (.cells #[.slice none 0 0,.slice none 0 0,.slice none 0 0] 39))=w1 at *
 have k0:=b1.cell (i:=0) rfl
 have k1:=b1.cell (i:=1) rfl
 have k2:=b1.cell (i:=2) rfl
 have HW:=Lib.hid (And.intro b1 (And.intro b2 (And.intro u1 (HF0.out.1.ext u1))))
 clear b1 b2 u1 z1
 generalize hpa:w.heap.size=pa at *
 have HPA:=Lib.hid hpa
 clear hpa
 go_upto_region 2 with fail
 have HB:=Lib.hid (show Blk (w1.alloc (.cells #[.slice none 0 0,.slice none 0 0,.slice none 0 0] 39)) w1.heap.size [.slice none 0 0,.slice none 0 0,.slice none 0 0] 39∧Upd [] w1 (w1.alloc (.cells #[.slice none 0 0,.slice none 0 0,.slice none 0 0] 39)) from ⟨Blk.new w1 [.slice none 0 0,.slice none 0 0,.slice none 0 0] _,(Upd.refl [] w1).alloc _⟩)
 change Code.wp _ _ _ _ (w1.alloc (.cells #[.slice none 0 0,.slice none 0 0,.slice none 0 0] 39))
 generalize (w1.alloc (.cells #[.slice none 0 0,.slice none 0 0,.slice none 0 0] 39))=w2 at *
 have HAB:=Lib.hid (show pa+1<w1.heap.size∧pa<w1.heap.size from ⟨HW.out.2.1.lt,HW.out.1.lt⟩)
 obtain ⟨ab,hab⟩:∃ ab,w1.heap.size=ab:=⟨_,rfl⟩
 rw [hab] at HB ⊢
 have HAE:=Lib.hid hab
 clear hab
 have HS1:=Lib.hid (show SL w2 1 (.slice a1 a.cuts.length c1) a.cuts.length (ints a.cuts)∧SL w2 1 (.slice a3 a.acc.length c3) a.acc.length (bools a.acc) from by
  obtain ⟨cv,nv,av,he,g1,g2,g3⟩:=HW.out.2.2.2
  cases he
  exact ⟨g1.upd HB.out.2 (by simp),g3.upd HB.out.2 (by simp)⟩)
 have k0:=HB.out.2.some k0 (by simp)
 have k2:=HB.out.2.some k2 (by simp)
 have x0:=HB.out.1.cell (i:=0) rfl
 have hzc:a.cuts.length≤1000:=HF0.out.2.1.1
 have hza:a.acc.length≤1000:=HF0.out.2.1.2.2.1
 go_upto_region 3 with (refine wpList_appS rfl _ _ _ rfl 3 1 8 _ Tryz.underlying22 infoInt rfl (by decide) (.slice none 0 0) 0 [] rfl (World.ownsRow_nil _ _ _ _) (.slice a1 a.cuts.length c1) a.cuts.length (ints a.cuts) rfl HS1.out.1 (ints_one _) (by unfold maxLen;omega) (by omega) ?_;intro b4 d4 w4 o4 u4 k4;rw [Nat.zero_add] at o4 k4 ⊢;rw [List.nil_append] at o4;have u4':Upd [] w2 w4:=u4;have bx4:=HB.out.1.upd u4' (by simp);have x0:=bx4.cell (i:=0) rfl;have xf:∀ q,w4.frozen? ⟨ab,q,none⟩=false:=bx4.free;have H4:=Lib.hid (And.intro o4 (And.intro u4' (And.intro k4 bx4)));clear o4 u4 k4 u4' bx4)
 have HS5:=Lib.hid (show Blk (w4.setCell ⟨ab,0,none⟩ (.slice b4 a.cuts.length d4)) ab [.slice b4 a.cuts.length d4,.slice none 0 0,.slice none 0 0] 39∧(w4.setCell ⟨ab,0,none⟩ (.slice b4 a.cuts.length d4)).ownsRow 0 3 1 (.slice b4 a.cuts.length d4) a.cuts.length (ints a.cuts)∧Upd [] w1 (w4.setCell ⟨ab,0,none⟩ (.slice b4 a.cuts.length d4))∧(∀ q,Value.ownBlock (.slice b4 a.cuts.length d4)=some q→w1.heap.size≤q)∧Upd [ab] w4 (w4.setCell ⟨ab,0,none⟩ (.slice b4 a.cuts.length d4)) from by
  have us:Upd [ab] w4 (w4.setCell ⟨ab,0,none⟩ (.slice b4 a.cuts.length d4)):=(Upd.refl [ab] w4).set (p:=⟨ab,0,none⟩) (by simp) _
  refine ⟨H4.out.2.2.2.set 0 _,ownsRow_updL H4.out.1 us (fun b hb hq=>own_bne H4.out.1 H4.out.2.2.2 (by decide) hq (by simpa using hb)),(HB.out.2.step H4.out.2.1).fresh us (fun b hb=>.inr (by simp at hb;subst hb;exact Nat.le_of_eq HAE.out)),fun q hq=>?_,us⟩
  rcases H4.out.2.2.1 with h|h
  ·rw [h] at hq;simp [Value.ownBlock] at hq
  ·rw [h] at hq;simp at hq;subst hq;exact HB.out.2.size)
 generalize (w4.setCell ⟨ab,0,none⟩ (.slice b4 a.cuts.length d4))=w5 at *
 clear x0 xf k0 k1 k2
 have k2:=HS5.out.2.2.1.some (HW.out.1.cell (i:=2) rfl) (by simp)
 have x2:=HS5.out.1.cell (i:=2) rfl
 have HS6:=Lib.hid (show SL w5 1 (.slice a3 a.acc.length c3) a.acc.length (bools a.acc) from by
  obtain ⟨cv,nv,av,he,g1,g2,g3⟩:=HW.out.2.2.2
  cases he
  exact g3.upd HS5.out.2.2.1 (by simp))
 go_upto_region 4 with (refine wpList_appS rfl _ _ _ rfl 4 1 1 _ Tryz.underlying29 infoBool rfl (by decide) (.slice none 0 0) 0 [] rfl (World.ownsRow_nil _ _ _ _) (.slice a3 a.acc.length c3) a.acc.length (bools a.acc) rfl HS6.out (bools_one _) (by unfold maxLen;omega) (by omega) ?_;intro b6 d6 w6 o6 u6 k6;rw [Nat.zero_add] at o6 k6 ⊢;rw [List.nil_append] at o6;have u6':Upd [] w5 w6:=u6;have bx6:=HS5.out.1.upd u6' (by simp);have x2:=bx6.cell (i:=2) rfl;have xf:∀ q,w6.frozen? ⟨ab,q,none⟩=false:=bx6.free;have H6:=Lib.hid (And.intro o6 (And.intro u6' (And.intro k6 bx6)));clear o6 u6 k6 u6' bx6)
 have HSP:=Lib.hid (show SpS w1 ab (.slice b4 a.cuts.length d4) (.slice none 0 0) (.slice b6 a.acc.length d6) a.cuts [] a.acc [] (w6.setCell ⟨ab,2,none⟩ (.slice b6 a.acc.length d6)) from by
  have us:Upd [ab] w6 (w6.setCell ⟨ab,2,none⟩ (.slice b6 a.acc.length d6)):=(Upd.refl [ab] w6).set (p:=⟨ab,2,none⟩) (by simp) _
  refine SpS.start w1 (H6.out.2.2.2.set 2 _) (ownsRow_updL (ownsRow_updL HS5.out.2.1 H6.out.2.1 (by simp)) us (fun b hb hq=>own_bne HS5.out.2.1 HS5.out.1 (by decide) hq (by simpa using hb))) (ownsRow_updL H6.out.1 us (fun b hb hq=>own_bne H6.out.1 H6.out.2.2.2 (by decide) hq (by simpa using hb))) (Nat.le_of_eq HAE.out) HS5.out.2.2.2.1 (fun q hq=>?_) ((HS5.out.2.2.1.step H6.out.2.1).fresh us (fun b hb=>.inr (by simp at hb;subst hb;exact Nat.le_of_eq HAE.out)))
  rcases H6.out.2.2.1 with h|h
  ·rw [h] at hq;simp [Value.ownBlock] at hq
  ·rw [h] at hq;simp at hq;subst hq;exact HS5.out.2.2.1.size)
 generalize (w6.setCell ⟨ab,2,none⟩ (.slice b6 a.acc.length d6))=w7 at *
 clear x2 xf k2
 have HRW:=Lib.hid (fun (i:Nat) (hi:i<a.next.length)=>HW.out.2.2.2.row hi)
 have hzn:a.next.length≤1000:=HF0.out.2.1.2.1
 go_wp2_with fail
 go_loopw [10] (fun iv wr=>∃ (s:Nat) (nv:Value) (rvs:List Value),iv=.int .i64 s∧s≤a.next.length∧Hid (SpS w1 ab (.slice b4 a.cuts.length d4) nv (.slice b6 a.acc.length d6) a.cuts (a.next.take s) a.acc rvs wr)) (fun iv _=>a.next.length - (intOf iv).toNat)
 case atStart=>exact ⟨0,_,_,rfl,Nat.zero_le _,Lib.hid HSP.out⟩
 case round=>
  obtain ⟨s,nv,rvs,rfl,hs,HI⟩:=hrel
  have k1:=HI.out.u.some (HW.out.1.cell (i:=1) rfl) (by simp)
  have x1:=HI.out.bx.cell (i:=1) rfl
  by_cases hlt:s<a.next.length
  ·have hli:(s:Int)<a.next.length:=by omega
   obtain ⟨g,off,ar,cr,hge,hc,hrow⟩:=HRW.out s hlt
   subst hge
   have hc':=HI.out.u.some hc (by simp)
   have HTL:=Lib.hid (show (a.next.take s).length=s by rw [List.length_take];omega)
   have HRL:=Lib.hid (And.intro (HF0.out.2.1.2.2.2.2 _ (gd_memA (d:=[]) hlt)) (show a.next.take (s+1)=a.next.take s++[a.next.getD s []] by rw [List.take_add_one,gd_some (d:=[]) hlt];rfl))
   have HRS:=Lib.hid (hrow.upd HI.out.u (by simp))
   clear hc hrow
   generalize a.next.getD s []=row at *
   go_upto_region 8 with fail
   refine wp_region_ord 10 4 [0,1,2,3,4,5,6,7,11] [1,4,7] [0,1,2,3,4,5,6,7,8,9,10,11,12] (fun w'=>∃ x:Ext wr,w'=x.val) (by kernel_rfl) (by kernel_rfl) (Ext.of (by iterate 25 (first|exact Upd.refl _ _|assumption|refine Upd.alloc ?_ _|refine Upd.drew ?_|refine Upd.drewN ?_ _|refine Upd.dl ?_|refine Upd.step ?_ (Ext.upd _)|refine Upd.nil ?_|skip))) ?_
   repeat (first|(refine wpOrd_load rfl rfl rfl rfl (fun K hK=>?_);go_big_quiet_step (fail);refine wpQuiet_nil ?_;refine hK _ ?_;clear hK K)|(refine wpOrd_free rfl rfl rfl (fun K hK=>?_);go_big_quiet_step (fail);refine wpQuiet_nil ?_;refine hK _ ?_;clear hK K))
   refine wpOrd_fix rfl rfl (fun K hK=>?_)
   refine wpList_appS rfl _ _ _ rfl 3 1 8 _ Tryz.underlying22 infoInt rfl (by decide) (.slice none 0 0) 0 [] rfl (World.ownsRow_nil _ _ _ _) (.slice ar row.length cr) row.length (ints row) rfl (HRS.out.upd (show Upd [] wr _ from (by iterate 25 (first|exact Upd.refl _ _|assumption|refine Upd.alloc ?_ _|refine Upd.drew ?_|refine Upd.drewN ?_ _|refine Upd.dl ?_|refine Upd.step ?_ (Ext.upd _)|refine Upd.nil ?_|skip))) (by simp)) (ints_one _) (by have:=HRL.out.1;unfold maxLen;omega) (by have:=HRL.out.1;omega) ?_
   intro b5 d5 w8 o8 u8 k8
   simp only [Act.put,List.setIfInBounds_toArray,List.set_cons_zero,List.set_cons_succ]
   rw [Nat.zero_add] at o8 k8 ⊢
   rw [List.nil_append] at o8
   have HU8:=Lib.hid (And.intro (show Upd [] wr w8 from Upd.step (by iterate 25 (first|exact Upd.refl _ _|assumption|refine Upd.alloc ?_ _|refine Upd.drew ?_|refine Upd.drewN ?_ _|refine Upd.dl ?_|refine Upd.step ?_ (Ext.upd _)|refine Upd.nil ?_|skip)) u8) (And.intro o8 (show ∀ q,Value.ownBlock (.slice b5 row.length d5)=some q→wr.heap.size≤q from fun q hq=>by
    rcases k8 with h|h
    ·rw [h] at hq;simp [Value.ownBlock] at hq
    ·rw [h] at hq;simp at hq;subst hq;exact Nat.le_refl _)))
   clear o8 u8 k8
   go_wp2_with fail
   refine ⟨fun _=>Ext.of HU8.out.1,?_⟩
   repeat (first|(refine wpOrd_load rfl rfl rfl rfl (fun K hK=>?_);go_big_quiet_step (fail);refine wpQuiet_nil ?_;refine hK _ ?_;clear hK K)|(refine wpOrd_free rfl rfl rfl (fun K hK=>?_);go_big_quiet_step (fail);refine wpQuiet_nil ?_;refine hK _ ?_;clear hK K))
   refine wpOrd_fix rfl rfl (fun K hK=>?_)
   go_wp2_with fail
   have HNB:=Lib.hid (show Blk (w8.alloc (.cells #[.slice b5 row.length d5] 22)) w8.heap.size [.slice b5 row.length d5] 22∧Upd [] w8 (w8.alloc (.cells #[.slice b5 row.length d5] 22)) from ⟨Blk.new w8 [.slice b5 row.length d5] _,(Upd.refl [] w8).alloc _⟩)
   generalize (w8.alloc (.cells #[.slice b5 row.length d5] 22))=wB at *
   generalize w8.heap.size=gB at *
   have HUB:=Lib.hid (HU8.out.1.step HNB.out.2)
   refine ⟨fun _=>Ext.of HUB.out,?_⟩
   repeat (first|(refine wpOrd_load rfl rfl rfl rfl (fun K hK=>?_);go_big_quiet_step (fail);refine wpQuiet_nil ?_;refine hK _ ?_;clear hK K)|(refine wpOrd_free rfl rfl rfl (fun K hK=>?_);go_big_quiet_step (fail);refine wpQuiet_nil ?_;refine hK _ ?_;clear hK K))
   refine wpOrd_fix rfl rfl (fun K hK=>?_)
   refine wpList_app rfl _ _ _ rfl 22 1 24 _ Tryz.underlying28 infoInts rfl (by decide) nv _ _ rfl (ownsRow_updL HI.out.tb HUB.out (by simp)) gB 1 1 [.slice b5 row.length d5] 22 rfl rfl HNB.out.1 (by simp [Value.oneCell']) (by omega) (by have:=HTL.out;unfold maxLen;omega) (by have:=HTL.out;omega) ?_
   intro g7 c7 w9 o9 u9 k9
   simp only [Act.put,List.setIfInBounds_toArray,List.set_cons_zero,List.set_cons_succ]
   have bx9:=(HI.out.bx.upd HUB.out (by simp)).upd u9 (fun hm=>own_bne HI.out.tb HI.out.bx (by decide) (g:=ab) (by simpa using hm) rfl)
   have x1:=bx9.cell (i:=1) rfl
   have xf:∀ q,w9.frozen? ⟨ab,q,none⟩=false:=bx9.free
   have H9:=Lib.hid (And.intro o9 (And.intro u9 k9))
   clear o9 u9 k9 bx9
   go_wp2_with fail
   refine ⟨fun hC=>absurd hC (by decide),?_⟩
   repeat (first|(refine wpOrd_load rfl rfl rfl rfl (fun K hK=>?_);go_big_quiet_step (fail);refine wpQuiet_nil ?_;refine hK _ ?_;clear hK K)|(refine wpOrd_free rfl rfl rfl (fun K hK=>?_);go_big_quiet_step (fail);refine wpQuiet_nil ?_;refine hK _ ?_;clear hK K))
   refine wpOrd_fix rfl rfl (fun K hK=>?_)
   go_wp2_with fail
   refine ⟨fun hC=>absurd hC (by decide),?_⟩
   refine wpOrd_nil ?_
   go_wp2_with fail
   have hR:=(HI.out.quiet HUB.out).addRow (rw_:=row) (y:=.slice b5 row.length d5) (ownsRow_updL HU8.out.2.1 HNB.out.2 (by simp)) (fun q hq=>by
    have h1:=HU8.out.2.2 q hq
    refine ⟨by have:=HI.out.u.size;omega,fun i z hz2 hzq=>?_,fun hcq=>?_⟩
    ·have hi:=(List.getElem?_eq_some_iff.1 hz2).1
     have hll:=HI.out.len
     have:=((HI.out.rw i _ z (List.getElem?_eq_getElem (by omega)) hz2).lt q hzq).2
     omega
    ·have:=(HI.out.cu.lt q hcq).2
     omega) H9.out.1 H9.out.2.1 (by
    rcases H9.out.2.2 with h|h
    ·exact .inl h
    ·exact .inr (Nat.le_of_eq h.symm))
   rw [←HRL.out.2,HTL.out] at hR
   exact ⟨⟨s+1,_,_,by go_num,by omega,Lib.hid hR⟩,by simp [intOf];omega⟩
  ·have hse:s=a.next.length:=by omega
   subst hse
   have HJ:=Lib.hid (show SpS w1 ab (.slice b4 a.cuts.length d4) nv (.slice b6 a.acc.length d6) a.cuts a.next a.acc rvs wr from by have:=HI.out;rwa [List.take_length] at this)
   clear HI x1
   obtain ⟨bn,dn,hnv,_⟩:=(SL.of_owns HJ.out.tb).elems
   subst hnv
   go_upto_region 9 with fail
   clear k1
   by_cases hn0:a.next.length=0
   ·have HE:=Lib.hid (show spoilA a at_ how by_=a by unfold spoilA;rw [if_pos (.inl hn0)])
    have hb:((a.next.length:Int) == 0)=true:=by simp [hn0]
    clear hn0
    have x1:=HJ.out.bx.cell (i:=1) rfl
    go_upto_region 10 with fail
    have x0:=HJ.out.bx.cell (i:=0) rfl
    have x1:=HJ.out.bx.cell (i:=1) rfl
    have x2:=HJ.out.bx.cell (i:=2) rfl
    have bR:=HW.out.2.1.upd HJ.out.u (by simp)
    have r0:=bR.cell (i:=0) rfl
    have r1:=bR.cell (i:=1) rfl
    have r2:=bR.cell (i:=2) rfl
    have rf:∀ q,wr.frozen? ⟨pa+1,q,none⟩=false:=bR.free
    have HRB:=Lib.hid bR
    clear bR
    go_wp2_with fail
    have hs:=cell3_set (a:=.slice b4 a.cuts.length d4) (b:=.slice bn a.next.length dn) (c:=.slice b6 a.acc.length d6) HRB.out
    rw [HE.out]
    exact ret_plain rfl rfl hs.1 rfl (HJ.out.fin hs.2 (fun b hb=>by simp at hb;subst hb;exact HAB.out.1)) ((HW.out.2.2.1.step HJ.out.u).fresh hs.2 (fun b hb=>.inr (by simp at hb;subst hb;have:=HPA.out;omega)))
   by_cases hc0:a.cuts.length=0
   ·have HE:=Lib.hid (show spoilA a at_ how by_=a by unfold spoilA;rw [if_pos (.inr hc0)])
    have hbn:((a.next.length:Int) == 0)=false:=by simpa using hn0
    have hb:((a.cuts.length:Int) == 0)=true:=by simp [hc0]
    clear hc0
    have x0:=HJ.out.bx.cell (i:=0) rfl
    have x1:=HJ.out.bx.cell (i:=1) rfl
    go_upto_region 10 with fail
    have x0:=HJ.out.bx.cell (i:=0) rfl
    have x1:=HJ.out.bx.cell (i:=1) rfl
    have x2:=HJ.out.bx.cell (i:=2) rfl
    have bR:=HW.out.2.1.upd HJ.out.u (by simp)
    have r0:=bR.cell (i:=0) rfl
    have r1:=bR.cell (i:=1) rfl
    have r2:=bR.cell (i:=2) rfl
    have rf:∀ q,wr.frozen? ⟨pa+1,q,none⟩=false:=bR.free
    have HRB:=Lib.hid bR
    clear bR
    go_wp2_with fail
    have hs:=cell3_set (a:=.slice b4 a.cuts.length d4) (b:=.slice bn a.next.length dn) (c:=.slice b6 a.acc.length d6) HRB.out
    rw [HE.out]
    exact ret_plain rfl rfl hs.1 rfl (HJ.out.fin hs.2 (fun b hb=>by simp at hb;subst hb;exact HAB.out.1)) ((HW.out.2.2.1.step HJ.out.u).fresh hs.2 (fun b hb=>.inr (by simp at hb;subst hb;have:=HPA.out;omega)))
   have hbn:((a.next.length:Int) == 0)=false:=by simpa using hn0
   have hbc:((a.cuts.length:Int) == 0)=false:=by simpa using hc0
   have HSP0:=Lib.hid (show ¬ (a.next.length=0∨a.cuts.length=0) from by omega)
   have hn1:0<a.next.length:=by omega
   have hc1:0<a.cuts.length:=by omega
   obtain ⟨s,hs,hsl⟩:∃ s:Nat,around at_ a.next.length=s∧s<a.next.length:=by
    have h1:=around_lo (n:=at_) (k:=a.next.length) (by omega)
    have h2:=around_hi (n:=at_) (k:=a.next.length) (by omega)
    exact ⟨(around at_ a.next.length).toNat,by omega,by omega⟩
   obtain ⟨sc,hsc,hscl⟩:∃ s:Nat,around at_ a.cuts.length=s∧s<a.cuts.length:=by
    have h1:=around_lo (n:=at_) (k:=a.cuts.length) (by omega)
    have h2:=around_hi (n:=at_) (k:=a.cuts.length) (by omega)
    exact ⟨(around at_ a.cuts.length).toNat,by omega,by omega⟩
   obtain ⟨k,hk,hkl⟩:∃ k:Nat,around how 8=k∧k<8:=by
    have h1:=around_lo (n:=how) (k:=8) (by omega)
    have h2:=around_hi (n:=how) (k:=8) (by omega)
    exact ⟨(around how 8).toNat,by omega,by omega⟩
   have HSD:=Lib.hid (show spoilA a at_ how by_=if (k:Int)=0 then ⟨a.cuts.set sc by_,a.next,a.acc⟩
    else if (k:Int)=1 then ⟨a.cuts++[by_],a.next,a.acc⟩
    else if (k:Int)=2 then ⟨[],a.next,a.acc⟩
    else if (k:Int)=3 then (if 0<(a.next.getD s []).length then ⟨a.cuts,a.next.set s ((a.next.getD s []).set (around by_ (a.next.getD s []).length).toNat by_),a.acc⟩ else a)
    else if (k:Int)=4 then ⟨a.cuts,a.next.set s (a.next.getD s []++[0]),a.acc⟩
    else if (k:Int)=5 then ⟨a.cuts,a.next,a.acc++[true]⟩
    else if (k:Int)=6 then ⟨a.cuts,a.next.take s,a.acc.take s⟩
    else ⟨a.cuts,a.next,List.replicate (250+around by_ 12).toNat false⟩ from by
    unfold spoilA
    rw [if_neg HSP0.out,hs,hsc,hk,Int.toNat_natCast,Int.toNat_natCast])
   have HA1:=Lib.hid (fun (w':World)=>show Calls Tryz.prog 23 #[.int .i64 at_,.int .i64 (a.next.length:Nat)] w' fun e w2=>e=.returned (.int .i64 (s:Nat))∧w'=w2 from by
    have h:=Around_calls at_ a.next.length w' HF0.out.2.2.1 (by omega) (by omega)
    rwa [hs] at h)
   have HA2:=Lib.hid (fun (w':World)=>show Calls Tryz.prog 23 #[.int .i64 how,.int .i64 8] w' fun e w2=>e=.returned (.int .i64 (k:Nat))∧w'=w2 from by
    have h:=Around_calls how 8 w' HF0.out.2.2.2.1 (by omega) (by omega)
    rwa [hk] at h)
   have HA3:=Lib.hid (fun (w':World)=>show Calls Tryz.prog 23 #[.int .i64 at_,.int .i64 (a.cuts.length:Nat)] w' fun e w2=>e=.returned (.int .i64 (sc:Nat))∧w'=w2 from by
    have h:=Around_calls at_ a.cuts.length w' HF0.out.2.2.1 (by omega) (by omega)
    rwa [hsc] at h)
   have HA4:=Lib.hid (HA1.out wr)
   have HA5:=Lib.hid (HA2.out wr)
   clear hs hsc hk hn0 hc0
   have x0:=HJ.out.bx.cell (i:=0) rfl
   have x1:=HJ.out.bx.cell (i:=1) rfl
   go_upto_region 14 with (first|((with_reducible refine HA4.out.mono ?_);rintro e _ ⟨rfl,rfl⟩)|((with_reducible refine HA5.out.mono ?_);rintro e _ ⟨rfl,rfl⟩))
   have x2:=HJ.out.bx.cell (i:=2) rfl
   have xf:∀ q,wr.frozen? ⟨ab,q,none⟩=false:=HJ.out.bx.free
   rcases (by omega:k=0∨k=1∨k=2∨k=3∨k=4∨k=5∨k=6∨k=7) with rfl|rfl|rfl|rfl|rfl|rfl|rfl|rfl
   ·have HE:=Lib.hid (show spoilA a at_ how by_=⟨a.cuts.set sc by_,a.next,a.acc⟩ from HSD.out)
    go_upto_region 15 with fail
    obtain ⟨gc,dc,hge,_,_⟩:=owns_form HJ.out.cu hc1
    cases hge
    obtain ⟨pad,hbk,_⟩:=own_blk HJ.out.cu
    have y0:=hbk.cell (i:=sc) (by rw [List.getElem?_append_left (by simp [ints];exact hscl)];exact ints_gd hscl)
    have yf:∀ q,wr.frozen? ⟨gc,q,none⟩=false:=hbk.free
    have hsci:(sc:Int)<a.cuts.length:=by omega
    clear hbk
    refine wp_region_ord 9 1 [0,1,2,3,4,5,7,8] [1,4] [0,1,2,3,4,5,7,6,8,9] (fun w'=>∃ x:Ext wr,w'=x.val) (by kernel_rfl) (by kernel_rfl) (Ext.of (by iterate 25 (first|exact Upd.refl _ _|assumption|refine Upd.alloc ?_ _|refine Upd.drew ?_|refine Upd.drewN ?_ _|refine Upd.dl ?_|refine Upd.step ?_ (Ext.upd _)|refine Upd.nil ?_|skip))) ?_
    repeat (first|(refine wpOrd_load rfl rfl rfl rfl (fun K hK=>?_);go_big_quiet_step (fail);refine wpQuiet_nil ?_;refine hK _ ?_;clear hK K)|(refine wpOrd_free rfl rfl rfl (fun K hK=>?_);go_big_quiet_step (fail);refine wpQuiet_nil ?_;refine hK _ ?_;clear hK K))
    refine wpOrd_fix rfl rfl (fun K hK=>?_)
    go_wp2_with (go_at_call 23;refine (HA3.out _).mono ?_;rintro e _ ⟨rfl,rfl⟩)
    refine ⟨fun _=>Ext.of (by iterate 25 (first|exact Upd.refl _ _|assumption|refine Upd.alloc ?_ _|refine Upd.drew ?_|refine Upd.drewN ?_ _|refine Upd.dl ?_|refine Upd.step ?_ (Ext.upd _)|refine Upd.nil ?_|skip)),?_⟩
    repeat (first|(refine wpOrd_load rfl rfl rfl rfl (fun K hK=>?_);go_big_quiet_step (fail);refine wpQuiet_nil ?_;refine hK _ ?_;clear hK K)|(refine wpOrd_free rfl rfl rfl (fun K hK=>?_);go_big_quiet_step (fail);refine wpQuiet_nil ?_;refine hK _ ?_;clear hK K))
    refine wpOrd_fix rfl rfl (fun K hK=>?_)
    go_wp2_with fail
    have HM:=Lib.hid ((HJ.out.cutCell hscl by_).quiet ((Upd.refl [] _).drew))
    generalize (wr.setCell ⟨gc,sc,none⟩ (.int .i64 by_)).drew=wz at *
    clear x0 x1 x2 xf y0 yf
    refine ⟨fun hC=>absurd hC (by decide),?_⟩
    refine wpOrd_nil ?_
    have x0:=HM.out.bx.cell (i:=0) rfl
    have x1:=HM.out.bx.cell (i:=1) rfl
    have x2:=HM.out.bx.cell (i:=2) rfl
    have bR:=HW.out.2.1.upd HM.out.u (by simp)
    have r0:=bR.cell (i:=0) rfl
    have r1:=bR.cell (i:=1) rfl
    have r2:=bR.cell (i:=2) rfl
    have rf:∀ q,wz.frozen? ⟨pa+1,q,none⟩=false:=bR.free
    have HRB:=Lib.hid bR
    clear bR
    go_wp2_with fail
    have hs:=cell3_set (a:=.slice (some ⟨gc,0,none⟩) a.cuts.length d4) (b:=.slice bn a.next.length dn) (c:=.slice b6 a.acc.length d6) HRB.out
    rw [HE.out]
    exact ret_plain rfl rfl hs.1 rfl (HM.out.fin hs.2 (fun b hb=>by simp at hb;subst hb;exact HAB.out.1)) ((HW.out.2.2.1.step HM.out.u).fresh hs.2 (fun b hb=>.inr (by simp at hb;subst hb;have:=HPA.out;omega)))
   ·have HE:=Lib.hid (show spoilA a at_ how by_=⟨a.cuts++[by_],a.next,a.acc⟩ from HSD.out)
    go_upto_region 30 with (refine wpList_push rfl rfl _ _ _ _ rfl rfl rfl 3 1 8 _ Tryz.underlying22 infoInt rfl (by decide) (by decide) (.int .i64 by_) [.int .i64 by_] rfl rfl rfl (by simp [Value.oneCell']) (.slice b4 a.cuts.length d4) _ _ HJ.out.cu rfl rfl (by unfold maxLen;omega) (by omega) ?_;intro g7 c7 w9 o9 u9 k9;have bx9:=HJ.out.bx.upd u9 (fun hm=>own_bne HJ.out.cu HJ.out.bx (by decide) (g:=ab) (by simpa using hm) rfl);have x0:=bx9.cell (i:=0) rfl;have xf:∀ q,w9.frozen? ⟨ab,q,none⟩=false:=bx9.free;have H9:=Lib.hid (And.intro o9 (And.intro u9 k9));clear o9 u9 k9 bx9)
    have HM:=Lib.hid (HJ.out.setCut (cs':=a.cuts++[by_]) (cv':=.slice (some ⟨g7,0,none⟩) (a.cuts.length+1) c7) (by have:=H9.out.1;rw [show (a.cuts++[by_]).length=a.cuts.length+1 by simp,show ints (a.cuts++[by_])=ints a.cuts++[.int .i64 by_] by simp [ints]];exact this) H9.out.2.1 (fun q hq=>by
     simp only [Value.ownBlock,Option.some.injEq] at hq
     subst hq
     exact H9.out.2.2))
    generalize (w9.setCell ⟨ab,0,none⟩ (.slice (some ⟨g7,0,none⟩) (a.cuts.length+1) c7))=wz at *
    clear x0 x1 x2 xf
    have x0:=HM.out.bx.cell (i:=0) rfl
    have x1:=HM.out.bx.cell (i:=1) rfl
    have x2:=HM.out.bx.cell (i:=2) rfl
    have bR:=HW.out.2.1.upd HM.out.u (by simp)
    have r0:=bR.cell (i:=0) rfl
    have r1:=bR.cell (i:=1) rfl
    have r2:=bR.cell (i:=2) rfl
    have rf:∀ q,wz.frozen? ⟨pa+1,q,none⟩=false:=bR.free
    have HRB:=Lib.hid bR
    clear bR
    go_wp2_with fail
    have hs:=cell3_set (a:=.slice (some ⟨g7,0,none⟩) (a.cuts.length+1) c7) (b:=.slice bn a.next.length dn) (c:=.slice b6 a.acc.length d6) HRB.out
    rw [HE.out]
    exact ret_plain rfl rfl hs.1 rfl (HM.out.fin hs.2 (fun b hb=>by simp at hb;subst hb;exact HAB.out.1)) ((HW.out.2.2.1.step HM.out.u).fresh hs.2 (fun b hb=>.inr (by simp at hb;subst hb;have:=HPA.out;omega)))
   ·have HE:=Lib.hid (show spoilA a at_ how by_=⟨[],a.next,a.acc⟩ from HSD.out)
    go_upto_region 30 with fail
    have HM:=Lib.hid (HJ.out.setCut (cs':=[]) (cv':=.slice none 0 0) (World.ownsRow_nil _ _ _ _) (Upd.refl _ _) (fun q hq=>by simp [Value.ownBlock] at hq))
    generalize (wr.setCell ⟨ab,0,none⟩ (.slice none 0 0))=wz at *
    clear x0 x1 x2 xf
    have x0:=HM.out.bx.cell (i:=0) rfl
    have x1:=HM.out.bx.cell (i:=1) rfl
    have x2:=HM.out.bx.cell (i:=2) rfl
    have bR:=HW.out.2.1.upd HM.out.u (by simp)
    have r0:=bR.cell (i:=0) rfl
    have r1:=bR.cell (i:=1) rfl
    have r2:=bR.cell (i:=2) rfl
    have rf:∀ q,wz.frozen? ⟨pa+1,q,none⟩=false:=bR.free
    have HRB:=Lib.hid bR
    clear bR
    go_wp2_with fail
    have hs:=cell3_set (a:=.slice none 0 0) (b:=.slice bn a.next.length dn) (c:=.slice b6 a.acc.length d6) HRB.out
    rw [HE.out]
    exact ret_plain rfl rfl hs.1 rfl (HM.out.fin hs.2 (fun b hb=>by simp at hb;subst hb;exact HAB.out.1)) ((HW.out.2.2.1.step HM.out.u).fresh hs.2 (fun b hb=>.inr (by simp at hb;subst hb;have:=HPA.out;omega)))
   ·have HE0:=Lib.hid (show spoilA a at_ how by_=(if 0<(a.next.getD s []).length then ⟨a.cuts,a.next.set s ((a.next.getD s []).set (around by_ (a.next.getD s []).length).toNat by_),a.acc⟩ else a) from HSD.out)
    have hrow:=gd_some (d:=[]) hsl
    have HRS:=Lib.hid (HF0.out.2.1.2.2.2.2 _ (gd_memA (d:=[]) hsl))
    obtain ⟨y,hy,hyo⟩:=HJ.out.val hrow
    obtain ⟨gn,dn',hge,_,_⟩:=owns_form HJ.out.tb hn1
    cases hge
    obtain ⟨pad,hbk,_⟩:=own_blk HJ.out.tb
    have hsv:s<rvs.length:=(List.getElem?_eq_some_iff.1 hy).1
    have yc:=hbk.cell (i:=s) (by rw [List.getElem?_append_left hsv];exact hy)
    have yf:∀ q,wr.frozen? ⟨gn,q,none⟩=false:=hbk.free
    have HY:=Lib.hid (And.intro hy (And.intro hyo hrow))
    have hsi:(s:Int)<a.next.length:=by omega
    have hlr:(a.next.getD s []).length≤1000:=HRS.out
    obtain ⟨ya,ycp,hye,_⟩:=(SL.of_owns hyo).elems
    subst hye
    generalize (a.next.getD s [])=row at *
    clear hy hyo hrow hbk hsv
    by_cases hrl:0<row.length
    ·have hrli:(0:Int)<row.length:=by omega
     obtain ⟨j,hj,hjl⟩:∃ j:Nat,around by_ row.length=j∧j<row.length:=by
      have h1:=around_lo (n:=by_) (k:=row.length) (by omega)
      have h2:=around_hi (n:=by_) (k:=row.length) (by omega)
      exact ⟨(around by_ row.length).toNat,by omega,by omega⟩
     have HE:=Lib.hid (show spoilA a at_ how by_=⟨a.cuts,a.next.set s (row.set j by_),a.acc⟩ by rw [HE0.out,if_pos hrl,hj,Int.toNat_natCast])
     have HA6:=Lib.hid (fun (w':World)=>show Calls Tryz.prog 23 #[.int .i64 by_,.int .i64 (row.length:Nat)] w' fun e w2=>e=.returned (.int .i64 (j:Nat))∧w'=w2 from by
      have h:=Around_calls by_ row.length w' HF0.out.2.2.2.2 (by omega) (by omega)
      rwa [hj] at h)
     obtain ⟨gy,yc',hge,_,_⟩:=owns_form HY.out.2.1 hrl
     cases hge
     obtain ⟨pad2,hbk2,_⟩:=own_blk HY.out.2.1
     have z0:=hbk2.cell (i:=j) (by rw [List.getElem?_append_left (by simp [ints];exact hjl)];exact ints_gd hjl)
     have zf:∀ q,wr.frozen? ⟨gy,q,none⟩=false:=hbk2.free
     have hji:(j:Int)<row.length:=by omega
     clear hbk2 hj hrl
     go_upto_region 22 with fail
     refine wp_region_ord 15 1 [0,1,2,3,4,5,6,7,8,9,10,11,13,14] [1,4,7,10] [0,1,2,3,4,5,6,7,8,9,10,11,13,12,14,15] (fun w'=>∃ x:Ext wr,w'=x.val) (by kernel_rfl) (by kernel_rfl) (Ext.of (by iterate 25 (first|exact Upd.refl _ _|assumption|refine Upd.alloc ?_ _|refine Upd.drew ?_|refine Upd.drewN ?_ _|refine Upd.dl ?_|refine Upd.step ?_ (Ext.upd _)|refine Upd.nil ?_|skip))) ?_
     repeat (first|(refine wpOrd_load rfl rfl rfl rfl (fun K hK=>?_);go_big_quiet_step (fail);refine wpQuiet_nil ?_;refine hK _ ?_;clear hK K)|(refine wpOrd_free rfl rfl rfl (fun K hK=>?_);go_big_quiet_step (fail);refine wpQuiet_nil ?_;refine hK _ ?_;clear hK K))
     refine wpOrd_fix rfl rfl (fun K hK=>?_)
     go_wp2_with (go_at_call 23;refine (HA6.out _).mono ?_;rintro e _ ⟨rfl,rfl⟩)
     refine ⟨fun _=>Ext.of (by iterate 25 (first|exact Upd.refl _ _|assumption|refine Upd.alloc ?_ _|refine Upd.drew ?_|refine Upd.drewN ?_ _|refine Upd.dl ?_|refine Upd.step ?_ (Ext.upd _)|refine Upd.nil ?_|skip)),?_⟩
     repeat (first|(refine wpOrd_load rfl rfl rfl rfl (fun K hK=>?_);go_big_quiet_step (fail);refine wpQuiet_nil ?_;refine hK _ ?_;clear hK K)|(refine wpOrd_free rfl rfl rfl (fun K hK=>?_);go_big_quiet_step (fail);refine wpQuiet_nil ?_;refine hK _ ?_;clear hK K))
     refine wpOrd_fix rfl rfl (fun K hK=>?_)
     go_wp2_with fail
     have HM:=Lib.hid ((HJ.out.rowCell (y:=undef) HY.out.2.2 HY.out.1 hjl by_).quiet ((Upd.refl [] _).drew))
     generalize (wr.setCell ⟨gy,j,none⟩ (.int .i64 by_)).drew=wz at *
     clear x0 x1 x2 xf yc yf z0 zf
     refine ⟨fun hC=>absurd hC (by decide),?_⟩
     refine wpOrd_nil ?_
     have x0:=HM.out.bx.cell (i:=0) rfl
     have x1:=HM.out.bx.cell (i:=1) rfl
     have x2:=HM.out.bx.cell (i:=2) rfl
     have bR:=HW.out.2.1.upd HM.out.u (by simp)
     have r0:=bR.cell (i:=0) rfl
     have r1:=bR.cell (i:=1) rfl
     have r2:=bR.cell (i:=2) rfl
     have rf:∀ q,wz.frozen? ⟨pa+1,q,none⟩=false:=bR.free
     have HRB:=Lib.hid bR
     clear bR
     go_wp2_with fail
     have hs:=cell3_set (a:=.slice b4 a.cuts.length d4) (b:=.slice (some ⟨gn,0,none⟩) a.next.length dn) (c:=.slice b6 a.acc.length d6) HRB.out
     rw [HE.out]
     exact ret_plain rfl rfl hs.1 rfl (HM.out.fin hs.2 (fun b hb=>by simp at hb;subst hb;exact HAB.out.1)) ((HW.out.2.2.1.step HM.out.u).fresh hs.2 (fun b hb=>.inr (by simp at hb;subst hb;have:=HPA.out;omega)))
    ·have hrli:¬ (0:Int)<row.length:=by omega
     have HE:=Lib.hid (show spoilA a at_ how by_=a by rw [HE0.out,if_neg hrl])
     clear hrl
     go_upto_region 30 with fail
     clear x0 x1 x2 xf yc yf
     have x0:=HJ.out.bx.cell (i:=0) rfl
     have x1:=HJ.out.bx.cell (i:=1) rfl
     have x2:=HJ.out.bx.cell (i:=2) rfl
     have bR:=HW.out.2.1.upd HJ.out.u (by simp)
     have r0:=bR.cell (i:=0) rfl
     have r1:=bR.cell (i:=1) rfl
     have r2:=bR.cell (i:=2) rfl
     have rf:∀ q,wr.frozen? ⟨pa+1,q,none⟩=false:=bR.free
     have HRB:=Lib.hid bR
     clear bR
     go_wp2_with fail
     have hs:=cell3_set (a:=.slice b4 a.cuts.length d4) (b:=.slice (some ⟨gn,0,none⟩) a.next.length dn) (c:=.slice b6 a.acc.length d6) HRB.out
     rw [HE.out]
     exact ret_plain rfl rfl hs.1 rfl (HJ.out.fin hs.2 (fun b hb=>by simp at hb;subst hb;exact HAB.out.1)) ((HW.out.2.2.1.step HJ.out.u).fresh hs.2 (fun b hb=>.inr (by simp at hb;subst hb;have:=HPA.out;omega)))
   ·have HE0:=Lib.hid (show spoilA a at_ how by_=⟨a.cuts,a.next.set s (a.next.getD s []++[0]),a.acc⟩ from HSD.out)
    have hrow:=gd_some (d:=[]) hsl
    have HRS:=Lib.hid (HF0.out.2.1.2.2.2.2 _ (gd_memA (d:=[]) hsl))
    obtain ⟨y,hy,hyo⟩:=HJ.out.val hrow
    obtain ⟨gn,dn',hge,_,_⟩:=owns_form HJ.out.tb hn1
    cases hge
    obtain ⟨pad,hbk,_⟩:=own_blk HJ.out.tb
    have hsv:s<rvs.length:=(List.getElem?_eq_some_iff.1 hy).1
    have yc:=hbk.cell (i:=s) (by rw [List.getElem?_append_left hsv];exact hy)
    have yf:∀ q,wr.frozen? ⟨gn,q,none⟩=false:=hbk.free
    have HY:=Lib.hid (And.intro hy (And.intro hyo hrow))
    have HBK:=Lib.hid hbk
    have hsi:(s:Int)<a.next.length:=by omega
    have hlr:(a.next.getD s []).length≤1000:=HRS.out
    obtain ⟨ya,ycp,hye,_⟩:=(SL.of_owns hyo).elems
    subst hye
    generalize (a.next.getD s [])=row at *
    clear hy hyo hrow hbk hsv
    have HE:=Lib.hid HE0.out
    go_upto_region 24 with fail
    refine wp_region_ord 11 1 [0,1,2,3,4,5,6,7,10] [1,4,7] [0,1,2,3,4,5,6,7,8,9,10,11] (fun w'=>∃ x:TwoC ⟨ab,1,none⟩ ⟨gn,s,none⟩ (.slice (some ⟨gn,0,none⟩) a.next.length dn) (.slice ya row.length ycp),w'=x.val) (by kernel_rfl) (by kernel_rfl) (TwoC.of x1 yc) ?_
    repeat (first|(refine wpOrd_load rfl rfl rfl rfl (fun K hK=>?_);go_big_quiet_step (exact rfl);refine wpQuiet_nil ?_;refine hK _ ?_;clear hK K)|(refine wpOrd_free rfl rfl rfl (fun K hK=>?_);go_big_quiet_step (fail);refine wpQuiet_nil ?_;refine hK _ ?_;clear hK K))
    refine wpOrd_fix rfl rfl (fun K hK=>?_)
    go_wp2_with fail
    have HNB:=Lib.hid (show Blk ((wr.alloc (.cells #[.int .i64 0] 3)).drew) wr.heap.size [.int .i64 0] 3∧Upd [] wr ((wr.alloc (.cells #[.int .i64 0] 3)).drew) from ⟨Blk.new wr [.int .i64 0] 3,((Upd.refl [] wr).alloc _).drew⟩)
    generalize (wr.alloc (.cells #[.int .i64 0] 3)).drew=wB at *
    generalize wr.heap.size=gB at *
    have x1B:=HNB.out.2.some x1 (by simp)
    have ycB:=HNB.out.2.some yc (by simp)
    refine ⟨fun _=>TwoC.of x1B ycB,?_⟩
    repeat (first|(refine wpOrd_load rfl rfl rfl rfl (fun K hK=>?_);go_big_quiet_step (fail);refine wpQuiet_nil ?_;refine hK _ ?_;clear hK K)|(refine wpOrd_free rfl rfl rfl (fun K hK=>?_);go_big_quiet_step (fail);refine wpQuiet_nil ?_;refine hK _ ?_;clear hK K))
    refine wpOrd_fix rfl rfl (fun K hK=>?_)
    have HON:=Lib.hid (show Value.ownBlock (.slice ya row.length ycp)≠some ab∧Value.ownBlock (.slice ya row.length ycp)≠some gn from ⟨fun hq=>own_bne HY.out.2.1 HJ.out.bx (by decide) hq rfl,fun hq=>own_ne HY.out.2.1 HJ.out.tb (by decide) hq rfl⟩)
    refine wpList_app rfl _ _ _ rfl 3 1 8 _ Tryz.underlying22 infoInt rfl (by decide) (.slice ya row.length ycp) _ _ rfl (ownsRow_updL HY.out.2.1 HNB.out.2 (by simp)) gB 1 1 [.int .i64 0] 3 rfl rfl HNB.out.1 (by simp [Value.oneCell']) (by omega) (by unfold maxLen;omega) (by omega) ?_
    intro g7 c7 w9 o9 u9 k9
    simp only [Act.put,List.setIfInBounds_toArray,List.set_cons_zero,List.set_cons_succ]
    have x19:=u9.some x1B (by simpa using HON.out.1)
    have yc9:=u9.some ycB (by simpa using HON.out.2)
    have yf9:∀ q,w9.frozen? ⟨gn,q,none⟩=false:=((HBK.out.upd HNB.out.2 (by simp)).upd u9 (by simpa using HON.out.2)).free
    have H9:=Lib.hid (And.intro o9 (And.intro u9 k9))
    clear o9 u9 k9 x1B ycB x0 x1 x2 xf yc yf
    go_wp2_with fail
    refine ⟨fun _=>TwoC.of x19 yc9,?_⟩
    repeat (first|(refine wpOrd_load rfl rfl rfl rfl (fun K hK=>?_);go_big_quiet_step (fail);refine wpQuiet_nil ?_;refine hK _ ?_;clear hK K)|(refine wpOrd_free rfl rfl rfl (fun K hK=>?_);go_big_quiet_step (fail);refine wpQuiet_nil ?_;refine hK _ ?_;clear hK K))
    refine wpOrd_fix rfl rfl (fun K hK=>?_)
    go_wp2_with fail
    have HM:=Lib.hid ((HJ.out.quiet HNB.out.2).rowPush (y':=.slice (some ⟨g7,0,none⟩) (row.length+1) c7) HY.out.2.2 HY.out.1 H9.out.1 H9.out.2.1 (fun q hq=>by
     simp only [Value.ownBlock,Option.some.injEq] at hq
     subst hq
     rcases H9.out.2.2 with h|h
     ·exact .inl h
     ·exact .inr (Nat.le_of_eq h.symm)))
    generalize (w9.setCell ⟨gn,s,none⟩ (.slice (some ⟨g7,0,none⟩) (row.length+1) c7))=wz at *
    clear x19 yc9 yf9
    refine ⟨fun hC=>absurd hC (by decide),?_⟩
    refine wpOrd_nil ?_
    have x0:=HM.out.bx.cell (i:=0) rfl
    have x1:=HM.out.bx.cell (i:=1) rfl
    have x2:=HM.out.bx.cell (i:=2) rfl
    have bR:=HW.out.2.1.upd HM.out.u (by simp)
    have r0:=bR.cell (i:=0) rfl
    have r1:=bR.cell (i:=1) rfl
    have r2:=bR.cell (i:=2) rfl
    have rf:∀ q,wz.frozen? ⟨pa+1,q,none⟩=false:=bR.free
    have HRB:=Lib.hid bR
    clear bR
    go_wp2_with fail
    have hs:=cell3_set (a:=.slice b4 a.cuts.length d4) (b:=.slice (some ⟨gn,0,none⟩) a.next.length dn) (c:=.slice b6 a.acc.length d6) HRB.out
    rw [HE.out]
    exact ret_plain rfl rfl hs.1 rfl (HM.out.fin hs.2 (fun b hb=>by simp at hb;subst hb;exact HAB.out.1)) ((HW.out.2.2.1.step HM.out.u).fresh hs.2 (fun b hb=>.inr (by simp at hb;subst hb;have:=HPA.out;omega)))
   ·have HE:=Lib.hid (show spoilA a at_ how by_=⟨a.cuts,a.next,a.acc++[true]⟩ from HSD.out)
    go_upto_region 30 with (refine wpList_push rfl rfl _ _ _ _ rfl rfl rfl 4 1 1 _ Tryz.underlying29 infoBool rfl (by decide) (by decide) (.bool true) [.bool true] rfl rfl rfl (by simp [Value.oneCell']) (.slice b6 a.acc.length d6) _ _ HJ.out.ac rfl rfl (by unfold maxLen;omega) (by omega) ?_;intro g7 c7 w9 o9 u9 k9;have bx9:=HJ.out.bx.upd u9 (fun hm=>own_bne HJ.out.ac HJ.out.bx (by decide) (g:=ab) (by simpa using hm) rfl);have x2:=bx9.cell (i:=2) rfl;have xf:∀ q,w9.frozen? ⟨ab,q,none⟩=false:=bx9.free;have H9:=Lib.hid (And.intro o9 (And.intro u9 k9));clear o9 u9 k9 bx9)
    have HM:=Lib.hid (HJ.out.setAcc (bs':=a.acc++[true]) (av':=.slice (some ⟨g7,0,none⟩) (a.acc.length+1) c7) (by have:=H9.out.1;rw [show (a.acc++[true]).length=a.acc.length+1 by simp,show bools (a.acc++[true])=bools a.acc++[.bool true] by simp [bools]];exact this) H9.out.2.1 (fun q hq=>by
     simp only [Value.ownBlock,Option.some.injEq] at hq
     subst hq
     exact H9.out.2.2))
    generalize (w9.setCell ⟨ab,2,none⟩ (.slice (some ⟨g7,0,none⟩) (a.acc.length+1) c7))=wz at *
    clear x0 x1 x2 xf
    have x0:=HM.out.bx.cell (i:=0) rfl
    have x1:=HM.out.bx.cell (i:=1) rfl
    have x2:=HM.out.bx.cell (i:=2) rfl
    have bR:=HW.out.2.1.upd HM.out.u (by simp)
    have r0:=bR.cell (i:=0) rfl
    have r1:=bR.cell (i:=1) rfl
    have r2:=bR.cell (i:=2) rfl
    have rf:∀ q,wz.frozen? ⟨pa+1,q,none⟩=false:=bR.free
    have HRB:=Lib.hid bR
    clear bR
    go_wp2_with fail
    have hs:=cell3_set (a:=.slice b4 a.cuts.length d4) (b:=.slice bn a.next.length dn) (c:=.slice (some ⟨g7,0,none⟩) (a.acc.length+1) c7) HRB.out
    rw [HE.out]
    exact ret_plain rfl rfl hs.1 rfl (HM.out.fin hs.2 (fun b hb=>by simp at hb;subst hb;exact HAB.out.1)) ((HW.out.2.2.1.step HM.out.u).fresh hs.2 (fun b hb=>.inr (by simp at hb;subst hb;have:=HPA.out;omega)))
   ·have HE:=Lib.hid (show spoilA a at_ how by_=⟨a.cuts,a.next.take s,a.acc.take s⟩ from HSD.out)
    obtain ⟨gn,dn,hge,_,hdn⟩:=owns_form HJ.out.tb hn1
    cases hge
    obtain ⟨ga,d6,hge,_,hda⟩:=owns_form HJ.out.ac (by have:=HF0.out.2.1.2.2.2.1;omega)
    cases hge
    have hsl1:sliced (some ⟨gn,0,none⟩) 0 s dn 1=.slice (some ⟨gn,0,none⟩) s dn:=by
     unfold sliced
     have:dn≠0:=by omega
     simp [this,addr_add]
    have hsl2:sliced (some ⟨ga,0,none⟩) 0 s d6 1=.slice (some ⟨ga,0,none⟩) s d6:=by
     unfold sliced
     have:d6≠0:=by have:=HF0.out.2.1.2.2.2.1;omega
     simp [this,addr_add]
    have hs1:(s:Int)≤(dn:Nat):=by omega
    have hs2:(s:Int)≤(d6:Nat):=by have:=HF0.out.2.1.2.2.2.1;omega
    go_upto_region 29 with fail
    have HM:=Lib.hid (HJ.out.takeRows (s:=s) (by omega))
    generalize (wr.setCell ⟨ab,1,none⟩ (.slice (some ⟨gn,0,none⟩) s dn))=wy at *
    clear x0 x1 x2 xf
    have x2:=HM.out.bx.cell (i:=2) rfl
    have xf:∀ q,wy.frozen? ⟨ab,q,none⟩=false:=HM.out.bx.free
    go_upto_region 30 with fail
    have HM2:=Lib.hid (HM.out.setAcc (w1:=wy) (bs':=a.acc.take s) (av':=.slice (some ⟨ga,0,none⟩) s d6) (by
     have h7:=own_take HM.out.ac (m:=s) (by have:=HF0.out.2.1.2.2.2.1;omega)
     rw [List.length_take,Nat.min_eq_left (by have:=HF0.out.2.1.2.2.2.1;omega)]
     rw [show bools (a.acc.take s)=(bools a.acc).take s by unfold bools;rw [List.map_take]]
     exact h7) ((Upd.refl _ wy)) (fun q hq=>.inl hq))
    generalize (wy.setCell ⟨ab,2,none⟩ (.slice (some ⟨ga,0,none⟩) s d6))=wz at *
    clear x2 xf
    have x0:=HM2.out.bx.cell (i:=0) rfl
    have x1:=HM2.out.bx.cell (i:=1) rfl
    have x2:=HM2.out.bx.cell (i:=2) rfl
    have bR:=HW.out.2.1.upd HM2.out.u (by simp)
    have r0:=bR.cell (i:=0) rfl
    have r1:=bR.cell (i:=1) rfl
    have r2:=bR.cell (i:=2) rfl
    have rf:∀ q,wz.frozen? ⟨pa+1,q,none⟩=false:=bR.free
    have HRB:=Lib.hid bR
    clear bR
    go_wp2_with fail
    have hs:=cell3_set (a:=.slice b4 a.cuts.length d4) (b:=.slice (some ⟨gn,0,none⟩) s dn) (c:=.slice (some ⟨ga,0,none⟩) s d6) HRB.out
    rw [HE.out]
    exact ret_plain rfl rfl hs.1 rfl (HM2.out.fin hs.2 (fun b hb=>by simp at hb;subst hb;exact HAB.out.1)) ((HW.out.2.2.1.step HM2.out.u).fresh hs.2 (fun b hb=>.inr (by simp at hb;subst hb;have:=HPA.out;omega)))
   ·obtain ⟨p,hp,hpl⟩:∃ p:Nat,around by_ 12=p∧p<12:=by
     have h1:=around_lo (n:=by_) (k:=12) (by omega)
     have h2:=around_hi (n:=by_) (k:=12) (by omega)
     exact ⟨(around by_ 12).toNat,by omega,by omega⟩
    have HE:=Lib.hid (show spoilA a at_ how by_=⟨a.cuts,a.next,List.replicate (250+p) false⟩ from by
     have h7:=HSD.out
     rw [if_neg (by omega),if_neg (by omega),if_neg (by omega),if_neg (by omega),if_neg (by omega),if_neg (by omega),if_neg (by omega),hp] at h7
     rw [h7,show ((250:Int)+(p:Nat)).toNat=250+p by omega])
    have HAP:=Lib.hid (show Calls Tryz.prog 23 #[.int .i64 by_,.int .i64 12] wr fun e w2=>e=.returned (.int .i64 (p:Nat))∧wr=w2 from by
     have h:=Around_calls by_ 12 wr HF0.out.2.2.2.2 (by omega) (by omega)
     rwa [hp] at h)
    clear hp
    go_upto_region 13 with fail
    refine wp_region_lit ?_
    refine wpList_cutH 4 (fun K hK=>?_)
    simp only [List.take_succ_cons,List.take_zero]
    go_wp2_with (first|((with_reducible refine HAP.out.mono ?_);rintro e _ ⟨rfl,rfl⟩)|(at_make;refine wpList_mk rfl _ _ _ rfl 4 1 1 _ Tryz.underlying29 infoBool rfl (by decide) .i64 .i64 (250+(p:Int)) (250+(p:Int)) (250+p) rfl rfl (by omega) (by omega) (by omega) (by omega) ?_))
    refine Halt_.intro ?_;try simp only [List.drop_succ_cons,List.drop_zero]
    simp only [Act.put,List.setIfInBounds_toArray,List.set_cons_zero,List.set_cons_succ]
    have hrep:(rows (250+p) fun _=>[Value.bool false])=bools (List.replicate (250+p) false):=by rw [rows_one];simp [bools]
    change wpList _ _ _ _ _ (wr.alloc (.cells (rows (250+p) fun _=>[Value.bool false]).toArray 4))
    rw [hrep]
    have bA:=Blk.new wr (bools (List.replicate (250+p) false)) 4
    have uA:=(Upd.refl [] wr).alloc (.cells (bools (List.replicate (250+p) false)).toArray 4)
    generalize (wr.alloc (.cells (bools (List.replicate (250+p) false)).toArray 4))=w8 at *
    have HGA:=Lib.hid (Nat.le_refl wr.heap.size)
    obtain ⟨ga,hga⟩:∃ ga,wr.heap.size=ga:=⟨_,rfl⟩
    rw [hga] at bA ⊢
    have HGE:=Lib.hid (Nat.le_of_eq hga)
    have HM0:=Lib.hid (And.intro bA uA)
    have bx8:=HJ.out.bx.upd uA (by simp)
    clear x0 x1 x2 xf bA uA hrep hga
    have x2:=bx8.cell (i:=2) rfl
    have xf:∀ q,w8.frozen? ⟨ab,q,none⟩=false:=bx8.free
    clear bx8
    go_upto_region 30 with fail
    have HM:=Lib.hid (HJ.out.setAcc (w1:=w8) (bs':=List.replicate (250+p) false) (av':=.slice (some ⟨ga,0,none⟩) (250+p) (250+p)) (by rw [List.length_replicate];exact owns_blk HM0.out.1 (by simp [bools]) (by unfold maxLen;omega)) HM0.out.2.nil (fun q hq=>by
     simp only [Value.ownBlock,Option.some.injEq] at hq
     subst hq
     exact .inr HGE.out))
    generalize (w8.setCell ⟨ab,2,none⟩ (.slice (some ⟨ga,0,none⟩) (250+p) (250+p)))=wz at *
    clear x2 xf
    have x0:=HM.out.bx.cell (i:=0) rfl
    have x1:=HM.out.bx.cell (i:=1) rfl
    have x2:=HM.out.bx.cell (i:=2) rfl
    have bR:=HW.out.2.1.upd HM.out.u (by simp)
    have r0:=bR.cell (i:=0) rfl
    have r1:=bR.cell (i:=1) rfl
    have r2:=bR.cell (i:=2) rfl
    have rf:∀ q,wz.frozen? ⟨pa+1,q,none⟩=false:=bR.free
    have HRB:=Lib.hid bR
    clear bR
    go_wp2_with fail
    have hs:=cell3_set (a:=.slice b4 a.cuts.length d4) (b:=.slice bn a.next.length dn) (c:=.slice (some ⟨ga,0,none⟩) (250+p) (250+p)) HRB.out
    rw [HE.out]
    exact ret_plain rfl rfl hs.1 rfl (HM.out.fin hs.2 (fun b hb=>by simp at hb;subst hb;exact HAB.out.1)) ((HW.out.2.2.1.step HM.out.u).fresh hs.2 (fun b hb=>.inr (by simp at hb;subst hb;have:=HPA.out;omega)))
end
end Aut
end Go.Proofs.YtjclbjdkkdijbaaGreat
end
section
open Go.RowKit
namespace Go.Proofs.YtjclbjdkkdijbaaGreat
open L
namespace Aut
open Auto R01 Rgx
def AuLs (w:World) (l:List Au) (v:Value):Prop:=∃ g c,v=.slice (some ⟨g,0,none⟩) l.length c∧∀ (i:Nat) (a:Au),l[i]?=some a→∃ x y z,AuF w a [x,y,z]∧w.cell? ⟨g,i*3,none⟩=some x∧w.cell? ⟨g,i*3+1,none⟩=some y∧w.cell? ⟨g,i*3+2,none⟩=some z
theorem AuLs.ext {w w':World} {l:List Au} {v:Value} (h:AuLs w l v) (u:Upd [] w w'):AuLs w' l v:=by
 obtain ⟨g,c,rfl,h1⟩:=h
 refine ⟨g,c,rfl,fun i a ha=>?_⟩
 obtain ⟨x,y,z,h2,h3,h4,h5⟩:=h1 i a ha
 exact ⟨x,y,z,h2.ext u,u.some h3 (by simp),u.some h4 (by simp),u.some h5 (by simp)⟩
def Szs (a:Au):Prop:=a.cuts.length≤900∧a.next.length≤200∧a.acc.length≤900∧a.next.length≤a.acc.length∧∀ l∈a.next,l.length≤900
theorem Szs.szd {a:Au} (h:Szs a):Szd a:=⟨by have:=h.1;omega,by have:=h.2.1;omega,by have:=h.2.2.1;omega,h.2.2.2.1,fun l hl=>by have:=h.2.2.2.2 l hl;omega⟩
theorem spoilA_szd {a:Au} {at_ how by_:Int} (h:Szs a):Szd (spoilA a at_ how by_):=by
 obtain ⟨h1,h2,h3,h4,h5⟩:=h
 have hr:∀ i,(a.next.getD i []).length≤900:=fun i=>by
  by_cases hi:i<a.next.length
  ·exact h5 _ (gd_memA (d:=[]) hi)
  ·rw [List.getD_eq_getElem?_getD,List.getElem?_eq_none (by omega)];simp
 have hset:∀ (i:Nat) (r:List Int),r.length≤1000→∀ l∈a.next.set i r,l.length≤1000:=fun i r hrl l hl=>by
  rcases List.mem_or_eq_of_mem_set hl with h6|h6
  ·have:=h5 l h6;omega
  ·subst h6;exact hrl
 have hh:∀ l∈a.next,l.length≤1000:=fun l hl=>by have:=h5 l hl;omega
 have b1:=around_lo (n:=by_) (k:=12) (by omega)
 have b2:=around_hi (n:=by_) (k:=12) (by omega)
 unfold spoilA Szd
 split
 ·exact ⟨by omega,by omega,by omega,h4,hh⟩
 split
 ·exact ⟨by simp;omega,by simp;omega,by simp;omega,h4,hh⟩
 split
 ·exact ⟨by simp;omega,by simp;omega,by simp;omega,h4,hh⟩
 split
 ·exact ⟨by simp,by simp;omega,by simp;omega,h4,hh⟩
 split
 ·split
  ·exact ⟨by simp;omega,by simp;omega,by simp;omega,by simpa using h4,hset _ _ (by rw [List.length_set];have:=hr (around at_ a.next.length).toNat;omega)⟩
  ·exact ⟨by omega,by omega,by omega,h4,hh⟩
 split
 ·exact ⟨by simp;omega,by simp;omega,by simp;omega,by simpa using h4,hset _ _ (by rw [List.length_append];have:=hr (around at_ a.next.length).toNat;show _+1≤1000;omega)⟩
 split
 ·exact ⟨by simp;omega,by simp;omega,by simp;omega,by simp;omega,hh⟩
 split
 ·exact ⟨by simp;omega,by simp;omega,by simp;omega,by simp;omega,fun l hl=>hh l (List.mem_of_mem_take hl)⟩
 ·exact ⟨by simp;omega,by simp;omega,by simp;omega,by simp;omega,hh⟩
theorem madeA_szs (xs:List Int):Szs (madeA xs):=by
 have h1:=madeA_few xs
 have h2:=madeA_ok xs
 obtain ⟨_,_,_,h5⟩:=cutM_spec xs (pick xs 1 4).toNat
 have hc:(madeA xs).cuts.length≤900:=by
  have:=pick_lo xs 1 (m:=4) (by omega)
  have:=pick_hi xs 1 (m:=4) (by omega)
  show (cutsM xs).length≤900
  unfold cutsM
  omega
 exact ⟨hc,by omega,by rw [h2.acc];omega,by rw [h2.acc];exact Nat.le_refl _,fun l hl=>by rw [(h2.rows l hl).1];exact hc⟩
def someL (xs ys:List Int) (at_ how by_:Int):List Au:=
 [ofA (madeR xs),madeA ys,spoilA (madeA ys) at_ how by_,spoilA (spoilA (madeA ys) at_ how by_) how at_ (by_.tdiv 2),noA]
section
variable {w w':World} {v v2:Value}
set_option maxRecDepth 100000 in
set_option maxHeartbeats 16000000 in
theorem some_calls {xs ys:List Int} {at_ how by_:Int} (hx:∀ x∈xs,IsI64 x) (hl:SL w 1 v xs.length (ints xs)) (hy:∀ x∈ys,IsI64 x) (hl2:SL w 1 v2 ys.length (ints ys)) (h1:IsI64 at_) (h2:IsI64 how) (h3:IsI64 by_) :
 Calls Tryz.prog 19 #[v,v2,.int .i64 at_,.int .i64 how,.int .i64 by_] w fun e w'=>∃ v',e=.returned v'∧AuLs w' (someL xs ys at_ how by_) v'∧Upd [] w w':=by
 have HC1:=Lib.hid (madeR_calls hx hl)
 have HC3:=Lib.hid (fun (w':World) (u:Upd [] w w')=>Made_calls (w:=w') hy (hl2.upd u (by simp)))
 have HI:=Lib.hid (And.intro h1 (And.intro h2 h3))
 have HNR:=Lib.hid (madeR_nodes xs)
 have HSL:Hid (someL xs ys at_ how by_=[ofA (madeR xs),madeA ys,spoilA (madeA ys) at_ how by_,spoilA (spoilA (madeA ys) at_ how by_) how at_ (by_.tdiv 2),noA]):=Lib.hid rfl
 have HSZ:=Lib.hid (And.intro (madeA_szs ys).szd (spoilA_szd (at_:=at_) (how:=how) (by_:=by_) (madeA_szs ys)))
 generalize madeR xs=r at *
 have HU0:=Lib.hid (Upd.refl [] w)
 clear hx hl hy hl2 h1 h2 h3
 go_enter Tryz.func19,Tryz.ntmps19
 go_upto_region 1 with fail
 refine wp_region_lit ?_
 refine wpList_cutH 2 (fun K hK=>?_)
 simp only [List.take_succ_cons,List.take_zero]
 go_wp2_with ((with_reducible refine HC1.out.mono ?_);rintro e w1 ⟨v1,rfl,o1,u1⟩)
 refine Halt_.intro ?_;try simp only [List.drop_succ_cons,List.drop_zero]
 have HCO:=Lib.hid (rOf_calls o1 (by have:=HNR.out;omega))
 have HU1:=Lib.hid u1
 clear o1 u1
 go_upto_region 2 with ((with_reducible refine HCO.out.mono ?_);rintro e w2 ⟨vv,rfl,o2,u2⟩;obtain ⟨xa0,xb0,xc0,xd0,xe0,xf0,rfl,hA0⟩:=o2.shape)
 change Code.wp _ _ _ _ (w2.alloc (.cells #[.slice xa0 (ofA r).cuts.length xb0,.slice xc0 (ofA r).next.length xd0,.slice xe0 (ofA r).acc.length xf0] 39))
 have HB0:=Lib.hid (show Blk (w2.alloc (.cells #[.slice xa0 (ofA r).cuts.length xb0,.slice xc0 (ofA r).next.length xd0,.slice xe0 (ofA r).acc.length xf0] 39)) w2.heap.size [.slice xa0 (ofA r).cuts.length xb0,.slice xc0 (ofA r).next.length xd0,.slice xe0 (ofA r).acc.length xf0] 39∧Upd [] w2 (w2.alloc (.cells #[.slice xa0 (ofA r).cuts.length xb0,.slice xc0 (ofA r).next.length xd0,.slice xe0 (ofA r).acc.length xf0] 39)) from ⟨Blk.new w2 [.slice xa0 (ofA r).cuts.length xb0,.slice xc0 (ofA r).next.length xd0,.slice xe0 (ofA r).acc.length xf0] _,(Upd.refl [] w2).alloc _⟩)
 have HF0:=Lib.hid (And.intro (hA0.ext HB0.out.2) ((HU1.out.step u2).step HB0.out.2))
 generalize (w2.alloc (.cells #[.slice xa0 (ofA r).cuts.length xb0,.slice xc0 (ofA r).next.length xd0,.slice xe0 (ofA r).acc.length xf0] 39))=wA at *
 generalize w2.heap.size=ga at *
 clear o2 u2 hA0
 have HCM:=Lib.hid (HC3.out wA HF0.out.2)
 go_upto_region 3 with ((with_reducible refine HCM.out.mono ?_);rintro e w2 ⟨vv,rfl,o2,u2⟩;obtain ⟨xa1,xb1,xc1,xd1,xe1,xf1,rfl,hA1⟩:=o2.shape)
 change Code.wp _ _ _ _ (w2.alloc (.cells #[.slice xa1 (madeA ys).cuts.length xb1,.slice xc1 (madeA ys).next.length xd1,.slice xe1 (madeA ys).acc.length xf1] 39))
 have HB1:=Lib.hid (show Blk (w2.alloc (.cells #[.slice xa1 (madeA ys).cuts.length xb1,.slice xc1 (madeA ys).next.length xd1,.slice xe1 (madeA ys).acc.length xf1] 39)) w2.heap.size [.slice xa1 (madeA ys).cuts.length xb1,.slice xc1 (madeA ys).next.length xd1,.slice xe1 (madeA ys).acc.length xf1] 39∧Upd [] w2 (w2.alloc (.cells #[.slice xa1 (madeA ys).cuts.length xb1,.slice xc1 (madeA ys).next.length xd1,.slice xe1 (madeA ys).acc.length xf1] 39)) from ⟨Blk.new w2 [.slice xa1 (madeA ys).cuts.length xb1,.slice xc1 (madeA ys).next.length xd1,.slice xe1 (madeA ys).acc.length xf1] _,(Upd.refl [] w2).alloc _⟩)
 have HF1:=Lib.hid (And.intro (hA1.ext HB1.out.2) ((HF0.out.2.step u2).step HB1.out.2))
 generalize (w2.alloc (.cells #[.slice xa1 (madeA ys).cuts.length xb1,.slice xc1 (madeA ys).next.length xd1,.slice xe1 (madeA ys).acc.length xf1] 39))=wB at *
 generalize w2.heap.size=gb at *
 have HK0:=Lib.hid ((HB0.out.1.upd u2 (by simp)).upd HB1.out.2 (by simp))
 have HE0:=Lib.hid ((HF0.out.1.ext u2).ext HB1.out.2)
 clear o2 u2 hA1
 have HS1:=Lib.hid (spoilA_calls (w:=wB) (v:=.agg #[.slice xa1 (madeA ys).cuts.length xb1,.slice xc1 (madeA ys).next.length xd1,.slice xe1 (madeA ys).acc.length xf1]) (at_:=at_) (how:=how) (by_:=by_) ⟨_,rfl,HF1.out.1⟩ HSZ.out.1 HI.out.1 HI.out.2.1 HI.out.2.2)
 have b0:=HB1.out.1.cell (i:=0) rfl
 have b1:=HB1.out.1.cell (i:=1) rfl
 have b2:=HB1.out.1.cell (i:=2) rfl
 go_upto_region 4 with ((with_reducible refine HS1.out.mono ?_);rintro e w2 ⟨vv,rfl,o2,u2⟩;obtain ⟨xa2,xb2,xc2,xd2,xe2,xf2,rfl,hA2⟩:=o2.shape)
 change Code.wp _ _ _ _ (w2.alloc (.cells #[.slice xa2 (spoilA (madeA ys) at_ how by_).cuts.length xb2,.slice xc2 (spoilA (madeA ys) at_ how by_).next.length xd2,.slice xe2 (spoilA (madeA ys) at_ how by_).acc.length xf2] 39))
 have HB2:=Lib.hid (show Blk (w2.alloc (.cells #[.slice xa2 (spoilA (madeA ys) at_ how by_).cuts.length xb2,.slice xc2 (spoilA (madeA ys) at_ how by_).next.length xd2,.slice xe2 (spoilA (madeA ys) at_ how by_).acc.length xf2] 39)) w2.heap.size [.slice xa2 (spoilA (madeA ys) at_ how by_).cuts.length xb2,.slice xc2 (spoilA (madeA ys) at_ how by_).next.length xd2,.slice xe2 (spoilA (madeA ys) at_ how by_).acc.length xf2] 39∧Upd [] w2 (w2.alloc (.cells #[.slice xa2 (spoilA (madeA ys) at_ how by_).cuts.length xb2,.slice xc2 (spoilA (madeA ys) at_ how by_).next.length xd2,.slice xe2 (spoilA (madeA ys) at_ how by_).acc.length xf2] 39)) from ⟨Blk.new w2 [.slice xa2 (spoilA (madeA ys) at_ how by_).cuts.length xb2,.slice xc2 (spoilA (madeA ys) at_ how by_).next.length xd2,.slice xe2 (spoilA (madeA ys) at_ how by_).acc.length xf2] _,(Upd.refl [] w2).alloc _⟩)
 have HF2:=Lib.hid (And.intro (hA2.ext HB2.out.2) ((HF1.out.2.step u2).step HB2.out.2))
 generalize (w2.alloc (.cells #[.slice xa2 (spoilA (madeA ys) at_ how by_).cuts.length xb2,.slice xc2 (spoilA (madeA ys) at_ how by_).next.length xd2,.slice xe2 (spoilA (madeA ys) at_ how by_).acc.length xf2] 39))=wC at *
 generalize w2.heap.size=gc at *
 have HK1:=Lib.hid ((HB1.out.1.upd u2 (by simp)).upd HB2.out.2 (by simp))
 have HK00:=Lib.hid ((HK0.out.upd u2 (by simp)).upd HB2.out.2 (by simp))
 have HE1:=Lib.hid (And.intro ((HE0.out.ext u2).ext HB2.out.2) ((HF1.out.1.ext u2).ext HB2.out.2))
 clear o2 u2 hA2 b0 b1 b2
 have a0:=HK00.out.cell (i:=0) rfl
 have a1:=HK00.out.cell (i:=1) rfl
 have a2:=HK00.out.cell (i:=2) rfl
 have b0:=HK1.out.cell (i:=0) rfl
 have b1:=HK1.out.cell (i:=1) rfl
 have b2:=HK1.out.cell (i:=2) rfl
 have c0:=HB2.out.1.cell (i:=0) rfl
 have c1:=HB2.out.1.cell (i:=1) rfl
 have c2:=HB2.out.1.cell (i:=2) rfl
 have HI2:=Lib.hid (show IsI64 (by_.tdiv 2) from by
  have h7:=HI.out.2.2
  by_cases h0:0≤by_
  ·rw [Int.tdiv_eq_ediv_of_nonneg h0]
   unfold IsI64 at *
   omega
  ·have e:by_.tdiv 2=-((-by_).tdiv 2):=by rw [Int.neg_tdiv,Int.neg_neg]
   rw [e,Int.tdiv_eq_ediv_of_nonneg (by omega)]
   unfold IsI64 at *
   omega)
 have HS2:=Lib.hid (fun (w':World) (u:Upd [] wC w')=>spoilA_calls (w:=w') (v:=.agg #[.slice xa2 (spoilA (madeA ys) at_ how by_).cuts.length xb2,.slice xc2 (spoilA (madeA ys) at_ how by_).next.length xd2,.slice xe2 (spoilA (madeA ys) at_ how by_).acc.length xf2]) (at_:=how) (how:=at_) (by_:=by_.tdiv 2) ⟨_,rfl,HF2.out.1.ext u⟩ HSZ.out.2 HI.out.2.1 HI.out.1 HI2.out)
 have hwr:wrap64 (by_.tdiv 2)=by_.tdiv 2:=by
  have h7:=HI2.out
  unfold IsI64 at h7
  unfold Go.RowKit.wrap64
  omega
 refine wp_region_ord 10 2 [0,1,2,3,4,5,6,7,9,11] [0,1,2,3] [0,1,2,3,4,5,6,7,9,8,10,11] (fun w'=>∃ x:Ext wC,w'=x.val) (by kernel_rfl) (by kernel_rfl) (Ext.of (by iterate 25 (first|exact Upd.refl _ _|assumption|refine Upd.alloc ?_ _|refine Upd.drew ?_|refine Upd.drewN ?_ _|refine Upd.dl ?_|refine Upd.step ?_ (Ext.upd _)|refine Upd.nil ?_|skip))) ?_
 repeat (first|(refine wpOrd_load rfl rfl rfl rfl (fun K hK=>?_);go_big_quiet_step (fail);refine wpQuiet_nil ?_;refine hK _ ?_;clear hK K)|(refine wpOrd_free rfl rfl rfl (fun K hK=>?_);go_big_quiet_step (fail);refine wpQuiet_nil ?_;refine hK _ ?_;clear hK K))
 refine wpOrd_fix rfl rfl (fun K hK=>?_)
 go_wp2_with (go_at_call 59;refine (HS2.out _ (by iterate 25 (first|exact Upd.refl _ _|assumption|refine Upd.alloc ?_ _|refine Upd.drew ?_|refine Upd.drewN ?_ _|refine Upd.dl ?_|refine Upd.step ?_ (Ext.upd _)|refine Upd.nil ?_|skip))).mono ?_;rintro e w9 ⟨vv,rfl,o9,u9⟩;obtain ⟨xa3,xb3,xc3,xd3,xe3,xf3,rfl,hA3⟩:=o9.shape)
 have HU9:=Lib.hid (And.intro (show Upd [] wC w9 from Upd.step (by iterate 25 (first|exact Upd.refl _ _|assumption|refine Upd.alloc ?_ _|refine Upd.drew ?_|refine Upd.drewN ?_ _|refine Upd.dl ?_|refine Upd.step ?_ (Ext.upd _)|refine Upd.nil ?_|skip)) u9) hA3)
 clear u9 o9 hA3
 refine ⟨fun _=>Ext.of HU9.out.1,?_⟩
 repeat (first|(refine wpOrd_load rfl rfl rfl rfl (fun K hK=>?_);go_big_quiet_step (fail);refine wpQuiet_nil ?_;refine hK _ ?_;clear hK K)|(refine wpOrd_free rfl rfl rfl (fun K hK=>?_);go_big_quiet_step (fail);refine wpQuiet_nil ?_;refine hK _ ?_;clear hK K))
 refine wpOrd_fix rfl rfl (fun K hK=>?_)
 go_wp2_with fail
 have HN:=Lib.hid (show Blk (w9.alloc (.cells #[.slice xa0 (ofA r).cuts.length xb0,.slice xc0 (ofA r).next.length xd0,.slice xe0 (ofA r).acc.length xf0,.slice xa1 (madeA ys).cuts.length xb1,.slice xc1 (madeA ys).next.length xd1,.slice xe1 (madeA ys).acc.length xf1,.slice xa2 (spoilA (madeA ys) at_ how by_).cuts.length xb2,.slice xc2 (spoilA (madeA ys) at_ how by_).next.length xd2,.slice xe2 (spoilA (madeA ys) at_ how by_).acc.length xf2,.slice xa3 (spoilA (spoilA (madeA ys) at_ how by_) how at_ (by_.tdiv 2)).cuts.length xb3,.slice xc3 (spoilA (spoilA (madeA ys) at_ how by_) how at_ (by_.tdiv 2)).next.length xd3,.slice xe3 (spoilA (spoilA (madeA ys) at_ how by_) how at_ (by_.tdiv 2)).acc.length xf3,.slice none 0 0,.slice none 0 0,.slice none 0 0] 39)) w9.heap.size [.slice xa0 (ofA r).cuts.length xb0,.slice xc0 (ofA r).next.length xd0,.slice xe0 (ofA r).acc.length xf0,.slice xa1 (madeA ys).cuts.length xb1,.slice xc1 (madeA ys).next.length xd1,.slice xe1 (madeA ys).acc.length xf1,.slice xa2 (spoilA (madeA ys) at_ how by_).cuts.length xb2,.slice xc2 (spoilA (madeA ys) at_ how by_).next.length xd2,.slice xe2 (spoilA (madeA ys) at_ how by_).acc.length xf2,.slice xa3 (spoilA (spoilA (madeA ys) at_ how by_) how at_ (by_.tdiv 2)).cuts.length xb3,.slice xc3 (spoilA (spoilA (madeA ys) at_ how by_) how at_ (by_.tdiv 2)).next.length xd3,.slice xe3 (spoilA (spoilA (madeA ys) at_ how by_) how at_ (by_.tdiv 2)).acc.length xf3,.slice none 0 0,.slice none 0 0,.slice none 0 0] 39∧Upd [] w9 (w9.alloc (.cells #[.slice xa0 (ofA r).cuts.length xb0,.slice xc0 (ofA r).next.length xd0,.slice xe0 (ofA r).acc.length xf0,.slice xa1 (madeA ys).cuts.length xb1,.slice xc1 (madeA ys).next.length xd1,.slice xe1 (madeA ys).acc.length xf1,.slice xa2 (spoilA (madeA ys) at_ how by_).cuts.length xb2,.slice xc2 (spoilA (madeA ys) at_ how by_).next.length xd2,.slice xe2 (spoilA (madeA ys) at_ how by_).acc.length xf2,.slice xa3 (spoilA (spoilA (madeA ys) at_ how by_) how at_ (by_.tdiv 2)).cuts.length xb3,.slice xc3 (spoilA (spoilA (madeA ys) at_ how by_) how at_ (by_.tdiv 2)).next.length xd3,.slice xe3 (spoilA (spoilA (madeA ys) at_ how by_) how at_ (by_.tdiv 2)).acc.length xf3,.slice none 0 0,.slice none 0 0,.slice none 0 0] 39)) from ⟨Blk.new w9 [.slice xa0 (ofA r).cuts.length xb0,.slice xc0 (ofA r).next.length xd0,.slice xe0 (ofA r).acc.length xf0,.slice xa1 (madeA ys).cuts.length xb1,.slice xc1 (madeA ys).next.length xd1,.slice xe1 (madeA ys).acc.length xf1,.slice xa2 (spoilA (madeA ys) at_ how by_).cuts.length xb2,.slice xc2 (spoilA (madeA ys) at_ how by_).next.length xd2,.slice xe2 (spoilA (madeA ys) at_ how by_).acc.length xf2,.slice xa3 (spoilA (spoilA (madeA ys) at_ how by_) how at_ (by_.tdiv 2)).cuts.length xb3,.slice xc3 (spoilA (spoilA (madeA ys) at_ how by_) how at_ (by_.tdiv 2)).next.length xd3,.slice xe3 (spoilA (spoilA (madeA ys) at_ how by_) how at_ (by_.tdiv 2)).acc.length xf3,.slice none 0 0,.slice none 0 0,.slice none 0 0] _,(Upd.refl [] w9).alloc _⟩)
 generalize (w9.alloc (.cells #[.slice xa0 (ofA r).cuts.length xb0,.slice xc0 (ofA r).next.length xd0,.slice xe0 (ofA r).acc.length xf0,.slice xa1 (madeA ys).cuts.length xb1,.slice xc1 (madeA ys).next.length xd1,.slice xe1 (madeA ys).acc.length xf1,.slice xa2 (spoilA (madeA ys) at_ how by_).cuts.length xb2,.slice xc2 (spoilA (madeA ys) at_ how by_).next.length xd2,.slice xe2 (spoilA (madeA ys) at_ how by_).acc.length xf2,.slice xa3 (spoilA (spoilA (madeA ys) at_ how by_) how at_ (by_.tdiv 2)).cuts.length xb3,.slice xc3 (spoilA (spoilA (madeA ys) at_ how by_) how at_ (by_.tdiv 2)).next.length xd3,.slice xe3 (spoilA (spoilA (madeA ys) at_ how by_) how at_ (by_.tdiv 2)).acc.length xf3,.slice none 0 0,.slice none 0 0,.slice none 0 0] 39))=wz at *
 generalize w9.heap.size=gz at *
 clear a0 a1 a2 b0 b1 b2 c0 c1 c2
 refine ⟨fun hC=>absurd hC (by decide),?_⟩
 repeat (first|(refine wpOrd_load rfl rfl rfl rfl (fun K hK=>?_);go_big_quiet_step (fail);refine wpQuiet_nil ?_;refine hK _ ?_;clear hK K)|(refine wpOrd_free rfl rfl rfl (fun K hK=>?_);go_big_quiet_step (fail);refine wpQuiet_nil ?_;refine hK _ ?_;clear hK K))
 refine wpOrd_nil ?_
 go_wp2_with fail
 go_ret
 refine ⟨_,rfl,⟨gz,5,rfl,fun i a ha=>?_⟩,(HF2.out.2.step HU9.out.1).step HN.out.2⟩
 have hU:=HU9.out.1.step HN.out.2
 rw [HSL.out] at ha
 match i with
 | 0=>cases ha;exact ⟨_,_,_,HE1.out.1.ext hU,HN.out.1.cell (i:=0) rfl,HN.out.1.cell (i:=1) rfl,HN.out.1.cell (i:=2) rfl⟩
 | 1=>cases ha;exact ⟨_,_,_,HE1.out.2.ext hU,HN.out.1.cell (i:=3) rfl,HN.out.1.cell (i:=4) rfl,HN.out.1.cell (i:=5) rfl⟩
 | 2=>cases ha;exact ⟨_,_,_,HF2.out.1.ext hU,HN.out.1.cell (i:=6) rfl,HN.out.1.cell (i:=7) rfl,HN.out.1.cell (i:=8) rfl⟩
 | 3=>cases ha;exact ⟨_,_,_,HU9.out.2.ext HN.out.2,HN.out.1.cell (i:=9) rfl,HN.out.1.cell (i:=10) rfl,HN.out.1.cell (i:=11) rfl⟩
 | 4=>cases ha;exact ⟨_,_,_,noA_F,HN.out.1.cell (i:=12) rfl,HN.out.1.cell (i:=13) rfl,HN.out.1.cell (i:=14) rfl⟩
 | i+5=>simp at ha
end
end Aut
end Go.Proofs.YtjclbjdkkdijbaaGreat
end
