/- Walks through package regex: countdown, tooLarge. Conditions: none. Walks through package regex: proper, Valid. Conditions: none. Walks through package regex: Compare, equal (and the library's Compare, Or, CompareFunc). Conditions: none. Walks through package regex: flat and what of package slices it calls. Conditions: none. -/
import Derived.Test.YtjclbjdkkdijbaaGreatRxM
import Derived.Test.YtjclbjdkkdijbaaGreatProg
import Derived.Test.YtjclbjdkkdijbaaGreatReg
import Derived.Test.YtjclbjdkkdijbaaGreatGrw
import Derived.Lib.SliceRun
set_option linter.unusedVariables false
set_option linter.unusedSimpArgs false
set_option linter.unusedSectionVars false
section
open Go.RowKit
namespace Go.Proofs.YtjclbjdkkdijbaaGreat
open L
namespace Rgx
open Rx
section
variable {w w':World} {v:Value}
theorem RxL.kid {M:List Nat} {ks:List Rx} {a:Option Addr} {n c:Nat} (h:RxL M w ks (.slice a n c)) {i:Nat} {r:Rx} (hr:ks[i]?=some r):∃ g off a2 c2,a=some ⟨g,off,none⟩∧RxF M w r (rxC r.kind r.lo r.hi (.slice a2 r.kids.length c2)) ∧
 w.cell? ⟨g,off+i*4,none⟩=some (.int .i64 r.kind)∧w.cell? ⟨g,off+i*4+1,none⟩=some (.int .u8 r.lo)∧w.cell? ⟨g,off+i*4+2,none⟩=some (.int .u8 r.hi)∧w.cell? ⟨g,off+i*4+3,none⟩=some (.slice a2 r.kids.length c2):=by
 obtain ⟨a',c',e,_,_,h1⟩:=h.form
 cases e
 obtain ⟨g,off,x,rfl,h2,h3⟩:=h1 i r hr
 obtain ⟨k,lo,hi,l⟩:=r
 obtain ⟨x',hx,_,hL⟩:=RxF.iff.1 h2
 have hx:x=x':=by simp only [rxC,List.cons.injEq,Value.int.injEq] at hx;exact hx.2.2.2.1
 subst hx
 obtain ⟨a2,c2,rfl,_⟩:=hL.form
 refine ⟨g,off,a2,c2,rfl,h2,h3 0 _ rfl,?_,?_,?_⟩
 ·exact h3 1 _ rfl
 ·exact h3 2 _ rfl
 ·exact h3 3 _ rfl
theorem RxF.val {M:List Nat} {r:Rx} {x:Value} (h:RxF M w r (rxC r.kind r.lo r.hi x)):RxV M w r (.agg #[.int .i64 r.kind,.int .u8 r.lo,.int .u8 r.hi,x]):=⟨_,rfl,h⟩
def cdR (n:Nat) (left:Int):Int:=if (n:Int)≤left then left-n else -1
theorem nodesL_take_succ {ks:List Rx} {k:Nat} {r:Rx} (h:ks[k]?=some r):nodesL (ks.take (k+1))=nodesL (ks.take k)+nodes r:=by
 obtain ⟨hk,rfl⟩:=List.getElem?_eq_some_iff.1 h
 rw [List.take_add_one,List.getElem?_eq_getElem hk,nodesL_app]
 simp [nodesL]
set_option maxRecDepth 100000 in
set_option maxHeartbeats 8000000 in
theorem countdown_calls:∀ (r:Rx) {w:World} {v:Value} {left:Int},RxV [] w r v→0≤left→left≤1000000→Calls Tryz.prog 101 #[v,.int .i64 left] w fun e w'=>e=.returned (.int .i64 (cdR (nodes r) left))∧Upd [] w w':=by
 intro r
 induction r using Rx.ind with
 | h k lo hi ks ih=>
  intro w v left h h0 h1
  obtain ⟨vk,rfl,hsc,hL⟩:=RxV.iff.1 h
  obtain ⟨a,c,rfl,q1,q2,_⟩:=hL.form
  have HL:=Lib.hid hL
  have HI:=Lib.hid ih
  clear hL ih h hsc
  go_enter Tryz.func101,Tryz.ntmps101
  go_upto_region 1 with fail
  have b1:=Blk.new w (rxC k lo hi (.slice a ks.length c)) 37
  have u1:=(Upd.refl [] w).alloc (.cells (rxC k lo hi (.slice a ks.length c)).toArray 37)
  change Code.wp _ _ _ _ (w.alloc (.cells (rxC k lo hi (.slice a ks.length c)).toArray 37))
  generalize (w.alloc (.cells (rxC k lo hi (.slice a ks.length c)).toArray 37))=w1 at *
  have c3:=b1.cell (i:=3) rfl
  have HU:=Lib.hid u1
  clear b1 u1
  generalize w.heap.size=pb at *
  go_wp2_with fail
  go_loopw [1,5] (fun l i wr=>∃ m:Nat,i=.int .i64 m∧m≤ks.length∧l=.int .i64 (cdR (1+nodesL (ks.take m)) left)∧∃ x:Ext w1,wr=x.val) (fun _ i _=>ks.length - (intOf i).toNat)
  case atStart=>
   refine ⟨0,rfl,Nat.zero_le _,?_,Ext.of (by iterate 25 (first|exact Upd.refl _ _|assumption|refine Upd.alloc ?_ _|refine Upd.drew ?_|refine Upd.drewN ?_ _|refine Upd.dl ?_|refine Upd.step ?_ (Ext.upd _)|refine Upd.nil ?_|skip))⟩
   simp only [List.take_zero,nodesL]
   unfold cdR
   congr 1
   split <;> omega
  case round=>
   obtain ⟨m,rfl,hm,rfl,x,rfl⟩:=hrel
   by_cases hlt:m<ks.length
   ·have hli:(m:Int)<ks.length:=by omega
    have hr:=List.getElem?_eq_getElem hlt
    have hmem:=List.mem_of_getElem? hr
    have hts:=nodesL_take_succ hr
    generalize ks[m]=r at *
    obtain ⟨g,off,a2,c2,rfl,hR,e0,e1,e2,e3⟩:=(HL.out.ext (HU.out.step x.upd)).kid hr
    have HR:=Lib.hid (And.intro hR (And.intro hmem hts))
    clear hR hr hmem hts
    by_cases hneg:(1+nodesL (ks.take m):Nat)≤left
    ·have hge:0≤cdR (1+nodesL (ks.take m)) left∧cdR (1+nodesL (ks.take m)) left≤1000000∧∀ n:Nat,cdR n (cdR (1+nodesL (ks.take m)) left)=cdR (1+nodesL (ks.take m)+n) left:=by
      unfold cdR
      rw [if_pos hneg]
      refine ⟨by omega,by omega,fun n=>?_⟩
      split <;> split <;> omega
     have HG:=Lib.hid hge.2.2
     obtain ⟨hg1,hg2,_⟩:=hge
     generalize cdR (1+nodesL (ks.take m)) left=l at *
     clear hneg
     go_upto_region 5 with fail
     have HC:=Lib.hid (HI.out r HR.out.2.1 (HR.out.1.val) hg1 hg2)
     go_wp2_with (first|(with_reducible refine HC.out.mono ?_);rintro e _ ⟨rfl,hu⟩;obtain ⟨x2,rfl⟩:=Ext.of hu)
     refine ⟨⟨m+1,by go_num,by omega,?_,Ext.of (x.upd.step hu)⟩,by simp [intOf];omega⟩
     rw [HR.out.2.2,Nat.add_assoc]
    ·have hl:cdR (1+nodesL (ks.take m)) left=-1:=by unfold cdR;rw [if_neg hneg]
     rw [hl]
     have HE:=Lib.hid (show cdR (nodes (nd k lo hi ks)) left=-1 from by
      have h3:nodesL (ks.take m)≤nodesL ks:=nodesL_take m ks
      unfold cdR
      rw [nodes,if_neg (by omega)])
     clear hneg hl
     go_wp2_with fail
     go_ret
     rw [HE.out]
     exact ⟨rfl,HU.out.step x.upd⟩
   ·have hme:m=ks.length:=by omega
    subst hme
    rw [List.take_length]
    have HE:=Lib.hid (show cdR (nodes (nd k lo hi ks)) left=cdR (1+nodesL ks) left from by rw [nodes])
    go_wp2_with fail
    go_ret
    rw [HE.out]
    exact ⟨rfl,HU.out.step x.upd⟩
set_option maxRecDepth 100000 in
set_option maxHeartbeats 8000000 in
theorem tooLarge_calls {r:Rx} {w:World} {v:Value} (h:RxV [] w r v):Calls Tryz.prog 80 #[v] w fun e w'=>e=.returned (.bool (decide (64<nodes r)))∧Upd [] w w':=by
 have HC:=Lib.hid (fun (w':World) (u:Upd [] w w')=>countdown_calls r (h.ext u) (left:=64) (by omega) (by omega))
 obtain ⟨k,lo,hi,ks⟩:=r
 obtain ⟨vk,rfl,hsc,hL⟩:=RxV.iff.1 h
 clear h
 go_enter Tryz.func80,Tryz.ntmps80
 go_upto_region 1 with fail
 have b1:=Blk.new w (rxC k lo hi vk) 37
 have u1:=(Upd.refl [] w).alloc (.cells (rxC k lo hi vk).toArray 37)
 change Code.wp _ _ _ _ (w.alloc (.cells (rxC k lo hi vk).toArray 37))
 generalize (w.alloc (.cells (rxC k lo hi vk).toArray 37))=w1 at *
 have c0:=b1.cell (i:=0) rfl
 have c1:=b1.cell (i:=1) rfl
 have c2:=b1.cell (i:=2) rfl
 have c3:=b1.cell (i:=3) rfl
 have HU:=Lib.hid u1
 clear b1 u1
 have HX:=Lib.hid (HC.out w1 HU.out)
 have HD:=Lib.hid (show decide (64<nodes (nd k lo hi ks))=decide (cdR (nodes (nd k lo hi ks)) 64<0) from by
  unfold cdR
  split
  ·rw [decide_eq_decide];omega
  ·rw [decide_eq_decide];omega)
 clear HC
 generalize cdR (nodes (nd k lo hi ks)) 64=d at *
 generalize w.heap.size=pb at *
 go_wp2_with (first|(with_reducible refine HX.out.mono ?_);rintro e w2 ⟨rfl,hu⟩)
 go_ret
 rw [HD.out]
 exact ⟨rfl,HU.out.step hu⟩
end
end Rgx
end Go.Proofs.YtjclbjdkkdijbaaGreat
end
section
open Go.RowKit
namespace Go.Proofs.YtjclbjdkkdijbaaGreat
open L
namespace Rgx
open Rx
section
variable {w w':World} {v:Value}
theorem properL_take_succ {ks:List Rx} {m:Nat} {r:Rx} (h:ks[m]?=some r) (h1:properL (ks.take m)=true) (h2:proper r=true):properL (ks.take (m+1))=true:=by
 rw [properL_iff] at *
 obtain ⟨hk,rfl⟩:=List.getElem?_eq_some_iff.1 h
 rw [List.take_add_one,List.getElem?_eq_getElem hk]
 intro r hr
 rcases List.mem_append.1 hr with hr|hr
 ·exact h1 r hr
 ·simp at hr;rw [hr];exact h2
theorem properL_bad {ks:List Rx} {m:Nat} {r:Rx} (h:ks[m]?=some r) (h2:proper r=false):properL ks=false:=by
 cases hp:properL ks with
 | false=>rfl
 | true=>rw [(properL_iff ks).1 hp r (List.mem_of_getElem? h)] at h2;cases h2
set_option maxRecDepth 100000 in
set_option maxHeartbeats 8000000 in
theorem proper_calls:∀ (r:Rx) {w:World} {v:Value},RxV [] w r v→Calls Tryz.prog 81 #[v] w fun e w'=>e=.returned (.bool (proper r))∧Upd [] w w':=by
 intro r
 induction r using Rx.ind with
 | h k lo hi ks ih=>
  intro w v h
  obtain ⟨vk,rfl,hsc,hL⟩:=RxV.iff.1 h
  obtain ⟨a,c,rfl,q1,q2,_⟩:=id hL.form
  have HL:=Lib.hid hL
  have HI:=Lib.hid ih
  clear hL ih h hsc
  go_enter Tryz.func81,Tryz.ntmps81
  go_upto_region 1 with fail
  have b1:=Blk.new w (rxC k lo hi (.slice a ks.length c)) 37
  have u1:=(Upd.refl [] w).alloc (.cells (rxC k lo hi (.slice a ks.length c)).toArray 37)
  change Code.wp _ _ _ _ (w.alloc (.cells (rxC k lo hi (.slice a ks.length c)).toArray 37))
  generalize (w.alloc (.cells (rxC k lo hi (.slice a ks.length c)).toArray 37))=w1 at *
  have c0:=b1.cell (i:=0) rfl
  have c1:=b1.cell (i:=1) rfl
  have c2:=b1.cell (i:=2) rfl
  have c3:=b1.cell (i:=3) rfl
  have HU:=Lib.hid u1
  clear b1 u1
  generalize w.heap.size=pb at *
  have HP:=Lib.hid (show proper (nd k lo hi ks)=_ from by rw [proper])
  by_cases hk2:k=2
  ·subst hk2
   by_cases hl:ks.length=0
   ·have hks:ks=[]:=List.eq_nil_of_length_eq_zero hl
    subst hks
    by_cases hle:lo≤hi
    ·go_wp2_with fail
     go_ret
     exact ⟨by rw [HP.out];simp [hle],HU.out⟩
    ·have hgt:hi<lo:=by omega
     go_wp2_with fail
     go_ret
     exact ⟨by rw [HP.out];simp [hle],HU.out⟩
   ·have hne:ks.isEmpty=false:=by cases ks <;> simp at hl ⊢
    have hli:((ks.length:Int) == 0)=false:=by simpa using hl
    go_wp2_with fail
    go_ret
    exact ⟨by rw [HP.out];simp [hne],HU.out⟩
  ·have hn2:(k != 2)=true:=by simpa using hk2
   have hn2':(k == 2)=false:=by simpa using hk2
   by_cases hlh:lo=0∧hi=0
   ·obtain ⟨rfl,rfl⟩:=hlh
    have h00:((0:Int) != 0)=false:=rfl
    by_cases hk01:k=0∨k=1
    ·by_cases hl:ks.length=0
     ·have hks:ks=[]:=List.eq_nil_of_length_eq_zero hl
      subst hks
      rcases hk01 with rfl|rfl
      ·go_wp2_with fail
       go_ret
       exact ⟨by rw [HP.out];simp,HU.out⟩
      ·go_wp2_with fail
       go_ret
       exact ⟨by rw [HP.out];simp,HU.out⟩
     ·have hne:ks.isEmpty=false:=by cases ks <;> simp at hl ⊢
      have hli:((ks.length:Int) == 0)=false:=by simpa using hl
      rcases hk01 with rfl|rfl
      ·go_wp2_with fail
       go_ret
       exact ⟨by rw [HP.out];simp [hne],HU.out⟩
      ·go_wp2_with fail
       go_ret
       exact ⟨by rw [HP.out];simp [hne],HU.out⟩
    ·by_cases hkl:(k=3∨k=4∨k=5)∨((k=6∨k=7)∧ks.length=1)
     ·have hR:proper (nd k 0 0 ks)=properL ks:=by
       rw [HP.out,if_neg hk01,if_neg hk2]
       rcases hkl with h|⟨h,h1⟩
       ·rw [if_pos h];simp
       ·rw [if_neg (by omega),if_pos h];simp [h1]
      have HR:=Lib.hid hR
      clear hR HP
      rcases hkl with (rfl|rfl|rfl)|⟨rfl|rfl,hl1⟩ <;> clear hk01
      all_goals try (have hl1':((ks.length:Int) != 1)=false:=by rw [hl1];rfl)
      all_goals try (clear hl1)
      all_goals go_wp2_with fail
      all_goals
       go_loopw [54] (fun i wr=>∃ m:Nat,i=.int .i64 m∧m≤ks.length∧properL (ks.take m)=true∧∃ x:Ext w1,wr=x.val) (fun i _=>ks.length - (intOf i).toNat)
       case atStart=>exact ⟨0,rfl,Nat.zero_le _,rfl,Ext.of (by iterate 25 (first|exact Upd.refl _ _|assumption|refine Upd.alloc ?_ _|refine Upd.drew ?_|refine Upd.drewN ?_ _|refine Upd.dl ?_|refine Upd.step ?_ (Ext.upd _)|refine Upd.nil ?_|skip))⟩
       case round=>
        obtain ⟨m,rfl,hm,hp,x,rfl⟩:=hrel
        have HPM:=Lib.hid hp
        clear hp
        by_cases hlt:m<ks.length
        ·have hli:(m:Int)<ks.length:=by omega
         have hr:=List.getElem?_eq_getElem hlt
         have hmem:=List.mem_of_getElem? hr
         generalize ks[m]=r at *
         obtain ⟨g,off,a2,c2,rfl,hRF,e0,e1,e2,e3⟩:=(HL.out.ext (HU.out.step x.upd)).kid hr
         have HRR:=Lib.hid (And.intro hRF (And.intro hmem hr))
         clear hRF hr hmem
         go_upto_region 20 with fail
         have b2:=Blk.new x.val (rxC r.kind r.lo r.hi (.slice a2 r.kids.length c2)) 37
         have u2:=(Upd.refl [] x.val).alloc (.cells (rxC r.kind r.lo r.hi (.slice a2 r.kids.length c2)).toArray 37)
         change Code.wp _ _ _ _ (x.val.alloc (.cells (rxC r.kind r.lo r.hi (.slice a2 r.kids.length c2)).toArray 37))
         generalize (x.val.alloc (.cells (rxC r.kind r.lo r.hi (.slice a2 r.kids.length c2)).toArray 37))=w2 at *
         generalize x.val.heap.size=sb at *
         have d0:=b2.cell (i:=0) rfl
         have d1:=b2.cell (i:=1) rfl
         have d2:=b2.cell (i:=2) rfl
         have d3:=b2.cell (i:=3) rfl
         have HC:=Lib.hid (HI.out r HRR.out.2.1 ((HRR.out.1.ext u2).val))
         have HU2:=Lib.hid (x.upd.step u2)
         clear b2 u2
         cases hpr:proper r with
         | true=>
          rw [hpr] at HC
          have HQ:=Lib.hid (properL_take_succ HRR.out.2.2 HPM.out hpr)
          clear hpr
          go_wp2_with (first|(with_reducible refine HC.out.mono ?_);rintro e w3 ⟨rfl,hu⟩)
          exact ⟨⟨m+1,by go_num,by omega,HQ.out,Ext.of (HU2.out.step hu)⟩,by simp [intOf];omega⟩
         | false=>
          rw [hpr] at HC
          have HQ:=Lib.hid (properL_bad HRR.out.2.2 hpr)
          clear hpr
          go_wp2_with (first|(with_reducible refine HC.out.mono ?_);rintro e w3 ⟨rfl,hu⟩)
          go_ret
          rw [HR.out,HQ.out]
          exact ⟨rfl,(HU.out.step HU2.out).step hu⟩
        ·have hme:m=ks.length:=by omega
         subst hme
         rw [List.take_length] at HPM
         go_wp2_with fail
         go_ret
         rw [HR.out,HPM.out]
         exact ⟨rfl,HU.out.step x.upd⟩
     ·have hf:proper (nd k 0 0 ks)=false:=by
       rw [HP.out,if_neg hk01,if_neg hk2,if_neg (fun h=>hkl (.inl h))]
       by_cases h67:k=6∨k=7
       ·have h1:¬ ks.length=1:=fun h=>hkl (.inr ⟨h67,h⟩)
        rw [if_pos h67];simp [h1]
       ·rw [if_neg h67];simp
      have HF:=Lib.hid hf
      clear hf HP
      have e0:(k == 0)=false:=by simpa using fun h=>hk01 (.inl h)
      have e1:(k == 1)=false:=by simpa using fun h=>hk01 (.inr h)
      have e3:(k == 3)=false:=by simpa using fun h=>hkl (.inl (.inl h))
      have e4:(k == 4)=false:=by simpa using fun h=>hkl (.inl (.inr (.inl h)))
      have e5:(k == 5)=false:=by simpa using fun h=>hkl (.inl (.inr (.inr h)))
      by_cases h67:k=6∨k=7
      ·have h1:((ks.length:Int) != 1)=true:=by
        have:¬ ks.length=1:=fun h=>hkl (.inr ⟨h67,h⟩)
        simp;omega
       clear hkl hk01 e0 e1 e3 e4 e5
       rcases h67 with rfl|rfl
       ·go_wp2_with fail
        go_ret
        rw [HF.out]
        exact ⟨rfl,HU.out⟩
       ·go_wp2_with fail
        go_ret
        rw [HF.out]
        exact ⟨rfl,HU.out⟩
      ·have e6:(k == 6)=false:=by simpa using fun h=>h67 (.inl h)
       have e7:(k == 7)=false:=by simpa using fun h=>h67 (.inr h)
       clear hkl hk01 h67
       go_wp2_with fail
       go_ret
       rw [HF.out]
       exact ⟨rfl,HU.out⟩
   ·have hpf:proper (nd k lo hi ks)=false:=by
     rw [HP.out,hn2']
     by_cases h0:lo=0
     ·have:¬ hi=0:=fun h=>hlh ⟨h0,h⟩
      simp [this]
     ·simp [h0]
    have HF:=Lib.hid hpf
    clear hpf
    by_cases h0:lo=0
    ·have h1:(hi != 0)=true:=by
      have:¬ hi=0:=fun h=>hlh ⟨h0,h⟩
      simpa using this
     subst h0
     go_wp2_with fail
     go_ret
     rw [HF.out]
     exact ⟨rfl,HU.out⟩
    ·have h1:(lo != 0)=true:=by simpa using h0
     go_wp2_with fail
     go_ret
     rw [HF.out]
     exact ⟨rfl,HU.out⟩
theorem box_load {r:Rx} (h:RxV [] w r v):∃ vk,v=.agg #[.int .i64 r.kind,.int .u8 r.lo,.int .u8 r.hi,vk]∧Sc r.kind r.lo r.hi∧RxL [] w r.kids vk:=by
 obtain ⟨k,lo,hi,ks⟩:=r
 exact RxV.iff.1 h
set_option maxRecDepth 100000 in
set_option maxHeartbeats 8000000 in
theorem valid_calls {r:Rx} (h:RxV [] w r v):Calls Tryz.prog 41 #[v] w fun e w'=>e=.returned (.int .i64 (vErr r))∧Upd [] w w':=by
 have HC:=Lib.hid (fun (w':World) (u:Upd [] w w')=>tooLarge_calls (h.ext u))
 have HP:=Lib.hid (fun (w':World) (u:Upd [] w w')=>proper_calls r (h.ext u))
 obtain ⟨vk,rfl,_,_⟩:=box_load h
 clear h
 go_enter Tryz.func41,Tryz.ntmps41
 go_upto_region 1 with fail
 have b1:=Blk.new w (rxC r.kind r.lo r.hi vk) 37
 have u1:=(Upd.refl [] w).alloc (.cells (rxC r.kind r.lo r.hi vk).toArray 37)
 change Code.wp _ _ _ _ (w.alloc (.cells (rxC r.kind r.lo r.hi vk).toArray 37))
 generalize (w.alloc (.cells (rxC r.kind r.lo r.hi vk).toArray 37))=w1 at *
 have c0:=b1.cell (i:=0) rfl
 have c1:=b1.cell (i:=1) rfl
 have c2:=b1.cell (i:=2) rfl
 have c3:=b1.cell (i:=3) rfl
 have HU:=Lib.hid u1
 clear b1 u1
 have HX:=Lib.hid (HC.out w1 HU.out)
 generalize w.heap.size=pb at *
 by_cases hn:64<nodes r
 ·rw [decide_eq_true hn] at HX
  go_wp2_with (first|(with_reducible refine HX.out.mono ?_);rintro e w2 ⟨rfl,hu⟩)
  go_ret
  rw [vErr,if_pos hn]
  exact ⟨rfl,HU.out.step hu⟩
 ·rw [decide_eq_false hn] at HX
  have HN:=Lib.hid hn
  clear hn
  go_upto_region 3 with (first|(with_reducible refine HX.out.mono ?_);rintro e _ ⟨rfl,hu⟩;obtain ⟨x,rfl⟩:=Ext.of hu)
  have HY:=Lib.hid (HP.out _ (HU.out.step x.upd))
  cases hp:proper r with
  | true=>
   rw [hp] at HY
   have HE:=Lib.hid hp
   clear hp
   go_wp2_with (first|(with_reducible refine HY.out.mono ?_);rintro e w2 ⟨rfl,hu2⟩)
   go_ret
   rw [vErr,if_neg HN.out,HE.out]
   exact ⟨rfl,(HU.out.step x.upd).step hu2⟩
  | false=>
   rw [hp] at HY
   have HE:=Lib.hid hp
   clear hp
   go_wp2_with (first|(with_reducible refine HY.out.mono ?_);rintro e w2 ⟨rfl,hu2⟩)
   go_ret
   rw [vErr,if_neg HN.out,HE.out]
   exact ⟨rfl,(HU.out.step x.upd).step hu2⟩
end
end Rgx
end Go.Proofs.YtjclbjdkkdijbaaGreat
end
section
open Go.RowKit
namespace Go.Proofs.YtjclbjdkkdijbaaGreat
open L
namespace Rgx
open Rx
section
variable {w w':World} {v:Value}
theorem ret_bool {a b:Bool} (h:a=b):Ending.returned (.bool a)=.returned (.bool b):=by rw [h]
theorem isNaN_calls (x:Int):Calls Tryz.prog 163 #[.int .i64 x] w fun e w'=>e=.returned (.bool false)∧w=w':=by
 go_enter Tryz.func163,Tryz.ntmps163
 go_wp2_with fail
 go_ret
 exact ⟨ret_bool (by simp),rfl⟩
theorem isNaB_calls (x:Int):Calls Tryz.prog 164 #[.int .u8 x] w fun e w'=>e=.returned (.bool false)∧w=w':=by
 go_enter Tryz.func164,Tryz.ntmps164
 go_wp2_with fail
 go_ret
 exact ⟨ret_bool (by simp),rfl⟩
theorem cmpI_calls (x y:Int):Calls Tryz.prog 139 #[.int .i64 x,.int .i64 y] w fun e w'=>e=.returned (.int .i64 (cmpI x y))∧w=w':=by
 have HC:=Lib.hid (show cmpI x y=if x<y then -1 else if y<x then 1 else 0 from rfl)
 generalize cmpI x y=r at *
 rcases (by omega:x<y∨(¬ x<y∧y<x)∨(¬ x<y∧¬ y<x)) with h|⟨h,h2⟩|⟨h,h2⟩
 ·rw [if_pos h] at HC
  go_enter Tryz.func139,Tryz.ntmps139
  go_wp2_with (go_at_call 163;refine (isNaN_calls _).mono ?_;rintro e w' ⟨rfl,rfl⟩)
  go_ret
  exact ⟨ret_int HC.out.symm,rfl⟩
 ·rw [if_neg h,if_pos h2] at HC
  go_enter Tryz.func139,Tryz.ntmps139
  go_wp2_with (go_at_call 163;refine (isNaN_calls _).mono ?_;rintro e w' ⟨rfl,rfl⟩)
  go_ret
  exact ⟨ret_int HC.out.symm,rfl⟩
 ·rw [if_neg h,if_neg h2] at HC
  go_enter Tryz.func139,Tryz.ntmps139
  go_wp2_with (go_at_call 163;refine (isNaN_calls _).mono ?_;rintro e w' ⟨rfl,rfl⟩)
  go_ret
  exact ⟨ret_int HC.out.symm,rfl⟩
theorem cmpB_calls (x y:Int):Calls Tryz.prog 140 #[.int .u8 x,.int .u8 y] w fun e w'=>e=.returned (.int .i64 (cmpI x y))∧w=w':=by
 have HC:=Lib.hid (show cmpI x y=if x<y then -1 else if y<x then 1 else 0 from rfl)
 generalize cmpI x y=r at *
 rcases (by omega:x<y∨(¬ x<y∧y<x)∨(¬ x<y∧¬ y<x)) with h|⟨h,h2⟩|⟨h,h2⟩
 ·rw [if_pos h] at HC
  go_enter Tryz.func140,Tryz.ntmps140
  go_wp2_with (go_at_call 164;refine (isNaB_calls _).mono ?_;rintro e w' ⟨rfl,rfl⟩)
  go_ret
  exact ⟨ret_int HC.out.symm,rfl⟩
 ·rw [if_neg h,if_pos h2] at HC
  go_enter Tryz.func140,Tryz.ntmps140
  go_wp2_with (go_at_call 164;refine (isNaB_calls _).mono ?_;rintro e w' ⟨rfl,rfl⟩)
  go_ret
  exact ⟨ret_int HC.out.symm,rfl⟩
 ·rw [if_neg h,if_neg h2] at HC
  go_enter Tryz.func140,Tryz.ntmps140
  go_wp2_with (go_at_call 164;refine (isNaB_calls _).mono ?_;rintro e w' ⟨rfl,rfl⟩)
  go_ret
  exact ⟨ret_int HC.out.symm,rfl⟩
def or3 (x y z:Int):Int:=if x≠0 then x else if y≠0 then y else z
theorem or3_calls (x y z:Int) {g:Nat} {e:TypeId} (h:Blk w g [.int .i64 x,.int .i64 y,.int .i64 z] e):Calls Tryz.prog 138 #[.slice (some ⟨g,0,none⟩) 3 3] w fun e w'=>e=.returned (.int .i64 (or3 x y z))∧w=w':=by
 have e0:=h.cell (i:=0) rfl
 have e1:=h.cell (i:=1) rfl
 have e2:=h.cell (i:=2) rfl
 clear h
 by_cases hx:x=0
 ·subst hx
  have hb0:((0:Int) != 0)=false:=rfl
  by_cases hy:y=0
  ·subst hy
   have HR:=Lib.hid (show or3 0 0 z=z from rfl)
   by_cases hz:z=0
   ·subst hz
    go_enter Tryz.func138,Tryz.ntmps138
    go_wp2_with fail
    refine wp_loop_rounds 4 ?_
    rw [rounds_succ]
    go_wp2_with fail
    rw [rounds_succ]
    go_wp2_with fail
    rw [rounds_succ]
    go_wp2_with fail
    rw [rounds_succ]
    go_wp2_with fail
    go_ret
    exact ⟨ret_int HR.out.symm,rfl⟩
   ·have hb2:(z != 0)=true:=by simpa using hz
    clear hz
    go_enter Tryz.func138,Tryz.ntmps138
    go_wp2_with fail
    refine wp_loop_rounds 3 ?_
    rw [rounds_succ]
    go_wp2_with fail
    rw [rounds_succ]
    go_wp2_with fail
    rw [rounds_succ]
    go_wp2_with fail
    go_ret
    exact ⟨ret_int HR.out.symm,rfl⟩
  ·have HR:=Lib.hid (show or3 0 y z=y from by unfold or3;rw [if_neg (by simp),if_pos hy])
   have hb2:(y != 0)=true:=by simpa using hy
   clear hy
   go_enter Tryz.func138,Tryz.ntmps138
   go_wp2_with fail
   refine wp_loop_rounds 2 ?_
   rw [rounds_succ]
   go_wp2_with fail
   rw [rounds_succ]
   go_wp2_with fail
   go_ret
   exact ⟨ret_int HR.out.symm,rfl⟩
 ·have HR:=Lib.hid (show or3 x y z=x from by unfold or3;rw [if_pos hx])
  have hb2:(x != 0)=true:=by simpa using hx
  clear hx
  go_enter Tryz.func138,Tryz.ntmps138
  go_wp2_with fail
  refine wp_loop_rounds 1 ?_
  rw [rounds_succ]
  go_wp2_with fail
  go_ret
  exact ⟨ret_int HR.out.symm,rfl⟩
def CmpAt (a:Rx):Prop:=∀ (b:Rx) {w:World} {va vb:Value},RxV [] w a va→RxV [] w b vb→Calls Tryz.prog 122 #[va,vb] w fun e w'=>e=.returned (.int .i64 (cmpR a b))∧Grw w w'
theorem cmpL_drop {l m:List Rx} {k:Nat} {a b:Rx} (ha:l[k]?=some a) (hb:m[k]?=some b):cmpL (l.drop k) (m.drop k)=if cmpR a b≠0 then cmpR a b else cmpL (l.drop (k+1)) (m.drop (k+1)):=by
 obtain ⟨h1,rfl⟩:=List.getElem?_eq_some_iff.1 ha
 obtain ⟨h2,rfl⟩:=List.getElem?_eq_some_iff.1 hb
 rw [List.drop_eq_getElem_cons h1,List.drop_eq_getElem_cons h2,cmpL]
theorem cmpL_more {l m:List Rx} {k:Nat} (h:k<l.length) (h2:m.length≤k):cmpL (l.drop k) (m.drop k)=1:=by
 rw [List.drop_eq_getElem_cons h,List.drop_eq_nil_of_le h2,cmpL]
theorem cmpL_less {l m:List Rx} {k:Nat} (h:l.length≤k) (h2:k<m.length):cmpL (l.drop k) (m.drop k)=-1:=by
 rw [List.drop_eq_nil_of_le h,List.drop_eq_getElem_cons h2,cmpL]
theorem cmpL_end {l m:List Rx} {k:Nat} (h:l.length≤k) (h2:m.length≤k):cmpL (l.drop k) (m.drop k)=0:=by
 rw [List.drop_eq_nil_of_le h,List.drop_eq_nil_of_le h2,cmpL]
set_option maxRecDepth 100000 in
set_option maxHeartbeats 8000000 in
theorem cmpF_calls {l m:List Rx} {vl vm:Value} (hl:RxL [] w l vl) (hm:RxL [] w m vm) (hc:∀ a∈l,CmpAt a):Calls Tryz.prog 141 #[vl,vm,.func (.func 122) #[] #[]] w fun e w'=>e=.returned (.int .i64 (cmpL l m))∧Grw w w':=by
 obtain ⟨a,c,rfl,q1,q2,_⟩:=id hl.form
 obtain ⟨b,d,rfl,p1,p2,_⟩:=id hm.form
 have HL:=Lib.hid hl
 have HM:=Lib.hid hm
 have HC:=Lib.hid hc
 clear hl hm hc
 go_enter Tryz.func141,Tryz.ntmps141
 go_wp2_with fail
 go_loopw [13] (fun i wr=>∃ k:Nat,i=.int .i64 k∧k≤l.length∧k≤m.length∧cmpL l m=cmpL (l.drop k) (m.drop k)∧∃ x:GX w,wr=x.val) (fun i _=>l.length - (intOf i).toNat)
 case atStart=>exact ⟨0,rfl,Nat.zero_le _,Nat.zero_le _,rfl,GX.of (by iterate 12 (first|exact Grw.refl _|assumption|refine Grw.drew ?_|refine Grw.drewN ?_ _|refine Grw.alloc ?_ _|refine Grw.step ?_ (GX.upd _)|skip))⟩
 case round=>
  obtain ⟨k,rfl,hk,hk2,he,x,rfl⟩:=hrel
  have HE:=Lib.hid he
  clear he
  by_cases hlt:k<l.length
  ·have hli:(k:Int)<l.length:=by omega
   have hr:=List.getElem?_eq_getElem hlt
   have hmem:=List.mem_of_getElem? hr
   generalize l[k]=r at *
   obtain ⟨g,off,a2,c2,rfl,hRF,e0,e1,e2,e3⟩:=(HL.out.ext x.upd.upd).kid hr
   have HRR:=Lib.hid (And.intro hRF (And.intro hmem hr))
   clear hRF hr hmem
   go_upto_region 4 with fail
   have b2:=Blk.new x.val (rxC r.kind r.lo r.hi (.slice a2 r.kids.length c2)) 37
   have u2:=(Grw.refl x.val).alloc (.cells (rxC r.kind r.lo r.hi (.slice a2 r.kids.length c2)).toArray 37)
   change Code.wp _ _ _ _ (x.val.alloc (.cells (rxC r.kind r.lo r.hi (.slice a2 r.kids.length c2)).toArray 37))
   generalize (x.val.alloc (.cells (rxC r.kind r.lo r.hi (.slice a2 r.kids.length c2)).toArray 37))=w2 at *
   generalize x.val.heap.size=sb at *
   have HU2:=Lib.hid (And.intro (x.upd.step u2) (And.intro b2 u2))
   clear b2 u2 e0 e1 e2 e3
   by_cases hlt2:k<m.length
   ·have hli2:¬ (m.length:Int)≤k:=by omega
    have hr:=List.getElem?_eq_getElem hlt2
    generalize m[k]=s at *
    obtain ⟨g3,off3,a3,c3,rfl,hRF,e0,e1,e2,e3⟩:=(HM.out.ext HU2.out.1.upd).kid hr
    have HSS:=Lib.hid (And.intro hRF hr)
    clear hRF hr
    go_upto_region 7 with fail
    have b4:=Blk.new w2 (rxC s.kind s.lo s.hi (.slice a3 s.kids.length c3)) 37
    have u4:=(Grw.refl w2).alloc (.cells (rxC s.kind s.lo s.hi (.slice a3 s.kids.length c3)).toArray 37)
    change Code.wp _ _ _ _ (w2.alloc (.cells (rxC s.kind s.lo s.hi (.slice a3 s.kids.length c3)).toArray 37))
    generalize (w2.alloc (.cells (rxC s.kind s.lo s.hi (.slice a3 s.kids.length c3)).toArray 37))=w4 at *
    generalize w2.heap.size=sb4 at *
    have b2:=HU2.out.2.1.upd u4.upd (by simp)
    have d0:=b2.cell (i:=0) rfl
    have d1:=b2.cell (i:=1) rfl
    have d2:=b2.cell (i:=2) rfl
    have d3:=b2.cell (i:=3) rfl
    have f0:=b4.cell (i:=0) rfl
    have f1:=b4.cell (i:=1) rfl
    have f2:=b4.cell (i:=2) rfl
    have f3:=b4.cell (i:=3) rfl
    have HCC:=Lib.hid (HC.out r HRR.out.2.1 s ((HRR.out.1.ext (HU2.out.2.2.step u4).upd).val) ((HSS.out.1.ext u4.upd).val))
    have HU4:=Lib.hid (HU2.out.1.step u4)
    have HD:=Lib.hid (cmpL_drop HRR.out.2.2 HSS.out.2)
    clear b2 b4 u4 e0 e1 e2 e3 HU2
    generalize cmpR r s=z at *
    by_cases hz:z=0
    ·have hb:(z != 0)=false:=by simpa using hz
     have HZ:=Lib.hid hz
     clear hz
     go_wp2_with (first|(with_reducible refine HCC.out.mono ?_);rintro e w3 ⟨rfl,hu⟩)
     exact ⟨⟨k+1,by go_num,by omega,by omega,by rw [HE.out,HD.out,if_neg (by simpa using HZ.out)],GX.of (HU4.out.step hu)⟩,by simp [intOf];omega⟩
    ·have hb:(z != 0)=true:=by simpa using hz
     have HZ:=Lib.hid hz
     clear hz
     go_wp2_with (first|(with_reducible refine HCC.out.mono ?_);rintro e w3 ⟨rfl,hu⟩)
     go_ret
     rw [HE.out,HD.out,if_pos HZ.out]
     exact ⟨rfl,HU4.out.step hu⟩
   ·have hli2:(m.length:Int)≤k:=by omega
    have HX:=Lib.hid (cmpL_more (m:=m) hlt (by omega))
    go_wp2_with fail
    go_ret
    rw [HE.out,HX.out]
    exact ⟨rfl,HU2.out.1⟩
  ·have hme:k=l.length:=by omega
   subst hme
   by_cases hlt2:l.length<m.length
   ·have hli:(l.length:Int)<m.length:=by omega
    have HX:=Lib.hid (cmpL_less (l:=l) (Nat.le_refl _) hlt2)
    go_wp2_with fail
    go_ret
    rw [HE.out,HX.out]
    exact ⟨rfl,x.upd⟩
   ·have hli:¬ (l.length:Int)<m.length:=by omega
    have HX:=Lib.hid (cmpL_end (l:=l) (m:=m) (Nat.le_refl _) (by omega))
    go_wp2_with fail
    go_ret
    rw [HE.out,HX.out]
    exact ⟨rfl,x.upd⟩
theorem cmpR_or (a b:Rx):cmpR a b=if or3 (cmpI a.kind b.kind) (cmpI a.lo b.lo) (cmpI a.hi b.hi)≠0 then or3 (cmpI a.kind b.kind) (cmpI a.lo b.lo) (cmpI a.hi b.hi) else cmpL a.kids b.kids:=by
 obtain ⟨k,lo,hi,ks⟩:=a
 obtain ⟨k',lo',hi',ks'⟩:=b
 rw [cmpR]
 unfold or3
 simp only [Rx.kind,Rx.lo,Rx.hi,Rx.kids]
 by_cases h1:cmpI k k'=0
 ·by_cases h2:cmpI lo lo'=0
  ·simp [h1,h2]
  ·simp [h1,h2]
 ·simp [h1]
set_option maxRecDepth 100000 in
set_option maxHeartbeats 8000000 in
theorem cmpG_calls:∀ a:Rx,CmpAt a:=by
 intro a
 induction a using Rx.ind with
 | h ak alo ahi aks ih=>
  intro b w va vb ha hb
  have HI:=Lib.hid ih
  have HR:=Lib.hid (cmpR_or (nd ak alo ahi aks) b)
  generalize hA:nd ak alo ahi aks=a at *
  have hk:a.kids=aks:=by rw [←hA];rfl
  rw [←hk] at HI
  clear hk hA ih
  obtain ⟨vk,rfl,_,hL⟩:=box_load ha
  obtain ⟨vm,rfl,_,hM⟩:=box_load hb
  have HL:=Lib.hid (And.intro hL hM)
  clear ha hb hL hM
  go_enter Tryz.func122,Tryz.ntmps122
  go_upto_region 1 with fail
  have bA:=Blk.new w (rxC a.kind a.lo a.hi vk) 37
  have uA:=(Grw.refl w).alloc (.cells (rxC a.kind a.lo a.hi vk).toArray 37)
  have bB:=Blk.new (w.alloc (.cells (rxC a.kind a.lo a.hi vk).toArray 37)) (rxC b.kind b.lo b.hi vm) 37
  have uB:=uA.alloc (.cells (rxC b.kind b.lo b.hi vm).toArray 37)
  have bA:=bA.alloc (.cells (rxC b.kind b.lo b.hi vm).toArray 37)
  rw [show (w.alloc (.cells (rxC a.kind a.lo a.hi vk).toArray 37)).heap.size=w.heap.size+1 by simp] at bB
  change Code.wp _ _ _ _ ((w.alloc (.cells (rxC a.kind a.lo a.hi vk).toArray 37)).alloc (.cells (rxC b.kind b.lo b.hi vm).toArray 37))
  generalize ((w.alloc (.cells (rxC a.kind a.lo a.hi vk).toArray 37)).alloc (.cells (rxC b.kind b.lo b.hi vm).toArray 37))=w1 at *
  generalize w.heap.size+1=pb at *
  generalize w.heap.size=pa at *
  have c0:=bA.cell (i:=0) rfl
  have c1:=bA.cell (i:=1) rfl
  have c2:=bA.cell (i:=2) rfl
  have c3:=bA.cell (i:=3) rfl
  have d0:=bB.cell (i:=0) rfl
  have d1:=bB.cell (i:=1) rfl
  have d2:=bB.cell (i:=2) rfl
  have d3:=bB.cell (i:=3) rfl
  have HU:=Lib.hid uB
  clear bA bB uA uB
  go_cut [5] (fun x w'=>x=.int .i64 (or3 (cmpI a.kind b.kind) (cmpI a.lo b.lo) (cmpI a.hi b.hi))∧Grw w1 w')
  case first=>
   have HA:=Lib.hid (fun (w:World)=>cmpI_calls (w:=w) a.kind b.kind)
   have HB:=Lib.hid (fun (w:World)=>cmpB_calls (w:=w) a.lo b.lo)
   have HC:=Lib.hid (fun (w:World)=>cmpB_calls (w:=w) a.hi b.hi)
   have HO:=Lib.hid (fun (w:World) (g:Nat) (h:Blk w g _ 3)=>or3_calls (cmpI a.kind b.kind) (cmpI a.lo b.lo) (cmpI a.hi b.hi) h)
   generalize cmpI a.kind b.kind=z1 at *
   generalize cmpI a.lo b.lo=z2 at *
   generalize cmpI a.hi b.hi=z3 at *
   go_wp2_with fail
   refine wp_region_ord 14 3 [0,1,2,3,5,6,7,8,10,11,12,13,17] [1,3,6,8,11,13] [0,1,2,3,5,6,7,8,10,11,12,13,4,9,14,15,16,17] (fun w'=>∃ x:GX w1,w'=x.val) (by kernel_rfl) (by kernel_rfl) (GX.of (by iterate 12 (first|exact Grw.refl _|assumption|refine Grw.drew ?_|refine Grw.drewN ?_ _|refine Grw.alloc ?_ _|refine Grw.step ?_ (GX.upd _)|skip))) ?_
   repeat (first|(refine wpOrd_load rfl rfl rfl rfl (fun K hK=>?_);go_big_quiet_step (fail);refine wpQuiet_nil ?_;refine hK _ ?_;clear hK K)|(refine wpOrd_free rfl rfl rfl (fun K hK=>?_);go_big_quiet_step (fail);refine wpQuiet_nil ?_;refine hK _ ?_;clear hK K))
   refine wpOrd_fix rfl rfl (fun K hK=>?_)
   go_wp2_with (go_at_call 139;refine (HA.out _).mono ?_;rintro e _ ⟨rfl,rfl⟩)
   refine ⟨fun _=>GX.of (by iterate 12 (first|exact Grw.refl _|assumption|refine Grw.drew ?_|refine Grw.drewN ?_ _|refine Grw.alloc ?_ _|refine Grw.step ?_ (GX.upd _)|skip)),?_⟩
   repeat (first|(refine wpOrd_load rfl rfl rfl rfl (fun K hK=>?_);go_big_quiet_step (fail);refine wpQuiet_nil ?_;refine hK _ ?_;clear hK K)|(refine wpOrd_free rfl rfl rfl (fun K hK=>?_);go_big_quiet_step (fail);refine wpQuiet_nil ?_;refine hK _ ?_;clear hK K))
   refine wpOrd_fix rfl rfl (fun K hK=>?_)
   go_wp2_with (go_at_call 140;refine (HB.out _).mono ?_;rintro e _ ⟨rfl,rfl⟩)
   refine ⟨fun _=>GX.of (by iterate 12 (first|exact Grw.refl _|assumption|refine Grw.drew ?_|refine Grw.drewN ?_ _|refine Grw.alloc ?_ _|refine Grw.step ?_ (GX.upd _)|skip)),?_⟩
   repeat (first|(refine wpOrd_load rfl rfl rfl rfl (fun K hK=>?_);go_big_quiet_step (fail);refine wpQuiet_nil ?_;refine hK _ ?_;clear hK K)|(refine wpOrd_free rfl rfl rfl (fun K hK=>?_);go_big_quiet_step (fail);refine wpQuiet_nil ?_;refine hK _ ?_;clear hK K))
   refine wpOrd_fix rfl rfl (fun K hK=>?_)
   go_wp2_with (go_at_call 140;refine (HC.out _).mono ?_;rintro e _ ⟨rfl,rfl⟩)
   refine ⟨fun _=>GX.of (by iterate 12 (first|exact Grw.refl _|assumption|refine Grw.drew ?_|refine Grw.drewN ?_ _|refine Grw.alloc ?_ _|refine Grw.step ?_ (GX.upd _)|skip)),?_⟩
   repeat (first|(refine wpOrd_load rfl rfl rfl rfl (fun K hK=>?_);go_big_quiet_step (fail);refine wpQuiet_nil ?_;refine hK _ ?_;clear hK K)|(refine wpOrd_free rfl rfl rfl (fun K hK=>?_);go_big_quiet_step (fail);refine wpQuiet_nil ?_;refine hK _ ?_;clear hK K))
   refine wpOrd_fix rfl rfl (fun K hK=>?_)
   go_wp2_with fail
   have NB:Blk (w1.alloc (.cells #[.int .i64 z1,.int .i64 z2,.int .i64 z3] 3)).drew w1.heap.size [.int .i64 z1,.int .i64 z2,.int .i64 z3] 3:=Blk.new w1 [.int .i64 z1,.int .i64 z2,.int .i64 z3] 3
   have UB:=((Grw.refl w1).alloc (.cells #[.int .i64 z1,.int .i64 z2,.int .i64 z3] 3)).drew
   have HOB:=Lib.hid (HO.out _ _ NB)
   have HUB:=Lib.hid UB
   clear NB UB
   generalize (w1.alloc (.cells #[.int .i64 z1,.int .i64 z2,.int .i64 z3] 3)).drew=waa at *
   generalize w1.heap.size=gaa at *
   refine ⟨fun hC=>absurd hC (by decide),?_⟩
   repeat (first|(refine wpOrd_load rfl rfl rfl rfl (fun K hK=>?_);go_big_quiet_step (fail);refine wpQuiet_nil ?_;refine hK _ ?_;clear hK K)|(refine wpOrd_free rfl rfl rfl (fun K hK=>?_);go_big_quiet_step (fail);refine wpQuiet_nil ?_;refine hK _ ?_;clear hK K))
   refine wpOrd_fix rfl rfl (fun K hK=>?_)
   go_wp2_with (go_at_call 138;refine HOB.out.mono ?_;rintro e _ ⟨rfl,rfl⟩)
   refine ⟨fun hC=>absurd hC (by decide),?_⟩
   repeat (first|(refine wpOrd_load rfl rfl rfl rfl (fun K hK=>?_);go_big_quiet_step (fail);refine wpQuiet_nil ?_;refine hK _ ?_;clear hK K)|(refine wpOrd_free rfl rfl rfl (fun K hK=>?_);go_big_quiet_step (fail);refine wpQuiet_nil ?_;refine hK _ ?_;clear hK K))
   refine wpOrd_nil ?_
   go_wp2_with fail
   go_meet
   case rel=>exact ⟨rfl,HUB.out⟩
  case rest=>
  obtain ⟨rfl,uB⟩:=hcut
  have HU2:=Lib.hid (HU.out.step uB)
  have e2:=uB.some c3 trivial
  have e3:=uB.some d3 trivial
  clear uB c0 c1 c2 c3 d0 d1 d2 d3
  generalize or3 (cmpI a.kind b.kind) (cmpI a.lo b.lo) (cmpI a.hi b.hi)=z at *
  by_cases hz:z=0
  ·have hb:(z != 0)=false:=by simpa using hz
   have HZ:=Lib.hid hz
   clear hz
   have HF:=Lib.hid (cmpF_calls (HL.out.1.ext HU2.out.upd) (HL.out.2.ext HU2.out.upd) HI.out)
   go_wp2_with (first|(with_reducible refine HF.out.mono ?_);rintro e w3 ⟨rfl,hu⟩)
   go_ret
   rw [HR.out,if_neg (by simpa using HZ.out)]
   exact ⟨rfl,HU2.out.step hu⟩
  ·have hb:(z != 0)=true:=by simpa using hz
   have HZ:=Lib.hid hz
   clear hz
   go_wp2_with fail
   go_ret
   rw [HR.out,if_pos HZ.out]
   exact ⟨rfl,HU2.out⟩
theorem cmp_calls (a b:Rx) {va vb:Value} (ha:RxV [] w a va) (hb:RxV [] w b vb):Calls Tryz.prog 122 #[va,vb] w fun e w'=>e=.returned (.int .i64 (cmpR a b))∧Upd [] w w':=
 (cmpG_calls a b ha hb).mono fun _ _ ⟨h,u⟩=>⟨h,u.upd⟩
set_option maxRecDepth 100000 in
set_option maxHeartbeats 8000000 in
theorem equal_calls {a b:Rx} {va vb:Value} (ha:RxV [] w a va) (hb:RxV [] w b vb):Calls Tryz.prog 120 #[va,vb] w fun e w'=>e=.returned (.bool (decide (a=b)))∧Upd [] w w':=by
 have HC:=Lib.hid (fun (w':World) (u:Upd [] w w')=>cmp_calls a b (ha.ext u) (hb.ext u))
 have HD:=Lib.hid (show decide (a=b)=(cmpR a b == 0) from by
  by_cases h:a=b
  ·subst h;simp [cmpR_self]
  ·have h2:¬ cmpR a b=0:=fun h'=>h (cmpR_zero.1 h')
   simp [h,h2])
 obtain ⟨vk,rfl,_,_⟩:=box_load ha
 obtain ⟨vm,rfl,_,_⟩:=box_load hb
 clear ha hb
 go_enter Tryz.func120,Tryz.ntmps120
 go_upto_region 1 with fail
 have bA:=Blk.new w (rxC a.kind a.lo a.hi vk) 37
 have uA:=(Upd.refl [] w).alloc (.cells (rxC a.kind a.lo a.hi vk).toArray 37)
 have bB:=Blk.new (w.alloc (.cells (rxC a.kind a.lo a.hi vk).toArray 37)) (rxC b.kind b.lo b.hi vm) 37
 have uB:=uA.alloc (.cells (rxC b.kind b.lo b.hi vm).toArray 37)
 have bA:=bA.alloc (.cells (rxC b.kind b.lo b.hi vm).toArray 37)
 rw [show (w.alloc (.cells (rxC a.kind a.lo a.hi vk).toArray 37)).heap.size=w.heap.size+1 by simp] at bB
 change Code.wp _ _ _ _ ((w.alloc (.cells (rxC a.kind a.lo a.hi vk).toArray 37)).alloc (.cells (rxC b.kind b.lo b.hi vm).toArray 37))
 generalize ((w.alloc (.cells (rxC a.kind a.lo a.hi vk).toArray 37)).alloc (.cells (rxC b.kind b.lo b.hi vm).toArray 37))=w1 at *
 generalize w.heap.size+1=pb at *
 generalize w.heap.size=pa at *
 have c0:=bA.cell (i:=0) rfl
 have c1:=bA.cell (i:=1) rfl
 have c2:=bA.cell (i:=2) rfl
 have c3:=bA.cell (i:=3) rfl
 have d0:=bB.cell (i:=0) rfl
 have d1:=bB.cell (i:=1) rfl
 have d2:=bB.cell (i:=2) rfl
 have d3:=bB.cell (i:=3) rfl
 have HU:=Lib.hid uB
 have HX:=Lib.hid (HC.out _ uB)
 clear bA bB uA uB HC
 generalize cmpR a b=z at *
 go_wp2_with (first|(with_reducible refine HX.out.mono ?_);rintro e w3 ⟨rfl,hu⟩)
 go_ret
 rw [HD.out]
 exact ⟨rfl,HU.out.step hu⟩
end
end Rgx
end Go.Proofs.YtjclbjdkkdijbaaGreat
end
section
open Go.RowKit
namespace Go.Proofs.YtjclbjdkkdijbaaGreat
open L
namespace Rgx
open Rx
attribute [-go_sem] sliced
theorem infoRx:(Tryz.prog.info? 37).map (fun i=>(i.zero,i.size,i.bytes))=some (some (.agg #[.int .i64 0,.int .u8 0,.int .u8 0,.slice none 0 0]),4,40):=by kernel_rfl
def idxR (p:Rx→Bool) (ks:List Rx):Int:=match ks.findIdx? p with|some i=>i|none=>-1
theorem idxR_at {p:Rx→Bool} {ks:List Rx} {k:Nat} {r:Rx} (h:ks[k]?=some r) (hp:p r=true) (hlo:∀ j,j<k→∀ x,ks[j]?=some x→p x=false):idxR p ks=k:=by
 obtain ⟨hk,rfl⟩:=List.getElem?_eq_some_iff.1 h
 unfold idxR
 have:ks.findIdx? p=some k:=by
  rw [List.findIdx?_eq_some_iff_getElem]
  refine ⟨hk,hp,fun j hj=>?_⟩
  simp [hlo j hj _ (List.getElem?_eq_getElem (by omega))]
 rw [this]
theorem idxR_none {p:Rx→Bool} {ks:List Rx} (hlo:∀ j,j<ks.length→∀ x,ks[j]?=some x→p x=false):idxR p ks=-1:=by
 unfold idxR
 have:ks.findIdx? p=none:=by
  rw [List.findIdx?_eq_none_iff]
  intro x hx
  obtain ⟨j,hj,rfl⟩:=List.getElem_of_mem hx
  simp [hlo j hj _ (List.getElem?_eq_getElem hj)]
 rw [this]
section
variable {w w':World} {v:Value}
set_option maxRecDepth 100000 in
set_option maxHeartbeats 8000000 in
theorem flat1_calls {r u:Rx} {bx:Nat} (hr:RxV [] w r v) (hb:Box 37 [] w bx u):Calls Tryz.prog 135 #[v,.pointer (some ⟨bx,0,none⟩)] w fun e w'=>e=.returned (.bool (decide (r=u)))∧Upd [] w w':=by
 have HC:=Lib.hid (fun (w':World) (x:Upd [] w w') (vb:Value) (h:RxV [] w' u vb)=>equal_calls (hr.ext x) h)
 obtain ⟨a1,c1,rfl,hF,_,_⟩:=hr.shape
 obtain ⟨a2,c2,hB,hU,_⟩:=hb
 clear hr
 go_enter Tryz.func135,Tryz.ntmps135
 go_upto_region 1 with fail
 have bA:=Blk.new w (rxC r.kind r.lo r.hi (.slice a1 r.kids.length c1)) 37
 have uA:=(Upd.refl [] w).alloc (.cells (rxC r.kind r.lo r.hi (.slice a1 r.kids.length c1)).toArray 37)
 change Code.wp _ _ _ _ (w.alloc (.cells (rxC r.kind r.lo r.hi (.slice a1 r.kids.length c1)).toArray 37))
 generalize (w.alloc (.cells (rxC r.kind r.lo r.hi (.slice a1 r.kids.length c1)).toArray 37))=w1 at *
 generalize w.heap.size=pa at *
 have bB:=hB.upd uA (by simp)
 have c0:=bA.cell (i:=0) rfl
 have c1:=bA.cell (i:=1) rfl
 have c2:=bA.cell (i:=2) rfl
 have c3:=bA.cell (i:=3) rfl
 have d0:=bB.cell (i:=0) rfl
 have d1:=bB.cell (i:=1) rfl
 have d2:=bB.cell (i:=2) rfl
 have d3:=bB.cell (i:=3) rfl
 have HU:=Lib.hid uA
 have HX:=Lib.hid (HC.out _ uA _ (hU.ext uA).val)
 clear bA bB uA HC hB hU hF
 go_wp2_with (first|(with_reducible refine HX.out.mono ?_);rintro e w3 ⟨rfl,hu⟩)
 go_ret
 exact ⟨rfl,HU.out.step hu⟩
set_option maxRecDepth 100000 in
set_option maxHeartbeats 8000000 in
theorem idxFlat_calls {ks:List Rx} {vl:Value} {bx:Nat} {p:Rx→Bool} (hl:RxL [] w ks vl)
 (hp:∀ r∈ks,∀ (w':World) (v:Value),Upd [] w w'→RxV [] w' r v→Calls Tryz.prog 135 #[v,.pointer (some ⟨bx,0,none⟩)] w' fun e w2=>e=.returned (.bool (p r))∧Upd [] w' w2) :
 Calls Tryz.prog 136 #[vl,.func (.func 135) #[] #[.pointer (some ⟨bx,0,none⟩)]] w fun e w'=>e=.returned (.int .i64 (idxR p ks))∧Upd [] w w':=by
 obtain ⟨a,c,rfl,q1,q2,_⟩:=id hl.form
 have HL:=Lib.hid hl
 have HP:=Lib.hid hp
 clear hl hp
 go_enter Tryz.func136,Tryz.ntmps136
 go_wp2_with fail
 go_loopw [8] (fun i wr=>∃ k:Nat,i=.int .i64 k∧k≤ks.length∧(∀ j,j<k→∀ x,ks[j]?=some x→p x=false)∧∃ x:Ext w,wr=x.val) (fun i _=>ks.length - (intOf i).toNat)
 case atStart=>exact ⟨0,rfl,Nat.zero_le _,fun j hj=>by omega,Ext.of (by iterate 25 (first|exact Upd.refl _ _|assumption|refine Upd.alloc ?_ _|refine Upd.drew ?_|refine Upd.drewN ?_ _|refine Upd.dl ?_|refine Upd.step ?_ (Ext.upd _)|refine Upd.nil ?_|skip))⟩
 case round=>
  obtain ⟨k,rfl,hk,hlo,x,rfl⟩:=hrel
  have HLO:=Lib.hid hlo
  clear hlo
  by_cases hlt:k<ks.length
  ·have hli:(k:Int)<ks.length:=by omega
   have hr:=List.getElem?_eq_getElem hlt
   have hmem:=List.mem_of_getElem? hr
   generalize ks[k]=r at *
   obtain ⟨g,off,a2,c2,rfl,hRF,e0,e1,e2,e3⟩:=(HL.out.ext x.upd).kid hr
   have HX:=Lib.hid (HP.out r hmem x.val _ x.upd hRF.val)
   have HR:=Lib.hid hr
   clear hRF hmem hr
   cases hpr:p r with
   | true=>
    rw [hpr] at HX
    have HE:=Lib.hid (idxR_at HR.out hpr HLO.out)
    clear hpr
    go_wp2_with (first|(with_reducible refine HX.out.mono ?_);rintro e w3 ⟨rfl,hu⟩)
    go_ret
    rw [HE.out]
    exact ⟨rfl,x.upd.step hu⟩
   | false=>
    rw [hpr] at HX
    have HE:=Lib.hid hpr
    clear hpr
    go_wp2_with (first|(with_reducible refine HX.out.mono ?_);rintro e w3 ⟨rfl,hu⟩)
    refine ⟨⟨k+1,by go_num,by omega,fun j hj y hy=>?_,Ext.of (x.upd.step hu)⟩,by simp [intOf];omega⟩
    rcases Nat.lt_or_ge j k with h|h
    ·exact HLO.out j h y hy
    ·obtain rfl:j=k:=by omega
     rw [HR.out] at hy
     cases hy
     exact HE.out
  ·have hme:k=ks.length:=by omega
   subst hme
   have HE:=Lib.hid (idxR_none HLO.out)
   go_wp2_with fail
   go_ret
   rw [HE.out]
   exact ⟨rfl,x.upd⟩
theorem blk_setCells {g:Nat} {e:TypeId}:∀ (vs:List Value) (o:Nat) (w:World) (cs:List Value),Blk w g cs e→∃ cs',Blk (w.setCells g o vs) g cs' e∧cs'.length=cs.length∧∀ j,j<o→cs'[j]?=cs[j]?
 | [],o,w,cs,h=>⟨cs,h,rfl,fun _ _=>rfl⟩
 | v::vs,o,w,cs,h=>by
  obtain ⟨cs',h1,h2,h3⟩:=blk_setCells vs (o+1) (w.setCell ⟨g,o,none⟩ v) _ (h.set o v)
  refine ⟨cs',h1,by rw [h2,List.length_set],fun j hj=>?_⟩
  rw [h3 j (by omega),List.getElem?_set,if_neg (by omega)]
theorem upd_setCells {g:Nat}:∀ (vs:List Value) (o:Nat) (w0 w:World),Upd [g] w0 w→Upd [g] w0 (w.setCells g o vs)
 | [],_,_,_,h=>h
 | v::vs,o,w0,w,h=>upd_setCells vs (o+1) w0 _ (h.set (p:=⟨g,o,none⟩) (.inl (by simp)) v)
theorem zeroCells_one (z:Array Value) (n:Nat) (hz:0<z.size) (h1:∀ v∈z.toList,v.oneCell'=true):∀ v∈(Builtin.zeroCells z n).toList,v.oneCell'=true:=by
 intro v hv
 unfold Builtin.zeroCells at hv
 rw [Array.toList_map] at hv
 obtain ⟨i,_,rfl⟩:=List.mem_map.1 hv
 have hm:=Nat.mod_lt i hz
 rw [getElem!_pos z (i % z.size) hm]
 exact h1 _ (by simp)
theorem zero_of {P:Program} {e:TypeId} {z:Value} {size bytes:Nat} (hinfo:(P.info? e).map (fun i=>(i.zero,i.size,i.bytes))=some (some z,size,bytes)) (w:World):(zeroValue e).run P w=.ok z w:=by
 obtain ⟨i,hi,hz,_⟩:=info_of hinfo
 have hp:Sem.run P (Sem.program Sem.pure) w=.ok P w:=rfl
 simp [zeroValue,typeInfo,program,go_sem,hi,hz,hp]
theorem run_clear_rx {g:Nat} {cs:List Value} (h:Blk w g cs 37) {o n c:Nat} (hn:0<n) (hl:o+n*4≤cs.length) :
 ∃ w',(∀ ty,(Builtin.clear_ #[35] ty #[.slice (some ⟨g,o,none⟩) n c]).run Tryz.prog w=.ok (.tuple #[]) w')∧Upd [g] w w'∧∃ cs',Blk w' g cs' 37∧cs'.length=cs.length∧∀ j,j<o→cs'[j]?=cs[j]?:=by
 have hz:=zero_of infoRx
 generalize hzc:(Builtin.zeroCells (Value.agg #[.int .i64 0,.int .u8 0,.int .u8 0,.slice none 0 0]).cells n).toList=vs
 have hvs:∀ v∈vs,v.oneCell'=true:=by
  rw [←hzc]
  refine zeroCells_one _ _ (by decide) ?_
  intro v hv
  simp [Value.cells] at hv
  rcases hv with rfl|rfl|rfl <;> rfl
 have hvl:vs.length=n*4:=by
  rw [←hzc]
  unfold Builtin.zeroCells
  simp [Value.cells]
 have hst:=run_storeCells_cells (P:=Tryz.prog) g o vs 0 w (fun j hj=>by
  rw [hvl] at hj
  rw [show o+0+j=o+j by omega,h.cell (i:=o+j) (List.getElem?_eq_getElem (show o+j<cs.length by omega))]
  rfl) (fun j _=>h.free _) hvs
 rw [Nat.add_zero] at hst
 obtain ⟨m,rfl⟩:∃ m,n=m+1:=⟨n-1,by omega⟩
 refine ⟨w.setCells g o vs,fun ty=>?_,upd_setCells vs o w w (Upd.refl _ _),blk_setCells vs o w cs h⟩
 simp [Builtin.clear_,run_underlying Tryz.underlying35,hz,hzc,hst]
def without (u:Rx) (ks:List Rx):List Rx:=ks.filter fun r=>decide (r≠u)
set_option maxRecDepth 100000 in
set_option maxHeartbeats 8000000 in
theorem deleteFunc_calls {M:List Nat} {ks:List Rx} {bx:Nat} {u:Rx} (h:OwR 37 M w v ks) (hb:Box 37 v.ownBlock.toList w bx u) :
 Calls Tryz.prog 134 #[v,.func (.func 135) #[] #[.pointer (some ⟨bx,0,none⟩)]] w fun e w'=>∃ v',e=.returned v'∧OwR 37 M w' v' (without u ks)∧Upd v.ownBlock.toList w w'∧v'.ownBlock=v.ownBlock:=by
 have HI:=Lib.hid (idxFlat_calls (h.list.sub (M':=[]) (by simp)) (p:=fun r=>decide (r=u)) (bx:=bx) fun r hr w' v' hu hv=>flat1_calls hv ((hb.sub (M':=[]) (by simp)).ext hu))
 obtain ⟨a,c,rfl,q1,q2,_⟩:=id h.list.form
 by_cases hno:∀ r∈ks,r≠u
 ·have hi:idxR (fun r=>decide (r=u)) ks=-1:=idxR_none fun j hj x hx=>by simpa using hno x (List.mem_of_getElem? hx)
  have hf:without u ks=ks:=by unfold without;rw [List.filter_eq_self];intro r hr;simpa using hno r hr
  rw [hi] at HI
  have HF:=Lib.hid (And.intro hf h)
  clear hi hf hno h hb
  go_enter Tryz.func134,Tryz.ntmps134
  go_wp2_with (first|(with_reducible refine HI.out.mono ?_);rintro e w3 ⟨rfl,hu⟩)
  go_ret
  rw [HF.out.1]
  exact ⟨_,rfl,HF.out.2.ext hu,hu.nil,rfl⟩
 ·have hex:∃ i:Nat,∃ r,ks[i]?=some r∧r=u∧∀ j,j<i→∀ x,ks[j]?=some x→x≠u:=by
   cases hf:ks.findIdx? (fun r=>decide (r=u)) with
   | none=>
    rw [List.findIdx?_eq_none_iff] at hf
    exact absurd (fun r hr=>by simpa using hf r hr) hno
   | some i=>
    obtain ⟨h1,h2,h3⟩:=List.findIdx?_eq_some_iff_getElem.1 hf
    refine ⟨i,ks[i],List.getElem?_eq_getElem h1,by simpa using h2,fun j hj x hx=>?_⟩
    obtain ⟨hjl,rfl⟩:=List.getElem?_eq_some_iff.1 hx
    simpa using h3 j hj
  obtain ⟨i0,r0,hi0,rfl,hlo⟩:=hex
  have hil:=(List.getElem?_eq_some_iff.1 hi0).1
  have hi:idxR (fun r=>decide (r=r0)) ks=i0:=idxR_at hi0 (by simp) fun j hj x hx=>by simpa using hlo j hj x hx
  rw [hi] at HI
  have hks:ks≠[]:=by rintro rfl;simp at hil
  obtain ⟨g,c',css,pad,hv,hblk,hbl,hc1,hc2,h4,hgM,hel⟩:=h.blk hks
  cases hv
  have hwt:without r0 (ks.take (i0+1))=ks.take i0:=by
   unfold without
   rw [List.take_add_one,hi0,List.filter_append]
   have:(ks.take i0).filter (fun r=>decide (r≠r0))=ks.take i0:=by
    rw [List.filter_eq_self]
    intro r hr
    obtain ⟨j,hj,rfl⟩:=List.getElem_of_mem hr
    rw [List.length_take] at hj
    rw [List.getElem_take]
    simpa using hlo j (by omega) _ (List.getElem?_eq_getElem (by omega))
   rw [this]
   simp
  have HS:=Lib.hid (And.intro hel (And.intro hgM (And.intro hbl (And.intro h4 (And.intro hwt hblk)))))
  have HB:=Lib.hid (hb.sub (M':=[g]) (by intro b hb;simp at hb;subst hb;left;simp [Value.ownBlock]))
  have HH:=Lib.hid h
  clear hi hno h hb hel hgM hbl h4 hwt hblk hi0 hlo hks
  have hm1:((i0:Int) == -1)=false:=by simp
  generalize hn:ks.length=n at *
  have HN:=Lib.hid hn
  clear hn
  go_enter Tryz.func134,Tryz.ntmps134
  go_wp2_with (first|(with_reducible refine HI.out.mono ?_);rintro e _ ⟨rfl,hu⟩;obtain ⟨x0,rfl⟩:=Ext.of hu)
  go_loopw [5,6] (fun iv jv wr=>∃ i j:Nat,iv=.int .i64 i∧jv=.int .i64 j∧i<j∧j≤n∧(∃ css2,Blk wr g (rows n css2++pad) 37∧(∀ k,(css2 k).length=4)∧(∀ k,j≤k→css2 k=css k)∧(without r0 (ks.take j)).length=i∧∀ k r,(without r0 (ks.take j))[k]?=some r→RxF (M++[g]) w r (css2 k))∧Upd [g] w wr) (fun _ jv _=>n - (intOf jv).toNat)
  case atStart=>
   refine ⟨i0,i0+1,rfl,by go_num,by omega,by omega,⟨css,HS.out.2.2.2.2.2.ext x0,HS.out.2.2.2.1,fun _ _=>rfl,?_,fun k r hk=>?_⟩,x0.upd.nil⟩
   ·rw [HS.out.2.2.2.2.1,List.length_take,HN.out];omega
   ·rw [HS.out.2.2.2.2.1,List.getElem?_take] at hk
    split at hk
    ·exact HS.out.1 k r hk
    ·cases hk
  case round=>
   obtain ⟨i,j,rfl,rfl,hij,hj,⟨css2,hB,h4,hcs,hlen,hk⟩,hu⟩:=hrel
   have HL:=Lib.hid (And.intro hB (And.intro h4 (And.intro hcs (And.intro hlen (And.intro hk hu)))))
   clear hB h4 hcs hlen hk hu
   by_cases hlt:j<n
   ·have hli:(j:Int)<n:=by omega
    have hjk:j<ks.length:=by rw [HN.out];exact hlt
    have hr:=List.getElem?_eq_getElem hjk
    generalize ks[j]=r at *
    have hR:=HS.out.1 j r hr
    have hR2:=hR.upd HL.out.2.2.2.2.2 (by simp)
    obtain ⟨a2,c2,hcj⟩:=hR.cs
    have hcell:∀ q y,(rxC r.kind r.lo r.hi (.slice a2 r.kids.length c2))[q]?=some y→wr.cell? ⟨g,j*4+q,none⟩=some y:=fun q y hq=>by
     refine HL.out.1.cell ?_
     have hq4:q<4:=(List.getElem?_eq_some_iff.1 hq).1
     have:=rows_length HL.out.2.1 n
     rw [List.getElem?_append_left (by omega),rows_get HL.out.2.1 hq4 hlt,HL.out.2.2.1 j (Nat.le_refl _),hcj]
     exact hq
    have e0:=hcell 0 _ rfl
    have e1:=hcell 1 _ rfl
    have e2:=hcell 2 _ rfl
    have e3:=hcell 3 _ rfl
    rw [Nat.add_zero] at e0
    rw [hcj] at hR2
    have HR:=Lib.hid (And.intro hr (And.intro hR hR2))
    have HCJ:=Lib.hid hcj
    clear hcell hR hR2 hr hcj hjk
    go_upto_region 8 with fail
    have b2:=Blk.new wr (rxC r.kind r.lo r.hi (.slice a2 r.kids.length c2)) 37
    have u2:=(Upd.refl [] wr).alloc (.cells (rxC r.kind r.lo r.hi (.slice a2 r.kids.length c2)).toArray 37)
    change Code.wp _ _ _ _ (wr.alloc (.cells (rxC r.kind r.lo r.hi (.slice a2 r.kids.length c2)).toArray 37))
    generalize (wr.alloc (.cells (rxC r.kind r.lo r.hi (.slice a2 r.kids.length c2)).toArray 37))=w2 at *
    generalize wr.heap.size=sb at *
    have d0:=b2.cell (i:=0) rfl
    have d1:=b2.cell (i:=1) rfl
    have d2:=b2.cell (i:=2) rfl
    have d3:=b2.cell (i:=3) rfl
    have HX:=Lib.hid (flat1_calls (((HR.out.2.2.sub (M':=[]) (by simp)).ext u2).val) (((HB.out.upd HL.out.2.2.2.2.2 (by simp)).ext u2).sub (M':=[]) (by simp)))
    have HU2:=Lib.hid (And.intro u2 (HL.out.2.2.2.2.2.step u2))
    clear b2 u2 e0 e1 e2 e3
    by_cases hpr:r=r0
    ·rw [decide_eq_true hpr] at HX
     have HE:=Lib.hid (show without r0 (ks.take (j+1))=without r0 (ks.take j) from by
      unfold without
      rw [List.take_add_one,HR.out.1,List.filter_append]
      simp [hpr])
     clear hpr
     go_wp2_with (first|(with_reducible refine HX.out.mono ?_);rintro e w3 ⟨rfl,hu⟩)
     refine ⟨⟨i,j+1,rfl,by go_num,by omega,by omega,⟨css2,HL.out.1.upd (HU2.out.1.step hu) (by simp),HL.out.2.1,fun k hk=>HL.out.2.2.1 k (by omega),?_,?_⟩,HU2.out.2.step hu⟩,by simp [intOf];omega⟩
     ·rw [HE.out];exact HL.out.2.2.2.1
     ·rw [HE.out];exact HL.out.2.2.2.2.1
    ·rw [decide_eq_false hpr] at HX
     have HE:=Lib.hid (show without r0 (ks.take (j+1))=without r0 (ks.take j)++[r] from by
      unfold without
      rw [List.take_add_one,HR.out.1,List.filter_append]
      simp [hpr])
     clear hpr
     go_upto_region 9 with (first|(with_reducible refine HX.out.mono ?_);rintro e w3 ⟨rfl,hu3⟩)
     have hB3:=HL.out.1.upd (HU2.out.1.step hu3) (by simp)
     obtain ⟨p0,p1,p2,p3,hp⟩:∃ p0 p1 p2 p3,css2 i=[p0,p1,p2,p3]:=by
      have:=HL.out.2.1 i
      match hq:css2 i,this with
      | [a,b,c,d],_=>exact ⟨a,b,c,d,rfl⟩
     have hcell:∀ q y,([p0,p1,p2,p3]:List Value)[q]?=some y→w3.cell? ⟨g,i*4+q,none⟩=some y:=fun q y hq=>by
      refine hB3.cell ?_
      have hq4:q<4:=(List.getElem?_eq_some_iff.1 hq).1
      have:=rows_length HL.out.2.1 n
      rw [List.getElem?_append_left (by omega),rows_get HL.out.2.1 hq4 (by omega),hp]
      exact hq
     have f0:=hcell 0 _ rfl
     have f1:=hcell 1 _ rfl
     have f2:=hcell 2 _ rfl
     have f3:=hcell 3 _ rfl
     rw [Nat.add_zero] at f0
     have g0:=hu3.some d0 (by simp)
     have g1:=hu3.some d1 (by simp)
     have g2:=hu3.some d2 (by simp)
     have g3:=hu3.some d3 (by simp)
     have hfr:∀ q,w3.frozen? ⟨g,q,none⟩=false:=hB3.free
     have hin:(i:Int)<n:=by omega
     have HB3:=Lib.hid (And.intro hB3 (HU2.out.2.step hu3))
     clear hcell hB3 hp hu3 d0 d1 d2 d3
     go_wp2_with fail
     refine ⟨?_,by simp [intOf];omega⟩
     ·have hs:=(((HB3.out.1.set (i*4) (.int .i64 r.kind)).set (i*4+1) (.int .u8 r.lo)).set (i*4+2) (.int .u8 r.hi)).set (i*4+3) (.slice a2 r.kids.length c2)
      rw [rows_set4 HL.out.2.1 (by omega)] at hs
      refine ⟨i+1,j+1,by go_num,by go_num,by omega,by omega,⟨_,hs,fun k=>?_,fun k hk=>?_,?_,fun k x hk=>?_⟩,?_⟩
      ·try dsimp only
       split
       ·rfl
       ·exact HL.out.2.1 k
      ·try dsimp only
       rw [if_neg (by omega)]
       exact HL.out.2.2.1 k (by omega)
      ·rw [HE.out,List.length_append,HL.out.2.2.2.1];rfl
      ·rw [HE.out] at hk
       try dsimp only
       rcases Nat.lt_or_ge k i with h|h
       ·rw [List.getElem?_append_left (by rw [HL.out.2.2.2.1];exact h)] at hk
        rw [if_neg (by omega)]
        exact HL.out.2.2.2.2.1 k x hk
       ·rw [List.getElem?_append_right (by rw [HL.out.2.2.2.1];exact h),HL.out.2.2.2.1] at hk
        have h0:k=i:=by
         have:=(List.getElem?_eq_some_iff.1 hk).1
         simp at this;omega
        subst h0
        simp at hk
        subst hk
        rw [if_pos rfl]
        have:=HR.out.2.1
        rw [HCJ.out] at this
        exact this
      ·exact (((HB3.out.2.set (.inl (by simp)) _).set (.inl (by simp)) _).set (.inl (by simp)) _).set (.inl (by simp)) _
   ·have hjn:j=n:=by omega
    subst hjn
    have hwl:without r0 (ks.take j)=without r0 ks:=by rw [←HN.out,List.take_length]
    rw [hwl] at HL
    clear hwl
    obtain ⟨w5,hrun,hu5,cs5,hb5,hl5,hk5⟩:=run_clear_rx HL.out.1 (o:=i*4) (n:=j-i) (c:=c-i) (by omega) (by
     have:=rows_length HL.out.2.1 j
     rw [List.length_append,this]
     have:=Nat.mul_le_mul_right 4 (show i+(j-i)≤j by omega)
     omega)
    have hrun':∀ ty,(Builtin.clear_ #[35] ty #[sliced (some ⟨g,0,none⟩) i j c 4]).run Tryz.prog wr=.ok (.tuple #[]) w5:=fun ty=>by
     rw [←hrun ty]
     unfold sliced
     rw [if_neg (show ¬ c=i by omega)]
     simp [addr_add]
    have HC5:=Lib.hid (And.intro hu5 (And.intro hb5 (And.intro hl5 hk5)))
    clear hrun hu5 hb5 hl5 hk5
    go_wp2_with fail
    go_ret
    refine ⟨.slice (some ⟨g,0,none⟩) i c,?_,?_,?_,rfl⟩
    ·show Ending.returned (sliced (some ⟨g,0,none⟩) 0 i c 4)=_
     unfold sliced
     rw [if_neg (show ¬ c=0 by omega)]
     simp [addr_add]
    ·have hrl:=rows_length HL.out.2.1 j
     have hcs5:cs5=rows i css2++cs5.drop (i*4):=by
      conv=>lhs;rw [←List.take_append_drop (i*4) cs5]
      congr 1
      rw [←rows_take HL.out.2.1 (show i≤j by omega)]
      apply List.ext_getElem?
      intro q
      rw [List.getElem?_take,List.getElem?_take]
      split
      ·rename_i hq
       rw [HC5.out.2.2.2 q hq,List.getElem?_append_left (by rw [hrl];omega)]
      ·rfl
     have hlc:(rows j css2++pad).length=c*4:=by
      have:=HS.out.2.2.1
      rw [List.length_append,rows_length HS.out.2.2.2.1] at this
      rw [List.length_append,hrl]
      exact this
     have hb5:=HC5.out.2.1
     rw [hcs5] at hb5
     refine OwR.of_blk hb5 (by rw [←hcs5,HC5.out.2.2.1,hlc]) HL.out.2.2.2.1.symm (by omega) hc2 HL.out.2.1 HS.out.2.1 (fun k x hk=>?_)
     exact (HL.out.2.2.2.2.1 k x hk).upd (HL.out.2.2.2.2.2.trans HC5.out.1) (by simp)
    ·simp only [Value.ownBlock,Option.toList_some]
     exact HL.out.2.2.2.2.2.trans HC5.out.1

end
end Rgx
end Go.Proofs.YtjclbjdkkdijbaaGreat
end
