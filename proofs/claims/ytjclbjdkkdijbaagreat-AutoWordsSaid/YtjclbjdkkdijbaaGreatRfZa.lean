/- Walks through the reference model of package regex: Nodes, good, Valid. Conditions: none. Walks through the reference model of package regex: Compare. Conditions: none. -/
import Derived.Test.YtjclbjdkkdijbaaGreatRxZa
import Derived.Test.YtjclbjdkkdijbaaGreatReg
set_option linter.unusedVariables false
set_option linter.unusedSimpArgs false
set_option linter.unusedSectionVars false
section
open Go.RowKit
namespace Go.Proofs.YtjclbjdkkdijbaaGreat
open L
namespace Rgx
open Rx
section
variable {w w':World} {v:Value}
set_option maxRecDepth 100000 in
set_option maxHeartbeats 8000000 in
theorem ret_bool' {a b:Bool} (h:a=b):Ending.returned (.bool a)=.returned (.bool b):=by rw [h]
set_option maxRecDepth 100000 in
set_option maxHeartbeats 8000000 in
theorem rnodes_calls:∀ (r:Rx) {w:World} {v:Value},RxV [] w r v→nodes r≤1000000→Calls Tryz.prog 128 #[v] w fun e w'=>e=.returned (.int .i64 (nodes r:Nat))∧Upd [] w w':=by
 intro r
 induction r using Rx.ind with
 | h k lo hi ks ih=>
  intro w v h hn
  obtain ⟨vk,rfl,hsc,hL⟩:=RxV.iff.1 h
  obtain ⟨a,c,rfl,q1,q2,_⟩:=hL.form
  rw [nodes] at hn
  have HL:=Lib.hid hL
  have HI:=Lib.hid ih
  have HN:=Lib.hid hn
  clear hL ih h hsc hn
  go_enter Tryz.func128,Tryz.ntmps128
  go_upto_region 1 with fail
  have b1:=Blk.new w (rxC k lo hi (.slice a ks.length c)) 25
  have u1:=(Upd.refl [] w).alloc (.cells (rxC k lo hi (.slice a ks.length c)).toArray 25)
  change Code.wp _ _ _ _ (w.alloc (.cells (rxC k lo hi (.slice a ks.length c)).toArray 25))
  generalize (w.alloc (.cells (rxC k lo hi (.slice a ks.length c)).toArray 25))=w1 at *
  have c3:=b1.cell (i:=3) rfl
  have HU:=Lib.hid u1
  clear b1 u1
  generalize w.heap.size=pb at *
  go_wp2_with fail
  go_loopw [3,4] (fun l i wr=>∃ m:Nat,i=.int .i64 m∧m≤ks.length∧l=.int .i64 ((1+nodesL (ks.take m):Nat):Int)∧∃ x:Ext w1,wr=x.val) (fun _ i _=>ks.length - (intOf i).toNat)
  case atStart=>exact ⟨0,rfl,Nat.zero_le _,rfl,Ext.of (by iterate 25 (first|exact Upd.refl _ _|assumption|refine Upd.alloc ?_ _|refine Upd.drew ?_|refine Upd.drewN ?_ _|refine Upd.dl ?_|refine Upd.step ?_ (Ext.upd _)|refine Upd.nil ?_|skip))⟩
  case round=>
   obtain ⟨m,rfl,hm,rfl,x,rfl⟩:=hrel
   by_cases hlt:m<ks.length
   ·have hli:(m:Int)<ks.length:=by omega
    have hr:=List.getElem?_eq_getElem hlt
    have hmem:=List.mem_of_getElem? hr
    have hts:=nodesL_take_succ hr
    have hle:nodesL (ks.take m)+nodes ks[m]≤1000000:=by
     have:=nodesL_take (m+1) ks
     have:=HN.out
     omega
    generalize ks[m]=r at *
    obtain ⟨g,off,a2,c2,rfl,hR,e0,e1,e2,e3⟩:=(HL.out.ext (HU.out.step x.upd)).kid hr
    have HR:=Lib.hid (And.intro hR (And.intro hmem hts))
    have hn1:=show nodes r≤1000000 by omega
    have hn2:((1+nodesL (ks.take m):Nat):Int)+(nodes r:Nat)≤1000001:=by omega
    have hn3:(0:Int)≤((1+nodesL (ks.take m):Nat):Int):=by omega
    have HE:=Lib.hid (show ((1+nodesL (ks.take (m+1)):Nat):Int)=((1+nodesL (ks.take m):Nat):Int)+(nodes r:Nat) by omega)
    have HC:=Lib.hid (HI.out r HR.out.2.1 (HR.out.1.val) hn1)
    clear hR hr hmem hts hle hn1
    generalize ((1+nodesL (ks.take m):Nat):Int)=l at *
    generalize nodes r=nr at *
    go_wp2_with (first|(with_reducible refine HC.out.mono ?_);rintro e _ ⟨rfl,hu⟩;obtain ⟨x2,rfl⟩:=Ext.of hu)
    refine ⟨⟨m+1,by go_num,by omega,?_,Ext.of (x.upd.step hu)⟩,by simp [intOf];omega⟩
    rw [HE.out]
   ·have hme:m=ks.length:=by omega
    subst hme
    rw [List.take_length]
    have HE:=Lib.hid (show ((nodes (nd k lo hi ks):Nat):Int)=((1+nodesL ks:Nat):Int) from by rw [nodes])
    generalize ((1+nodesL ks:Nat):Int)=l at *
    go_wp2_with fail
    go_ret
    exact ⟨ret_int HE.out.symm,HU.out.step x.upd⟩
def badK (k:Int) (n:Nat):Bool:=decide (k<0∨7<k) || (if k=0∨k=1∨k=2 then decide (0<n) else if k=6∨k=7 then decide (n≠1) else decide (64<n))
def badR (k lo hi:Int):Bool:=decide (hi<lo) || decide (k≠2∧0<hi)
theorem proper_bad {k lo hi:Int} {ks:List Rx} (hs:Sc k lo hi) (hn:ks.length≤64):proper (nd k lo hi ks)=(!badK k ks.length && (!badR k lo hi && properL ks)):=by
 obtain ⟨_,⟨h1,_⟩,h2,_⟩:=hs
 rw [proper]
 unfold badK badR
 rcases (by omega:(k<0∨7<k)∨k=0∨k=1∨k=2∨k=3∨k=4∨k=5∨k=6∨k=7) with h|rfl|rfl|rfl|rfl|rfl|rfl|rfl|rfl
 ·rw [if_neg (by omega),if_neg (by omega),if_neg (by omega),if_neg (by omega)]
  simp [h]
 all_goals
  cases ks with
  | nil=>
   simp [properL]
   try (rw [Bool.eq_iff_iff];simp;omega)
   try (rw [Bool.eq_iff_iff];simp)
  | cons a l=>
   simp at hn
   generalize properL (a::l)=p
   cases p <;> simp <;> (try (by_cases hl:l=[] <;> simp [hl])) <;> (try (rw [Bool.eq_iff_iff];simp;omega))
set_option maxRecDepth 100000 in
set_option maxHeartbeats 8000000 in
theorem good_calls:∀ (r:Rx) {w:World} {v:Value},RxV [] w r v→nodes r≤64→Calls Tryz.prog 129 #[v] w fun e w'=>e=.returned (.bool (proper r))∧Upd [] w w':=by
 intro r
 induction r using Rx.ind with
 | h k lo hi ks ih=>
  intro w v h hn
  obtain ⟨vk,rfl,hsc,hL⟩:=RxV.iff.1 h
  obtain ⟨a,c,rfl,q1,q2,_⟩:=id hL.form
  rw [nodes] at hn
  have hl64:ks.length≤64:=by have:=nodesL_len ks;omega
  have HP:=Lib.hid (proper_bad hsc hl64)
  have HL:=Lib.hid hL
  have HI:=Lib.hid ih
  have HN:=Lib.hid hn
  have HS:=Lib.hid hsc
  clear hL ih h hsc hn
  go_enter Tryz.func129,Tryz.ntmps129
  go_upto_region 1 with fail
  have b1:=Blk.new w (rxC k lo hi (.slice a ks.length c)) 25
  have u1:=(Upd.refl [] w).alloc (.cells (rxC k lo hi (.slice a ks.length c)).toArray 25)
  change Code.wp _ _ _ _ (w.alloc (.cells (rxC k lo hi (.slice a ks.length c)).toArray 25))
  generalize (w.alloc (.cells (rxC k lo hi (.slice a ks.length c)).toArray 25))=w1 at *
  generalize w.heap.size=pb at *
  go_upto_region 2 with fail
  have bm:=Blk.new w1 [.int .i64 0,.int .i64 0,.int .i64 0,.int .i64 64,.int .i64 64,.int .i64 64,.int .i64 1,.int .i64 1] 3
  have um:=(Upd.refl [] w1).alloc (.cells #[.int .i64 0,.int .i64 0,.int .i64 0,.int .i64 64,.int .i64 64,.int .i64 64,.int .i64 1,.int .i64 1] 3)
  change Code.wp _ _ _ _ (w1.alloc (.cells #[.int .i64 0,.int .i64 0,.int .i64 0,.int .i64 64,.int .i64 64,.int .i64 64,.int .i64 1,.int .i64 1] 3))
  change Blk (w1.alloc (.cells #[.int .i64 0,.int .i64 0,.int .i64 0,.int .i64 64,.int .i64 64,.int .i64 64,.int .i64 1,.int .i64 1] 3)) _ _ _ at bm
  generalize (w1.alloc (.cells #[.int .i64 0,.int .i64 0,.int .i64 0,.int .i64 64,.int .i64 64,.int .i64 64,.int .i64 1,.int .i64 1] 3))=w2 at *
  generalize w1.heap.size=mb at *
  go_upto_region 3 with fail
  have bl:=Blk.new w2 [.int .i64 0,.int .i64 0,.int .i64 0,.int .i64 0,.int .i64 0,.int .i64 0,.int .i64 1,.int .i64 1] 3
  have ul:=(Upd.refl [] w2).alloc (.cells #[.int .i64 0,.int .i64 0,.int .i64 0,.int .i64 0,.int .i64 0,.int .i64 0,.int .i64 1,.int .i64 1] 3)
  change Code.wp _ _ _ _ (w2.alloc (.cells #[.int .i64 0,.int .i64 0,.int .i64 0,.int .i64 0,.int .i64 0,.int .i64 0,.int .i64 1,.int .i64 1] 3))
  change Blk (w2.alloc (.cells #[.int .i64 0,.int .i64 0,.int .i64 0,.int .i64 0,.int .i64 0,.int .i64 0,.int .i64 1,.int .i64 1] 3)) _ _ _ at bl
  generalize (w2.alloc (.cells #[.int .i64 0,.int .i64 0,.int .i64 0,.int .i64 0,.int .i64 0,.int .i64 0,.int .i64 1,.int .i64 1] 3))=w3 at *
  generalize w2.heap.size=lb at *
  have b1:=(b1.upd um (by simp)).upd ul (by simp)
  have bm:=bm.upd ul (by simp)
  have HU:=Lib.hid ((u1.step um).step ul)
  have c0:=b1.cell (i:=0) rfl
  have c1:=b1.cell (i:=1) rfl
  have c2:=b1.cell (i:=2) rfl
  have c3:=b1.cell (i:=3) rfl
  have HM:=Lib.hid (And.intro bm bl)
  clear b1 bm bl u1 um ul
  by_cases hk0:k<0
  ·have HH:=Lib.hid (show proper (nd k lo hi ks)=false by rw [HP.out];unfold badK;simp [hk0])
   have hd0:decide (k<0)=true:=by simp [hk0]
   clear HP
   go_wp2_with fail
   refine wp_region_qx (by kernel_rfl) (by kernel_rfl) ?_
   repeat (go_big_quiet_step ((fail)))
   refine wpQuiet_nil ?_
   intro x
   go_wp2_with fail
   go_ret
   exact ⟨ret_bool' HH.out.symm,HU.out.step x.upd⟩
  have hd0:decide (k<0)=false:=by simpa using hk0
  by_cases hk7:7<k
  ·have HH:=Lib.hid (show proper (nd k lo hi ks)=false by rw [HP.out];unfold badK;simp [hk7])
   have hd7:decide (7<k)=true:=by simpa using hk7
   clear HP
   go_wp2_with fail
   refine wp_region_qx (by kernel_rfl) (by kernel_rfl) ?_
   repeat (go_big_quiet_step ((fail)))
   refine wpQuiet_nil ?_
   intro x
   go_wp2_with fail
   go_ret
   exact ⟨ret_bool' HH.out.symm,HU.out.step x.upd⟩
  go_cut [38] (fun t w'=>t=.bool (badK k ks.length)∧Upd [] w3 w')
  case first=>
   clear HP HL HI
   generalize hbk:badK k ks.length=bk at *
   have m0:=HM.out.1.cell (i:=0) rfl
   have m1:=HM.out.1.cell (i:=1) rfl
   have m2:=HM.out.1.cell (i:=2) rfl
   have m3:=HM.out.1.cell (i:=3) rfl
   have m4:=HM.out.1.cell (i:=4) rfl
   have m5:=HM.out.1.cell (i:=5) rfl
   have m6:=HM.out.1.cell (i:=6) rfl
   have m7:=HM.out.1.cell (i:=7) rfl
   have l0:=HM.out.2.cell (i:=0) rfl
   have l1:=HM.out.2.cell (i:=1) rfl
   have l2:=HM.out.2.cell (i:=2) rfl
   have l3:=HM.out.2.cell (i:=3) rfl
   have l4:=HM.out.2.cell (i:=4) rfl
   have l5:=HM.out.2.cell (i:=5) rfl
   have l6:=HM.out.2.cell (i:=6) rfl
   have l7:=HM.out.2.cell (i:=7) rfl
   clear hd0
   have hm0:decide ((ks.length:Int)<0)=false:=by simp
   rcases (by omega:k=0∨k=1∨k=2∨k=3∨k=4∨k=5∨k=6∨k=7) with rfl|rfl|rfl|rfl|rfl|rfl|rfl|rfl
   ·by_cases hn:0<ks.length
    ·have hm1:decide ((0:Int)<(ks.length:Int))=true:=by simpa using hn
     have HV:=Lib.hid (show bk=true by rw [←hbk];unfold badK;simp [hn])
     have HNN:=Lib.hid hn
     clear hbk hn
     go_wp2_with fail
     refine wp_region_qx (by kernel_rfl) (by kernel_rfl) ?_
     repeat (go_big_quiet_step ((fail)))
     refine wpQuiet_nil ?_
     intro x
     go_wp2_with fail
     go_meet
     case rel=>exact ⟨congrArg Value.bool (by first|exact HV.out.symm|(rw [HV.out];done)|(rw [HV.out];exact decide_eq_true HNN.out)|(rw [HV.out];exact decide_eq_false HNN.out)),x.upd⟩
    ·have hm1:decide ((0:Int)<(ks.length:Int))=false:=by simpa using hn
     have HV:=Lib.hid (show bk=false by rw [←hbk];unfold badK;simp at hn;simp [hn])
     have HNN:=Lib.hid hn
     clear hbk hn
     go_wp2_with fail
     refine wp_region_qx (by kernel_rfl) (by kernel_rfl) ?_
     repeat (go_big_quiet_step ((fail)))
     refine wpQuiet_nil ?_
     intro x
     go_wp2_with fail
     go_meet
     case rel=>exact ⟨congrArg Value.bool (by first|exact HV.out.symm|(rw [HV.out];done)|(rw [HV.out];exact decide_eq_true HNN.out)|(rw [HV.out];exact decide_eq_false HNN.out)),x.upd⟩
   ·by_cases hn:0<ks.length
    ·have hm1:decide ((0:Int)<(ks.length:Int))=true:=by simpa using hn
     have HV:=Lib.hid (show bk=true by rw [←hbk];unfold badK;simp [hn])
     have HNN:=Lib.hid hn
     clear hbk hn
     go_wp2_with fail
     refine wp_region_qx (by kernel_rfl) (by kernel_rfl) ?_
     repeat (go_big_quiet_step ((fail)))
     refine wpQuiet_nil ?_
     intro x
     go_wp2_with fail
     go_meet
     case rel=>exact ⟨congrArg Value.bool (by first|exact HV.out.symm|(rw [HV.out];done)|(rw [HV.out];exact decide_eq_true HNN.out)|(rw [HV.out];exact decide_eq_false HNN.out)),x.upd⟩
    ·have hm1:decide ((0:Int)<(ks.length:Int))=false:=by simpa using hn
     have HV:=Lib.hid (show bk=false by rw [←hbk];unfold badK;simp at hn;simp [hn])
     have HNN:=Lib.hid hn
     clear hbk hn
     go_wp2_with fail
     refine wp_region_qx (by kernel_rfl) (by kernel_rfl) ?_
     repeat (go_big_quiet_step ((fail)))
     refine wpQuiet_nil ?_
     intro x
     go_wp2_with fail
     go_meet
     case rel=>exact ⟨congrArg Value.bool (by first|exact HV.out.symm|(rw [HV.out];done)|(rw [HV.out];exact decide_eq_true HNN.out)|(rw [HV.out];exact decide_eq_false HNN.out)),x.upd⟩
   ·by_cases hn:0<ks.length
    ·have hm1:decide ((0:Int)<(ks.length:Int))=true:=by simpa using hn
     have HV:=Lib.hid (show bk=true by rw [←hbk];unfold badK;simp [hn])
     have HNN:=Lib.hid hn
     clear hbk hn
     go_wp2_with fail
     refine wp_region_qx (by kernel_rfl) (by kernel_rfl) ?_
     repeat (go_big_quiet_step ((fail)))
     refine wpQuiet_nil ?_
     intro x
     go_wp2_with fail
     go_meet
     case rel=>exact ⟨congrArg Value.bool (by first|exact HV.out.symm|(rw [HV.out];done)|(rw [HV.out];exact decide_eq_true HNN.out)|(rw [HV.out];exact decide_eq_false HNN.out)),x.upd⟩
    ·have hm1:decide ((0:Int)<(ks.length:Int))=false:=by simpa using hn
     have HV:=Lib.hid (show bk=false by rw [←hbk];unfold badK;simp at hn;simp [hn])
     have HNN:=Lib.hid hn
     clear hbk hn
     go_wp2_with fail
     refine wp_region_qx (by kernel_rfl) (by kernel_rfl) ?_
     repeat (go_big_quiet_step ((fail)))
     refine wpQuiet_nil ?_
     intro x
     go_wp2_with fail
     go_meet
     case rel=>exact ⟨congrArg Value.bool (by first|exact HV.out.symm|(rw [HV.out];done)|(rw [HV.out];exact decide_eq_true HNN.out)|(rw [HV.out];exact decide_eq_false HNN.out)),x.upd⟩
   ·have hm1:decide ((64:Int)<(ks.length:Int))=false:=by simp;omega
    have HV:=Lib.hid (show bk=false by rw [←hbk];unfold badK;simp;omega)
    have HNN:=Lib.hid hl64
    clear hbk
    go_wp2_with fail
    refine wp_region_qx (by kernel_rfl) (by kernel_rfl) ?_
    repeat (go_big_quiet_step ((fail)))
    refine wpQuiet_nil ?_
    intro x
    go_wp2_with fail
    go_meet
    case rel=>exact ⟨congrArg Value.bool (by first|exact HV.out.symm|(rw [HV.out];done)|(rw [HV.out];exact decide_eq_true HNN.out)|(rw [HV.out];exact decide_eq_false HNN.out)),x.upd⟩
   ·have hm1:decide ((64:Int)<(ks.length:Int))=false:=by simp;omega
    have HV:=Lib.hid (show bk=false by rw [←hbk];unfold badK;simp;omega)
    have HNN:=Lib.hid hl64
    clear hbk
    go_wp2_with fail
    refine wp_region_qx (by kernel_rfl) (by kernel_rfl) ?_
    repeat (go_big_quiet_step ((fail)))
    refine wpQuiet_nil ?_
    intro x
    go_wp2_with fail
    go_meet
    case rel=>exact ⟨congrArg Value.bool (by first|exact HV.out.symm|(rw [HV.out];done)|(rw [HV.out];exact decide_eq_true HNN.out)|(rw [HV.out];exact decide_eq_false HNN.out)),x.upd⟩
   ·have hm1:decide ((64:Int)<(ks.length:Int))=false:=by simp;omega
    have HV:=Lib.hid (show bk=false by rw [←hbk];unfold badK;simp;omega)
    have HNN:=Lib.hid hl64
    clear hbk
    go_wp2_with fail
    refine wp_region_qx (by kernel_rfl) (by kernel_rfl) ?_
    repeat (go_big_quiet_step ((fail)))
    refine wpQuiet_nil ?_
    intro x
    go_wp2_with fail
    go_meet
    case rel=>exact ⟨congrArg Value.bool (by first|exact HV.out.symm|(rw [HV.out];done)|(rw [HV.out];exact decide_eq_true HNN.out)|(rw [HV.out];exact decide_eq_false HNN.out)),x.upd⟩
   ·rcases (by omega:ks.length<1∨ks.length=1∨1<ks.length) with hn|hn|hn
    ·have hm1:decide ((ks.length:Int)<1)=true:=by simp;omega
     have HV:=Lib.hid (show bk=true by rw [←hbk];unfold badK;simp;omega)
     have HNN:=Lib.hid hn
     clear hbk hn
     go_wp2_with fail
     refine wp_region_qx (by kernel_rfl) (by kernel_rfl) ?_
     repeat (go_big_quiet_step ((fail)))
     refine wpQuiet_nil ?_
     intro x
     go_wp2_with fail
     go_meet
     case rel=>exact ⟨congrArg Value.bool (by first|exact HV.out.symm|(rw [HV.out];done)|(rw [HV.out];exact decide_eq_true HNN.out)|(rw [HV.out];exact decide_eq_false HNN.out)),x.upd⟩
    ·have hm1:decide ((ks.length:Int)<1)=false:=by simp;omega
     have hm2:decide ((1:Int)<(ks.length:Int))=false:=by simp;omega
     have HV:=Lib.hid (show bk=false by rw [←hbk];unfold badK;simp [hn])
     have HNN:=Lib.hid hn
     clear hbk hn
     go_wp2_with fail
     refine wp_region_qx (by kernel_rfl) (by kernel_rfl) ?_
     repeat (go_big_quiet_step ((fail)))
     refine wpQuiet_nil ?_
     intro x
     go_wp2_with fail
     go_meet
     case rel=>exact ⟨congrArg Value.bool (by first|exact HV.out.symm|(rw [HV.out];done)|(rw [HV.out];exact decide_eq_true HNN.out)|(rw [HV.out];exact decide_eq_false HNN.out)),x.upd⟩
    ·have hm1:decide ((ks.length:Int)<1)=false:=by simp;omega
     have hm2:decide ((1:Int)<(ks.length:Int))=true:=by simp;omega
     have HV:=Lib.hid (show bk=true by rw [←hbk];unfold badK;simp;omega)
     have HNN:=Lib.hid hn
     clear hbk hn
     go_wp2_with fail
     refine wp_region_qx (by kernel_rfl) (by kernel_rfl) ?_
     repeat (go_big_quiet_step ((fail)))
     refine wpQuiet_nil ?_
     intro x
     go_wp2_with fail
     go_meet
     case rel=>exact ⟨congrArg Value.bool (by first|exact HV.out.symm|(rw [HV.out];done)|(rw [HV.out];exact decide_eq_true HNN.out)|(rw [HV.out];exact decide_eq_false HNN.out)),x.upd⟩
   ·rcases (by omega:ks.length<1∨ks.length=1∨1<ks.length) with hn|hn|hn
    ·have hm1:decide ((ks.length:Int)<1)=true:=by simp;omega
     have HV:=Lib.hid (show bk=true by rw [←hbk];unfold badK;simp;omega)
     have HNN:=Lib.hid hn
     clear hbk hn
     go_wp2_with fail
     refine wp_region_qx (by kernel_rfl) (by kernel_rfl) ?_
     repeat (go_big_quiet_step ((fail)))
     refine wpQuiet_nil ?_
     intro x
     go_wp2_with fail
     go_meet
     case rel=>exact ⟨congrArg Value.bool (by first|exact HV.out.symm|(rw [HV.out];done)|(rw [HV.out];exact decide_eq_true HNN.out)|(rw [HV.out];exact decide_eq_false HNN.out)),x.upd⟩
    ·have hm1:decide ((ks.length:Int)<1)=false:=by simp;omega
     have hm2:decide ((1:Int)<(ks.length:Int))=false:=by simp;omega
     have HV:=Lib.hid (show bk=false by rw [←hbk];unfold badK;simp [hn])
     have HNN:=Lib.hid hn
     clear hbk hn
     go_wp2_with fail
     refine wp_region_qx (by kernel_rfl) (by kernel_rfl) ?_
     repeat (go_big_quiet_step ((fail)))
     refine wpQuiet_nil ?_
     intro x
     go_wp2_with fail
     go_meet
     case rel=>exact ⟨congrArg Value.bool (by first|exact HV.out.symm|(rw [HV.out];done)|(rw [HV.out];exact decide_eq_true HNN.out)|(rw [HV.out];exact decide_eq_false HNN.out)),x.upd⟩
    ·have hm1:decide ((ks.length:Int)<1)=false:=by simp;omega
     have hm2:decide ((1:Int)<(ks.length:Int))=true:=by simp;omega
     have HV:=Lib.hid (show bk=true by rw [←hbk];unfold badK;simp;omega)
     have HNN:=Lib.hid hn
     clear hbk hn
     go_wp2_with fail
     refine wp_region_qx (by kernel_rfl) (by kernel_rfl) ?_
     repeat (go_big_quiet_step ((fail)))
     refine wpQuiet_nil ?_
     intro x
     go_wp2_with fail
     go_meet
     case rel=>exact ⟨congrArg Value.bool (by first|exact HV.out.symm|(rw [HV.out];done)|(rw [HV.out];exact decide_eq_true HNN.out)|(rw [HV.out];exact decide_eq_false HNN.out)),x.upd⟩
  case rest=>
  obtain ⟨rfl,u4⟩:=hcut
  have HU:=Lib.hid (HU.out.step u4)
  have c0:=u4.some c0 (by simp)
  have c1:=u4.some c1 (by simp)
  have c2:=u4.some c2 (by simp)
  have c3:=u4.some c3 (by simp)
  clear u4
  generalize badK k ks.length=bk at *
  cases bk with
  | true=>
   go_wp2_with fail
   go_ret
   exact ⟨ret_bool' (by rw [HP.out];simp),HU.out⟩
  | false=>
   go_upto_region 5 with fail
   have HSS:=Lib.hid (And.intro hk0 hk7)
   clear hk0 hk7 hd0
   go_cut [53] (fun t w'=>t=.bool (badR k lo hi)∧w'=wc)
   case first=>
    clear HP HL HI
    generalize hbk:badR k lo hi=bk at *
    by_cases h1:hi<lo
    ·have HV:=Lib.hid (show bk=true by rw [←hbk];unfold badR;simp [h1])
     have hd:decide (hi<lo)=true:=by simpa using h1
     clear hbk h1
     go_wp2_with fail
     go_meet
     case rel=>exact ⟨congrArg Value.bool HV.out.symm,rfl⟩
    ·have hd:decide (hi<lo)=false:=by simpa using h1
     by_cases h2:k=2
     ·have hn2:(k != 2)=false:=by simpa using h2
      have HV:=Lib.hid (show bk=false by rw [←hbk];unfold badR;simp [h2];omega)
      clear hbk h1 h2
      go_wp2_with fail
      go_meet
      case rel=>exact ⟨congrArg Value.bool HV.out.symm,rfl⟩
     ·have hn2:(k != 2)=true:=by simpa using h2
      by_cases h3:0<hi
      ·have hd3:decide (0<hi)=true:=by simpa using h3
       have HV:=Lib.hid (show bk=true by rw [←hbk];unfold badR;simp [h2,h3])
       clear hbk h1 h2 h3
       go_wp2_with fail
       go_meet
       case rel=>exact ⟨congrArg Value.bool HV.out.symm,rfl⟩
      ·have hd3:decide (0<hi)=false:=by simpa using h3
       have HV:=Lib.hid (show bk=false by rw [←hbk];unfold badR;simp [h2];omega)
       clear hbk h1 h2 h3
       go_wp2_with fail
       go_meet
       case rel=>exact ⟨congrArg Value.bool HV.out.symm,rfl⟩
   case rest=>
   obtain ⟨rfl,rfl⟩:=hcut
   generalize badR k lo hi=bk at *
   cases bk with
   | true=>
    go_wp2_with fail
    go_ret
    exact ⟨ret_bool' (by rw [HP.out];simp),HU.out⟩
   | false=>
    have HPP:=Lib.hid (show proper (nd k lo hi ks)=properL ks by rw [HP.out];simp)
    clear HP
    go_wp2_with fail
    go_loopw [5] (fun i wr=>∃ m:Nat,i=.int .i64 m∧m≤ks.length∧properL (ks.take m)=true∧∃ x:Ext wc,wr=x.val) (fun i _=>ks.length - (intOf i).toNat)
    case atStart=>exact ⟨0,rfl,Nat.zero_le _,rfl,Ext.of (by iterate 25 (first|exact Upd.refl _ _|assumption|refine Upd.alloc ?_ _|refine Upd.drew ?_|refine Upd.drewN ?_ _|refine Upd.dl ?_|refine Upd.step ?_ (Ext.upd _)|refine Upd.nil ?_|skip))⟩
    case round=>
     obtain ⟨m,rfl,hm,hp,x,rfl⟩:=hrel
     have HPM:=Lib.hid hp
     clear hp
     by_cases hlt:m<ks.length
     ·have hli:(m:Int)<ks.length:=by omega
      have hr:=List.getElem?_eq_getElem hlt
      have hmem:=List.mem_of_getElem? hr
      generalize ks[m]=r at *
      obtain ⟨g,off,a2,c2,rfl,hRF,e0,e1,e2,e3⟩:=(HL.out.ext (HU.out.step x.upd)).kid hr
      have hn1:nodes r≤64:=by have:=nodesL_mem hmem;have:=HN.out;omega
      have HRR:=Lib.hid (And.intro hRF (And.intro hmem hr))
      have HC:=Lib.hid (HI.out r hmem (hRF.val) hn1)
      clear hRF hr hmem hn1
      cases hpr:proper r with
      | true=>
       rw [hpr] at HC
       have HQ:=Lib.hid (properL_take_succ HRR.out.2.2 HPM.out hpr)
       clear hpr
       go_wp2_with (first|(with_reducible refine HC.out.mono ?_);rintro e w4 ⟨rfl,hu⟩)
       exact ⟨⟨m+1,by go_num,by omega,HQ.out,Ext.of (x.upd.step hu)⟩,by simp [intOf];omega⟩
      | false=>
       rw [hpr] at HC
       have HQ:=Lib.hid (properL_bad HRR.out.2.2 hpr)
       clear hpr
       go_wp2_with (first|(with_reducible refine HC.out.mono ?_);rintro e w4 ⟨rfl,hu⟩)
       go_ret
       rw [HPP.out,HQ.out]
       exact ⟨rfl,(HU.out.step x.upd).step hu⟩
     ·have hme:m=ks.length:=by omega
      subst hme
      rw [List.take_length] at HPM
      go_wp2_with fail
      go_ret
      rw [HPP.out,HPM.out]
      exact ⟨rfl,HU.out.step x.upd⟩
set_option maxRecDepth 100000 in
set_option maxHeartbeats 8000000 in
theorem rvalid_calls {r:Rx} (h:RxV [] w r v) (hn:nodes r≤1000000):Calls Tryz.prog 91 #[v] w fun e w'=>e=.returned (.int .i64 (vErr r))∧Upd [] w w':=by
 have HC:=Lib.hid (fun (w':World) (u:Upd [] w w')=>rnodes_calls r (h.ext u) hn)
 have HP:=Lib.hid (fun (w':World) (u:Upd [] w w') hn=>good_calls r (h.ext u) hn)
 obtain ⟨vk,rfl,_,_⟩:=box_load h
 clear h hn
 go_enter Tryz.func91,Tryz.ntmps91
 go_upto_region 1 with fail
 have b1:=Blk.new w (rxC r.kind r.lo r.hi vk) 25
 have u1:=(Upd.refl [] w).alloc (.cells (rxC r.kind r.lo r.hi vk).toArray 25)
 change Code.wp _ _ _ _ (w.alloc (.cells (rxC r.kind r.lo r.hi vk).toArray 25))
 generalize (w.alloc (.cells (rxC r.kind r.lo r.hi vk).toArray 25))=w1 at *
 have c0:=b1.cell (i:=0) rfl
 have c1:=b1.cell (i:=1) rfl
 have c2:=b1.cell (i:=2) rfl
 have c3:=b1.cell (i:=3) rfl
 have HU:=Lib.hid u1
 clear b1 u1
 have HX:=Lib.hid (HC.out w1 HU.out)
 generalize w.heap.size=pb at *
 by_cases hn:64<nodes r
 ·have hni:(64:Int)<(nodes r:Nat):=by omega
  have HN:=Lib.hid hn
  clear hn
  generalize ((nodes r:Nat):Int)=nr at *
  go_wp2_with (first|(with_reducible refine HX.out.mono ?_);rintro e w2 ⟨rfl,hu⟩)
  go_ret
  rw [vErr,if_pos HN.out]
  exact ⟨rfl,HU.out.step hu⟩
 ·have hni:¬ (64:Int)<(nodes r:Nat):=by omega
  have HN:=Lib.hid hn
  clear hn
  generalize ((nodes r:Nat):Int)=nr at *
  go_upto_region 3 with (first|(with_reducible refine HX.out.mono ?_);rintro e _ ⟨rfl,hu⟩;obtain ⟨x,rfl⟩:=Ext.of hu)
  have HY:=Lib.hid (HP.out _ (HU.out.step x.upd) (by have:=HN.out;omega))
  cases hp:proper r with
  | true=>
   rw [hp] at HY
   have HE:=Lib.hid hp
   clear hp
   go_wp2_with (first|(with_reducible refine HY.out.mono ?_);rintro e w2 ⟨rfl,hu2⟩)
   go_ret
   rw [vErr,if_neg HN.out,HE.out]
   exact ⟨rfl,(HU.out.step x.upd).step hu2⟩
  | false=>
   rw [hp] at HY
   have HE:=Lib.hid hp
   clear hp
   go_wp2_with (first|(with_reducible refine HY.out.mono ?_);rintro e w2 ⟨rfl,hu2⟩)
   go_ret
   rw [vErr,if_neg HN.out,HE.out]
   exact ⟨rfl,(HU.out.step x.upd).step hu2⟩
end
end Rgx
end Go.Proofs.YtjclbjdkkdijbaaGreat
end
section
open Go.RowKit
namespace Go.Proofs.YtjclbjdkkdijbaaGreat
open L
namespace Rgx
open Rx
def fld (a:Rx) (k:Nat):Int:=if k=0 then a.kind else if k=1 then a.lo else a.hi
theorem fld_lt {a b:Rx} {k:Nat} (hk:k<3) (h:∀ j,j<k→fld a j=fld b j) (hl:fld a k<fld b k):cmpR a b=-1:=by
 obtain ⟨k1,lo,hi,ks⟩:=a
 obtain ⟨k2,lo2,hi2,ks2⟩:=b
 have e0:0<k→k1=k2:=fun h0=>h 0 h0
 have e1:1<k→lo=lo2:=fun h0=>h 1 h0
 rw [cmpR]
 rcases (by omega:k=0∨k=1∨k=2) with rfl|rfl|rfl
 ·have:k1<k2:=hl
  simp [cmpI,this]
 ·have:lo<lo2:=hl
  have:=e0 (by omega);subst this
  simp [cmpI, *]
 ·have:hi<hi2:=hl
  have:=e0 (by omega);subst this
  have:=e1 (by omega);subst this
  simp [cmpI, *]
theorem fld_gt {a b:Rx} {k:Nat} (hk:k<3) (h:∀ j,j<k→fld a j=fld b j) (hl:fld b k<fld a k):cmpR a b=1:=by
 have:=fld_lt hk (fun j hj=>(h j hj).symm) hl
 have:=cmpR_neg a b
 omega
theorem fld_eq {a b:Rx} (h:∀ j,j<3→fld a j=fld b j):cmpR a b=cmpL a.kids b.kids:=by
 obtain ⟨k1,lo,hi,ks⟩:=a
 obtain ⟨k2,lo2,hi2,ks2⟩:=b
 have e0:k1=k2:=h 0 (by omega)
 have e1:lo=lo2:=h 1 (by omega)
 have e2:hi=hi2:=h 2 (by omega)
 subst e0 e1 e2
 rw [cmpR]
 simp [cmpI,Rx.kids]
theorem wrap_u8 {x:Int} (h:0≤x∧x≤255):wrap64 x=x:=by unfold Go.RowKit.wrap64;omega
section
variable {w w':World} {v:Value}
set_option maxRecDepth 100000 in
set_option maxHeartbeats 8000000 in
theorem rcmp_calls:∀ (a b:Rx) {w:World} {va vb:Value},RxV [] w a va→RxV [] w b vb→Calls Tryz.prog 95 #[va,vb] w fun e w'=>e=.returned (.int .i64 (cmpR a b))∧Upd [] w w':=by
 intro a
 induction a using Rx.ind with
 | h ak alo ahi aks ih=>
  intro b w va vb ha hb
  have HI:=Lib.hid ih
  generalize hA:nd ak alo ahi aks=a at *
  have hk:a.kids=aks:=by rw [←hA];rfl
  rw [←hk] at HI
  clear hk hA ih
  obtain ⟨vk,rfl,sa,hL⟩:=box_load ha
  obtain ⟨vm,rfl,sb,hM⟩:=box_load hb
  have wa1:wrap64 a.lo=a.lo:=wrap_u8 sa.2.1
  have wa2:wrap64 a.hi=a.hi:=wrap_u8 sa.2.2
  have wb1:wrap64 b.lo=b.lo:=wrap_u8 sb.2.1
  have wb2:wrap64 b.hi=b.hi:=wrap_u8 sb.2.2
  clear sa sb
  obtain ⟨p,cp,rfl,q1,q2,_⟩:=id hL.form
  obtain ⟨s,cs,rfl,p1,p2,_⟩:=id hM.form
  have HL:=Lib.hid (And.intro hL hM)
  clear ha hb hL hM
  go_enter Tryz.func95,Tryz.ntmps95
  go_upto_region 1 with fail
  have bA:=Blk.new w (rxC a.kind a.lo a.hi (.slice p a.kids.length cp)) 25
  have uA:=(Upd.refl [] w).alloc (.cells (rxC a.kind a.lo a.hi (.slice p a.kids.length cp)).toArray 25)
  have bB:=Blk.new (w.alloc (.cells (rxC a.kind a.lo a.hi (.slice p a.kids.length cp)).toArray 25)) (rxC b.kind b.lo b.hi (.slice s b.kids.length cs)) 25
  have uB:=uA.alloc (.cells (rxC b.kind b.lo b.hi (.slice s b.kids.length cs)).toArray 25)
  have bA:=bA.alloc (.cells (rxC b.kind b.lo b.hi (.slice s b.kids.length cs)).toArray 25)
  rw [show (w.alloc (.cells (rxC a.kind a.lo a.hi (.slice p a.kids.length cp)).toArray 25)).heap.size=w.heap.size+1 by simp] at bB
  change Code.wp _ _ _ _ ((w.alloc (.cells (rxC a.kind a.lo a.hi (.slice p a.kids.length cp)).toArray 25)).alloc (.cells (rxC b.kind b.lo b.hi (.slice s b.kids.length cs)).toArray 25))
  generalize ((w.alloc (.cells (rxC a.kind a.lo a.hi (.slice p a.kids.length cp)).toArray 25)).alloc (.cells (rxC b.kind b.lo b.hi (.slice s b.kids.length cs)).toArray 25))=w1 at *
  generalize w.heap.size+1=pb at *
  generalize w.heap.size=pa at *
  have c0:=bA.cell (i:=0) rfl
  have c1:=bA.cell (i:=1) rfl
  have c2:=bA.cell (i:=2) rfl
  have c3:=bA.cell (i:=3) rfl
  have d0:=bB.cell (i:=0) rfl
  have d1:=bB.cell (i:=1) rfl
  have d2:=bB.cell (i:=2) rfl
  have d3:=bB.cell (i:=3) rfl
  have HU:=Lib.hid uB
  clear bA bB uA uB
  go_upto_region 2 with fail
  have bx:=Blk.new w1 [.int .i64 a.kind,.int .i64 a.lo,.int .i64 a.hi] 3
  have ux:=(Upd.refl [] w1).alloc (.cells #[.int .i64 a.kind,.int .i64 a.lo,.int .i64 a.hi] 3)
  change Code.wp _ _ _ _ (w1.alloc (.cells #[.int .i64 a.kind,.int .i64 a.lo,.int .i64 a.hi] 3))
  change Blk (w1.alloc (.cells #[.int .i64 a.kind,.int .i64 a.lo,.int .i64 a.hi] 3)) _ _ _ at bx
  generalize (w1.alloc (.cells #[.int .i64 a.kind,.int .i64 a.lo,.int .i64 a.hi] 3))=w2 at *
  generalize w1.heap.size=xb at *
  have c3:=ux.some c3 (by simp)
  have d0:=ux.some d0 (by simp)
  have d1:=ux.some d1 (by simp)
  have d2:=ux.some d2 (by simp)
  have d3:=ux.some d3 (by simp)
  have HU:=Lib.hid (HU.out.step ux)
  have HBX:=Lib.hid bx
  clear ux bx wa1 wa2 c0 c1 c2
  go_upto_region 3 with fail
  have by_:=Blk.new w2 [.int .i64 b.kind,.int .i64 b.lo,.int .i64 b.hi] 3
  have uy:=(Upd.refl [] w2).alloc (.cells #[.int .i64 b.kind,.int .i64 b.lo,.int .i64 b.hi] 3)
  change Code.wp _ _ _ _ (w2.alloc (.cells #[.int .i64 b.kind,.int .i64 b.lo,.int .i64 b.hi] 3))
  change Blk (w2.alloc (.cells #[.int .i64 b.kind,.int .i64 b.lo,.int .i64 b.hi] 3)) _ _ _ at by_
  generalize (w2.alloc (.cells #[.int .i64 b.kind,.int .i64 b.lo,.int .i64 b.hi] 3))=w3 at *
  generalize w2.heap.size=yb at *
  have c3:=uy.some c3 (by simp)
  have d3:=uy.some d3 (by simp)
  have HU:=Lib.hid (HU.out.step uy)
  have HX:=Lib.hid (fun k (hk:k<3)=>show w3.cell? ⟨xb,k,none⟩=some (.int .i64 (fld a k)) from (HBX.out.upd uy (by simp)).cell (by rcases (by omega:k=0∨k=1∨k=2) with rfl|rfl|rfl <;> rfl))
  have HY:=Lib.hid (fun k (hk:k<3)=>show w3.cell? ⟨yb,k,none⟩=some (.int .i64 (fld b k)) from by_.cell (by rcases (by omega:k=0∨k=1∨k=2) with rfl|rfl|rfl <;> rfl))
  clear uy by_ wb1 wb2 d0 d1 d2 HBX
  go_wp2_with fail
  go_loopw [7] (fun i wr=>∃ k:Nat,i=.int .i64 k∧k≤3∧Hid ((∀ j,j<k→fld a j=fld b j)∧Upd [] w3 wr)) (fun i _=>3 - (intOf i).toNat)
  case atStart=>exact ⟨0,rfl,Nat.zero_le _,Lib.hid ⟨fun j h=>by omega,Upd.refl _ _⟩⟩
  case round=>
   obtain ⟨k,rfl,hk,HE⟩:=hrel
   by_cases hlt:k<3
   ·have hli:(k:Int)<3:=by omega
    have x1:=HE.out.2.some (HX.out k hlt) (by simp)
    have y1:=HE.out.2.some (HY.out k hlt) (by simp)
    rcases (by omega:fld a k<fld b k∨fld a k=fld b k∨fld b k<fld a k) with h|h|h
    ·have HR:=Lib.hid (fld_lt hlt HE.out.1 h)
     have hd:decide (fld a k<fld b k)=true:=by simpa using h
     generalize fld a k=fa at *
     generalize fld b k=fb at *
     go_wp2_with fail
     refine wp_region_qx (by kernel_rfl) (by kernel_rfl) ?_
     repeat (go_big_quiet_step ((fail)))
     refine wpQuiet_nil ?_
     intro x
     go_wp2_with fail
     go_ret
     exact ⟨ret_int HR.out.symm,(HU.out.step HE.out.2).step x.upd⟩
    ·have HR:=Lib.hid (show ∀ j,j<k+1→fld a j=fld b j from fun j hj=>by
      by_cases hjk:j=k
      ·rw [hjk];exact h
      ·exact HE.out.1 j (by omega))
     rw [h] at x1
     clear h
     generalize fld b k=fb at *
     go_wp2_with fail
     refine wp_region_qx (by kernel_rfl) (by kernel_rfl) ?_
     repeat (go_big_quiet_step ((fail)))
     refine wpQuiet_nil ?_
     intro x
     have hx0:=x.upd
     go_wp2_with fail
     refine wp_region_qx (by kernel_rfl) (by kernel_rfl) ?_
     repeat (go_big_quiet_step ((fail)))
     refine wpQuiet_nil ?_
     intro x
     go_wp2_with fail
     exact ⟨⟨k+1,by go_num,by omega,Lib.hid ⟨HR.out,(HE.out.2.step hx0).step x.upd⟩⟩,by simp [intOf];omega⟩
    ·have HR:=Lib.hid (fld_gt hlt HE.out.1 h)
     have hd:decide (fld a k<fld b k)=false:=by simp;omega
     have hd2:decide (fld b k<fld a k)=true:=by simpa using h
     generalize fld a k=fa at *
     generalize fld b k=fb at *
     go_wp2_with fail
     refine wp_region_qx (by kernel_rfl) (by kernel_rfl) ?_
     repeat (go_big_quiet_step ((fail)))
     refine wpQuiet_nil ?_
     intro x
     have hx0:=x.upd
     go_wp2_with fail
     refine wp_region_qx (by kernel_rfl) (by kernel_rfl) ?_
     repeat (go_big_quiet_step ((fail)))
     refine wpQuiet_nil ?_
     intro x
     go_wp2_with fail
     go_ret
     exact ⟨ret_int HR.out.symm,((HU.out.step HE.out.2).step hx0).step x.upd⟩
   ·have hke:k=3:=by omega
    have HR:=Lib.hid (fld_eq (fun j hj=>HE.out.1 j (by omega)))
    have c3:=HE.out.2.some c3 (by simp)
    have d3:=HE.out.2.some d3 (by simp)
    have HU:=Lib.hid (HU.out.step HE.out.2)
    have hli:¬ (k:Int)<3:=by omega
    clear HE HX HY hlt hke
    have hq1:(a.kids.length:Int)≤9223372036854775807:=by omega
    obtain ⟨wo,rfl⟩:∃ wo:World,wo=wr:=⟨_,rfl⟩
    go_wp2_with fail
    go_loopw [8] (fun i wq=>∃ m:Nat,i=.int .i64 m∧m≤a.kids.length∧m≤b.kids.length∧Hid (cmpL a.kids b.kids=cmpL (a.kids.drop m) (b.kids.drop m))∧∃ x:Ext wo,wq=x.val) (fun i _=>a.kids.length - (intOf i).toNat)
    case atStart=>exact ⟨0,rfl,Nat.zero_le _,Nat.zero_le _,Lib.hid rfl,Ext.of (by iterate 25 (first|exact Upd.refl _ _|assumption|refine Upd.alloc ?_ _|refine Upd.drew ?_|refine Upd.drewN ?_ _|refine Upd.dl ?_|refine Upd.step ?_ (Ext.upd _)|refine Upd.nil ?_|skip))⟩
    case round=>
     obtain ⟨m,rfl,hm,hm2,HE,x,rfl⟩:=hrel
     by_cases h1:m<a.kids.length
     ·have hi1:(m:Int)<a.kids.length:=by omega
      have hd1:decide ((m:Int)<a.kids.length)=true:=by simpa using hi1
      by_cases h2:m<b.kids.length
      ·have hi2:(m:Int)<b.kids.length:=by omega
       have hr:=List.getElem?_eq_getElem h1
       have hs:=List.getElem?_eq_getElem h2
       have hmem:=List.mem_of_getElem? hr
       generalize a.kids[m]=r at *
       generalize b.kids[m]=t at *
       obtain ⟨g1,o1,a1,k1,rfl,hF1,e0,e1,e2,e3⟩:=(HL.out.1.ext (HU.out.step x.upd)).kid hr
       obtain ⟨g2,o2,a2,k2,rfl,hF2,f0,f1,f2,f3⟩:=(HL.out.2.ext (HU.out.step x.upd)).kid hs
       have HD:=Lib.hid (cmpL_drop hr hs)
       have HCC:=Lib.hid (fun (w':World) (u:Upd [] x.val w')=>HI.out r hmem t (hF1.ext u).val (hF2.ext u).val)
       clear hr hs hmem hF1 hF2
       generalize cmpR r t=z at *
       by_cases hz:z=0
       ·have hb:(z != 0)=false:=by simpa using hz
        have HZ:=Lib.hid (HE.out.trans (HD.out.trans (if_neg (by simpa using hz))))
        have hx0:=x.upd
        clear hz
        go_wp2_with fail
        refine wp_region_qx (by kernel_rfl) (by kernel_rfl) ?_
        repeat (go_big_quiet_step (((go_at_call 95;exact qx (HCC.out _ (Ext.upd _))))))
        refine wpQuiet_nil ?_
        intro x
        go_wp2_with fail
        exact ⟨⟨m+1,by go_num,by omega,by omega,Lib.hid HZ.out,Ext.of (hx0.step x.upd)⟩,by simp [intOf];omega⟩
       ·have hb:(z != 0)=true:=by simpa using hz
        have HZ:=Lib.hid (HR.out.trans (HE.out.trans (HD.out.trans (if_pos (by simpa using hz)))))
        have hx0:=x.upd
        clear hz
        go_wp2_with fail
        refine wp_region_qx (by kernel_rfl) (by kernel_rfl) ?_
        repeat (go_big_quiet_step (((go_at_call 95;exact qx (HCC.out _ (Ext.upd _))))))
        refine wpQuiet_nil ?_
        intro x
        go_wp2_with fail
        go_ret
        exact ⟨ret_int HZ.out.symm,HU.out.step (hx0.step x.upd)⟩
      ·have hi2:¬ (m:Int)<b.kids.length:=by omega
       have hi3:(b.kids.length:Int)<a.kids.length:=by omega
       have hi4:¬ (a.kids.length:Int)<b.kids.length:=by omega
       have HZ:=Lib.hid (HR.out.trans (HE.out.trans (cmpL_more h1 (by omega))))
       have HUX:=Lib.hid (HU.out.step x.upd)
       clear h1 h2 hm hm2
       go_wp2_with fail
       go_ret
       exact ⟨ret_int HZ.out.symm,HUX.out⟩
     ·have hi1:¬ (m:Int)<a.kids.length:=by omega
      have hd1:decide ((m:Int)<a.kids.length)=false:=by simpa using hi1
      by_cases h2:a.kids.length<b.kids.length
      ·have hi3:(a.kids.length:Int)<b.kids.length:=by omega
       have HZ:=Lib.hid (HR.out.trans (HE.out.trans (cmpL_less (by omega) (by omega))))
       have HUX:=Lib.hid (HU.out.step x.upd)
       clear h1 h2 hm hm2
       go_wp2_with fail
       go_ret
       exact ⟨ret_int HZ.out.symm,HUX.out⟩
      ·have hi3:¬ (a.kids.length:Int)<b.kids.length:=by omega
       have hi4:¬ (b.kids.length:Int)<a.kids.length:=by omega
       have HZ:=Lib.hid (HR.out.trans (HE.out.trans (cmpL_end (by omega) (by omega))))
       have HUX:=Lib.hid (HU.out.step x.upd)
       clear h1 h2 hm hm2
       go_wp2_with fail
       go_ret
       exact ⟨ret_int HZ.out.symm,HUX.out⟩
end
end Rgx
end Go.Proofs.YtjclbjdkkdijbaaGreat
end
