/- Walks through package regex: the closure that joins kids into a normal form. Conditions: none. Walks through package regex: the other closures of forms, clone, limited. Conditions: none. Walks through package regex: clone, limited. Conditions: none. -/
import Derived.Test.YtjclbjdkkdijbaaGreatRxS
import Derived.Laws.Rows
import Derived.Laws.ResultCell
set_option linter.unusedVariables false
set_option linter.unusedSimpArgs false
set_option linter.unusedSectionVars false
section
open Go.RowKit
namespace Go.Proofs.YtjclbjdkkdijbaaGreat
open L
namespace Rgx
open Rx
attribute [-go_sem] sliced
section
variable {w w':World} {v:Value}
set_option maxRecDepth 100000 in
set_option maxHeartbeats 8000000 in
theorem join1_calls {r u:Rx} {bx:Nat} (hr:RxV [] w r v) (hb:Box 37 [] w bx u):Calls Tryz.prog 119 #[v,.pointer (some ⟨bx,0,none⟩)] w fun e w'=>e=.returned (.bool (decide (r=u)))∧Upd [] w w':=by
 have HC:=Lib.hid (fun (w':World) (x:Upd [] w w') (vb:Value) (h:RxV [] w' u vb)=>equal_calls (hr.ext x) h)
 obtain ⟨a1,c1,rfl,hF,_,_⟩:=hr.shape
 obtain ⟨a2,c2,hB,hU,_⟩:=hb
 clear hr
 go_enter Tryz.func119,Tryz.ntmps119
 go_upto_region 1 with fail
 have bA:=Blk.new w (rxC r.kind r.lo r.hi (.slice a1 r.kids.length c1)) 37
 have uA:=(Upd.refl [] w).alloc (.cells (rxC r.kind r.lo r.hi (.slice a1 r.kids.length c1)).toArray 37)
 change Code.wp _ _ _ _ (w.alloc (.cells (rxC r.kind r.lo r.hi (.slice a1 r.kids.length c1)).toArray 37))
 generalize (w.alloc (.cells (rxC r.kind r.lo r.hi (.slice a1 r.kids.length c1)).toArray 37))=w1 at *
 generalize w.heap.size=pa at *
 have bB:=hB.upd uA (by simp)
 have c0:=bA.cell (i:=0) rfl
 have c1:=bA.cell (i:=1) rfl
 have c2:=bA.cell (i:=2) rfl
 have c3:=bA.cell (i:=3) rfl
 have d0:=bB.cell (i:=0) rfl
 have d1:=bB.cell (i:=1) rfl
 have d2:=bB.cell (i:=2) rfl
 have d3:=bB.cell (i:=3) rfl
 have HU:=Lib.hid uA
 have HX:=Lib.hid (HC.out _ uA _ (hU.ext uA).val)
 clear bA bB uA HC hB hU hF
 go_wp2_with (first|(with_reducible refine HX.out.mono ?_);rintro e w3 ⟨rfl,hu⟩)
 go_ret
 exact ⟨rfl,HU.out.step hu⟩
set_option maxRecDepth 100000 in
set_option maxHeartbeats 8000000 in
theorem idxJoin_calls {ks:List Rx} {vl:Value} {bx:Nat} {p:Rx→Bool} (hl:RxL [] w ks vl)
 (hp:∀ r∈ks,∀ (w':World) (v:Value),Upd [] w w'→RxV [] w' r v→Calls Tryz.prog 119 #[v,.pointer (some ⟨bx,0,none⟩)] w' fun e w2=>e=.returned (.bool (p r))∧Upd [] w' w2) :
 Calls Tryz.prog 136 #[vl,.func (.func 119) #[] #[.pointer (some ⟨bx,0,none⟩)]] w fun e w'=>e=.returned (.int .i64 (idxR p ks))∧Upd [] w w':=by
 obtain ⟨a,c,rfl,q1,q2,_⟩:=id hl.form
 have HL:=Lib.hid hl
 have HP:=Lib.hid hp
 clear hl hp
 go_enter Tryz.func136,Tryz.ntmps136
 go_wp2_with fail
 go_loopw [8] (fun i wr=>∃ k:Nat,i=.int .i64 k∧k≤ks.length∧(∀ j,j<k→∀ x,ks[j]?=some x→p x=false)∧∃ x:Ext w,wr=x.val) (fun i _=>ks.length - (intOf i).toNat)
 case atStart=>exact ⟨0,rfl,Nat.zero_le _,fun j hj=>by omega,Ext.of (by iterate 25 (first|exact Upd.refl _ _|assumption|refine Upd.alloc ?_ _|refine Upd.drew ?_|refine Upd.drewN ?_ _|refine Upd.dl ?_|refine Upd.step ?_ (Ext.upd _)|refine Upd.nil ?_|skip))⟩
 case round=>
  obtain ⟨k,rfl,hk,hlo,x,rfl⟩:=hrel
  have HLO:=Lib.hid hlo
  clear hlo
  by_cases hlt:k<ks.length
  ·have hli:(k:Int)<ks.length:=by omega
   have hr:=List.getElem?_eq_getElem hlt
   have hmem:=List.mem_of_getElem? hr
   generalize ks[k]=r at *
   obtain ⟨g,off,a2,c2,rfl,hRF,e0,e1,e2,e3⟩:=(HL.out.ext x.upd).kid hr
   have HX:=Lib.hid (HP.out r hmem x.val _ x.upd hRF.val)
   have HR:=Lib.hid hr
   clear hRF hmem hr
   cases hpr:p r with
   | true=>
    rw [hpr] at HX
    have HE:=Lib.hid (idxR_at HR.out hpr HLO.out)
    clear hpr
    go_wp2_with (first|(with_reducible refine HX.out.mono ?_);rintro e w3 ⟨rfl,hu⟩)
    go_ret
    rw [HE.out]
    exact ⟨rfl,x.upd.step hu⟩
   | false=>
    rw [hpr] at HX
    have HE:=Lib.hid hpr
    clear hpr
    go_wp2_with (first|(with_reducible refine HX.out.mono ?_);rintro e w3 ⟨rfl,hu⟩)
    refine ⟨⟨k+1,by go_num,by omega,fun j hj y hy=>?_,Ext.of (x.upd.step hu)⟩,by simp [intOf];omega⟩
    rcases Nat.lt_or_ge j k with h|h
    ·exact HLO.out j h y hy
    ·obtain rfl:j=k:=by omega
     rw [HR.out] at hy
     cases hy
     exact HE.out
  ·have hme:k=ks.length:=by omega
   subst hme
   have HE:=Lib.hid (idxR_none HLO.out)
   go_wp2_with fail
   go_ret
   rw [HE.out]
   exact ⟨rfl,x.upd⟩
theorem idxR_any (p:Rx→Bool) (ks:List Rx):decide (0≤idxR p ks)=ks.any p:=by
 unfold idxR
 cases hf:ks.findIdx? p with
 | none=>
  rw [List.findIdx?_eq_none_iff] at hf
  have:ks.any p=false:=by rw [List.any_eq_false];intro x hx;simp [hf x hx]
  rw [this];rfl
 | some i=>
  obtain ⟨h1,h2,_⟩:=List.findIdx?_eq_some_iff_getElem.1 hf
  have:ks.any p=true:=by rw [List.any_eq_true];exact ⟨_,List.getElem_mem h1,h2⟩
  rw [this];simp
theorem hasJoin_calls {ks:List Rx} {vl:Value} {bx:Nat} {u:Rx} (hl:RxL [] w ks vl) (hb:Box 37 [] w bx u) :
 Calls Tryz.prog 118 #[vl,.func (.func 119) #[] #[.pointer (some ⟨bx,0,none⟩)]] w fun e w'=>e=.returned (.bool (decide (u∈ks)))∧Upd [] w w':=by
 have HI:=Lib.hid (idxJoin_calls hl (p:=fun r=>decide (r=u)) (bx:=bx) fun r hr w' v' hu hv=>join1_calls hv (hb.ext hu))
 have HR:=Lib.hid (show decide (0≤idxR (fun r=>decide (r=u)) ks)=decide (u∈ks) from by rw [idxR_any];apply Bool.eq_iff_iff.2;simp)
 obtain ⟨a,c,rfl,_⟩:=hl.form
 clear hl hb
 go_enter Tryz.func118,Tryz.ntmps118
 go_wp2_with (first|(with_reducible refine HI.out.mono ?_);rintro e w3 ⟨rfl,hu⟩)
 go_ret
 rw [←HR.out]
 exact ⟨rfl,hu⟩
theorem box_set {rb:Nat} {o0 o1 o2 o3 a b c d:Value} {e:TypeId} (h:Blk w rb [o0,o1,o2,o3] e) :
 Blk ((((w.setCell ⟨rb,0,none⟩ a).setCell ⟨rb,1,none⟩ b).setCell ⟨rb,2,none⟩ c).setCell ⟨rb,3,none⟩ d) rb [a,b,c,d] e∧Upd [rb] w ((((w.setCell ⟨rb,0,none⟩ a).setCell ⟨rb,1,none⟩ b).setCell ⟨rb,2,none⟩ c).setCell ⟨rb,3,none⟩ d):=
 ⟨(((h.set 0 a).set 1 b).set 2 c).set 3 d,((((Upd.refl [rb] w).set (p:=⟨rb,0,none⟩) (by simp) a).set (p:=⟨rb,1,none⟩) (by simp) b).set (p:=⟨rb,2,none⟩) (by simp) c).set (p:=⟨rb,3,none⟩) (by simp) d⟩
theorem ret_rx {M:List Nat} {w0:World} {fn:Func} {a:Act} {p:Tmp} {rb:Nat} {cs:List Value} {r:Rx} (h:fn.results=#[.cell p 37]) (hp:a.tmps.getD p undef=.pointer (some ⟨rb,0,none⟩)) (hB:Blk w rb cs 37) (hdf:a.defers=[]) (hv:RxF M w r cs) (hu:Upd [] w0 w) :
 bodyPost Tryz.prog fn (fun e w'=>∃ v',e=.returned v'∧RxV M w' r v'∧Upd [] w0 w') .ret a w:=by
 have hl:(Tryz.prog.info? 37).map (·.size)=some cs.length:=by rw [hv.len];kernel_rfl
 exact bodyPost_ret (results_cell_row h a.tmps w rb 37 cs.toArray (0,0) (.struct _) hp hB Tryz.underlying37 rfl (by simpa using hl)) hdf ⟨_,rfl,⟨cs,rfl,hv⟩,hu⟩
theorem joinE_pick (k:Int) (u z:Rx) (ks:List Rx):joinE k u z ks=if z∈without u (flat k ks) then z else pickE k u (if k=3 then without u (flat k ks) else sortR (without u (flat k ks))):=by
 unfold joinE without
 simp only
 split
 ·rfl
 ·generalize (if k=3 then (flat k ks).filter fun r=>decide (r≠u) else sortR ((flat k ks).filter fun r=>decide (r≠u)))=m
  match m with
  | []=>rfl
  | [_]=>rfl
  | _::_::_=>rfl
set_option maxRecDepth 100000 in
set_option maxHeartbeats 8000000 in
theorem join_calls {M:List Nat} {r u z:Rx} {bu bz:Nat} (hr:RxV M w r v) (hu:Box 37 M w bu u) (hz:Box 37 M w bz z) (hM:∀ b∈M,b<w.heap.size) (hsz:nodes r≤1000000) :
 Calls Tryz.prog 116 #[v,.pointer (some ⟨bu,0,none⟩),.pointer (some ⟨bz,0,none⟩)] w fun e w'=>∃ v',e=.returned v'∧RxV M w' (joinE r.kind u z r.kids) v'∧Upd [] w w':=by
 obtain ⟨a1,c1,rfl,hF,hsc,hL⟩:=hr.shape
 have HJ:=Lib.hid (joinE_pick r.kind u z r.kids)
 have HM:=Lib.hid hM
 have HSC:=Lib.hid (And.intro hsc hsz)
 clear hr hsc hL hM hsz
 go_enter Tryz.func116,Tryz.ntmps116
 go_upto_region 1 with fail
 have bA:=Blk.new w (rxC r.kind r.lo r.hi (.slice a1 r.kids.length c1)) 37
 have uA:=(Upd.refl [] w).alloc (.cells (rxC r.kind r.lo r.hi (.slice a1 r.kids.length c1)).toArray 37)
 have hz1:(w.alloc (.cells (rxC r.kind r.lo r.hi (.slice a1 r.kids.length c1)).toArray 37)).heap.size=w.heap.size+1:=by simp
 have bB:=Blk.new (w.alloc (.cells (rxC r.kind r.lo r.hi (.slice a1 r.kids.length c1)).toArray 37)) [.int .i64 0,.int .u8 0,.int .u8 0,.slice none 0 0] 37
 have uB:=uA.alloc (.cells #[.int .i64 0,.int .u8 0,.int .u8 0,.slice none 0 0] 37)
 have bA:=bA.alloc (.cells #[.int .i64 0,.int .u8 0,.int .u8 0,.slice none 0 0] 37)
 rw [hz1] at bB
 change Code.wp _ _ _ _ ((w.alloc (.cells (rxC r.kind r.lo r.hi (.slice a1 r.kids.length c1)).toArray 37)).alloc (.cells #[.int .i64 0,.int .u8 0,.int .u8 0,.slice none 0 0] 37))
 have hz2:((w.alloc (.cells (rxC r.kind r.lo r.hi (.slice a1 r.kids.length c1)).toArray 37)).alloc (.cells #[.int .i64 0,.int .u8 0,.int .u8 0,.slice none 0 0] 37)).heap.size=w.heap.size+2:=by simp
 generalize ((w.alloc (.cells (rxC r.kind r.lo r.hi (.slice a1 r.kids.length c1)).toArray 37)).alloc (.cells #[.int .i64 0,.int .u8 0,.int .u8 0,.slice none 0 0] 37))=w1 at *
 have hnew:∀ b∈(w.heap.size+1)::w.heap.size::M,b∈M∨w.heap.size≤b:=fun b hb=>by
  rcases List.mem_cons.1 hb with rfl|hb
  ·right;omega
  ·rcases List.mem_cons.1 hb with rfl|hb
   ·right;omega
   ·exact .inl hb
 have hlt:∀ b∈(w.heap.size+1)::w.heap.size::M,b<w1.heap.size:=fun b hb=>by
  rw [hz2]
  rcases List.mem_cons.1 hb with rfl|hb
  ·omega
  ·rcases List.mem_cons.1 hb with rfl|hb
   ·omega
   ·have:=HM.out b hb;omega
 have HB:=Lib.hid (And.intro ((hu.sub hnew).ext uB) ((hz.sub hnew).ext uB))
 have HF:=Lib.hid ((hF.sub hnew).ext uB)
 have HLT:=Lib.hid hlt
 have HA:=Lib.hid (And.intro bA (And.intro bB (And.intro hz2 uB)))
 have HFL:=Lib.hid (fun (vu:Value) (h:RxV ((w.heap.size+1)::w.heap.size::M) w1 u vu)=>flat_calls (r:=r) HF.out.val h hlt HSC.out.2)
 have HSUB:=Lib.hid (show ∀ b∈M,b∈(w.heap.size+1)::w.heap.size::M from fun b hb=>by simp [hb])
 obtain ⟨au,cu,hBu,hFu,_⟩:=id HB.out.1
 have k0:=bA.cell (i:=0) rfl
 have k1:=bA.cell (i:=1) rfl
 have k2:=bA.cell (i:=2) rfl
 have k3:=bA.cell (i:=3) rfl
 have u0:=hBu.cell (i:=0) rfl
 have u1:=hBu.cell (i:=1) rfl
 have u2:=hBu.cell (i:=2) rfl
 have u3:=hBu.cell (i:=3) rfl
 have HX:=Lib.hid (HFL.out _ hFu.val)
 have HPA:=Lib.hid (show w.heap.size∈(w.heap.size+1)::w.heap.size::M from by simp)
 have HRB:=Lib.hid (show w.heap.size+1∈(w.heap.size+1)::w.heap.size::M from by simp)
 generalize hM1:(w.heap.size+1)::w.heap.size::M=M1 at *
 clear hM1 hnew hlt hF hu hz uA uB hz1 hz2 bA bB hBu hFu HFL
 have HSZ:=Lib.hid (show w.heap.size+2=w1.heap.size from HA.out.2.2.1.symm)
 generalize hrb:w.heap.size+1=rb at *
 generalize hpa:w.heap.size=pa at *
 have HPB:=Lib.hid (And.intro hrb hpa)
 clear hrb hpa
 go_upto_region 2 with (first|(with_reducible refine HX.out.mono ?_);rintro e w2 ⟨vl,rfl,o2,x2,f2⟩)
 have HN:=Lib.hid (show (without u (flat r.kind r.kids)).length≤1000000 from by
  have h1:(without u (flat r.kind r.kids)).length≤(flat r.kind r.kids).length:=List.length_filter_le _ _
  have h2:=flat_len r.kind r.kids
  have h3:nodesL r.kids≤nodes r:=by obtain ⟨k,lo,hi,l⟩:=r;rw [nodes];simp only [Rx.kids];omega
  have:=HSC.out.2
  omega)
 generalize without u (flat r.kind r.kids)=l at *
 have HC:=Lib.hid (hasJoin_calls (o2.list.sub (M':=[]) (by simp)) ((HB.out.2.ext x2).sub (M':=[]) (by simp)))
 have HO:=Lib.hid (And.intro o2 (And.intro x2 f2))
 have k0':=x2.some k0 (by simp)
 clear k0 k1 k2 k3 u0 u1 u2 u3 HX o2 f2
 by_cases hzl:z∈l
 ·rw [decide_eq_true hzl] at HC
  rw [if_pos hzl] at HJ
  clear hzl
  go_upto_region 3 with (first|(with_reducible refine HC.out.mono ?_);rintro e w3 ⟨rfl,x3⟩)
  have X3:=HO.out.2.1.step x3
  have HU3:=Lib.hid X3
  have hbz:=HB.out.2.ext X3
  have hbr:=HA.out.2.1.upd X3 (by simp)
  obtain ⟨az,cz,hZ,hFz,_⟩:=hbz
  have z0:=hZ.cell (i:=0) rfl
  have z1:=hZ.cell (i:=1) rfl
  have z2:=hZ.cell (i:=2) rfl
  have z3:=hZ.cell (i:=3) rfl
  have r0:=hbr.cell (i:=0) rfl
  have r1:=hbr.cell (i:=1) rfl
  have r2:=hbr.cell (i:=2) rfl
  have r3:=hbr.cell (i:=3) rfl
  have rf:∀ q,w3.frozen? ⟨rb,q,none⟩=false:=hbr.free
  have HZ:=Lib.hid (And.intro hFz hbr)
  clear hZ hFz hbr X3 x3 x2 k0'
  go_wp2_with fail
  have hs:=box_set (a:=.int .i64 z.kind) (b:=.int .u8 z.lo) (c:=.int .u8 z.hi) (d:=.slice az z.kids.length cz) HZ.out.2
  rw [HJ.out]
  exact ret_rx rfl rfl hs.1 rfl ((HZ.out.1.upd hs.2 (by simpa using HRB.out)).sub (fun b hb=>.inl (HSUB.out b hb))) ((HA.out.2.2.2.step HU3.out).fresh hs.2 (fun b hb=>.inr (by simp at hb;have:=HPB.out;omega)))
 ·rw [decide_eq_false hzl] at HC
  rw [if_neg hzl] at HJ
  clear hzl
  go_upto_region 4 with (first|(with_reducible refine HC.out.mono ?_);rintro e w3 ⟨rfl,x3⟩)
  have HO3:=Lib.hid (And.intro (HO.out.1.ext x3) (And.intro (HO.out.2.1.step x3) HO.out.2.2))
  have e0:=x3.some k0' (by simp)
  clear k0' x3 HC HO
  have HSO:=Lib.hid (sort_calls HO3.out.1 HN.out)
  obtain ⟨m,hm⟩:∃ m,(if r.kind=3 then l else sortR l)=m:=⟨_,rfl⟩
  rw [hm] at HJ
  have HMM:=Lib.hid (And.intro (fun h:r.kind=3=>show l=m by rw [←hm,if_pos h]) (fun h:¬ r.kind=3=>show sortR l=m by rw [←hm,if_neg h]))
  clear hm
  go_upto_if 15 with fail
  go_cut [5] (fun x w'=>OwR 37 M1 w' x m∧Upd vl.ownBlock.toList w3 w'∧x.ownBlock=vl.ownBlock)
  case first=>
   by_cases hk3:r.kind=3
   ·have hb:(r.kind != 3)=false:=by simpa using hk3
    have HL:=Lib.hid (HMM.out.1 hk3)
    clear hk3
    go_wp2_with fail
    go_meet
    case rel=>exact ⟨by rw [←HL.out];exact HO3.out.1,Upd.refl _ _,rfl⟩
   ·have hb:(r.kind != 3)=true:=by simpa using hk3
    have HL:=Lib.hid (HMM.out.2 hk3)
    clear hk3
    go_upto_region 6 with (first|(with_reducible refine HSO.out.mono ?_);rintro e w4 ⟨rfl,l2,o4,p4,s4,x4⟩)
    have HCF:=Lib.hid (compactFunc_calls o4)
    have HL2:=Lib.hid (show ddn l2 l2.length=sortR l from by
     rw [ddn_sort s4]
     exact inc_unique (sortR_inc l2) (sortR_inc l) fun x=>by rw [sortR_mem,sortR_mem];exact p4.mem_iff)
    have HX4:=Lib.hid x4
    clear o4 p4 s4 x4
    go_wp2_with (first|(with_reducible refine HCF.out.mono ?_);rintro e w5 ⟨v5,rfl,o5,x5,f5⟩)
    go_meet
    case rel=>exact ⟨by rw [←HL.out,←HL2.out];exact o5,HX4.out.trans x5,f5⟩
  case rest=>
  obtain ⟨o5,x5,f5⟩:=hcut
  have XC:=HO3.out.2.1.fresh x5 (fun b hb=>.inr (HO3.out.2.2 b (by simpa using hb)))
  have HXC:=Lib.hid XC
  have hbr:=HA.out.2.1.upd XC (by simp)
  have r0:=hbr.cell (i:=0) rfl
  have r1:=hbr.cell (i:=1) rfl
  have r2:=hbr.cell (i:=2) rfl
  have r3:=hbr.cell (i:=3) rfl
  have rf:∀ q,wc.frozen? ⟨rb,q,none⟩=false:=hbr.free
  have k0:wc.cell? ⟨pa,0,none⟩=some (.int .i64 r.kind):=by
   have:=x5.cell (p:=⟨pa,0,none⟩) (World.block_lt_of_cell? w3 _ e0) (fun hm=>by
    have h1:=HO3.out.2.2 pa (by simpa using hm)
    have:=HSZ.out
    omega)
   rw [this];exact e0
  have HBR:=Lib.hid (And.intro hbr o5)
  have hbu:=HB.out.1.ext XC
  have HPX:=Lib.hid (pickE_cases (k:=r.kind) (unit:=u) (l:=m))
  obtain ⟨av,cv,rfl,qv,pv,_⟩:=id o5.list.form
  have HL5:=Lib.hid o5.list
  clear hbr XC e0 x5 o5 f5 HSO HMM
  by_cases hm0:m.length=0
  ·have hm:m=[]:=List.eq_nil_of_length_eq_zero hm0
   subst hm
   obtain ⟨az,cz,hZ,hFz,_⟩:=hbu
   have z0:=hZ.cell (i:=0) rfl
   have z1:=hZ.cell (i:=1) rfl
   have z2:=hZ.cell (i:=2) rfl
   have z3:=hZ.cell (i:=3) rfl
   have HZ:=Lib.hid hFz
   clear hZ hFz HPX
   go_wp2_with fail
   have hs:=box_set (a:=.int .i64 u.kind) (b:=.int .u8 u.lo) (c:=.int .u8 u.hi) (d:=.slice az u.kids.length cz) HBR.out.1
   rw [HJ.out]
   exact ret_rx rfl rfl hs.1 rfl ((HZ.out.upd hs.2 (by simpa using HRB.out)).sub (fun b hb=>.inl (HSUB.out b hb))) ((HA.out.2.2.2.step HXC.out).fresh hs.2 (fun b hb=>.inr (by simp at hb;have:=HPB.out;omega)))
  ·have hb0:((m.length:Int) == 0)=false:=by simpa using hm0
   by_cases hm1:m.length=1
   ·obtain ⟨x,hm⟩:∃ x,m=[x]:=by
     match m,hm1 with
     | [x],_=>exact ⟨x,rfl⟩
    subst hm
    obtain ⟨gx,ox,az,cz,rfl,hFz,z0,z1,z2,z3⟩:=HL5.out.kid (i:=0) (r:=x) rfl
    rw [Nat.zero_mul,Nat.add_zero] at z0 z1 z2 z3
    have HZ:=Lib.hid hFz
    clear hFz HPX hbu hm0 hm1
    go_wp2_with fail
    have hs:=box_set (a:=.int .i64 x.kind) (b:=.int .u8 x.lo) (c:=.int .u8 x.hi) (d:=.slice az x.kids.length cz) HBR.out.1
    rw [HJ.out]
    exact ret_rx rfl rfl hs.1 rfl ((HZ.out.upd hs.2 (by simpa using HRB.out)).sub (fun b hb=>.inl (HSUB.out b hb))) ((HA.out.2.2.2.step HXC.out).fresh hs.2 (fun b hb=>.inr (by simp at hb;have:=HPB.out;omega)))
   ·have hb1:((m.length:Int) == 1)=false:=by simp;omega
    have HE:=Lib.hid (show pickE r.kind u m=nd r.kind 0 0 m from by
     rcases HPX.out with ⟨h,_⟩|⟨x,h,_⟩|⟨_,h⟩
     ·rw [h] at hm0;exact absurd rfl hm0
     ·rw [h] at hm1;exact absurd rfl hm1
     ·exact h)
    clear hm0 hm1 HPX hbu
    go_wp2_with fail
    have hs:=box_set (a:=.int .i64 r.kind) (b:=.int .u8 0) (c:=.int .u8 0) (d:=.slice av m.length cv) HBR.out.1
    rw [HJ.out,HE.out]
    exact ret_rx rfl rfl hs.1 rfl (((RxF.iff.2 ⟨_,rfl,⟨HSC.out.1.1,by omega,by omega⟩,HL5.out⟩).upd hs.2 (by simpa using HRB.out)).sub (fun b hb=>.inl (HSUB.out b hb))) ((HA.out.2.2.2.step HXC.out).fresh hs.2 (fun b hb=>.inr (by simp at hb;have:=HPB.out;omega)))
end
end Rgx
end Go.Proofs.YtjclbjdkkdijbaaGreat
end
section
open Go.RowKit
namespace Go.Proofs.YtjclbjdkkdijbaaGreat
open L
namespace Rgx
open Rx
def notR (x r:Rx):Rx:=if x.kind=6 then x.kids.headD rNone else r
def starR (x r:Rx):Rx:=if x.kind=0∨x.kind=1 then rEmpty else if x.kind=7∨x=rAll then x else r
section
variable {w w':World} {v:Value}
theorem two_boxes {M:List Nat} {r:Rx} {a1:Option Addr} {c1:Nat} (hF:RxF M w r (rxC r.kind r.lo r.hi (.slice a1 r.kids.length c1))) (hM:∀ b∈M,b<w.heap.size) :
 ∃ w1 M1 rb,w1=(w.alloc (.cells (rxC r.kind r.lo r.hi (.slice a1 r.kids.length c1)).toArray 37)).alloc (.cells #[.int .i64 0,.int .u8 0,.int .u8 0,.slice none 0 0] 37)∧rb=w.heap.size+1∧M1=rb::w.heap.size::M ∧
  Blk w1 w.heap.size (rxC r.kind r.lo r.hi (.slice a1 r.kids.length c1)) 37∧Blk w1 rb [.int .i64 0,.int .u8 0,.int .u8 0,.slice none 0 0] 37∧Upd [] w w1∧w1.heap.size=w.heap.size+2∧RxF M1 w1 r (rxC r.kind r.lo r.hi (.slice a1 r.kids.length c1)) ∧
  (∀ b∈M1,b∈M∨w.heap.size≤b)∧(∀ b∈M1,b<w1.heap.size)∧(∀ b∈M,b∈M1)∧rb∈M1∧w.heap.size≤rb:=by
 have bA:=Blk.new w (rxC r.kind r.lo r.hi (.slice a1 r.kids.length c1)) 37
 have uA:=(Upd.refl [] w).alloc (.cells (rxC r.kind r.lo r.hi (.slice a1 r.kids.length c1)).toArray 37)
 have hz1:(w.alloc (.cells (rxC r.kind r.lo r.hi (.slice a1 r.kids.length c1)).toArray 37)).heap.size=w.heap.size+1:=by simp
 have bB:=Blk.new (w.alloc (.cells (rxC r.kind r.lo r.hi (.slice a1 r.kids.length c1)).toArray 37)) [.int .i64 0,.int .u8 0,.int .u8 0,.slice none 0 0] 37
 have uB:=uA.alloc (.cells #[.int .i64 0,.int .u8 0,.int .u8 0,.slice none 0 0] 37)
 have bA:=bA.alloc (.cells #[.int .i64 0,.int .u8 0,.int .u8 0,.slice none 0 0] 37)
 rw [hz1] at bB
 have hz2:((w.alloc (.cells (rxC r.kind r.lo r.hi (.slice a1 r.kids.length c1)).toArray 37)).alloc (.cells #[.int .i64 0,.int .u8 0,.int .u8 0,.slice none 0 0] 37)).heap.size=w.heap.size+2:=by simp
 have hnew:∀ b∈(w.heap.size+1)::w.heap.size::M,b∈M∨w.heap.size≤b:=fun b hb=>by
  rcases List.mem_cons.1 hb with rfl|hb
  ·right;omega
  ·rcases List.mem_cons.1 hb with rfl|hb
   ·right;omega
   ·exact .inl hb
 refine ⟨_,_,_,rfl,rfl,rfl,bA,bB,uB,hz2,(hF.sub hnew).ext uB,hnew,fun b hb=>?_,fun b hb=>by simp [hb],by simp,by omega⟩
 rw [hz2]
 rcases List.mem_cons.1 hb with rfl|hb
 ·omega
 ·rcases List.mem_cons.1 hb with rfl|hb
  ·omega
  ·have:=hM b hb;omega
set_option maxRecDepth 100000 in
set_option maxHeartbeats 8000000 in
theorem itself_calls {M:List Nat} {r:Rx} (hr:RxV M w r v) (hM:∀ b∈M,b<w.heap.size):Calls Tryz.prog 114 #[v] w fun e w'=>∃ v',e=.returned v'∧RxV M w' r v'∧Upd [] w w':=by
 obtain ⟨a1,c1,rfl,hF,_,_⟩:=hr.shape
 obtain ⟨w1,M1,rb,hw1,hrb,hM1,bA,bB,uB,hz2,hF1,hnew,hlt,hsub,hin,hle⟩:=two_boxes hF hM
 have HX:=Lib.hid (And.intro bB (And.intro uB (And.intro hF1 (And.intro hsub (And.intro hin hle)))))
 clear hr hF hM
 go_enter Tryz.func114,Tryz.ntmps114
 go_upto_region 1 with fail
 change Code.wp _ _ _ _ ((w.alloc (.cells (rxC r.kind r.lo r.hi (.slice a1 r.kids.length c1)).toArray 37)).alloc (.cells #[.int .i64 0,.int .u8 0,.int .u8 0,.slice none 0 0] 37))
 rw [←hw1,←hrb]
 have k0:=bA.cell (i:=0) rfl
 have k1:=bA.cell (i:=1) rfl
 have k2:=bA.cell (i:=2) rfl
 have k3:=bA.cell (i:=3) rfl
 have r0:=bB.cell (i:=0) rfl
 have r1:=bB.cell (i:=1) rfl
 have r2:=bB.cell (i:=2) rfl
 have r3:=bB.cell (i:=3) rfl
 have rf:∀ q,w1.frozen? ⟨rb,q,none⟩=false:=bB.free
 clear bA bB uB hz2 hF1 hnew hlt hsub hin hle hM1
 clear hw1 hrb
 generalize hpa:w.heap.size=pa at *
 have HPA:=Lib.hid hpa
 clear hpa
 go_wp2_with fail
 have hs:=box_set (a:=.int .i64 r.kind) (b:=.int .u8 r.lo) (c:=.int .u8 r.hi) (d:=.slice a1 r.kids.length c1) HX.out.1
 exact ret_rx rfl rfl hs.1 rfl ((HX.out.2.2.1.upd hs.2 (by simpa using HX.out.2.2.2.2.1)).sub (fun b hb=>.inl (HX.out.2.2.2.1 b hb))) (HX.out.2.1.fresh hs.2 (fun b hb=>.inr (by simp at hb;subst hb;have:=HX.out.2.2.2.2.2;have:=HPA.out;omega)))
set_option maxRecDepth 100000 in
set_option maxHeartbeats 8000000 in
theorem not_calls {M:List Nat} {r x:Rx} (hr:RxV M w r v) (hM:∀ b∈M,b<w.heap.size) (hx:r.kids=[x]) (hy:x.kind=6→∃ y,x.kids=[y]) :
 Calls Tryz.prog 124 #[v] w fun e w'=>∃ v',e=.returned v'∧RxV M w' (notR x r) v'∧Upd [] w w':=by
 obtain ⟨a1,c1,rfl,hF,_,hL⟩:=hr.shape
 obtain ⟨w1,M1,rb,hw1,hrb,hM1,bA,bB,uB,hz2,hF1,hnew,hlt,hsub,hin,hle⟩:=two_boxes hF hM
 have hL1:=(hL.sub hnew).ext uB
 rw [hx] at hL1
 have hk:r.kids.length=1:=by rw [hx];rfl
 rw [hk] at bA hF1 hF hw1 ⊢
 change RxL M1 w1 [x] (.slice a1 1 c1) at hL1
 obtain ⟨g,off,ax,cx,rfl,hFx,e0,e1,e2,e3⟩:=hL1.kid (i:=0) (r:=x) rfl
 rw [Nat.zero_mul,Nat.add_zero] at e0 e1 e2 e3
 have HX:=Lib.hid (And.intro bB (And.intro uB (And.intro hF1 (And.intro hsub (And.intro hin hle)))))
 have HFX:=Lib.hid hFx
 clear hr hF hM
 go_enter Tryz.func124,Tryz.ntmps124
 go_upto_region 1 with fail
 change Code.wp _ _ _ _ ((w.alloc (.cells (rxC r.kind r.lo r.hi (.slice (some ⟨g,off,none⟩) 1 c1)).toArray 37)).alloc (.cells #[.int .i64 0,.int .u8 0,.int .u8 0,.slice none 0 0] 37))
 rw [←hw1,←hrb]
 have k0:=bA.cell (i:=0) rfl
 have k1:=bA.cell (i:=1) rfl
 have k2:=bA.cell (i:=2) rfl
 have k3:=bA.cell (i:=3) rfl
 have r0:=bB.cell (i:=0) rfl
 have r1:=bB.cell (i:=1) rfl
 have r2:=bB.cell (i:=2) rfl
 have r3:=bB.cell (i:=3) rfl
 have rf:∀ q,w1.frozen? ⟨rb,q,none⟩=false:=bB.free
 clear bA bB uB hz2 hF1 hnew hlt hsub hin hle hM1 hL hL1 hFx
 clear hw1 hrb
 generalize hpa:w.heap.size=pa at *
 have HPA:=Lib.hid hpa
 clear hpa
 by_cases h6:x.kind=6
 ·obtain ⟨y,hy⟩:=hy h6
  have hb6:(x.kind == 6)=true:=by simpa using h6
  have HE:=Lib.hid (show notR x r=y from by rw [notR,if_pos h6,hy];rfl)
  have hLx:RxL M1 w1 [y] (.slice ax x.kids.length cx):=by
   obtain ⟨k,lo,hi,l⟩:=x
   simp only [Rx.kids] at hy
   subst hy
   obtain ⟨vk,hvk,_,h⟩:=RxF.iff.1 HFX.out
   simp only [rxC,List.cons.injEq,and_true] at hvk
   rw [hvk.2.2.2];exact h
  rw [show x.kids.length=1 by rw [hy];rfl] at hLx e3
  obtain ⟨g2,off2,ay,cy,rfl,hFy,f0,f1,f2,f3⟩:=hLx.kid (i:=0) (r:=y) rfl
  rw [Nat.zero_mul,Nat.add_zero] at f0 f1 f2 f3
  have HFY:=Lib.hid hFy
  clear hLx hFy h6 hy
  go_wp2_with fail
  have hs:=box_set (a:=.int .i64 y.kind) (b:=.int .u8 y.lo) (c:=.int .u8 y.hi) (d:=.slice ay y.kids.length cy) HX.out.1
  rw [HE.out]
  exact ret_rx rfl rfl hs.1 rfl ((HFY.out.upd hs.2 (by simpa using HX.out.2.2.2.2.1)).sub (fun b hb=>.inl (HX.out.2.2.2.1 b hb))) (HX.out.2.1.fresh hs.2 (fun b hb=>.inr (by simp at hb;subst hb;have:=HX.out.2.2.2.2.2;have:=HPA.out;omega)))
 ·have hb6:(x.kind == 6)=false:=by simpa using h6
  have HE:=Lib.hid (show notR x r=r from by rw [notR,if_neg h6])
  clear h6 hy
  go_wp2_with fail
  have hs:=box_set (a:=.int .i64 r.kind) (b:=.int .u8 r.lo) (c:=.int .u8 r.hi) (d:=.slice (some ⟨g,off,none⟩) 1 c1) HX.out.1
  rw [HE.out]
  exact ret_rx rfl rfl hs.1 rfl ((HX.out.2.2.1.upd hs.2 (by simpa using HX.out.2.2.2.2.1)).sub (fun b hb=>.inl (HX.out.2.2.2.1 b hb))) (HX.out.2.1.fresh hs.2 (fun b hb=>.inr (by simp at hb;subst hb;have:=HX.out.2.2.2.2.2;have:=HPA.out;omega)))
set_option maxRecDepth 100000 in
set_option maxHeartbeats 8000000 in
theorem star_calls {M:List Nat} {r x:Rx} {be bv:Nat} (hr:RxV M w r v) (hM:∀ b∈M,b<w.heap.size) (hx:r.kids=[x]) (he:Box 37 M w be rEmpty) (ha:Box 37 M w bv rAll) :
 Calls Tryz.prog 125 #[v,.pointer (some ⟨be,0,none⟩),.pointer (some ⟨bv,0,none⟩)] w fun e w'=>∃ v',e=.returned v'∧RxV M w' (starR x r) v'∧Upd [] w w':=by
 obtain ⟨a1,c1,rfl,hF,_,hL⟩:=hr.shape
 obtain ⟨w1,M1,rb,hw1,hrb,hM1,bA,bB,uB,hz2,hF1,hnew,hlt,hsub,hin,hle⟩:=two_boxes hF hM
 have hL1:=(hL.sub hnew).ext uB
 have he1:=(he.sub hnew).ext uB
 have ha1:=(ha.sub hnew).ext uB
 rw [hx] at hL1
 have hk:r.kids.length=1:=by rw [hx];rfl
 rw [hk] at bA hF1 hF hw1 ⊢
 change RxL M1 w1 [x] (.slice a1 1 c1) at hL1
 obtain ⟨g,off,ax,cx,rfl,hFx,e0,e1,e2,e3⟩:=hL1.kid (i:=0) (r:=x) rfl
 rw [Nat.zero_mul,Nat.add_zero] at e0 e1 e2 e3
 have HX:=Lib.hid (And.intro bB (And.intro uB (And.intro hF1 (And.intro hsub (And.intro hin hle)))))
 have HFX:=Lib.hid (And.intro hFx (And.intro he1 ha1))
 have HLT:=Lib.hid hlt
 clear hr hF hM
 go_enter Tryz.func125,Tryz.ntmps125
 go_upto_region 1 with fail
 change Code.wp _ _ _ _ ((w.alloc (.cells (rxC r.kind r.lo r.hi (.slice (some ⟨g,off,none⟩) 1 c1)).toArray 37)).alloc (.cells #[.int .i64 0,.int .u8 0,.int .u8 0,.slice none 0 0] 37))
 rw [←hw1,←hrb]
 have k0:=bA.cell (i:=0) rfl
 have k1:=bA.cell (i:=1) rfl
 have k2:=bA.cell (i:=2) rfl
 have k3:=bA.cell (i:=3) rfl
 clear bA bB uB hz2 hF1 hnew hlt hsub hin hle hM1 hL hL1 hFx he ha he1 ha1
 clear hw1 hrb
 generalize hpa:w.heap.size=pa at *
 have HPA:=Lib.hid hpa
 clear hpa
 go_upto_region 2 with fail
 have b2:=Blk.new w1 (rxC x.kind x.lo x.hi (.slice ax x.kids.length cx)) 37
 have u2:=(Upd.refl [] w1).alloc (.cells (rxC x.kind x.lo x.hi (.slice ax x.kids.length cx)).toArray 37)
 change Code.wp _ _ _ _ (w1.alloc (.cells (rxC x.kind x.lo x.hi (.slice ax x.kids.length cx)).toArray 37))
 have HFX2:=Lib.hid (And.intro (HFX.out.1.ext u2) (And.intro (HFX.out.2.1.ext u2) (HFX.out.2.2.ext u2)))
 have HX2:=Lib.hid (And.intro (HX.out.1.upd u2 (by simp)) (And.intro (HX.out.2.1.step u2) (HX.out.2.2.1.ext u2)))
 have l0:=u2.some k0 (by simp)
 have l1:=u2.some k1 (by simp)
 have l2:=u2.some k2 (by simp)
 have l3:=u2.some k3 (by simp)
 clear k0 k1 k2 k3 e0 e1 e2 e3 u2
 generalize (w1.alloc (.cells (rxC x.kind x.lo x.hi (.slice ax x.kids.length cx)).toArray 37))=w2 at *
 generalize w1.heap.size=sb at *
 have r0:=HX2.out.1.cell (i:=0) rfl
 have r1:=HX2.out.1.cell (i:=1) rfl
 have r2:=HX2.out.1.cell (i:=2) rfl
 have r3:=HX2.out.1.cell (i:=3) rfl
 have rf:∀ q,w2.frozen? ⟨rb,q,none⟩=false:=HX2.out.1.free
 have d0:=b2.cell (i:=0) rfl
 have d1:=b2.cell (i:=1) rfl
 have d2:=b2.cell (i:=2) rfl
 have d3:=b2.cell (i:=3) rfl
 clear b2
 by_cases h01:x.kind=0∨x.kind=1
 ·have HE:=Lib.hid (show starR x r=rEmpty from by rw [starR,if_pos h01])
  obtain ⟨ay,cy,hBy,hFy,_⟩:=HFX2.out.2.1
  have f0:=hBy.cell (i:=0) rfl
  have f1:=hBy.cell (i:=1) rfl
  have f2:=hBy.cell (i:=2) rfl
  have f3:=hBy.cell (i:=3) rfl
  have HFY:=Lib.hid hFy
  clear hBy hFy
  rcases h01 with h0|h0
  ·have hb:(x.kind == 0)=true:=by simpa using h0
   clear h0
   go_wp2_with fail
   have hs:=box_set (a:=.int .i64 rEmpty.kind) (b:=.int .u8 rEmpty.lo) (c:=.int .u8 rEmpty.hi) (d:=.slice ay rEmpty.kids.length cy) HX2.out.1
   rw [HE.out]
   exact ret_rx rfl rfl hs.1 rfl ((HFY.out.upd hs.2 (by simpa using HX.out.2.2.2.2.1)).sub (fun b hb=>.inl (HX.out.2.2.2.1 b hb))) (HX2.out.2.1.fresh hs.2 (fun b hb=>.inr (by simp at hb;subst hb;have:=HX.out.2.2.2.2.2;have:=HPA.out;omega)))
  ·have hb:(x.kind == 0)=false:=by simp;omega
   have hb1:(x.kind == 1)=true:=by simpa using h0
   clear h0
   go_wp2_with fail
   have hs:=box_set (a:=.int .i64 rEmpty.kind) (b:=.int .u8 rEmpty.lo) (c:=.int .u8 rEmpty.hi) (d:=.slice ay rEmpty.kids.length cy) HX2.out.1
   rw [HE.out]
   exact ret_rx rfl rfl hs.1 rfl ((HFY.out.upd hs.2 (by simpa using HX.out.2.2.2.2.1)).sub (fun b hb=>.inl (HX.out.2.2.2.1 b hb))) (HX2.out.2.1.fresh hs.2 (fun b hb=>.inr (by simp at hb;subst hb;have:=HX.out.2.2.2.2.2;have:=HPA.out;omega)))
 ·have hb:(x.kind == 0)=false:=by simp;omega
  have hb1:(x.kind == 1)=false:=by simp;omega
  by_cases h7:x.kind=7
  ·have hb7:(x.kind == 7)=true:=by simpa using h7
   have HE:=Lib.hid (show starR x r=x from by rw [starR,if_neg h01,if_pos (.inl h7)])
   clear h01 h7
   go_wp2_with fail
   have hs:=box_set (a:=.int .i64 x.kind) (b:=.int .u8 x.lo) (c:=.int .u8 x.hi) (d:=.slice ax x.kids.length cx) HX2.out.1
   rw [HE.out]
   exact ret_rx rfl rfl hs.1 rfl ((HFX2.out.1.upd hs.2 (by simpa using HX.out.2.2.2.2.1)).sub (fun b hb=>.inl (HX.out.2.2.2.1 b hb))) (HX2.out.2.1.fresh hs.2 (fun b hb=>.inr (by simp at hb;subst hb;have:=HX.out.2.2.2.2.2;have:=HPA.out;omega)))
  ·have hb7:(x.kind == 7)=false:=by simpa using h7
   obtain ⟨ay,cy,hBy,hFy,_⟩:=HFX2.out.2.2
   have f0:=hBy.cell (i:=0) rfl
   have f1:=hBy.cell (i:=1) rfl
   have f2:=hBy.cell (i:=2) rfl
   have f3:=hBy.cell (i:=3) rfl
   have HQ:=Lib.hid (equal_calls (a:=x) (b:=rAll) ((HFX2.out.1.sub (M':=[]) (by simp)).val) ((hFy.sub (M':=[]) (by simp)).val))
   clear hBy hFy
   by_cases hall:x=rAll
   ·rw [decide_eq_true hall] at HQ
    have HE:=Lib.hid (show starR x r=x from by rw [starR,if_neg h01,if_pos (.inr hall)])
    clear h01 h7 hall
    go_upto_region 5 with (first|(with_reducible refine HQ.out.mono ?_);rintro e w3 ⟨rfl,hu⟩)
    have hbr:=HX2.out.1.upd hu (by simp)
    have r0':=hu.some r0 (by simp)
    have r1':=hu.some r1 (by simp)
    have r2':=hu.some r2 (by simp)
    have r3':=hu.some r3 (by simp)
    have rf':∀ q,w3.frozen? ⟨rb,q,none⟩=false:=hbr.free
    have g0:=hu.some d0 (by simp)
    have g1:=hu.some d1 (by simp)
    have g2:=hu.some d2 (by simp)
    have g3:=hu.some d3 (by simp)
    have HH:=Lib.hid (And.intro hbr hu)
    clear hbr hu r0 r1 r2 r3 rf d0 d1 d2 d3
    go_wp2_with fail
    have hs:=box_set (a:=.int .i64 x.kind) (b:=.int .u8 x.lo) (c:=.int .u8 x.hi) (d:=.slice ax x.kids.length cx) HH.out.1
    rw [HE.out]
    exact ret_rx rfl rfl hs.1 rfl (((HFX2.out.1.ext HH.out.2).upd hs.2 (by simpa using HX.out.2.2.2.2.1)).sub (fun b hb=>.inl (HX.out.2.2.2.1 b hb))) ((HX2.out.2.1.step HH.out.2).fresh hs.2 (fun b hb=>.inr (by simp at hb;subst hb;have:=HX.out.2.2.2.2.2;have:=HPA.out;omega)))
   ·rw [decide_eq_false hall] at HQ
    have HE:=Lib.hid (show starR x r=r from by rw [starR,if_neg h01,if_neg (by rintro (h|h);exact h7 h;exact hall h)])
    clear h01 h7 hall
    go_upto_region 6 with (first|(with_reducible refine HQ.out.mono ?_);rintro e w3 ⟨rfl,hu⟩)
    have hbr:=HX2.out.1.upd hu (by simp)
    have r0':=hu.some r0 (by simp)
    have r1':=hu.some r1 (by simp)
    have r2':=hu.some r2 (by simp)
    have r3':=hu.some r3 (by simp)
    have rf':∀ q,w3.frozen? ⟨rb,q,none⟩=false:=hbr.free
    have g0:=hu.some l0 (by simp)
    have g1:=hu.some l1 (by simp)
    have g2:=hu.some l2 (by simp)
    have g3:=hu.some l3 (by simp)
    have HH:=Lib.hid (And.intro hbr hu)
    clear hbr hu r0 r1 r2 r3 rf d0 d1 d2 d3 l0 l1 l2 l3
    go_wp2_with fail
    have hs:=box_set (a:=.int .i64 r.kind) (b:=.int .u8 r.lo) (c:=.int .u8 r.hi) (d:=.slice (some ⟨g,off,none⟩) 1 c1) HH.out.1
    rw [HE.out]
    exact ret_rx rfl rfl hs.1 rfl (((HX2.out.2.2.ext HH.out.2).upd hs.2 (by simpa using HX.out.2.2.2.2.1)).sub (fun b hb=>.inl (HX.out.2.2.2.1 b hb))) ((HX2.out.2.1.step HH.out.2).fresh hs.2 (fun b hb=>.inr (by simp at hb;subst hb;have:=HX.out.2.2.2.2.2;have:=HPA.out;omega)))
end
end Rgx
end Go.Proofs.YtjclbjdkkdijbaaGreat
end
section
open Go.RowKit
namespace Go.Proofs.YtjclbjdkkdijbaaGreat
open L
namespace Rgx
open Rx
section
variable {w w':World} {v:Value}
theorem RxV.cells {M:List Nat} {r:Rx} (h:RxV M w r v):∃ cs,v=.agg cs.toArray∧RxF M w r cs∧cs.length=4∧∀ u∈cs,u.oneCell'=true:=by
 obtain ⟨cs,rfl,h⟩:=h
 exact ⟨cs,rfl,h,h.len,rxF_one h⟩
set_option maxRecDepth 100000 in
set_option maxHeartbeats 8000000 in
theorem clone_calls:∀ (r:Rx) {M:List Nat} {w:World} {v:Value},RxV M w r v→(∀ b∈M,b<w.heap.size)→nodes r≤1000000→Calls Tryz.prog 113 #[v] w fun e w'=>∃ v',e=.returned v'∧RxV M w' r v'∧Upd [] w w':=by
 intro r0
 induction r0 using Rx.ind with
 | h k0 lo0 hi0 ks0 ih=>
  intro M w v hr hM hn
  generalize hR:nd k0 lo0 hi0 ks0=r at *
  have hks:ks0=r.kids:=by rw [←hR];rfl
  have HZ:=Lib.hid (show r.kids.length≤1000000∧∀ s∈r.kids,nodes s≤1000000 from by
   rw [←hR] at hn ⊢
   rw [nodes] at hn
   have h1:=nodesL_len ks0
   exact ⟨by simp only [Rx.kids];omega,fun s hs=>by simp only [Rx.kids] at hs;have:=nodesL_mem hs;omega⟩)
  rw [hks] at ih
  have HI:=Lib.hid ih
  have HE:=Lib.hid (Rx.eta r)
  clear hks hR ih hn
  obtain ⟨a1,c1,rfl,hF,hsc,hL⟩:=hr.shape
  obtain ⟨w1,M1,rb,hw1,hrb,hM1,bA,bB,uB,hz2,hF1,hnew,hlt,hsub,hin,hle⟩:=two_boxes hF hM
  have hL1:=(hL.sub hnew).ext uB
  obtain ⟨a',c',he,q1,q2,_⟩:=id hL.form
  cases he
  have HX:=Lib.hid (And.intro bB (And.intro uB (And.intro hF1 (And.intro hsub (And.intro hin hle)))))
  have HL:=Lib.hid (And.intro hL1 (And.intro hlt (And.intro hsc bA)))
  clear hr hF hM hsc
  go_enter Tryz.func113,Tryz.ntmps113
  go_upto_region 1 with fail
  change Code.wp _ _ _ _ ((w.alloc (.cells (rxC r.kind r.lo r.hi (.slice a1 r.kids.length c1)).toArray 37)).alloc (.cells #[.int .i64 0,.int .u8 0,.int .u8 0,.slice none 0 0] 37))
  rw [←hw1,←hrb]
  have k3:=bA.cell (i:=3) rfl
  clear bA bB uB hz2 hF1 hnew hlt hsub hin hle hM1 hL hL1
  clear hw1 hrb
  generalize hpa:w.heap.size=pa at *
  have HPA:=Lib.hid hpa
  clear hpa
  go_wp2_with fail
  go_loopw [3,9] (fun av iv wr=>∃ (m:Nat) (acc:Value),iv=.int .i64 m∧acc=av∧m≤r.kids.length∧OwR 37 M1 wr acc (r.kids.take m)∧(∀ q,acc.ownBlock=some q→w1.heap.size≤q)∧Upd [] w1 wr) (fun _ iv _=>r.kids.length - (intOf iv).toNat)
  case atStart=>exact ⟨0,_,rfl,rfl,Nat.zero_le _,OwR.nil0,fun q hq=>by simp [Value.ownBlock] at hq,Upd.refl _ _⟩
  case round=>
   obtain ⟨m,acc,rfl,rfl,hm,hO,hq,hu⟩:=hrel
   have HO:=Lib.hid (And.intro hO (And.intro hq hu))
   clear hO hq hu
   by_cases hlt:m<r.kids.length
   ·have hli:(m:Int)<r.kids.length:=by omega
    have hr:=List.getElem?_eq_getElem hlt
    have hmem:=List.mem_of_getElem? hr
    have htk:r.kids.take (m+1)=r.kids.take m++[r.kids[m]]:=by rw [List.take_add_one,hr];rfl
    generalize r.kids[m]=s at *
    have hM2:∀ b∈M1++acc.ownBlock.toList,b∈M1∨w1.heap.size≤b:=fun b hb=>by
     rcases List.mem_append.1 hb with hb|hb
     ·exact .inl hb
     ·exact .inr (HO.out.2.1 b (by simpa using hb))
    obtain ⟨g,off,a3,c3,rfl,hRF,e0,e1,e2,e3⟩:=((HL.out.1.sub hM2).ext HO.out.2.2).kid hr
    have HR:=Lib.hid (And.intro hRF (And.intro htk (And.intro hmem hM2)))
    clear hRF hr hmem htk hM2
    go_upto_region 5 with fail
    have b2:=Blk.new wr (rxC s.kind s.lo s.hi (.slice a3 s.kids.length c3)) 37
    have u2:=(Upd.refl [] wr).alloc (.cells (rxC s.kind s.lo s.hi (.slice a3 s.kids.length c3)).toArray 37)
    change Code.wp _ _ _ _ (wr.alloc (.cells (rxC s.kind s.lo s.hi (.slice a3 s.kids.length c3)).toArray 37))
    generalize (wr.alloc (.cells (rxC s.kind s.lo s.hi (.slice a3 s.kids.length c3)).toArray 37))=w2 at *
    generalize wr.heap.size=sb at *
    have d0:=b2.cell (i:=0) rfl
    have d1:=b2.cell (i:=1) rfl
    have d2:=b2.cell (i:=2) rfl
    have d3:=b2.cell (i:=3) rfl
    obtain ⟨css,o1,o2,o3,o4⟩:=id (HO.out.1.ext u2)
    have HO2:=Lib.hid (And.intro o1 (And.intro o2 (And.intro o3 (And.intro o4 (HO.out.2.2.step u2)))))
    have hsz:acc.ownBlock.toList=[]∨∀ b∈acc.ownBlock.toList,b<w2.heap.size:=by
     rcases o1.2 with ⟨rfl,_⟩|⟨gg,cap,cur,rfl,_,hgg,_⟩
     ·left;rfl
     ·right
      intro b hb
      simp [Value.ownBlock] at hb
      subst hb
      exact (Array.getElem?_eq_some_iff.1 hgg).1
    have HC:=Lib.hid (HI.out s HR.out.2.2.1 (HR.out.1.ext u2).val (fun b hb=>by
     rcases List.mem_append.1 hb with hb|hb
     ·have:=HL.out.2.1 b hb;have:=HO2.out.2.2.2.2.size;omega
     ·rcases hsz with h|h
      ·rw [h] at hb;simp at hb
      ·exact h b hb) (HZ.out.2 s HR.out.2.2.1))
    clear b2 u2 e0 e1 e2 e3 o1 o2 o3 o4 hsz
    have HLN:=Lib.hid (show (r.kids.take m).length≤1000000 from by have:=HZ.out.1;rw [List.length_take];omega)
    go_wp2_with (first|((with_reducible refine HC.out.mono ?_);rintro e w3 ⟨v3,rfl,o3,u3⟩;obtain ⟨cs3,rfl,hF3,hl3,h13⟩:=o3.cells)|(refine wpList_push rfl rfl _ _ _ _ rfl rfl rfl 37 4 40 _ Tryz.underlying35 infoRx rfl (by decide) (by decide) (.agg cs3.toArray) cs3 rfl rfl hl3 h13 acc _ _ (ownsRow_updL HO2.out.1 u3 (by simp)) rfl rfl (by have:=HLN.out;unfold maxLen;omega) (by have:=HLN.out;omega) ?_;intro g7 c7 w7 o7 u7 k7))
    have HQ:=OwR.push (w:=w3) (w':=w7) (r:=s) HO2.out.2.1 (fun b hb=>by have:=HL.out.2.1 b hb;have:=(HO2.out.2.2.2.2.step u3).size;omega) HO2.out.2.2.1 rfl (fun i r hr=>(HO2.out.2.2.2.1 i r hr).ext u3) hF3 o7 u7 (k7.imp (fun h=>h.symm) fun h=>⟨_,rfl,h⟩)
    rw [←HR.out.2.1] at HQ
    have hlm:(r.kids.take m).length=m:=by rw [List.length_take];omega
    rw [hlm] at HQ
    refine ⟨⟨m+1,_,by go_num,rfl,by omega,HQ,fun q hq=>?_,(HO2.out.2.2.2.2.step u3).fresh u7 (fun b hb=>.inr (HO.out.2.1 b (by simpa using hb)))⟩,by simp [intOf];omega⟩
    simp only [Value.ownBlock,Option.some.injEq] at hq
    subst hq
    rcases k7 with k7|k7
    ·exact HO.out.2.1 _ k7
    ·have:=(HO2.out.2.2.2.2.step u3).size;omega
   ·have hme:m=r.kids.length:=by omega
    subst hme
    rw [List.take_length] at HO
    obtain ⟨ac,cc,rfl,_⟩:=id HO.out.1.list.form
    have bA:=HL.out.2.2.2.upd HO.out.2.2 (by simp)
    have bR:=HX.out.1.upd HO.out.2.2 (by simp)
    have k0:=bA.cell (i:=0) rfl
    have k1:=bA.cell (i:=1) rfl
    have k2:=bA.cell (i:=2) rfl
    have r0:=bR.cell (i:=0) rfl
    have r1:=bR.cell (i:=1) rfl
    have r2:=bR.cell (i:=2) rfl
    have r3:=bR.cell (i:=3) rfl
    have rf:∀ q,wr.frozen? ⟨rb,q,none⟩=false:=bR.free
    have HBR:=Lib.hid bR
    clear bA bR
    go_wp2_with fail
    have hs:=box_set (a:=.int .i64 r.kind) (b:=.int .u8 r.lo) (c:=.int .u8 r.hi) (d:=.slice ac r.kids.length cc) HBR.out
    have hres:RxF M1 wr r (rxC r.kind r.lo r.hi (.slice ac r.kids.length cc)):=by
     have h1:=RxF.iff.2 ⟨_,rfl,HL.out.2.2.1,HO.out.1.list⟩
     rwa [HE.out] at h1
    exact ret_rx rfl rfl hs.1 rfl ((hres.upd hs.2 (by simpa using HX.out.2.2.2.2.1)).sub (fun b hb=>.inl (HX.out.2.2.2.1 b hb))) ((HX.out.2.1.step HO.out.2.2).fresh hs.2 (fun b hb=>.inr (by simp at hb;subst hb;have:=HX.out.2.2.2.2.2;have:=HPA.out;omega)))
theorem ret_rx2 {M:List Nat} {w0:World} {fn:Func} {a:Act} {p q:Tmp} {rb:Nat} {cs:List Value} {r:Rx} {n:Int} (h:fn.results=#[.cell p 37,.tmp q]) (hp:a.tmps.getD p undef=.pointer (some ⟨rb,0,none⟩)) (hq:a.tmps.getD q undef=.int .i64 n) (hB:Blk w rb cs 37) (hdf:a.defers=[]) (hv:RxF M w r cs) (hu:Upd [] w0 w) :
 bodyPost Tryz.prog fn (fun e w'=>∃ v',e=.returned (.tuple #[v',.int .i64 n])∧RxV M w' r v'∧Upd [] w0 w') .ret a w:=by
 have hl:(Tryz.prog.info? 37).map (·.size)=some cs.length:=by rw [hv.len];kernel_rfl
 refine bodyPost_ret (v:=.tuple #[.agg cs.toArray,.int .i64 n]) ?_ hdf ⟨_,rfl,⟨cs,rfl,hv⟩,hu⟩
 rw [results_cell_tmp h,hp]
 have h2:=run_loadVar_row (P:=Tryz.prog) w rb 37 37 cs.toArray (0,0) (.struct _) hB Tryz.underlying37 rfl (by simpa using hl)
 simp [asAddr,h2,Result.andThen,hq]
def limE (r:Rx):Int:=if 64<nodes r then 4 else 0
def limR (r:Rx):Rx:=if 64<nodes r then rNone else r
theorem rNone_F {M:List Nat}:RxF M w rNone (rxC 0 0 0 (.slice none 0 0)):=RxF.iff.2 ⟨_,rfl,⟨by unfold IsI64;omega,by omega,by omega⟩,RxL.nil0⟩
set_option maxRecDepth 100000 in
set_option maxHeartbeats 8000000 in
theorem limited_calls {r:Rx} {M:List Nat} (hr:RxV M w r v) (hM:∀ b∈M,b<w.heap.size) (hn:nodes r≤1000000) :
 Calls Tryz.prog 84 #[v] w fun e w'=>∃ v',e=.returned (.tuple #[v',.int .i64 (limE r)])∧RxV M w' (limR r) v'∧Upd [] w w':=by
 obtain ⟨a1,c1,rfl,hF,_,_⟩:=hr.shape
 obtain ⟨w1,M1,rb,hw1,hrb,hM1,bA,bB,uB,hz2,hF1,hnew,hlt,hsub,hin,hle⟩:=two_boxes hF hM
 have HX:=Lib.hid (And.intro bB (And.intro uB (And.intro hF1 (And.intro hsub (And.intro hin (And.intro hle hlt))))))
 have HT:=Lib.hid (tooLarge_calls (hF1.sub (M':=[]) (by simp)).val)
 clear hr hF hM
 go_enter Tryz.func84,Tryz.ntmps84
 go_upto_region 1 with fail
 change Code.wp _ _ _ _ ((w.alloc (.cells (rxC r.kind r.lo r.hi (.slice a1 r.kids.length c1)).toArray 37)).alloc (.cells #[.int .i64 0,.int .u8 0,.int .u8 0,.slice none 0 0] 37))
 rw [←hw1,←hrb]
 have k0:=bA.cell (i:=0) rfl
 have k1:=bA.cell (i:=1) rfl
 have k2:=bA.cell (i:=2) rfl
 have k3:=bA.cell (i:=3) rfl
 clear bA bB uB hz2 hF1 hnew hlt hsub hin hle hM1
 clear hw1 hrb
 generalize hpa:w.heap.size=pa at *
 have HPA:=Lib.hid hpa
 clear hpa
 by_cases h64:64<nodes r
 ·rw [decide_eq_true h64] at HT
  have HE:=Lib.hid (And.intro (show limE r=4 by rw [limE,if_pos h64]) (show limR r=rNone by rw [limR,if_pos h64]))
  clear h64
  go_upto_region 2 with (first|(with_reducible refine HT.out.mono ?_);rintro e w2 ⟨rfl,hu⟩)
  have bR:=HX.out.1.upd hu (by simp)
  have r0:=bR.cell (i:=0) rfl
  have r1:=bR.cell (i:=1) rfl
  have r2:=bR.cell (i:=2) rfl
  have r3:=bR.cell (i:=3) rfl
  have rf:∀ q,w2.frozen? ⟨rb,q,none⟩=false:=bR.free
  have HB:=Lib.hid (And.intro bR hu)
  clear bR hu
  go_wp2_with fail
  have hs:=box_set (a:=.int .i64 0) (b:=.int .u8 0) (c:=.int .u8 0) (d:=.slice none 0 0) HB.out.1
  rw [HE.out.1,HE.out.2]
  exact ret_rx2 rfl rfl rfl hs.1 rfl rNone_F ((HX.out.2.1.step HB.out.2).fresh hs.2 (fun b hb=>.inr (by simp at hb;subst hb;have:=HX.out.2.2.2.2.2.1;have:=HPA.out;omega)))
 ·rw [decide_eq_false h64] at HT
  have HE:=Lib.hid (And.intro (show limE r=0 by rw [limE,if_neg h64]) (show limR r=r by rw [limR,if_neg h64]))
  have HN:=Lib.hid hn
  clear h64 hn
  go_upto_region 3 with (first|(with_reducible refine HT.out.mono ?_);rintro e w2 ⟨rfl,hu⟩)
  have bR:=HX.out.1.upd hu (by simp)
  have HB:=Lib.hid (And.intro bR hu)
  have HC:=Lib.hid (clone_calls r (HX.out.2.2.1.ext hu).val (fun b hb=>by have:=HX.out.2.2.2.2.2.2 b hb;have:=hu.size;omega) HN.out)
  have g0:=hu.some k0 (by simp)
  have g1:=hu.some k1 (by simp)
  have g2:=hu.some k2 (by simp)
  have g3:=hu.some k3 (by simp)
  clear bR k0 k1 k2 k3 hu
  go_wp2_with ((with_reducible refine HC.out.mono ?_);rintro e w3 ⟨v3,rfl,o3,u3⟩;obtain ⟨a3,c3,rfl,hF3,_,_⟩:=o3.shape;have bR:=HB.out.1.upd u3 (by simp);have r0:=bR.cell (i:=0) rfl;have r1:=bR.cell (i:=1) rfl;have r2:=bR.cell (i:=2) rfl;have r3:=bR.cell (i:=3) rfl;have rf:∀ q,w3.frozen? ⟨rb,q,none⟩=false:=bR.free;have HB3:=Lib.hid (And.intro bR (And.intro u3 hF3));clear bR hF3 o3 u3 g0 g1 g2 g3)
  have hs:=box_set (a:=.int .i64 r.kind) (b:=.int .u8 r.lo) (c:=.int .u8 r.hi) (d:=.slice a3 r.kids.length c3) HB3.out.1
  rw [HE.out.1,HE.out.2]
  exact ret_rx2 rfl rfl rfl hs.1 rfl ((HB3.out.2.2.upd hs.2 (by simpa using HX.out.2.2.2.2.1)).sub (fun b hb=>.inl (HX.out.2.2.2.1 b hb))) (((HX.out.2.1.step HB.out.2).step HB3.out.2.1).fresh hs.2 (fun b hb=>.inr (by simp at hb;subst hb;have:=HX.out.2.2.2.2.2.1;have:=HPA.out;omega)))
end
end Rgx
end Go.Proofs.YtjclbjdkkdijbaaGreat
end
