/- Walks through the reference model of package regex: the maker of expressions. Conditions: none. -/
import Derived.Test.YtjclbjdkkdijbaaGreatRfZb
import Derived.Test.YtjclbjdkkdijbaaGreatAuZc
set_option linter.unusedVariables false
set_option linter.unusedSimpArgs false
set_option linter.unusedSectionVars false
section
open Go.RowKit
namespace Go.Proofs.YtjclbjdkkdijbaaGreat
open L
namespace Rgx
open Rx Aut R01
def rngR (l:List Int) (n:Nat):Rx × Nat:=
 if pick l ((n+1:Nat):Int) 4=0 then (nd 2 ([97,98,97,98,99,0,39,92,255,32].getD (pick l n 10).toNat 0) (max ([97,98,97,98,99,0,39,92,255,32].getD (pick l n 10).toNat 0) (pick l ((n+2:Nat):Int) 256)) [],n+3)
 else (nd 2 ([97,98,97,98,99,0,39,92,255,32].getD (pick l n 10).toNat 0) ([97,98,97,98,99,0,39,92,255,32].getD (pick l n 10).toNat 0) [],n+2)
def kdR (l:List Int) (d n:Nat):Int × Nat:=if d<2∨7<pick l n 14 then ([2,2,2,2,1,0].getD (pick l ((n+1:Nat):Int) 6).toNat 0,n+2) else (pick l n 14,n+1)
def manyR (l:List Int) (d n:Nat):Int × Nat:=if d=4 then (pick l ((n+1:Nat):Int) 4,n+2) else (pick l n 3,n+1)
def kidsR (f:Nat→Rx × Nat) (n:Nat):Nat→List Rx × Nat
 | 0=>([],n)
 | m+1=>((kidsR f n m).1++[(f (kidsR f n m).2).1],(f (kidsR f n m).2).2)
def nodR (l:List Int) (d:Nat) (f:Nat→Rx × Nat) (k:Int) (n:Nat):Rx × Nat:=
 if k=2 then rngR l n
 else if k=3∨k=4∨k=5 then (nd k 0 0 (kidsR f (manyR l d n).2 (manyR l d n).1.toNat).1,(kidsR f (manyR l d n).2 (manyR l d n).1.toNat).2)
 else if k=6∨k=7 then (nd k 0 0 [(f n).1],(f n).2)
 else (nd k 0 0 [],n)
def mkR (l:List Int):Nat→Nat→Rx × Nat
 | 0,n=>nodR l 0 (fun n=>(rNone,n)) (kdR l 0 n).1 (kdR l 0 n).2
 | d+1,n=>nodR l (d+1) (mkR l d) (kdR l (d+1) n).1 (kdR l (d+1) n).2
theorem pick_lo {l:List Int} {i m:Int} (hm:0<m):0≤pick l i m:=by
 unfold pick
 split
 ·exact Int.le_refl _
 ·exact around_lo hm
theorem pick_hi {l:List Int} {i m:Int} (hm:0<m):pick l i m<m:=by
 unfold pick
 split
 ·exact hm
 ·exact around_hi hm
theorem pick_nat (l:List Int) (i:Int) {m:Nat} (hm:0<m):∃ k:Nat,pick l i m=k∧k<m:=by
 have h1:=pick_lo (l:=l) (i:=i) (m:=m) (by omega)
 have h2:=pick_hi (l:=l) (i:=i) (m:=m) (by omega)
 exact ⟨(pick l i m).toNat,by omega,by omega⟩
theorem kdL_cases {l:List Int} {i:Int}:∃ k:Nat,pick l i 6=k∧k<6:=pick_nat l i (m:=6) (by omega)
theorem kdR_spec (l:List Int) (d n:Nat):(0≤(kdR l d n).1∧(kdR l d n).1≤7)∧(3≤(kdR l d n).1→2≤d)∧(kdR l d n).2≤n+2:=by
 unfold kdR
 split
 ·obtain ⟨k,hk,hk2⟩:=kdL_cases (l:=l) (i:=((n+1:Nat):Int))
  simp only [hk,Int.toNat_natCast]
  rcases (by omega:k=0∨k=1∨k=2∨k=3∨k=4∨k=5) with rfl|rfl|rfl|rfl|rfl|rfl <;> simp
 ·rename_i h
  have h1:=pick_lo (l:=l) (i:=n) (m:=14) (by omega)
  exact ⟨⟨h1,by omega⟩,fun _=>by omega,by simp⟩
theorem rngR_at (l:List Int) (n:Nat):(rngR l n).2≤n+3:=by unfold rngR;split <;> simp
theorem manyR_spec (l:List Int) (d n:Nat):(0≤(manyR l d n).1∧(manyR l d n).1≤3)∧(manyR l d n).2≤n+2:=by
 unfold manyR
 split
 ·have h1:=pick_lo (l:=l) (i:=((n+1:Nat):Int)) (m:=4) (by omega)
  have h2:=pick_hi (l:=l) (i:=((n+1:Nat):Int)) (m:=4) (by omega)
  exact ⟨⟨h1,by simp only;omega⟩,by simp⟩
 ·have h1:=pick_lo (l:=l) (i:=n) (m:=3) (by omega)
  have h2:=pick_hi (l:=l) (i:=n) (m:=3) (by omega)
  exact ⟨⟨h1,by simp only;omega⟩,by simp⟩
theorem kidsR_at {f:Nat→Rx × Nat} {B:Nat} (hB:∀ n,(f n).2≤n+B) (n:Nat):∀ m,(kidsR f n m).2≤n+m*B
 | 0=>by simp [kidsR]
 | m+1=>by
  have h1:=kidsR_at hB n m
  have h2:=hB (kidsR f n m).2
  rw [kidsR,Nat.add_mul]
  simp only
  omega
theorem kidsR_len {f:Nat→Rx × Nat} (n:Nat):∀ m,(kidsR f n m).1.length=m
 | 0=>rfl
 | m+1=>by rw [kidsR,List.length_append,kidsR_len n m];rfl
theorem nodR_at {l:List Int} {d:Nat} {f:Nat→Rx × Nat} {B:Nat} (hB:∀ n,(f n).2≤n+B) (k:Int) (n:Nat):(nodR l d f k n).2≤n+3+3*B:=by
 unfold nodR
 have h1:=rngR_at l n
 have h2:=manyR_spec l d n
 have h3:=kidsR_at hB (manyR l d n).2 (manyR l d n).1.toNat
 have h4:=hB n
 have h5:(manyR l d n).1.toNat*B≤3*B:=Nat.mul_le_mul_right _ (by omega)
 split
 ·omega
 ·split
  ·simp only;omega
  ·split
   ·simp only;omega
   ·simp only;omega
def kb:Nat→Nat
 | 0=>10
 | d+1=>10+3*kb d
theorem mkR_at (l:List Int):∀ d n,(mkR l d n).2≤n+kb d
 | 0,n=>by
  have h1:=nodR_at (l:=l) (d:=0) (f:=fun n=>(rNone,n)) (B:=0) (fun n=>Nat.le_refl _) (kdR l 0 n).1 (kdR l 0 n).2
  have h2:=kdR_spec l 0 n
  rw [mkR,kb]
  omega
 | d+1,n=>by
  have h1:=nodR_at (l:=l) (d:=d+1) (f:=mkR l d) (B:=kb d) (mkR_at l d) (kdR l (d+1) n).1 (kdR l (d+1) n).2
  have h2:=kdR_spec l (d+1) n
  rw [mkR,kb]
  omega
theorem kidsR_nodes {f:Nat→Rx × Nat} {B:Nat} (hB:∀ n,nodes (f n).1≤B) (n:Nat):∀ m,nodesL (kidsR f n m).1≤m*B
 | 0=>by simp [kidsR,nodesL]
 | m+1=>by
  have h1:=kidsR_nodes hB n m
  have h2:=hB (kidsR f n m).2
  rw [kidsR,nodesL_app,Nat.add_mul]
  simp only [nodesL]
  omega
theorem nodR_nodes {l:List Int} {d:Nat} {f:Nat→Rx × Nat} {B:Nat} (hB:∀ n,nodes (f n).1≤B) (k:Int) (n:Nat):nodes (nodR l d f k n).1≤1+3*B:=by
 unfold nodR
 have h2:=manyR_spec l d n
 have h3:=kidsR_nodes hB (manyR l d n).2 (manyR l d n).1.toNat
 have h4:=hB n
 have h5:(manyR l d n).1.toNat*B≤3*B:=Nat.mul_le_mul_right _ (by omega)
 split
 ·unfold rngR
  split <;> simp [nodes,nodesL]
 ·split
  ·simp only [nodes];omega
  ·split
   ·simp only [nodes,nodesL];omega
   ·simp [nodes,nodesL]
theorem mkR_nodes (l:List Int):∀ d n,nodes (mkR l d n).1≤4 ^ (d+1)
 | 0,n=>by
  have h1:=nodR_nodes (l:=l) (d:=0) (f:=fun n=>(rNone,n)) (B:=1) (fun n=>by simp [rNone,nodes,nodesL]) (kdR l 0 n).1 (kdR l 0 n).2
  rw [mkR]
  omega
 | d+1,n=>by
  have h1:=nodR_nodes (l:=l) (d:=d+1) (f:=mkR l d) (B:=4 ^ (d+1)) (mkR_nodes l d) (kdR l (d+1) n).1 (kdR l (d+1) n).2
  have h3:4 ^ (d+1+1)=4*4 ^ (d+1):=by rw [Nat.pow_succ];omega
  have h4:0<4 ^ (d+1):=Nat.pow_pos (by omega)
  rw [mkR]
  omega
def madeR (l:List Int):Rx:=(mkR l 4 0).1
theorem madeR_nodes (l:List Int):nodes (madeR l)≤1024:=mkR_nodes l 4 0
section
variable {w w':World} {v:Value} {M:List Nat}
theorem sl_upd {S:List Nat} {n:Nat} {cs:List Value} (h:SL w 1 v n cs) (hu:Upd S w w') (hS:0<n→∀ b∈S,v.ownBlock≠some b):SL w' 1 v n cs:=by
 by_cases h0:0<n
 ·exact h.upd hu (hS h0)
 ·obtain ⟨h1,a,cap,rfl,h2,h3,h4,_⟩:=h
  exact ⟨h1,a,cap,rfl,h2,h3,h4,.inl (by omega)⟩
set_option maxRecDepth 100000 in
set_option maxHeartbeats 8000000 in
theorem next_calls {xs:List Int} {vl:Value} {mb n:Nat} {m:Int} (hb:Blk w mb [vl,.int .i64 n] 84) (hl:SL w 1 vl xs.length (ints xs)) (ho:0<xs.length→vl.ownBlock≠some mb) (hx:∀ x∈xs,IsI64 x) (hn:n≤1000000) (hm:1≤m) (hm2:m≤1000) :
 Calls Tryz.prog 83 #[.pointer (some ⟨mb,0,none⟩),.int .i64 m] w fun e w'=>e=.returned (.int .i64 (pick xs n m))∧Blk w' mb [vl,.int .i64 ((n+1:Nat):Int)] 84∧Upd [mb] w w':=by
 have HS:=Lib.hid (show Blk (w.setCell ⟨mb,1,none⟩ (.int .i64 ((n+1:Nat):Int))) mb [vl,.int .i64 ((n+1:Nat):Int)] 84 from hb.set 1 _)
 have HU:=Lib.hid (show Upd [mb] w (w.setCell ⟨mb,1,none⟩ (.int .i64 ((n+1:Nat):Int))) from (Upd.refl _ _).set (by simp) _)
 obtain ⟨a,c,rfl,q1,r1,_⟩:=SL.elems hl
 have hl2:=sl_upd hl HU.out (fun h=>by simpa using ho h)
 have HL:=Lib.hid hl2
 have HX:=Lib.hid hx
 have HM:=Lib.hid (And.intro hm hm2)
 have k0:=hb.cell (i:=0) rfl
 have k1:=hb.cell (i:=1) rfl
 have hf:∀ q,w.frozen? ⟨mb,q,none⟩=false:=hb.free
 clear hb hl hl2 hx ho hm hm2
 go_enter Tryz.func83,Tryz.ntmps83
 go_upto_region 2 with fail
 have en:((n:Nat):Int)+1=((n+1:Nat):Int):=by omega
 rw [en]
 generalize hw:(w.setCell ⟨mb,1,none⟩ (.int .i64 ((n+1:Nat):Int)))=w1 at *
 have k0:=HS.out.cell (i:=0) rfl
 have k1:=HS.out.cell (i:=1) rfl
 have HC:=Lib.hid (fun (w':World) (u:Upd [] w1 w')=>Pick_calls HX.out (HL.out.upd u (by simp)) (n:Int) m HM.out.1 (by have:=HM.out.2;omega))
 have es:((n+1:Nat):Int) - 1=(n:Int):=by omega
 clear en hw
 refine wp_region_qx (by kernel_rfl) (by kernel_rfl) ?_
 repeat (go_big_quiet_step (((go_at_call 79;exact qs (HC.out _ (Ext.upd _))))))
 refine wpQuiet_nil ?_
 intro x
 go_wp2_with fail
 go_ret
 exact ⟨rfl,HS.out.upd x.upd (by simp),HU.out.step x.upd⟩
def MkP (M:List Nat) (w:World) (mb:Nat) (vl:Value) (q:Rx × Nat) (e:Ending) (w':World):Prop:=∃ v',e=.returned v'∧RxV M w' q.1 v'∧Upd [mb] w w'∧Blk w' mb [vl,.int .i64 (q.2:Nat)] 84
theorem ret_rrm {M:List Nat} {w0:World} {fn:Func} {a:Act} {p:Tmp} {rb mb:Nat} {vl:Value} {cs:List Value} {q:Rx × Nat} (h:fn.results=#[.cell p 25]) (hp:a.tmps.getD p undef=.pointer (some ⟨rb,0,none⟩)) (hB:Blk w rb cs 25) (hdf:a.defers=[]) (hv:RxF M w q.1 cs) (hu:Upd [mb] w0 w) (hm:Blk w mb [vl,.int .i64 (q.2:Nat)] 84) :
 bodyPost Tryz.prog fn (MkP M w0 mb vl q) .ret a w:=by
 have hl:(Tryz.prog.info? 25).map (·.size)=some cs.length:=by rw [hv.len];kernel_rfl
 exact bodyPost_ret (results_cell_row h a.tmps w rb 25 cs.toArray (0,0) (.struct _) hp hB Tryz.underlying25 rfl (by simpa using hl)) hdf ⟨_,rfl,⟨cs,rfl,hv⟩,hu,hm⟩
def One (p:Addr) (v:Value):Type:={ w:World // w.cell? p=some v }
def One.val {p:Addr} {v:Value} (x:One p v):World:=x.1
theorem One.c {p:Addr} {v:Value} (x:One p v):x.val.cell? p=some v:=x.2
attribute [go_sem] One.c
theorem One.of {p:Addr} {v:Value} {w:World} (h:w.cell? p=some v):∃ x:One p v,w=x.val:=⟨⟨w,h⟩,rfl⟩
set_option maxRecDepth 100000 in
set_option maxHeartbeats 16000000 in
theorem maker_step {l:List Int} (hx:∀ x∈l,IsI64 x) {d B:Nat} (hd:d≤4) {f:Nat→Rx × Nat} (hfB:∀ n,(f n).2≤n+B)
 (hI:1≤d→∀ (M:List Nat) (w:World) (vl:Value) (mb n:Nat),Blk w mb [vl,.int .i64 (n:Nat)] 84→SL w 1 vl l.length (ints l)→(0<l.length→vl.ownBlock≠some mb)→mb∈M→(∀ b∈M,b<w.heap.size)→n+B≤100000→Calls Tryz.prog 43 #[.pointer (some ⟨mb,0,none⟩),.int .i64 ((d:Int) - 1)] w (MkP M w mb vl (f n)))
 {vl:Value} {mb n:Nat} (hb:Blk w mb [vl,.int .i64 (n:Nat)] 84) (hl:SL w 1 vl l.length (ints l)) (ho:0<l.length→vl.ownBlock≠some mb) (hmM:mb∈M) (hM:∀ b∈M,b<w.heap.size) (hn:n+10+3*B≤100000) :
 Calls Tryz.prog 43 #[.pointer (some ⟨mb,0,none⟩),.int .i64 d] w (MkP M w mb vl (nodR l d f (kdR l d n).1 (kdR l d n).2)):=by
 have HNX:=Lib.hid (fun (w':World) (u:Upd [mb] w w') (q:Nat) (hb':Blk w' mb [vl,.int .i64 (q:Nat)] 84) (hq:q≤100000) (m:Int) (h1:1≤m) (h2:m≤1000)=>next_calls hb' (sl_upd hl u (fun h=>by simpa using ho h)) ho hx (by omega) h1 h2)
 have HII:=Lib.hid (fun (h1:1≤d) (M':List Nat) (w':World) (u:Upd [mb] w w') (q:Nat) (hb':Blk w' mb [vl,.int .i64 (q:Nat)] 84) (hm:mb∈M') (hM':∀ b∈M',b<w'.heap.size) (hq:q+B≤100000)=>hI h1 M' w' vl mb q hb' (sl_upd hl u (fun h=>by simpa using ho h)) ho hm hM' hq)
 have HM:=Lib.hid (And.intro hmM (And.intro hM (And.intro hb.lt (And.intro hfB hn))))
 have HMB:=Lib.hid hb
 clear hI hl ho hx hmM hM hb hfB
 go_enter Tryz.func43,Tryz.ntmps43
 go_upto_region 1 with fail
 have bR:=Blk.new w [.int .i64 0,.int .u8 0,.int .u8 0,.slice none 0 0] 25
 have uR:=(Upd.refl [] w).alloc (.cells #[.int .i64 0,.int .u8 0,.int .u8 0,.slice none 0 0] 25)
 change Code.wp _ _ _ _ (w.alloc (.cells #[.int .i64 0,.int .u8 0,.int .u8 0,.slice none 0 0] 25))
 change Blk (w.alloc (.cells #[.int .i64 0,.int .u8 0,.int .u8 0,.slice none 0 0] 25)) _ _ _ at bR
 generalize (w.alloc (.cells #[.int .i64 0,.int .u8 0,.int .u8 0,.slice none 0 0] 25))=w1 at *
 generalize hrb:w.heap.size=rb at *
 have HR:=Lib.hid (And.intro bR (And.intro uR hrb))
 have hne:rb≠mb:=by have:=HM.out.2.2.1;omega
 have HNE:=Lib.hid hne
 clear bR uR hrb hne
 have HN1:=Lib.hid (HNX.out w1 HR.out.2.1.nil n (HMB.out.upd HR.out.2.1 (by simp)) (by omega) 14 (by omega) (by omega))
 obtain ⟨p,hp,hp14⟩:=pick_nat l n (m:=14) (by omega)
 have hkd:kdR l d n=if d<2∨7<p then ([2,2,2,2,1,0].getD (pick l ((n+1:Nat):Int) 6).toNat 0,n+2) else ((p:Int),n+1):=by
  unfold kdR
  have hp':pick l n 14=(p:Nat):=hp
  rw [hp']
  by_cases h:d<2∨7<p
  ·rw [if_pos h,if_pos (by omega)]
  ·rw [if_neg h,if_neg (by omega)]
 have HKD:=Lib.hid hkd
 rw [show pick l n 14=(p:Nat) from hp] at HN1
 clear hp hkd
 go_upto_region 2 with ((with_reducible refine HN1.out.mono ?_);rintro e w2 ⟨rfl,hb2,u2⟩)
 have H2:=Lib.hid (And.intro hb2 (And.intro (HR.out.2.1.nil.trans u2) (HR.out.1.upd u2 (by simpa using HNE.out))))
 clear hb2 u2
 go_cut [16] (fun t w'=>t=.bool (decide (d<2∨7<p))∧w'=w2)
 case first=>
  by_cases h1:d<2
  ·have h1i:(d:Int)<2:=by omega
   have hq:decide (d<2∨7<p)=true:=by simp [h1]
   have HQ:=Lib.hid hq
   clear hq
   go_wp2_with fail
   go_meet
   case rel=>exact ⟨congrArg Value.bool HQ.out.symm,rfl⟩
  ·have h1i:¬ (d:Int)<2:=by omega
   by_cases h2:7<p
   ·have h2i:(7:Int)<p:=by omega
    have hq:decide (d<2∨7<p)=true:=by simp [h2]
    have HQ:=Lib.hid hq
    clear hq
    go_wp2_with fail
    go_meet
    case rel=>exact ⟨congrArg Value.bool HQ.out.symm,rfl⟩
   ·have h2i:¬ (7:Int)<p:=by omega
    have hq:decide (d<2∨7<p)=false:=by simp [h1,h2]
    have HQ:=Lib.hid hq
    clear hq
    go_wp2_with fail
    go_meet
    case rel=>exact ⟨congrArg Value.bool HQ.out.symm,rfl⟩
 case rest=>
 obtain ⟨rfl,rfl⟩:=hcut
 obtain ⟨wq,rfl⟩:∃ y:World,y=wc:=⟨_,rfl⟩
 go_upto_if 16 with fail
 go_cut [5] (fun t w'=>t=.int .i64 (kdR l d n).1∧Blk w' mb [vl,.int .i64 ((kdR l d n).2:Nat)] 84∧Upd [mb] wq w')
 case first=>
  by_cases h:d<2∨7<p
  ·have hk:=HKD.out
   rw [if_pos h] at hk
   obtain ⟨p6,hp6,hp6b⟩:=kdL_cases (l:=l) (i:=((n+1:Nat):Int))
   have hp6':pick l ((n+1:Nat):Int) 6=(p6:Nat):=hp6
   rw [hp6',Int.toNat_natCast] at hk
   have HG:=Lib.hid (show (ints [2,2,2,2,1,0])[p6]?=some (.int .i64 ([2,2,2,2,1,0].getD p6 0)) from ints_gd (by simpa using hp6b))
   generalize [2,2,2,2,1,0].getD p6 (0:Int)=kk at *
   have HK:=Lib.hid hk
   rw [decide_eq_true h]
   clear h hk
   go_upto_region 3 with fail
   refine wp_region_lit ?_
   refine wpList_cutH 1 (fun K hK=>?_)
   simp only [List.take_succ_cons,List.take_zero]
   go_wp2_with fail
   refine Halt_.intro ?_;try simp only [List.drop_succ_cons,List.drop_zero]
   have HT:=Lib.hid (show Blk (wq.alloc (.cells #[.int .i64 2,.int .i64 2,.int .i64 2,.int .i64 2,.int .i64 1,.int .i64 0] 3)) wq.heap.size (ints [2,2,2,2,1,0]) 3∧Upd [] wq (wq.alloc (.cells #[.int .i64 2,.int .i64 2,.int .i64 2,.int .i64 2,.int .i64 1,.int .i64 0] 3)) from ⟨Blk.new wq (ints [2,2,2,2,1,0]) 3,(Upd.refl [] wq).alloc _⟩)
   generalize (wq.alloc (.cells #[.int .i64 2,.int .i64 2,.int .i64 2,.int .i64 2,.int .i64 1,.int .i64 0] 3))=w3 at *
   have HTB:=Lib.hid (show wq.heap.size≠mb from fun e=>by have:=H2.out.1.lt;omega)
   generalize wq.heap.size=tb at *
   have HN6:=Lib.hid (HNX.out w3 (H2.out.2.1.step HT.out.2) (n+1) (H2.out.1.upd HT.out.2 (by simp)) (by omega) 6 (by omega) (by omega))
   rw [hp6'] at HN6
   clear hp6 hp6'
   go_wp2_with ((with_reducible refine HN6.out.mono ?_);rintro e w4 ⟨rfl,hb4,u4⟩;have hc4:=(HT.out.1.upd u4 (by simpa using HTB.out)).cell HG.out;have H4:=Lib.hid (And.intro hb4 u4);clear hb4 u4)
   go_meet
   case rel=>
    rw [HK.out]
    exact ⟨rfl,H4.out.1,HT.out.2.nil.trans H4.out.2⟩
  ·have hk:=HKD.out
   rw [if_neg h] at hk
   have HK:=Lib.hid hk
   rw [decide_eq_false h]
   clear h hk
   go_wp2_with fail
   go_meet
   case rel=>
    rw [HK.out]
    exact ⟨rfl,H2.out.1,Upd.refl _ _⟩
 case rest=>
 obtain ⟨rfl,hb5,u5⟩:=hcut
 have hsp:=kdR_spec l d n
 generalize (kdR l d n).1=k at *
 generalize (kdR l d n).2=n1 at *
 have hk:=hsp.1
 have HKS:=Lib.hid hsp.2
 have hn1:n1≤n+2:=hsp.2.2
 clear hsp HKD hp14
 go_upto_region 5 with fail
 have HB:=Lib.hid (show Blk (wc.alloc (.cells #[.int .i64 k,.int .u8 0,.int .u8 0,.slice none 0 0] 25)) wc.heap.size [.int .i64 k,.int .u8 0,.int .u8 0,.slice none 0 0] 25∧Upd [] wc (wc.alloc (.cells #[.int .i64 k,.int .u8 0,.int .u8 0,.slice none 0 0] 25)) from ⟨Blk.new wc [.int .i64 k,.int .u8 0,.int .u8 0,.slice none 0 0] 25,(Upd.refl [] wc).alloc _⟩)
 have HX:=Lib.hid (show Blk (wc.alloc (.cells #[.int .i64 k,.int .u8 0,.int .u8 0,.slice none 0 0] 25)) mb [vl,.int .i64 (n1:Nat)] 84∧Blk (wc.alloc (.cells #[.int .i64 k,.int .u8 0,.int .u8 0,.slice none 0 0] 25)) rb [.int .i64 0,.int .u8 0,.int .u8 0,.slice none 0 0] 25∧Upd [mb] w (wc.alloc (.cells #[.int .i64 k,.int .u8 0,.int .u8 0,.slice none 0 0] 25))∧wc.heap.size≠mb∧wc.heap.size≠rb∧w.heap.size≤wc.heap.size from by
  have h1:=(H2.out.2.2.upd u5 (by simpa using HNE.out))
  have h2:=h1.lt
  have h3:=hb5.lt
  exact ⟨hb5.upd HB.out.2 (by simp),h1.upd HB.out.2 (by simp),(H2.out.2.1.trans u5).step HB.out.2,by omega,by omega,(H2.out.2.1.trans u5).size⟩)
 change Code.wp _ _ _ _ (wc.alloc (.cells #[.int .i64 k,.int .u8 0,.int .u8 0,.slice none 0 0] 25))
 generalize (wc.alloc (.cells #[.int .i64 k,.int .u8 0,.int .u8 0,.slice none 0 0] 25))=w5 at *
 generalize wc.heap.size=bx at *
 clear hb5 u5
 rcases (by omega:(k=0∨k=1)∨k=2∨(k=3∨k=4∨k=5)∨(k=6∨k=7)) with h|h|h|h
 ·have HE:=Lib.hid (show nodR l d f k n1=(nd k 0 0 [],n1) by unfold nodR;rw [if_neg (by omega),if_neg (by omega),if_neg (by omega)])
  have x0:=HB.out.1.cell (i:=0) rfl
  have x1:=HB.out.1.cell (i:=1) rfl
  have x2:=HB.out.1.cell (i:=2) rfl
  have x3:=HB.out.1.cell (i:=3) rfl
  have r0:=HX.out.2.1.cell (i:=0) rfl
  have r1:=HX.out.2.1.cell (i:=1) rfl
  have r2:=HX.out.2.1.cell (i:=2) rfl
  have r3:=HX.out.2.1.cell (i:=3) rfl
  have rf:∀ q,w5.frozen? ⟨rb,q,none⟩=false:=HX.out.2.1.free
  have HS:=Lib.hid (box_set (a:=.int .i64 k) (b:=.int .u8 0) (c:=.int .u8 0) (d:=.slice none 0 0) HX.out.2.1)
  rcases h with rfl|rfl
  all_goals
   go_wp2_with fail
   have hs:=HS.out
   rw [HE.out]
   exact ret_rrm rfl rfl hs.1 rfl (RxF.iff.2 ⟨_,rfl,⟨by unfold IsI64;omega,by omega,by omega⟩,RxL.nil0⟩) (HX.out.2.2.1.fresh hs.2 (fun b hb=>.inr (by simp at hb;subst hb;have:=HR.out.2.2;omega))) (HX.out.1.upd hs.2 (by simpa using Ne.symm HNE.out))
 ·have HE:=Lib.hid (show nodR l d f k n1=rngR l n1 by unfold nodR;rw [if_pos h])
  subst h
  obtain ⟨p10,hp10,hp10b⟩:=pick_nat l n1 (m:=10) (by omega)
  obtain ⟨p4,hp4,hp4b⟩:=pick_nat l ((n1+1:Nat):Int) (m:=4) (by omega)
  obtain ⟨p256,hp256,hp256b⟩:=pick_nat l ((n1+2:Nat):Int) (m:=256) (by omega)
  have hrg:rngR l n1=if (p4:Int)=0 then (nd 2 ([97,98,97,98,99,0,39,92,255,32].getD p10 0) (max ([97,98,97,98,99,0,39,92,255,32].getD p10 0) p256) [],n1+3) else (nd 2 ([97,98,97,98,99,0,39,92,255,32].getD p10 0) ([97,98,97,98,99,0,39,92,255,32].getD p10 0) [],n1+2):=by
   unfold rngR
   rw [show pick l n1 10=(p10:Nat) from hp10,show pick l ((n1+1:Nat):Int) 4=(p4:Nat) from hp4,show pick l ((n1+2:Nat):Int) 256=(p256:Nat) from hp256,Int.toNat_natCast]
  have hlo:0≤[97,98,97,98,99,0,39,92,255,32].getD p10 (0:Int)∧[97,98,97,98,99,0,39,92,255,32].getD p10 (0:Int)≤255:=by
   rcases (by omega:p10=0∨p10=1∨p10=2∨p10=3∨p10=4∨p10=5∨p10=6∨p10=7∨p10=8∨p10=9) with rfl|rfl|rfl|rfl|rfl|rfl|rfl|rfl|rfl|rfl <;> simp
  have HT:=Lib.hid (show ([.int .u8 97,.int .u8 98,.int .u8 97,.int .u8 98,.int .u8 99,.int .u8 0,.int .u8 39,.int .u8 92,.int .u8 255,.int .u8 32]:List Value)[p10]?=some (.int .u8 ([97,98,97,98,99,0,39,92,255,32].getD p10 0)) from by
   rcases (by omega:p10=0∨p10=1∨p10=2∨p10=3∨p10=4∨p10=5∨p10=6∨p10=7∨p10=8∨p10=9) with rfl|rfl|rfl|rfl|rfl|rfl|rfl|rfl|rfl|rfl <;> rfl)
  have HC10:=Lib.hid (show ∀ (w':World) (u:Upd [mb] w w') (hb':Blk w' mb [vl,.int .i64 (n1:Nat)] 84),Calls Tryz.prog 83 #[.pointer (some ⟨mb,0,none⟩),.int .i64 10] w' fun e w2=>e=.returned (.int .i64 (p10:Nat))∧Blk w2 mb [vl,.int .i64 ((n1+1:Nat):Int)] 84∧Upd [mb] w' w2 from fun w' u hb'=>by
   have h1:=HNX.out w' u n1 hb' (by omega) 10 (by omega) (by omega)
   rwa [show pick l n1 10=(p10:Nat) from hp10] at h1)
  have HC4:=Lib.hid (show ∀ (w':World) (u:Upd [mb] w w') (hb':Blk w' mb [vl,.int .i64 ((n1+1:Nat):Int)] 84),Calls Tryz.prog 83 #[.pointer (some ⟨mb,0,none⟩),.int .i64 4] w' fun e w2=>e=.returned (.int .i64 (p4:Nat))∧Blk w2 mb [vl,.int .i64 ((n1+2:Nat):Int)] 84∧Upd [mb] w' w2 from fun w' u hb'=>by
   have h1:=HNX.out w' u (n1+1) hb' (by omega) 4 (by omega) (by omega)
   rwa [show pick l ((n1+1:Nat):Int) 4=(p4:Nat) from hp4] at h1)
  have HC256:=Lib.hid (show ∀ (w':World) (u:Upd [mb] w w') (hb':Blk w' mb [vl,.int .i64 ((n1+2:Nat):Int)] 84),Calls Tryz.prog 83 #[.pointer (some ⟨mb,0,none⟩),.int .i64 256] w' fun e w2=>e=.returned (.int .i64 (p256:Nat))∧Blk w2 mb [vl,.int .i64 ((n1+3:Nat):Int)] 84∧Upd [mb] w' w2 from fun w' u hb'=>by
   have h1:=HNX.out w' u (n1+2) hb' (by omega) 256 (by omega) (by omega)
   rwa [show pick l ((n1+2:Nat):Int) 256=(p256:Nat) from hp256] at h1)
  clear hp10 hp4 hp256
  have hp10i:(p10:Int)<10:=by omega
  generalize [97,98,97,98,99,0,39,92,255,32].getD p10 (0:Int)=lo at *
  have HRG:=Lib.hid hrg
  have HLO:=Lib.hid hlo
  clear hrg
  go_upto_region 7 with fail
  refine wp_region_lit ?_
  refine wpList_cutH 1 (fun K hK=>?_)
  simp only [List.take_succ_cons,List.take_zero]
  go_wp2_with fail
  refine Halt_.intro ?_;try simp only [List.drop_succ_cons,List.drop_zero]
  have HA:=Lib.hid (show Blk (w5.alloc (.cells #[.int .u8 97,.int .u8 98,.int .u8 97,.int .u8 98,.int .u8 99,.int .u8 0,.int .u8 39,.int .u8 92,.int .u8 255,.int .u8 32] 5)) w5.heap.size [.int .u8 97,.int .u8 98,.int .u8 97,.int .u8 98,.int .u8 99,.int .u8 0,.int .u8 39,.int .u8 92,.int .u8 255,.int .u8 32] 5∧Upd [] w5 (w5.alloc (.cells #[.int .u8 97,.int .u8 98,.int .u8 97,.int .u8 98,.int .u8 99,.int .u8 0,.int .u8 39,.int .u8 92,.int .u8 255,.int .u8 32] 5)) from ⟨Blk.new w5 [.int .u8 97,.int .u8 98,.int .u8 97,.int .u8 98,.int .u8 99,.int .u8 0,.int .u8 39,.int .u8 92,.int .u8 255,.int .u8 32] 5,(Upd.refl [] w5).alloc _⟩)
  have HAB:=Lib.hid (show w5.heap.size≠mb∧Blk (w5.alloc (.cells #[.int .u8 97,.int .u8 98,.int .u8 97,.int .u8 98,.int .u8 99,.int .u8 0,.int .u8 39,.int .u8 92,.int .u8 255,.int .u8 32] 5)) mb [vl,.int .i64 (n1:Nat)] 84∧Blk (w5.alloc (.cells #[.int .u8 97,.int .u8 98,.int .u8 97,.int .u8 98,.int .u8 99,.int .u8 0,.int .u8 39,.int .u8 92,.int .u8 255,.int .u8 32] 5)) rb [.int .i64 0,.int .u8 0,.int .u8 0,.slice none 0 0] 25∧Blk (w5.alloc (.cells #[.int .u8 97,.int .u8 98,.int .u8 97,.int .u8 98,.int .u8 99,.int .u8 0,.int .u8 39,.int .u8 92,.int .u8 255,.int .u8 32] 5)) bx [.int .i64 2,.int .u8 0,.int .u8 0,.slice none 0 0] 25∧Upd [mb] w (w5.alloc (.cells #[.int .u8 97,.int .u8 98,.int .u8 97,.int .u8 98,.int .u8 99,.int .u8 0,.int .u8 39,.int .u8 92,.int .u8 255,.int .u8 32] 5)) from ⟨fun e=>by have:=HX.out.1.lt;omega,HX.out.1.upd HA.out.2 (by simp),HX.out.2.1.upd HA.out.2 (by simp),HB.out.1.upd HA.out.2 (by simp),HX.out.2.2.1.step HA.out.2⟩)
  generalize (w5.alloc (.cells #[.int .u8 97,.int .u8 98,.int .u8 97,.int .u8 98,.int .u8 99,.int .u8 0,.int .u8 39,.int .u8 92,.int .u8 255,.int .u8 32] 5))=w6 at *
  generalize w5.heap.size=tb at *
  have HN10:=Lib.hid (HC10.out w6 HAB.out.2.2.2.2 HAB.out.2.1)
  go_upto_region 8 with ((with_reducible refine HN10.out.mono ?_);rintro e w7 ⟨rfl,hb7,u7⟩;have c7:=(HA.out.1.upd u7 (by simpa using HAB.out.1)).cell HT.out;have bx7:=HAB.out.2.2.2.1.upd u7 (by simpa using HX.out.2.2.2.1);have x1:=bx7.cell (i:=1) rfl;have xf:∀ q,w7.frozen? ⟨bx,q,none⟩=false:=bx7.free;have H7:=Lib.hid (And.intro hb7 (And.intro u7 bx7));clear hb7 u7 bx7)
  have HS1:=Lib.hid (show Blk (w7.setCell ⟨bx,1,none⟩ (.int .u8 lo)) bx [.int .i64 2,.int .u8 lo,.int .u8 0,.slice none 0 0] 25∧Upd [bx] w7 (w7.setCell ⟨bx,1,none⟩ (.int .u8 lo)) from ⟨H7.out.2.2.set 1 _,(Upd.refl [bx] w7).set (p:=⟨bx,1,none⟩) (by simp) _⟩)
  generalize (w7.setCell ⟨bx,1,none⟩ (.int .u8 lo))=w8 at *
  clear x1 xf c7
  have x1:=HS1.out.1.cell (i:=1) rfl
  have x2:=HS1.out.1.cell (i:=2) rfl
  have xf:∀ q,w8.frozen? ⟨bx,q,none⟩=false:=HS1.out.1.free
  go_upto_region 9 with fail
  have HS2:=Lib.hid (show Blk (w8.setCell ⟨bx,2,none⟩ (.int .u8 lo)) bx [.int .i64 2,.int .u8 lo,.int .u8 lo,.slice none 0 0] 25∧Upd [bx] w7 (w8.setCell ⟨bx,2,none⟩ (.int .u8 lo)) from ⟨HS1.out.1.set 2 _,HS1.out.2.set (p:=⟨bx,2,none⟩) (.inl (by simp)) _⟩)
  generalize (w8.setCell ⟨bx,2,none⟩ (.int .u8 lo))=w9 at *
  clear x1 x2 xf
  have HW9:=Lib.hid (show Blk w9 mb [vl,.int .i64 ((n1+1:Nat):Int)] 84∧Blk w9 rb [.int .i64 0,.int .u8 0,.int .u8 0,.slice none 0 0] 25∧Upd [mb] w w9 from ⟨H7.out.1.upd HS2.out.2 (by simpa using Ne.symm HX.out.2.2.2.1),(HAB.out.2.2.1.upd H7.out.2.1 (by simpa using HNE.out)).upd HS2.out.2 (by simpa using Ne.symm HX.out.2.2.2.2.1),(HAB.out.2.2.2.2.trans H7.out.2.1).fresh HS2.out.2 (fun b hb=>.inr (by simp at hb;subst hb;exact HX.out.2.2.2.2.2))⟩)
  have HN4:=Lib.hid (HC4.out w9 HW9.out.2.2 HW9.out.1)
  go_upto_if 38 with ((with_reducible refine HN4.out.mono ?_);rintro e w10 ⟨rfl,hb10,u10⟩)
  have HW10:=Lib.hid (show Blk w10 mb [vl,.int .i64 ((n1+2:Nat):Int)] 84∧Blk w10 rb [.int .i64 0,.int .u8 0,.int .u8 0,.slice none 0 0] 25∧Blk w10 bx [.int .i64 2,.int .u8 lo,.int .u8 lo,.slice none 0 0] 25∧Upd [mb] w w10 from ⟨hb10,HW9.out.2.1.upd u10 (by simpa using HNE.out),HS2.out.1.upd u10 (by simpa using HX.out.2.2.2.1),HW9.out.2.2.trans u10⟩)
  clear hb10 u10
  by_cases hq:p4=0
  ·subst hq
   have HRR:=Lib.hid (show nodR l d f 2 n1=(nd 2 lo (max lo (p256:Nat)) [],n1+3) by rw [HE.out,HRG.out,if_pos (by simp)])
   have x1:=HW10.out.2.2.1.cell (i:=1) rfl
   have x2:=HW10.out.2.2.1.cell (i:=2) rfl
   go_upto_region 10 with fail
   refine wp_region_ord 7 1 [0,1,2,4,5,6] [1] [0,1,2,3,4,5,6,7] (fun w'=>∃ x:One ⟨bx,1,none⟩ (.int .u8 lo),w'=x.val) (by kernel_rfl) (by kernel_rfl) (One.of x1) ?_
   repeat (first|(refine wpOrd_load rfl rfl rfl rfl (fun K hK=>?_);go_big_quiet_step (exact rfl);refine wpQuiet_nil ?_;refine hK _ ?_;clear hK K)|(refine wpOrd_free rfl rfl rfl (fun K hK=>?_);go_big_quiet_step (fail);refine wpQuiet_nil ?_;refine hK _ ?_;clear hK K))
   refine wpOrd_fix rfl rfl (fun K hK=>?_)
   go_wp2_with (go_at_call 83;refine (HC256.out _ HW10.out.2.2.2.drew HW10.out.1.drew).mono ?_;rintro e w11 ⟨rfl,hb11,u11⟩)
   have hU:=((Upd.refl [mb] w10).drew).trans u11
   have HW11:=Lib.hid (show Blk w11 mb [vl,.int .i64 ((n1+3:Nat):Int)] 84∧Blk w11 rb [.int .i64 0,.int .u8 0,.int .u8 0,.slice none 0 0] 25∧Blk w11 bx [.int .i64 2,.int .u8 lo,.int .u8 lo,.slice none 0 0] 25∧Upd [mb] w w11 from ⟨hb11,HW10.out.2.1.upd hU (by simpa using HNE.out),HW10.out.2.2.1.upd hU (by simpa using HX.out.2.2.2.1),HW10.out.2.2.2.trans hU⟩)
   clear hb11 u11 hU x1 x2
   refine ⟨fun _=>One.of (HW11.out.2.2.1.cell (i:=1) rfl),?_⟩
   have hpi:(0:Int)≤(p256:Nat)∧((p256:Nat):Int)≤255:=by omega
   have hpi0:=hpi.1
   have hpi1:=hpi.2
   repeat (first|(refine wpOrd_load rfl rfl rfl rfl (fun K hK=>?_);go_big_quiet_step (fail);refine wpQuiet_nil ?_;refine hK _ ?_;clear hK K)|(refine wpOrd_free rfl rfl rfl (fun K hK=>?_);go_big_quiet_step (fail);refine wpQuiet_nil ?_;refine hK _ ?_;clear hK K))
   refine wpOrd_fix rfl rfl (fun K hK=>?_)
   have x1:=HW11.out.2.2.1.cell (i:=1) rfl
   have x2:=HW11.out.2.2.1.cell (i:=2) rfl
   have xf:∀ q,w11.frozen? ⟨bx,q,none⟩=false:=HW11.out.2.2.1.free
   go_wp2_with fail
   have HS3:=Lib.hid (show Blk (w11.setCell ⟨bx,2,none⟩ (.int .u8 (max lo (p256:Nat)))) bx [.int .i64 2,.int .u8 lo,.int .u8 (max lo (p256:Nat)),.slice none 0 0] 25∧Upd [bx] w11 (w11.setCell ⟨bx,2,none⟩ (.int .u8 (max lo (p256:Nat)))) from ⟨HW11.out.2.2.1.set 2 _,(Upd.refl [bx] w11).set (p:=⟨bx,2,none⟩) (by simp) _⟩)
   generalize (w11.setCell ⟨bx,2,none⟩ (.int .u8 (max lo (p256:Nat))))=w12 at *
   have HW12:=Lib.hid (show Blk w12 mb [vl,.int .i64 ((n1+3:Nat):Int)] 84∧Blk w12 rb [.int .i64 0,.int .u8 0,.int .u8 0,.slice none 0 0] 25∧Upd [mb] w w12 from ⟨HW11.out.1.upd HS3.out.2 (by simpa using Ne.symm HX.out.2.2.2.1),HW11.out.2.1.upd HS3.out.2 (by simpa using Ne.symm HX.out.2.2.2.2.1),HW11.out.2.2.2.fresh HS3.out.2 (fun b hb=>.inr (by simp at hb;subst hb;exact HX.out.2.2.2.2.2))⟩)
   have HMX:=Lib.hid (show 0≤max lo (p256:Int)∧max lo (p256:Int)≤255 by have:=HLO.out;omega)
   clear x1 x2 xf
   refine ⟨fun hC=>absurd hC (by decide),?_⟩
   refine wpOrd_nil ?_
   have x0:=HS3.out.1.cell (i:=0) rfl
   have x1:=HS3.out.1.cell (i:=1) rfl
   have x2:=HS3.out.1.cell (i:=2) rfl
   have x3:=HS3.out.1.cell (i:=3) rfl
   have r0:=HW12.out.2.1.cell (i:=0) rfl
   have r1:=HW12.out.2.1.cell (i:=1) rfl
   have r2:=HW12.out.2.1.cell (i:=2) rfl
   have r3:=HW12.out.2.1.cell (i:=3) rfl
   have rf:∀ q,w12.frozen? ⟨rb,q,none⟩=false:=HW12.out.2.1.free
   go_wp2_with fail
   have hs:=box_set (a:=.int .i64 2) (b:=.int .u8 lo) (c:=.int .u8 (max lo (p256:Nat))) (d:=.slice none 0 0) HW12.out.2.1
   rw [HRR.out]
   exact ret_rrm (q:=(nd 2 lo (max lo (p256:Nat)) [],n1+3)) rfl rfl hs.1 rfl (RxF.iff.2 ⟨_,rfl,⟨by unfold IsI64;omega,HLO.out,HMX.out⟩,RxL.nil0⟩) (HW12.out.2.2.fresh hs.2 (fun b hb=>.inr (by simp at hb;subst hb;have:=HR.out.2.2;omega))) (HW12.out.1.upd hs.2 (by simpa using Ne.symm HNE.out))
  ·have HRR:=Lib.hid (show nodR l d f 2 n1=(nd 2 lo lo [],n1+2) by rw [HE.out,HRG.out,if_neg (by omega)])
   have hqi:((p4:Nat):Int)≠0:=by omega
   have hqb:(((p4:Nat):Int) == 0)=false:=by simpa using hqi
   have x0:=HW10.out.2.2.1.cell (i:=0) rfl
   have x1:=HW10.out.2.2.1.cell (i:=1) rfl
   have x2:=HW10.out.2.2.1.cell (i:=2) rfl
   have x3:=HW10.out.2.2.1.cell (i:=3) rfl
   have r0:=HW10.out.2.1.cell (i:=0) rfl
   have r1:=HW10.out.2.1.cell (i:=1) rfl
   have r2:=HW10.out.2.1.cell (i:=2) rfl
   have r3:=HW10.out.2.1.cell (i:=3) rfl
   have rf:∀ q,w10.frozen? ⟨rb,q,none⟩=false:=HW10.out.2.1.free
   go_wp2_with fail
   have hs:=box_set (a:=.int .i64 2) (b:=.int .u8 lo) (c:=.int .u8 lo) (d:=.slice none 0 0) HW10.out.2.1
   rw [HRR.out]
   exact ret_rrm (q:=(nd 2 lo lo [],n1+2)) rfl rfl hs.1 rfl (RxF.iff.2 ⟨_,rfl,⟨by unfold IsI64;omega,HLO.out,HLO.out⟩,RxL.nil0⟩) (HW10.out.2.2.2.fresh hs.2 (fun b hb=>.inr (by simp at hb;subst hb;have:=HR.out.2.2;omega))) (HW10.out.1.upd hs.2 (by simpa using Ne.symm HNE.out))
 ·have hm1:=manyR_spec l d n1
  obtain ⟨p3,hp3,hp3b⟩:=pick_nat l n1 (m:=3) (by omega)
  obtain ⟨p4,hp4,hp4b⟩:=pick_nat l ((n1+1:Nat):Int) (m:=4) (by omega)
  have hmr:manyR l d n1=if d=4 then ((p4:Int),n1+2) else ((p3:Int),n1+1):=by
   unfold manyR
   rw [show pick l n1 3=(p3:Nat) from hp3,show pick l ((n1+1:Nat):Int) 4=(p4:Nat) from hp4]
  obtain ⟨many,hmany⟩:∃ many:Nat,(manyR l d n1).1=many:=⟨(manyR l d n1).1.toNat,by omega⟩
  obtain ⟨a,ha⟩:∃ a,(manyR l d n1).2=a:=⟨_,rfl⟩
  have HE:=Lib.hid (show nodR l d f k n1=(nd k 0 0 (kidsR f a many).1,(kidsR f a many).2) by unfold nodR;rw [if_neg (by omega),if_pos h,ha,hmany,Int.toNat_natCast])
  have hmany3:many≤3:=by omega
  have ha2:a≤n1+2:=by omega
  have HMR:=Lib.hid (show (many:Int)=(if d=4 then (p4:Int) else p3)∧a=if d=4 then n1+2 else n1+1 from by
   rw [←hmany,←ha,hmr]
   split <;> exact ⟨rfl,rfl⟩)
  have HC3:=Lib.hid (show ∀ (w':World) (u:Upd [mb] w w') (hb':Blk w' mb [vl,.int .i64 (n1:Nat)] 84),Calls Tryz.prog 83 #[.pointer (some ⟨mb,0,none⟩),.int .i64 3] w' fun e w2=>e=.returned (.int .i64 (p3:Nat))∧Blk w2 mb [vl,.int .i64 ((n1+1:Nat):Int)] 84∧Upd [mb] w' w2 from fun w' u hb'=>by
   have h1:=HNX.out w' u n1 hb' (by omega) 3 (by omega) (by omega)
   rwa [show pick l n1 3=(p3:Nat) from hp3] at h1)
  have HC4:=Lib.hid (show ∀ (w':World) (u:Upd [mb] w w') (hb':Blk w' mb [vl,.int .i64 ((n1+1:Nat):Int)] 84),Calls Tryz.prog 83 #[.pointer (some ⟨mb,0,none⟩),.int .i64 4] w' fun e w2=>e=.returned (.int .i64 (p4:Nat))∧Blk w2 mb [vl,.int .i64 ((n1+2:Nat):Int)] 84∧Upd [mb] w' w2 from fun w' u hb'=>by
   have h1:=HNX.out w' u (n1+1) hb' (by omega) 4 (by omega) (by omega)
   rwa [show pick l ((n1+1:Nat):Int) 4=(p4:Nat) from hp4] at h1)
  have HD:=Lib.hid (show 2≤d from HKS.out.1 (by omega))
  have HKI:=Lib.hid (show IsI64 k by unfold IsI64;omega)
  have HN3:=Lib.hid (HC3.out w5 HX.out.2.2.1 HX.out.1)
  clear hm1 hp3 hp4 hmr hmany ha hp3b hp4b
  rcases h with rfl|rfl|rfl
  ·go_upto_region 15 with ((with_reducible refine HN3.out.mono ?_);rintro e w6 ⟨rfl,hb6,u6⟩)
   have H6:=Lib.hid (And.intro hb6 (And.intro u6 (HX.out.2.2.1.trans u6)))
   clear hb6 u6
   go_upto_if 53 with fail
   go_cut [7] (fun t w'=>t=.int .i64 (many:Nat)∧Blk w' mb [vl,.int .i64 (a:Nat)] 84∧Upd [mb] w6 w')
   case first=>
    by_cases h4:d=4
    ·have h4a:(4:Int)≤(d:Nat):=by omega
     have h4c:((d:Nat):Int)≤4:=by omega
     have HMQ:=Lib.hid (show (many:Int)=p4∧a=n1+2 from by have:=HMR.out;rwa [if_pos h4,if_pos h4] at this)
     have HN4:=Lib.hid (HC4.out w6 H6.out.2.2 H6.out.1)
     clear h4
     go_wp2_with ((with_reducible refine HN4.out.mono ?_);rintro e w8 ⟨rfl,hb8,u8⟩)
     go_meet
     case rel=>exact ⟨by rw [HMQ.out.1],by rw [HMQ.out.2];exact hb8,u8⟩
    ·have h4i:¬ ((d:Nat):Int)=4:=by omega
     have HMQ:=Lib.hid (show (many:Int)=p3∧a=n1+1 from by have:=HMR.out;rwa [if_neg h4,if_neg h4] at this)
     have h4b:(((d:Nat):Int) == 4)=false:=by simpa using h4i
     go_wp2_with fail
     go_meet
     case rel=>exact ⟨by rw [HMQ.out.1],by rw [HMQ.out.2];exact H6.out.1,Upd.refl _ _⟩
   case rest=>
   obtain ⟨rfl,hbc,uc⟩:=hcut
   have HZ:=Lib.hid (show Blk wc mb [vl,.int .i64 (a:Nat)] 84∧Upd [mb] w wc∧Blk wc bx [.int .i64 3,.int .u8 0,.int .u8 0,.slice none 0 0] 25∧Blk wc rb [.int .i64 0,.int .u8 0,.int .u8 0,.slice none 0 0] 25 from ⟨hbc,H6.out.2.2.trans uc,(HB.out.1.upd H6.out.2.1 (by simpa using HX.out.2.2.2.1)).upd uc (by simpa using HX.out.2.2.2.1),(HX.out.2.1.upd H6.out.2.1 (by simpa using HNE.out)).upd uc (by simpa using HNE.out)⟩)
   clear hbc uc
   go_wp2_with fail
   go_loopw [8] (fun iv wr=>∃ (m:Nat) (acc:Value),iv=.int .i64 m∧m≤many∧Hid (OwR 25 (bx::rb::M) wr acc (kidsR f a m).1∧(wc.heap.size≤wr.heap.size∧∀ q,acc.ownBlock=some q→wc.heap.size≤q)∧Blk wr bx [.int .i64 3,.int .u8 0,.int .u8 0,acc] 25∧Blk wr mb [vl,.int .i64 ((kidsR f a m).2:Nat)] 84∧Upd [mb] w wr∧Blk wr rb [.int .i64 0,.int .u8 0,.int .u8 0,.slice none 0 0] 25)) (fun iv _=>many - (intOf iv).toNat)
   case atStart=>exact ⟨0,_,rfl,Nat.zero_le _,Lib.hid ⟨OwR.nil0,⟨Nat.le_refl _,fun q hq=>by simp [Value.ownBlock] at hq⟩,HZ.out.2.2.1,HZ.out.1,HZ.out.2.1,HZ.out.2.2.2⟩⟩
   case round=>
    obtain ⟨m,acc,rfl,hm,HOS⟩:=hrel
    by_cases hlt:m<many
    ·have hli:(m:Int)<many:=by omega
     have HQB:=Lib.hid (show (kidsR f a m).2+B≤100000 from by
      have h1:=kidsR_at HM.out.2.2.2.1 a m
      have h2:m*B≤2*B:=Nat.mul_le_mul_right _ (by omega)
      omega)
     have HLK:=Lib.hid (show (kidsR f a m).1.length≤100 from by rw [kidsR_len];omega)
     have HLT0:=Lib.hid (show ∀ b∈bx::rb::M,b<wr.heap.size from fun b hb=>by
      rcases List.mem_cons.1 hb with rfl|hb
      ·exact HOS.out.2.2.1.lt
      ·rcases List.mem_cons.1 hb with rfl|hb
       ·exact HOS.out.2.2.2.2.2.lt
       ·have:=HM.out.2.1 b hb;have:=HOS.out.2.2.2.2.2.lt;omega)
     have HLT:=Lib.hid (show ∀ b∈bx::rb::M++acc.ownBlock.toList,b<wr.drew.heap.size from fun b hb=>by
      rcases List.mem_append.1 hb with hb|hb
      ·exact HLT0.out b hb
      ·obtain ⟨css,o1,_⟩:=HOS.out.1
       exact (o1.lt b (by simpa using hb)).2)
     have y3:=HOS.out.2.2.1.cell (i:=3) rfl
     go_upto_region 20 with fail
     refine wp_region_ord 7 1 [0,1,2,3,4,8] [1] [0,1,2,3,4,5,6,7,8,9] (fun w'=>∃ x:One ⟨bx,3,none⟩ acc,w'=x.val) (by kernel_rfl) (by kernel_rfl) (One.of y3) ?_
     repeat (first|(refine wpOrd_load rfl rfl rfl rfl (fun K hK=>?_);go_big_quiet_step (exact rfl);refine wpQuiet_nil ?_;refine hK _ ?_;clear hK K)|(refine wpOrd_free rfl rfl rfl (fun K hK=>?_);go_big_quiet_step (fail);refine wpQuiet_nil ?_;refine hK _ ?_;clear hK K))
     refine wpOrd_fix rfl rfl (fun K hK=>?_)
     go_wp2_with (go_at_call 43;refine (HII.out (by have:=HD.out;omega) (bx::rb::M++acc.ownBlock.toList) _ HOS.out.2.2.2.2.1.drew _ HOS.out.2.2.2.1.drew (by simp [HM.out.1]) HLT.out (by have:=HQB.out;omega)).mono ?_;rintro e w6 ⟨v6,rfl,r6,u6,b6⟩;obtain ⟨a6,c6,rfl,hF6,_,_⟩:=r6.shape)
     have hU:=((Upd.refl [mb] wr).drew).trans u6
     have HW6:=Lib.hid (And.intro hU (And.intro b6 (And.intro hF6 (HOS.out.2.2.1.upd hU (by simpa using HX.out.2.2.2.1)))))
     clear u6 b6 r6 hF6 hU
     refine ⟨fun _=>One.of (HW6.out.2.2.2.cell (i:=3) rfl),?_⟩
     repeat (first|(refine wpOrd_load rfl rfl rfl rfl (fun K hK=>?_);go_big_quiet_step (fail);refine wpQuiet_nil ?_;refine hK _ ?_;clear hK K)|(refine wpOrd_free rfl rfl rfl (fun K hK=>?_);go_big_quiet_step (fail);refine wpQuiet_nil ?_;refine hK _ ?_;clear hK K))
     refine wpOrd_fix rfl rfl (fun K hK=>?_)
     go_wp2_with fail
     have HNB:=Lib.hid (show Blk (w6.alloc (.cells #[.int .i64 (f (kidsR f a m).2).1.kind,.int .u8 (f (kidsR f a m).2).1.lo,.int .u8 (f (kidsR f a m).2).1.hi,.slice a6 (f (kidsR f a m).2).1.kids.length c6] 25)) w6.heap.size (rxC (f (kidsR f a m).2).1.kind (f (kidsR f a m).2).1.lo (f (kidsR f a m).2).1.hi (.slice a6 (f (kidsR f a m).2).1.kids.length c6)) 25∧Upd [] w6 (w6.alloc (.cells #[.int .i64 (f (kidsR f a m).2).1.kind,.int .u8 (f (kidsR f a m).2).1.lo,.int .u8 (f (kidsR f a m).2).1.hi,.slice a6 (f (kidsR f a m).2).1.kids.length c6] 25)) from ⟨Blk.new w6 _ _,(Upd.refl [] w6).alloc _⟩)
     generalize (w6.alloc (.cells #[.int .i64 (f (kidsR f a m).2).1.kind,.int .u8 (f (kidsR f a m).2).1.lo,.int .u8 (f (kidsR f a m).2).1.hi,.slice a6 (f (kidsR f a m).2).1.kids.length c6] 25))=wB at *
     have HG6:=Lib.hid (show wr.heap.size≤w6.heap.size from HW6.out.1.size)
     generalize w6.heap.size=gB at *
     have hbB:=HW6.out.2.2.2.upd HNB.out.2 (by simp)
     refine ⟨fun _=>One.of (hbB.cell (i:=3) rfl),?_⟩
     repeat (first|(refine wpOrd_load rfl rfl rfl rfl (fun K hK=>?_);go_big_quiet_step (fail);refine wpQuiet_nil ?_;refine hK _ ?_;clear hK K)|(refine wpOrd_free rfl rfl rfl (fun K hK=>?_);go_big_quiet_step (fail);refine wpQuiet_nil ?_;refine hK _ ?_;clear hK K))
     refine wpOrd_fix rfl rfl (fun K hK=>?_)
     obtain ⟨css,o1,o2,o3,o4⟩:=id HOS.out.1
     have HCS:=Lib.hid (And.intro o1 (And.intro o2 (And.intro o3 o4)))
     clear o1 o2 o3 o4
     have hUB:=HW6.out.1.step HNB.out.2
     have HUB:=Lib.hid hUB
     have HNM:=Lib.hid (show acc.ownBlock≠some mb from fun h=>HCS.out.2.2.1 mb (by simp [HM.out.1]) h)
     refine wpList_app rfl _ _ _ rfl 25 4 40 _ Tryz.underlying23 infoRR rfl (by decide) acc _ _ rfl (ownsRow_updL HCS.out.1 hUB (by simpa using HNM.out)) gB 1 1 (rxC (f (kidsR f a m).2).1.kind (f (kidsR f a m).2).1.lo (f (kidsR f a m).2).1.hi (.slice a6 (f (kidsR f a m).2).1.kids.length c6)) 25 rfl rfl HNB.out.1 (by simp [rxC,Value.oneCell']) (by omega) (by have:=HLK.out;unfold maxLen;omega) (by have:=HLK.out;omega) ?_
     intro g7 c7 w7 o7 u7 k7
     simp only [Act.put,List.setIfInBounds_toArray,List.set_cons_zero,List.set_cons_succ]
     have HOB:=Lib.hid (show acc.ownBlock≠some bx∧acc.ownBlock≠some rb from ⟨fun h=>HCS.out.2.2.1 bx (by simp) h,fun h=>HCS.out.2.2.1 rb (by simp) h⟩)
     have b7:=hbB.upd u7 (by simpa using HOB.out.1)
     have y3:=b7.cell (i:=3) rfl
     have yf:∀ q,w7.frozen? ⟨bx,q,none⟩=false:=b7.free
     have H7:=Lib.hid (And.intro o7 (And.intro u7 (And.intro k7 b7)))
     clear o7 u7 k7 b7 hbB hUB
     go_wp2_with fail
     refine ⟨fun hC=>absurd hC (by decide),?_⟩
     repeat (first|(refine wpOrd_load rfl rfl rfl rfl (fun K hK=>?_);go_big_quiet_step (fail);refine wpQuiet_nil ?_;refine hK _ ?_;clear hK K)|(refine wpOrd_free rfl rfl rfl (fun K hK=>?_);go_big_quiet_step (fail);refine wpQuiet_nil ?_;refine hK _ ?_;clear hK K))
     refine wpOrd_fix rfl rfl (fun K hK=>?_)
     go_wp2_with fail
     refine ⟨fun hC=>absurd hC (by decide),?_⟩
     refine wpOrd_nil ?_
     have HQ:=OwR.push (M:=bx::rb::M) (v:=acc) (ks:=(kidsR f a m).1) (w:=wB) (w':=w7) (r:=(f (kidsR f a m).2).1) HCS.out.2.1 (fun b hb=>by have:=HLT0.out b hb;have:=HUB.out.size;omega) HCS.out.2.2.1 rfl (fun i r hr=>(HCS.out.2.2.2 i r hr).upd HUB.out (by simp [HM.out.1])) (HW6.out.2.2.1.ext HNB.out.2) H7.out.1 H7.out.2.1 (by
      rcases H7.out.2.2.1 with h|h
      ·exact .inl h.symm
      ·exact .inr ⟨_,rfl,Nat.le_of_eq h.symm⟩)
     go_wp2_with fail
     have HS3:=Lib.hid (show Blk (w7.setCell ⟨bx,3,none⟩ (.slice (some ⟨g7,0,none⟩) ((kidsR f a m).1.length+1) c7)) bx [.int .i64 3,.int .u8 0,.int .u8 0,.slice (some ⟨g7,0,none⟩) ((kidsR f a m).1.length+1) c7] 25∧Upd [bx] w7 (w7.setCell ⟨bx,3,none⟩ (.slice (some ⟨g7,0,none⟩) ((kidsR f a m).1.length+1) c7)) from ⟨H7.out.2.2.2.set 3 _,(Upd.refl [bx] w7).set (p:=⟨bx,3,none⟩) (by simp) _⟩)
     have hU7:Upd [mb] w w7:=(HOS.out.2.2.2.2.1.trans HUB.out).fresh H7.out.2.1 (fun b hb=>.inr (by have h1:=HOS.out.2.1.2 b (by simpa using hb);have h2:=HZ.out.2.1.size;omega))
     refine ⟨⟨m+1,_,by go_num,by omega,Lib.hid ⟨OwR.upd HQ HS3.out.2 (by simp),⟨by have h1:=HOS.out.2.1.1;have h2:=HUB.out.size;have h3:=H7.out.2.1.size;have h4:=HS3.out.2.size;omega,fun q hq=>?_⟩,HS3.out.1,((HW6.out.2.1.upd HNB.out.2 (by simp)).upd H7.out.2.1 (by simpa using HNM.out)).upd HS3.out.2 (by simpa using Ne.symm HX.out.2.2.2.1),hU7.fresh HS3.out.2 (fun b hb=>.inr (by simp at hb;subst hb;exact HX.out.2.2.2.2.2)),((HOS.out.2.2.2.2.2.upd HUB.out (by simpa using HNE.out)).upd H7.out.2.1 (by simpa using HOB.out.2)).upd HS3.out.2 (by simpa using Ne.symm HX.out.2.2.2.2.1)⟩⟩,by simp [intOf];omega⟩
     simp only [Value.ownBlock,Option.some.injEq] at hq
     subst hq
     rcases H7.out.2.2.1 with h|h
     ·exact HOS.out.2.1.2 _ h
     ·have h1:=HOS.out.2.1.1;have h2:=HUB.out.size;omega
    ·have hme:m=many:=by omega
     subst hme
     obtain ⟨ac,cc,rfl,_⟩:=id HOS.out.1.list.form
     have x0:=HOS.out.2.2.1.cell (i:=0) rfl
     have x1:=HOS.out.2.2.1.cell (i:=1) rfl
     have x2:=HOS.out.2.2.1.cell (i:=2) rfl
     have x3:=HOS.out.2.2.1.cell (i:=3) rfl
     have r0:=HOS.out.2.2.2.2.2.cell (i:=0) rfl
     have r1:=HOS.out.2.2.2.2.2.cell (i:=1) rfl
     have r2:=HOS.out.2.2.2.2.2.cell (i:=2) rfl
     have r3:=HOS.out.2.2.2.2.2.cell (i:=3) rfl
     have rf:∀ q,wr.frozen? ⟨rb,q,none⟩=false:=HOS.out.2.2.2.2.2.free
     go_wp2_with fail
     have hs:=box_set (a:=.int .i64 3) (b:=.int .u8 0) (c:=.int .u8 0) (d:=.slice ac (kidsR f a m).1.length cc) HOS.out.2.2.2.2.2
     rw [HE.out]
     exact ret_rrm (q:=(nd 3 0 0 (kidsR f a m).1,(kidsR f a m).2)) rfl rfl hs.1 rfl (RxF.iff.2 ⟨_,rfl,⟨HKI.out,by omega,by omega⟩,((HOS.out.1.list).upd hs.2 (by simp)).sub (fun b hb=>.inl (by simp [hb]))⟩) (HOS.out.2.2.2.2.1.fresh hs.2 (fun b hb=>.inr (by simp at hb;subst hb;have:=HR.out.2.2;omega))) (HOS.out.2.2.2.1.upd hs.2 (by simpa using Ne.symm HNE.out))
  ·go_upto_region 15 with ((with_reducible refine HN3.out.mono ?_);rintro e w6 ⟨rfl,hb6,u6⟩)
   have H6:=Lib.hid (And.intro hb6 (And.intro u6 (HX.out.2.2.1.trans u6)))
   clear hb6 u6
   go_upto_if 53 with fail
   go_cut [7] (fun t w'=>t=.int .i64 (many:Nat)∧Blk w' mb [vl,.int .i64 (a:Nat)] 84∧Upd [mb] w6 w')
   case first=>
    by_cases h4:d=4
    ·have h4a:(4:Int)≤(d:Nat):=by omega
     have h4c:((d:Nat):Int)≤4:=by omega
     have HMQ:=Lib.hid (show (many:Int)=p4∧a=n1+2 from by have:=HMR.out;rwa [if_pos h4,if_pos h4] at this)
     have HN4:=Lib.hid (HC4.out w6 H6.out.2.2 H6.out.1)
     clear h4
     go_wp2_with ((with_reducible refine HN4.out.mono ?_);rintro e w8 ⟨rfl,hb8,u8⟩)
     go_meet
     case rel=>exact ⟨by rw [HMQ.out.1],by rw [HMQ.out.2];exact hb8,u8⟩
    ·have h4i:¬ ((d:Nat):Int)=4:=by omega
     have HMQ:=Lib.hid (show (many:Int)=p3∧a=n1+1 from by have:=HMR.out;rwa [if_neg h4,if_neg h4] at this)
     have h4b:(((d:Nat):Int) == 4)=false:=by simpa using h4i
     go_wp2_with fail
     go_meet
     case rel=>exact ⟨by rw [HMQ.out.1],by rw [HMQ.out.2];exact H6.out.1,Upd.refl _ _⟩
   case rest=>
   obtain ⟨rfl,hbc,uc⟩:=hcut
   have HZ:=Lib.hid (show Blk wc mb [vl,.int .i64 (a:Nat)] 84∧Upd [mb] w wc∧Blk wc bx [.int .i64 4,.int .u8 0,.int .u8 0,.slice none 0 0] 25∧Blk wc rb [.int .i64 0,.int .u8 0,.int .u8 0,.slice none 0 0] 25 from ⟨hbc,H6.out.2.2.trans uc,(HB.out.1.upd H6.out.2.1 (by simpa using HX.out.2.2.2.1)).upd uc (by simpa using HX.out.2.2.2.1),(HX.out.2.1.upd H6.out.2.1 (by simpa using HNE.out)).upd uc (by simpa using HNE.out)⟩)
   clear hbc uc
   go_wp2_with fail
   go_loopw [8] (fun iv wr=>∃ (m:Nat) (acc:Value),iv=.int .i64 m∧m≤many∧Hid (OwR 25 (bx::rb::M) wr acc (kidsR f a m).1∧(wc.heap.size≤wr.heap.size∧∀ q,acc.ownBlock=some q→wc.heap.size≤q)∧Blk wr bx [.int .i64 4,.int .u8 0,.int .u8 0,acc] 25∧Blk wr mb [vl,.int .i64 ((kidsR f a m).2:Nat)] 84∧Upd [mb] w wr∧Blk wr rb [.int .i64 0,.int .u8 0,.int .u8 0,.slice none 0 0] 25)) (fun iv _=>many - (intOf iv).toNat)
   case atStart=>exact ⟨0,_,rfl,Nat.zero_le _,Lib.hid ⟨OwR.nil0,⟨Nat.le_refl _,fun q hq=>by simp [Value.ownBlock] at hq⟩,HZ.out.2.2.1,HZ.out.1,HZ.out.2.1,HZ.out.2.2.2⟩⟩
   case round=>
    obtain ⟨m,acc,rfl,hm,HOS⟩:=hrel
    by_cases hlt:m<many
    ·have hli:(m:Int)<many:=by omega
     have HQB:=Lib.hid (show (kidsR f a m).2+B≤100000 from by
      have h1:=kidsR_at HM.out.2.2.2.1 a m
      have h2:m*B≤2*B:=Nat.mul_le_mul_right _ (by omega)
      omega)
     have HLK:=Lib.hid (show (kidsR f a m).1.length≤100 from by rw [kidsR_len];omega)
     have HLT0:=Lib.hid (show ∀ b∈bx::rb::M,b<wr.heap.size from fun b hb=>by
      rcases List.mem_cons.1 hb with rfl|hb
      ·exact HOS.out.2.2.1.lt
      ·rcases List.mem_cons.1 hb with rfl|hb
       ·exact HOS.out.2.2.2.2.2.lt
       ·have:=HM.out.2.1 b hb;have:=HOS.out.2.2.2.2.2.lt;omega)
     have HLT:=Lib.hid (show ∀ b∈bx::rb::M++acc.ownBlock.toList,b<wr.drew.heap.size from fun b hb=>by
      rcases List.mem_append.1 hb with hb|hb
      ·exact HLT0.out b hb
      ·obtain ⟨css,o1,_⟩:=HOS.out.1
       exact (o1.lt b (by simpa using hb)).2)
     have y3:=HOS.out.2.2.1.cell (i:=3) rfl
     go_upto_region 20 with fail
     refine wp_region_ord 7 1 [0,1,2,3,4,8] [1] [0,1,2,3,4,5,6,7,8,9] (fun w'=>∃ x:One ⟨bx,3,none⟩ acc,w'=x.val) (by kernel_rfl) (by kernel_rfl) (One.of y3) ?_
     repeat (first|(refine wpOrd_load rfl rfl rfl rfl (fun K hK=>?_);go_big_quiet_step (exact rfl);refine wpQuiet_nil ?_;refine hK _ ?_;clear hK K)|(refine wpOrd_free rfl rfl rfl (fun K hK=>?_);go_big_quiet_step (fail);refine wpQuiet_nil ?_;refine hK _ ?_;clear hK K))
     refine wpOrd_fix rfl rfl (fun K hK=>?_)
     go_wp2_with (go_at_call 43;refine (HII.out (by have:=HD.out;omega) (bx::rb::M++acc.ownBlock.toList) _ HOS.out.2.2.2.2.1.drew _ HOS.out.2.2.2.1.drew (by simp [HM.out.1]) HLT.out (by have:=HQB.out;omega)).mono ?_;rintro e w6 ⟨v6,rfl,r6,u6,b6⟩;obtain ⟨a6,c6,rfl,hF6,_,_⟩:=r6.shape)
     have hU:=((Upd.refl [mb] wr).drew).trans u6
     have HW6:=Lib.hid (And.intro hU (And.intro b6 (And.intro hF6 (HOS.out.2.2.1.upd hU (by simpa using HX.out.2.2.2.1)))))
     clear u6 b6 r6 hF6 hU
     refine ⟨fun _=>One.of (HW6.out.2.2.2.cell (i:=3) rfl),?_⟩
     repeat (first|(refine wpOrd_load rfl rfl rfl rfl (fun K hK=>?_);go_big_quiet_step (fail);refine wpQuiet_nil ?_;refine hK _ ?_;clear hK K)|(refine wpOrd_free rfl rfl rfl (fun K hK=>?_);go_big_quiet_step (fail);refine wpQuiet_nil ?_;refine hK _ ?_;clear hK K))
     refine wpOrd_fix rfl rfl (fun K hK=>?_)
     go_wp2_with fail
     have HNB:=Lib.hid (show Blk (w6.alloc (.cells #[.int .i64 (f (kidsR f a m).2).1.kind,.int .u8 (f (kidsR f a m).2).1.lo,.int .u8 (f (kidsR f a m).2).1.hi,.slice a6 (f (kidsR f a m).2).1.kids.length c6] 25)) w6.heap.size (rxC (f (kidsR f a m).2).1.kind (f (kidsR f a m).2).1.lo (f (kidsR f a m).2).1.hi (.slice a6 (f (kidsR f a m).2).1.kids.length c6)) 25∧Upd [] w6 (w6.alloc (.cells #[.int .i64 (f (kidsR f a m).2).1.kind,.int .u8 (f (kidsR f a m).2).1.lo,.int .u8 (f (kidsR f a m).2).1.hi,.slice a6 (f (kidsR f a m).2).1.kids.length c6] 25)) from ⟨Blk.new w6 _ _,(Upd.refl [] w6).alloc _⟩)
     generalize (w6.alloc (.cells #[.int .i64 (f (kidsR f a m).2).1.kind,.int .u8 (f (kidsR f a m).2).1.lo,.int .u8 (f (kidsR f a m).2).1.hi,.slice a6 (f (kidsR f a m).2).1.kids.length c6] 25))=wB at *
     have HG6:=Lib.hid (show wr.heap.size≤w6.heap.size from HW6.out.1.size)
     generalize w6.heap.size=gB at *
     have hbB:=HW6.out.2.2.2.upd HNB.out.2 (by simp)
     refine ⟨fun _=>One.of (hbB.cell (i:=3) rfl),?_⟩
     repeat (first|(refine wpOrd_load rfl rfl rfl rfl (fun K hK=>?_);go_big_quiet_step (fail);refine wpQuiet_nil ?_;refine hK _ ?_;clear hK K)|(refine wpOrd_free rfl rfl rfl (fun K hK=>?_);go_big_quiet_step (fail);refine wpQuiet_nil ?_;refine hK _ ?_;clear hK K))
     refine wpOrd_fix rfl rfl (fun K hK=>?_)
     obtain ⟨css,o1,o2,o3,o4⟩:=id HOS.out.1
     have HCS:=Lib.hid (And.intro o1 (And.intro o2 (And.intro o3 o4)))
     clear o1 o2 o3 o4
     have hUB:=HW6.out.1.step HNB.out.2
     have HUB:=Lib.hid hUB
     have HNM:=Lib.hid (show acc.ownBlock≠some mb from fun h=>HCS.out.2.2.1 mb (by simp [HM.out.1]) h)
     refine wpList_app rfl _ _ _ rfl 25 4 40 _ Tryz.underlying23 infoRR rfl (by decide) acc _ _ rfl (ownsRow_updL HCS.out.1 hUB (by simpa using HNM.out)) gB 1 1 (rxC (f (kidsR f a m).2).1.kind (f (kidsR f a m).2).1.lo (f (kidsR f a m).2).1.hi (.slice a6 (f (kidsR f a m).2).1.kids.length c6)) 25 rfl rfl HNB.out.1 (by simp [rxC,Value.oneCell']) (by omega) (by have:=HLK.out;unfold maxLen;omega) (by have:=HLK.out;omega) ?_
     intro g7 c7 w7 o7 u7 k7
     simp only [Act.put,List.setIfInBounds_toArray,List.set_cons_zero,List.set_cons_succ]
     have HOB:=Lib.hid (show acc.ownBlock≠some bx∧acc.ownBlock≠some rb from ⟨fun h=>HCS.out.2.2.1 bx (by simp) h,fun h=>HCS.out.2.2.1 rb (by simp) h⟩)
     have b7:=hbB.upd u7 (by simpa using HOB.out.1)
     have y3:=b7.cell (i:=3) rfl
     have yf:∀ q,w7.frozen? ⟨bx,q,none⟩=false:=b7.free
     have H7:=Lib.hid (And.intro o7 (And.intro u7 (And.intro k7 b7)))
     clear o7 u7 k7 b7 hbB hUB
     go_wp2_with fail
     refine ⟨fun hC=>absurd hC (by decide),?_⟩
     repeat (first|(refine wpOrd_load rfl rfl rfl rfl (fun K hK=>?_);go_big_quiet_step (fail);refine wpQuiet_nil ?_;refine hK _ ?_;clear hK K)|(refine wpOrd_free rfl rfl rfl (fun K hK=>?_);go_big_quiet_step (fail);refine wpQuiet_nil ?_;refine hK _ ?_;clear hK K))
     refine wpOrd_fix rfl rfl (fun K hK=>?_)
     go_wp2_with fail
     refine ⟨fun hC=>absurd hC (by decide),?_⟩
     refine wpOrd_nil ?_
     have HQ:=OwR.push (M:=bx::rb::M) (v:=acc) (ks:=(kidsR f a m).1) (w:=wB) (w':=w7) (r:=(f (kidsR f a m).2).1) HCS.out.2.1 (fun b hb=>by have:=HLT0.out b hb;have:=HUB.out.size;omega) HCS.out.2.2.1 rfl (fun i r hr=>(HCS.out.2.2.2 i r hr).upd HUB.out (by simp [HM.out.1])) (HW6.out.2.2.1.ext HNB.out.2) H7.out.1 H7.out.2.1 (by
      rcases H7.out.2.2.1 with h|h
      ·exact .inl h.symm
      ·exact .inr ⟨_,rfl,Nat.le_of_eq h.symm⟩)
     go_wp2_with fail
     have HS3:=Lib.hid (show Blk (w7.setCell ⟨bx,3,none⟩ (.slice (some ⟨g7,0,none⟩) ((kidsR f a m).1.length+1) c7)) bx [.int .i64 4,.int .u8 0,.int .u8 0,.slice (some ⟨g7,0,none⟩) ((kidsR f a m).1.length+1) c7] 25∧Upd [bx] w7 (w7.setCell ⟨bx,3,none⟩ (.slice (some ⟨g7,0,none⟩) ((kidsR f a m).1.length+1) c7)) from ⟨H7.out.2.2.2.set 3 _,(Upd.refl [bx] w7).set (p:=⟨bx,3,none⟩) (by simp) _⟩)
     have hU7:Upd [mb] w w7:=(HOS.out.2.2.2.2.1.trans HUB.out).fresh H7.out.2.1 (fun b hb=>.inr (by have h1:=HOS.out.2.1.2 b (by simpa using hb);have h2:=HZ.out.2.1.size;omega))
     refine ⟨⟨m+1,_,by go_num,by omega,Lib.hid ⟨OwR.upd HQ HS3.out.2 (by simp),⟨by have h1:=HOS.out.2.1.1;have h2:=HUB.out.size;have h3:=H7.out.2.1.size;have h4:=HS3.out.2.size;omega,fun q hq=>?_⟩,HS3.out.1,((HW6.out.2.1.upd HNB.out.2 (by simp)).upd H7.out.2.1 (by simpa using HNM.out)).upd HS3.out.2 (by simpa using Ne.symm HX.out.2.2.2.1),hU7.fresh HS3.out.2 (fun b hb=>.inr (by simp at hb;subst hb;exact HX.out.2.2.2.2.2)),((HOS.out.2.2.2.2.2.upd HUB.out (by simpa using HNE.out)).upd H7.out.2.1 (by simpa using HOB.out.2)).upd HS3.out.2 (by simpa using Ne.symm HX.out.2.2.2.2.1)⟩⟩,by simp [intOf];omega⟩
     simp only [Value.ownBlock,Option.some.injEq] at hq
     subst hq
     rcases H7.out.2.2.1 with h|h
     ·exact HOS.out.2.1.2 _ h
     ·have h1:=HOS.out.2.1.1;have h2:=HUB.out.size;omega
    ·have hme:m=many:=by omega
     subst hme
     obtain ⟨ac,cc,rfl,_⟩:=id HOS.out.1.list.form
     have x0:=HOS.out.2.2.1.cell (i:=0) rfl
     have x1:=HOS.out.2.2.1.cell (i:=1) rfl
     have x2:=HOS.out.2.2.1.cell (i:=2) rfl
     have x3:=HOS.out.2.2.1.cell (i:=3) rfl
     have r0:=HOS.out.2.2.2.2.2.cell (i:=0) rfl
     have r1:=HOS.out.2.2.2.2.2.cell (i:=1) rfl
     have r2:=HOS.out.2.2.2.2.2.cell (i:=2) rfl
     have r3:=HOS.out.2.2.2.2.2.cell (i:=3) rfl
     have rf:∀ q,wr.frozen? ⟨rb,q,none⟩=false:=HOS.out.2.2.2.2.2.free
     go_wp2_with fail
     have hs:=box_set (a:=.int .i64 4) (b:=.int .u8 0) (c:=.int .u8 0) (d:=.slice ac (kidsR f a m).1.length cc) HOS.out.2.2.2.2.2
     rw [HE.out]
     exact ret_rrm (q:=(nd 4 0 0 (kidsR f a m).1,(kidsR f a m).2)) rfl rfl hs.1 rfl (RxF.iff.2 ⟨_,rfl,⟨HKI.out,by omega,by omega⟩,((HOS.out.1.list).upd hs.2 (by simp)).sub (fun b hb=>.inl (by simp [hb]))⟩) (HOS.out.2.2.2.2.1.fresh hs.2 (fun b hb=>.inr (by simp at hb;subst hb;have:=HR.out.2.2;omega))) (HOS.out.2.2.2.1.upd hs.2 (by simpa using Ne.symm HNE.out))
  ·go_upto_region 15 with ((with_reducible refine HN3.out.mono ?_);rintro e w6 ⟨rfl,hb6,u6⟩)
   have H6:=Lib.hid (And.intro hb6 (And.intro u6 (HX.out.2.2.1.trans u6)))
   clear hb6 u6
   go_upto_if 53 with fail
   go_cut [7] (fun t w'=>t=.int .i64 (many:Nat)∧Blk w' mb [vl,.int .i64 (a:Nat)] 84∧Upd [mb] w6 w')
   case first=>
    by_cases h4:d=4
    ·have h4a:(4:Int)≤(d:Nat):=by omega
     have h4c:((d:Nat):Int)≤4:=by omega
     have HMQ:=Lib.hid (show (many:Int)=p4∧a=n1+2 from by have:=HMR.out;rwa [if_pos h4,if_pos h4] at this)
     have HN4:=Lib.hid (HC4.out w6 H6.out.2.2 H6.out.1)
     clear h4
     go_wp2_with ((with_reducible refine HN4.out.mono ?_);rintro e w8 ⟨rfl,hb8,u8⟩)
     go_meet
     case rel=>exact ⟨by rw [HMQ.out.1],by rw [HMQ.out.2];exact hb8,u8⟩
    ·have h4i:¬ ((d:Nat):Int)=4:=by omega
     have HMQ:=Lib.hid (show (many:Int)=p3∧a=n1+1 from by have:=HMR.out;rwa [if_neg h4,if_neg h4] at this)
     have h4b:(((d:Nat):Int) == 4)=false:=by simpa using h4i
     go_wp2_with fail
     go_meet
     case rel=>exact ⟨by rw [HMQ.out.1],by rw [HMQ.out.2];exact H6.out.1,Upd.refl _ _⟩
   case rest=>
   obtain ⟨rfl,hbc,uc⟩:=hcut
   have HZ:=Lib.hid (show Blk wc mb [vl,.int .i64 (a:Nat)] 84∧Upd [mb] w wc∧Blk wc bx [.int .i64 5,.int .u8 0,.int .u8 0,.slice none 0 0] 25∧Blk wc rb [.int .i64 0,.int .u8 0,.int .u8 0,.slice none 0 0] 25 from ⟨hbc,H6.out.2.2.trans uc,(HB.out.1.upd H6.out.2.1 (by simpa using HX.out.2.2.2.1)).upd uc (by simpa using HX.out.2.2.2.1),(HX.out.2.1.upd H6.out.2.1 (by simpa using HNE.out)).upd uc (by simpa using HNE.out)⟩)
   clear hbc uc
   go_wp2_with fail
   go_loopw [8] (fun iv wr=>∃ (m:Nat) (acc:Value),iv=.int .i64 m∧m≤many∧Hid (OwR 25 (bx::rb::M) wr acc (kidsR f a m).1∧(wc.heap.size≤wr.heap.size∧∀ q,acc.ownBlock=some q→wc.heap.size≤q)∧Blk wr bx [.int .i64 5,.int .u8 0,.int .u8 0,acc] 25∧Blk wr mb [vl,.int .i64 ((kidsR f a m).2:Nat)] 84∧Upd [mb] w wr∧Blk wr rb [.int .i64 0,.int .u8 0,.int .u8 0,.slice none 0 0] 25)) (fun iv _=>many - (intOf iv).toNat)
   case atStart=>exact ⟨0,_,rfl,Nat.zero_le _,Lib.hid ⟨OwR.nil0,⟨Nat.le_refl _,fun q hq=>by simp [Value.ownBlock] at hq⟩,HZ.out.2.2.1,HZ.out.1,HZ.out.2.1,HZ.out.2.2.2⟩⟩
   case round=>
    obtain ⟨m,acc,rfl,hm,HOS⟩:=hrel
    by_cases hlt:m<many
    ·have hli:(m:Int)<many:=by omega
     have HQB:=Lib.hid (show (kidsR f a m).2+B≤100000 from by
      have h1:=kidsR_at HM.out.2.2.2.1 a m
      have h2:m*B≤2*B:=Nat.mul_le_mul_right _ (by omega)
      omega)
     have HLK:=Lib.hid (show (kidsR f a m).1.length≤100 from by rw [kidsR_len];omega)
     have HLT0:=Lib.hid (show ∀ b∈bx::rb::M,b<wr.heap.size from fun b hb=>by
      rcases List.mem_cons.1 hb with rfl|hb
      ·exact HOS.out.2.2.1.lt
      ·rcases List.mem_cons.1 hb with rfl|hb
       ·exact HOS.out.2.2.2.2.2.lt
       ·have:=HM.out.2.1 b hb;have:=HOS.out.2.2.2.2.2.lt;omega)
     have HLT:=Lib.hid (show ∀ b∈bx::rb::M++acc.ownBlock.toList,b<wr.drew.heap.size from fun b hb=>by
      rcases List.mem_append.1 hb with hb|hb
      ·exact HLT0.out b hb
      ·obtain ⟨css,o1,_⟩:=HOS.out.1
       exact (o1.lt b (by simpa using hb)).2)
     have y3:=HOS.out.2.2.1.cell (i:=3) rfl
     go_upto_region 20 with fail
     refine wp_region_ord 7 1 [0,1,2,3,4,8] [1] [0,1,2,3,4,5,6,7,8,9] (fun w'=>∃ x:One ⟨bx,3,none⟩ acc,w'=x.val) (by kernel_rfl) (by kernel_rfl) (One.of y3) ?_
     repeat (first|(refine wpOrd_load rfl rfl rfl rfl (fun K hK=>?_);go_big_quiet_step (exact rfl);refine wpQuiet_nil ?_;refine hK _ ?_;clear hK K)|(refine wpOrd_free rfl rfl rfl (fun K hK=>?_);go_big_quiet_step (fail);refine wpQuiet_nil ?_;refine hK _ ?_;clear hK K))
     refine wpOrd_fix rfl rfl (fun K hK=>?_)
     go_wp2_with (go_at_call 43;refine (HII.out (by have:=HD.out;omega) (bx::rb::M++acc.ownBlock.toList) _ HOS.out.2.2.2.2.1.drew _ HOS.out.2.2.2.1.drew (by simp [HM.out.1]) HLT.out (by have:=HQB.out;omega)).mono ?_;rintro e w6 ⟨v6,rfl,r6,u6,b6⟩;obtain ⟨a6,c6,rfl,hF6,_,_⟩:=r6.shape)
     have hU:=((Upd.refl [mb] wr).drew).trans u6
     have HW6:=Lib.hid (And.intro hU (And.intro b6 (And.intro hF6 (HOS.out.2.2.1.upd hU (by simpa using HX.out.2.2.2.1)))))
     clear u6 b6 r6 hF6 hU
     refine ⟨fun _=>One.of (HW6.out.2.2.2.cell (i:=3) rfl),?_⟩
     repeat (first|(refine wpOrd_load rfl rfl rfl rfl (fun K hK=>?_);go_big_quiet_step (fail);refine wpQuiet_nil ?_;refine hK _ ?_;clear hK K)|(refine wpOrd_free rfl rfl rfl (fun K hK=>?_);go_big_quiet_step (fail);refine wpQuiet_nil ?_;refine hK _ ?_;clear hK K))
     refine wpOrd_fix rfl rfl (fun K hK=>?_)
     go_wp2_with fail
     have HNB:=Lib.hid (show Blk (w6.alloc (.cells #[.int .i64 (f (kidsR f a m).2).1.kind,.int .u8 (f (kidsR f a m).2).1.lo,.int .u8 (f (kidsR f a m).2).1.hi,.slice a6 (f (kidsR f a m).2).1.kids.length c6] 25)) w6.heap.size (rxC (f (kidsR f a m).2).1.kind (f (kidsR f a m).2).1.lo (f (kidsR f a m).2).1.hi (.slice a6 (f (kidsR f a m).2).1.kids.length c6)) 25∧Upd [] w6 (w6.alloc (.cells #[.int .i64 (f (kidsR f a m).2).1.kind,.int .u8 (f (kidsR f a m).2).1.lo,.int .u8 (f (kidsR f a m).2).1.hi,.slice a6 (f (kidsR f a m).2).1.kids.length c6] 25)) from ⟨Blk.new w6 _ _,(Upd.refl [] w6).alloc _⟩)
     generalize (w6.alloc (.cells #[.int .i64 (f (kidsR f a m).2).1.kind,.int .u8 (f (kidsR f a m).2).1.lo,.int .u8 (f (kidsR f a m).2).1.hi,.slice a6 (f (kidsR f a m).2).1.kids.length c6] 25))=wB at *
     have HG6:=Lib.hid (show wr.heap.size≤w6.heap.size from HW6.out.1.size)
     generalize w6.heap.size=gB at *
     have hbB:=HW6.out.2.2.2.upd HNB.out.2 (by simp)
     refine ⟨fun _=>One.of (hbB.cell (i:=3) rfl),?_⟩
     repeat (first|(refine wpOrd_load rfl rfl rfl rfl (fun K hK=>?_);go_big_quiet_step (fail);refine wpQuiet_nil ?_;refine hK _ ?_;clear hK K)|(refine wpOrd_free rfl rfl rfl (fun K hK=>?_);go_big_quiet_step (fail);refine wpQuiet_nil ?_;refine hK _ ?_;clear hK K))
     refine wpOrd_fix rfl rfl (fun K hK=>?_)
     obtain ⟨css,o1,o2,o3,o4⟩:=id HOS.out.1
     have HCS:=Lib.hid (And.intro o1 (And.intro o2 (And.intro o3 o4)))
     clear o1 o2 o3 o4
     have hUB:=HW6.out.1.step HNB.out.2
     have HUB:=Lib.hid hUB
     have HNM:=Lib.hid (show acc.ownBlock≠some mb from fun h=>HCS.out.2.2.1 mb (by simp [HM.out.1]) h)
     refine wpList_app rfl _ _ _ rfl 25 4 40 _ Tryz.underlying23 infoRR rfl (by decide) acc _ _ rfl (ownsRow_updL HCS.out.1 hUB (by simpa using HNM.out)) gB 1 1 (rxC (f (kidsR f a m).2).1.kind (f (kidsR f a m).2).1.lo (f (kidsR f a m).2).1.hi (.slice a6 (f (kidsR f a m).2).1.kids.length c6)) 25 rfl rfl HNB.out.1 (by simp [rxC,Value.oneCell']) (by omega) (by have:=HLK.out;unfold maxLen;omega) (by have:=HLK.out;omega) ?_
     intro g7 c7 w7 o7 u7 k7
     simp only [Act.put,List.setIfInBounds_toArray,List.set_cons_zero,List.set_cons_succ]
     have HOB:=Lib.hid (show acc.ownBlock≠some bx∧acc.ownBlock≠some rb from ⟨fun h=>HCS.out.2.2.1 bx (by simp) h,fun h=>HCS.out.2.2.1 rb (by simp) h⟩)
     have b7:=hbB.upd u7 (by simpa using HOB.out.1)
     have y3:=b7.cell (i:=3) rfl
     have yf:∀ q,w7.frozen? ⟨bx,q,none⟩=false:=b7.free
     have H7:=Lib.hid (And.intro o7 (And.intro u7 (And.intro k7 b7)))
     clear o7 u7 k7 b7 hbB hUB
     go_wp2_with fail
     refine ⟨fun hC=>absurd hC (by decide),?_⟩
     repeat (first|(refine wpOrd_load rfl rfl rfl rfl (fun K hK=>?_);go_big_quiet_step (fail);refine wpQuiet_nil ?_;refine hK _ ?_;clear hK K)|(refine wpOrd_free rfl rfl rfl (fun K hK=>?_);go_big_quiet_step (fail);refine wpQuiet_nil ?_;refine hK _ ?_;clear hK K))
     refine wpOrd_fix rfl rfl (fun K hK=>?_)
     go_wp2_with fail
     refine ⟨fun hC=>absurd hC (by decide),?_⟩
     refine wpOrd_nil ?_
     have HQ:=OwR.push (M:=bx::rb::M) (v:=acc) (ks:=(kidsR f a m).1) (w:=wB) (w':=w7) (r:=(f (kidsR f a m).2).1) HCS.out.2.1 (fun b hb=>by have:=HLT0.out b hb;have:=HUB.out.size;omega) HCS.out.2.2.1 rfl (fun i r hr=>(HCS.out.2.2.2 i r hr).upd HUB.out (by simp [HM.out.1])) (HW6.out.2.2.1.ext HNB.out.2) H7.out.1 H7.out.2.1 (by
      rcases H7.out.2.2.1 with h|h
      ·exact .inl h.symm
      ·exact .inr ⟨_,rfl,Nat.le_of_eq h.symm⟩)
     go_wp2_with fail
     have HS3:=Lib.hid (show Blk (w7.setCell ⟨bx,3,none⟩ (.slice (some ⟨g7,0,none⟩) ((kidsR f a m).1.length+1) c7)) bx [.int .i64 5,.int .u8 0,.int .u8 0,.slice (some ⟨g7,0,none⟩) ((kidsR f a m).1.length+1) c7] 25∧Upd [bx] w7 (w7.setCell ⟨bx,3,none⟩ (.slice (some ⟨g7,0,none⟩) ((kidsR f a m).1.length+1) c7)) from ⟨H7.out.2.2.2.set 3 _,(Upd.refl [bx] w7).set (p:=⟨bx,3,none⟩) (by simp) _⟩)
     have hU7:Upd [mb] w w7:=(HOS.out.2.2.2.2.1.trans HUB.out).fresh H7.out.2.1 (fun b hb=>.inr (by have h1:=HOS.out.2.1.2 b (by simpa using hb);have h2:=HZ.out.2.1.size;omega))
     refine ⟨⟨m+1,_,by go_num,by omega,Lib.hid ⟨OwR.upd HQ HS3.out.2 (by simp),⟨by have h1:=HOS.out.2.1.1;have h2:=HUB.out.size;have h3:=H7.out.2.1.size;have h4:=HS3.out.2.size;omega,fun q hq=>?_⟩,HS3.out.1,((HW6.out.2.1.upd HNB.out.2 (by simp)).upd H7.out.2.1 (by simpa using HNM.out)).upd HS3.out.2 (by simpa using Ne.symm HX.out.2.2.2.1),hU7.fresh HS3.out.2 (fun b hb=>.inr (by simp at hb;subst hb;exact HX.out.2.2.2.2.2)),((HOS.out.2.2.2.2.2.upd HUB.out (by simpa using HNE.out)).upd H7.out.2.1 (by simpa using HOB.out.2)).upd HS3.out.2 (by simpa using Ne.symm HX.out.2.2.2.2.1)⟩⟩,by simp [intOf];omega⟩
     simp only [Value.ownBlock,Option.some.injEq] at hq
     subst hq
     rcases H7.out.2.2.1 with h|h
     ·exact HOS.out.2.1.2 _ h
     ·have h1:=HOS.out.2.1.1;have h2:=HUB.out.size;omega
    ·have hme:m=many:=by omega
     subst hme
     obtain ⟨ac,cc,rfl,_⟩:=id HOS.out.1.list.form
     have x0:=HOS.out.2.2.1.cell (i:=0) rfl
     have x1:=HOS.out.2.2.1.cell (i:=1) rfl
     have x2:=HOS.out.2.2.1.cell (i:=2) rfl
     have x3:=HOS.out.2.2.1.cell (i:=3) rfl
     have r0:=HOS.out.2.2.2.2.2.cell (i:=0) rfl
     have r1:=HOS.out.2.2.2.2.2.cell (i:=1) rfl
     have r2:=HOS.out.2.2.2.2.2.cell (i:=2) rfl
     have r3:=HOS.out.2.2.2.2.2.cell (i:=3) rfl
     have rf:∀ q,wr.frozen? ⟨rb,q,none⟩=false:=HOS.out.2.2.2.2.2.free
     go_wp2_with fail
     have hs:=box_set (a:=.int .i64 5) (b:=.int .u8 0) (c:=.int .u8 0) (d:=.slice ac (kidsR f a m).1.length cc) HOS.out.2.2.2.2.2
     rw [HE.out]
     exact ret_rrm (q:=(nd 5 0 0 (kidsR f a m).1,(kidsR f a m).2)) rfl rfl hs.1 rfl (RxF.iff.2 ⟨_,rfl,⟨HKI.out,by omega,by omega⟩,((HOS.out.1.list).upd hs.2 (by simp)).sub (fun b hb=>.inl (by simp [hb]))⟩) (HOS.out.2.2.2.2.1.fresh hs.2 (fun b hb=>.inr (by simp at hb;subst hb;have:=HR.out.2.2;omega))) (HOS.out.2.2.2.1.upd hs.2 (by simpa using Ne.symm HNE.out))
 ·have HD:=Lib.hid (show 2≤d from HKS.out.1 (by omega))
  have HE:=Lib.hid (show nodR l d f k n1=(nd k 0 0 [(f n1).1],(f n1).2) by unfold nodR;rw [if_neg (by omega),if_neg (by omega),if_pos h])
  have HKI:=Lib.hid (show IsI64 k by unfold IsI64;omega)
  have HLT0:=Lib.hid (show ∀ b∈bx::rb::M,b<w5.heap.size from fun b hb=>by
   rcases List.mem_cons.1 hb with rfl|hb
   ·exact HB.out.1.lt
   ·rcases List.mem_cons.1 hb with rfl|hb
    ·exact HX.out.2.1.lt
    ·have:=HM.out.2.1 b hb;have:=HX.out.2.1.lt;omega)
  have HLT:=Lib.hid (show ∀ b∈bx::rb::M++(Value.slice none 0 0).ownBlock.toList,b<w5.drew.heap.size from fun b hb=>by
   rcases List.mem_append.1 hb with hb|hb
   ·exact HLT0.out b hb
   ·simp [Value.ownBlock] at hb)
  have HOS:=Lib.hid (And.intro (OwR.nil0:OwR 25 (bx::rb::M) w5 (Value.slice none 0 0) []) (And.intro trivial (And.intro HB.out.1 (And.intro HX.out.1 (And.intro HX.out.2.2.1 HX.out.2.1)))))
  have HQB:=Lib.hid (show n1+B≤100000 by omega)
  have HLK:=Lib.hid (show ([]:List Rx).length≤100 by simp)
  have y3:=HB.out.1.cell (i:=3) rfl
  rcases h with rfl|rfl
  ·go_upto_region 23 with fail
   refine wp_region_ord 7 1 [0,1,2,3,4,8] [1] [0,1,2,3,4,5,6,7,8,9] (fun w'=>∃ x:One ⟨bx,3,none⟩ (Value.slice none 0 0),w'=x.val) (by kernel_rfl) (by kernel_rfl) (One.of y3) ?_
   repeat (first|(refine wpOrd_load rfl rfl rfl rfl (fun K hK=>?_);go_big_quiet_step (exact rfl);refine wpQuiet_nil ?_;refine hK _ ?_;clear hK K)|(refine wpOrd_free rfl rfl rfl (fun K hK=>?_);go_big_quiet_step (fail);refine wpQuiet_nil ?_;refine hK _ ?_;clear hK K))
   refine wpOrd_fix rfl rfl (fun K hK=>?_)
   go_wp2_with (go_at_call 43;refine (HII.out (by have:=HD.out;omega) (bx::rb::M++(Value.slice none 0 0).ownBlock.toList) _ HOS.out.2.2.2.2.1.drew _ HOS.out.2.2.2.1.drew (by simp [HM.out.1]) HLT.out (by have:=HQB.out;omega)).mono ?_;rintro e w6 ⟨v6,rfl,r6,u6,b6⟩;obtain ⟨a6,c6,rfl,hF6,_,_⟩:=r6.shape)
   have hU:=((Upd.refl [mb] w5).drew).trans u6
   have HW6:=Lib.hid (And.intro hU (And.intro b6 (And.intro hF6 (HOS.out.2.2.1.upd hU (by simpa using HX.out.2.2.2.1)))))
   clear u6 b6 r6 hF6 hU
   refine ⟨fun _=>One.of (HW6.out.2.2.2.cell (i:=3) rfl),?_⟩
   repeat (first|(refine wpOrd_load rfl rfl rfl rfl (fun K hK=>?_);go_big_quiet_step (fail);refine wpQuiet_nil ?_;refine hK _ ?_;clear hK K)|(refine wpOrd_free rfl rfl rfl (fun K hK=>?_);go_big_quiet_step (fail);refine wpQuiet_nil ?_;refine hK _ ?_;clear hK K))
   refine wpOrd_fix rfl rfl (fun K hK=>?_)
   go_wp2_with fail
   have HNB:=Lib.hid (show Blk (w6.alloc (.cells #[.int .i64 (f n1).1.kind,.int .u8 (f n1).1.lo,.int .u8 (f n1).1.hi,.slice a6 (f n1).1.kids.length c6] 25)) w6.heap.size (rxC (f n1).1.kind (f n1).1.lo (f n1).1.hi (.slice a6 (f n1).1.kids.length c6)) 25∧Upd [] w6 (w6.alloc (.cells #[.int .i64 (f n1).1.kind,.int .u8 (f n1).1.lo,.int .u8 (f n1).1.hi,.slice a6 (f n1).1.kids.length c6] 25)) from ⟨Blk.new w6 _ _,(Upd.refl [] w6).alloc _⟩)
   generalize (w6.alloc (.cells #[.int .i64 (f n1).1.kind,.int .u8 (f n1).1.lo,.int .u8 (f n1).1.hi,.slice a6 (f n1).1.kids.length c6] 25))=wB at *
   have HG6:=Lib.hid (show w5.heap.size≤w6.heap.size from HW6.out.1.size)
   generalize w6.heap.size=gB at *
   have hbB:=HW6.out.2.2.2.upd HNB.out.2 (by simp)
   refine ⟨fun _=>One.of (hbB.cell (i:=3) rfl),?_⟩
   repeat (first|(refine wpOrd_load rfl rfl rfl rfl (fun K hK=>?_);go_big_quiet_step (fail);refine wpQuiet_nil ?_;refine hK _ ?_;clear hK K)|(refine wpOrd_free rfl rfl rfl (fun K hK=>?_);go_big_quiet_step (fail);refine wpQuiet_nil ?_;refine hK _ ?_;clear hK K))
   refine wpOrd_fix rfl rfl (fun K hK=>?_)
   obtain ⟨css,o1,o2,o3,o4⟩:=id HOS.out.1
   have HCS:=Lib.hid (And.intro o1 (And.intro o2 (And.intro o3 o4)))
   clear o1 o2 o3 o4
   have hUB:=HW6.out.1.step HNB.out.2
   have HUB:=Lib.hid hUB
   have HNM:=Lib.hid (show (Value.slice none 0 0).ownBlock≠some mb from fun h=>HCS.out.2.2.1 mb (by simp [HM.out.1]) h)
   refine wpList_app rfl _ _ _ rfl 25 4 40 _ Tryz.underlying23 infoRR rfl (by decide) (Value.slice none 0 0) _ _ rfl (ownsRow_updL HCS.out.1 hUB (by simpa using HNM.out)) gB 1 1 (rxC (f n1).1.kind (f n1).1.lo (f n1).1.hi (.slice a6 (f n1).1.kids.length c6)) 25 rfl rfl HNB.out.1 (by simp [rxC,Value.oneCell']) (by omega) (by have:=HLK.out;unfold maxLen;omega) (by have:=HLK.out;omega) ?_
   intro g7 c7 w7 o7 u7 k7
   simp only [Act.put,List.setIfInBounds_toArray,List.set_cons_zero,List.set_cons_succ]
   have HOB:=Lib.hid (show (Value.slice none 0 0).ownBlock≠some bx∧(Value.slice none 0 0).ownBlock≠some rb from ⟨fun h=>HCS.out.2.2.1 bx (by simp) h,fun h=>HCS.out.2.2.1 rb (by simp) h⟩)
   have b7:=hbB.upd u7 (by simpa using HOB.out.1)
   have y3:=b7.cell (i:=3) rfl
   have yf:∀ q,w7.frozen? ⟨bx,q,none⟩=false:=b7.free
   have H7:=Lib.hid (And.intro o7 (And.intro u7 (And.intro k7 b7)))
   clear o7 u7 k7 b7 hbB hUB
   go_wp2_with fail
   refine ⟨fun hC=>absurd hC (by decide),?_⟩
   repeat (first|(refine wpOrd_load rfl rfl rfl rfl (fun K hK=>?_);go_big_quiet_step (fail);refine wpQuiet_nil ?_;refine hK _ ?_;clear hK K)|(refine wpOrd_free rfl rfl rfl (fun K hK=>?_);go_big_quiet_step (fail);refine wpQuiet_nil ?_;refine hK _ ?_;clear hK K))
   refine wpOrd_fix rfl rfl (fun K hK=>?_)
   go_wp2_with fail
   refine ⟨fun hC=>absurd hC (by decide),?_⟩
   refine wpOrd_nil ?_
   have HQ:=OwR.push (M:=bx::rb::M) (v:=(Value.slice none 0 0)) (ks:=[]) (w:=wB) (w':=w7) (r:=(f n1).1) HCS.out.2.1 (fun b hb=>by have:=HLT0.out b hb;have:=HUB.out.size;omega) HCS.out.2.2.1 rfl (fun i r hr=>(HCS.out.2.2.2 i r hr).upd HUB.out (by simp [HM.out.1])) (HW6.out.2.2.1.ext HNB.out.2) H7.out.1 H7.out.2.1 (by
    rcases H7.out.2.2.1 with h|h
    ·exact .inl h.symm
    ·exact .inr ⟨_,rfl,Nat.le_of_eq h.symm⟩)
   have HS3:=Lib.hid (show Blk (w7.setCell ⟨bx,3,none⟩ (.slice (some ⟨g7,0,none⟩) 1 c7)) bx [.int .i64 6,.int .u8 0,.int .u8 0,.slice (some ⟨g7,0,none⟩) 1 c7] 25∧Upd [bx] w7 (w7.setCell ⟨bx,3,none⟩ (.slice (some ⟨g7,0,none⟩) 1 c7)) from ⟨H7.out.2.2.2.set 3 _,(Upd.refl [bx] w7).set (p:=⟨bx,3,none⟩) (by simp) _⟩)
   generalize (w7.setCell ⟨bx,3,none⟩ (.slice (some ⟨g7,0,none⟩) 1 c7))=w12 at *
   have hHQ:OwR 25 (bx::rb::M) w12 (.slice (some ⟨g7,0,none⟩) 1 c7) [(f n1).1]:=OwR.upd (show OwR 25 (bx::rb::M) w7 (.slice (some ⟨g7,0,none⟩) 1 c7) [(f n1).1] from HQ) HS3.out.2 (by simp)
   have HHQ:=Lib.hid hHQ
   have hU7:=H7.out.2.1
   have HW12:=Lib.hid (show Blk w12 mb [vl,.int .i64 ((f n1).2:Nat)] 84∧Blk w12 rb [.int .i64 0,.int .u8 0,.int .u8 0,.slice none 0 0] 25∧Upd [mb] w w12 from ⟨((HW6.out.2.1.upd HNB.out.2 (by simp)).upd H7.out.2.1 (by simp [Value.ownBlock])).upd HS3.out.2 (by simpa using Ne.symm HX.out.2.2.2.1),((HX.out.2.1.upd HUB.out (by simpa using HNE.out)).upd H7.out.2.1 (by simp [Value.ownBlock])).upd HS3.out.2 (by simpa using Ne.symm HX.out.2.2.2.2.1),((HX.out.2.2.1.trans HUB.out).step (show Upd [] wB w7 from by simpa [Value.ownBlock] using H7.out.2.1)).fresh HS3.out.2 (fun b hb=>.inr (by simp at hb;subst hb;exact HX.out.2.2.2.2.2))⟩)
   clear hHQ HQ y3 yf hU7
   have x0:=HS3.out.1.cell (i:=0) rfl
   have x1:=HS3.out.1.cell (i:=1) rfl
   have x2:=HS3.out.1.cell (i:=2) rfl
   have x3:=HS3.out.1.cell (i:=3) rfl
   have r0:=HW12.out.2.1.cell (i:=0) rfl
   have r1:=HW12.out.2.1.cell (i:=1) rfl
   have r2:=HW12.out.2.1.cell (i:=2) rfl
   have r3:=HW12.out.2.1.cell (i:=3) rfl
   have rf:∀ q,w12.frozen? ⟨rb,q,none⟩=false:=HW12.out.2.1.free
   go_wp2_with fail
   have hs:=box_set (a:=.int .i64 6) (b:=.int .u8 0) (c:=.int .u8 0) (d:=.slice (some ⟨g7,0,none⟩) 1 c7) HW12.out.2.1
   rw [HE.out]
   exact ret_rrm (q:=(nd 6 0 0 [(f n1).1],(f n1).2)) rfl rfl hs.1 rfl (RxF.iff.2 ⟨_,rfl,⟨HKI.out,by omega,by omega⟩,((HHQ.out.list).upd hs.2 (by simp)).sub (fun b hb=>.inl (by simp [hb]))⟩) (HW12.out.2.2.fresh hs.2 (fun b hb=>.inr (by simp at hb;subst hb;have:=HR.out.2.2;omega))) (HW12.out.1.upd hs.2 (by simpa using Ne.symm HNE.out))
  ·go_upto_region 23 with fail
   refine wp_region_ord 7 1 [0,1,2,3,4,8] [1] [0,1,2,3,4,5,6,7,8,9] (fun w'=>∃ x:One ⟨bx,3,none⟩ (Value.slice none 0 0),w'=x.val) (by kernel_rfl) (by kernel_rfl) (One.of y3) ?_
   repeat (first|(refine wpOrd_load rfl rfl rfl rfl (fun K hK=>?_);go_big_quiet_step (exact rfl);refine wpQuiet_nil ?_;refine hK _ ?_;clear hK K)|(refine wpOrd_free rfl rfl rfl (fun K hK=>?_);go_big_quiet_step (fail);refine wpQuiet_nil ?_;refine hK _ ?_;clear hK K))
   refine wpOrd_fix rfl rfl (fun K hK=>?_)
   go_wp2_with (go_at_call 43;refine (HII.out (by have:=HD.out;omega) (bx::rb::M++(Value.slice none 0 0).ownBlock.toList) _ HOS.out.2.2.2.2.1.drew _ HOS.out.2.2.2.1.drew (by simp [HM.out.1]) HLT.out (by have:=HQB.out;omega)).mono ?_;rintro e w6 ⟨v6,rfl,r6,u6,b6⟩;obtain ⟨a6,c6,rfl,hF6,_,_⟩:=r6.shape)
   have hU:=((Upd.refl [mb] w5).drew).trans u6
   have HW6:=Lib.hid (And.intro hU (And.intro b6 (And.intro hF6 (HOS.out.2.2.1.upd hU (by simpa using HX.out.2.2.2.1)))))
   clear u6 b6 r6 hF6 hU
   refine ⟨fun _=>One.of (HW6.out.2.2.2.cell (i:=3) rfl),?_⟩
   repeat (first|(refine wpOrd_load rfl rfl rfl rfl (fun K hK=>?_);go_big_quiet_step (fail);refine wpQuiet_nil ?_;refine hK _ ?_;clear hK K)|(refine wpOrd_free rfl rfl rfl (fun K hK=>?_);go_big_quiet_step (fail);refine wpQuiet_nil ?_;refine hK _ ?_;clear hK K))
   refine wpOrd_fix rfl rfl (fun K hK=>?_)
   go_wp2_with fail
   have HNB:=Lib.hid (show Blk (w6.alloc (.cells #[.int .i64 (f n1).1.kind,.int .u8 (f n1).1.lo,.int .u8 (f n1).1.hi,.slice a6 (f n1).1.kids.length c6] 25)) w6.heap.size (rxC (f n1).1.kind (f n1).1.lo (f n1).1.hi (.slice a6 (f n1).1.kids.length c6)) 25∧Upd [] w6 (w6.alloc (.cells #[.int .i64 (f n1).1.kind,.int .u8 (f n1).1.lo,.int .u8 (f n1).1.hi,.slice a6 (f n1).1.kids.length c6] 25)) from ⟨Blk.new w6 _ _,(Upd.refl [] w6).alloc _⟩)
   generalize (w6.alloc (.cells #[.int .i64 (f n1).1.kind,.int .u8 (f n1).1.lo,.int .u8 (f n1).1.hi,.slice a6 (f n1).1.kids.length c6] 25))=wB at *
   have HG6:=Lib.hid (show w5.heap.size≤w6.heap.size from HW6.out.1.size)
   generalize w6.heap.size=gB at *
   have hbB:=HW6.out.2.2.2.upd HNB.out.2 (by simp)
   refine ⟨fun _=>One.of (hbB.cell (i:=3) rfl),?_⟩
   repeat (first|(refine wpOrd_load rfl rfl rfl rfl (fun K hK=>?_);go_big_quiet_step (fail);refine wpQuiet_nil ?_;refine hK _ ?_;clear hK K)|(refine wpOrd_free rfl rfl rfl (fun K hK=>?_);go_big_quiet_step (fail);refine wpQuiet_nil ?_;refine hK _ ?_;clear hK K))
   refine wpOrd_fix rfl rfl (fun K hK=>?_)
   obtain ⟨css,o1,o2,o3,o4⟩:=id HOS.out.1
   have HCS:=Lib.hid (And.intro o1 (And.intro o2 (And.intro o3 o4)))
   clear o1 o2 o3 o4
   have hUB:=HW6.out.1.step HNB.out.2
   have HUB:=Lib.hid hUB
   have HNM:=Lib.hid (show (Value.slice none 0 0).ownBlock≠some mb from fun h=>HCS.out.2.2.1 mb (by simp [HM.out.1]) h)
   refine wpList_app rfl _ _ _ rfl 25 4 40 _ Tryz.underlying23 infoRR rfl (by decide) (Value.slice none 0 0) _ _ rfl (ownsRow_updL HCS.out.1 hUB (by simpa using HNM.out)) gB 1 1 (rxC (f n1).1.kind (f n1).1.lo (f n1).1.hi (.slice a6 (f n1).1.kids.length c6)) 25 rfl rfl HNB.out.1 (by simp [rxC,Value.oneCell']) (by omega) (by have:=HLK.out;unfold maxLen;omega) (by have:=HLK.out;omega) ?_
   intro g7 c7 w7 o7 u7 k7
   simp only [Act.put,List.setIfInBounds_toArray,List.set_cons_zero,List.set_cons_succ]
   have HOB:=Lib.hid (show (Value.slice none 0 0).ownBlock≠some bx∧(Value.slice none 0 0).ownBlock≠some rb from ⟨fun h=>HCS.out.2.2.1 bx (by simp) h,fun h=>HCS.out.2.2.1 rb (by simp) h⟩)
   have b7:=hbB.upd u7 (by simpa using HOB.out.1)
   have y3:=b7.cell (i:=3) rfl
   have yf:∀ q,w7.frozen? ⟨bx,q,none⟩=false:=b7.free
   have H7:=Lib.hid (And.intro o7 (And.intro u7 (And.intro k7 b7)))
   clear o7 u7 k7 b7 hbB hUB
   go_wp2_with fail
   refine ⟨fun hC=>absurd hC (by decide),?_⟩
   repeat (first|(refine wpOrd_load rfl rfl rfl rfl (fun K hK=>?_);go_big_quiet_step (fail);refine wpQuiet_nil ?_;refine hK _ ?_;clear hK K)|(refine wpOrd_free rfl rfl rfl (fun K hK=>?_);go_big_quiet_step (fail);refine wpQuiet_nil ?_;refine hK _ ?_;clear hK K))
   refine wpOrd_fix rfl rfl (fun K hK=>?_)
   go_wp2_with fail
   refine ⟨fun hC=>absurd hC (by decide),?_⟩
   refine wpOrd_nil ?_
   have HQ:=OwR.push (M:=bx::rb::M) (v:=(Value.slice none 0 0)) (ks:=[]) (w:=wB) (w':=w7) (r:=(f n1).1) HCS.out.2.1 (fun b hb=>by have:=HLT0.out b hb;have:=HUB.out.size;omega) HCS.out.2.2.1 rfl (fun i r hr=>(HCS.out.2.2.2 i r hr).upd HUB.out (by simp [HM.out.1])) (HW6.out.2.2.1.ext HNB.out.2) H7.out.1 H7.out.2.1 (by
    rcases H7.out.2.2.1 with h|h
    ·exact .inl h.symm
    ·exact .inr ⟨_,rfl,Nat.le_of_eq h.symm⟩)
   have HS3:=Lib.hid (show Blk (w7.setCell ⟨bx,3,none⟩ (.slice (some ⟨g7,0,none⟩) 1 c7)) bx [.int .i64 7,.int .u8 0,.int .u8 0,.slice (some ⟨g7,0,none⟩) 1 c7] 25∧Upd [bx] w7 (w7.setCell ⟨bx,3,none⟩ (.slice (some ⟨g7,0,none⟩) 1 c7)) from ⟨H7.out.2.2.2.set 3 _,(Upd.refl [bx] w7).set (p:=⟨bx,3,none⟩) (by simp) _⟩)
   generalize (w7.setCell ⟨bx,3,none⟩ (.slice (some ⟨g7,0,none⟩) 1 c7))=w12 at *
   have hHQ:OwR 25 (bx::rb::M) w12 (.slice (some ⟨g7,0,none⟩) 1 c7) [(f n1).1]:=OwR.upd (show OwR 25 (bx::rb::M) w7 (.slice (some ⟨g7,0,none⟩) 1 c7) [(f n1).1] from HQ) HS3.out.2 (by simp)
   have HHQ:=Lib.hid hHQ
   have hU7:=H7.out.2.1
   have HW12:=Lib.hid (show Blk w12 mb [vl,.int .i64 ((f n1).2:Nat)] 84∧Blk w12 rb [.int .i64 0,.int .u8 0,.int .u8 0,.slice none 0 0] 25∧Upd [mb] w w12 from ⟨((HW6.out.2.1.upd HNB.out.2 (by simp)).upd H7.out.2.1 (by simp [Value.ownBlock])).upd HS3.out.2 (by simpa using Ne.symm HX.out.2.2.2.1),((HX.out.2.1.upd HUB.out (by simpa using HNE.out)).upd H7.out.2.1 (by simp [Value.ownBlock])).upd HS3.out.2 (by simpa using Ne.symm HX.out.2.2.2.2.1),((HX.out.2.2.1.trans HUB.out).step (show Upd [] wB w7 from by simpa [Value.ownBlock] using H7.out.2.1)).fresh HS3.out.2 (fun b hb=>.inr (by simp at hb;subst hb;exact HX.out.2.2.2.2.2))⟩)
   clear hHQ HQ y3 yf hU7
   have x0:=HS3.out.1.cell (i:=0) rfl
   have x1:=HS3.out.1.cell (i:=1) rfl
   have x2:=HS3.out.1.cell (i:=2) rfl
   have x3:=HS3.out.1.cell (i:=3) rfl
   have r0:=HW12.out.2.1.cell (i:=0) rfl
   have r1:=HW12.out.2.1.cell (i:=1) rfl
   have r2:=HW12.out.2.1.cell (i:=2) rfl
   have r3:=HW12.out.2.1.cell (i:=3) rfl
   have rf:∀ q,w12.frozen? ⟨rb,q,none⟩=false:=HW12.out.2.1.free
   go_wp2_with fail
   have hs:=box_set (a:=.int .i64 7) (b:=.int .u8 0) (c:=.int .u8 0) (d:=.slice (some ⟨g7,0,none⟩) 1 c7) HW12.out.2.1
   rw [HE.out]
   exact ret_rrm (q:=(nd 7 0 0 [(f n1).1],(f n1).2)) rfl rfl hs.1 rfl (RxF.iff.2 ⟨_,rfl,⟨HKI.out,by omega,by omega⟩,((HHQ.out.list).upd hs.2 (by simp)).sub (fun b hb=>.inl (by simp [hb]))⟩) (HW12.out.2.2.fresh hs.2 (fun b hb=>.inr (by simp at hb;subst hb;have:=HR.out.2.2;omega))) (HW12.out.1.upd hs.2 (by simpa using Ne.symm HNE.out))
theorem maker_calls {l:List Int} (hx:∀ x∈l,IsI64 x):∀ (d:Nat),d≤4→∀ (M:List Nat) (w:World) (vl:Value) (mb n:Nat),Blk w mb [vl,.int .i64 (n:Nat)] 84→SL w 1 vl l.length (ints l)→(0<l.length→vl.ownBlock≠some mb)→mb∈M→(∀ b∈M,b<w.heap.size)→n+kb d≤100000 →
 Calls Tryz.prog 43 #[.pointer (some ⟨mb,0,none⟩),.int .i64 (d:Nat)] w (MkP M w mb vl (mkR l d n))
 | 0,hd,M,w,vl,mb,n,hb,hl,ho,hmM,hM,hn=>by
  rw [mkR]
  exact maker_step hx hd (B:=0) (f:=fun n=>(rNone,n)) (fun n=>Nat.le_refl _) (fun h=>by omega) hb hl ho hmM hM (by rw [kb] at hn;omega)
 | d+1,hd,M,w,vl,mb,n,hb,hl,ho,hmM,hM,hn=>by
  rw [mkR]
  refine maker_step hx hd (B:=kb d) (f:=mkR l d) (mkR_at l d) (fun _ M' w' vl' mb' n' b1 b2 b3 b4 b5 b6=>?_) hb hl ho hmM hM (by rw [kb] at hn;omega)
  rw [show ((d+1:Nat):Int) - 1=(d:Nat) by omega]
  exact maker_calls hx d (by omega) M' w' vl' mb' n' b1 b2 b3 b4 b5 b6
set_option maxRecDepth 100000 in
set_option maxHeartbeats 8000000 in
theorem madeR_calls {l:List Int} (hx:∀ x∈l,IsI64 x) (hl:SL w 1 v l.length (ints l)):Calls Tryz.prog 11 #[v] w fun e w'=>∃ v',e=.returned v'∧RxV [] w' (madeR l) v'∧Upd [] w w':=by
 obtain ⟨la,lc,rfl,_⟩:=id hl.elems
 have HL:=Lib.hid (And.intro hx hl)
 clear hx hl
 go_enter Tryz.func11,Tryz.ntmps11
 go_upto_region 1 with fail
 have bR:=Blk.new w [.int .i64 0,.int .u8 0,.int .u8 0,.slice none 0 0] 25
 have uR:=(Upd.refl [] w).alloc (.cells #[.int .i64 0,.int .u8 0,.int .u8 0,.slice none 0 0] 25)
 change Code.wp _ _ _ _ (w.alloc (.cells #[.int .i64 0,.int .u8 0,.int .u8 0,.slice none 0 0] 25))
 change Blk (w.alloc (.cells #[.int .i64 0,.int .u8 0,.int .u8 0,.slice none 0 0] 25)) _ _ _ at bR
 generalize (w.alloc (.cells #[.int .i64 0,.int .u8 0,.int .u8 0,.slice none 0 0] 25))=w1 at *
 generalize hrb:w.heap.size=rb at *
 have HR:=Lib.hid (And.intro bR (And.intro uR hrb))
 clear bR uR hrb
 go_upto_region 2 with fail
 have bM:=Blk.new w1 [.slice la l.length lc,.int .i64 ((0:Nat):Int)] 84
 have uM:=(Upd.refl [] w1).alloc (.cells #[.slice la l.length lc,.int .i64 0] 84)
 change Code.wp _ _ _ _ (w1.alloc (.cells #[.slice la l.length lc,.int .i64 0] 84))
 change Blk (w1.alloc (.cells #[.slice la l.length lc,.int .i64 0] 84)) _ _ _ at bM
 generalize (w1.alloc (.cells #[.slice la l.length lc,.int .i64 0] 84))=w2 at *
 have hz1:=HR.out.1.lt
 generalize hmb:w1.heap.size=mb at *
 have HC:=Lib.hid (show Calls Tryz.prog 43 #[.pointer (some ⟨mb,0,none⟩),.int .i64 4] w2 (MkP [mb,rb] w2 mb (.slice la l.length lc) (mkR l 4 0)) from maker_calls HL.out.1 4 (Nat.le_refl _) [mb,rb] w2 (.slice la l.length lc) mb 0 bM ((HL.out.2.upd HR.out.2.1 (by simp)).upd uM (by simp)) (fun h0 h=>by
  have h1:=SL.own_lt HL.out.2 h0 (by omega) h
  have h2:=HR.out.2.1.size
  omega) (by simp) (fun b hb=>by
  have h1:=bM.lt
  have h2:=uM.size
  simp at hb
  rcases hb with rfl|rfl <;> omega) (by simp [kb]))
 have hmr:mb≠rb:=by omega
 have HM:=Lib.hid (And.intro (HR.out.1.upd uM (by simp)) (And.intro (HR.out.2.1.step uM) (And.intro hmr (show w.heap.size≤mb by have:=HR.out.2.1.size;omega))))
 clear bM uM hz1 hmb hmr
 go_wp2_with ((with_reducible refine HC.out.mono ?_);rintro e w3 ⟨v3,rfl,o3,u3,b3⟩;obtain ⟨a3,c3,rfl,hF3,_,_⟩:=o3.shape;have bR:=HM.out.1.upd u3 (by simpa using Ne.symm HM.out.2.2.1);have r0:=bR.cell (i:=0) rfl;have r1:=bR.cell (i:=1) rfl;have r2:=bR.cell (i:=2) rfl;have r3:=bR.cell (i:=3) rfl;have rf:∀ q,w3.frozen? ⟨rb,q,none⟩=false:=bR.free;have H3:=Lib.hid (And.intro bR (And.intro u3 hF3));clear bR u3 hF3 o3 b3)
 have hs:=box_set (a:=.int .i64 (mkR l 4 0).1.kind) (b:=.int .u8 (mkR l 4 0).1.lo) (c:=.int .u8 (mkR l 4 0).1.hi) (d:=.slice a3 (mkR l 4 0).1.kids.length c3) H3.out.1
 exact ret_rr (r:=madeR l) rfl rfl hs.1 rfl ((H3.out.2.2.upd hs.2 (by simp)).sub (by simp)) (((HM.out.2.1.fresh H3.out.2.1 (fun b hb=>.inr (by simp at hb;subst hb;exact HM.out.2.2.2))).fresh hs.2 (fun b hb=>.inr (by simp at hb;subst hb;have:=HR.out.2.2;omega))))
end
end Rgx
end Go.Proofs.YtjclbjdkkdijbaaGreat
end
