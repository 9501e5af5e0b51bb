/- Walks through package regex: forms. Conditions: none. -/
import Derived.Test.YtjclbjdkkdijbaaGreatRxZb
import Derived.Test.YtjclbjdkkdijbaaGreatAuZh
import Derived.Test.YtjclbjdkkdijbaaGreatMapF
set_option linter.unusedVariables false
set_option linter.unusedSimpArgs false
set_option linter.unusedSectionVars false
open Go.RowKit
namespace Go.Proofs.YtjclbjdkkdijbaaGreat
open L
namespace Rgx
open Rx
theorem infoForm:(Tryz.prog.info? 157).map (fun i=>(i.zero,i.size,i.bytes))=some (some .nilFunc,1,8):=by kernel_rfl
section
variable {w w':World} {v:Value}
def Jn (M:List Nat) (w:World) (v:Value) (u z:Rx):Prop:=∃ b1 b2,v=.func (.func 116) #[] #[.pointer (some ⟨b1,0,none⟩),.pointer (some ⟨b2,0,none⟩)]∧Box 37 M w b1 u∧Box 37 M w b2 z
theorem Jn.upd {M S:List Nat} {u z:Rx} (h:Jn M w v u z) (hu:Upd S w w') (hS:∀ b∈S,b∈M):Jn M w' v u z:=by
 obtain ⟨b1,b2,rfl,h1,h2⟩:=h
 exact ⟨b1,b2,rfl,h1.upd hu hS,h2.upd hu hS⟩
set_option maxRecDepth 100000 in
theorem mk_calls {M:List Nat} {u z:Rx} {vu vz:Value} (hu:RxV M w u vu) (hz:RxV M w z vz) (hM:∀ b∈M,b<w.heap.size):Calls Tryz.prog 115 #[vu,vz] w fun e w'=>∃ v,e=.returned v∧Jn M w' v u z∧Upd [] w w':=by
 obtain ⟨a1,c1,rfl,hF,_,_⟩:=hu.shape
 obtain ⟨a2,c2,rfl,hG,_,_⟩:=hz.shape
 have b1:=Box.new (e:=37) hF hM
 have u1:=(Upd.refl [] w).alloc (.cells (rxC u.kind u.lo u.hi (.slice a1 u.kids.length c1)).toArray 37)
 have hz1:(w.alloc (.cells (rxC u.kind u.lo u.hi (.slice a1 u.kids.length c1)).toArray 37)).heap.size=w.heap.size+1:=by simp
 have b2:=Box.new (e:=37) (hG.ext u1) (fun b hb=>by rw [hz1];have:=hM b hb;omega)
 have u2:=u1.alloc (.cells (rxC z.kind z.lo z.hi (.slice a2 z.kids.length c2)).toArray 37)
 have b1':=b1.ext ((Upd.refl [] _).alloc (.cells (rxC z.kind z.lo z.hi (.slice a2 z.kids.length c2)).toArray 37))
 rw [hz1] at b2
 have HX:=Lib.hid (And.intro b1' (And.intro b2 u2))
 clear hu hz hF hG b1 b2 b1' u1 u2 hz1 hM
 go_enter Tryz.func115,Tryz.ntmps115
 go_wp2_with fail
 go_ret
 exact ⟨_,rfl,⟨_,_,rfl,HX.out.1,HX.out.2.1⟩,HX.out.2.2⟩
theorem RxF.notmap {M:List Nat} {r:Rx} {cs:List Value} {b:Nat} {es:_} {cl:_} (h:RxF M w r cs) (hb:w.heap[b]?=some (.map es cl)):RxF (b::M) w r cs:=by
 induction h with
 | mk k lo hi ks vk css a b1 c d e ih=>
  refine .mk k lo hi ks vk css a b1 c (fun g hne hg hm=>?_) ih
  rcases List.mem_cons.1 hm with rfl|hm
  ·obtain ⟨h1,ad,cap,rfl,_,_,_,h5⟩:=b1
   rcases h5 with h5|⟨b2,off,rfl,h5⟩
   ·exact hne (List.eq_nil_of_length_eq_zero h5)
   ·simp only [Value.ownBlock,Option.some.injEq] at hg
    subst hg
    have hl:0<(rows ks.length css).length:=by rw [h1];have:=List.length_pos_iff.2 hne;omega
    have:=h5 0 _ (List.getElem?_eq_getElem hl)
    simp [World.cell?,hb] at this
  ·exact d g hne hg hm
theorem Box.notmap {e:TypeId} {M:List Nat} {bx b:Nat} {u:Rx} {es:_} {cl:_} (h:Box e M w bx u) (hb:w.heap[b]?=some (.map es cl)):Box e (b::M) w bx u:=by
 obtain ⟨a,c,h1,h2,h3⟩:=h
 refine ⟨a,c,h1,h2.notmap hb,fun hm=>?_⟩
 rcases List.mem_cons.1 hm with rfl|hm
 ·unfold Blk at h1;rw [hb] at h1;cases h1
 ·exact h3 hm
theorem Jn.notmap {M:List Nat} {u z:Rx} {b:Nat} {es:_} {cl:_} (h:Jn M w v u z) (hb:w.heap[b]?=some (.map es cl)) (hu:Upd [b] w w'):Jn M w' v u z:=by
 obtain ⟨b1,b2,rfl,h1,h2⟩:=h
 exact ⟨b1,b2,rfl,((h1.notmap hb).upd hu (by simp)).sub (fun b hb=>.inl (by simp [hb])),((h2.notmap hb).upd hu (by simp)).sub (fun b hb=>.inl (by simp [hb]))⟩
def itV:Value:=.func (.func 114) #[] #[]
def noV:Value:=.func (.func 124) #[] #[]
def stV (be ba:Nat):Value:=.func (.func 125) #[] #[.pointer (some ⟨be,0,none⟩),.pointer (some ⟨ba,0,none⟩)]
def keyed (listed:Array Bool) (val:Nat→Value) (x:Int):Option Value:=
 if x=0 then (if listed.getD 2 false=true then some itV else none)
 else if x=1 then (if listed.getD 4 false=true then some itV else none)
 else if x=2 then (if listed.getD 6 false=true then some itV else none)
 else if x=3 then (if listed.getD 11 false=true then some (val 10) else none)
 else if x=4 then (if listed.getD 16 false=true then some (val 15) else none)
 else if x=5 then (if listed.getD 21 false=true then some (val 20) else none)
 else if x=6 then (if listed.getD 22 false=true then some noV else none)
 else if x=7 then (if listed.getD 24 false=true then some (val 23) else none)
 else none
structure FI (M:List Nat) (w0:World) (be ba:Nat) (listed:Array Bool) (val:Nat→Value) (w:World):Prop where
 u:Upd [] w0 w
 m:listed.getD 0 false=true→∃ b,val 0=.map (some b)∧w0.heap.size≤b∧MF Tryz.prog 3 w b 8 (keyed listed val)
 c10:listed.getD 10 false=true→Jn M w (val 10) rEmpty rNone
 c15:listed.getD 15 false=true→Jn M w (val 15) rNone rAll
 c20:listed.getD 20 false=true→Jn M w (val 20) rAll rNone
 c23:listed.getD 23 false=true→val 23=stV be ba
theorem mf_map {P:Program} {k:TypeId} {b N:Nat} {f:Int→Option Value} (h:MF P k w b N f):∃ es cl,w.heap[b]?=some (.map es cl):=by
 obtain ⟨D,⟨es,cl,h1,_⟩,_⟩:=h
 exact ⟨es,cl,h1⟩
theorem FI.ins {M:List Nat} {w0:World} {be ba j:Nat} {listed:Array Bool} {val:Nat→Value} {key:Int} {V v:Value} {b:Nat} (h:FI M w0 be ba listed val w) (hls:listed.size=27) (hj:j<27)
 (hjn:j≠0∧j≠10∧j≠15∧j≠20∧j≠23) (hb:val 0=.map (some b)) (hb0:w0.heap.size≤b) (hm0:∃ es cl,w.heap[b]?=some (.map es cl)) (hm:MF Tryz.prog 3 w' b 8 (fun y=>if y=key then some V else keyed listed val y)) (hu:Upd [b] w w')
 (hk:∀ y,(if y=key then some V else keyed listed val y)=keyed (listed.setIfInBounds j true) (updV val j v) y):FI M w0 be ba (listed.setIfInBounds j true) (updV val j v) w':=by
 have hg:=fun k=>getD_listed (j:=j) hls hj k
 obtain ⟨es,cl,hmm⟩:=hm0
 refine ⟨h.u.fresh hu (fun k hk=>.inr (by simp at hk;subst hk;exact hb0)),fun _=>⟨b,by rw [updV_ne _ _ (Ne.symm hjn.1)];exact hb,hb0,hm.congr hk⟩,fun h1=>?_,fun h1=>?_,fun h1=>?_,fun h1=>?_⟩
 ·rw [hg,if_neg (Ne.symm hjn.2.1)] at h1
  rw [updV_ne _ _ (Ne.symm hjn.2.1)]
  exact (h.c10 h1).notmap hmm hu
 ·rw [hg,if_neg (Ne.symm hjn.2.2.1)] at h1
  rw [updV_ne _ _ (Ne.symm hjn.2.2.1)]
  exact (h.c15 h1).notmap hmm hu
 ·rw [hg,if_neg (Ne.symm hjn.2.2.2.1)] at h1
  rw [updV_ne _ _ (Ne.symm hjn.2.2.2.1)]
  exact (h.c20 h1).notmap hmm hu
 ·rw [hg,if_neg (Ne.symm hjn.2.2.2.2)] at h1
  rw [updV_ne _ _ (Ne.symm hjn.2.2.2.2)]
  exact h.c23 h1
theorem wpList_mfins {P:Program} {k e:TypeId} {ops:Array Oper} {rest:List Oper} {o:Oper} {a:Act} {Q:Exit→Act→World→Prop} {t:TypeId} (hk:P.underlying k=some (.int .i64)) (ht:P.underlying t=some (.map k e)) (hg:o.guard=none) (m x v:Operand) (hop:o.op=Op.insert t m x v)
 (b N:Nat) (f:Int→Option Value) (key:Int) (val:Value) (hm:a.eval m=.map (some b)) (hx:a.eval x=.int .i64 key) (hv:a.eval v=val) (h:MF P k w b N f) (hi:0≤key∧key<N)
 (hK:∀ w',MF P k w' b N (fun y=>if y=key then some val else f y)→Upd [b] w w'→wpList P ops Q rest (a.put o.dst undef) w'):wpList P ops Q (o::rest) a w:=by
 refine wpList_plain hg fun K' hK'=>?_
 obtain ⟨w',hrun,h1,h2⟩:=MF.put h hk ht hi val
 unfold Oper.wp
 simp only [execOp,hop,hm,hx,hv,Sem.run_bind,Sem.run_pure,Result.andThen_ok,hrun]
 exact hK' _ _ (hK w' h1 h2)
structure FM (M:List Nat) (w:World) (b:Nat):Prop where
 ex:∃ (be ba:Nat) (v3 v4 v5:Value) (f:Int→Option Value),MF Tryz.prog 3 w b 8 f∧f 0=some itV∧f 1=some itV∧f 2=some itV∧f 3=some v3∧f 4=some v4∧f 5=some v5∧f 6=some noV∧f 7=some (stV be ba) ∧
  Jn M w v3 rEmpty rNone∧Jn M w v4 rNone rAll∧Jn M w v5 rAll rNone∧Box 37 M w be rEmpty∧Box 37 M w ba rAll
 off:b ∉ M
set_option maxRecDepth 100000 in
set_option maxHeartbeats 8000000 in
theorem forms_calls {M:List Nat} (hM:∀ b∈M,b<w.heap.size):Calls Tryz.prog 86 #[] w fun e w'=>∃ b,e=.returned (.map (some b))∧FM M w' b∧w.heap.size≤b∧Upd [] w w':=by
 have HM:=Lib.hid hM
 clear hM
 go_enter Tryz.func86,Tryz.ntmps86
 go_upto_region 2 with fail
 have b1:=Box.new (e:=37) (u:=rNone) (a:=none) (c:=0) (rNone_F (M:=M) (w:=w)) HM.out
 have u1:=(Upd.refl [] w).alloc (.cells #[.int .i64 0,.int .u8 0,.int .u8 0,.slice none 0 0] 37)
 have z1:(w.alloc (.cells #[.int .i64 0,.int .u8 0,.int .u8 0,.slice none 0 0] 37)).heap.size=w.heap.size+1:=by simp
 have hE:RxF M (w.alloc (.cells #[.int .i64 0,.int .u8 0,.int .u8 0,.slice none 0 0] 37)) rEmpty (rxC 1 0 0 (.slice none 0 0)):=RxF.iff.2 ⟨_,rfl,⟨by unfold IsI64;omega,by omega,by omega⟩,RxL.nil0⟩
 have b2:=Box.new (e:=37) (u:=rEmpty) (a:=none) (c:=0) hE (fun b hb=>by rw [z1];have:=HM.out b hb;omega)
 rw [z1] at b2
 change Code.wp _ _ _ _ ((w.alloc (.cells #[.int .i64 0,.int .u8 0,.int .u8 0,.slice none 0 0] 37)).alloc (.cells #[.int .i64 1,.int .u8 0,.int .u8 0,.slice none 0 0] 37))
 have u2:=u1.alloc (.cells #[.int .i64 1,.int .u8 0,.int .u8 0,.slice none 0 0] 37)
 have z2:((w.alloc (.cells #[.int .i64 0,.int .u8 0,.int .u8 0,.slice none 0 0] 37)).alloc (.cells #[.int .i64 1,.int .u8 0,.int .u8 0,.slice none 0 0] 37)).heap.size=w.heap.size+2:=by simp
 have b1':=b1.ext ((Upd.refl [] _).alloc (.cells #[.int .i64 1,.int .u8 0,.int .u8 0,.slice none 0 0] 37))
 have H2:=Lib.hid (show Box 37 M ((w.alloc (.cells #[.int .i64 0,.int .u8 0,.int .u8 0,.slice none 0 0] 37)).alloc (.cells #[.int .i64 1,.int .u8 0,.int .u8 0,.slice none 0 0] 37)) w.heap.size rNone∧Box 37 M ((w.alloc (.cells #[.int .i64 0,.int .u8 0,.int .u8 0,.slice none 0 0] 37)).alloc (.cells #[.int .i64 1,.int .u8 0,.int .u8 0,.slice none 0 0] 37)) (w.heap.size+1) rEmpty∧Upd [] w ((w.alloc (.cells #[.int .i64 0,.int .u8 0,.int .u8 0,.slice none 0 0] 37)).alloc (.cells #[.int .i64 1,.int .u8 0,.int .u8 0,.slice none 0 0] 37))∧((w.alloc (.cells #[.int .i64 0,.int .u8 0,.int .u8 0,.slice none 0 0] 37)).alloc (.cells #[.int .i64 1,.int .u8 0,.int .u8 0,.slice none 0 0] 37)).heap.size=w.heap.size+2 from ⟨b1',b2,u2,z2⟩)
 clear b1 b1' b2 u1 u2 z1 z2 hE
 have HE2:=Lib.hid (show Blk ((w.alloc (.cells #[.int .i64 0,.int .u8 0,.int .u8 0,.slice none 0 0] 37)).alloc (.cells #[.int .i64 1,.int .u8 0,.int .u8 0,.slice none 0 0] 37)) (w.heap.size+1) [.int .i64 1,.int .u8 0,.int .u8 0,.slice none 0 0] 37 from by
  have:=Blk.new (w.alloc (.cells #[.int .i64 0,.int .u8 0,.int .u8 0,.slice none 0 0] 37)) [.int .i64 1,.int .u8 0,.int .u8 0,.slice none 0 0] 37
  rwa [show (w.alloc (.cells #[.int .i64 0,.int .u8 0,.int .u8 0,.slice none 0 0] 37)).heap.size=w.heap.size+1 by simp] at this)
 have hb0:Blk ((w.alloc (.cells #[.int .i64 0,.int .u8 0,.int .u8 0,.slice none 0 0] 37)).alloc (.cells #[.int .i64 1,.int .u8 0,.int .u8 0,.slice none 0 0] 37)) w.heap.size [.int .i64 0,.int .u8 0,.int .u8 0,.slice none 0 0] 37:=(Blk.new w _ _).alloc _
 generalize ((w.alloc (.cells #[.int .i64 0,.int .u8 0,.int .u8 0,.slice none 0 0] 37)).alloc (.cells #[.int .i64 1,.int .u8 0,.int .u8 0,.slice none 0 0] 37))=w2 at *
 have k0:=hb0.cell (i:=0) rfl
 have k1:=hb0.cell (i:=1) rfl
 have k2:=hb0.cell (i:=2) rfl
 have k3:=hb0.cell (i:=3) rfl
 have hN2:=hb0
 clear hb0
 generalize hn:w.heap.size=n0 at *
 have HN:=Lib.hid hn
 clear hn
 have hz:=H2.out.2.2.2
 go_upto_region 3 with fail
 have hR:OwR 37 M (w2.alloc (.cells #[.int .i64 0,.int .u8 0,.int .u8 0,.slice none 0 0] 37)) (.slice (some ⟨n0+2,0,none⟩) 1 1) [rNone]:=by
  refine OwR.of_blk (c:=1) (m:=1) (css:=fun _=>rxC 0 0 0 (.slice none 0 0)) (pad:=[]) ?_ rfl rfl (by omega) (by omega) (fun _=>rfl) (fun hm=>by have:=HM.out _ hm;omega) (fun i r hr=>?_)
  ·have:=Blk.new w2 [.int .i64 0,.int .u8 0,.int .u8 0,.slice none 0 0] 37
   rw [hz] at this
   exact this
  ·match i with
   | 0=>cases hr;exact rNone_F
   | (i+1)=>simp at hr
 have u3:=(Upd.refl [] w2).alloc (.cells #[.int .i64 0,.int .u8 0,.int .u8 0,.slice none 0 0] 37)
 have z3:(w2.alloc (.cells #[.int .i64 0,.int .u8 0,.int .u8 0,.slice none 0 0] 37)).heap.size=n0+3:=by simp [hz]
 have hAF:RxF M (w2.alloc (.cells #[.int .i64 0,.int .u8 0,.int .u8 0,.slice none 0 0] 37)) rAll (rxC 6 0 0 (.slice (some ⟨n0+2,0,none⟩) 1 1)):=RxF.iff.2 ⟨_,rfl,⟨by unfold IsI64;omega,by omega,by omega⟩,hR.list⟩
 have b3:=Box.new (e:=37) (u:=rAll) (a:=some ⟨n0+2,0,none⟩) (c:=1) hAF (fun b hb=>by rw [z3];have:=HM.out b hb;omega)
 rw [z3] at b3
 have u4:=u3.alloc (.cells #[.int .i64 6,.int .u8 0,.int .u8 0,.slice (some ⟨n0+2,0,none⟩) 1 1] 37)
 have z4:((w2.alloc (.cells #[.int .i64 0,.int .u8 0,.int .u8 0,.slice none 0 0] 37)).alloc (.cells #[.int .i64 6,.int .u8 0,.int .u8 0,.slice (some ⟨n0+2,0,none⟩) 1 1] 37)).heap.size=n0+4:=by simp [hz]
 have hb4:Blk ((w2.alloc (.cells #[.int .i64 0,.int .u8 0,.int .u8 0,.slice none 0 0] 37)).alloc (.cells #[.int .i64 6,.int .u8 0,.int .u8 0,.slice (some ⟨n0+2,0,none⟩) 1 1] 37)) (n0+3) [.int .i64 6,.int .u8 0,.int .u8 0,.slice (some ⟨n0+2,0,none⟩) 1 1] 37:=by
  have:=Blk.new (w2.alloc (.cells #[.int .i64 0,.int .u8 0,.int .u8 0,.slice none 0 0] 37)) [.int .i64 6,.int .u8 0,.int .u8 0,.slice (some ⟨n0+2,0,none⟩) 1 1] 37
  rwa [z3] at this
 have hAF4:=hAF.ext ((Upd.refl [] _).alloc (.cells #[.int .i64 6,.int .u8 0,.int .u8 0,.slice (some ⟨n0+2,0,none⟩) 1 1] 37))
 rw [show n0+2+1=n0+3 from rfl]
 have he2:Blk w2 (n0+1) [.int .i64 1,.int .u8 0,.int .u8 0,.slice none 0 0] 37:=HE2.out
 have hBe:=he2.upd u4 (by simp)
 have hBn:=hN2.upd u4 (by simp)
 have HB4:=Lib.hid (And.intro (H2.out.1.ext u4) (And.intro (H2.out.2.1.ext u4) (And.intro (show Box 37 M ((w2.alloc (.cells #[.int .i64 0,.int .u8 0,.int .u8 0,.slice none 0 0] 37)).alloc (.cells #[.int .i64 6,.int .u8 0,.int .u8 0,.slice (some ⟨n0+2,0,none⟩) 1 1] 37)) (n0+3) rAll from b3) (And.intro (H2.out.2.2.1.step u4) z4))))
 have HV:=Lib.hid (And.intro (show RxV M ((w2.alloc (.cells #[.int .i64 0,.int .u8 0,.int .u8 0,.slice none 0 0] 37)).alloc (.cells #[.int .i64 6,.int .u8 0,.int .u8 0,.slice (some ⟨n0+2,0,none⟩) 1 1] 37)) rEmpty (.agg #[.int .i64 1,.int .u8 0,.int .u8 0,.slice none 0 0]) from ⟨_,rfl,RxF.iff.2 ⟨_,rfl,⟨by unfold IsI64;omega,by omega,by omega⟩,RxL.nil0⟩⟩) (And.intro (show RxV M ((w2.alloc (.cells #[.int .i64 0,.int .u8 0,.int .u8 0,.slice none 0 0] 37)).alloc (.cells #[.int .i64 6,.int .u8 0,.int .u8 0,.slice (some ⟨n0+2,0,none⟩) 1 1] 37)) rNone (.agg #[.int .i64 0,.int .u8 0,.int .u8 0,.slice none 0 0]) from ⟨_,rfl,rNone_F⟩) (show RxV M ((w2.alloc (.cells #[.int .i64 0,.int .u8 0,.int .u8 0,.slice none 0 0] 37)).alloc (.cells #[.int .i64 6,.int .u8 0,.int .u8 0,.slice (some ⟨n0+2,0,none⟩) 1 1] 37)) rAll (.agg #[.int .i64 6,.int .u8 0,.int .u8 0,.slice (some ⟨n0+2,0,none⟩) 1 1]) from ⟨_,rfl,hAF4⟩)))
 generalize ((w2.alloc (.cells #[.int .i64 0,.int .u8 0,.int .u8 0,.slice none 0 0] 37)).alloc (.cells #[.int .i64 6,.int .u8 0,.int .u8 0,.slice (some ⟨n0+2,0,none⟩) 1 1] 37))=w5 at *
 have HLT:=Lib.hid (show ∀ b∈M,b<w5.heap.size from fun b hb=>by have:=HM.out b hb;have:=HB4.out.2.2.2.2;omega)
 clear k0 k1 k2 k3 hR u3 z3 hAF b3 u4 z4 hAF4
 have n0c:=hBn.cell (i:=0) rfl
 have n1c:=hBn.cell (i:=1) rfl
 have n2c:=hBn.cell (i:=2) rfl
 have n3c:=hBn.cell (i:=3) rfl
 have e0c:=hBe.cell (i:=0) rfl
 have e1c:=hBe.cell (i:=1) rfl
 have e2c:=hBe.cell (i:=2) rfl
 have e3c:=hBe.cell (i:=3) rfl
 have a0c:=hb4.cell (i:=0) rfl
 have a1c:=hb4.cell (i:=1) rfl
 have a2c:=hb4.cell (i:=2) rfl
 have a3c:=hb4.cell (i:=3) rfl
 clear hBn hBe hb4 he2 hN2 hz
 go_wp2_with fail
 refine wp_region_wa 27 27 (fun w'=>∃ x:Ext w5,w'=x.val) (by kernel_rfl) (by kernel_rfl) (Ext.of (by iterate 25 (first|exact Upd.refl _ _|assumption|refine Upd.alloc ?_ _|refine Upd.drew ?_|refine Upd.drewN ?_ _|refine Upd.dl ?_|refine Upd.step ?_ (Ext.upd _)|refine Upd.nil ?_|skip))) ?_
 (refine WA.free 1 rfl rfl (by kernel_rfl) (fun K hK=>?_);go_big_quiet_step (fail);refine wpQuiet_nil ?_;refine hK _ ?_;clear hK K);(refine WA.free 3 rfl rfl (by kernel_rfl) (fun K hK=>?_);go_big_quiet_step (fail);refine wpQuiet_nil ?_;refine hK _ ?_;clear hK K);(refine WA.free 5 rfl rfl (by kernel_rfl) (fun K hK=>?_);go_big_quiet_step (fail);refine wpQuiet_nil ?_;refine hK _ ?_;clear hK K);(refine WA.free 7 rfl rfl (by kernel_rfl) (fun K hK=>?_);go_big_quiet_step (fail);refine wpQuiet_nil ?_;refine hK _ ?_;clear hK K)
 (refine WA.load 8 27 rfl rfl (by kernel_rfl) (by kernel_rfl) (fun K hK=>?_);go_big_quiet_step (fail);refine wpQuiet_nil ?_;refine hK _ ?_;clear hK K)
 (refine WA.load 9 27 rfl rfl (by kernel_rfl) (by kernel_rfl) (fun K hK=>?_);go_big_quiet_step (fail);refine wpQuiet_nil ?_;refine hK _ ?_;clear hK K)
 (refine WA.free 12 rfl rfl (by kernel_rfl) (fun K hK=>?_);go_big_quiet_step (fail);refine wpQuiet_nil ?_;refine hK _ ?_;clear hK K)
 (refine WA.load 13 27 rfl rfl (by kernel_rfl) (by kernel_rfl) (fun K hK=>?_);go_big_quiet_step (fail);refine wpQuiet_nil ?_;refine hK _ ?_;clear hK K)
 (refine WA.load 14 27 rfl rfl (by kernel_rfl) (by kernel_rfl) (fun K hK=>?_);go_big_quiet_step (fail);refine wpQuiet_nil ?_;refine hK _ ?_;clear hK K)
 (refine WA.free 17 rfl rfl (by kernel_rfl) (fun K hK=>?_);go_big_quiet_step (fail);refine wpQuiet_nil ?_;refine hK _ ?_;clear hK K)
 (refine WA.load 18 27 rfl rfl (by kernel_rfl) (by kernel_rfl) (fun K hK=>?_);go_big_quiet_step (fail);refine wpQuiet_nil ?_;refine hK _ ?_;clear hK K)
 (refine WA.load 19 27 rfl rfl (by kernel_rfl) (by kernel_rfl) (fun K hK=>?_);go_big_quiet_step (fail);refine wpQuiet_nil ?_;refine hK _ ?_;clear hK K)
 refine WA.invA (w0:=w5) 20 [0,2,4,6,10,11,15,16,20,21,22,23,24] [(0,11),(10,18),(15,22),(20,26),(23,27)] _ #[true,true,true,true,true,true,true,true,true,true,true,true,true,true,true,true,true,true,true,true,true,true,true,true,true,false,false] (FI M w5 (n0+1) (n0+3)) 2 15 (by kernel_rfl) (fun _ _ _ h=>h.u) ?step ?end' ?start
 case start=>
  intro val
  exact FI.mk (by iterate 25 (first|exact Upd.refl _ _|assumption|refine Upd.alloc ?_ _|refine Upd.drew ?_|refine Upd.drewN ?_ _|refine Upd.dl ?_|refine Upd.step ?_ (Ext.upd _)|refine Upd.nil ?_|skip)) (fun h=>by cases h) (fun h=>by cases h) (fun h=>by cases h) (fun h=>by cases h) (fun h=>by cases h)
 case step=>
  intro j hj listed val wq hls hjn hcl haf h
  replace hls:listed.size=27:=hls
  simp only [List.mem_cons,List.not_mem_nil,or_false] at hj
  rcases hj with rfl|rfl|rfl|rfl|rfl|rfl|rfl|rfl|rfl|rfl|rfl|rfl|rfl
  ·refine wpOp_mk rfl (fun K hK=>?_)
   simp only [setAll,List.setIfInBounds_toArray,List.set_cons_succ,List.set_cons_zero]
   have hmm:=@run_makeMap Tryz.prog
   go_wp2_with fail
   have hg:=fun k=>getD_listed (j:=0) hls (by omega) k
   have hno:∀ i,depB _ i 0=true→listed.getD i false=false:=fun i hd=>by
    cases hq:listed.getD i false with
    | false=>rfl
    | true=>have:=hcl.dep (i:=0) hd hq;rw [hjn] at this;cases this
   refine Halt_.intro ⟨.map (some wq.heap.size),by simp [setAll,updV],?_⟩
   have hu:Upd [] wq (wq.alloc (.map #[] 0)):=(Upd.refl [] wq).alloc _
   exact FI.mk (h.u.step hu) (fun _=>⟨wq.heap.size,rfl,h.u.size,(MF.new wq _ _ 8 (by omega)).congr (fun y=>by
    unfold keyed
    simp only [hg,updV,hno 2 (by kernel_rfl),hno 4 (by kernel_rfl),hno 6 (by kernel_rfl),hno 11 (by kernel_rfl),hno 16 (by kernel_rfl),hno 21 (by kernel_rfl),hno 22 (by kernel_rfl),hno 24 (by kernel_rfl)]
    simp)⟩)
    (fun h1=>by rw [hg,if_neg (by omega)] at h1;rw [updV_ne _ _ (by omega)];exact (h.c10 h1).upd hu (by simp))
    (fun h1=>by rw [hg,if_neg (by omega)] at h1;rw [updV_ne _ _ (by omega)];exact (h.c15 h1).upd hu (by simp))
    (fun h1=>by rw [hg,if_neg (by omega)] at h1;rw [updV_ne _ _ (by omega)];exact (h.c20 h1).upd hu (by simp))
    (fun h1=>by rw [hg,if_neg (by omega)] at h1;rw [updV_ne _ _ (by omega)];exact h.c23 h1)
  ·have hb0:=after_dep haf (i:=0) (by kernel_rfl)
   obtain ⟨b,hv0,hbs,hmf⟩:=h.m hb0
   have hmm:=mf_map hmf
   refine wpOp_mk rfl (fun K hK=>?_)
   simp only [setAll,List.setIfInBounds_toArray,List.set_cons_succ,List.set_cons_zero]
   refine wpList_mfins Tryz.underlying3 Tryz.underlying136 rfl _ _ _ rfl b 8 _ 0 (itV) hv0 rfl rfl hmf (by omega) ?_
   intro w' hm' hu'
   simp only [Act.put,List.setIfInBounds_toArray,List.set_cons_zero,List.set_cons_succ]
   have HI:=Lib.hid (And.intro hm' hu')
   clear hm' hu'
   go_wp2_with fail
   refine Halt_.intro ⟨undef,by simp [setAll,updV],FI.ins h hls (by omega) (by omega) hv0 hbs hmm HI.out.1 HI.out.2 (fun y=>?_)⟩
   have hg:=fun k=>getD_listed (j:=2) hls (by omega) k
   unfold keyed
   simp only [hg,updV]
   by_cases hy:y=0
   ·subst hy;simp
   ·simp [hy]
  ·have hb0:=after_dep haf (i:=0) (by kernel_rfl)
   obtain ⟨b,hv0,hbs,hmf⟩:=h.m hb0
   have hmm:=mf_map hmf
   refine wpOp_mk rfl (fun K hK=>?_)
   simp only [setAll,List.setIfInBounds_toArray,List.set_cons_succ,List.set_cons_zero]
   refine wpList_mfins Tryz.underlying3 Tryz.underlying136 rfl _ _ _ rfl b 8 _ 1 (itV) hv0 rfl rfl hmf (by omega) ?_
   intro w' hm' hu'
   simp only [Act.put,List.setIfInBounds_toArray,List.set_cons_zero,List.set_cons_succ]
   have HI:=Lib.hid (And.intro hm' hu')
   clear hm' hu'
   go_wp2_with fail
   refine Halt_.intro ⟨undef,by simp [setAll,updV],FI.ins h hls (by omega) (by omega) hv0 hbs hmm HI.out.1 HI.out.2 (fun y=>?_)⟩
   have hg:=fun k=>getD_listed (j:=4) hls (by omega) k
   unfold keyed
   simp only [hg,updV]
   by_cases hy:y=1
   ·subst hy;simp
   ·simp [hy]
  ·have hb0:=after_dep haf (i:=0) (by kernel_rfl)
   obtain ⟨b,hv0,hbs,hmf⟩:=h.m hb0
   have hmm:=mf_map hmf
   refine wpOp_mk rfl (fun K hK=>?_)
   simp only [setAll,List.setIfInBounds_toArray,List.set_cons_succ,List.set_cons_zero]
   refine wpList_mfins Tryz.underlying3 Tryz.underlying136 rfl _ _ _ rfl b 8 _ 2 (itV) hv0 rfl rfl hmf (by omega) ?_
   intro w' hm' hu'
   simp only [Act.put,List.setIfInBounds_toArray,List.set_cons_zero,List.set_cons_succ]
   have HI:=Lib.hid (And.intro hm' hu')
   clear hm' hu'
   go_wp2_with fail
   refine Halt_.intro ⟨undef,by simp [setAll,updV],FI.ins h hls (by omega) (by omega) hv0 hbs hmm HI.out.1 HI.out.2 (fun y=>?_)⟩
   have hg:=fun k=>getD_listed (j:=6) hls (by omega) k
   unfold keyed
   simp only [hg,updV]
   by_cases hy:y=2
   ·subst hy;simp
   ·simp [hy]
  ·refine wpOp_mk rfl (fun K hK=>?_)
   simp only [setAll,List.setIfInBounds_toArray,List.set_cons_succ,List.set_cons_zero]
   have HC:=Lib.hid (mk_calls (u:=rEmpty) (z:=rNone) (vu:=.agg #[.int .i64 1,.int .u8 0,.int .u8 0,.slice none 0 0]) (vz:=.agg #[.int .i64 0,.int .u8 0,.int .u8 0,.slice none 0 0]) ((HV.out.1).ext h.u) ((HV.out.2.1).ext h.u) (fun b hb=>by have:=HLT.out b hb;have:=h.u.size;omega))
   go_wp2_with (first|(with_reducible refine HC.out.mono ?_);rintro e w' ⟨vq,rfl,hj,hu⟩)
   refine Halt_.intro ⟨vq,by simp [setAll,updV],?_⟩
   have hg:=fun k=>getD_listed (j:=10) hls (by omega) k
   exact FI.mk (h.u.step hu) (fun h1=>by
    rw [hg,if_neg (by omega)] at h1
    obtain ⟨b,hv0,hbs,hmf⟩:=h.m h1
    refine ⟨b,hv0,hbs,(hmf.upd hu (by simp)).congr (fun y=>?_)⟩
    have hno:listed.getD 11 false=false:=by
     cases hq:listed.getD 11 false with
     | false=>rfl
     | true=>have:=hcl.dep (i:=10) (by kernel_rfl) hq;rw [hjn] at this;cases this
    unfold keyed
    simp only [hg,updV]
    by_cases hy:y=3
    ·subst hy;simp [hno]
    ·simp [hy])
    (fun _=>by rw [updV_same];exact hj)
    (fun h1=>by rw [hg,if_neg (by omega)] at h1;rw [updV_ne _ _ (by omega)];exact (h.c15 h1).upd hu (by simp))
    (fun h1=>by rw [hg,if_neg (by omega)] at h1;rw [updV_ne _ _ (by omega)];exact (h.c20 h1).upd hu (by simp))
    (fun h1=>by rw [hg,if_neg (by omega)] at h1;rw [updV_ne _ _ (by omega)];exact h.c23 h1)
  ·have hb0:=after_dep haf (i:=0) (by kernel_rfl)
   obtain ⟨b,hv0,hbs,hmf⟩:=h.m hb0
   have hmm:=mf_map hmf
   refine wpOp_mk rfl (fun K hK=>?_)
   simp only [setAll,List.setIfInBounds_toArray,List.set_cons_succ,List.set_cons_zero]
   refine wpList_mfins Tryz.underlying3 Tryz.underlying136 rfl _ _ _ rfl b 8 _ 3 (val 10) hv0 rfl rfl hmf (by omega) ?_
   intro w' hm' hu'
   simp only [Act.put,List.setIfInBounds_toArray,List.set_cons_zero,List.set_cons_succ]
   have HI:=Lib.hid (And.intro hm' hu')
   clear hm' hu'
   go_wp2_with fail
   refine Halt_.intro ⟨undef,by simp [setAll,updV],FI.ins h hls (by omega) (by omega) hv0 hbs hmm HI.out.1 HI.out.2 (fun y=>?_)⟩
   have hg:=fun k=>getD_listed (j:=11) hls (by omega) k
   unfold keyed
   simp only [hg,updV]
   by_cases hy:y=3
   ·subst hy;simp
   ·simp [hy]
  ·refine wpOp_mk rfl (fun K hK=>?_)
   simp only [setAll,List.setIfInBounds_toArray,List.set_cons_succ,List.set_cons_zero]
   have HC:=Lib.hid (mk_calls (u:=rNone) (z:=rAll) (vu:=.agg #[.int .i64 0,.int .u8 0,.int .u8 0,.slice none 0 0]) (vz:=.agg #[.int .i64 6,.int .u8 0,.int .u8 0,.slice (some ⟨n0+2,0,none⟩) 1 1]) ((HV.out.2.1).ext h.u) ((HV.out.2.2).ext h.u) (fun b hb=>by have:=HLT.out b hb;have:=h.u.size;omega))
   go_wp2_with (first|(with_reducible refine HC.out.mono ?_);rintro e w' ⟨vq,rfl,hj,hu⟩)
   refine Halt_.intro ⟨vq,by simp [setAll,updV],?_⟩
   have hg:=fun k=>getD_listed (j:=15) hls (by omega) k
   exact FI.mk (h.u.step hu) (fun h1=>by
    rw [hg,if_neg (by omega)] at h1
    obtain ⟨b,hv0,hbs,hmf⟩:=h.m h1
    refine ⟨b,hv0,hbs,(hmf.upd hu (by simp)).congr (fun y=>?_)⟩
    have hno:listed.getD 16 false=false:=by
     cases hq:listed.getD 16 false with
     | false=>rfl
     | true=>have:=hcl.dep (i:=15) (by kernel_rfl) hq;rw [hjn] at this;cases this
    unfold keyed
    simp only [hg,updV]
    by_cases hy:y=4
    ·subst hy;simp [hno]
    ·simp [hy])
    (fun h1=>by rw [hg,if_neg (by omega)] at h1;rw [updV_ne _ _ (by omega)];exact (h.c10 h1).upd hu (by simp))
    (fun _=>by rw [updV_same];exact hj)
    (fun h1=>by rw [hg,if_neg (by omega)] at h1;rw [updV_ne _ _ (by omega)];exact (h.c20 h1).upd hu (by simp))
    (fun h1=>by rw [hg,if_neg (by omega)] at h1;rw [updV_ne _ _ (by omega)];exact h.c23 h1)
  ·have hb0:=after_dep haf (i:=0) (by kernel_rfl)
   obtain ⟨b,hv0,hbs,hmf⟩:=h.m hb0
   have hmm:=mf_map hmf
   refine wpOp_mk rfl (fun K hK=>?_)
   simp only [setAll,List.setIfInBounds_toArray,List.set_cons_succ,List.set_cons_zero]
   refine wpList_mfins Tryz.underlying3 Tryz.underlying136 rfl _ _ _ rfl b 8 _ 4 (val 15) hv0 rfl rfl hmf (by omega) ?_
   intro w' hm' hu'
   simp only [Act.put,List.setIfInBounds_toArray,List.set_cons_zero,List.set_cons_succ]
   have HI:=Lib.hid (And.intro hm' hu')
   clear hm' hu'
   go_wp2_with fail
   refine Halt_.intro ⟨undef,by simp [setAll,updV],FI.ins h hls (by omega) (by omega) hv0 hbs hmm HI.out.1 HI.out.2 (fun y=>?_)⟩
   have hg:=fun k=>getD_listed (j:=16) hls (by omega) k
   unfold keyed
   simp only [hg,updV]
   by_cases hy:y=4
   ·subst hy;simp
   ·simp [hy]
  ·refine wpOp_mk rfl (fun K hK=>?_)
   simp only [setAll,List.setIfInBounds_toArray,List.set_cons_succ,List.set_cons_zero]
   have HC:=Lib.hid (mk_calls (u:=rAll) (z:=rNone) (vu:=.agg #[.int .i64 6,.int .u8 0,.int .u8 0,.slice (some ⟨n0+2,0,none⟩) 1 1]) (vz:=.agg #[.int .i64 0,.int .u8 0,.int .u8 0,.slice none 0 0]) ((HV.out.2.2).ext h.u) ((HV.out.2.1).ext h.u) (fun b hb=>by have:=HLT.out b hb;have:=h.u.size;omega))
   go_wp2_with (first|(with_reducible refine HC.out.mono ?_);rintro e w' ⟨vq,rfl,hj,hu⟩)
   refine Halt_.intro ⟨vq,by simp [setAll,updV],?_⟩
   have hg:=fun k=>getD_listed (j:=20) hls (by omega) k
   exact FI.mk (h.u.step hu) (fun h1=>by
    rw [hg,if_neg (by omega)] at h1
    obtain ⟨b,hv0,hbs,hmf⟩:=h.m h1
    refine ⟨b,hv0,hbs,(hmf.upd hu (by simp)).congr (fun y=>?_)⟩
    have hno:listed.getD 21 false=false:=by
     cases hq:listed.getD 21 false with
     | false=>rfl
     | true=>have:=hcl.dep (i:=20) (by kernel_rfl) hq;rw [hjn] at this;cases this
    unfold keyed
    simp only [hg,updV]
    by_cases hy:y=5
    ·subst hy;simp [hno]
    ·simp [hy])
    (fun h1=>by rw [hg,if_neg (by omega)] at h1;rw [updV_ne _ _ (by omega)];exact (h.c10 h1).upd hu (by simp))
    (fun h1=>by rw [hg,if_neg (by omega)] at h1;rw [updV_ne _ _ (by omega)];exact (h.c15 h1).upd hu (by simp))
    (fun _=>by rw [updV_same];exact hj)
    (fun h1=>by rw [hg,if_neg (by omega)] at h1;rw [updV_ne _ _ (by omega)];exact h.c23 h1)
  ·have hb0:=after_dep haf (i:=0) (by kernel_rfl)
   obtain ⟨b,hv0,hbs,hmf⟩:=h.m hb0
   have hmm:=mf_map hmf
   refine wpOp_mk rfl (fun K hK=>?_)
   simp only [setAll,List.setIfInBounds_toArray,List.set_cons_succ,List.set_cons_zero]
   refine wpList_mfins Tryz.underlying3 Tryz.underlying136 rfl _ _ _ rfl b 8 _ 5 (val 20) hv0 rfl rfl hmf (by omega) ?_
   intro w' hm' hu'
   simp only [Act.put,List.setIfInBounds_toArray,List.set_cons_zero,List.set_cons_succ]
   have HI:=Lib.hid (And.intro hm' hu')
   clear hm' hu'
   go_wp2_with fail
   refine Halt_.intro ⟨undef,by simp [setAll,updV],FI.ins h hls (by omega) (by omega) hv0 hbs hmm HI.out.1 HI.out.2 (fun y=>?_)⟩
   have hg:=fun k=>getD_listed (j:=21) hls (by omega) k
   unfold keyed
   simp only [hg,updV]
   by_cases hy:y=5
   ·subst hy;simp
   ·simp [hy]
  ·have hb0:=after_dep haf (i:=0) (by kernel_rfl)
   obtain ⟨b,hv0,hbs,hmf⟩:=h.m hb0
   have hmm:=mf_map hmf
   refine wpOp_mk rfl (fun K hK=>?_)
   simp only [setAll,List.setIfInBounds_toArray,List.set_cons_succ,List.set_cons_zero]
   refine wpList_mfins Tryz.underlying3 Tryz.underlying136 rfl _ _ _ rfl b 8 _ 6 (noV) hv0 rfl rfl hmf (by omega) ?_
   intro w' hm' hu'
   simp only [Act.put,List.setIfInBounds_toArray,List.set_cons_zero,List.set_cons_succ]
   have HI:=Lib.hid (And.intro hm' hu')
   clear hm' hu'
   go_wp2_with fail
   refine Halt_.intro ⟨undef,by simp [setAll,updV],FI.ins h hls (by omega) (by omega) hv0 hbs hmm HI.out.1 HI.out.2 (fun y=>?_)⟩
   have hg:=fun k=>getD_listed (j:=22) hls (by omega) k
   unfold keyed
   simp only [hg,updV]
   by_cases hy:y=6
   ·subst hy;simp
   ·simp [hy]
  ·refine wpOp_mk rfl (fun K hK=>?_)
   simp only [setAll,List.setIfInBounds_toArray,List.set_cons_succ,List.set_cons_zero]
   go_wp2_with fail
   have hg:=fun k=>getD_listed (j:=23) hls (by omega) k
   have hno:listed.getD 24 false=false:=by
    cases hq:listed.getD 24 false with
    | false=>rfl
    | true=>have:=hcl.dep (i:=23) (by kernel_rfl) hq;rw [hjn] at this;cases this
   refine Halt_.intro ⟨stV (n0+1) (n0+3),by simp [setAll,updV,stV],?_⟩
   exact FI.mk h.u (fun h1=>by
    rw [hg,if_neg (by omega)] at h1
    obtain ⟨b,hv0,hbs,hmf⟩:=h.m h1
    refine ⟨b,hv0,hbs,hmf.congr (fun y=>?_)⟩
    unfold keyed
    simp only [hg,updV]
    by_cases hy:y=7
    ·subst hy;simp [hno]
    ·simp [hy])
    (fun h1=>by rw [hg,if_neg (by omega)] at h1;rw [updV_ne _ _ (by omega)];exact h.c10 h1)
    (fun h1=>by rw [hg,if_neg (by omega)] at h1;rw [updV_ne _ _ (by omega)];exact h.c15 h1)
    (fun h1=>by rw [hg,if_neg (by omega)] at h1;rw [updV_ne _ _ (by omega)];exact h.c20 h1)
    (fun _=>by rw [updV_same])
  ·have hb0:=after_dep haf (i:=0) (by kernel_rfl)
   obtain ⟨b,hv0,hbs,hmf⟩:=h.m hb0
   have hmm:=mf_map hmf
   refine wpOp_mk rfl (fun K hK=>?_)
   simp only [setAll,List.setIfInBounds_toArray,List.set_cons_succ,List.set_cons_zero]
   refine wpList_mfins Tryz.underlying3 Tryz.underlying136 rfl _ _ _ rfl b 8 _ 7 (val 23) hv0 rfl rfl hmf (by omega) ?_
   intro w' hm' hu'
   simp only [Act.put,List.setIfInBounds_toArray,List.set_cons_zero,List.set_cons_succ]
   have HI:=Lib.hid (And.intro hm' hu')
   clear hm' hu'
   go_wp2_with fail
   refine Halt_.intro ⟨undef,by simp [setAll,updV],FI.ins h hls (by omega) (by omega) hv0 hbs hmm HI.out.1 HI.out.2 (fun y=>?_)⟩
   have hg:=fun k=>getD_listed (j:=24) hls (by omega) k
   unfold keyed
   simp only [hg,updV]
   by_cases hy:y=7
   ·subst hy;simp
   ·simp [hy]
 case end'=>
  intro val wq h
  obtain ⟨b,hv0,hbs,hmf⟩:=h.m rfl
  have h23:=h.c23 rfl
  have HF:=Lib.hid (And.intro h (And.intro hbs (And.intro hmf h23)))
  clear h hbs hmf h23
  simp only [setAll,List.setIfInBounds_toArray,List.set_cons_succ,List.set_cons_zero]
  rw [hv0]
  (refine WA.free 25 rfl rfl (by kernel_rfl) (fun K hK=>?_);go_big_quiet_step (fail);refine wpQuiet_nil ?_;refine hK _ ?_;clear hK K);(refine WA.free 26 rfl rfl (by kernel_rfl) (fun K hK=>?_);go_big_quiet_step (fail);refine wpQuiet_nil ?_;refine hK _ ?_;clear hK K)
  refine WA.nil (by kernel_rfl) ?_
  go_wp2_with fail
  go_ret
  have hle:=HF.out.2.1
  have hz:=HB4.out.2.2.2.2
  have hn:=HN.out
  refine ⟨b,rfl,⟨⟨n0+1,n0+3,val 10,val 15,val 20,_,HF.out.2.2.1,rfl,rfl,rfl,rfl,rfl,rfl,rfl,by rw [←HF.out.2.2.2];rfl,HF.out.1.c10 rfl,HF.out.1.c15 rfl,HF.out.1.c20 rfl,HB4.out.2.1.ext HF.out.1.u,HB4.out.2.2.1.ext HF.out.1.u⟩,fun hm=>by have:=HM.out b hm;omega⟩,by omega,HB4.out.2.2.2.1.step HF.out.1.u⟩
end
end Rgx
end Go.Proofs.YtjclbjdkkdijbaaGreat
