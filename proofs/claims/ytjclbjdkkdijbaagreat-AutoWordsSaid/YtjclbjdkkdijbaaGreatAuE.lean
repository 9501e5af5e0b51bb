/- Walks through package auto: number, at expressions. Conditions: none. -/
import Derived.Test.YtjclbjdkkdijbaaGreatAuO
set_option linter.unusedVariables false
set_option linter.unusedSimpArgs false
set_option linter.unusedSectionVars false
open Go.RowKit
namespace Go.Proofs.YtjclbjdkkdijbaaGreat
open L
namespace Aut
open Rgx Rx Auto
def nxR (cuts:List Int) (s:Rx) (k:Nat):Option Rx:=lim (der (cuts.getD k 0) s)
theorem nxR_none {cuts:List Int} {s:Rx} {k:Nat} (h:64<nodes (der (cuts.getD k 0) s)):nxR cuts s k=none∧limE (der (cuts.getD k 0) s)=4:=by
 unfold nxR lim limE;rw [if_pos h,if_pos h];exact ⟨rfl,rfl⟩
theorem nxR_some {cuts:List Int} {s:Rx} {k:Nat} (h:¬ 64<nodes (der (cuts.getD k 0) s)):nxR cuts s k=some (der (cuts.getD k 0) s)∧limE (der (cuts.getD k 0) s)=0∧limR (der (cuts.getD k 0) s)=der (cuts.getD k 0) s:=by
 unfold nxR lim limE limR;rw [if_neg h,if_neg h,if_neg h];exact ⟨rfl,rfl,rfl⟩
theorem wpList_msins {P:Program} {k e:TypeId} {w:World} {ops:Array Oper} {rest:List Oper} {o:Oper} {a:Act} {Q:Exit→Act→World→Prop} {t:TypeId} (hk:P.underlying k=some .string) (ht:P.underlying t=some (.map k e)) (hg:o.guard=none) (m x v:Operand) (hop:o.op=Op.insert t m x v)
 (b n:Nat) (f:List UInt8→Option Value) (key:ByteArray) (val:Value) (hm:a.eval m=.map (some b)) (hx:a.eval x=.string key) (hv:a.eval v=val) (h:MS P k w b n f) (hn:n<maxLen) (hi:key.size≤maxLen)
 (hK:∀ w',MS P k w' b (n+1) (fun y=>if y=key.data.toList then some val else f y)→Upd [b] w w'→wpList P ops Q rest (a.put o.dst undef) w'):wpList P ops Q (o::rest) a w:=by
 refine wpList_plain hg fun K' hK'=>?_
 obtain ⟨w',hrun,h1,h2⟩:=MS.put h hk ht hn hi val
 unfold Oper.wp
 simp only [execOp,hop,hm,hx,hv,Sem.run_bind,Sem.run_pure,Result.andThen_ok,hrun]
 exact hK' _ _ (hK w' h1 h2)
theorem key_size {r:Rx} (h:Gd r):(ByteArray.mk (keyU r).toArray).size≤maxLen:=by
 have h1:=keyU_len r
 have h2:=h.2
 simp [ByteArray.size,h1]
 unfold maxLen
 omega
theorem infoInts:(Tryz.prog.info? 22).map (fun i=>(i.zero,i.size,i.bytes))=some (some (.slice none 0 0),1,24):=by kernel_rfl
theorem infoRx':(Tryz.prog.info? 37).map (fun i=>(i.zero,i.size,i.bytes))=some (some (.agg #[.int .i64 0,.int .u8 0,.int .u8 0,.slice none 0 0]),4,40):=by kernel_rfl
theorem row_zero {row:List Nat} {k m:Nat} (hr:row.length=k) (hk:k<m):(ints (row.map Int.ofNat++List.replicate (m-k) 0))[k]?=some (.int .i64 0):=by
 refine ints_get ?_
 rw [List.getElem?_append_right (by simp [hr]),List.length_map,hr,Nat.sub_self,List.getElem?_replicate,if_pos (by omega)]
theorem row_set {row:List Nat} {k m p:Nat} (hr:row.length=k) (hk:k<m):(ints (row.map Int.ofNat++List.replicate (m-k) 0)).set k (.int .i64 (p:Nat))=ints ((row++[p]).map Int.ofNat++List.replicate (m - (k+1)) 0):=by
 have e:List.replicate (m-k) (0:Int)=0::List.replicate (m - (k+1)) 0:=by rw [←List.replicate_succ];congr 1;omega
 rw [e]
 unfold ints
 rw [←List.map_set,List.set_append_right _ _ (by simp [hr])]
 simp [hr]
def NumP (r:Rx) (cuts:List Int) (w:World) (e:Ending) (w':World):Prop:=
 (∃ S T sv tv,numO r cuts.length (nxR cuts)=some (S,T)∧e=.returned (.tuple #[sv,tv,.int .i64 0])∧RxL [] w' S sv∧CL w' tv (natRows T)∧(∀ s∈S,Gd s)∧Upd [] w w'∧(∀ (U:List Nat) (w2:World),Upd U w' w2→(∀ b∈U,b<w.heap.size)→CL w2 tv (natRows T))) ∨
 (numO r cuts.length (nxR cuts)=none∧e=.returned (.tuple #[.slice none 0 0,.slice none 0 0,.int .i64 4])∧Upd [] w w')
section
variable {w w':World} {v:Value}
set_option maxRecDepth 100000 in
set_option maxHeartbeats 16000000 in
theorem number_calls {r:Rx} {cb:Nat} {vc:Value} {cuts:List Int} (hr:RxV [] w r v) (hgd:Gd r) (hb:w.cell? ⟨cb,0,none⟩=some vc) (hc:SL w 1 vc cuts.length (ints cuts)) (hby:∀ c∈cuts,0≤c∧c≤255) (h0:0<cuts.length) (hm:cuts.length≤1000) :
 Calls Tryz.prog 47 #[v,.int .i64 cuts.length,.func (.func 48) #[] #[],.func (.func 50) #[] #[.pointer (some ⟨cb,0,none⟩)]] w (NumP r cuts w):=by
 obtain ⟨a1,c1,rfl,hF,_,_⟩:=hr.shape
 have HB:=Lib.hid (And.intro hb (And.intro hc (And.intro hby (And.intro h0 hgd))))
 have HN:=Lib.hid (show ∀ e w',NumP r cuts w e w'↔NumP r cuts w e w' from fun _ _=>Iff.rfl)
 have HR:=Lib.hid (And.intro hF hm)
 clear hr hF hb hc hby hgd
 go_enter Tryz.func47,Tryz.ntmps47
 go_upto_region 1 with fail
 have bA:=Blk.new w (rxC r.kind r.lo r.hi (.slice a1 r.kids.length c1)) 37
 have uA:=(Upd.refl [] w).alloc (.cells (rxC r.kind r.lo r.hi (.slice a1 r.kids.length c1)).toArray 37)
 change Code.wp _ _ _ _ (w.alloc (.cells (rxC r.kind r.lo r.hi (.slice a1 r.kids.length c1)).toArray 37))
 generalize (w.alloc (.cells (rxC r.kind r.lo r.hi (.slice a1 r.kids.length c1)).toArray 37))=w1 at *
 have k0:=bA.cell (i:=0) rfl
 have k1:=bA.cell (i:=1) rfl
 have k2:=bA.cell (i:=2) rfl
 have k3:=bA.cell (i:=3) rfl
 have HA:=Lib.hid uA
 clear bA uA
 generalize hpb:w.heap.size=pb at *
 have HPB:=Lib.hid hpb
 clear hpb
 go_upto_region 2 with fail
 have b2:=Blk.new w1 (rxC r.kind r.lo r.hi (.slice a1 r.kids.length c1)) 37
 have u2:=(Upd.refl [] w1).alloc (.cells (rxC r.kind r.lo r.hi (.slice a1 r.kids.length c1)).toArray 37)
 have z2:(w1.alloc (.cells (rxC r.kind r.lo r.hi (.slice a1 r.kids.length c1)).toArray 37)).heap.size=w1.heap.size+1:=by simp
 change Code.wp _ _ _ _ (w1.alloc (.cells (rxC r.kind r.lo r.hi (.slice a1 r.kids.length c1)).toArray 37))
 generalize (w1.alloc (.cells (rxC r.kind r.lo r.hi (.slice a1 r.kids.length c1)).toArray 37))=w2 at *
 generalize hsb:w1.heap.size=sb at *
 have e0:=u2.some k0 (by simp)
 have e1:=u2.some k1 (by simp)
 have e2:=u2.some k2 (by simp)
 have e3:=u2.some k3 (by simp)
 have H2:=Lib.hid (And.intro b2 (And.intro u2 (And.intro z2 hsb)))
 clear b2 u2 k0 k1 k2 k3 z2 hsb
 have hmm:=@run_makeMap Tryz.prog
 have HM0:=Lib.hid (MS.new w2 Tryz.prog 9)
 have HM1:=Lib.hid ((Upd.refl [] w2).alloc (.map #[] 0))
 have g0:=HM1.out.some e0 (by simp)
 have g1:=HM1.out.some e1 (by simp)
 have g2:=HM1.out.some e2 (by simp)
 have g3:=HM1.out.some e3 (by simp)
 have HC1:=Lib.hid (fun (w5:World) (u5:Upd [] w2 w5)=>Of1_calls ((HR.out.1.val.ext (HA.out.step (H2.out.2.1.step u5)))) (by have:=HB.out.2.2.2.2.2;omega))
 go_upto_region 3 with (first|((with_reducible refine (HC1.out _ HM1.out).mono ?_);rintro e w5 ⟨rfl,u5⟩;have HU5:=Lib.hid u5;clear u5)|(refine wpList_msins Tryz.underlying9 Tryz.underlying139 rfl _ _ _ rfl _ 0 _ _ (.int .i64 0) rfl rfl rfl (HM0.out.upd HU5.out (by simp)) (by unfold maxLen;omega) (key_size HB.out.2.2.2.2) ?_;intro w7 m7 u7))
 have hz2:=H2.out.2.2.1
 have hsb:=H2.out.2.2.2
 have hwz:=HA.out.size
 have hpb:=HPB.out
 have hN0:Nm w w2.heap.size (.slice (some ⟨sb,0,none⟩) 1 1) (.slice none 0 0) [r] [] [] [] 1 (kmap [r]) w7:=by
  have U7:Upd [w2.heap.size] w2 w7:=(Upd.nil (HM1.out.step HU5.out)).trans u7
  refine ⟨?_,fun q hq=>?_,?_,by omega,?_,⟨by simp,by simp [Value.ownBlock],by simp⟩,by simp,((HA.out.step H2.out.2.1).fresh U7 (fun b hb=>.inr (by simp at hb;omega))),by simp⟩
  ·refine OwR.upd (M:=[w2.heap.size]) (OwR.of_blk (c:=1) (m:=1) (css:=fun _=>rxC r.kind r.lo r.hi (.slice a1 r.kids.length c1)) (pad:=[]) H2.out.1 rfl rfl (by omega) (by omega) (fun i=>rfl) (by simp;omega) (fun i y hy=>?_)) U7 (fun b hb=>hb)
   match i with
   | 0=>cases hy;exact (HR.out.1.sub (fun b hb=>.inr (by simp at hb;omega))).ext (HA.out.step H2.out.2.1)
   | (i+1)=>simp at hy
  ·simp only [Value.ownBlock,Option.some.injEq] at hq;omega
  ·exact m7.congr fun y=>by rw [←kmap_one]
  ·exact OwnL.nil _ _ _
 have HN0:=Lib.hid hN0
 have hmz:w.heap.size≤w2.heap.size:=by omega
 clear hN0 m7 u7 e0 e1 e2 e3 g0 g1 g2 g3 hmm HM0 HM1 HC1 HU5 HA H2 hz2 hsb hwz hpb
 generalize w2.heap.size=mb at *
 have HMB:=Lib.hid hmz
 clear hmz
 go_wp2_with fail
 go_loopw [11,13,14] (fun sw tw iv wr=>∃ (i:Nat) (S:List Rx) (T:List (List Nat)) (F:List Nat) (sv tv:Value),sv=sw∧tv=tw∧iv=.int .i64 i∧i≤S.length∧Hid (upTo (some r) cuts.length (nxO (nxR cuts)) i=(S.map some,T)∧S.length≤256∧(∀ s∈S,Gd s)∧Nm w mb sv tv S T F [] S.length (kmap S) wr)) (fun _ _ iv _=>256 - (intOf iv).toNat)
 case atStart=>exact ⟨0,[r],[],[],_,_,rfl,rfl,rfl,Nat.zero_le _,Lib.hid ⟨upTo_zero,by simp,fun s hs=>by simp at hs;subst hs;exact HB.out.2.2.2.2,HN0.out⟩⟩
 case round=>
  obtain ⟨i,S,T,F,sv,tv,rfl,rfl,rfl,hi,HI⟩:=hrel
  obtain ⟨asv,csv,rfl,_⟩:=id HI.out.2.2.2.st.list.form
  by_cases hlt:i<S.length
  ·have hli:(i:Int)<S.length:=by omega
   have hmI:((cuts.length:Nat):Int)≤1000:=by omega
   go_upto_region 8 with (at_make;refine wpList_mk rfl _ _ _ rfl 3 1 8 _ Tryz.underlying22 infoInt rfl (by decide) .i64 .i64 cuts.length cuts.length cuts.length rfl rfl (by omega) (by omega) (by omega) (by omega) ?_)
   have hrep:(rows cuts.length fun _=>[Value.int .i64 0])=ints (List.replicate cuts.length 0):=by rw [rows_one];simp [ints]
   change Code.wp _ _ _ _ (wr.alloc (.cells (rows cuts.length fun _=>[Value.int .i64 0]).toArray 3))
   rw [hrep]
   have bR:=Blk.new wr (ints (List.replicate cuts.length 0)) 3
   have uR:=(Upd.refl [] wr).alloc (.cells (ints (List.replicate cuts.length 0)).toArray 3)
   have hzR:wr.heap.size<(wr.alloc (.cells (ints (List.replicate cuts.length 0)).toArray 3)).heap.size:=by simp
   have hNr:=HI.out.2.2.2.row uR hzR
   generalize (wr.alloc (.cells (ints (List.replicate cuts.length 0)).toArray 3))=wq at *
   generalize wr.heap.size=rb at *
   have hs0:=List.getElem?_eq_getElem hlt
   generalize S[i]=s at *
   have HQ:=Lib.hid (And.intro bR (And.intro hNr hs0))
   clear hrep bR uR hzR hNr hs0
   go_wp2_with fail
   go_loopw [11,37] (fun sw kv wk=>∃ (k:Nat) (S':List Rx) (row:List Nat) (sv':Value),sv'=sw∧kv=.int .i64 k∧k≤cuts.length∧Hid (scan (nxO (nxR cuts) (some s)) k (S.map some)=(S'.map some,row)∧S'.length≤256∧(∀ s∈S',Gd s)∧S'[i]?=some s∧Nm w mb sv' tv S' T F [rb] S'.length (kmap S') wk∧Blk wk rb (ints (row.map Int.ofNat++List.replicate (cuts.length-k) 0)) 3∧row.length=k)) (fun _ kv _=>cuts.length - (intOf kv).toNat)
   case atStart=>exact ⟨0,S,[],_,rfl,rfl,Nat.zero_le _,Lib.hid ⟨rfl,HI.out.2.1,HI.out.2.2.1,HQ.out.2.2,HQ.out.2.1,by simpa using HQ.out.1,rfl⟩⟩
   case round=>
    obtain ⟨k,S',row,sv',rfl,rfl,hk,HJ⟩:=hrel
    obtain ⟨asv',csv',rfl,_⟩:=id HJ.out.2.2.2.2.1.st.list.form
    by_cases hkl:k<cuts.length
    ·have hki:(k:Int)<cuts.length:=by omega
     obtain ⟨g,a3,c3,he,hgM,hgl,hRF,e0,e1,e2,e3⟩:=owr_kid HJ.out.2.2.2.2.1.st HJ.out.2.2.2.1
     subst he
     have hi':i<S'.length:=(List.getElem?_eq_some_iff.1 HJ.out.2.2.2.1).1
     have hii:(i:Int)<S'.length:=by omega
     have hgs:=HJ.out.2.2.1 s (List.mem_of_getElem? HJ.out.2.2.2.1)
     have hcc:=HB.out.2.2.1 (cuts.getD k 0) (gd_memA hkl)
     have HC2:=Lib.hid (Of2_calls (hRF.val) (fun b hb=>by
      rcases List.mem_append.1 hb with hb|hb
      ·exact HJ.out.2.2.2.2.1.lt b hb
      ·simp at hb;subst hb;exact hgl) hgs.1 hgs.2 (HJ.out.2.2.2.2.1.u.some HB.out.1 (by simp)) (HB.out.2.1.upd HJ.out.2.2.2.2.1.u (by simp)) hkl hcc.1 hcc.2)
     have HG:=Lib.hid (And.intro hgM (And.intro hgl (And.intro hgs hi')))
     clear hgM hgl hRF hgs hcc hi'
     by_cases hbig:64<nodes (der (cuts.getD k 0) s)
     ·obtain ⟨h1,h2⟩:=nxR_none hbig
      rw [h2] at HC2
      have HE:=Lib.hid (numO_fail HI.out.1 HQ.out.2.2 (by have:=HI.out.2.1;omega) hkl HJ.out.1 h1)
      clear h1 h2 hbig
      go_wp2_with ((with_reducible refine HC2.out.mono ?_);rintro e w5 ⟨v5,rfl,o5,u5⟩;obtain ⟨a5,c5,rfl,hF5,_,_⟩:=o5.shape)
      go_ret3
      exact .inr ⟨HE.out,rfl,(HJ.out.2.2.2.2.1.u.step u5).alloc _⟩
     ·obtain ⟨h1,h2,h3⟩:=nxR_some hbig
      rw [h2,h3] at HC2
      have hgx:Gd (der (cuts.getD k 0) s):=⟨der_nf HG.out.2.2.1.1,by omega⟩
      generalize der (cuts.getD k 0) s=x at *
      have HXX:=Lib.hid (And.intro h1 hgx)
      clear h1 h2 h3 hgx hbig
      go_upto_region 14 with ((with_reducible refine HC2.out.mono ?_);rintro e w5 ⟨v5,rfl,o5,u5⟩;obtain ⟨a5,c5,rfl,hF5,_,_⟩:=o5.shape)
      have b6:=Blk.new w5 (rxC x.kind x.lo x.hi (.slice a5 x.kids.length c5)) 37
      have u6:=(Upd.refl [] w5).alloc (.cells (rxC x.kind x.lo x.hi (.slice a5 x.kids.length c5)).toArray 37)
      change Code.wp _ _ _ _ (w5.alloc (.cells (rxC x.kind x.lo x.hi (.slice a5 x.kids.length c5)).toArray 37))
      generalize (w5.alloc (.cells (rxC x.kind x.lo x.hi (.slice a5 x.kids.length c5)).toArray 37))=w6 at *
      have hxm:mb<w5.heap.size:=by have:=HJ.out.2.2.2.2.1.mp.lt;have:=u5.size;omega
      generalize w5.heap.size=xb at *
      have hxmb:xb≠mb:=by omega
      have HX6:=Lib.hid (And.intro b6 (And.intro (HJ.out.2.2.2.2.1.quiet (u5.step u6)) (And.intro (HJ.out.2.2.2.2.2.1.upd (u5.step u6) (by simp)) (And.intro (hF5.ext u6) hxmb))))
      have d0:=b6.cell (i:=0) rfl
      have d1:=b6.cell (i:=1) rfl
      have d2:=b6.cell (i:=2) rfl
      have d3:=b6.cell (i:=3) rfl
      have HK:=Lib.hid (fun (w7:World) (u7:Upd [] w6 w7)=>Of1_calls ((HX6.out.2.2.2.1.ext u7).val) (by have:=HXX.out.2.2;omega))
      clear b6 u6 u5 o5 hF5 e0 e1 e2 e3 hxm hxmb
      by_cases hmem:x∈S'
      ·have HL:=Lib.hid (And.intro (kmap_old HJ.out.2.2.1 HXX.out.2 hmem) (scan_old HJ.out.1 (f:=nxO (nxR cuts) (some s)) (show nxO (nxR cuts) (some s) k=some x from HXX.out.1) hmem))
       clear hmem
       generalize place S' x=pl at *
       go_upto_region 21 with (first|((with_reducible refine (HK.out _ (Upd.refl _ _)).mono ?_);rintro e w7 ⟨rfl,u7⟩;have HU7:=Lib.hid u7;clear u7)|(refine wpList_mslook_ok Tryz.underlying9 Tryz.underlying139 infoInt _ _ rfl rfl mb S'.length (kmap S') ⟨(keyU x).toArray⟩ rfl rfl (HX6.out.2.1.mp.upd HU7.out (by simp)) (key_size HXX.out.2) ?_;rw [show kmap S' (ByteArray.mk (keyU x).toArray).data.toList=some (.int .i64 (pl:Nat)) from HL.out.1];simp only [Option.getD_some,Option.isSome_some]))
       have bR:=HX6.out.2.2.1.upd HU7.out (by simp)
       have c8:w7.cell? ⟨rb,k,none⟩=some (.int .i64 0):=bR.cell (row_zero HJ.out.2.2.2.2.2.2 hkl)
       have f8:∀ q,w7.frozen? ⟨rb,q,none⟩=false:=bR.free
       have HBR:=Lib.hid bR
       clear bR
       go_wp2_with fail
       have uS:Upd [rb] w7 (w7.setCell ⟨rb,k,none⟩ (.int .i64 (pl:Nat))):=(Upd.refl [rb] w7).set (p:=⟨rb,k,none⟩) (by simp) _
       refine ⟨⟨k+1,S',row++[pl],_,rfl,by go_num,by omega,Lib.hid ⟨HL.out.2,HJ.out.2.1,HJ.out.2.2.1,HJ.out.2.2.2.1,(HX6.out.2.1.quiet HU7.out).set uS,?_,by simp [HJ.out.2.2.2.2.2.2]⟩⟩,by simp [intOf];omega⟩
       have:=HBR.out.set k (.int .i64 (pl:Nat))
       rw [row_set HJ.out.2.2.2.2.2.2 hkl] at this
       exact this
      ·have HL:=Lib.hid (And.intro (kmap_new HJ.out.2.2.1 HXX.out.2 hmem) (And.intro (scan_new HJ.out.1 (f:=nxO (nxR cuts) (some s)) (show nxO (nxR cuts) (some s) k=some x from HXX.out.1) hmem) (kmap_push HJ.out.2.2.1 HXX.out.2 hmem)))
       by_cases h256:S'.length=256
       ·have HE:=Lib.hid (numO_many HI.out.1 HQ.out.2.2 (by have:=HI.out.2.1;omega) hkl HJ.out.1 HXX.out.1 hmem (by omega))
        have hbb:((S'.length:Int) == 256)=true:=by simp;omega
        clear hmem h256
        go_wp2_with (first|((with_reducible refine (HK.out _ (Upd.refl _ _)).mono ?_);rintro e w7 ⟨rfl,u7⟩;have HU7:=Lib.hid u7;clear u7)|(refine wpList_mslook_ok Tryz.underlying9 Tryz.underlying139 infoInt _ _ rfl rfl mb S'.length (kmap S') ⟨(keyU x).toArray⟩ rfl rfl (HX6.out.2.1.mp.upd HU7.out (by simp)) (key_size HXX.out.2) ?_;rw [show kmap S' (ByteArray.mk (keyU x).toArray).data.toList=none from HL.out.1];simp only [Option.getD_none,Option.isSome_none]))
        go_ret3
        exact .inr ⟨HE.out,rfl,(HX6.out.2.1.quiet HU7.out).u⟩
       ·have hbb:((S'.length:Int) == 256)=false:=by simp;omega
        have hlen:=HJ.out.2.1
        clear hmem
        go_upto_region 21 with (first
         | ((with_reducible refine (HK.out _ (Upd.refl _ _)).mono ?_);rintro e w7 ⟨rfl,u7⟩;have HU7:=Lib.hid u7;have d0:=u7.some d0 (by simp);have d1:=u7.some d1 (by simp);have d2:=u7.some d2 (by simp);have d3:=u7.some d3 (by simp);clear u7)
         | (refine wpList_mslook_ok Tryz.underlying9 Tryz.underlying139 infoInt _ _ rfl rfl mb S'.length (kmap S') ⟨(keyU x).toArray⟩ rfl rfl (HX6.out.2.1.mp.upd HU7.out (by simp)) (key_size HXX.out.2) ?_;rw [show kmap S' (ByteArray.mk (keyU x).toArray).data.toList=none from HL.out.1];simp only [Option.getD_none,Option.isSome_none])
         | ((with_reducible refine (HK.out _ HU7.out).mono ?_);rintro e w8 ⟨rfl,u8⟩;have HU8:=Lib.hid (HU7.out.step u8);have d0:=u8.some d0 (by simp);have d1:=u8.some d1 (by simp);have d2:=u8.some d2 (by simp);have d3:=u8.some d3 (by simp);clear u8)
         | (refine wpList_msput Tryz.underlying9 Tryz.underlying139 rfl _ _ _ rfl mb S'.length (kmap S') ⟨(keyU x).toArray⟩ (.int .i64 (S'.length:Nat)) rfl rfl rfl (HX6.out.2.1.mp.upd HU8.out (by simp)) (by unfold maxLen;omega) (key_size HXX.out.2) ?_;intro w9 m9 u9;have HU9:=Lib.hid (And.intro m9 u9);have d0:=u9.some d0 (by simpa using HX6.out.2.2.2.2);have d1:=u9.some d1 (by simpa using HX6.out.2.2.2.2);have d2:=u9.some d2 (by simpa using HX6.out.2.2.2.2);have d3:=u9.some d3 (by simpa using HX6.out.2.2.2.2);have HNP:=Lib.hid ((HX6.out.2.1.quiet HU8.out).put u9 (f':=kmap (S'++[x])) (n':=S'.length+1) (m9.congr HL.out.2.2));have HRW:=Lib.hid HNP.out.st.choose_spec;clear m9 u9)
         | (refine wpList_push rfl rfl _ _ _ _ rfl rfl rfl 37 4 40 _ Tryz.underlying35 infoRx' rfl (by decide) (by decide) (.agg #[.int .i64 x.kind,.int .u8 x.lo,.int .u8 x.hi,.slice a5 x.kids.length c5]) (rxC x.kind x.lo x.hi (.slice a5 x.kids.length c5)) rfl rfl rfl (by simp [rxC,Value.oneCell']) _ _ _ HRW.out.1 rfl rfl (by unfold maxLen;omega) (by omega) ?_;intro g4 c4 w10 o10 u10 k10))
        have hxF:=((HX6.out.2.2.2.1.ext HU8.out).upd HU9.out.2 (fun b hb=>by simp at hb;subst hb;simp))
        have hq:=OwR.push (w:=w9) (w':=w10) (r:=x) HRW.out.2.1 HNP.out.lt HRW.out.2.2.1 rfl HRW.out.2.2.2 hxF o10 u10 (k10.imp (fun h=>h.symm) fun h=>⟨_,rfl,h⟩)
        have hnn:=HNP.out.push u10 hq (fun q hq=>by
         simp only [Value.ownBlock,Option.some.injEq] at hq
         subst hq
         exact k10)
        have hrbm:rb ∉ [mb]:=fun h=>HNP.out.mf.2.2 (by simp at h;simp [h])
        have bR:=((HX6.out.2.2.1.upd HU8.out (by simp)).upd HU9.out.2 hrbm).upd u10 (fun h=>HNP.out.row_off rb (by simp) (by simpa using h))
        have c8:w10.cell? ⟨rb,k,none⟩=some (.int .i64 0):=bR.cell (row_zero HJ.out.2.2.2.2.2.2 hkl)
        have f8:∀ q,w10.frozen? ⟨rb,q,none⟩=false:=bR.free
        have HBR:=Lib.hid (And.intro bR hnn)
        have hl1:(S'++[x]).length=S'.length+1:=by simp
        have HL1:=Lib.hid (And.intro hl1 h256)
        clear bR hnn hq hxF hrbm o10 u10 k10 d0 d1 d2 d3 hl1 h256 hbb
        go_wp2_with fail
        have uS:Upd [rb] w10 (w10.setCell ⟨rb,k,none⟩ (.int .i64 (S'.length:Nat))):=(Upd.refl [rb] w10).set (p:=⟨rb,k,none⟩) (by simp) _
        refine ⟨⟨k+1,S'++[x],row++[S'.length],_,rfl,by go_num,by omega,Lib.hid ⟨HL.out.2.1,by rw [HL1.out.1];have:=HL1.out.2;omega,fun z hz=>?_,by rw [List.getElem?_append_left HG.out.2.2.2];exact HJ.out.2.2.2.1,?_,?_,by simp [HJ.out.2.2.2.2.2.2]⟩⟩,by simp [intOf];omega⟩
        ·rcases List.mem_append.1 hz with hz|hz
         ·exact HJ.out.2.2.1 z hz
         ·simp at hz;subst hz;exact HXX.out.2
        ·rw [HL1.out.1]
         exact HBR.out.2.set uS
        ·have:=HBR.out.1.set k (.int .i64 (S'.length:Nat))
         rw [row_set HJ.out.2.2.2.2.2.2 hkl] at this
         exact this
    ·have hke:k=cuts.length:=by omega
     subst hke
     obtain ⟨vals,hv1,hv2⟩:=HJ.out.2.2.2.2.1.tb.ex
     have hTl:(natRows T).length≤256:=by
      have h1:=upTo_rows' (some r) cuts.length (nxO (nxR cuts)) i
      rw [HI.out.1] at h1
      have h2:=HI.out.2.1
      simp only [List.length_map] at h1
      unfold natRows
      rw [List.length_map]
      omega
     have HV:=Lib.hid (And.intro hv1 hv2)
     have HTL:=Lib.hid hTl
     clear hv1 hv2 hTl
     go_wp2_with (refine wpList_push rfl rfl _ _ _ _ rfl rfl rfl 22 1 24 _ Tryz.underlying28 infoInts rfl (by decide) (by decide) (.slice (some ⟨rb,0,none⟩) cuts.length cuts.length) [.slice (some ⟨rb,0,none⟩) cuts.length cuts.length] rfl rfl rfl (by simp [Value.oneCell']) _ _ _ HV.out.1.row rfl rfl (by have:=HTL.out;unfold maxLen;omega) (by have:=HTL.out;omega) ?_;intro g4 c4 w10 o10 u10 k10)
     have hy:SL wr 1 (.slice (some ⟨rb,0,none⟩) cuts.length cuts.length) row.length (ints (row.map Int.ofNat)):=by
      have:=HJ.out.2.2.2.2.2.1
      rw [Nat.sub_self,List.replicate_zero,List.append_nil] at this
      have h2:=SL.of_blk (pad:=[]) (k:=1) (n:=row.length) (cap:=cuts.length) (xs:=ints (row.map Int.ofNat)) (by simpa using this) (by simp [ints]) (by rw [HJ.out.2.2.2.2.2.2];exact Nat.le_refl _) (by unfold maxLen;omega)
      rw [HJ.out.2.2.2.2.2.2] at h2 ⊢
      exact h2
     have hnn:=HJ.out.2.2.2.2.1.done HV.out.1 HV.out.2 hy rfl o10 u10 k10
     refine ⟨⟨i+1,S',T++[row],F++[rb],_,_,rfl,rfl,by go_num,(List.getElem?_eq_some_iff.1 HJ.out.2.2.2.1).1,Lib.hid ⟨upTo_step HI.out.1 HQ.out.2.2 HJ.out.1,HJ.out.2.1,HJ.out.2.2.1,hnn⟩⟩,by have:=HI.out.2.1;simp [intOf];omega⟩
  ·have hme:i=S.length:=by omega
   subst hme
   have HD:=Lib.hid (numO_done HI.out.1 (Nat.le_refl _) HI.out.2.1)
   go_wp2_with fail
   go_ret3
   exact .inl ⟨S,T,_,_,HD.out,rfl,HI.out.2.2.2.st.list.sub (by simp),HI.out.2.2.2.tb.cl,HI.out.2.2.1,HI.out.2.2.2.u,fun U w2 hU hb=>HI.out.2.2.2.keep hU hb⟩
end
end Aut
end Go.Proofs.YtjclbjdkkdijbaaGreat
