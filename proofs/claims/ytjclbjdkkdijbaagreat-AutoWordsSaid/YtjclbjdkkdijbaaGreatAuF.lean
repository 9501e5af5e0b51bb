/- Automata in memory; walks through package auto: Of. Conditions: none. -/
import Derived.Test.YtjclbjdkkdijbaaGreatAuE
import Derived.Test.YtjclbjdkkdijbaaGreatAuZa
set_option linter.unusedVariables false
set_option linter.unusedSimpArgs false
set_option linter.unusedSectionVars false
open Go.RowKit
namespace Go.Proofs.YtjclbjdkkdijbaaGreat
open L
namespace Aut
open Rgx Rx Auto
attribute [-go_sem] sliced
def AuF (w:World) (a:Au) (cs:List Value):Prop:=∃ cv nv av,cs=[cv,nv,av]∧SL w 1 cv a.cuts.length (ints a.cuts)∧CL w nv a.next∧SL w 1 av a.acc.length (bools a.acc)
def AuV (w:World) (a:Au) (v:Value):Prop:=∃ cs,v=.agg cs.toArray∧AuF w a cs
def noA:Au:=⟨[],[],[]⟩
section
variable {w w':World} {v:Value}
theorem AuF.ext {a:Au} {cs:List Value} (h:AuF w a cs) (u:Upd [] w w'):AuF w' a cs:=by
 obtain ⟨cv,nv,av,rfl,h1,h2,h3⟩:=h
 exact ⟨cv,nv,av,rfl,h1.upd u (by simp),h2.upd u,h3.upd u (by simp)⟩
theorem AuV.ext {a:Au} (h:AuV w a v) (u:Upd [] w w'):AuV w' a v:=by
 obtain ⟨cs,rfl,h1⟩:=h
 exact ⟨cs,rfl,h1.ext u⟩
theorem AuV.shape {a:Au} (h:AuV w a v):∃ a1 c1 a2 c2 a3 c3,v=.agg #[.slice a1 a.cuts.length c1,.slice a2 a.next.length c2,.slice a3 a.acc.length c3]∧AuF w a [.slice a1 a.cuts.length c1,.slice a2 a.next.length c2,.slice a3 a.acc.length c3]:=by
 obtain ⟨cs,rfl,cv,nv,av,rfl,h1,h2,h3⟩:=h
 obtain ⟨a1,c1,rfl,_⟩:=id h1.elems
 obtain ⟨a2,c2,rfl,_⟩:=id h2.form
 obtain ⟨a3,c3,rfl,_⟩:=id h3.elems
 exact ⟨a1,c1,a2,c2,a3,c3,rfl,_,_,_,rfl,h1,h2,h3⟩
theorem noA_F:AuF w noA [.slice none 0 0,.slice none 0 0,.slice none 0 0]:=
 ⟨_,_,_,rfl,⟨rfl,none,0,rfl,Nat.zero_le _,Nat.zero_le _,fun _=>rfl,.inl rfl⟩,⟨[],rfl,⟨rfl,none,0,rfl,Nat.zero_le _,Nat.zero_le _,fun _=>rfl,.inl rfl⟩,fun i c h=>by simp [noA] at h⟩,⟨rfl,none,0,rfl,Nat.zero_le _,Nat.zero_le _,fun _=>rfl,.inl rfl⟩⟩
theorem ret_au2 {w0:World} {fn:Func} {a:Act} {p q:Tmp} {rb:Nat} {cs:List Value} {r:Au} {n:Int} (h:fn.results=#[.cell p 31,.tmp q]) (hp:a.tmps.getD p undef=.pointer (some ⟨rb,0,none⟩)) (hq:a.tmps.getD q undef=.int .i64 n) (hB:Blk w rb cs 31) (hdf:a.defers=[]) (hv:AuF w r cs) (hu:Upd [] w0 w) :
 bodyPost Tryz.prog fn (fun e w'=>∃ v',e=.returned (.tuple #[v',.int .i64 n])∧AuV w' r v'∧Upd [] w0 w') .ret a w:=by
 have hl:(Tryz.prog.info? 31).map (·.size)=some cs.length:=by
  obtain ⟨_,_,_,rfl,_⟩:=hv
  kernel_rfl
 refine bodyPost_ret (v:=.tuple #[.agg cs.toArray,.int .i64 n]) ?_ hdf ⟨_,rfl,⟨cs,rfl,hv⟩,hu⟩
 rw [results_cell_tmp h,hp]
 have h2:=run_loadVar_row (P:=Tryz.prog) w rb 31 31 cs.toArray (0,0) (.struct _) hB Tryz.underlying31 rfl (by simpa using hl)
 simp [asAddr,h2,Result.andThen,hq]
theorem cell3_set {rb:Nat} {o0 o1 o2 a b c:Value} {e:TypeId} (h:Blk w rb [o0,o1,o2] e) :
 Blk (((w.setCell ⟨rb,0,none⟩ a).setCell ⟨rb,1,none⟩ b).setCell ⟨rb,2,none⟩ c) rb [a,b,c] e∧Upd [rb] w (((w.setCell ⟨rb,0,none⟩ a).setCell ⟨rb,1,none⟩ b).setCell ⟨rb,2,none⟩ c):=
 ⟨((h.set 0 a).set 1 b).set 2 c,(((Upd.refl [rb] w).set (p:=⟨rb,0,none⟩) (by simp) a).set (p:=⟨rb,1,none⟩) (by simp) b).set (p:=⟨rb,2,none⟩) (by simp) c⟩
theorem infoBool:(Tryz.prog.info? 4).map (fun i=>(i.zero,i.size,i.bytes))=some (some (.bool false),1,1):=by kernel_rfl
theorem brow_false {S:List Rx} {i:Nat} (h:i<S.length):(bools ((S.take i).map nul++List.replicate (S.length-i) false))[i]?=some (.bool false):=by
 refine bools_get ?_
 rw [List.getElem?_append_right (by simp;omega),List.length_map,List.length_take,List.getElem?_replicate,if_pos (by omega)]
theorem brow_set {S:List Rx} {i:Nat} {x:Bool} (h:i<S.length):(bools ((S.take i).map nul++List.replicate (S.length-i) false)).set i (.bool x)=bools (((S.take i).map nul++[x])++List.replicate (S.length - (i+1)) false):=by
 have e:List.replicate (S.length-i) false=false::List.replicate (S.length - (i+1)) false:=by rw [←List.replicate_succ];congr 1;omega
 have hl:((S.take i).map nul).length=i:=by simp;omega
 rw [e]
 unfold bools
 rw [←List.map_set,List.set_append_right _ _ (by omega)]
 simp [hl]
 rw [Nat.min_eq_left (by omega),Nat.sub_self]
 rfl
def ofE (r:Rx):Int:=if nErr r≠0 then nErr r else match numO (nRes r) (srtC (0::cutB (nRes r))).length (nxR (srtC (0::cutB (nRes r)))) with
 | some _=>0
 | none=>4
def ofA (r:Rx):Au:=if nErr r≠0 then noA else match numO (nRes r) (srtC (0::cutB (nRes r))).length (nxR (srtC (0::cutB (nRes r)))) with
 | some q=>⟨srtC (0::cutB (nRes r)),natRows q.2,q.1.map nul⟩
 | none=>noA
theorem nRes_good {r:Rx} (hb:Byt r) (h:nErr r=0):Gd (nRes r):=by
 unfold nErr at h
 split at h
 ·rename_i h1;exact absurd h h1
 ·rename_i h1
  unfold limE at h
  split at h
  ·omega
  ·rename_i h2
   unfold nRes limR
   rw [if_neg h1,if_neg h2]
   exact ⟨norm_nf r hb (vErr_zero (by simpa using h1)).2,by omega⟩
set_option maxRecDepth 100000 in
set_option maxHeartbeats 16000000 in
theorem Of_calls {r:Rx} (hr:RxV [] w r v):Calls Tryz.prog 13 #[v] w fun e w'=>∃ v',e=.returned (.tuple #[v',.int .i64 (ofE r)])∧AuV w' (ofA r) v'∧Upd [] w w':=by
 obtain ⟨a1,c1,rfl,hF,_,_⟩:=hr.shape
 have HR:=Lib.hid (And.intro hr hF.byt)
 clear hr hF
 go_enter Tryz.func13,Tryz.ntmps13
 go_upto_region 1 with fail
 have b1:=(Blk.new w (rxC r.kind r.lo r.hi (.slice a1 r.kids.length c1)) 37).alloc (.cells #[.slice none 0 0,.slice none 0 0,.slice none 0 0] 31)
 have b2:=Blk.new (w.alloc (.cells (rxC r.kind r.lo r.hi (.slice a1 r.kids.length c1)).toArray 37)) [.slice none 0 0,.slice none 0 0,.slice none 0 0] 31
 have u1:=((Upd.refl [] w).alloc (.cells (rxC r.kind r.lo r.hi (.slice a1 r.kids.length c1)).toArray 37)).alloc (.cells #[.slice none 0 0,.slice none 0 0,.slice none 0 0] 31)
 have z1:(w.alloc (.cells (rxC r.kind r.lo r.hi (.slice a1 r.kids.length c1)).toArray 37)).heap.size=w.heap.size+1:=by simp
 rw [z1] at b2
 change Blk ((w.alloc (.cells (rxC r.kind r.lo r.hi (.slice a1 r.kids.length c1)).toArray 37)).alloc (.cells #[.slice none 0 0,.slice none 0 0,.slice none 0 0] 31)) _ _ _ at b2
 change Code.wp _ _ _ _ ((w.alloc (.cells (rxC r.kind r.lo r.hi (.slice a1 r.kids.length c1)).toArray 37)).alloc (.cells #[.slice none 0 0,.slice none 0 0,.slice none 0 0] 31))
 generalize ((w.alloc (.cells (rxC r.kind r.lo r.hi (.slice a1 r.kids.length c1)).toArray 37)).alloc (.cells #[.slice none 0 0,.slice none 0 0,.slice none 0 0] 31))=w1 at *
 have k0:=b1.cell (i:=0) rfl
 have k1:=b1.cell (i:=1) rfl
 have k2:=b1.cell (i:=2) rfl
 have k3:=b1.cell (i:=3) rfl
 have HW:=Lib.hid (And.intro b2 u1)
 clear b1 b2 u1 z1
 generalize hpa:w.heap.size=pa at *
 have HPA:=Lib.hid hpa
 clear hpa
 have HC1:=Lib.hid (Normal_calls (M:=[]) (HR.out.1.ext HW.out.2) (by simp))
 go_upto_region 2 with ((with_reducible refine HC1.out.mono ?_);rintro e w2 ⟨v2,rfl,o2,u2⟩;obtain ⟨a2,c2,rfl,hF2,_,_⟩:=o2.shape)
 change Code.wp _ _ _ _ (w2.alloc (.cells (rxC (nRes r).kind (nRes r).lo (nRes r).hi (.slice a2 (nRes r).kids.length c2)).toArray 37))
 have bN:=Blk.new w2 (rxC (nRes r).kind (nRes r).lo (nRes r).hi (.slice a2 (nRes r).kids.length c2)) 37
 have uN:=(Upd.refl [] w2).alloc (.cells (rxC (nRes r).kind (nRes r).lo (nRes r).hi (.slice a2 (nRes r).kids.length c2)).toArray 37)
 have bR3:=(HW.out.1.upd (u2.step uN) (by simp))
 generalize (w2.alloc (.cells (rxC (nRes r).kind (nRes r).lo (nRes r).hi (.slice a2 (nRes r).kids.length c2)).toArray 37))=w3 at *
 have r0:=bR3.cell (i:=0) rfl
 have r1:=bR3.cell (i:=1) rfl
 have r2:=bR3.cell (i:=2) rfl
 have rf:∀ q,w3.frozen? ⟨pa+1,q,none⟩=false:=bR3.free
 have H3:=Lib.hid (And.intro bR3 (And.intro (u2.step uN) (And.intro hF2 uN)))
 have HBN:=Lib.hid bN
 clear bR3 u2 o2 hF2 uN k0 k1 k2 k3
 by_cases he:nErr r=0
 ·have hg:=nRes_good HR.out.2 he
  have HE:Hid (ofE r=(match numO (nRes r) (srtC (0::cutB (nRes r))).length (nxR (srtC (0::cutB (nRes r)))) with|some _=>0|none=>4)∧ofA r=(match numO (nRes r) (srtC (0::cutB (nRes r))).length (nxR (srtC (0::cutB (nRes r)))) with|some q=>⟨srtC (0::cutB (nRes r)),natRows q.2,q.1.map nul⟩|none=>noA)):=Lib.hid ⟨by unfold ofE;rw [if_neg (by simpa using he)],by unfold ofA;rw [if_neg (by simpa using he)]⟩
  rw [he]
  clear he
  generalize nRes r=n at *
  generalize w2.heap.size=bn at *
  have j0:=bN.cell (i:=0) rfl
  have j1:=bN.cell (i:=1) rfl
  have j2:=bN.cell (i:=2) rfl
  have j3:=bN.cell (i:=3) rfl
  have hbn:=bN.lt
  have bL:=Blk.new w3 [.int .i64 0] 3
  have uL:=(Upd.refl [] w3).alloc (.cells #[.int .i64 0] 3)
  have rowL:(w3.alloc (.cells #[.int .i64 0] 3)).ownsRow 0 3 1 (.slice (some ⟨w3.heap.size,0,none⟩) 1 1) ([(0:Int)]).length (ints [0]):=owns_blk bL rfl (by unfold maxLen;decide)
  have hz23:=H3.out.2.2.2.size
  have hRN:RxV [w3.heap.size] (w3.alloc (.cells #[.int .i64 0] 3)) n (.agg #[.int .i64 n.kind,.int .u8 n.lo,.int .u8 n.hi,.slice a2 n.kids.length c2]):=((H3.out.2.2.1.sub (M':=[w3.heap.size]) (fun b hb=>.inr (by simp at hb;omega))).ext (H3.out.2.2.2.step uL)).val
  have HC2:=Lib.hid (show Calls Tryz.prog 46 #[.slice (some ⟨w3.heap.size,0,none⟩) 1 1,.agg #[.int .i64 n.kind,.int .u8 n.lo,.int .u8 n.hi,.slice a2 n.kids.length c2]] (w3.alloc (.cells #[.int .i64 0] 3)) _ from cutsOf_calls n rowL hRN (fun b hb=>by simp only [Value.ownBlock,Option.some.injEq] at hb;subst hb;simp) (by have:=hg.2;simp;omega))
  have HL:=Lib.hid (And.intro uL (And.intro hg (And.intro hbn hz23)))
  have i0:=uL.some j0 (by simp)
  have i1:=uL.some j1 (by simp)
  have i2:=uL.some j2 (by simp)
  have i3:=uL.some j3 (by simp)
  have hcl:=cutB_len n
  have HCL:=Lib.hid (show (0::cutB n).length≤129 from by have:=hg.2;simp;omega)
  clear bL uL rowL hz23 hRN hg bN hcl
  go_upto_region 5 with (first
   | ((with_reducible refine HC2.out.mono ?_);rintro e w4 ⟨v4,rfl,o4⟩;have HS:=Lib.hid (sorted_calls o4 (Nat.le_trans (m:=129) HCL.out (by decide)));clear o4)
   | ((with_reducible refine HS.out.mono ?_);rintro e w5 ⟨v5,rfl,o5⟩;obtain ⟨a5,c5,rfl,_⟩:=id o5.form;have HO:=Lib.hid o5;clear o5))
  have HE2:=HE.out
  have HO:=Lib.hid (show OwW 3 1 (srtC (0::cutB n)).length (w3.alloc (.cells #[.int .i64 0] 3)) (.slice (some ⟨w3.heap.size,0,none⟩) 1 1) (.slice a5 (srtC (0::cutB n)).length c5) (ints (srtC (0::cutB n))) w5 from HO.out)
  have hinc:=srtC_inc (0::cutB n)
  have hmem:=srtC_mem (0::cutB n)
  have hlen:=srtC_length (0::cutB n)
  have hby:∀ c∈srtC (0::cutB n),0≤c∧c≤255:=fun c hc=>by
   rcases List.mem_cons.1 ((hmem c).1 hc) with h|h
   ·subst h;omega
   ·exact cutB_byte n HL.out.2.1.1.byt c h
  have h0:0<(srtC (0::cutB n)).length:=List.length_pos_of_mem ((hmem 0).2 (by simp))
  have hm:(srtC (0::cutB n)).length≤1000:=by have:=HCL.out;omega
  clear HE hinc hmem hlen
  generalize srtC (0::cutB n)=cuts at *
  have bC:=Blk.new w5 [.slice a5 cuts.length c5] 22
  have uC:=(Upd.refl [] w5).alloc (.cells #[.slice a5 cuts.length c5] 22)
  have hw35:Upd [] w3 w5:=HL.out.1.fresh HO.out.u (fun b hb=>.inr (by simp [Value.ownBlock] at hb;omega))
  change Code.wp _ _ _ _ (w5.alloc (.cells #[.slice a5 cuts.length c5] 22))
  change Blk (w5.alloc (.cells #[.slice a5 cuts.length c5] 22)) _ _ _ at bC
  have hslC:=HO.out.sl.upd uC (by simp)
  generalize (w5.alloc (.cells #[.slice a5 cuts.length c5] 22))=w6 at *
  generalize w5.heap.size=cb at *
  have U36:=hw35.step uC
  have m0:=U36.some j0 (by simp)
  have m1:=U36.some j1 (by simp)
  have m2:=U36.some j2 (by simp)
  have m3:=U36.some j3 (by simp)
  have c0:=bC.cell (i:=0) rfl
  have HNB:=Lib.hid (number_calls (r:=n) (v:=.agg #[.int .i64 n.kind,.int .u8 n.lo,.int .u8 n.hi,.slice a2 n.kids.length c2]) ((H3.out.2.2.1.ext (H3.out.2.2.2.step U36)).val) HL.out.2.1 c0 hslC hby h0 hm)
  have H6:=Lib.hid (And.intro U36 (And.intro hslC hm))
  have HE:=Lib.hid HE2
  clear HE2 hw35 uC bC hslC hby h0 hm U36 i0 i1 i2 i3 j0 j1 j2 j3 HS HC2 hbn
  cases hnum:numO n cuts.length (nxR cuts) with
  | none=>
   have HNN:=Lib.hid (HNB.out.mono (R':=fun e w'=>e=.returned (.tuple #[.slice none 0 0,.slice none 0 0,.int .i64 4])∧Upd [] w6 w') (fun e w' h=>by
    rcases h with ⟨S,T,_,_,h1,_⟩|⟨_,h2,h3⟩
    ·rw [hnum] at h1;cases h1
    ·exact ⟨h2,h3⟩))
   rw [hnum] at HE
   have HEE:=Lib.hid (show ofE r=4∧ofA r=noA from HE.out)
   clear HNB hnum HE
   go_wp2_with ((with_reducible refine HNN.out.mono ?_);rintro e w7 ⟨rfl,u7⟩;have bR:=H3.out.1.upd (H6.out.1.step u7) (by simp);have r0:=bR.cell (i:=0) rfl;have r1:=bR.cell (i:=1) rfl;have r2:=bR.cell (i:=2) rfl;have rf:∀ q,w7.frozen? ⟨pa+1,q,none⟩=false:=bR.free;have H7:=Lib.hid (And.intro bR u7);clear bR u7)
   have hs:=cell3_set (a:=.slice none 0 0) (b:=.slice none 0 0) (c:=.slice none 0 0) H7.out.1
   rw [HEE.out.1,HEE.out.2]
   exact ret_au2 rfl rfl rfl hs.1 rfl noA_F (((HW.out.2.step H3.out.2.1).step (H6.out.1.step H7.out.2)).fresh hs.2 (fun b hb=>.inr (by simp at hb;subst hb;have:=HPA.out;omega)))
  | some q=>
   obtain ⟨S,T⟩:=q
   have HNN:=Lib.hid (HNB.out.mono (R':=fun e w'=>∃ sv tv,e=.returned (.tuple #[sv,tv,.int .i64 0])∧RxL [] w' S sv∧CL w' tv (natRows T)∧(∀ s∈S,Gd s)∧Upd [] w6 w'∧(∀ (U:List Nat) (w2:World),Upd U w' w2→(∀ b∈U,b<w6.heap.size)→CL w2 tv (natRows T))) (fun e w' h=>by
    rcases h with ⟨S',T',sv,tv,h1,h2,h3,h4,h5,h6,h7⟩|⟨h1,_⟩
    ·rw [hnum] at h1;cases h1;exact ⟨sv,tv,h2,h3,h4,h5,h6,h7⟩
    ·rw [hnum] at h1;cases h1))
   have hlS:=(numO_some hnum).2
   rw [hnum] at HE
   have HEE:=Lib.hid (show ofE r=0∧ofA r=⟨cuts,natRows T,S.map nul⟩ from HE.out)
   clear HNB hnum HE
   go_upto_region 8 with ((with_reducible refine HNN.out.mono ?_);rintro e w7 ⟨sv,tv,rfl,hS,hT,hGS,u7,hkp⟩;obtain ⟨aS,cS,rfl,_⟩:=id hS.form;obtain ⟨aT,cT,rfl,_⟩:=id hT.form;have H7:=Lib.hid (And.intro hS (And.intro hT (And.intro hGS u7)));have HKP:=Lib.hid hkp;clear hS hT hGS u7 hkp)
   have HLS:=Lib.hid hlS
   have hS8:((S.length:Nat):Int)≤256:=by omega
   go_upto_region 9 with (at_make;refine wpList_mk rfl _ _ _ rfl 4 1 1 _ Tryz.underlying29 infoBool rfl (by decide) .i64 .i64 S.length S.length S.length rfl rfl (by omega) (by omega) (by omega) (by omega) ?_)
   have hrep:(rows S.length fun _=>[Value.bool false])=bools (List.replicate S.length false):=by rw [rows_one];simp [bools]
   change Code.wp _ _ _ _ (w7.alloc (.cells (rows S.length fun _=>[Value.bool false]).toArray 4))
   rw [hrep]
   have bA:=Blk.new w7 (bools (List.replicate S.length false)) 4
   have uA:=(Upd.refl [] w7).alloc (.cells (bools (List.replicate S.length false)).toArray 4)
   generalize (w7.alloc (.cells (bools (List.replicate S.length false)).toArray 4))=w8 at *
   generalize hab:w7.heap.size=ab at bA ⊢
   have HAB:=Lib.hid (And.intro (Nat.le_of_eq hab) (And.intro bA uA))
   clear bA uA hrep hS8 hlS hab
   go_wp2_with fail
   go_loopw [43] (fun iv wr=>∃ i:Nat,iv=.int .i64 i∧i≤S.length∧Hid (Blk wr ab (bools ((S.take i).map nul++List.replicate (S.length-i) false)) 4∧Upd [] w7 wr)) (fun iv _=>S.length - (intOf iv).toNat)
   case atStart=>exact ⟨0,rfl,Nat.zero_le _,Lib.hid ⟨by simpa using HAB.out.2.1,HAB.out.2.2⟩⟩
   case round=>
    obtain ⟨i,rfl,hi,HI⟩:=hrel
    by_cases hlt:i<S.length
    ·have hli:(i:Int)<S.length:=by omega
     have hs:=List.getElem?_eq_getElem hlt
     have hmem:=List.mem_of_getElem? hs
     have htk:(S.take (i+1)).map nul=(S.take i).map nul++[nul S[i]]:=by rw [List.take_add_one,hs,List.map_append];rfl
     generalize S[i]=s at *
     obtain ⟨g,off,a3,c3,rfl,hRF,e0,e1,e2,e3⟩:=(H7.out.1.ext HI.out.2).kid hs
     have HS:=Lib.hid (And.intro hRF (And.intro htk (H7.out.2.2.1 s hmem)))
     clear hs hmem htk hRF
     go_upto_region 12 with fail
     have b2:=Blk.new wr (rxC s.kind s.lo s.hi (.slice a3 s.kids.length c3)) 37
     have u2:=(Upd.refl [] wr).alloc (.cells (rxC s.kind s.lo s.hi (.slice a3 s.kids.length c3)).toArray 37)
     change Code.wp _ _ _ _ (wr.alloc (.cells (rxC s.kind s.lo s.hi (.slice a3 s.kids.length c3)).toArray 37))
     generalize (wr.alloc (.cells (rxC s.kind s.lo s.hi (.slice a3 s.kids.length c3)).toArray 37))=wx at *
     generalize wr.heap.size=xb at *
     have d0:=b2.cell (i:=0) rfl
     have d1:=b2.cell (i:=1) rfl
     have d2:=b2.cell (i:=2) rfl
     have d3:=b2.cell (i:=3) rfl
     have HNU:=Lib.hid (Nullable_calls ((HS.out.1.ext u2).val) HS.out.2.2.1 HS.out.2.2.2)
     have HIX:=Lib.hid (And.intro (HI.out.1.upd u2 (by simp)) (HI.out.2.step u2))
     clear b2 u2 e0 e1 e2 e3
     go_wp2_with ((with_reducible refine HNU.out.mono ?_);rintro e w9 ⟨rfl,u9⟩;have bR:=HIX.out.1.upd u9 (by simp);have c8:w9.cell? ⟨ab,i,none⟩=some (.bool false):=bR.cell (brow_false hlt);have f8:∀ q,w9.frozen? ⟨ab,q,none⟩=false:=bR.free;have HBR:=Lib.hid (And.intro bR u9);clear bR u9)
     have uS:Upd [ab] w9 (w9.setCell ⟨ab,i,none⟩ (.bool (nul s))):=(Upd.refl [ab] w9).set (p:=⟨ab,i,none⟩) (by simp) _
     refine ⟨⟨i+1,by go_num,by omega,Lib.hid ⟨?_,(HIX.out.2.step HBR.out.2).fresh uS (fun b hb=>.inr (by simp at hb;subst hb;exact HAB.out.1))⟩⟩,by simp [intOf];omega⟩
     have:=HBR.out.1.set i (.bool (nul s))
     rw [brow_set hlt] at this
     rw [HS.out.2.1]
     exact this
    ·have hme:i=S.length:=by omega
     subst hme
     have bR:=H3.out.1.upd (H6.out.1.step (H7.out.2.2.2.step HI.out.2)) (by simp)
     have r0:=bR.cell (i:=0) rfl
     have r1:=bR.cell (i:=1) rfl
     have r2:=bR.cell (i:=2) rfl
     have rf:∀ q,wr.frozen? ⟨pa+1,q,none⟩=false:=bR.free
     have cc0:=(H7.out.2.2.2.step HI.out.2).some c0 (by simp)
     have HBR:=Lib.hid bR
     clear bR
     go_wp2_with fail
     have hs:=cell3_set (a:=.slice a5 cuts.length c5) (b:=.slice aT (natRows T).length cT) (c:=.slice (some ⟨ab,0,none⟩) S.length S.length) HBR.out
     have hacc:=HI.out.1
     rw [List.take_length,Nat.sub_self,List.replicate_zero,List.append_nil] at hacc
     rw [HEE.out.1,HEE.out.2]
     have z1:pa+1<w3.heap.size:=H3.out.1.lt
     have z2:=H6.out.1.size
     have z3:=H7.out.2.2.2.size
     have z4:=HAB.out.1
     have hcv:(Value.slice a5 cuts.length c5).ownBlock≠some (pa+1):=fun h=>by
      rcases HO.out.old _ h with h1|h1
      ·simp only [Value.ownBlock,Option.some.injEq] at h1;omega
      ·have:=HL.out.1.size;omega
     refine ret_au2 rfl rfl rfl hs.1 rfl ⟨_,_,_,rfl,(H6.out.2.1.upd (H7.out.2.2.2.step HI.out.2) (by simp)).upd hs.2 (fun b hb=>by simp at hb;subst hb;exact hcv),HKP.out _ _ (HI.out.2.nil.trans hs.2) (fun b hb=>by simp at hb;subst hb;omega),?_⟩ ((HW.out.2.step (H3.out.2.1.step (H6.out.1.step (H7.out.2.2.2.step HI.out.2)))).fresh hs.2 (fun b hb=>.inr (by simp at hb;subst hb;have:=HPA.out;omega)))
     have h1:=SL.of_blk (pad:=[]) (k:=1) (n:=(S.map nul).length) (cap:=S.length) (xs:=bools (S.map nul)) (by simpa using hacc) (by simp [bools]) (by simp) (by have:=HLS.out;unfold maxLen;omega)
     rw [List.length_map] at h1
     dsimp only
     rw [List.length_map]
     exact h1.upd hs.2 (fun b hb=>by simp at hb;subst hb;simp [Value.ownBlock];omega)
 ·have hb:(nErr r != 0)=true:=by simpa using he
  have HE:=Lib.hid (And.intro (show ofE r=nErr r by unfold ofE;rw [if_pos he]) (show ofA r=noA by unfold ofA;rw [if_pos he]))
  clear he
  generalize nErr r=er at *
  go_wp2_with fail
  have hs:=cell3_set (a:=.slice none 0 0) (b:=.slice none 0 0) (c:=.slice none 0 0) H3.out.1
  rw [HE.out.1,HE.out.2]
  exact ret_au2 rfl rfl rfl hs.1 rfl noA_F ((HW.out.2.step H3.out.2.1).fresh hs.2 (fun b hb=>.inr (by simp at hb;subst hb;have:=HPA.out;omega)))
end
end Aut
end Go.Proofs.YtjclbjdkkdijbaaGreat
