/- Walks through package regex: Derive, Nullable, at expressions in normal form. Conditions: none. -/
import Derived.Test.YtjclbjdkkdijbaaGreatRxT
set_option linter.unusedVariables false
set_option linter.unusedSimpArgs false
set_option linter.unusedSectionVars false
open Go.RowKit
namespace Go.Proofs.YtjclbjdkkdijbaaGreat
open L
namespace Rgx
open Rx
theorem flat_id {k:Int}:∀ {ks:List Rx},(∀ r∈ks,r.kind≠k)→flat k ks=ks
 | [],_=>rfl
 | r::l,h=>by
  have h1:=flat_id (k:=k) (ks:=l) fun x hx=>h x (by simp [hx])
  unfold flat at h1 ⊢
  rw [List.flatMap_cons,h1,if_neg (h r (by simp))]
  rfl
theorem norm_fix:∀ (r:Rx),NF r→norm r=r:=by
 intro r
 induction r using Rx.ind with
 | h k lo hi ks ih=>
  intro h
  have hm:normL ks=ks:=by
   rw [normL_map]
   have:∀ x∈ks,norm x=id x:=fun x hx=>ih x hx (h.kids x hx)
   rw [List.map_congr_left this,List.map_id]
  rw [norm,hm]
  have join:∀ {k:Int} {unit zero:Rx} {ks:List Rx},zero≠unit→2≤ks.length→(∀ r∈ks,r.kind≠k∧r≠zero∧r≠unit)→(k≠3→Inc ks)→joinE k unit zero ks=nd k 0 0 ks:=by
   intro k unit zero ks hu hl hk hi
   have hf:flat k ks=ks:=flat_id fun r hr=>(hk r hr).1
   have hfi:ks.filter (fun r=>decide (r≠unit))=ks:=List.filter_eq_self.2 fun r hr=>by simpa using (hk r hr).2.2
   have hj:joinL k unit ks=ks:=by
    unfold joinL
    rw [hf,hfi]
    split
    ·rfl
    ·rename_i h3;exact sortR_eq (hi h3) fun x=>Iff.rfl
   rw [joinE_eq _ _ _ _ hu,hf,if_neg (fun hz=>(hk _ hz).2.1 rfl),hj]
   rcases pickE_cases (k:=k) (unit:=unit) (l:=ks) with ⟨e,_⟩|⟨x,e,_⟩|⟨_,e⟩
   ·rw [e] at hl;simp at hl
   ·rw [e] at hl;simp at hl
   ·exact e
  cases h with
  | none=>rfl
  | empty=>rfl
  | range _ _ h1 h2 h3=>rfl
  | cat _ h1 h2 h3=>exact join (k:=3) (by decide) h1 h3 (fun h=>absurd rfl h)
  | alt _ h1 h2 h3 h4=>exact join (k:=4) (by decide) h1 (fun r hr=>⟨(h3 r hr).1,(h3 r hr).2.2,(h3 r hr).2.1⟩) (fun _=>h4)
  | all _ h1 h2 h3 h4=>exact join (k:=5) (by decide) h1 h3 (fun _=>h4)
  | not x h1 h2=>rw [form6,if_neg h2]
  | star x h1 h2 h3 h4 h5=>rw [form7,if_neg (by omega),if_neg (by rintro (h|h);exact h4 h;exact h5 h)]
theorem NF.vErr0 {r:Rx} (h:NF r) (hn:nodes r≤64):vErr r=0:=by
 rw [vErr,if_neg (by omega),if_pos h.proper]
section
variable {w w':World} {v:Value} {M:List Nat}
set_option maxRecDepth 100000 in
set_option maxHeartbeats 8000000 in
theorem Nullable_calls {r:Rx} (hr:RxV M w r v) (hnf:NF r) (hn:nodes r≤64) :
 Calls Tryz.prog 52 #[v] w fun e w'=>e=.returned (.tuple #[.bool (nul r),.int .i64 0])∧Upd [] w w':=by
 obtain ⟨a1,c1,rfl,hF,_,_⟩:=hr.shape
 have HV:=Lib.hid (And.intro (hnf.vErr0 hn) hnf.proper)
 have HR:=Lib.hid (hr.sub (M':=[]) (by simp))
 clear hr hF hnf hn
 go_enter Tryz.func52,Tryz.ntmps52
 go_upto_region 1 with fail
 have bA:=Blk.new w (rxC r.kind r.lo r.hi (.slice a1 r.kids.length c1)) 37
 have uA:=(Upd.refl [] w).alloc (.cells (rxC r.kind r.lo r.hi (.slice a1 r.kids.length c1)).toArray 37)
 change Code.wp _ _ _ _ (w.alloc (.cells (rxC r.kind r.lo r.hi (.slice a1 r.kids.length c1)).toArray 37))
 generalize (w.alloc (.cells (rxC r.kind r.lo r.hi (.slice a1 r.kids.length c1)).toArray 37))=w1 at *
 have k0:=bA.cell (i:=0) rfl
 have k1:=bA.cell (i:=1) rfl
 have k2:=bA.cell (i:=2) rfl
 have k3:=bA.cell (i:=3) rfl
 have HU:=Lib.hid uA
 clear bA uA
 generalize w.heap.size=pb at *
 have HT:=Lib.hid (valid_calls (HR.out.ext HU.out))
 rw [HV.out.1] at HT
 go_upto_region 4 with (first|(with_reducible refine HT.out.mono ?_);rintro e w2 ⟨rfl,hu⟩)
 have g0:=hu.some k0 (by simp)
 have g1:=hu.some k1 (by simp)
 have g2:=hu.some k2 (by simp)
 have g3:=hu.some k3 (by simp)
 have HU2:=Lib.hid (HU.out.step hu)
 have HC:=Lib.hid (nullable_calls r (HR.out.ext HU2.out) HV.out.2)
 clear k0 k1 k2 k3 hu
 go_wp2_with (first|(with_reducible refine HC.out.mono ?_);rintro e w3 ⟨rfl,hu⟩)
 go_ret2
 exact ⟨rfl,HU2.out.step hu⟩
set_option maxRecDepth 100000 in
set_option maxHeartbeats 8000000 in
theorem Derive_calls {r:Rx} {c:Int} (hr:RxV M w r v) (hM:∀ b∈M,b<w.heap.size) (hnf:NF r) (hn:nodes r≤64) (hc0:0≤c) (hc1:c≤255) :
 Calls Tryz.prog 51 #[v,.int .u8 c] w fun e w'=>∃ v',e=.returned (.tuple #[v',.int .i64 (limE (der c r))])∧RxV M w' (limR (der c r)) v'∧Upd [] w w':=by
 obtain ⟨a1,c1,rfl,hF,_,_⟩:=hr.shape
 obtain ⟨w1,M1,rb,hw1,hrb,hM1,bA,bB,uB,hz2,hF1,hnew,hlt,hsub,hin,hle⟩:=two_boxes hF hM
 have HX:=Lib.hid (And.intro bB (And.intro uB (And.intro hF1 (And.intro hsub (And.intro hin (And.intro hle hlt))))))
 have HT:=Lib.hid (valid_calls (hF1.sub (M':=[]) (by simp)).val)
 have HV:=Lib.hid (And.intro (hnf.vErr0 hn) (And.intro hnf (And.intro hn (And.intro hc0 (And.intro hc1 (norm_fix r hnf))))))
 rw [HV.out.1] at HT
 clear hr hF hM hnf hn
 go_enter Tryz.func51,Tryz.ntmps51
 go_upto_region 1 with fail
 change Code.wp _ _ _ _ ((w.alloc (.cells (rxC r.kind r.lo r.hi (.slice a1 r.kids.length c1)).toArray 37)).alloc (.cells #[.int .i64 0,.int .u8 0,.int .u8 0,.slice none 0 0] 37))
 rw [←hw1,←hrb]
 have k0:=bA.cell (i:=0) rfl
 have k1:=bA.cell (i:=1) rfl
 have k2:=bA.cell (i:=2) rfl
 have k3:=bA.cell (i:=3) rfl
 clear bA bB uB hz2 hF1 hnew hlt hsub hin hle hM1
 clear hw1 hrb
 generalize hpa:w.heap.size=pa at *
 have HPA:=Lib.hid hpa
 clear hpa
 go_upto_region 4 with (first|(with_reducible refine HT.out.mono ?_);rintro e w2 ⟨rfl,hu⟩)
 have g0:=hu.some k0 (by simp)
 have g1:=hu.some k1 (by simp)
 have g2:=hu.some k2 (by simp)
 have g3:=hu.some k3 (by simp)
 have HU2:=Lib.hid hu
 have HLT2:=Lib.hid (show ∀ b∈M1,b<w2.heap.size from fun b hb=>by have:=HX.out.2.2.2.2.2.2 b hb;have:=hu.size;omega)
 clear k0 k1 k2 k3 hu
 have HF:=Lib.hid (forms_calls (M:=M1) (w:=w2) HLT2.out)
 go_upto_region 5 with ((with_reducible refine HF.out.mono ?_);rintro e w3 ⟨b,rfl,f3,hb,u3⟩)
 have e0:=u3.some g0 (by simp)
 have e1:=u3.some g1 (by simp)
 have e2:=u3.some g2 (by simp)
 have e3:=u3.some g3 (by simp)
 have HLT3:=Lib.hid (show ∀ b∈M1,b<w3.heap.size from fun b hb=>by have:=HLT2.out b hb;have:=u3.size;omega)
 have HU3:=Lib.hid u3
 have HFM:=Lib.hid f3
 have HNM:=Lib.hid (normal_calls r HFM.out ((HX.out.2.2.1.ext (HU2.out.step HU3.out))).val HLT3.out HV.out.2.1.proper (by have:=HV.out.2.2.1;omega))
 rw [HV.out.2.2.2.2.2] at HNM
 clear u3 f3 hb g0 g1 g2 g3
 go_wp2_with (first
  | ((with_reducible refine HNM.out.mono ?_);rintro e w4 ⟨v4,rfl,o4,u4⟩;have HD:=Lib.hid (derive_calls r HV.out.2.1 HV.out.2.2.1 HV.out.2.2.2.1 HV.out.2.2.2.2.1 (HFM.out.ext u4) o4 (fun b hb=>by have:=HLT3.out b hb;have:=u4.size;omega));have HU4:=Lib.hid u4;clear u4 e0 e1 e2 e3)
  | ((with_reducible refine HD.out.mono ?_);rintro e w5 ⟨v5,rfl,o5,u5⟩;have HL:=Lib.hid (limited_calls o5 (fun b hb=>by have:=HLT3.out b hb;have:=HU4.out.size;have:=u5.size;omega) (by have h1:=der_nodes c 64 r HV.out.2.2.1;have h2:=HV.out.2.2.1;have h3:2*nodes r*(64+4)≤2*64*(64+4):=Nat.mul_le_mul_right _ (by omega);omega));have HU5:=Lib.hid (HU4.out.step u5);clear u5;obtain ⟨a5,c5,rfl,_⟩:=o5.shape)
  | ((with_reducible refine HL.out.mono ?_);rintro e w6 ⟨v6,rfl,o6,u6⟩;obtain ⟨a6,c6,rfl,hF6,_,_⟩:=o6.shape;have U6:=(HU2.out.step HU3.out).step (HU5.out.step u6);have bR:=HX.out.1.upd U6 (by simp);have r0:=bR.cell (i:=0) rfl;have r1:=bR.cell (i:=1) rfl;have r2:=bR.cell (i:=2) rfl;have r3:=bR.cell (i:=3) rfl;have rf:∀ q,w6.frozen? ⟨rb,q,none⟩=false:=bR.free;have H6:=Lib.hid (And.intro bR (And.intro U6 hF6));clear bR U6 u6 o6 hF6))
 have hs:=box_set (a:=.int .i64 (limR (der c r)).kind) (b:=.int .u8 (limR (der c r)).lo) (c:=.int .u8 (limR (der c r)).hi) (d:=.slice a6 (limR (der c r)).kids.length c6) H6.out.1
 exact ret_rx2 rfl rfl rfl hs.1 rfl ((H6.out.2.2.upd hs.2 (by simpa using HX.out.2.2.2.2.1)).sub (fun b hb=>.inl (HX.out.2.2.2.1 b hb))) ((HX.out.2.1.step H6.out.2.1).fresh hs.2 (fun b hb=>.inr (by simp at hb;subst hb;have:=HX.out.2.2.2.2.2.1;have:=HPA.out;omega)))
end
end Rgx
end Go.Proofs.YtjclbjdkkdijbaaGreat
