/- Walks through the law of chapter 05: own, plain. Conditions: none. Walks through the reference of automata: Made. Conditions: none. -/
import Derived.Test.YtjclbjdkkdijbaaGreatAuF
import Derived.Test.YtjclbjdkkdijbaaGreatAuZc
import Derived.Test.YtjclbjdkkdijbaaGreatReg3
set_option linter.unusedVariables false
set_option linter.unusedSimpArgs false
set_option linter.unusedSectionVars false
section
open Go.RowKit
namespace Go.Proofs.YtjclbjdkkdijbaaGreat
open L
namespace Aut
open Auto
attribute [-go_sem] sliced
section
variable {w:World} {v:Value}
theorem ret_own {w0:World} {fn:Func} {a:Act} {p:Tmp} {rb:Nat} {cs:List Value} {r:Au} (h:fn.results=#[.cell p 31]) (hp:a.tmps.getD p undef=.pointer (some ⟨rb,0,none⟩)) (hB:Blk w rb cs 31) (hdf:a.defers=[]) (hv:AuF w r cs) (hu:Upd [] w0 w) :
 bodyPost Tryz.prog fn (fun e w'=>∃ v',e=.returned v'∧AuV w' r v'∧Upd [] w0 w') .ret a w:=by
 have hl:(Tryz.prog.info? 31).map (·.size)=some cs.length:=by
  obtain ⟨_,_,_,rfl,_⟩:=hv
  kernel_rfl
 exact bodyPost_ret (results_cell_row h a.tmps w rb 31 cs.toArray (0,0) (.struct _) hp hB Tryz.underlying31 rfl (by simpa using hl)) hdf ⟨_,rfl,⟨cs,rfl,hv⟩,hu⟩
set_option maxRecDepth 100000 in
set_option maxHeartbeats 4000000 in
theorem own_calls {a:Au} (h:AuV w a v):Calls Tryz.prog 22 #[v] w fun e w'=>∃ v',e=.returned v'∧AuV w' a v'∧Upd [] w w':=by
 obtain ⟨a1,c1,a2,c2,a3,c3,rfl,hF⟩:=h.shape
 have HF:=Lib.hid hF
 clear h hF
 go_enter Tryz.func22,Tryz.ntmps22
 go_upto_region 1 with fail
 have b1:=(Blk.new w [.slice a1 a.cuts.length c1,.slice a2 a.next.length c2,.slice a3 a.acc.length c3] 39).alloc (.cells #[.slice none 0 0,.slice none 0 0,.slice none 0 0] 31)
 have b2:=Blk.new (w.alloc (.cells #[.slice a1 a.cuts.length c1,.slice a2 a.next.length c2,.slice a3 a.acc.length c3] 39)) [.slice none 0 0,.slice none 0 0,.slice none 0 0] 31
 have u1:=((Upd.refl [] w).alloc (.cells #[.slice a1 a.cuts.length c1,.slice a2 a.next.length c2,.slice a3 a.acc.length c3] 39)).alloc (.cells #[.slice none 0 0,.slice none 0 0,.slice none 0 0] 31)
 have z1:(w.alloc (.cells #[.slice a1 a.cuts.length c1,.slice a2 a.next.length c2,.slice a3 a.acc.length c3] 39)).heap.size=w.heap.size+1:=by simp
 rw [z1] at b2
 change Blk ((w.alloc (.cells #[.slice a1 a.cuts.length c1,.slice a2 a.next.length c2,.slice a3 a.acc.length c3] 39)).alloc (.cells #[.slice none 0 0,.slice none 0 0,.slice none 0 0] 31)) _ _ _ at b1
 change Blk ((w.alloc (.cells #[.slice a1 a.cuts.length c1,.slice a2 a.next.length c2,.slice a3 a.acc.length c3] 39)).alloc (.cells #[.slice none 0 0,.slice none 0 0,.slice none 0 0] 31)) _ _ _ at b2
 generalize ((w.alloc (.cells #[.slice a1 a.cuts.length c1,.slice a2 a.next.length c2,.slice a3 a.acc.length c3] 39)).alloc (.cells #[.slice none 0 0,.slice none 0 0,.slice none 0 0] 31))=w1 at *
 have k0:=b1.cell (i:=0) rfl
 have k1:=b1.cell (i:=1) rfl
 have k2:=b1.cell (i:=2) rfl
 have r0:=b2.cell (i:=0) rfl
 have r1:=b2.cell (i:=1) rfl
 have r2:=b2.cell (i:=2) rfl
 have rf:∀ q,w1.frozen? ⟨w.heap.size+1,q,none⟩=false:=b2.free
 have HB:=Lib.hid (And.intro b2 u1)
 clear b1 b2 u1 z1
 generalize hpa:w.heap.size=pa at *
 have HPA:=Lib.hid hpa
 clear hpa
 go_wp2_with fail
 have hs:=cell3_set (a:=.slice a1 a.cuts.length c1) (b:=.slice a2 a.next.length c2) (c:=.slice a3 a.acc.length c3) HB.out.1
 have hu:=HB.out.2.fresh hs.2 (fun b hb=>.inr (by simp at hb;subst hb;have:=HPA.out;omega))
 exact ret_own rfl rfl hs.1 rfl (HF.out.ext hu) hu
theorem ret_plain {w0:World} {fn:Func} {a:Act} {p:Tmp} {rb:Nat} {cs:List Value} {r:Au} (h:fn.results=#[.cell p 39]) (hp:a.tmps.getD p undef=.pointer (some ⟨rb,0,none⟩)) (hB:Blk w rb cs 39) (hdf:a.defers=[]) (hv:AuF w r cs) (hu:Upd [] w0 w) :
 bodyPost Tryz.prog fn (fun e w'=>∃ v',e=.returned v'∧AuV w' r v'∧Upd [] w0 w') .ret a w:=by
 have hl:(Tryz.prog.info? 39).map (·.size)=some cs.length:=by
  obtain ⟨_,_,_,rfl,_⟩:=hv
  kernel_rfl
 exact bodyPost_ret (results_cell_row h a.tmps w rb 39 cs.toArray (0,0) (.struct _) hp hB Tryz.underlying39 rfl (by simpa using hl)) hdf ⟨_,rfl,⟨cs,rfl,hv⟩,hu⟩
end
end Aut
end Go.Proofs.YtjclbjdkkdijbaaGreat
end
section
open Go.RowKit
namespace Go.Proofs.YtjclbjdkkdijbaaGreat
open L
namespace Aut
open Auto R01
attribute [-go_sem] sliced
def cutT:List Int:=[1,97,98,99,255,40]
def cutM (xs:List Int):Nat→List Int
 | 0=>[0]
 | k+1=>putC (cutM xs k) (cutT.getD (pick xs (2+k) 6).toNat 0)
def rowM (m n:Int):Nat→List Int × Int
 | 0=>([],n)
 | k+1=>((rowM m n k).1++[(rowM m n k).2 % m],(rowM m n k).2 / 7)
def manyM (xs:List Int):Int:=1+pick xs 0 6
def cutsM (xs:List Int):List Int:=cutM xs (pick xs 1 4).toNat
def nthM (xs:List Int) (s:Nat):List Int × Int:=rowM (manyM xs) (pick xs (5+s) 1048576) (cutsM xs).length
def nextM (xs:List Int) (s:Nat):List (List Int):=(List.range s).map fun s=>(nthM xs s).1
def accM (xs:List Int) (s:Nat):List Bool:=(List.range s).map fun s=>(nthM xs s).2 % 3 == 0
def madeA (xs:List Int):Au:=⟨cutsM xs,nextM xs (manyM xs).toNat,accM xs (manyM xs).toNat⟩
theorem pick_lo (xs:List Int) (i:Int) {m:Int} (h:0<m):0≤pick xs i m:=by
 unfold pick
 split
 ·omega
 ·exact around_lo h
theorem pick_hi (xs:List Int) (i:Int) {m:Int} (h:0<m):pick xs i m<m:=by
 unfold pick
 split
 ·omega
 ·exact around_hi h
theorem cutT_rng (i:Nat):0≤cutT.getD i 0∧cutT.getD i 0≤255:=by
 unfold cutT
 rcases i with _|_|_|_|_|_|i <;> simp
theorem cutM_spec (xs:List Int):∀ k,(cutM xs k).Pairwise (·<·)∧(∀ x∈cutM xs k,0≤x∧x≤255)∧(0:Int)∈cutM xs k∧(cutM xs k).length≤k+1
 | 0=>by simp [cutM]
 | k+1=>by
  obtain ⟨h1,h2,h3,h4⟩:=cutM_spec xs k
  have hr:=cutT_rng (pick xs (2+k) 6).toNat
  refine ⟨putC_inc _ h1,fun x hx=>?_,(putC_mem _ _ _).2 (.inl h3),?_⟩
  ·rcases (putC_mem _ _ _).1 hx with h|h
   ·exact h2 x h
   ·subst h;exact hr
  ·have:=putC_length (cutM xs k) (cutT.getD (pick xs (2+k) 6).toNat 0)
   show (putC (cutM xs k) (cutT.getD (pick xs (2+k) 6).toNat 0)).length≤_
   omega
theorem rowM_spec {m:Int} (hm:0<m) {n:Int} (hn:0≤n):∀ k,(rowM m n k).1.length=k∧(∀ x∈(rowM m n k).1,0≤x∧x<m)∧0≤(rowM m n k).2∧(rowM m n k).2≤n
 | 0=>by simp [rowM,hn]
 | k+1=>by
  obtain ⟨h1,h2,h3,h4⟩:=rowM_spec hm hn k
  refine ⟨by simp [rowM,h1],fun x hx=>?_,?_,?_⟩
  ·rcases List.mem_append.1 hx with h|h
   ·exact h2 x h
   ·simp at h;subst h
    exact ⟨Int.emod_nonneg _ (by omega),Int.emod_lt_of_pos _ hm⟩
  ·show 0≤(rowM m n k).2 / 7
   omega
  ·show (rowM m n k).2 / 7≤n
   omega
theorem manyM_rng (xs:List Int):1≤manyM xs∧manyM xs≤6:=by
 have h1:=pick_lo xs 0 (m:=6) (by omega)
 have h2:=pick_hi xs 0 (m:=6) (by omega)
 unfold manyM
 omega
theorem zero_head {cs:List Int} (hs:cs.Pairwise (·<·)) (h0:(0:Int)∈cs) (hr:∀ x∈cs,0≤x):cs.getD 0 1=0:=by
 cases cs with
 | nil=>simp at h0
 | cons x l=>
  have:=hr x (by simp)
  rcases List.mem_cons.1 h0 with h|h
  ·simp [h]
  ·have:=(List.pairwise_cons.1 hs).1 _ h
   omega
theorem madeA_few (xs:List Int):(madeA xs).next.length≤6:=by
 have:=manyM_rng xs
 simp [madeA,nextM]
 omega
theorem madeA_ok (xs:List Int):Ok (madeA xs):=by
 obtain ⟨h1,h2,h3,h4⟩:=cutM_spec xs (pick xs 1 4).toNat
 have hm:=manyM_rng xs
 refine ⟨by have:=madeA_few xs;omega,by simp [madeA,nextM];omega,by simp [madeA,nextM,accM],zero_head h1 h3 (fun x hx=>(h2 x hx).1),h1,fun x hx=>(h2 x hx).2,fun l hl=>?_⟩
 simp only [madeA,nextM,List.mem_map,List.mem_range] at hl
 obtain ⟨s,_,rfl⟩:=hl
 obtain ⟨r1,r2,_,_⟩:=rowM_spec (m:=manyM xs) (by omega) (pick_lo xs (5+s) (m:=1048576) (by omega)) (cutsM xs).length
 refine ⟨r1,fun x hx=>?_⟩
 have:=r2 x hx
 simp only [madeA,nextM,List.length_map,List.length_range]
 omega
theorem sl_lt {w:World} {v:Value} {n:Nat} {cs:List Value} (h:SL w 1 v n cs) (hn:0<n) {q:Nat} (hq:v.ownBlock=some q):q<w.heap.size:=by
 obtain ⟨hl,a,cap,rfl,h2,h3,h5,h4⟩:=h
 rcases h4 with h4|⟨b,off,rfl,h4⟩
 ·omega
 ·simp only [Value.ownBlock,Option.some.injEq] at hq
  subst hq
  have hc:cs[0]?=some (cs[0]'(by omega)):=List.getElem?_eq_getElem (by omega)
  exact World.block_lt_of_cell? _ _ (h4 0 _ hc)
section
variable {w w':World} {v:Value}
set_option maxRecDepth 100000 in
set_option maxHeartbeats 16000000 in
theorem Made_calls {xs:List Int} (hx:∀ x∈xs,IsI64 x) (h:SL w 1 v xs.length (ints xs)):Calls Tryz.prog 40 #[v] w fun e w'=>∃ v',e=.returned v'∧AuV w' (madeA xs) v'∧Upd [] w w':=by
 have HX:=Lib.hid (And.intro hx h)
 clear hx h
 go_enter Tryz.func40,Tryz.ntmps40
 go_upto_region 1 with fail
 have b1:=Blk.new w [.slice none 0 0,.slice none 0 0,.slice none 0 0] 39
 have u1:=(Upd.refl [] w).alloc (.cells #[.slice none 0 0,.slice none 0 0,.slice none 0 0] 39)
 change Blk (w.alloc (.cells #[.slice none 0 0,.slice none 0 0,.slice none 0 0] 39)) _ _ _ at b1
 generalize (w.alloc (.cells #[.slice none 0 0,.slice none 0 0,.slice none 0 0] 39))=w1 at *
 have HB:=Lib.hid (And.intro b1 u1)
 have HRB:=Lib.hid (And.intro b1.lt (Nat.le_refl w.heap.size))
 clear b1 u1
 generalize hrb:w.heap.size=rb at *
 have HRQ:=Lib.hid (Nat.le_of_eq hrb)
 clear hrb
 go_upto_region 2 with fail
 change Code.wp _ _ _ _ ((w1.alloc (.cells #[.int .i64 0] 3)).alloc (.cells #[.slice (some ⟨w1.heap.size,0,none⟩) 1 1,.slice none 0 0,.slice none 0 0] 39))
 have HMS:=Lib.hid (Mk.start w1)
 generalize ((w1.alloc (.cells #[.int .i64 0] 3)).alloc (.cells #[.slice (some ⟨w1.heap.size,0,none⟩) 1 1,.slice none 0 0,.slice none 0 0] 39))=wm at *
 generalize hab:w1.heap.size+1=ab at *
 generalize hcb:w1.heap.size=cb at HMS ⊢
 clear hab hcb
 have HPK:=Lib.hid (show ∀ (w5:World),Upd [] w1 w5→∀ i m:Int,1≤m→m≤9223372036854775807→Calls Tryz.prog 79 #[v,.int .i64 i,.int .i64 m] w5 fun e w'=>e=.returned (.int .i64 (pick xs i m))∧w5=w' from fun w5 u5 i m h1 h2=>Pick_calls HX.out.1 ((HX.out.2.upd HB.out.2 (by simp)).upd u5 (by simp)) i m h1 h2)
 have HP0:=Lib.hid (HPK.out wm HMS.out.u 0 6 (by omega) (by omega))
 have HP1:=Lib.hid (HPK.out wm HMS.out.u 1 4 (by omega) (by omega))
 have a0:=pick_lo xs 0 (m:=6) (by omega)
 have a1:=pick_hi xs 0 (m:=6) (by omega)
 have c0:=pick_lo xs 1 (m:=4) (by omega)
 have c1:=pick_hi xs 1 (m:=4) (by omega)
 obtain ⟨n0,hn0⟩:∃ n0:Nat,pick xs 0 6=n0:=⟨_,(Int.toNat_of_nonneg a0).symm⟩
 obtain ⟨n1,hn1⟩:∃ n1:Nat,pick xs 1 4=n1:=⟨_,(Int.toNat_of_nonneg c0).symm⟩
 rw [hn0] at HP0 a1
 rw [hn1] at HP1 c1
 have HMM:=Lib.hid (show manyM xs=((1+n0:Nat):Int)∧cutsM xs=cutM xs n1 by unfold manyM cutsM;rw [hn0,hn1];exact ⟨by omega,by simp⟩)
 have b0:n0<6:=by omega
 have d0:n1<4:=by omega
 clear a0 a1 c0 c1 hn0 hn1
 go_upto_region 4 with (first|((with_reducible refine HP0.out.mono ?_);rintro e _ ⟨rfl,rfl⟩)|((with_reducible refine HP1.out.mono ?_);rintro e _ ⟨rfl,rfl⟩))
 clear HP0 HP1
 go_wp2_with fail
 go_loopw [6] (fun kv wr=>∃ (k:Nat) (cv:Value),kv=.int .i64 ((k+1:Nat):Int)∧k≤n1∧Hid (Mk 39 w1 ab cv (.slice none 0 0) (.slice none 0 0) (cutM xs k) [] [] [] wr)) (fun kv _=>n1+1 - (intOf kv).toNat)
 case atStart=>exact ⟨0,_,rfl,Nat.zero_le _,Lib.hid HMS.out⟩
 case round=>
  obtain ⟨k,cv,rfl,hk,HI⟩:=hrel
  by_cases hlt:k<n1
  ·have hli:((k+1:Nat):Int)<1+(n1:Int):=by omega
   have a0:=pick_lo xs (2+k) (m:=6) (by omega)
   have a1:=pick_hi xs (2+k) (m:=6) (by omega)
   obtain ⟨n2,hn2⟩:∃ n2:Nat,pick xs (2+k) 6=n2:=⟨_,(Int.toNat_of_nonneg a0).symm⟩
   rw [hn2] at a1
   have b2:n2<6:=by omega
   have HPQ:=Lib.hid (show ∀ (w5:World),Upd [] wr w5→Calls Tryz.prog 79 #[v,.int .i64 (1+((k:Int)+1)),.int .i64 6] w5 fun e w'=>e=.returned (.int .i64 n2)∧w5=w' from fun w5 u5=>by
    have:=HPK.out w5 (HI.out.u.step u5) (1+((k:Int)+1)) 6 (by omega) (by omega)
    rw [show (1+((k:Int)+1))=2+k by omega] at this ⊢
    rw [hn2] at this
    exact this)
   have HCM:=Lib.hid (show cutM xs (k+1)=putC (cutM xs k) (cutT.getD n2 0) by show putC _ _=_;rw [hn2];simp)
   have HPT:=Lib.hid (show ∀ (w5:World),Upd [] wr w5→Calls Tryz.prog 78 #[cv,.int .i64 (cutT.getD n2 0)] w5 (SlF (cutM xs (k+1)) cv w5) from fun w5 u5=>by
    rw [HCM.out]
    exact Put_callsF (HI.out.cu.upd u5 (by simp)) (by have:=(cutM_spec xs k).2.2.2;omega) _)
   clear a0 a1 hn2 HCM
   have hct:=cutT_rng n2
   have HT:=Lib.hid (show (ints cutT)[n2]?=some (.int .i64 (cutT.getD n2 0)) from ints_gd (by simpa [cutT] using b2))
   generalize cutT.getD n2 0=ct at *
   have q0:=HI.out.bx.cell (i:=0) rfl
   have qf:∀ q,wr.frozen? ⟨ab,q,none⟩=false:=HI.out.bx.free
   go_upto_region 7 with fail
   refine wp_region_wa 12 11 (fun w'=>∃ x:Ext wr,w'=x.val) (by kernel_rfl) (by kernel_rfl) (Ext.of (by iterate 25 (first|exact Upd.refl _ _|assumption|refine Upd.alloc ?_ _|refine Upd.drew ?_|refine Upd.drewN ?_ _|refine Upd.dl ?_|refine Upd.step ?_ (Ext.upd _)|refine Upd.nil ?_|skip))) ?_
   (refine WA.free 0 rfl rfl (by kernel_rfl) (fun K hK=>?_);go_big_quiet_step (fail);refine wpQuiet_nil ?_;refine hK _ ?_;clear hK K)
   (refine WA.load 1 11 rfl rfl (by kernel_rfl) (by kernel_rfl) (fun K hK=>?_);go_big_quiet_step (fail);refine wpQuiet_nil ?_;refine hK _ ?_;clear hK K)
   (refine WA.free 3 rfl rfl (by kernel_rfl) (fun K hK=>?_);go_big_quiet_step (fail);refine wpQuiet_nil ?_;refine hK _ ?_;clear hK K);(refine WA.free 4 rfl rfl (by kernel_rfl) (fun K hK=>?_);go_big_quiet_step (fail);refine wpQuiet_nil ?_;refine hK _ ?_;clear hK K);(refine WA.free 5 rfl rfl (by kernel_rfl) (fun K hK=>?_);go_big_quiet_step (fail);refine wpQuiet_nil ?_;refine hK _ ?_;clear hK K)
   refine WA.two 2 6 (by kernel_rfl) (Do_.mk rfl (fun K hK=>?_)) (Do_.mk rfl (fun K hK=>?_))
   ·go_wp2_with fail
    have HBT:=Lib.hid (And.intro (show Blk ((wr.alloc (.cells #[.int .i64 1,.int .i64 97,.int .i64 98,.int .i64 99,.int .i64 255,.int .i64 40] 3)).drew) wr.heap.size (ints cutT) 3 from Blk.new wr (ints cutT) 3) (show Upd [] wr ((wr.alloc (.cells #[.int .i64 1,.int .i64 97,.int .i64 98,.int .i64 99,.int .i64 255,.int .i64 40] 3)).drew) from (by iterate 25 (first|exact Upd.refl _ _|assumption|refine Upd.alloc ?_ _|refine Upd.drew ?_|refine Upd.drewN ?_ _|refine Upd.dl ?_|refine Upd.step ?_ (Ext.upd _)|refine Upd.nil ?_|skip))))
    generalize ((wr.alloc (.cells #[.int .i64 1,.int .i64 97,.int .i64 98,.int .i64 99,.int .i64 255,.int .i64 40] 3)).drew)=w5 at *
    generalize wr.heap.size=tb at HBT ⊢
    refine WA.ext (fun x=>Ext.of (HBT.out.2.step x.upd)) ?_
    refine WA.one 6 (by kernel_rfl) (Do_.mk rfl (fun K hK=>?_))
    go_wp2_with ((with_reducible refine (HPQ.out _ HBT.out.2).mono ?_);rintro e _ ⟨rfl,rfl⟩)
    refine WA.keep (Ext.of (by iterate 25 (first|exact Upd.refl _ _|assumption|refine Upd.alloc ?_ _|refine Upd.drew ?_|refine Upd.drewN ?_ _|refine Upd.dl ?_|refine Upd.step ?_ (Ext.upd _)|refine Upd.nil ?_|skip))) ?_
    (refine WA.free 7 rfl rfl (by kernel_rfl) (fun K hK=>?_);go_big_quiet_step (fail);refine wpQuiet_nil ?_;refine hK _ ?_;clear hK K)
    have hc8:=HBT.out.1.cell HT.out
    (refine WA.load 8 11 rfl rfl (by kernel_rfl) (by kernel_rfl) (fun K hK=>?_);go_big_quiet_step (fail);refine wpQuiet_nil ?_;refine hK _ ?_;clear hK K)
    refine WA.one 9 (by kernel_rfl) (Do_.mk rfl (fun K hK=>?_))
    go_wp2_with ((with_reducible refine (HPT.out _ HBT.out.2).mono ?_);rintro e w6 ⟨cv',rfl,s6,u6,k6⟩)
    obtain ⟨a6,c6,rfl,_⟩:=id s6.elems
    have H6:=Lib.hid (And.intro s6 (And.intro (HBT.out.2.step u6) k6))
    have q6:=H6.out.2.1.some q0 (by simp)
    have f6:∀ q,w6.frozen? ⟨ab,q,none⟩=false:=(HI.out.bx.upd H6.out.2.1 (by simp)).free
    refine WA.keep (Ext.of u6) ?_
    clear s6 k6
    refine WA.one 10 (by kernel_rfl) (Do_.mk rfl (fun K hK=>?_))
    go_wp2_with fail
    refine WA.keep (Ext.of (by iterate 25 (first|exact Upd.refl _ _|assumption|refine Upd.alloc ?_ _|refine Upd.drew ?_|refine Upd.drewN ?_ _|refine Upd.dl ?_|refine Upd.step ?_ (Ext.upd _)|refine Upd.nil ?_|skip))) ?_
    refine WA.one 11 (by kernel_rfl) (Do_.mk rfl (fun K hK=>?_))
    go_wp2_with fail
    refine WA.past (by kernel_rfl) ?_
    refine WA.nil (by kernel_rfl) ?_
    go_wp2_with fail
    refine ⟨⟨k+1,_,by go_num,by omega,Lib.hid ((HI.out.quiet H6.out.2.1).cuts H6.out.1 (fun q hq=>?_))⟩,by simp [intOf];omega⟩
    have hlt6:=sl_lt H6.out.1 (List.length_pos_of_mem (cutM_spec xs (k+1)).2.2.1) hq
    rcases H6.out.2.2 q hq with h|h
    ·obtain ⟨h1,h2,h3,h4⟩:=HI.out.cn q h
     exact ⟨h1,h2,h3,h4,hlt6⟩
    ·have:=HI.out.u.size
     have:=HBT.out.2.size
     have:=HI.out.bx.lt
     exact ⟨by omega,by omega,by simp [Value.ownBlock],by simp [Value.ownBlock],hlt6⟩
   ·go_wp2_with ((with_reducible refine (HPQ.out _ (by iterate 25 (first|exact Upd.refl _ _|assumption|refine Upd.alloc ?_ _|refine Upd.drew ?_|refine Upd.drewN ?_ _|refine Upd.dl ?_|refine Upd.step ?_ (Ext.upd _)|refine Upd.nil ?_|skip))).mono ?_);rintro e _ ⟨rfl,rfl⟩)
    refine WA.keep (Ext.of (by iterate 25 (first|exact Upd.refl _ _|assumption|refine Upd.alloc ?_ _|refine Upd.drew ?_|refine Upd.drewN ?_ _|refine Upd.dl ?_|refine Upd.step ?_ (Ext.upd _)|refine Upd.nil ?_|skip))) ?_
    refine WA.one 2 (by kernel_rfl) (Do_.mk rfl (fun K hK=>?_))
    go_wp2_with fail
    have HBT:=Lib.hid (And.intro (show Blk ((wr.alloc (.cells #[.int .i64 1,.int .i64 97,.int .i64 98,.int .i64 99,.int .i64 255,.int .i64 40] 3)).drew) wr.heap.size (ints cutT) 3 from Blk.new wr (ints cutT) 3) (show Upd [] wr ((wr.alloc (.cells #[.int .i64 1,.int .i64 97,.int .i64 98,.int .i64 99,.int .i64 255,.int .i64 40] 3)).drew) from (by iterate 25 (first|exact Upd.refl _ _|assumption|refine Upd.alloc ?_ _|refine Upd.drew ?_|refine Upd.drewN ?_ _|refine Upd.dl ?_|refine Upd.step ?_ (Ext.upd _)|refine Upd.nil ?_|skip))))
    generalize ((wr.alloc (.cells #[.int .i64 1,.int .i64 97,.int .i64 98,.int .i64 99,.int .i64 255,.int .i64 40] 3)).drew)=w5 at *
    generalize wr.heap.size=tb at HBT ⊢
    refine WA.ext (fun x=>Ext.of (HBT.out.2.step x.upd)) ?_
    (refine WA.free 7 rfl rfl (by kernel_rfl) (fun K hK=>?_);go_big_quiet_step (fail);refine wpQuiet_nil ?_;refine hK _ ?_;clear hK K)
    have hc8:=HBT.out.1.cell HT.out
    (refine WA.load 8 11 rfl rfl (by kernel_rfl) (by kernel_rfl) (fun K hK=>?_);go_big_quiet_step (fail);refine wpQuiet_nil ?_;refine hK _ ?_;clear hK K)
    refine WA.one 9 (by kernel_rfl) (Do_.mk rfl (fun K hK=>?_))
    go_wp2_with ((with_reducible refine (HPT.out _ HBT.out.2).mono ?_);rintro e w6 ⟨cv',rfl,s6,u6,k6⟩)
    obtain ⟨a6,c6,rfl,_⟩:=id s6.elems
    have H6:=Lib.hid (And.intro s6 (And.intro (HBT.out.2.step u6) k6))
    have q6:=H6.out.2.1.some q0 (by simp)
    have f6:∀ q,w6.frozen? ⟨ab,q,none⟩=false:=(HI.out.bx.upd H6.out.2.1 (by simp)).free
    refine WA.keep (Ext.of u6) ?_
    clear s6 k6
    refine WA.one 10 (by kernel_rfl) (Do_.mk rfl (fun K hK=>?_))
    go_wp2_with fail
    refine WA.keep (Ext.of (by iterate 25 (first|exact Upd.refl _ _|assumption|refine Upd.alloc ?_ _|refine Upd.drew ?_|refine Upd.drewN ?_ _|refine Upd.dl ?_|refine Upd.step ?_ (Ext.upd _)|refine Upd.nil ?_|skip))) ?_
    refine WA.one 11 (by kernel_rfl) (Do_.mk rfl (fun K hK=>?_))
    go_wp2_with fail
    refine WA.past (by kernel_rfl) ?_
    refine WA.nil (by kernel_rfl) ?_
    go_wp2_with fail
    refine ⟨⟨k+1,_,by go_num,by omega,Lib.hid ((HI.out.quiet H6.out.2.1).cuts H6.out.1 (fun q hq=>?_))⟩,by simp [intOf];omega⟩
    have hlt6:=sl_lt H6.out.1 (List.length_pos_of_mem (cutM_spec xs (k+1)).2.2.1) hq
    rcases H6.out.2.2 q hq with h|h
    ·obtain ⟨h1,h2,h3,h4⟩:=HI.out.cn q h
     exact ⟨h1,h2,h3,h4,hlt6⟩
    ·have:=HI.out.u.size
     have:=HBT.out.2.size
     have:=HI.out.bx.lt
     exact ⟨by omega,by omega,by simp [Value.ownBlock],by simp [Value.ownBlock],hlt6⟩
  ·have hke:k=n1:=by omega
   subst hke
   have hni:¬ (((k+1:Nat):Int)<1+(k:Int)):=by omega
   obtain ⟨cva,cvc,rfl,_⟩:=id HI.out.cu.elems
   have HI2:=Lib.hid (show Mk 39 w1 ab (.slice cva (cutsM xs).length cvc) (.slice none 0 0) (.slice none 0 0) (cutsM xs) [] [] [] wr by rw [HMM.out.2];exact HI.out)
   have hcl:(cutsM xs).length≤4:=by rw [HMM.out.2];have:=(cutM_spec xs k).2.2.2;omega
   go_wp2_with fail
   go_loopw [7] (fun kv wr2=>∃ (s:Nat) (nv av:Value) (F:List Nat),kv=.int .i64 s∧s≤1+n0∧Hid (Mk 39 w1 ab (.slice cva (cutsM xs).length cvc) nv av (cutsM xs) (nextM xs s) (accM xs s) F wr2)) (fun kv _=>1+n0 - (intOf kv).toNat)
   case atStart=>exact ⟨0,_,_,[],rfl,Nat.zero_le _,Lib.hid HI2.out⟩
   case round=>
    obtain ⟨s,nv,av,F,rfl,hs,HJ⟩:=hrel
    by_cases hsl:s<1+n0
    ·have hsli:(s:Int)<1+(n0:Int):=by omega
     have e0:=pick_lo xs (5+s) (m:=1048576) (by omega)
     have e1:=pick_hi xs (5+s) (m:=1048576) (by omega)
     have HP5:=Lib.hid (HPK.out _ HJ.out.u (5+s) 1048576 (by omega) (by omega))
     have HNT:=Lib.hid (show nthM xs s=rowM ((1+n0:Nat):Int) (pick xs (5+s) 1048576) (cutsM xs).length by unfold nthM;rw [HMM.out.1])
     generalize pick xs (5+s) 1048576=n at *
     have HN:=Lib.hid e0
     have hm0:(0:Int)<1+(n0:Int):=by omega
     obtain ⟨wo,rfl⟩:∃ wo:World,wo=wr:=⟨_,rfl⟩
     clear HI HI2
     go_wp2_with ((with_reducible refine HP5.out.mono ?_);rintro e _ ⟨rfl,rfl⟩)
     go_loopw [8,9,10] (fun s8 s9 s10 wr3=>∃ (k2:Nat) (nn:Int),s9=.int .i64 nn∧s10=.int .i64 k2∧k2≤(cutsM xs).length∧0≤nn∧nn≤1048576∧Hid (nn=(rowM ((1+n0:Nat):Int) n k2).2∧OwW 3 1 k2 wo (.slice none 0 0) s8 (ints (rowM ((1+n0:Nat):Int) n k2).1) wr3)) (fun _ _ s10 _=>(cutsM xs).length - (intOf s10).toNat)
     case atStart=>exact ⟨0,n,rfl,rfl,Nat.zero_le _,e0,by omega,Lib.hid ⟨rfl,OwW.nil _ _ _⟩⟩
     case round=>
      obtain ⟨k2,nn,rfl,rfl,hk2,hn0,hn1,HR⟩:=hrel
      have HJ3:=Lib.hid (HJ.out.quiet HR.out.2.fresh)
      have q0:=HJ3.out.bx.cell (i:=0) rfl
      by_cases hk3:k2<(cutsM xs).length
      ·have hk3i:(k2:Int)<(cutsM xs).length:=by omega
       have hd0:0≤nn % (1+(n0:Int)):=Int.emod_nonneg _ (by omega)
       have hd1:nn % (1+(n0:Int))<1+(n0:Int):=Int.emod_lt_of_pos _ hm0
       have HK2:=Lib.hid (show k2≤4 by omega)
       go_wp2_with (refine wpList_push rfl rfl _ _ _ _ rfl rfl rfl 3 1 8 _ Tryz.underlying22 infoInt rfl (by decide) (by decide) (.int .i64 (nn % (1+(n0:Int)))) [.int .i64 (nn % (1+(n0:Int)))] rfl rfl rfl (by simp [Value.oneCell']) u8 _ _ HR.out.2.row rfl rfl (by have:=HK2.out;unfold maxLen;omega) (by have:=HK2.out;omega) ?_;intro g7 c7 w7 o7 u7 k7;have HW:=Lib.hid (HR.out.2.push o7 u7 k7);clear o7 u7 k7)
       refine ⟨⟨k2+1,nn / 7,by go_num,by go_num,by omega,by omega,by omega,Lib.hid ⟨?_,?_⟩⟩,by simp [intOf];omega⟩
       ·show _=(rowM ((1+n0:Nat):Int) n k2).2 / 7
        rw [←HR.out.1]
       ·have hw:=HW.out
        rw [show rowM ((1+n0:Nat):Int) n (k2+1)=((rowM ((1+n0:Nat):Int) n k2).1++[(rowM ((1+n0:Nat):Int) n k2).2 % ((1+n0:Nat):Int)],(rowM ((1+n0:Nat):Int) n k2).2 / 7) from rfl,←HR.out.1]
        simpa [ints] using hw
      ·have hke:k2=(cutsM xs).length:=by omega
       subst hke
       have hni3:¬ (((cutsM xs).length:Int)<(cutsM xs).length):=by omega
       have hrl:=(rowM_spec (m:=((1+n0:Nat):Int)) (by omega) HN.out (cutsM xs).length).1
       rw [←HNT.out] at hrl
       have HRW:=Lib.hid (show nn=(nthM xs s).2∧OwW 3 1 (nthM xs s).1.length wo (.slice none 0 0) u8 (ints (nthM xs s).1) wr by rw [hrl,HNT.out];exact HR.out)
       have HNX:=Lib.hid (show nextM xs (s+1)=nextM xs s++[(nthM xs s).1]∧accM xs (s+1)=accM xs s++[(nthM xs s).2 % 3 == 0]∧(nextM xs s).length=s∧(accM xs s).length=s by simp [nextM,accM,List.range_succ])
       obtain ⟨ra,rc,rfl,_⟩:=id HRW.out.2.form
       clear HR HNT hrl
       generalize nthM xs s=rw_ at *
       generalize nextM xs s=ns at *
       generalize accM xs s=bs at *
       obtain ⟨vals,hv1,hv2⟩:=id HJ3.out.tb.ex
       have HV:=Lib.hid (And.intro hv1 hv2)
       clear hv1 hv2
       have q1:=HJ3.out.bx.cell (i:=1) rfl
       have HSL:=Lib.hid (show s≤6 by omega)
       go_upto_region 19 with (refine wpList_push rfl rfl _ _ _ _ rfl rfl rfl 22 1 24 _ Tryz.underlying28 infoInts rfl (by decide) (by decide) (.slice ra rw_.1.length rc) [.slice ra rw_.1.length rc] rfl rfl rfl (by simp [Value.oneCell']) nv _ _ HV.out.1.row rfl rfl (by have:=HSL.out;have:=HNX.out.2.2.1;unfold maxLen;omega) (by have:=HSL.out;have:=HNX.out.2.2.1;omega) ?_;intro g7 c7 w7 o7 u7 k7;have bx7:=HJ3.out.bx.upd u7 (fun hm=>HJ3.out.nn.2.1 (by simpa using hm));have p1:=bx7.cell (i:=1) rfl;have pf:∀ q,w7.frozen? ⟨ab,q,none⟩=false:=bx7.free;have HO7:=Lib.hid (And.intro o7 (And.intro u7 k7));clear o7 u7 k7 bx7)
       have HM2:=Lib.hid (HJ3.out.row HV.out.1 HV.out.2 HRW.out.2.sl (fun b hb=>by
        have hz:=HJ.out.u.size
        rcases HRW.out.2.old b hb with h|h
        ·simp [Value.ownBlock] at h
        ·refine ⟨by omega,fun e=>?_,fun e=>?_,fun e=>?_,HRW.out.2.lt hb⟩
         ·have:=HJ.out.bx.lt;omega
         ·have:=(HJ.out.nv_new _ e).2;omega
         ·have:=(HJ.out.ac.lt _ e).2;omega) HO7.out.1 HO7.out.2.1 HO7.out.2.2)
       generalize (w7.setCell ⟨ab,1,none⟩ (.slice (some ⟨g7,0,none⟩) (ns.length+1) c7))=w8 at *
       clear p1 pf q1
       have q2:=HM2.out.bx.cell (i:=2) rfl
       go_upto_region 10 with (refine wpList_push rfl rfl _ _ _ _ rfl rfl rfl 4 1 1 _ Tryz.underlying29 infoBool rfl (by decide) (by decide) (.bool (nn % 3 == 0)) [.bool (nn % 3 == 0)] rfl rfl rfl (by simp [Value.oneCell']) av _ _ HM2.out.ac rfl rfl (by have:=HSL.out;have:=HNX.out.2.2.2;unfold maxLen;omega) (by have:=HSL.out;have:=HNX.out.2.2.2;omega) ?_;intro g9 c9 w9 o9 u9 k9;have bx9:=HM2.out.bx.upd u9 (fun hm=>(HM2.out.an ab (by simpa using hm)).2.1 rfl);have p2:=bx9.cell (i:=2) rfl;have pf:∀ q,w9.frozen? ⟨ab,q,none⟩=false:=bx9.free;have HO9:=Lib.hid (And.intro o9 (And.intro u9 k9));clear o9 u9 k9 bx9)
       have HM3:=Lib.hid (HM2.out.flag HO9.out.1 HO9.out.2.1 HO9.out.2.2)
       clear p2 pf q2
       go_wp2_with fail
       refine ⟨⟨s+1,.slice (some ⟨g7,0,none⟩) (ns.length+1) c7,.slice (some ⟨g9,0,none⟩) (bs.length+1) c9,F++(Value.slice ra rw_.1.length rc).ownBlock.toList,by go_num,by omega,Lib.hid (by rw [HNX.out.1,HNX.out.2.1,←HRW.out.1];exact HM3.out)⟩,by simp [intOf];omega⟩
    ·have hse:s=1+n0:=by omega
     subst hse
     have hni2:¬ (((1+n0:Nat):Int)<1+(n0:Int)):=by omega
     have HMA:=Lib.hid (show madeA xs=⟨cutsM xs,nextM xs (1+n0),accM xs (1+n0)⟩ by unfold madeA;rw [HMM.out.1];rfl)
     obtain ⟨a2',c2',rfl,_⟩:=id HJ.out.tb.cl.form
     obtain ⟨a3',c3',rfl,_⟩:=id (SL.of_owns HJ.out.ac).elems
     have q0:=HJ.out.bx.cell (i:=0) rfl
     have q1:=HJ.out.bx.cell (i:=1) rfl
     have q2:=HJ.out.bx.cell (i:=2) rfl
     have bR:=HB.out.1.upd HJ.out.u (by simp)
     have r0:=bR.cell (i:=0) rfl
     have r1:=bR.cell (i:=1) rfl
     have r2:=bR.cell (i:=2) rfl
     have rf:∀ q,wr.frozen? ⟨rb,q,none⟩=false:=bR.free
     have HBR:=Lib.hid bR
     clear bR
     go_wp2_with fail
     have hs3:=cell3_set (a:=.slice cva (cutsM xs).length cvc) (b:=.slice a2' (nextM xs (1+n0)).length c2') (c:=.slice a3' (accM xs (1+n0)).length c3') HBR.out
     have hlt1:=HRB.out.1
     rw [HMA.out]
     refine ret_plain rfl rfl hs3.1 rfl ⟨_,_,_,rfl,?_,?_,?_⟩ ((HB.out.2.step HJ.out.u).fresh hs3.2 (fun b hb=>.inr (by simp at hb;subst hb;exact HRQ.out)))
     ·exact HJ.out.cu.upd hs3.2 (fun b hb hv=>by simp at hb;subst hb;have:=(HJ.out.cn _ hv).1;omega)
     ·exact (HJ.out.tb.upd hs3.2 (fun b hb=>by
       simp at hb;subst hb
       refine ⟨fun hf=>?_,fun hv=>?_⟩
       ·have:=HJ.out.fn _ hf;omega
       ·have:=(HJ.out.nv_new _ hv).1;omega)).cl
     ·exact SL.of_owns (ownsRow_updL HJ.out.ac hs3.2 (fun b hb hv=>by simp at hb;subst hb;have:=(HJ.out.an _ hv).1;omega))
end
end Aut
end Go.Proofs.YtjclbjdkkdijbaaGreat
end
