/- Walks through the reference of automata: put, Pick. Conditions: none. An automaton under construction in memory: cuts, rows, truth values. Conditions: none. -/
import Derived.Test.YtjclbjdkkdijbaaGreatSame
import Derived.Test.YtjclbjdkkdijbaaGreatOwn
import Derived.Test.YtjclbjdkkdijbaaGreatLists
import Derived.Test.YtjclbjdkkdijbaaGreatAutoP
import Derived.Test.YtjclbjdkkdijbaaGreatAuM
import Derived.Test.YtjclbjdkkdijbaaGreatAuF
set_option linter.unusedVariables false
set_option linter.unusedSimpArgs false
set_option linter.unusedSectionVars false
section
open Go.RowKit
namespace Go.Proofs.YtjclbjdkkdijbaaGreat
open L
namespace Auto
theorem putC_at:∀ {l:List Int} {n:Int} {k:Nat},k≤l.length→(∀ j,j<k→l.getD j 0<n)→(k<l.length→¬ l.getD k 0<n)→putC l n=if l[k]?=some n then l else l.take k++n::l.drop k
 | [],n,k,hk,_,_=>by
  have:k=0:=by simpa using hk
  subst this
  simp [putC]
 | x::l,n,0,_,_,h2=>by
  have h:=h2 (by simp)
  simp at h
  unfold putC
  rw [if_neg (by omega)]
  by_cases hx:x=n
  ·simp [hx]
  ·simp [hx]
 | x::l,n,k+1,hk,h1,h2=>by
  have h0:=h1 0 (by omega)
  simp at h0
  have ih:=putC_at (l:=l) (n:=n) (k:=k) (by simpa using hk) (fun j hj=>by simpa using h1 (j+1) (by omega)) (fun hl=>by simpa using h2 (by simpa using hl))
  unfold putC
  rw [if_pos h0,ih]
  by_cases hx:l[k]?=some n
  ·simp [hx]
  ·simp [hx]
theorem putC_length (l:List Int) (n:Int):(putC l n).length≤l.length+1:=by
 induction l with
 | nil=>simp [putC]
 | cons x l ih=>
  unfold putC
  split
  ·simpa using ih
  ·split <;> simp
end Auto
namespace Aut
open Auto R01 R14
attribute [-go_sem] sliced
theorem ints_gd {l:List Int} {k:Nat} (h:k<l.length):(ints l)[k]?=some (.int .i64 (l.getD k 0)):=ints_get (gd_some (d:=0) h)
def pick (xs:List Int) (i m:Int):Int:=if i<0∨xs.length≤i then 0 else around (xs.getD i.toNat 0) m
section
variable {w:World}
def SlF (l:List Int) (v0:Value) (w:World) (e:Ending) (w':World):Prop:=∃ v,e=.returned v∧SL w' 1 v l.length (ints l)∧Upd [] w w'∧∀ g,v.ownBlock=some g→v0.ownBlock=some g∨w.heap.size≤g
theorem Pick_calls {v:Value} {xs:List Int} (hx:∀ x∈xs,IsI64 x) (h:SL w 1 v xs.length (ints xs)) (i m:Int) (hm:1≤m) (hm2:m≤9223372036854775807) :
 Calls Tryz.prog 79 #[v,.int .i64 i,.int .i64 m] w fun e w'=>e=.returned (.int .i64 (pick xs i m))∧w=w':=by
 obtain ⟨a,cap,rfl,q1,r1,hc⟩:=SL.elems h
 have HC:=Lib.hid (And.intro hc hx)
 clear hc h hx
 by_cases h0:i<0
 ·have HP:=Lib.hid (show pick xs i m=0 by unfold pick;rw [if_pos (.inl h0)])
  go_enter Tryz.func79,Tryz.ntmps79
  go_wp2_with fail
  go_ret
  exact ⟨ret_int HP.out.symm,rfl⟩
 ·by_cases h1:(xs.length:Int)≤i
  ·have HP:=Lib.hid (show pick xs i m=0 by unfold pick;rw [if_pos (.inr h1)])
   go_enter Tryz.func79,Tryz.ntmps79
   go_wp2_with fail
   go_ret
   exact ⟨ret_int HP.out.symm,rfl⟩
  ·have hlt:i.toNat<xs.length:=by omega
   obtain ⟨g,off,rfl,k1⟩:=HC.out.1 (by omega)
   have e1:=k1 _ _ (ints_gd hlt)
   have hxi:=HC.out.2 _ (gd_memA (d:=0) hlt)
   have HP:=Lib.hid (show pick xs i m=around (xs.getD i.toNat 0) m by unfold pick;rw [if_neg (by omega)])
   clear k1
   generalize xs.getD i.toNat 0=x at *
   go_enter Tryz.func79,Tryz.ntmps79
   go_wp2_with (go_at_call 23;refine (Around_calls x m _ hxi hm hm2).mono ?_;rintro e w' ⟨rfl,rfl⟩)
   go_ret
   exact ⟨ret_int HP.out.symm,rfl⟩
set_option maxRecDepth 100000 in
set_option maxHeartbeats 4000000 in
theorem Put_callsF {v:Value} {l:List Int} (h:SL w 1 v l.length (ints l)) (hl:l.length≤1000000) (n:Int):Calls Tryz.prog 78 #[v,.int .i64 n] w (SlF (putC l n) v w):=by
 obtain ⟨a,cap,rfl,q1,r1,hc⟩:=SL.elems h
 have HC:=Lib.hid (And.intro hc h)
 clear hc h
 go_enter Tryz.func78,Tryz.ntmps78
 go_wp2_with fail
 go_loop [5] (fun i=>∃ k:Nat,k≤l.length∧i=.int .i64 k∧∀ j,j<k→l.getD j 0<n) (fun i=>l.length - (intOf i).toNat)
 case atStart=>exact ⟨0,Nat.zero_le _,rfl,by intro j hj;omega⟩
 case round=>
  obtain ⟨k,hk,rfl,hlo⟩:=hrel
  have HLO:=Lib.hid hlo
  clear hlo
  by_cases hlt:k<l.length
  ·obtain ⟨g,off,rfl,k1⟩:=HC.out.1 (by omega)
   have e1:=k1 k _ (ints_gd hlt)
   clear k1
   generalize hgx:l.getD k 0=x at *
   have HG:=Lib.hid hgx
   clear hgx
   by_cases hx:x<n
   ·go_wp2_with fail
    refine ⟨⟨k+1,by omega,by go_num,fun j hj=>?_⟩,by simp [intOf];omega⟩
    rcases Nat.lt_or_ge j k with h|h
    ·exact HLO.out j h
    ·obtain rfl:j=k:=by omega
     rw [HG.out];exact hx
   ·have HP:=Lib.hid (putC_at hk HLO.out (fun _=>by rw [HG.out];exact hx))
    by_cases hxn:x=n
    ·subst hxn
     have HE:=Lib.hid (show putC l x=l by rw [HP.out,gd_some (d:=0) hlt,HG.out];simp)
     go_wp2_with fail
     go_ret
     rw [HE.out]
     exact ⟨_,rfl,HC.out.2,Upd.refl _ _,fun g hg=>.inl hg⟩
    ·have HE:=Lib.hid (show putC l n=l.take k++n::l.drop k by rw [HP.out,gd_some (d:=0) hlt,HG.out,if_neg (by simpa using hxn)])
     have hb:(x == n)=false:=by simpa using hxn
     clear hxn
     go_upto_region 7 with fail
     refine wp_region_lit ?_
     refine wpList_cutH 4 (fun K hK=>?_)
     simp only [List.take_succ_cons,List.take_zero]
     go_wp2_with fail
     refine Halt_.intro ?_;try simp only [List.drop_succ_cons,List.drop_zero]
     refine wpList_appS rfl _ _ _ rfl 3 1 8 _ Tryz.underlying22 infoInt rfl (by decide) (.slice none 0 0) 0 [] rfl (Own.nil w).row _ _ _ rfl (SL.upto HC.out.2 hk) (ints_one _) (by unfold maxLen;omega) (by omega) ?_
     intro a1 cap1 w1 o1 u1 k1
     simp only [Act.put,List.setIfInBounds_toArray,List.set_cons_zero,List.set_cons_succ]
     have N1:Own w (.slice a1 (l.take k).length cap1) (l.take k) w1:=by
      have e:(l.take k).length=0+k:=by rw [List.length_take];omega
      rw [e]
      exact ⟨by rw [e];exact o1,fun g hg=>by rcases k1 with k1|k1 <;> rw [hg] at k1 <;> simp [Value.ownBlock] at k1;omega,u1⟩
     have e1l:0+k=(l.take k).length:=by rw [List.length_take];omega
     rw [e1l]
     have HN1:=Lib.hid N1
     clear o1 u1 k1 N1 e1l
     go_upto_region 8 with fail
     refine wp_region_lit ?_
     refine wpList_cutH 2 (fun K hK=>?_)
     simp only [List.take_succ_cons,List.take_zero]
     go_wp2_with fail
     refine Halt_.intro ?_;try simp only [List.drop_succ_cons,List.drop_zero]
     refine wpList_push rfl rfl _ _ _ _ rfl rfl rfl 3 1 8 _ Tryz.underlying22 infoInt rfl (by decide) (by decide) (.int .i64 n) [.int .i64 n] rfl rfl rfl (ints_one [n]) _ _ _ HN1.out.row rfl rfl (by unfold maxLen;rw [List.length_take];omega) (by rw [List.length_take];omega) ?_
     intro g2 cap2 w2 o2 u2 k2
     simp only [Act.put,List.setIfInBounds_toArray,List.set_cons_zero,List.set_cons_succ]
     have HN2:=Lib.hid (HN1.out.push o2 u2 k2)
     clear o2 u2 k2
     go_upto_region 9 with fail
     refine wp_region_lit ?_
     refine wpList_cutH 4 (fun K hK=>?_)
     simp only [List.take_succ_cons,List.take_zero]
     go_wp2_with fail
     refine Halt_.intro ?_;try simp only [List.drop_succ_cons,List.drop_zero]
     have hsz:((l.take k).length+1)+(l.length-k)≤1000001:=by rw [List.length_take];omega
     have hrow:=HN2.out.row
     rw [show (l.take k++[n]).length=(l.take k).length+1 by simp] at hrow
     refine wpList_appS rfl _ _ _ rfl 3 1 8 _ Tryz.underlying22 infoInt rfl (by decide) (.slice (some ⟨g2,0,none⟩) ((l.take k).length+1) cap2) _ _ rfl hrow _ _ _ rfl ((SL.from_ HC.out.2 hk).upd HN2.out.u (by simp)) (fun u hu=>ints_one _ u (List.mem_of_mem_drop hu)) (by unfold maxLen;omega) (by omega) ?_
     intro a3 cap3 w3 o3 u3 k3
     simp only [Act.put,List.setIfInBounds_toArray,List.set_cons_zero,List.set_cons_succ]
     have e3:ints (l.take k++[n])++(ints l).drop k=ints (putC l n):=by rw [HE.out];simp [ints,List.map_drop]
     have l3:(l.take k).length+1+(l.length-k)=(putC l n).length:=by rw [HE.out];simp;omega
     have S3:=SL.of_owns o3
     rw [e3,l3] at S3
     have U3:=HN2.out.u.fresh u3 (fun j hj=>.inr (HN2.out.fresh j (by simpa using hj)))
     have K3:∀ g,(Value.slice a3 ((l.take k).length+1+(l.length-k)) cap3).ownBlock=some g→w.heap.size≤g:=fun g hg=>by
      rcases k3 with k3|k3 <;> rw [hg] at k3
      ·exact HN2.out.fresh g k3.symm
      ·have:=HN2.out.u.size;simp only [Option.some.injEq] at k3;omega
     rw [l3] at K3
     have HS:=Lib.hid (And.intro S3 (And.intro U3 K3))
     rw [l3]
     clear o3 u3 k3 hrow S3 U3 e3 hsz l3 K3
     go_wp2_with fail
     go_ret
     exact ⟨_,rfl,HS.out.1,HS.out.2.1,fun g hg=>.inr (HS.out.2.2 g hg)⟩
  ·have HP:=Lib.hid (putC_at hk HLO.out (fun h=>absurd h hlt))
   have HE:=Lib.hid (show putC l n=l.take k++n::l.drop k by rw [HP.out,List.getElem?_eq_none (by omega),if_neg (by simp)])
   go_upto_region 7 with fail
   refine wp_region_lit ?_
   refine wpList_cutH 4 (fun K hK=>?_)
   simp only [List.take_succ_cons,List.take_zero]
   go_wp2_with fail
   refine Halt_.intro ?_;try simp only [List.drop_succ_cons,List.drop_zero]
   refine wpList_appS rfl _ _ _ rfl 3 1 8 _ Tryz.underlying22 infoInt rfl (by decide) (.slice none 0 0) 0 [] rfl (Own.nil w).row _ _ _ rfl (SL.upto HC.out.2 hk) (ints_one _) (by unfold maxLen;omega) (by omega) ?_
   intro a1 cap1 w1 o1 u1 k1
   simp only [Act.put,List.setIfInBounds_toArray,List.set_cons_zero,List.set_cons_succ]
   have N1:Own w (.slice a1 (l.take k).length cap1) (l.take k) w1:=by
    have e:(l.take k).length=0+k:=by rw [List.length_take];omega
    rw [e]
    exact ⟨by rw [e];exact o1,fun g hg=>by rcases k1 with k1|k1 <;> rw [hg] at k1 <;> simp [Value.ownBlock] at k1;omega,u1⟩
   have e1l:0+k=(l.take k).length:=by rw [List.length_take];omega
   rw [e1l]
   have HN1:=Lib.hid N1
   clear o1 u1 k1 N1 e1l
   go_upto_region 8 with fail
   refine wp_region_lit ?_
   refine wpList_cutH 2 (fun K hK=>?_)
   simp only [List.take_succ_cons,List.take_zero]
   go_wp2_with fail
   refine Halt_.intro ?_;try simp only [List.drop_succ_cons,List.drop_zero]
   refine wpList_push rfl rfl _ _ _ _ rfl rfl rfl 3 1 8 _ Tryz.underlying22 infoInt rfl (by decide) (by decide) (.int .i64 n) [.int .i64 n] rfl rfl rfl (ints_one [n]) _ _ _ HN1.out.row rfl rfl (by unfold maxLen;rw [List.length_take];omega) (by rw [List.length_take];omega) ?_
   intro g2 cap2 w2 o2 u2 k2
   simp only [Act.put,List.setIfInBounds_toArray,List.set_cons_zero,List.set_cons_succ]
   have HN2:=Lib.hid (HN1.out.push o2 u2 k2)
   clear o2 u2 k2
   go_upto_region 9 with fail
   refine wp_region_lit ?_
   refine wpList_cutH 4 (fun K hK=>?_)
   simp only [List.take_succ_cons,List.take_zero]
   go_wp2_with fail
   refine Halt_.intro ?_;try simp only [List.drop_succ_cons,List.drop_zero]
   have hsz:((l.take k).length+1)+(l.length-k)≤1000001:=by rw [List.length_take];omega
   have hrow:=HN2.out.row
   rw [show (l.take k++[n]).length=(l.take k).length+1 by simp] at hrow
   refine wpList_appS rfl _ _ _ rfl 3 1 8 _ Tryz.underlying22 infoInt rfl (by decide) (.slice (some ⟨g2,0,none⟩) ((l.take k).length+1) cap2) _ _ rfl hrow _ _ _ rfl ((SL.from_ HC.out.2 hk).upd HN2.out.u (by simp)) (fun u hu=>ints_one _ u (List.mem_of_mem_drop hu)) (by unfold maxLen;omega) (by omega) ?_
   intro a3 cap3 w3 o3 u3 k3
   simp only [Act.put,List.setIfInBounds_toArray,List.set_cons_zero,List.set_cons_succ]
   have e3:ints (l.take k++[n])++(ints l).drop k=ints (putC l n):=by rw [HE.out];simp [ints,List.map_drop]
   have l3:(l.take k).length+1+(l.length-k)=(putC l n).length:=by rw [HE.out];simp;omega
   have S3:=SL.of_owns o3
   rw [e3,l3] at S3
   have U3:=HN2.out.u.fresh u3 (fun j hj=>.inr (HN2.out.fresh j (by simpa using hj)))
   have K3:∀ g,(Value.slice a3 ((l.take k).length+1+(l.length-k)) cap3).ownBlock=some g→w.heap.size≤g:=fun g hg=>by
    rcases k3 with k3|k3 <;> rw [hg] at k3
    ·exact HN2.out.fresh g k3.symm
    ·have:=HN2.out.u.size;simp only [Option.some.injEq] at k3;omega
   rw [l3] at K3
   have HS:=Lib.hid (And.intro S3 (And.intro U3 K3))
   rw [l3]
   clear o3 u3 k3 hrow S3 U3 e3 hsz l3 K3
   go_wp2_with fail
   go_ret
   exact ⟨_,rfl,HS.out.1,HS.out.2.1,fun g hg=>.inr (HS.out.2.2 g hg)⟩
end
end Aut
end Go.Proofs.YtjclbjdkkdijbaaGreat
end
section
open Go.RowKit
namespace Go.Proofs.YtjclbjdkkdijbaaGreat
open L
namespace Aut
open Auto R01
attribute [-go_sem] sliced
structure Mk (T:TypeId) (w0:World) (ab:Nat) (cv nv av:Value) (cs:List Int) (ns:List (List Int)) (bs:List Bool) (F:List Nat) (w:World):Prop where
 bx:Blk w ab [cv,nv,av] T
 cu:SL w 1 cv cs.length (ints cs)
 cn:∀ q,cv.ownBlock=some q→w0.heap.size≤q∧q≠ab∧nv.ownBlock≠some q∧av.ownBlock≠some q
 tb:OwnL 22 w0 nv ns F w
 ac:w.ownsRow 0 4 1 av bs.length (bools bs)
 an:∀ q,av.ownBlock=some q→w0.heap.size≤q∧q≠ab∧q ∉ F∧nv.ownBlock≠some q
 nn:ab ∉ F∧nv.ownBlock≠some ab∧w0.heap.size≤ab
 u:Upd [] w0 w
 fn:∀ b∈F,w0.heap.size≤b
 cl:∀ q,cv.ownBlock=some q→q<w.heap.size
section
variable {T:TypeId} {w0 w w' w1:World} {ab g cap:Nat} {cv nv av:Value} {cs:List Int} {ns:List (List Int)} {bs:List Bool} {F:List Nat}
theorem Mk.quiet (h:Mk T w0 ab cv nv av cs ns bs F w) (hu:Upd [] w w'):Mk T w0 ab cv nv av cs ns bs F w':=
 ⟨h.bx.upd hu (by simp),h.cu.upd hu (by simp),h.cn,h.tb.upd hu (by simp),ownsRow_updL h.ac hu (by simp),h.an,h.nn,h.u.step hu,h.fn,fun q hq=>Nat.lt_of_lt_of_le (h.cl q hq) hu.size⟩
theorem Mk.nv_new (h:Mk T w0 ab cv nv av cs ns bs F w):∀ q,nv.ownBlock=some q→w0.heap.size≤q∧q<w.heap.size:=fun q hq=>by
 obtain ⟨vals,h1,_⟩:=h.tb.ex
 exact ⟨h1.fresh _ hq,h1.lt _ hq⟩
theorem Mk.cuts {cv':Value} {cs':List Int} (h:Mk T w0 ab cv nv av cs ns bs F w) (hs:SL w 1 cv' cs'.length (ints cs')) (hn:∀ q,cv'.ownBlock=some q→w0.heap.size≤q∧q≠ab∧nv.ownBlock≠some q∧av.ownBlock≠some q∧q<w.heap.size) :
 Mk T w0 ab cv' nv av cs' ns bs F (w.setCell ⟨ab,0,none⟩ cv'):=by
 have us:Upd [ab] w (w.setCell ⟨ab,0,none⟩ cv'):=(Upd.refl [ab] w).set (p:=⟨ab,0,none⟩) (by simp) _
 refine ⟨h.bx.set 0 _,hs.upd us (fun b hb hv=>?_),fun q hq=>?_,h.tb.upd us (fun b hb=>?_),ownsRow_updL h.ac us (fun b hb hv=>?_),h.an,h.nn,h.u.fresh us (fun b hb=>.inr ?_),h.fn,fun q hq=>?_⟩
 ·simp at hb;subst hb;exact (hn _ hv).2.1 rfl
 ·obtain ⟨h1,h2,h3,h4,_⟩:=hn q hq;exact ⟨h1,h2,h3,h4⟩
 ·simp at hb;subst hb;exact ⟨h.nn.1,h.nn.2.1⟩
 ·simp at hb;subst hb;exact (h.an _ hv).2.1 rfl
 ·simp at hb;subst hb;exact h.nn.2.2
 ·exact Nat.lt_of_lt_of_le (hn q hq).2.2.2.2 us.size
theorem Mk.row {y:Value} {row:List Int} {vals:List Value} (h:Mk T w0 ab cv nv av cs ns bs F w) (h1:OwnV w0 22 1 nv ns.length vals w) (h2:∀ (i:Nat) (c:List Int),ns[i]?=some c→∃ y,vals[i]?=some y∧SL w 1 y c.length (ints c)∧∀ b,y.ownBlock=some b→b∈F)
 (hy:SL w 1 y row.length (ints row)) (hyn:∀ b,y.ownBlock=some b→w0.heap.size≤b∧b≠ab∧nv.ownBlock≠some b∧av.ownBlock≠some b∧b<w.heap.size)
 (o:w1.ownsRow 0 22 1 (.slice (some ⟨g,0,none⟩) (ns.length+1) cap) (ns.length+1) (vals++[y])) (hu:Upd nv.ownBlock.toList w w1) (hk:nv.ownBlock=some g∨w.heap.size≤g) :
 Mk T w0 ab cv (.slice (some ⟨g,0,none⟩) (ns.length+1) cap) av cs (ns++[row]) bs (F++y.ownBlock.toList) (w1.setCell ⟨ab,1,none⟩ (.slice (some ⟨g,0,none⟩) (ns.length+1) cap)):=by
 have htb:=h.tb.push h1 h2 h.u.size (c:=row) (y:=y) hy (fun b hb=>⟨(hyn b hb).2.2.1,(hyn b hb).2.2.2.2⟩) o hu hk
 have us:Upd [ab] w1 (w1.setCell ⟨ab,1,none⟩ (.slice (some ⟨g,0,none⟩) (ns.length+1) cap)):=(Upd.refl [ab] w1).set (p:=⟨ab,1,none⟩) (by simp) _
 have hab:=h.bx.lt
 have hgab:g≠ab:=fun e=>by
  rcases hk with h3|h3
  ·exact h.nn.2.1 (e ▸ h3)
  ·omega
 have hbx:Blk w1 ab [cv,nv,av] T:=h.bx.upd hu (fun hm=>h.nn.2.1 (by simpa using hm))
 have hnF:∀ b,b ∉ F→y.ownBlock≠some b→b ∉ F++y.ownBlock.toList:=fun b h3 h4 hm=>by
  rcases List.mem_append.1 hm with h5|h5
  ·exact h3 h5
  ·exact h4 (by simpa using h5)
 refine ⟨hbx.set 1 _,(h.cu.upd hu (fun b hb hv=>(h.cn _ hv).2.2.1 (by simpa using hb))).upd us (fun b hb hv=>?_),fun q hq=>?_,htb.upd us (fun b hb=>?_),ownsRow_updL (ownsRow_updL h.ac hu (fun b hb hv=>(h.an _ hv).2.2.2 (by simpa using hb))) us (fun b hb hv=>?_),fun q hq=>?_,⟨?_,?_,h.nn.2.2⟩,?_,fun b hb=>?_,fun q hq=>?_⟩
 ·simp at hb;subst hb;exact (h.cn _ hv).2.1 rfl
 ·obtain ⟨a1,a2,a3,a4⟩:=h.cn q hq
  refine ⟨a1,a2,fun he=>?_,a4⟩
  simp [Value.ownBlock] at he;subst he
  rcases hk with h3|h3
  ·exact a3 h3
  ·have:=h.cl _ hq;omega
 ·simp at hb;subst hb
  exact ⟨hnF _ h.nn.1 (fun e=>(hyn _ e).2.1 rfl),fun hv=>hgab (by simpa [Value.ownBlock] using hv)⟩
 ·simp at hb;subst hb;exact (h.an _ hv).2.1 rfl
 ·obtain ⟨a1,a2,a3,a4⟩:=h.an q hq
  have hql:=(h.ac.lt q hq).2
  refine ⟨a1,a2,hnF _ a3 (fun e=>(hyn _ e).2.2.2.1 hq),fun he=>?_⟩
  simp [Value.ownBlock] at he;subst he
  rcases hk with h3|h3
  ·exact a4 h3
  ·omega
 ·exact hnF _ h.nn.1 (fun e=>(hyn _ e).2.1 rfl)
 ·exact fun hv=>hgab (by simpa [Value.ownBlock] using hv)
 ·exact (h.u.fresh hu (fun b hb=>.inr (h1.fresh _ (by simpa using hb)))).fresh us (fun b hb=>.inr (by simp at hb;subst hb;exact h.nn.2.2))
 ·rcases List.mem_append.1 hb with h3|h3
  ·exact h.fn _ h3
  ·exact (hyn b (by simpa using h3)).1
 ·have:=h.cl q hq;have:=hu.size;have:=us.size;omega
theorem Mk.flag {x:Bool} (h:Mk T w0 ab cv nv av cs ns bs F w)
 (o:w1.ownsRow 0 4 1 (.slice (some ⟨g,0,none⟩) (bs.length+1) cap) (bs.length+1) (bools bs++[.bool x])) (hu:Upd av.ownBlock.toList w w1) (hk:av.ownBlock=some g∨w.heap.size≤g) :
 Mk T w0 ab cv nv (.slice (some ⟨g,0,none⟩) (bs.length+1) cap) cs ns (bs++[x]) F (w1.setCell ⟨ab,2,none⟩ (.slice (some ⟨g,0,none⟩) (bs.length+1) cap)):=by
 have us:Upd [ab] w1 (w1.setCell ⟨ab,2,none⟩ (.slice (some ⟨g,0,none⟩) (bs.length+1) cap)):=(Upd.refl [ab] w1).set (p:=⟨ab,2,none⟩) (by simp) _
 have hab:=h.bx.lt
 have hgab:g≠ab:=fun e=>by
  rcases hk with h3|h3
  ·exact (h.an _ h3).2.1 e
  ·omega
 have hbx:Blk w1 ab [cv,nv,av] T:=h.bx.upd hu (fun hm=>(h.an ab (by simpa using hm)).2.1 rfl)
 have hz:=h.u.size
 refine ⟨hbx.set 2 _,(h.cu.upd hu (fun b hb hv=>(h.cn _ hv).2.2.2 (by simpa using hb))).upd us (fun b hb hv=>?_),fun q hq=>?_,(h.tb.upd hu (fun b hb=>?_)).upd us (fun b hb=>?_),ownsRow_updL (by rw [show (bs++[x]).length=bs.length+1 by simp,show bools (bs++[x])=bools bs++[.bool x] by simp [bools]];exact o) us (fun b hb hv=>?_),fun q hq=>?_,h.nn,?_,h.fn,fun q hq=>?_⟩
 ·simp at hb;subst hb;exact (h.cn _ hv).2.1 rfl
 ·obtain ⟨a1,a2,a3,a4⟩:=h.cn q hq
  refine ⟨a1,a2,a3,fun he=>?_⟩
  simp [Value.ownBlock] at he;subst he
  rcases hk with h3|h3
  ·exact a4 h3
  ·have:=h.cl _ hq;omega
 ·have:=h.an b (by simpa using hb)
  exact ⟨this.2.2.1,this.2.2.2⟩
 ·simp at hb;subst hb;exact ⟨h.nn.1,h.nn.2.1⟩
 ·simp at hb;subst hb;simp [Value.ownBlock] at hv;exact hgab hv
 ·simp only [Value.ownBlock,Option.some.injEq] at hq
  subst hq
  rcases hk with h3|h3
  ·exact h.an _ h3
  ·refine ⟨by omega,hgab,fun hf=>?_,fun hv=>?_⟩
   ·have:=h.tb.lt _ hf;omega
   ·have:=(h.nv_new _ hv).2;omega
 ·exact (h.u.fresh hu (fun b hb=>.inr (h.an b (by simpa using hb)).1)).fresh us (fun b hb=>.inr (by simp at hb;subst hb;exact h.nn.2.2))
 ·have:=h.cl q hq;have:=hu.size;have:=us.size;omega
theorem Mk.start (w1:World):Mk 39 w1 (w1.heap.size+1) (.slice (some ⟨w1.heap.size,0,none⟩) 1 1) (.slice none 0 0) (.slice none 0 0) [0] [] [] []
 ((w1.alloc (.cells #[.int .i64 0] 3)).alloc (.cells #[.slice (some ⟨w1.heap.size,0,none⟩) 1 1,.slice none 0 0,.slice none 0 0] 39)):=by
 have b0:=(Blk.new w1 [.int .i64 0] 3).alloc (.cells #[.slice (some ⟨w1.heap.size,0,none⟩) 1 1,.slice none 0 0,.slice none 0 0] 39)
 have b1:=Blk.new (w1.alloc (.cells #[.int .i64 0] 3)) [.slice (some ⟨w1.heap.size,0,none⟩) 1 1,.slice none 0 0,.slice none 0 0] 39
 have z1:(w1.alloc (.cells #[.int .i64 0] 3)).heap.size=w1.heap.size+1:=by simp
 rw [z1] at b1
 refine ⟨b1,SL.of_blk (pad:=[]) (k:=1) (n:=1) (cap:=1) (xs:=ints [0]) b0 rfl (Nat.le_refl _) (by decide),fun q hq=>?_,OwnL.nil _ _ _,World.ownsRow_nil _ _ _ _,fun q hq=>by simp [Value.ownBlock] at hq,⟨by simp,by simp [Value.ownBlock],by omega⟩,((Upd.refl [] w1).alloc _).alloc _,by simp,fun q hq=>?_⟩
 ·simp only [Value.ownBlock,Option.some.injEq] at hq
  subst hq
  exact ⟨Nat.le_refl _,by omega,by simp [Value.ownBlock],by simp [Value.ownBlock]⟩
 ·simp only [Value.ownBlock,Option.some.injEq] at hq
  subst hq
  simp
  omega
end
end Aut
end Go.Proofs.YtjclbjdkkdijbaaGreat
end
