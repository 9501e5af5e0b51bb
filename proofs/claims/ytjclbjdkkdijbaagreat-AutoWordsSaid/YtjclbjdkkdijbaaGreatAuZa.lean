/- Walks through package auto: cutsOf. Conditions: none. Walks through package auto: sorted (sorting and compacting by the library's contracts). Conditions: none. Walks through package auto: keyOf. Conditions: none. Walks through package auto: the closures of Of. Conditions: none. -/
import Derived.Test.YtjclbjdkkdijbaaGreatRxK
import Derived.Test.YtjclbjdkkdijbaaGreatRxZa
import Derived.Test.YtjclbjdkkdijbaaGreatAuM
import Derived.Test.YtjclbjdkkdijbaaGreatAutoP
import Derived.Test.YtjclbjdkkdijbaaGreatShelf
import Derived.Test.YtjclbjdkkdijbaaGreatBstr
import Derived.Test.YtjclbjdkkdijbaaGreatRxU
import Derived.Test.YtjclbjdkkdijbaaGreatLists
set_option linter.unusedVariables false
set_option linter.unusedSimpArgs false
set_option linter.unusedSectionVars false
section
open Go.RowKit
namespace Go.Proofs.YtjclbjdkkdijbaaGreat
open L
namespace Aut
open Rgx Rx
theorem cutB_eq (r:Rx):cutB r=(if r.kind=2 then r.lo::(if r.hi<255 then [r.hi+1] else []) else [])++cutL r.kids:=by
 obtain ⟨k,lo,hi,ks⟩:=r
 rw [cutB];rfl
theorem cutL_take {ks:List Rx} {m:Nat} {s:Rx} (h:ks[m]?=some s):cutL (ks.take (m+1))=cutL (ks.take m)++cutB s:=by
 rw [List.take_add_one,h,cutL_app];simp [cutL]
theorem cutL_len:∀ l:List Rx,(cutL l).length≤2*nodesL l
 | []=>by simp [cutL]
 | r::l=>by rw [cutL,nodesL,List.length_append];have:=cutB_len r;have:=cutL_len l;omega
section
variable {M:List Nat}
set_option maxRecDepth 100000 in
set_option maxHeartbeats 8000000 in
theorem cutsOf_calls:∀ (r:Rx) {w:World} {v u:Value} {xs:List Int} {M:List Nat},w.ownsRow 0 3 1 v xs.length (ints xs)→RxV M w r u→(∀ b,v.ownBlock=some b→b∈M)→xs.length+2*nodes r≤1000000 →
 Calls Tryz.prog 46 #[v,u] w fun e w'=>∃ v',e=.returned v'∧OwW 3 1 (xs++cutB r).length w v v' (ints (xs++cutB r)) w':=by
 intro r0
 induction r0 using Rx.ind with
 | h k0 lo0 hi0 ks0 ih=>
  intro w v u xs M hv hr hM hn
  generalize hR:nd k0 lo0 hi0 ks0=r at *
  have hks:ks0=r.kids:=by rw [←hR];rfl
  subst hks
  have hnn:nodes r=1+nodesL r.kids:=by rw [←Rx.eta r,nodes];rfl
  have HI:=Lib.hid (fun (s:Rx) (hs:s∈r.kids) (w:World) (v u:Value) (xs:List Int) (M:List Nat)=>@ih s hs w v u xs M)
  have HC:=Lib.hid (cutB_eq r)
  have HN:=Lib.hid (And.intro hn hnn)
  clear hR ih hn hnn
  obtain ⟨a1,c1,rfl,hF,hsc,hL⟩:=hr.shape
  obtain ⟨a',c',he,q1,q2,_⟩:=id hL.form
  cases he
  have HL:=Lib.hid (And.intro hL (And.intro hM hsc))
  have HV:=Lib.hid hv
  have hlo:0≤r.lo∧r.lo≤255:=hsc.2.1
  have hhi:0≤r.hi∧r.hi≤255:=hsc.2.2
  clear hr hF hsc hL hM
  go_enter Tryz.func46,Tryz.ntmps46
  go_upto_region 1 with fail
  have bA:=Blk.new w (rxC r.kind r.lo r.hi (.slice a1 r.kids.length c1)) 37
  have uA:=(Upd.refl [] w).alloc (.cells (rxC r.kind r.lo r.hi (.slice a1 r.kids.length c1)).toArray 37)
  change Code.wp _ _ _ _ (w.alloc (.cells (rxC r.kind r.lo r.hi (.slice a1 r.kids.length c1)).toArray 37))
  have hz1:(w.alloc (.cells (rxC r.kind r.lo r.hi (.slice a1 r.kids.length c1)).toArray 37)).heap.size=w.heap.size+1:=by simp
  generalize (w.alloc (.cells (rxC r.kind r.lo r.hi (.slice a1 r.kids.length c1)).toArray 37))=w1 at *
  have k0:=bA.cell (i:=0) rfl
  have k1:=bA.cell (i:=1) rfl
  have k2:=bA.cell (i:=2) rfl
  have k3:=bA.cell (i:=3) rfl
  have hOA:OwW 3 1 xs.length w v v (ints xs) w1:=(OwW.start hv).quiet uA
  have hpv:v.ownBlock≠some w.heap.size:=fun h=>by have:=(hv.lt _ h).2;omega
  have HA:=Lib.hid (And.intro hOA (And.intro hpv (And.intro bA hz1)))
  clear bA uA hv hpv hz1
  generalize hpb:w.heap.size=pb at *
  have HPB:=Lib.hid hpb
  clear hpb
  go_upto_if 9 with fail
  go_cut [0] (fun a w'=>OwW 3 1 (xs++(if r.kind=2 then r.lo::(if r.hi<255 then [r.hi+1] else []) else [])).length w v a (ints (xs++(if r.kind=2 then r.lo::(if r.hi<255 then [r.hi+1] else []) else []))) w'∧Blk w' pb (rxC r.kind r.lo r.hi (.slice a1 r.kids.length c1)) 37)
  case first=>
   have hlen:xs.length+2≤1000000:=by have:=HN.out;omega
   by_cases hk:r.kind=2
   ·have hkb:(r.kind == 2)=true:=by simpa using hk
    by_cases hh:r.hi<255
    ·have HH:=Lib.hid (show xs++(if r.kind=2 then r.lo::(if r.hi<255 then [r.hi+1] else []) else [])=xs++[r.lo]++[r.hi+1] by rw [if_pos hk,if_pos hh];simp)
     clear hk
     go_upto_region 3 with (refine wpList_push rfl rfl _ _ _ _ rfl rfl rfl 3 1 8 _ Tryz.underlying22 infoInt rfl (by decide) (by decide) (.int .i64 r.lo) [.int .i64 r.lo] rfl rfl rfl (ints_one [r.lo]) _ _ _ HA.out.1.row rfl rfl (by unfold maxLen;omega) (by omega) ?_;intro g4 c4 w4 o4 u4 k4)
     have HB:=Lib.hid (And.intro (HA.out.1.push o4 u4 k4) (And.intro (HA.out.2.2.1.upd u4 (by simpa using HA.out.2.1)) (show Value.ownBlock (.slice (some ⟨g4,0,none⟩) (xs.length+1) c4)≠some pb from fun h=>by
      have h1:=HA.out.2.1
      have h2:=HA.out.2.2.2
      simp only [Value.ownBlock,Option.some.injEq] at h
      rw [h] at k4
      rcases k4 with k4|k4
      ·exact h1 k4
      ·omega)))
     have k2:=u4.some k2 (by simpa using HA.out.2.1)
     clear o4 u4 k4 k0 k1 k3
     go_wp2_with (refine wpList_push rfl rfl _ _ _ _ rfl rfl rfl 3 1 8 _ Tryz.underlying22 infoInt rfl (by decide) (by decide) (.int .i64 (r.hi+1)) [.int .i64 (r.hi+1)] rfl rfl rfl (ints_one [r.hi+1]) _ _ _ HB.out.1.row rfl rfl (by unfold maxLen;omega) (by omega) ?_;intro g5 c5 w5 o5 u5 k5)
     go_meet
     case rel=>
      rw [HH.out]
      have:=HB.out.1.push o5 u5 k5
      exact ⟨by simpa [ints] using this,HB.out.2.1.upd u5 (by simpa using HB.out.2.2)⟩
    ·have HH:=Lib.hid (show xs++(if r.kind=2 then r.lo::(if r.hi<255 then [r.hi+1] else []) else [])=xs++[r.lo] by rw [if_pos hk,if_neg hh])
     clear hk
     go_upto_region 3 with (refine wpList_push rfl rfl _ _ _ _ rfl rfl rfl 3 1 8 _ Tryz.underlying22 infoInt rfl (by decide) (by decide) (.int .i64 r.lo) [.int .i64 r.lo] rfl rfl rfl (ints_one [r.lo]) _ _ _ HA.out.1.row rfl rfl (by unfold maxLen;omega) (by omega) ?_;intro g4 c4 w4 o4 u4 k4)
     have HB:=Lib.hid (And.intro (HA.out.1.push o4 u4 k4) (And.intro (HA.out.2.2.1.upd u4 (by simpa using HA.out.2.1)) (show Value.ownBlock (.slice (some ⟨g4,0,none⟩) (xs.length+1) c4)≠some pb from fun h=>by
      have h1:=HA.out.2.1
      have h2:=HA.out.2.2.2
      simp only [Value.ownBlock,Option.some.injEq] at h
      rw [h] at k4
      rcases k4 with k4|k4
      ·exact h1 k4
      ·omega)))
     have k2:=u4.some k2 (by simpa using HA.out.2.1)
     clear o4 u4 k4 k0 k1 k3
     go_wp2_with fail
     go_meet
     case rel=>
      rw [HH.out]
      exact ⟨by simpa [ints] using HB.out.1,HB.out.2.1⟩
   ·have HH:=Lib.hid (show xs++(if r.kind=2 then r.lo::(if r.hi<255 then [r.hi+1] else []) else [])=xs by rw [if_neg hk];simp)
    go_wp2_with fail
    go_meet
    case rel=>
     rw [HH.out]
     exact ⟨HA.out.1,HA.out.2.2.1⟩
  case rest=>
  generalize hcu:xs++(if r.kind=2 then r.lo::(if r.hi<255 then [r.hi+1] else []) else [])=ys at *
  have HY:=Lib.hid (show ys.length≤xs.length+2 from by rw [←hcu,List.length_append];split <;> (try split) <;> simp)
  have HCC:=Lib.hid (show xs++cutB r=ys++cutL r.kids by rw [HC.out,←hcu,List.append_assoc])
  obtain ⟨hO,hB⟩:=hcut
  have k0:=hB.cell (i:=0) rfl
  have k3:=hB.cell (i:=3) rfl
  have HO:=Lib.hid hO
  clear hO hB k1 k2 hcu hOA HC
  go_wp2_with fail
  go_loopw [0,29] (fun av iv wr=>∃ (m:Nat) (acc:Value),iv=.int .i64 m∧acc=av∧m≤r.kids.length∧OwW 3 1 (ys++cutL (r.kids.take m)).length w v acc (ints (ys++cutL (r.kids.take m))) wr) (fun _ iv _=>r.kids.length - (intOf iv).toNat)
  case atStart=>exact ⟨0,_,rfl,rfl,Nat.zero_le _,by simpa [cutL] using HO.out⟩
  case round=>
   obtain ⟨m,acc,rfl,rfl,hm,hO⟩:=hrel
   have HO:=Lib.hid hO
   clear hO
   by_cases hlt:m<r.kids.length
   ·have hli:(m:Int)<r.kids.length:=by omega
    have hr:=List.getElem?_eq_getElem hlt
    have hmem:=List.mem_of_getElem? hr
    have hct:=cutL_take hr
    have hn1:=nodesL_take_succ hr
    have hn2:=nodesL_take (m+1) r.kids
    have hn3:=cutL_len (r.kids.take m)
    generalize r.kids[m]=s at *
    have HLEN:=Lib.hid (show (ys++cutL (r.kids.take m)).length+2*nodes s≤1000000 from by
     have:=HN.out
     have:=HY.out
     rw [List.length_append]
     omega)
    have hRS:=(HL.out.1.sub (M':=M++acc.ownBlock.toList) (fun b hb=>by
     rcases List.mem_append.1 hb with hb|hb
     ·exact .inl hb
     ·rcases HO.out.old b (by simpa using hb) with h1|h1
      ·exact .inl (HL.out.2.1 b h1)
      ·exact .inr h1)).upd HO.out.u (fun b hb=>List.mem_append_left _ (HL.out.2.1 b (by simpa using hb)))
    obtain ⟨g,off,a3,c3,rfl,hRF,e0,e1,e2,e3⟩:=hRS.kid hr
    have HR:=Lib.hid (And.intro hRF (And.intro hct hmem))
    have HOF:=Lib.hid (HO.out.old)
    clear hRF hr hmem hct hn1 hn2 hn3 hRS
    go_upto_region 8 with fail
    have b2:=Blk.new wr (rxC s.kind s.lo s.hi (.slice a3 s.kids.length c3)) 37
    have u2:=(Upd.refl [] wr).alloc (.cells (rxC s.kind s.lo s.hi (.slice a3 s.kids.length c3)).toArray 37)
    change Code.wp _ _ _ _ (wr.alloc (.cells (rxC s.kind s.lo s.hi (.slice a3 s.kids.length c3)).toArray 37))
    generalize (wr.alloc (.cells (rxC s.kind s.lo s.hi (.slice a3 s.kids.length c3)).toArray 37))=w2 at *
    generalize wr.heap.size=sb at *
    have d0:=b2.cell (i:=0) rfl
    have d1:=b2.cell (i:=1) rfl
    have d2:=b2.cell (i:=2) rfl
    have d3:=b2.cell (i:=3) rfl
    have HO2:=Lib.hid (HO.out.quiet u2)
    have HCL:=Lib.hid (HI.out s HR.out.2.2 w2 acc _ _ (M++acc.ownBlock.toList) HO2.out.row (HR.out.1.ext u2).val (fun b hb=>List.mem_append_right _ (by simp [hb])) HLEN.out)
    clear b2 u2 e0 e1 e2 e3
    go_wp2_with ((with_reducible refine HCL.out.mono ?_);rintro e w5 ⟨v5,rfl,o5⟩)
    refine ⟨⟨m+1,_,by go_num,rfl,by omega,?_⟩,by simp [intOf];omega⟩
    rw [HR.out.2.1,←List.append_assoc]
    exact HO2.out.trans o5
   ·have hme:m=r.kids.length:=by omega
    subst hme
    rw [List.take_length] at HO
    go_wp2_with fail
    go_ret
    refine ⟨_,rfl,?_⟩
    rw [HCC.out]
    exact HO.out
end
end Aut
end Go.Proofs.YtjclbjdkkdijbaaGreat
end
section
open Go.RowKit
namespace Go.Proofs.YtjclbjdkkdijbaaGreat
open L
namespace Aut
open Go.Sort
theorem compact_mem (s:List Int) (x:Int):x∈Lib.compact s↔x∈s:=by
 have g:∀ j,j<s.length→s.toArray[j]! = s[j]!:=fun j hj=>by simp
 constructor
 ·intro h
  simp only [Lib.compact,Lib.compactUpTo,List.mem_map,List.mem_filter,List.mem_range] at h
  obtain ⟨j,⟨hj,_⟩,rfl⟩:=h
  rw [g j hj]
  simp [hj]
 ·intro h
  have key:∀ n,∀ j,j<n→∀ hj:j<s.length,s[j]∈Lib.compact s:=by
   intro n
   induction n with
   | zero=>intro j h;omega
   | succ n ih=>
    intro j hjn hj
    by_cases hk:Lib.keeps s.toArray j=true
    ·simp only [Lib.compact,Lib.compactUpTo,List.mem_map,List.mem_filter,List.mem_range]
     exact ⟨j,⟨hj,hk⟩,by rw [g j hj];simp [hj]⟩
    ·simp only [Lib.keeps,decide_eq_true_eq,not_or,Classical.not_not] at hk
     have h1:=ih (j-1) (by omega) (by omega)
     rw [g j hj,g (j-1) (by omega)] at hk
     have h2:s[j]! = s[j]:=by simp [hj]
     have h3:s[j-1]! = s[j-1]'(by omega):=by rw [getElem!_pos]
     rw [←h2,hk.2,h3]
     exact h1
  obtain ⟨j,hj,rfl⟩:=List.getElem_of_mem h
  exact key (j+1) j (by omega) hj
theorem compact_length (s:List Int):(Lib.compact s).length≤s.length:=by
 simp only [Lib.compact,Lib.compactUpTo,List.length_map]
 have:=List.length_filter_le (Lib.keeps s.toArray) (List.range s.length)
 simpa using this
theorem compact_sorted {s:List Int} (h:s.Pairwise (fun x y:Int=>x≤y)):(Lib.compact s).Pairwise (·<·):=by
 unfold Lib.compact Lib.compactUpTo
 rw [List.pairwise_map]
 have h1:((List.range s.length).filter (Lib.keeps s.toArray)).Pairwise (fun i j=>i<j∧j<s.length∧Lib.keeps s.toArray j=true):=by
  have h2:=(List.pairwise_lt_range (n:=s.length)).filter (Lib.keeps s.toArray)
  refine h2.imp_of_mem ?_
  intro i j _ hj hij
  simp only [List.mem_filter,List.mem_range] at hj
  exact ⟨hij,hj.1,hj.2⟩
 refine h1.imp ?_
 rintro i j ⟨hij,hj,hk⟩
 have g:∀ m,m<s.length→s.toArray[m]! = s[m]!:=fun m hm=>by simp
 have gg:∀ m (hm:m<s.length),s[m]! = s[m]:=fun m hm=>by simp [hm]
 have hk':s.toArray[j]!≠s.toArray[j-1]!:=by
  simp only [Lib.keeps,decide_eq_true_eq] at hk
  rcases hk with hk|hk
  ·omega
  ·exact hk
 rw [g j hj,g (j-1) (by omega),gg j hj,gg (j-1) (by omega)] at hk'
 rw [g j hj,g i (by omega),gg j hj,gg i (by omega)]
 rw [List.pairwise_iff_getElem] at h
 have h3:=h (j-1) j (by omega) hj (by omega)
 have h4:(s[j-1]'(by omega))<s[j]:=by omega
 by_cases he:i=j-1
 ·subst he;exact h4
 ·have h5:=h i (j-1) (by omega) (by omega) (by omega)
  exact Int.lt_of_le_of_lt h5 h4
def srtC (xs:List Int):List Int:=Lib.compact (xs.mergeSort fun x y=>decide (x≤y))
theorem srtC_mem (xs:List Int) (x:Int):x∈srtC xs↔x∈xs:=by unfold srtC;rw [compact_mem];exact (List.mergeSort_perm _ _).mem_iff
theorem srtC_inc (xs:List Int):(srtC xs).Pairwise (·<·):=by
 refine compact_sorted ?_
 have:=List.pairwise_mergeSort (le:=fun x y:Int=>decide (x≤y)) (fun a b c h1 h2=>by simp only [decide_eq_true_eq] at *;omega) (fun a b=>by
  simp only [Bool.or_eq_true,decide_eq_true_eq];omega) xs
 exact this.imp fun {a b} h=>by simpa using h
theorem srtC_length (xs:List Int):(srtC xs).length≤xs.length:=by
 have:=compact_length (xs.mergeSort fun x y=>decide (x≤y))
 rw [List.length_mergeSort] at this
 exact this
theorem srtC_put (xs:List Int):srtC xs=Auto.putAllC [] xs:=by
 obtain ⟨h1,h2⟩:=Auto.putAllC_spec xs (l:=[]) .nil
 exact Auto.inc_unique (srtC_inc xs) h1 fun x=>by rw [srtC_mem,h2];simp
section
variable {α:Type} [Inhabited α] {w:World} {g:Nat} {cur:List Value} {e:TypeId}
theorem putCells_list (enc:α→Value) (d:List α) (hd:d.length≤cur.length):putCells enc 0 d.toArray cur.toArray=(d.map enc++cur.drop d.length).toArray:=by
 apply Array.ext_getElem?
 intro k
 simp only [putCells,Array.getElem?_mapIdx,List.getElem?_toArray,List.size_toArray,Nat.zero_add,Nat.zero_le,true_and,Nat.sub_zero]
 by_cases hk:k<d.length
 ·rw [List.getElem?_append_left (by simpa using hk),List.getElem?_map,List.getElem?_eq_getElem hk,List.getElem?_eq_getElem (show k<cur.length by omega)]
  simp [hk]
 ·rw [List.getElem?_append_right (by simpa using hk),List.length_map,List.getElem?_drop,show d.length+(k-d.length)=k by omega]
  cases cur[k]? with
  | none=>rfl
  | some x=>simp [hk]
theorem blk_sorted (enc:α→Value) (h:Blk w g cur e) (d:List α) (hd:d.length≤cur.length) (n:Nat) (os:Array Obj) :
 Blk (grow (putRow enc (Sort.ahead w n) g 0 d.toArray) os) g (d.map enc++cur.drop d.length) e∧Upd [g] w (grow (putRow enc (Sort.ahead w n) g 0 d.toArray) os):=by
 have hb:(putRow enc (Sort.ahead w n) g 0 d.toArray).heap[g]?=some (.cells (d.map enc++cur.drop d.length).toArray e (0,0)):=by
  unfold putRow mapBlock
  simp only [Array.getElem?_modify,if_true]
  have h':(Sort.ahead w n).heap[g]?=some (.cells cur.toArray e (0,0)):=h
  rw [h']
  simp only [Option.map_some,onCells]
  rw [putCells_list enc d hd]
 refine ⟨?_,rfl,rfl,rfl,by simp,fun k hk hn=>?_⟩
 ·unfold Blk
  rw [heap_grow_old _ _ (by simpa using h.lt)]
  exact hb
 ·rw [heap_grow_old _ _ (by simpa using hk)]
  unfold putRow mapBlock
  simp only [Array.getElem?_modify]
  rw [if_neg (by simp at hn;exact fun h=>hn h.symm)]
  rfl
end
section
variable {w w0:World} {v0:Value}
theorem OwW.holds {g cap:Nat} {xs:List Int} (h:OwW 3 1 xs.length w0 v0 (.slice (some ⟨g,0,none⟩) xs.length cap) (ints xs) w) (h0:xs≠[]) :
 ∃ cur:List Value,Blk w g cur 3∧xs.length≤cur.length∧cur.length=cap∧cap≤maxLen∧Holds (Value.int .i64) w g 0 xs.toArray:=by
 obtain ⟨hlen,hrow⟩:=h.row
 rcases hrow with ⟨_,h2⟩|⟨g',cap',cur,he,_,hg,hnc,hcm,hcs,htake⟩
 ·exact absurd (List.eq_nil_of_length_eq_zero h2) h0
 ·cases he
  have hB:Blk w g cur.toList 3:=by unfold Blk;rw [Array.toArray_toList];exact hg
  have hcu:xs.length≤cur.toList.length:=by have:=Array.length_toList (xs:=cur);omega
  have htk:cur.toList.take xs.length=ints xs:=by simpa using htake
  refine ⟨cur.toList,hB,hcu,by rw [Array.length_toList];omega,hcm,fun j hj=>?_⟩
  simp only [List.size_toArray] at hj
  refine ⟨?_,hB.free _⟩
  rw [Nat.zero_add]
  have e1:(ints xs)[j]?=some (.int .i64 (xs.toArray[j]!)):=by
   rw [ints_get (List.getElem?_eq_getElem hj)]
   simp [hj]
  refine hB.cell ?_
  rw [←htk,List.getElem?_take,if_pos hj] at e1
  exact e1
theorem OwW.of_blk {e:TypeId} {g n cap:Nat} {cs pad:List Value} (h:Blk w g (cs++pad) e) (hn:cs.length=n) (hc:(cs++pad).length=cap) (hm:cap≤maxLen):w.ownsRow 0 e 1 (.slice (some ⟨g,0,none⟩) n cap) n cs:=by
 refine ⟨by omega,.inr ⟨g,cap,(cs++pad).toArray,rfl,Nat.zero_le _,h,?_,hm,?_,?_⟩⟩
 ·rw [List.length_append] at hc;omega
 ·simp at hc ⊢;omega
 ·simp only [Nat.mul_one];rw [←hn];simp
set_option maxRecDepth 100000 in
theorem Sort_calls {a:Option Addr} {cap:Nat} {xs:List Int} (h:OwW 3 1 xs.length w0 v0 (.slice a xs.length cap) (ints xs) w) (hl:xs.length≤1000000) :
 Calls Tryz.prog 87 #[.slice a xs.length cap] w fun e w'=>e=.returned (.tuple #[])∧OwW 3 1 xs.length w0 v0 (.slice a xs.length cap) (ints (xs.mergeSort fun x y=>decide (x≤y))) w':=by
 by_cases h0:xs=[]
 ·subst h0
  refine (Tryz.slices_Sort_int_none a cap w).mono ?_
  rintro e w' ⟨rfl,rfl⟩
  exact ⟨rfl,by simpa using h⟩
 ·obtain ⟨g,cap',he,_⟩:=owns_form h.row (by rcases xs with _|_;exact absurd rfl h0;simp)
  cases he
  obtain ⟨cur,hB,hcu,hcap,hcm,hH⟩:=h.holds h0
  refine (Tryz.slices_Sort_int g 0 cap xs w hH hB.lt (by omega)).mono ?_
  rintro e w' ⟨rfl,n,os,rfl⟩
  have hbs:=blk_sorted (Value.int .i64) hB (xs.mergeSort fun x y=>decide (x≤y)) (by rw [List.length_mergeSort];omega) n os
  refine ⟨rfl,h.step (by simpa [Value.ownBlock] using hbs.2) (OwW.of_blk (cs:=ints (xs.mergeSort fun x y=>decide (x≤y))) hbs.1 (by simp [ints]) (by simp [ints];omega) hcm) (fun g h=>.inl h)⟩
set_option maxRecDepth 100000 in
theorem Compact_calls {a:Option Addr} {cap:Nat} {xs:List Int} (h:OwW 3 1 xs.length w0 v0 (.slice a xs.length cap) (ints xs) w) (hl:xs.length≤1000000) :
 Calls Tryz.prog 88 #[.slice a xs.length cap] w fun e w'=>e=.returned (.slice a (Lib.compact xs).length cap)∧OwW 3 1 (Lib.compact xs).length w0 v0 (.slice a (Lib.compact xs).length cap) (ints (Lib.compact xs)) w':=by
 have hcl:=compact_length xs
 by_cases h0:xs=[]
 ·subst h0
  refine (Tryz.slices_Compact_int_empty a cap w).mono ?_
  rintro e w' ⟨rfl,rfl⟩
  exact ⟨rfl,h⟩
 ·obtain ⟨g,cap',he,_⟩:=owns_form h.row (by rcases xs with _|_;exact absurd rfl h0;simp)
  cases he
  obtain ⟨cur,hB,hcu,hcap,hcm,hH⟩:=h.holds h0
  refine (Tryz.slices_Compact_int g 0 cap xs w hH (by omega) (by omega)).mono ?_
  rintro e w' ⟨rfl,q,rfl⟩
  have hbs:=blk_sorted (Value.int .i64) hB (Lib.compact xs++List.replicate (xs.length - (Lib.compact xs).length) 0) (by simp;omega) q #[]
  rw [grow_empty] at hbs
  have hb2:=hbs.1
  rw [List.map_append,List.append_assoc] at hb2
  refine ⟨rfl,h.step (by simpa [Value.ownBlock] using hbs.2) (OwW.of_blk (cs:=ints (Lib.compact xs)) hb2 (by simp [ints]) (by simp [ints];omega) hcm) (fun g h=>.inl h)⟩
set_option maxRecDepth 100000 in
theorem sorted_calls {v:Value} {xs:List Int} (h:OwW 3 1 xs.length w0 v0 v (ints xs) w) (hl:xs.length≤1000000) :
 Calls Tryz.prog 45 #[v] w fun e w'=>∃ v',e=.returned v'∧OwW 3 1 (srtC xs).length w0 v0 v' (ints (srtC xs)) w':=by
 obtain ⟨a,cap,rfl,_⟩:=h.form
 have HS:=Lib.hid (Sort_calls h hl)
 have HL:=Lib.hid (show (xs.mergeSort fun x y=>decide (x≤y)).length=xs.length from List.length_mergeSort _)
 have HD:=Lib.hid (show Lib.compact (xs.mergeSort fun x y=>decide (x≤y))=srtC xs from rfl)
 clear h
 generalize (xs.mergeSort fun x y=>decide (x≤y))=ys at *
 generalize hn:xs.length=n at *
 have HLL:=Lib.hid hl
 rw [←HL.out] at HS
 have HN:=Lib.hid (And.intro hn HL.out)
 clear hl hn HL
 go_enter Tryz.func45,Tryz.ntmps45
 rw [←HN.out.2]
 go_wp2_with (first|((with_reducible refine HS.out.mono ?_);rintro e w1 ⟨rfl,o1⟩;have HC:=Lib.hid (Compact_calls o1 (by have:=HN.out.2;have:=HLL.out;omega));clear o1)|((with_reducible refine HC.out.mono ?_);rintro e w2 ⟨rfl,o2⟩;have HO:=Lib.hid o2;clear o2))
 go_ret
 refine ⟨_,rfl,?_⟩
 rw [←HD.out]
 exact HO.out
end
end Aut
end Go.Proofs.YtjclbjdkkdijbaaGreat
end
section
open Go.RowKit
namespace Go.Proofs.YtjclbjdkkdijbaaGreat
open L
namespace Aut
open Rgx Rx
theorem infoByte:(Tryz.prog.info? 5).map (fun i=>(i.zero,i.size,i.bytes))=some (some (.int .u8 0),1,1):=by kernel_rfl
def bys (xs:List Int):List Value:=xs.map (Value.int .u8)
theorem bys_append (xs ys:List Int):bys (xs++ys)=bys xs++bys ys:=by simp [bys]
theorem keyB_eq (r:Rx):keyB r=[r.kind % 256,r.lo,r.hi,(r.kids.length:Int) % 256]++keyL r.kids:=by
 obtain ⟨k,lo,hi,ks⟩:=r
 rw [keyB];rfl
theorem keyL_take {ks:List Rx} {m:Nat} {s:Rx} (h:ks[m]?=some s):keyL (ks.take (m+1))=keyL (ks.take m)++keyB s:=by
 rw [List.take_add_one,h,keyL_app];simp [keyL]
theorem keyL_len:∀ l:List Rx,(keyL l).length≤4*nodesL l
 | []=>by simp [keyL]
 | r::l=>by rw [keyL,nodesL,List.length_append];have:=keyB_len r;have:=keyL_len l;omega
section
variable {M:List Nat}
set_option maxRecDepth 100000 in
set_option maxHeartbeats 8000000 in
theorem keyOf_calls:∀ (r:Rx) {w:World} {v u:Value} {xs:List Int} {M:List Nat},w.ownsRow 0 5 1 v xs.length (bys xs)→RxV M w r u→(∀ b,v.ownBlock=some b→b∈M)→xs.length+4*nodes r≤1000000 →
 Calls Tryz.prog 49 #[v,u] w fun e w'=>∃ v',e=.returned v'∧OwW 5 1 (xs++keyB r).length w v v' (bys (xs++keyB r)) w':=by
 intro r0
 induction r0 using Rx.ind with
 | h k0 lo0 hi0 ks0 ih=>
  intro w v u xs M hv hr hM hn
  generalize hR:nd k0 lo0 hi0 ks0=r at *
  have hks:ks0=r.kids:=by rw [←hR];rfl
  subst hks
  have hnn:nodes r=1+nodesL r.kids:=by rw [←Rx.eta r,nodes];rfl
  have HI:=Lib.hid (fun (s:Rx) (hs:s∈r.kids) (w:World) (v u:Value) (xs:List Int) (M:List Nat)=>@ih s hs w v u xs M)
  have HC:=Lib.hid (keyB_eq r)
  have HN:=Lib.hid (And.intro hn hnn)
  clear hR ih hn hnn
  obtain ⟨a1,c1,rfl,hF,hsc,hL⟩:=hr.shape
  obtain ⟨a',c',he,q1,q2,_⟩:=id hL.form
  cases he
  have HL:=Lib.hid (And.intro hL (And.intro hM hsc))
  have HV:=Lib.hid hv
  have hlo:0≤r.lo∧r.lo≤255:=hsc.2.1
  have hhi:0≤r.hi∧r.hi≤255:=hsc.2.2
  clear hr hF hsc hL hM
  go_enter Tryz.func49,Tryz.ntmps49
  go_upto_region 1 with fail
  have bA:=Blk.new w (rxC r.kind r.lo r.hi (.slice a1 r.kids.length c1)) 37
  have uA:=(Upd.refl [] w).alloc (.cells (rxC r.kind r.lo r.hi (.slice a1 r.kids.length c1)).toArray 37)
  change Code.wp _ _ _ _ (w.alloc (.cells (rxC r.kind r.lo r.hi (.slice a1 r.kids.length c1)).toArray 37))
  have hz1:(w.alloc (.cells (rxC r.kind r.lo r.hi (.slice a1 r.kids.length c1)).toArray 37)).heap.size=w.heap.size+1:=by simp
  generalize (w.alloc (.cells (rxC r.kind r.lo r.hi (.slice a1 r.kids.length c1)).toArray 37))=w1 at *
  have k0:=bA.cell (i:=0) rfl
  have k1:=bA.cell (i:=1) rfl
  have k2:=bA.cell (i:=2) rfl
  have k3:=bA.cell (i:=3) rfl
  have hOA:OwW 5 1 xs.length w v v (bys xs) w1:=(OwW.start hv).quiet uA
  have hpv:v.ownBlock≠some w.heap.size:=fun h=>by have:=(hv.lt _ h).2;omega
  have HA:=Lib.hid (And.intro hOA (And.intro hpv (And.intro bA hz1)))
  clear bA uA hv hpv hz1
  generalize hpb:w.heap.size=pb at *
  have HPB:=Lib.hid hpb
  clear hpb
  have hlen:xs.length+4≤1000000:=by have:=HN.out;omega
  go_upto_region 2 with (refine wpList_app rfl _ _ _ rfl 5 1 1 _ Tryz.underlying92 infoByte rfl (by decide) v _ _ rfl (ownsRow_updL HA.out.1.row ((Upd.refl [] w1).alloc _) (by simp)) w1.heap.size 4 4 [.int .u8 (r.kind % 256),.int .u8 r.lo,.int .u8 r.hi,.int .u8 ((r.kids.length:Int) % 256)] 5 rfl rfl (Blk.new w1 _ _) (by simp [Value.oneCell']) (by omega) (by unfold maxLen;omega) (by omega) ?_;intro g4 c4 w4 o4 u4 k4)
  have uu:=(Upd.refl [] w1).alloc (.cells #[.int .u8 (r.kind % 256),.int .u8 r.lo,.int .u8 r.hi,.int .u8 ((r.kids.length:Int) % 256)] 5)
  have hO:=(HA.out.1.quiet uu).push o4 u4 (by
   rcases k4 with h|h
   ·exact .inl h
   ·exact .inr (by omega))
  have hB:=(HA.out.2.2.1.upd uu (by simp)).upd u4 (by simpa using HA.out.2.1)
  have k0:=hB.cell (i:=0) rfl
  have k3:=hB.cell (i:=3) rfl
  generalize hcu:xs++[r.kind % 256,r.lo,r.hi,(r.kids.length:Int) % 256]=ys at *
  have hyl:ys.length=xs.length+4:=by rw [←hcu];simp
  have HO:=Lib.hid (show OwW 5 1 ys.length w v (.slice (some ⟨g4,0,none⟩) (xs.length+4) c4) (bys ys) w4 by
   rw [hyl,←hcu,bys_append]
   exact hO)
  have HY:=Lib.hid (show ys.length≤xs.length+4 from by rw [hyl];exact Nat.le_refl _)
  have HCC:=Lib.hid (show xs++keyB r=ys++keyL r.kids by rw [HC.out,←hcu,List.append_assoc])
  clear hcu HC hyl hO hB uu o4 u4 k4 k1 k2 hlen
  go_wp2_with fail
  go_loopw [0,24] (fun av iv wr=>∃ (m:Nat) (acc:Value),iv=.int .i64 m∧acc=av∧m≤r.kids.length∧OwW 5 1 (ys++keyL (r.kids.take m)).length w v acc (bys (ys++keyL (r.kids.take m))) wr) (fun _ iv _=>r.kids.length - (intOf iv).toNat)
  case atStart=>exact ⟨0,_,rfl,rfl,Nat.zero_le _,by simpa [keyL] using HO.out⟩
  case round=>
   obtain ⟨m,acc,rfl,rfl,hm,hO⟩:=hrel
   have HO:=Lib.hid hO
   clear hO
   by_cases hlt:m<r.kids.length
   ·have hli:(m:Int)<r.kids.length:=by omega
    have hr:=List.getElem?_eq_getElem hlt
    have hmem:=List.mem_of_getElem? hr
    have hct:=keyL_take hr
    have hn1:=nodesL_take_succ hr
    have hn2:=nodesL_take (m+1) r.kids
    have hn3:=keyL_len (r.kids.take m)
    generalize r.kids[m]=s at *
    have HLEN:=Lib.hid (show (ys++keyL (r.kids.take m)).length+4*nodes s≤1000000 from by
     have:=HN.out
     have:=HY.out
     rw [List.length_append]
     omega)
    have hRS:=(HL.out.1.sub (M':=M++acc.ownBlock.toList) (fun b hb=>by
     rcases List.mem_append.1 hb with hb|hb
     ·exact .inl hb
     ·rcases HO.out.old b (by simpa using hb) with h1|h1
      ·exact .inl (HL.out.2.1 b h1)
      ·exact .inr h1)).upd HO.out.u (fun b hb=>List.mem_append_left _ (HL.out.2.1 b (by simpa using hb)))
    obtain ⟨g,off,a3,c3,rfl,hRF,e0,e1,e2,e3⟩:=hRS.kid hr
    have HR:=Lib.hid (And.intro hRF (And.intro hct hmem))
    have HOF:=Lib.hid (HO.out.old)
    clear hRF hr hmem hct hn1 hn2 hn3 hRS
    go_upto_region 5 with fail
    have b2:=Blk.new wr (rxC s.kind s.lo s.hi (.slice a3 s.kids.length c3)) 37
    have u2:=(Upd.refl [] wr).alloc (.cells (rxC s.kind s.lo s.hi (.slice a3 s.kids.length c3)).toArray 37)
    change Code.wp _ _ _ _ (wr.alloc (.cells (rxC s.kind s.lo s.hi (.slice a3 s.kids.length c3)).toArray 37))
    generalize (wr.alloc (.cells (rxC s.kind s.lo s.hi (.slice a3 s.kids.length c3)).toArray 37))=w2 at *
    generalize wr.heap.size=sb at *
    have d0:=b2.cell (i:=0) rfl
    have d1:=b2.cell (i:=1) rfl
    have d2:=b2.cell (i:=2) rfl
    have d3:=b2.cell (i:=3) rfl
    have HO2:=Lib.hid (HO.out.quiet u2)
    have HCL:=Lib.hid (HI.out s HR.out.2.2 w2 acc _ _ (M++acc.ownBlock.toList) HO2.out.row (HR.out.1.ext u2).val (fun b hb=>List.mem_append_right _ (by simp [hb])) HLEN.out)
    clear b2 u2 e0 e1 e2 e3
    go_wp2_with ((with_reducible refine HCL.out.mono ?_);rintro e w5 ⟨v5,rfl,o5⟩)
    refine ⟨⟨m+1,_,by go_num,rfl,by omega,?_⟩,by simp [intOf];omega⟩
    rw [HR.out.2.1,←List.append_assoc]
    exact HO2.out.trans o5
   ·have hme:m=r.kids.length:=by omega
    subst hme
    rw [List.take_length] at HO
    go_wp2_with fail
    go_ret
    refine ⟨_,rfl,?_⟩
    rw [HCC.out]
    exact HO.out
end
end Aut
end Go.Proofs.YtjclbjdkkdijbaaGreat
end
section
open Go.RowKit
namespace Go.Proofs.YtjclbjdkkdijbaaGreat
open L
namespace Aut
open Rgx Rx
def keyU (r:Rx):List UInt8:=(keyB r).map fun c=>UInt8.ofNat c.toNat
theorem keyU_bcs {r:Rx} (h:Byt r):bcs (keyU r)=bys (keyB r):=by
 unfold bcs keyU bys
 rw [List.map_map]
 refine List.map_congr_left fun c hc=>?_
 obtain ⟨h1,h2⟩:=keyB_byte r h c hc
 simp only [Function.comp,UInt8.toNat_ofNat']
 congr 1
 omega
theorem keyU_len (r:Rx):(keyU r).length=4*nodes r:=by unfold keyU;rw [List.length_map,keyB_len]
theorem keyU_inj {a b:Rx} (ha:Sml a) (hb:Sml b) (h1:Byt a) (h2:Byt b) (h:keyU a=keyU b):a=b:=by
 refine key_inj' ha hb ?_
 have e:bys (keyB a)=bys (keyB b):=by rw [←keyU_bcs h1,←keyU_bcs h2,h]
 unfold bys at e
 exact (List.map_inj_right (fun x y hxy=>by simpa using hxy)).1 e
section
variable {w:World} {v:Value} {M:List Nat}
set_option maxRecDepth 100000 in
set_option maxHeartbeats 8000000 in
theorem Of1_calls {s:Rx} (hr:RxV M w s v) (hn:nodes s≤100000):Calls Tryz.prog 48 #[v] w fun e w'=>e=.returned (.string ⟨(keyU s).toArray⟩)∧Upd [] w w':=by
 obtain ⟨a1,c1,rfl,hF,_,_⟩:=hr.shape
 have HK:=Lib.hid (And.intro (keyU_bcs hF.byt) (show (keyU s).length=(keyB s).length by rw [keyU_len,keyB_len]))
 have HR:=Lib.hid (And.intro hr hn)
 clear hr hF hn
 go_enter Tryz.func48,Tryz.ntmps48
 go_upto_region 1 with fail
 have bA:=Blk.new w (rxC s.kind s.lo s.hi (.slice a1 s.kids.length c1)) 37
 have uA:=(Upd.refl [] w).alloc (.cells (rxC s.kind s.lo s.hi (.slice a1 s.kids.length c1)).toArray 37)
 change Code.wp _ _ _ _ (w.alloc (.cells (rxC s.kind s.lo s.hi (.slice a1 s.kids.length c1)).toArray 37))
 generalize (w.alloc (.cells (rxC s.kind s.lo s.hi (.slice a1 s.kids.length c1)).toArray 37))=w1 at *
 have k0:=bA.cell (i:=0) rfl
 have k1:=bA.cell (i:=1) rfl
 have k2:=bA.cell (i:=2) rfl
 have k3:=bA.cell (i:=3) rfl
 have HC:=Lib.hid (keyOf_calls s (w:=w1) (v:=.slice none 0 0) (xs:=[]) (World.ownsRow_nil _ _ _ _) (HR.out.1.ext uA) (fun b hb=>by simp [Value.ownBlock] at hb) (by have:=HR.out.2;simp;omega))
 have HU:=Lib.hid uA
 clear bA uA
 generalize w.heap.size=pb at *
 go_wp2_with (first|((with_reducible refine HC.out.mono ?_);rintro e w5 ⟨v5,rfl,o5⟩;have HO:=Lib.hid o5;clear o5)|(refine wpList_bstr Tryz.underlying92 Tryz.underlying5 Tryz.underlying9 _ rfl rfl v5 (keyU s) rfl (by have:=HO.out.row;rw [HK.out.2,HK.out.1];exact this) ?_))
 go_ret
 exact ⟨rfl,HU.out.step HO.out.fresh⟩
set_option maxRecDepth 100000 in
set_option maxHeartbeats 8000000 in
theorem Of2_calls {s:Rx} {cb k:Nat} {vc:Value} {cuts:List Int} (hr:RxV M w s v) (hM:∀ b∈M,b<w.heap.size) (hnf:NF s) (hn:nodes s≤64) (hb:w.cell? ⟨cb,0,none⟩=some vc) (hc:SL w 1 vc cuts.length (ints cuts)) (hk:k<cuts.length) (hc0:0≤cuts.getD k 0) (hc1:cuts.getD k 0≤255) :
 Calls Tryz.prog 50 #[v,.int .i64 k,.pointer (some ⟨cb,0,none⟩)] w fun e w'=>∃ v',e=.returned (.tuple #[v',.int .i64 (limE (der (cuts.getD k 0) s))])∧RxV M w' (limR (der (cuts.getD k 0) s)) v'∧Upd [] w w':=by
 obtain ⟨a1,c1,rfl,hF,_,_⟩:=hr.shape
 obtain ⟨ac,cap,rfl,q1,q2,hcc⟩:=hc.elems
 obtain ⟨gc,oc,rfl,hcg⟩:=hcc (by omega)
 have hck:=hcg k (.int .i64 (cuts.getD k 0)) (ints_get (gd_some hk))
 generalize hcv:cuts.getD k 0=c at *
 obtain ⟨w1,M1,rb,hw1,hrb,hM1,bA,bB,uB,hz2,hF1,hnew,hlt,hsub,hin,hle⟩:=two_boxes hF hM
 have hb1:=uB.some hb (by simp)
 have hck1:=uB.some hck (by simp)
 have HX:=Lib.hid (And.intro bB (And.intro uB (And.intro hF1 (And.intro hsub (And.intro hin (And.intro hle hlt))))))
 have HD:=Lib.hid (fun (w5:World) (u5:Upd [] w1 w5)=>Derive_calls (c:=c) ((hF1.ext u5).val) (fun b hb=>by have:=hlt b hb;have:=u5.size;omega) hnf hn hc0 hc1)
 have hki:(k:Int)<cuts.length:=by omega
 clear hr hF hM hnf hn hc hcc hcg hb hck hcv
 go_enter Tryz.func50,Tryz.ntmps50
 go_upto_region 1 with fail
 change Code.wp _ _ _ _ ((w.alloc (.cells (rxC s.kind s.lo s.hi (.slice a1 s.kids.length c1)).toArray 37)).alloc (.cells #[.int .i64 0,.int .u8 0,.int .u8 0,.slice none 0 0] 37))
 rw [←hw1,←hrb]
 have k0:=bA.cell (i:=0) rfl
 have k1:=bA.cell (i:=1) rfl
 have k2:=bA.cell (i:=2) rfl
 have k3:=bA.cell (i:=3) rfl
 clear bA bB uB hz2 hF1 hnew hlt hsub hin hle hM1
 clear hw1 hrb
 generalize hpa:w.heap.size=pa at *
 have HPA:=Lib.hid hpa
 clear hpa
 go_wp2_with fail
 refine wp_region_ord 6 4 [0,1,2,3,4,5,7,8,10] [0,1,4] [0,1,2,3,4,5,6,7,8,9,10] (fun w'=>∃ x:Ext w1,w'=x.val) (by kernel_rfl) (by kernel_rfl) (Ext.of (by iterate 25 (first|exact Upd.refl _ _|assumption|refine Upd.alloc ?_ _|refine Upd.drew ?_|refine Upd.drewN ?_ _|refine Upd.dl ?_|refine Upd.step ?_ (Ext.upd _)|refine Upd.nil ?_|skip))) ?_
 repeat (first|(refine wpOrd_load rfl rfl rfl rfl (fun K hK=>?_);go_big_quiet_step (fail);refine wpQuiet_nil ?_;refine hK _ ?_;clear hK K)|(refine wpOrd_free rfl rfl rfl (fun K hK=>?_);go_big_quiet_step (fail);refine wpQuiet_nil ?_;refine hK _ ?_;clear hK K))
 refine wpOrd_fix rfl rfl (fun K hK=>?_)
 go_wp2_with ((with_reducible refine (HD.out _ (by iterate 25 (first|exact Upd.refl _ _|assumption|refine Upd.alloc ?_ _|refine Upd.drew ?_|refine Upd.drewN ?_ _|refine Upd.dl ?_|refine Upd.step ?_ (Ext.upd _)|refine Upd.nil ?_|skip))).mono ?_);rintro e w5 ⟨v5,rfl,o5,u5⟩;obtain ⟨a5,c5,rfl,hF5,_,_⟩:=o5.shape)
 have U5:=(show Upd [] w1 w5 from Upd.step (by iterate 25 (first|exact Upd.refl _ _|assumption|refine Upd.alloc ?_ _|refine Upd.drew ?_|refine Upd.drewN ?_ _|refine Upd.dl ?_|refine Upd.step ?_ (Ext.upd _)|refine Upd.nil ?_|skip)) u5)
 have bR:=HX.out.1.upd U5 (by simp)
 have r0:=bR.cell (i:=0) rfl
 have r1:=bR.cell (i:=1) rfl
 have r2:=bR.cell (i:=2) rfl
 have r3:=bR.cell (i:=3) rfl
 have rf:∀ q,w5.frozen? ⟨rb,q,none⟩=false:=bR.free
 have H5:=Lib.hid (And.intro bR (And.intro U5 hF5))
 clear bR U5 u5 o5 hF5 k0 k1 k2 k3
 refine ⟨fun hC=>absurd hC (by decide),?_⟩
 repeat (first|(refine wpOrd_load rfl rfl rfl rfl (fun K hK=>?_);go_big_quiet_step (fail);refine wpQuiet_nil ?_;refine hK _ ?_;clear hK K)|(refine wpOrd_free rfl rfl rfl (fun K hK=>?_);go_big_quiet_step (fail);refine wpQuiet_nil ?_;refine hK _ ?_;clear hK K))
 refine wpOrd_fix rfl rfl (fun K hK=>?_)
 go_wp2_with fail
 refine ⟨fun hC=>absurd hC (by decide),?_⟩
 repeat (first|(refine wpOrd_load rfl rfl rfl rfl (fun K hK=>?_);go_big_quiet_step (fail);refine wpQuiet_nil ?_;refine hK _ ?_;clear hK K)|(refine wpOrd_free rfl rfl rfl (fun K hK=>?_);go_big_quiet_step (fail);refine wpQuiet_nil ?_;refine hK _ ?_;clear hK K))
 refine wpOrd_nil ?_
 go_wp2_with fail
 have hs:=box_set (a:=.int .i64 (limR (der c s)).kind) (b:=.int .u8 (limR (der c s)).lo) (c:=.int .u8 (limR (der c s)).hi) (d:=.slice a5 (limR (der c s)).kids.length c5) H5.out.1
 exact ret_rx2 rfl rfl rfl hs.1 rfl ((H5.out.2.2.upd hs.2 (by simpa using HX.out.2.2.2.2.1)).sub (fun b hb=>.inl (HX.out.2.2.2.1 b hb))) ((HX.out.2.1.step H5.out.2.1).fresh hs.2 (fun b hb=>.inr (by simp at hb;subst hb;have:=HX.out.2.2.2.2.2.1;have:=HPA.out;omega)))
end
end Aut
end Go.Proofs.YtjclbjdkkdijbaaGreat
end
