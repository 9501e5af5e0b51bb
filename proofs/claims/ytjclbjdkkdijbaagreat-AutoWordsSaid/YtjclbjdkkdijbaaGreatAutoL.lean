/- Automata as plain data: the least word (breadth first). No program is named. Conditions: none. -/
import Derived.Test.YtjclbjdkkdijbaaGreatAutoP
set_option linter.unusedVariables false
set_option linter.unusedSimpArgs false
set_option linter.unusedSectionVars false
open Go.RowKit
namespace Go.Proofs.YtjclbjdkkdijbaaGreat
open L
namespace Auto
abbrev Qu:=List (Nat × List Int)
def addQ (q:Qu) (t:Nat) (w:List Int):Qu:=if t∈q.map (·.1) then q else q++[(t,w)]
def scanQ (row:Nat→Nat) (cut:Nat→Int) (w:List Int):Nat→Qu→Qu
 | 0,q=>q
 | k+1,q=>addQ (scanQ row cut w k q) (row k) (w++[cut k])
def rowA (a:Au) (s k:Nat):Nat:=((a.next.getD s []).getD k 0).toNat
def bfsQ (a:Au):Nat→Qu
 | 0=>[(0,[])]
 | i+1=>match (bfsQ a i)[i]? with
  | some e=>scanQ (rowA a e.1) (fun k=>a.cuts.getD k 0) e.2 a.cuts.length (bfsQ a i)
  | none=>bfsQ a i
def leastA (a:Au):Option (List Int):=((bfsQ a 256).find? fun e=>a.acc.getD e.1 false).map (·.2)
theorem addQ_ext (q:Qu) (t:Nat) (w:List Int):∃ r,addQ q t w=q++r∧∀ e∈r,e=(t,w):=by
 unfold addQ
 split
 ·exact ⟨[],by simp,by simp⟩
 ·exact ⟨[(t,w)],rfl,by simp⟩
theorem scanQ_ext (row:Nat→Nat) (cut:Nat→Int) (w:List Int):∀ (k:Nat) (q:Qu),∃ r,scanQ row cut w k q=q++r∧∀ e∈r,∃ j,j<k∧e=(row j,w++[cut j])
 | 0,q=>⟨[],by simp [scanQ],by simp⟩
 | k+1,q=>by
  obtain ⟨r,h1,h2⟩:=scanQ_ext row cut w k q
  obtain ⟨r',h3,h4⟩:=addQ_ext (scanQ row cut w k q) (row k) (w++[cut k])
  refine ⟨r++r',by rw [scanQ,h3,h1,List.append_assoc],fun e he=>?_⟩
  rcases List.mem_append.1 he with he|he
  ·obtain ⟨j,hj,h5⟩:=h2 e he
   exact ⟨j,by omega,h5⟩
  ·exact ⟨k,by omega,h4 e he⟩
structure Bf (a:Au) (i:Nat) (q:Qu):Prop where
 head:∃ q',q=(0,[])::q'
 inc:∀ (j j':Nat) (e e':Nat × List Int),q[j]?=some e→q[j']?=some e'→j≤j'→e.2.length≤e'.2.length
 near:∀ (c:Nat × List Int),q[i]?=some c→∀ e∈q,e.2.length≤c.2.length+1
 next:∀ (p:Nat) (c:Nat × List Int),p<i→q[p]?=some c→∀ k,k<a.cuts.length→∃ e∈q,e.1=rowA a c.1 k∧e.2.length≤c.2.length+1
theorem addQ_nodup {q:Qu} {t:Nat} {w:List Int} (h:(q.map (·.1)).Nodup):((addQ q t w).map (·.1)).Nodup:=by
 unfold addQ
 split
 ·exact h
 ·rename_i hx
  rw [List.map_append]
  exact List.nodup_append.2 ⟨h,by simp,fun a ha b hb e=>by simp at hb;subst hb;exact hx (e ▸ ha)⟩
theorem scanQ_nodup (row:Nat→Nat) (cut:Nat→Int) (w:List Int) {q:Qu} (h:(q.map (·.1)).Nodup):∀ k,((scanQ row cut w k q).map (·.1)).Nodup
 | 0=>h
 | k+1=>addQ_nodup (scanQ_nodup row cut w h k)
theorem bf_nodup (a:Au):∀ i,((bfsQ a i).map (·.1)).Nodup
 | 0=>by simp [bfsQ]
 | i+1=>by
  rw [bfsQ]
  split
  ·exact scanQ_nodup _ _ _ (bf_nodup a i) _
  ·exact bf_nodup a i
theorem cls_cut {cs:List Int} (hs:cs.Pairwise (·<·)) {k:Nat} (hk:k<cs.length):cls cs (cs.getD k 0)=k:=by
 rw [List.getD_eq_getElem?_getD,List.getElem?_eq_getElem hk,Option.getD_some]
 have h1:=(cnt_iff (c:=cs[k]) hs hk).1 (Int.le_refl _)
 have h2:cs.countP (fun x=>decide (x≤cs[k]))≤k+1:=by
  refine Nat.le_of_not_lt fun h=>?_
  have hl:cs.countP (fun x=>decide (x≤cs[k]))≤cs.length:=List.countP_le_length
  have h3:=(cnt_iff (c:=cs[k]) hs (i:=k+1) (by omega)).2 h
  have h4:=List.pairwise_iff_getElem.1 hs k (k+1) hk (by omega) (by omega)
  omega
 unfold cls
 omega
theorem runA_snoc (a:Au) (s:Nat) (w:List Int) (c:Int):runA a s (w++[c])=stepA a (runA a s w) c:=by
 unfold runA
 rw [List.foldl_append]
 rfl
theorem bf_run {a:Au} (ha:Ok a):∀ i,∀ e∈bfsQ a i,e.1<a.next.length∧runA a 0 e.2=e.1∧∀ c∈e.2,c∈a.cuts
 | 0,e,he=>by
  unfold bfsQ at he
  simp only [List.mem_singleton] at he
  rw [he]
  exact ⟨ha.some_,rfl,by simp⟩
 | i+1,e,he=>by
  rw [bfsQ] at he
  cases hs:(bfsQ a i)[i]? with
  | none=>rw [hs] at he;exact bf_run ha i e he
  | some s=>
   rw [hs] at he
   simp only at he
   obtain ⟨r,hr,hrm⟩:=scanQ_ext (rowA a s.1) (fun k=>a.cuts.getD k 0) s.2 a.cuts.length (bfsQ a i)
   rw [hr] at he
   rcases List.mem_append.1 he with he|he
   ·exact bf_run ha i e he
   ·obtain ⟨j,hj,h⟩:=hrm e he
    obtain ⟨h1,h2,h3⟩:=bf_run ha i s (List.mem_of_getElem? hs)
    have hc:a.cuts.getD j 0∈a.cuts:=by
     rw [List.getD_eq_getElem?_getD,List.getElem?_eq_getElem hj]
     exact List.getElem_mem _
    have hst:stepA a s.1 (a.cuts.getD j 0)=rowA a s.1 j:=by unfold stepA rowA;rw [cls_cut ha.inc hj]
    have h0:0≤a.cuts.getD j 0:=by
     rw [List.getD_eq_getElem?_getD,List.getElem?_eq_getElem hj,Option.getD_some]
     have hz:=ha.zero
     rw [List.getD_eq_getElem?_getD,List.getElem?_eq_getElem (show 0<a.cuts.length by omega),Option.getD_some] at hz
     rcases Nat.eq_zero_or_pos j with h|h
     ·subst h;omega
     ·have:=List.pairwise_iff_getElem.1 ha.inc 0 j (by omega) hj h
      omega
    rw [h]
    refine ⟨?_,?_,fun c hc'=>?_⟩
    ·have:=ha.step h1 h0
     show rowA a s.1 j<_
     rw [←hst]
     exact this
    ·show runA a 0 (s.2++[a.cuts.getD j 0])=rowA a s.1 j
     rw [runA_snoc,h2,hst]
    ·rcases List.mem_append.1 hc' with h4|h4
     ·exact h3 c h4
     ·rw [List.mem_singleton] at h4;rw [h4];exact hc
theorem nodup_lt:∀ (n:Nat) (l:List Nat),l.Nodup→(∀ x∈l,x<n)→l.length≤n
 | 0,l,_,h=>by
  cases l with
  | nil=>simp
  | cons x l=>have:=h x (by simp);omega
 | n+1,l,hn,h=>by
  have h1:=nodup_lt n (l.erase n) (hn.erase _) (fun x hx=>by
   have hm:=(hn.mem_erase_iff).1 hx
   have:=h x hm.2
   omega)
  have h2:=List.length_erase (a:=n) (l:=l)
  split at h2 <;> omega
theorem bf_len {a:Au} (ha:Ok a) (i:Nat):(bfsQ a i).length≤256:=by
 have h1:=bf_nodup a i
 have h2:((bfsQ a i).map (·.1)).length≤a.next.length:=nodup_lt _ _ h1 (fun x hx=>by
  obtain ⟨e,he,rfl⟩:=List.mem_map.1 hx
  exact (bf_run ha i e he).1)
 have:=ha.few
 rw [List.length_map] at h2
 omega
theorem Ok.nonneg {a:Au} (ha:Ok a):∀ c∈a.cuts,0≤c:=fun c hc=>by
 obtain ⟨j,hj,rfl⟩:=List.getElem_of_mem hc
 have hz:=ha.zero
 rw [List.getD_eq_getElem?_getD,List.getElem?_eq_getElem (show 0<a.cuts.length by omega),Option.getD_some] at hz
 rcases Nat.eq_zero_or_pos j with h|h
 ·subst h;omega
 ·have:=List.pairwise_iff_getElem.1 ha.inc 0 j (by omega) hj h
  omega
end Auto
end Go.Proofs.YtjclbjdkkdijbaaGreat
