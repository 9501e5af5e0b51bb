/- Automata as plain data: the numbering of states that are reached (program and reference number alike), classes of bytes. No program is named. Conditions: none. -/
import Derived.Test.YtjclbjdkkdijbaaGreatLib
set_option linter.unusedVariables false
set_option linter.unusedSimpArgs false
set_option linter.unusedSectionVars false
open Go.RowKit
namespace Go.Proofs.YtjclbjdkkdijbaaGreat
open L
namespace Auto
section
variable {α:Type} [DecidableEq α]
def place (l:List α) (x:α):Nat:=l.findIdx (fun y=>decide (y=x))
def adds (l:List α) (x:α):List α:=if x∈l then l else l++[x]
def scan (f:Nat→α):Nat→List α→List α × List Nat
 | 0,l=>(l,[])
 | k+1,l=>(adds (scan f k l).1 (f k),(scan f k l).2++[place (scan f k l).1 (f k)])
def upTo (first:α) (m:Nat) (nx:α→Nat→α):Nat→List α × List (List Nat)
 | 0=>([first],[])
 | i+1=>match (upTo first m nx i).1[i]? with
  | some s=>((scan (nx s) m (upTo first m nx i).1).1,(upTo first m nx i).2++[(scan (nx s) m (upTo first m nx i).1).2])
  | none=>upTo first m nx i
theorem place_le (l:List α) (x:α):place l x≤l.length:=List.findIdx_le_length
theorem place_lt {l:List α} {x:α}:place l x<l.length↔x∈l:=by
 unfold place
 rw [List.findIdx_lt_length]
 simp
theorem place_none {l:List α} {x:α} (h:x ∉ l):place l x=l.length:=by
 have h1:=place_le l x
 have h2:¬ place l x<l.length:=fun h'=>h (place_lt.1 h')
 omega
theorem adds_pre (l:List α) (x:α):l <+: adds l x:=by
 unfold adds
 split
 ·exact List.prefix_refl _
 ·exact List.prefix_append _ _
theorem adds_mem (l:List α) (x:α):x∈adds l x:=by
 unfold adds
 split
 ·assumption
 ·simp
theorem scan_len (f:Nat→α):∀ (k:Nat) (l:List α),(scan f k l).2.length=k
 | 0,_=>rfl
 | k+1,l=>by rw [scan,List.length_append,scan_len f k];rfl
theorem scan_pre (f:Nat→α):∀ (k:Nat) (l:List α),l <+: (scan f k l).1
 | 0,l=>List.prefix_refl _
 | k+1,l=>(scan_pre f k l).trans (adds_pre _ _)
theorem upTo_pre (first:α) (m:Nat) (nx:α→Nat→α) (i:Nat):(upTo first m nx i).1 <+: (upTo first m nx (i+1)).1:=by
 rw [upTo]
 split
 ·exact scan_pre _ _ _
 ·exact List.prefix_refl _
theorem upTo_done (first:α) (m:Nat) (nx:α→Nat→α) {i:Nat} (h:(upTo first m nx i).1.length≤i):∀ d,upTo first m nx (i+d)=upTo first m nx i
 | 0=>rfl
 | d+1=>by
  have ih:=upTo_done first m nx h d
  rw [show i+(d+1)=(i+d)+1 by omega,upTo,ih]
  rw [List.getElem?_eq_none_iff.2 (by omega)]
end
def cls (cuts:List Int) (c:Int):Nat:=cuts.countP (fun x=>decide (x≤c)) - 1
theorem cnt_iff {c:Int}:∀ {cs:List Int},cs.Pairwise (·<·)→∀ {i:Nat} (h:i<cs.length),cs[i]≤c↔i<cs.countP (fun x=>decide (x≤c))
 | [],_,i,h=>by simp at h
 | x::cs,hs,i,h=>by
  obtain ⟨h1,h2⟩:=List.pairwise_cons.1 hs
  rw [List.countP_cons]
  by_cases hx:x≤c
  ·simp only [hx,decide_true,if_true]
   cases i with
   | zero=>simp [hx]
   | succ i=>
    have:=cnt_iff (c:=c) h2 (i:=i) (by simpa using h)
    simp only [List.getElem_cons_succ]
    omega
  ·have h0:cs.countP (fun x=>decide (x≤c))=0:=by
    rw [List.countP_eq_zero]
    intro y hy
    have:=h1 y hy
    simp only [decide_eq_true_eq]
    omega
   rw [h0]
   simp only [hx,decide_false,Bool.false_eq_true,if_false]
   cases i with
   | zero=>simpa using hx
   | succ i=>
    have:=h1 (cs[i]'(by simpa using h)) (List.getElem_mem _)
    simp only [List.getElem_cons_succ]
    omega
theorem cut_of {cs:List Int} {c:Int} (hs:cs.Pairwise (·<·)) (h0:(0:Int)∈cs) (hc:0≤c):∃ h:cls cs c<cs.length,cs[cls cs c]≤c∧∀ x∈cs,x≤c→x≤cs[cls cs c]:=by
 have hk:0<cs.countP (fun x=>decide (x≤c)):=List.countP_pos_iff.2 ⟨0,h0,by simpa using hc⟩
 have hl:cs.countP (fun x=>decide (x≤c))≤cs.length:=List.countP_le_length
 have hlt:cls cs c<cs.length:=by unfold cls;omega
 refine ⟨hlt,(cnt_iff hs hlt).2 (by unfold cls;omega),fun x hx hxc=>?_⟩
 obtain ⟨i,hi,rfl⟩:=List.getElem_of_mem hx
 have h1:=(cnt_iff hs hi).1 hxc
 rcases Nat.lt_or_ge i (cls cs c) with h2|h2
 ·exact Int.le_of_lt (List.pairwise_iff_getElem.1 hs i _ hi hlt h2)
 ·have:i=cls cs c:=by unfold cls at *;omega
  subst this
  exact Int.le_refl _
structure Au where
 cuts:List Int
 next:List (List Int)
 acc:List Bool
def vErr (a:Au):Int:=
 if 256<a.next.length∨256<a.acc.length then 4
 else if a.next.length=0∨a.acc.length≠a.next.length∨a.cuts.length=0∨a.cuts.getD 0 0≠0 then 1
 else if ¬ (∀ i,i<a.cuts.length→1≤i→a.cuts.getD (i-1) 0<a.cuts.getD i 0∧a.cuts.getD i 0≤255) then 1
 else if ¬ (∀ l∈a.next,l.length=a.cuts.length∧∀ s∈l,0≤s∧s<a.next.length) then 1 else 0
def runA (a:Au) (s:Nat) (w:List Int):Nat:=w.foldl (fun s c=>((a.next.getD s []).getD (cls a.cuts c) 0).toNat) s
structure Ok (a:Au):Prop where
 few:a.next.length≤256
 some_:0<a.next.length
 acc:a.acc.length=a.next.length
 zero:a.cuts.getD 0 1=0
 inc:a.cuts.Pairwise (·<·)
 top:∀ x∈a.cuts,x≤255
 rows:∀ l∈a.next,l.length=a.cuts.length∧∀ s∈l,0≤s∧s<a.next.length
theorem Ok.mem0 {a:Au} (h:Ok a):(0:Int)∈a.cuts:=by
 have h0:=h.zero
 cases hc:a.cuts with
 | nil=>rw [hc] at h0;simp at h0
 | cons x l=>rw [hc] at h0;simp at h0;subst h0;simp
theorem Ok.step {a:Au} (h:Ok a) {s:Nat} (hs:s<a.next.length) {c:Int} (hc:0≤c):((a.next.getD s []).getD (cls a.cuts c) 0).toNat<a.next.length:=by
 obtain ⟨hlt,_,_⟩:=cut_of h.inc h.mem0 hc
 have hm:a.next.getD s []∈a.next:=by rw [List.getD_eq_getElem?_getD,List.getElem?_eq_getElem hs];exact List.getElem_mem _
 generalize a.next.getD s []=l at *
 obtain ⟨h1,h2⟩:=h.rows _ hm
 have h3:l.getD (cls a.cuts c) 0∈l:=by
  rw [List.getD_eq_getElem?_getD,List.getElem?_eq_getElem (by omega)]
  exact List.getElem_mem _
 have:=h2 _ h3
 omega
theorem Ok.run {a:Au} (h:Ok a):∀ (w:List Int) {s:Nat},s<a.next.length→(∀ c∈w,0≤c)→runA a s w<a.next.length
 | [],s,hs,_=>hs
 | c::w,s,hs,hw=>Ok.run h w (h.step hs (hw c (by simp))) (fun d hd=>hw d (by simp [hd]))
theorem upTo_rows' {α:Type} [DecidableEq α] (first:α) (m:Nat) (nx:α→Nat→α):∀ i,((upTo first m nx i).2.length=i∧i≤(upTo first m nx i).1.length)∨((upTo first m nx i).2.length=(upTo first m nx i).1.length∧(upTo first m nx i).1.length≤i)
 | 0=>.inl ⟨rfl,Nat.zero_le _⟩
 | i+1=>by
  rw [upTo]
  cases hs:(upTo first m nx i).1[i]? with
  | some s=>
   simp only [List.length_append,List.length_singleton]
   have h1:=(List.getElem?_eq_some_iff.1 hs).1
   have h2:=(scan_pre (nx s) m (upTo first m nx i).1).length_le
   rcases upTo_rows' first m nx i with ⟨h3,h4⟩|⟨h3,h4⟩
   ·left;omega
   ·omega
  | none=>
   simp only
   have h1:=List.getElem?_eq_none_iff.1 hs
   rcases upTo_rows' first m nx i with ⟨h3,h4⟩|⟨h3,h4⟩
   ·right;omega
   ·right;omega
theorem upTo_full {α:Type} [DecidableEq α] {first:α} {m:Nat} {nx:α→Nat→α} {n:Nat} (h:(upTo first m nx n).1.length≤n):(upTo first m nx n).2.length=(upTo first m nx n).1.length:=by
 rcases upTo_rows' first m nx n with h1|h1 <;> omega
def stepA (a:Au) (s:Nat) (c:Int):Nat:=((a.next.getD s []).getD (cls a.cuts c) 0).toNat
def leftN (a:Au):Nat→Nat→Bool
 | 0,s=>a.acc.getD s false
 | n+1,s=>(a.next.getD s []).any fun t=>leftN a n t.toNat
def fwd (a:Au) (s:Nat):Nat→Nat→Prop
 | 0,t=>t=s
 | n+1,t=>∃ u,u<a.next.length∧fwd a s n u∧(t:Int)∈a.next.getD u []
theorem row_nil {a:Au} {u:Nat} (h:¬ u<a.next.length):a.next.getD u []=[]:=by
 rw [List.getD_eq_getElem?_getD,List.getElem?_eq_none (by omega)]
 rfl
theorem left_fwd {a:Au} (ha:Ok a) (s:Nat):∀ (n m:Nat),(∃ t,fwd a s m t∧leftN a n t=true)↔∃ t,fwd a s (m+n) t∧a.acc.getD t false=true
 | 0,m=>Iff.rfl
 | n+1,m=>by
  rw [show m+(n+1)=(m+1)+n by omega,←left_fwd ha s n (m+1)]
  constructor
  ·rintro ⟨t,h1,h2⟩
   rw [leftN,List.any_eq_true] at h2
   obtain ⟨u,hu,h3⟩:=h2
   by_cases ht:t<a.next.length
   ·have hm:a.next.getD t []∈a.next:=by rw [List.getD_eq_getElem?_getD,List.getElem?_eq_getElem ht];exact List.getElem_mem _
    have:=(ha.rows _ hm).2 u hu
    refine ⟨u.toNat,⟨t,ht,h1,?_⟩,h3⟩
    rw [Int.toNat_of_nonneg this.1]
    exact hu
   ·rw [row_nil ht] at hu
    simp at hu
  ·rintro ⟨u,⟨t,ht,h1,h2⟩,h3⟩
   refine ⟨t,h1,?_⟩
   rw [leftN,List.any_eq_true]
   exact ⟨(u:Int),h2,by rw [Int.toNat_natCast];exact h3⟩
theorem left_iff {a:Au} (ha:Ok a) (s n:Nat):leftN a n s=true↔∃ t,fwd a s n t∧a.acc.getD t false=true:=by
 have h:=left_fwd ha s n 0
 rw [Nat.zero_add] at h
 rw [←h]
 exact ⟨fun h=>⟨s,rfl,h⟩,fun ⟨t,h1,h2⟩=>by
  have:t=s:=h1
  rw [←this];exact h2⟩
theorem inc_unique:∀ {l1 l2:List Int},l1.Pairwise (·<·)→l2.Pairwise (·<·)→(∀ x,x∈l1↔x∈l2)→l1=l2
 | [],[],_,_,_=>rfl
 | [],y::l2,_,_,h=>by have:=(h y).2 (by simp);simp at this
 | x::l1,[],_,_,h=>by have:=(h x).1 (by simp);simp at this
 | x::l1,y::l2,h1,h2,h=>by
  obtain ⟨a1,a2⟩:=List.pairwise_cons.1 h1
  obtain ⟨b1,b2⟩:=List.pairwise_cons.1 h2
  have e:x=y:=by
   rcases List.mem_cons.1 ((h x).1 (by simp)) with e|hx
   ·exact e
   ·rcases List.mem_cons.1 ((h y).2 (by simp)) with e|hy
    ·exact e.symm
    ·have:=a1 y hy;have:=b1 x hx;omega
  subst e
  congr 1
  refine inc_unique a2 b2 (fun z=>?_)
  constructor
  ·intro hz
   rcases List.mem_cons.1 ((h z).1 (by simp [hz])) with e|h3
   ·have:=a1 z hz;omega
   ·exact h3
  ·intro hz
   rcases List.mem_cons.1 ((h z).2 (by simp [hz])) with e|h3
   ·have:=b1 z hz;omega
   ·exact h3
def putC:List Int→Int→List Int
 | [],n=>[n]
 | x::l,n=>if x<n then x::putC l n else if x=n then x::l else n::x::l
theorem putC_mem (n x:Int):∀ l,x∈putC l n↔x∈l∨x=n
 | []=>by simp [putC]
 | y::l=>by
  unfold putC
  split
  ·rw [List.mem_cons,putC_mem n x l,List.mem_cons,or_assoc]
  ·split
   ·rename_i h
    subst h
    constructor
    ·exact .inl
    ·rintro (h|h)
     ·exact h
     ·rw [h];simp
   ·rw [List.mem_cons,or_comm]
theorem putC_inc (n:Int):∀ {l:List Int},l.Pairwise (·<·)→(putC l n).Pairwise (·<·)
 | [],_=>by simp [putC]
 | y::l,h=>by
  obtain ⟨h1,h2⟩:=List.pairwise_cons.1 h
  unfold putC
  split
  ·rename_i hy
   refine List.pairwise_cons.2 ⟨fun z hz=>?_,putC_inc n h2⟩
   rcases (putC_mem n z l).1 hz with hz|hz
   ·exact h1 z hz
   ·omega
  ·split
   ·exact h
   ·rename_i ha hb
    refine List.pairwise_cons.2 ⟨fun z hz=>?_,h⟩
    rcases List.mem_cons.1 hz with hz|hz
    ·omega
    ·have:=h1 z hz;omega
def putAllC (l r:List Int):List Int:=r.foldl putC l
theorem putAllC_spec:∀ (r:List Int) {l:List Int},l.Pairwise (·<·)→(putAllC l r).Pairwise (·<·)∧∀ x,x∈putAllC l r↔x∈l∨x∈r
 | [],l,h=>⟨h,fun x=>by simp [putAllC]⟩
 | y::r,l,h=>by
  obtain ⟨h1,h2⟩:=putAllC_spec r (putC_inc y h)
  refine ⟨h1,fun x=>?_⟩
  have:=h2 x
  unfold putAllC at *
  rw [List.foldl_cons,this,putC_mem,List.mem_cons,or_assoc]
section
variable {α:Type} [DecidableEq α]
theorem scan_mono (f:Nat→α) (l:List α) {k:Nat}:∀ {m:Nat},k≤m→(scan f k l).1 <+: (scan f m l).1
 | 0,h=>by obtain rfl:k=0:=by omega
           exact List.prefix_refl _
 | m+1,h=>by
  rcases Nat.lt_or_ge k (m+1) with h1|h1
  ·exact (scan_mono f l (show k≤m by omega)).trans (adds_pre _ _)
  ·obtain rfl:k=m+1:=by omega
   exact List.prefix_refl _
theorem upTo_mono (first:α) (m:Nat) (nx:α→Nat→α) {i:Nat}:∀ {j:Nat},i≤j→(upTo first m nx i).1 <+: (upTo first m nx j).1
 | 0,h=>by obtain rfl:i=0:=by omega
           exact List.prefix_refl _
 | j+1,h=>by
  rcases Nat.lt_or_ge i (j+1) with h1|h1
  ·exact (upTo_mono first m nx (show i≤j by omega)).trans (upTo_pre first m nx j)
  ·obtain rfl:i=j+1:=by omega
   exact List.prefix_refl _
def numb (first:α) (m:Nat) (nx:α→Nat→α):Option (List α × List (List Nat)):=
 if (upTo first m nx 256).1.length≤256 then some (upTo first m nx 256) else none
theorem numb_none {first:α} {m:Nat} {nx:α→Nat→α} {i k:Nat} {s:α} (hi:i<256) (hk:k≤m) (hs:(upTo first m nx i).1[i]?=some s) (h:256<(scan (nx s) k (upTo first m nx i).1).1.length):numb first m nx=none:=by
 have h1:=(scan_mono (nx s) (upTo first m nx i).1 hk).length_le
 have h2:(upTo first m nx (i+1)).1=(scan (nx s) m (upTo first m nx i).1).1:=by rw [upTo,hs]
 have h3:=(upTo_mono first m nx (i:=i+1) (j:=256) (by omega)).length_le
 rw [h2] at h3
 unfold numb
 rw [if_neg (by omega)]
theorem numb_some {first:α} {m:Nat} {nx:α→Nat→α} {i:Nat} (h:(upTo first m nx i).1.length≤i) (hi:i≤256):numb first m nx=some (upTo first m nx i):=by
 have e:=upTo_done first m nx h (256-i)
 rw [show i+(256-i)=256 by omega] at e
 unfold numb
 rw [e,if_pos (by omega)]
end
end Auto
end Go.Proofs.YtjclbjdkkdijbaaGreat
