/- Regular expressions as plain data: keys, cuts. No program is named. Conditions: none. -/
import Derived.Test.YtjclbjdkkdijbaaGreatRxN
set_option linter.unusedVariables false
set_option linter.unusedSimpArgs false
set_option linter.unusedSectionVars false
open Go.RowKit
namespace Go.Proofs.YtjclbjdkkdijbaaGreat
open L
namespace Rgx
open Rx
mutual
def keyB:Rx→List Int
 | nd k lo hi ks=>[k % 256,lo,hi,(ks.length:Int) % 256]++keyL ks
def keyL:List Rx→List Int
 | []=>[]
 | r::l=>keyB r++keyL l
end
theorem keyL_app:∀ l m:List Rx,keyL (l++m)=keyL l++keyL m
 | [],m=>rfl
 | r::l,m=>by rw [List.cons_append,keyL,keyL,keyL_app l m,List.append_assoc]
inductive Sml:Rx→Prop where
 | mk (k lo hi:Int) (ks:List Rx):0≤k→k<256→ks.length<256→(∀ r∈ks,Sml r)→Sml (nd k lo hi ks)
theorem key_inj:∀ (a:Rx),Sml a→∀ b,Sml b→∀ s t,keyB a++s=keyB b++t→a=b∧s=t:=by
 have hL:∀ l:List Rx,(∀ a∈l,Sml a→∀ b,Sml b→∀ s t,keyB a++s=keyB b++t→a=b∧s=t)→(∀ a∈l,Sml a)→∀ m:List Rx,(∀ b∈m,Sml b)→m.length=l.length→∀ s t,keyL l++s=keyL m++t→l=m∧s=t:=by
  intro l
  induction l with
  | nil=>
   intro _ _ m _ hm s t h
   obtain rfl:m=[]:=List.eq_nil_of_length_eq_zero (by simpa using hm)
   exact ⟨rfl,by simpa [keyL] using h⟩
  | cons a l ih=>
   intro h1 h2 m h3 hm s t h
   cases m with
   | nil=>simp at hm
   | cons b m=>
    rw [keyL,keyL,List.append_assoc,List.append_assoc] at h
    obtain ⟨rfl,h4⟩:=h1 a (by simp) (h2 a (by simp)) b (h3 b (by simp)) _ _ h
    obtain ⟨rfl,h5⟩:=ih (fun x hx=>h1 x (by simp [hx])) (fun x hx=>h2 x (by simp [hx])) m (fun x hx=>h3 x (by simp [hx])) (by simpa using hm) s t h4
    exact ⟨rfl,h5⟩
 intro a
 induction a using Rx.ind with
 | h k lo hi ks ih=>
  intro ha b hb s t h
  obtain ⟨k',lo',hi',ks'⟩:=b
  cases ha with
  | mk _ _ _ _ a1 a2 a3 a4=>
  cases hb with
  | mk _ _ _ _ b1 b2 b3 b4=>
  rw [keyB,keyB] at h
  simp only [List.cons_append,List.nil_append,List.cons.injEq] at h
  obtain ⟨h1,rfl,rfl,h4,h5⟩:=h
  obtain ⟨rfl,h6⟩:=hL ks ih a4 ks' b4 (by omega) s t h5
  exact ⟨by rw [show k=k' by omega],h6⟩
theorem key_inj' {a b:Rx} (ha:Sml a) (hb:Sml b) (h:keyB a=keyB b):a=b:=(key_inj a ha b hb [] [] (by rw [h])).1
theorem keyB_len:∀ r:Rx,(keyB r).length=4*nodes r:=by
 intro r
 induction r using Rx.ind with
 | h k lo hi ks ih=>
  rw [keyB,nodes,List.length_append]
  have:(keyL ks).length=4*nodesL ks:=by
   clear k lo hi
   induction ks with
   | nil=>simp [keyL,nodesL]
   | cons x l ih2=>rw [keyL,nodesL,List.length_append,ih x (by simp),ih2 (fun r hr=>ih r (by simp [hr]))];omega
  rw [this]
  simp only [List.length_cons,List.length_nil]
  omega
theorem keyB_byte:∀ r:Rx,Byt r→∀ c∈keyB r,0≤c∧c≤255:=by
 intro r
 induction r using Rx.ind with
 | h k lo hi ks ih=>
  intro hb c hc
  cases hb with
  | mk _ _ _ _ b1 b2 b3 b4 b5=>
  rw [keyB] at hc
  rcases List.mem_append.1 hc with hc|hc
  ·simp only [List.mem_cons,List.not_mem_nil,or_false] at hc
   rcases hc with rfl|rfl|rfl|rfl <;> omega
  ·have:∀ l:List Rx,(∀ r∈l,∀ c∈keyB r,0≤c∧c≤255)→∀ c∈keyL l,0≤c∧c≤255:=by
    intro l
    induction l with
    | nil=>intro _ c hc;simp [keyL] at hc
    | cons x l ih2=>
     intro h c hc
     rw [keyL] at hc
     rcases List.mem_append.1 hc with hc|hc
     ·exact h x (by simp) c hc
     ·exact ih2 (fun r hr=>h r (by simp [hr])) c hc
   exact this ks (fun r hr=>ih r hr (b5 r hr)) c hc
theorem NF.sml {r:Rx} (h:NF r) (hn:nodes r≤255):Sml r:=by
 have key:∀ {k:Int} {ks:List Rx} {lo hi:Int},nodes (nd k lo hi ks)≤255→(∀ x∈ks,nodes x≤255→Sml x)→ks.length<256∧∀ x∈ks,Sml x:=by
  intro k ks lo hi hn h
  rw [nodes] at hn
  have:=nodesL_len ks
  exact ⟨by omega,fun x hx=>h x hx (by have:=nodesL_mem hx;omega)⟩
 induction h with
 | none=>exact .mk _ _ _ _ (by omega) (by omega) (by simp) (by simp)
 | empty=>exact .mk _ _ _ _ (by omega) (by omega) (by simp) (by simp)
 | range lo hi h1=>exact .mk _ _ _ _ (by omega) (by omega) (by simp) (by simp)
 | cat ks _ _ _ ih=>exact .mk _ _ _ _ (by omega) (by omega) (key hn ih).1 (key hn ih).2
 | alt ks _ _ _ _ ih=>exact .mk _ _ _ _ (by omega) (by omega) (key hn ih).1 (key hn ih).2
 | all ks _ _ _ _ ih=>exact .mk _ _ _ _ (by omega) (by omega) (key hn ih).1 (key hn ih).2
 | not x _ _ ih=>exact .mk _ _ _ _ (by omega) (by omega) (by simp) (by intro y hy;rw [List.mem_singleton] at hy;subst hy;exact ih (by rw [nodes,nodesL] at hn;omega))
 | star x _ _ _ _ _ ih=>exact .mk _ _ _ _ (by omega) (by omega) (by simp) (by intro y hy;rw [List.mem_singleton] at hy;subst hy;exact ih (by rw [nodes,nodesL] at hn;omega))
mutual
def cutB:Rx→List Int
 | nd k lo hi ks=>(if k=2 then lo::(if hi<255 then [hi+1] else []) else [])++cutL ks
def cutL:List Rx→List Int
 | []=>[]
 | r::l=>cutB r++cutL l
end
theorem cutL_app:∀ l m:List Rx,cutL (l++m)=cutL l++cutL m
 | [],m=>rfl
 | r::l,m=>by rw [List.cons_append,cutL,cutL,cutL_app l m,List.append_assoc]
theorem cutL_mem {c:Int}:∀ {l:List Rx},c∈cutL l↔∃ r∈l,c∈cutB r
 | []=>by simp [cutL]
 | r::l=>by rw [cutL,List.mem_append,cutL_mem (l:=l)];simp
theorem cutB_len (r:Rx):(cutB r).length≤2*nodes r:=by
 induction r using Rx.ind with
 | h k lo hi ks ih=>
  rw [cutB,nodes,List.length_append]
  have:(cutL ks).length≤2*nodesL ks:=by
   clear k lo hi
   induction ks with
   | nil=>simp [cutL]
   | cons x l ih2=>
    rw [cutL,nodesL,List.length_append]
    have:=ih x (by simp)
    have:=ih2 (fun r hr=>ih r (by simp [hr]))
    omega
  have:(if k=2 then lo::(if hi<255 then [hi+1] else []) else []).length≤2:=by
   split
   ·split <;> simp
   ·simp
  omega
theorem cutB_byte:∀ r:Rx,Byt r→∀ c∈cutB r,0≤c∧c≤255:=by
 intro r
 induction r using Rx.ind with
 | h k lo hi ks ih=>
  intro hb c hc
  cases hb with
  | mk _ _ _ _ b1 b2 b3 b4 b5=>
  rw [cutB] at hc
  rcases List.mem_append.1 hc with hc|hc
  ·split at hc
   ·split at hc
    ·simp at hc;omega
    ·simp at hc;omega
   ·simp at hc
  ·obtain ⟨r,hr,hc⟩:=cutL_mem.1 hc
   exact ih r hr (b5 r hr) c hc
end Rgx
end Go.Proofs.YtjclbjdkkdijbaaGreat
