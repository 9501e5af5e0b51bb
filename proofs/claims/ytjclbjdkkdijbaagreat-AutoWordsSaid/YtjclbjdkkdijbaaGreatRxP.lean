/- Regular expressions as plain data: order, normal forms, derivatives. No program is named. Conditions: none. -/
import Derived.Test.YtjclbjdkkdijbaaGreatLib
set_option linter.unusedVariables false
set_option linter.unusedSimpArgs false
set_option linter.unusedSectionVars false
open Go.RowKit
namespace Go.Proofs.YtjclbjdkkdijbaaGreat
open L
namespace Rgx
inductive Rx where
 | nd (k lo hi:Int) (kids:List Rx)
namespace Rx
def kind:Rx→Int|nd k _ _ _=>k
def lo:Rx→Int|nd _ l _ _=>l
def hi:Rx→Int|nd _ _ h _=>h
def kids:Rx→List Rx|nd _ _ _ l=>l
theorem eta (r:Rx):nd r.kind r.lo r.hi r.kids=r:=by cases r;rfl
end Rx
open Rx
theorem Rx.ind {P:Rx→Prop} (h:∀ k lo hi ks,(∀ r∈ks,P r)→P (nd k lo hi ks)) (r:Rx):P r:=
 Rx.rec (motive_1:=P) (motive_2:=fun l=>∀ r∈l,P r) (fun k lo hi ks ih=>h k lo hi ks ih) (by simp) (fun a l ha hl r hr=>by
  rcases List.mem_cons.1 hr with rfl|hr
  ·exact ha
  ·exact hl r hr) r
def cmpI (a b:Int):Int:=if a<b then -1 else if b<a then 1 else 0
mutual
def cmpR:Rx→Rx→Int
 | nd k lo hi ks,nd k' lo' hi' ks'=>
  if cmpI k k'≠0 then cmpI k k' else if cmpI lo lo'≠0 then cmpI lo lo' else if cmpI hi hi'≠0 then cmpI hi hi' else cmpL ks ks'
def cmpL:List Rx→List Rx→Int
 | [],[]=>0
 | [],_::_=>-1
 | _::_,[]=>1
 | a::l,b::m=>if cmpR a b≠0 then cmpR a b else cmpL l m
end
theorem cmpI_zero {a b:Int}:cmpI a b=0↔a=b:=by unfold cmpI;(repeat' split) <;> omega
theorem cmpI_neg (a b:Int):cmpI b a=- cmpI a b:=by unfold cmpI;(repeat' split) <;> omega
theorem cmpI_lt {a b:Int}:cmpI a b<0↔a<b:=by unfold cmpI;(repeat' split) <;> omega
theorem cmp_zero:(∀ a b,cmpR a b=0↔a=b)∧∀ l m,cmpL l m=0↔l=m:=by
 have hL:∀ l:List Rx,(∀ a∈l,∀ b,cmpR a b=0↔a=b)→∀ m,cmpL l m=0↔l=m:=by
  intro l
  induction l with
  | nil=>intro _ m;cases m <;> simp [cmpL]
  | cons a l ih=>
   intro h m
   cases m with
   | nil=>simp [cmpL]
   | cons b m=>
    have h1:=h a (by simp) b
    have h2:=ih (fun x hx=>h x (by simp [hx])) m
    rw [cmpL,List.cons.injEq]
    split
    ·rename_i h3
     constructor
     ·intro h4;exact absurd h4 h3
     ·rintro ⟨h4,_⟩;exact absurd (h1.2 h4) h3
    ·rename_i h3
     have h3:cmpR a b=0:=by simpa using h3
     rw [h2]
     exact ⟨fun h=>⟨h1.1 h3,h⟩,fun h=>h.2⟩
 have hR:∀ a b,cmpR a b=0↔a=b:=by
  intro a
  induction a using Rx.ind with
  | h k lo hi ks ih=>
   intro b
   obtain ⟨k',lo',hi',ks'⟩:=b
   rw [cmpR,Rx.nd.injEq]
   split
   ·rename_i h;exact ⟨fun h'=>absurd h' h,fun h'=>absurd (cmpI_zero.2 h'.1) h⟩
   ·rename_i h1
    split
    ·rename_i h;exact ⟨fun h'=>absurd h' h,fun h'=>absurd (cmpI_zero.2 h'.2.1) h⟩
    ·rename_i h2
     split
     ·rename_i h;exact ⟨fun h'=>absurd h' h,fun h'=>absurd (cmpI_zero.2 h'.2.2.1) h⟩
     ·rename_i h3
      have h1:=cmpI_zero.1 (by simpa using h1)
      have h2:=cmpI_zero.1 (by simpa using h2)
      have h3:=cmpI_zero.1 (by simpa using h3)
      rw [hL ks ih ks']
      exact ⟨fun h=>⟨h1,h2,h3,h⟩,fun h=>h.2.2.2⟩
 exact ⟨hR,fun l=>hL l fun a _=>hR a⟩
theorem cmpR_zero {a b:Rx}:cmpR a b=0↔a=b:=cmp_zero.1 a b
theorem cmpR_self (a:Rx):cmpR a a=0:=cmpR_zero.2 rfl
instance:DecidableEq Rx:=fun a b=>decidable_of_iff _ (cmpR_zero (a:=a) (b:=b))
theorem cmpR_neg:∀ a b,cmpR b a=- cmpR a b:=by
 have hL:∀ l:List Rx,(∀ a∈l,∀ b,cmpR b a=- cmpR a b)→∀ m,cmpL m l=- cmpL l m:=by
  intro l
  induction l with
  | nil=>intro _ m;cases m <;> simp [cmpL]
  | cons a l ih=>
   intro h m
   cases m with
   | nil=>simp [cmpL]
   | cons b m=>
    have h1:=h a (by simp) b
    have h2:=ih (fun x hx=>h x (by simp [hx])) m
    rw [cmpL,cmpL,h1,h2]
    by_cases h0:cmpR a b=0
    ·simp [h0]
    ·rw [if_pos h0,if_pos (by omega)]
 intro a
 induction a using Rx.ind with
 | h k lo hi ks ih=>
  intro b
  obtain ⟨k',lo',hi',ks'⟩:=b
  rw [cmpR,cmpR,hL ks ih ks',cmpI_neg k k',cmpI_neg lo lo',cmpI_neg hi hi']
  by_cases h1:cmpI k k'=0
  ·by_cases h2:cmpI lo lo'=0
   ·by_cases h3:cmpI hi hi'=0
    ·simp [h1,h2,h3]
    ·simp [h1,h2,h3]
   ·simp [h1,h2]
  ·simp [h1]
theorem cmpI_tr {a b c:Int} (h1:cmpI a b<0) (h2:cmpI b c<0):cmpI a c<0:=by rw [cmpI_lt] at *;omega
theorem cmpI_lex {k k' k2 x y z:Int} (h1:(if cmpI k k'≠0 then cmpI k k' else x)<0) (h2:(if cmpI k' k2≠0 then cmpI k' k2 else y)<0) (h:x<0→y<0→z<0):(if cmpI k k2≠0 then cmpI k k2 else z)<0:=by
 by_cases e1:cmpI k k'=0
 ·have:=cmpI_zero.1 e1;subst this
  rw [if_neg (by simpa using e1)] at h1
  by_cases e2:cmpI k k2=0
  ·rw [if_neg (by simpa using e2)] at h2 ⊢;exact h h1 h2
  ·rw [if_pos e2] at h2 ⊢;exact h2
 ·rw [if_pos e1] at h1
  by_cases e2:cmpI k' k2=0
  ·have:=cmpI_zero.1 e2;subst this
   rw [if_pos e1];exact h1
  ·rw [if_pos e2] at h2
   have:=cmpI_tr h1 h2
   rw [if_pos (by omega)];exact this
theorem cmpR_tr:∀ a b c,cmpR a b<0→cmpR b c<0→cmpR a c<0:=by
 have hL:∀ l:List Rx,(∀ a∈l,∀ b c,cmpR a b<0→cmpR b c<0→cmpR a c<0)→∀ m n,cmpL l m<0→cmpL m n<0→cmpL l n<0:=by
  intro l
  induction l with
  | nil=>
   intro _ m n h1 h2
   cases n with
   | nil=>cases m <;> simp [cmpL] at h2
    <;> simp [cmpL] at h1
   | cons c n=>simp [cmpL]
  | cons a l ih=>
   intro h m n h1 h2
   cases m with
   | nil=>simp [cmpL] at h1
   | cons b m=>
    cases n with
    | nil=>simp [cmpL] at h2
    | cons c n=>
     have h3:=h a (by simp) b c
     have h4:=ih (fun x hx=>h x (by simp [hx])) m n
     rw [cmpL] at h1 h2 ⊢
     by_cases e1:cmpR a b=0
     ·have:=cmpR_zero.1 e1;subst this
      rw [if_neg (by simpa using e1)] at h1
      by_cases e2:cmpR a c=0
      ·rw [if_neg (by simpa using e2)] at h2 ⊢
       exact h4 h1 h2
      ·rw [if_pos e2] at h2 ⊢
       exact h2
     ·rw [if_pos e1] at h1
      by_cases e2:cmpR b c=0
      ·have:=cmpR_zero.1 e2;subst this
       rw [if_pos e1];exact h1
      ·rw [if_pos e2] at h2
       have:=h3 h1 h2
       rw [if_pos (by omega)]
       exact this
 intro a
 induction a using Rx.ind with
 | h k lo hi ks ih=>
  intro b c h1 h2
  obtain ⟨k',lo',hi',ks'⟩:=b
  obtain ⟨k2,lo2,hi2,ks2⟩:=c
  rw [cmpR] at h1 h2 ⊢
  exact cmpI_lex h1 h2 fun h1 h2=>cmpI_lex h1 h2 fun h1 h2=>cmpI_lex h1 h2 (hL ks ih ks' ks2)
def ltR (a b:Rx):Bool:=decide (cmpR a b<0)
theorem ltR_irr (a:Rx):ltR a a=false:=by simp [ltR,cmpR_self]
theorem ltR_tr {a b c:Rx} (h1:ltR a b=true) (h2:ltR b c=true):ltR a c=true:=by
 simp only [ltR,decide_eq_true_eq] at *;exact cmpR_tr a b c h1 h2
theorem ltR_tri (a b:Rx):ltR a b=true∨a=b∨ltR b a=true:=by
 simp only [ltR,decide_eq_true_eq,←cmpR_zero (a:=a)]
 have:=cmpR_neg a b
 omega
mutual
def nodes:Rx→Nat
 | nd _ _ _ ks=>1+nodesL ks
def nodesL:List Rx→Nat
 | []=>0
 | r::l=>nodes r+nodesL l
end
theorem nodes_pos (r:Rx):0<nodes r:=by cases r;rw [nodes];omega
theorem nodesL_len:∀ l:List Rx,l.length≤nodesL l
 | []=>Nat.le_refl _
 | r::l=>by rw [nodesL,List.length_cons];have:=nodesL_len l;have:=nodes_pos r;omega
theorem nodesL_mem {r:Rx}:∀ {l:List Rx},r∈l→nodes r≤nodesL l
 | x::l,h=>by
  rw [nodesL]
  rcases List.mem_cons.1 h with rfl|h
  ·omega
  ·have:=nodesL_mem h;omega
theorem nodesL_app:∀ l m:List Rx,nodesL (l++m)=nodesL l+nodesL m
 | [],m=>by simp [nodesL]
 | r::l,m=>by rw [List.cons_append,nodesL,nodesL,nodesL_app l m];omega
mutual
def proper:Rx→Bool
 | nd k lo hi ks=>(k == 2 || (lo == 0 && hi == 0)) &&
  (if k=0∨k=1 then ks.isEmpty else if k=2 then ks.isEmpty && decide (lo≤hi) else if k=3∨k=4∨k=5 then properL ks else if k=6∨k=7 then decide (ks.length=1) && properL ks else false)
def properL:List Rx→Bool
 | []=>true
 | r::l=>proper r && properL l
end
theorem properL_iff:∀ l:List Rx,properL l=true↔∀ r∈l,proper r=true
 | []=>by simp [properL]
 | r::l=>by rw [properL,Bool.and_eq_true,properL_iff l];simp
def vErr (r:Rx):Int:=if 64<nodes r then 4 else if proper r then 0 else 1
def rNone:Rx:=nd 0 0 0 []
def rEmpty:Rx:=nd 1 0 0 []
def rAll:Rx:=nd 6 0 0 [rNone]
def flat (k:Int) (ks:List Rx):List Rx:=ks.flatMap fun r=>if r.kind=k then r.kids else [r]
def putR:List Rx→Rx→List Rx
 | [],n=>[n]
 | x::l,n=>if ltR x n then x::putR l n else if x=n then x::l else n::x::l
def sortR (l:List Rx):List Rx:=l.foldl putR []
def joinE (k:Int) (unit zero:Rx) (ks:List Rx):Rx:=
 let fl:=(flat k ks).filter fun r=>decide (r≠unit)
 if zero∈fl then zero else
  match (if k=3 then fl else sortR fl) with
  | []=>unit
  | [x]=>x
  | l=>nd k 0 0 l
def form:Rx→Rx
 | nd k lo hi ks=>
  if k=3 then joinE 3 rEmpty rNone ks
  else if k=4 then joinE 4 rNone rAll ks
  else if k=5 then joinE 5 rAll rNone ks
  else if k=6 then (if (ks.headD rNone).kind=6 then (ks.headD rNone).kids.headD rNone else nd k lo hi ks)
  else if k=7 then (if (ks.headD rNone).kind=0∨(ks.headD rNone).kind=1 then rEmpty else if (ks.headD rNone).kind=7∨ks.headD rNone=rAll then ks.headD rNone else nd k lo hi ks)
  else nd k lo hi ks
mutual
def norm:Rx→Rx
 | nd k lo hi ks=>form (nd k lo hi (normL ks))
def normL:List Rx→List Rx
 | []=>[]
 | r::l=>norm r::normL l
end
theorem normL_map:∀ l:List Rx,normL l=l.map norm
 | []=>rfl
 | r::l=>by rw [normL,normL_map l];rfl
mutual
def nul:Rx→Bool
 | nd k _ _ ks=>if k=1∨k=7 then true else if k=3∨k=5 then (nulL ks).all id else if k=4 then (nulL ks).any id else if k=6 then !((nulL ks).headD true) else false
def nulL:List Rx→List Bool
 | []=>[]
 | r::l=>nul r::nulL l
end
theorem nulL_map:∀ l:List Rx,nulL l=l.map nul
 | []=>rfl
 | r::l=>by rw [nulL,nulL_map l];rfl
mutual
def der (c:Int):Rx→Rx
 | nd k lo hi ks=>
  if k=2 then (if lo≤c∧c≤hi then rEmpty else rNone)
  else if k=3 then form (nd 4 0 0 (derC c ks))
  else if k=4∨k=5∨k=6 then form (nd k 0 0 (derL c ks))
  else if k=7 then form (nd 3 0 0 ((derL c ks).take 1++[nd k lo hi ks]))
  else rNone
def derL (c:Int):List Rx→List Rx
 | []=>[]
 | r::l=>der c r::derL c l
def derC (c:Int):List Rx→List Rx
 | []=>[]
 | r::l=>form (nd 3 0 0 (der c r::l))::(if nul r then derC c l else [])
end
theorem derL_map (c:Int):∀ l:List Rx,derL c l=l.map (der c)
 | []=>rfl
 | r::l=>by rw [derL,derL_map c l];rfl
def lim (r:Rx):Option Rx:=if 64<nodes r then none else some r
end Rgx
end Go.Proofs.YtjclbjdkkdijbaaGreat
