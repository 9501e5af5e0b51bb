/- Numbering where what comes next may fail. No program is named. Conditions: none. -/
import Derived.Test.YtjclbjdkkdijbaaGreatAutoP
set_option linter.unusedVariables false
set_option linter.unusedSimpArgs false
set_option linter.unusedSectionVars false
open Go.RowKit
namespace Go.Proofs.YtjclbjdkkdijbaaGreat
open L
namespace Auto
section
variable {α:Type} [DecidableEq α]
def nxO (g:α→Nat→Option α) (o:Option α) (k:Nat):Option α:=o.bind fun s=>g s k
def numO (first:α) (m:Nat) (g:α→Nat→Option α):Option (List α × List (List Nat)):=
 match numb (some first) m (nxO g) with
 | some q=>if none∈q.1 then none else some (q.1.filterMap id,q.2)
 | none=>none
theorem place_some (S:List α) (x:α):place (S.map some) (some x)=place S x:=by
 unfold place
 rw [List.findIdx_map]
 congr 1
 funext y
 simp
theorem map_some_mem {S:List α} {x:α}:some x∈S.map some↔x∈S:=by simp
theorem adds_old {S:List α} {x:α} (h:x∈S):adds (S.map some) (some x)=S.map some:=by unfold adds;rw [if_pos (map_some_mem.2 h)]
theorem adds_new {S:List α} {x:α} (h:x ∉ S):adds (S.map some) (some x)=(S++[x]).map some:=by unfold adds;rw [if_neg (fun h2=>h (map_some_mem.1 h2))];simp
variable {first:α} {m:Nat} {g:α→Nat→Option α}
theorem scan_old {f:Nat→Option α} {k:Nat} {L:List (Option α)} {S:List α} {row:List Nat} {x:α} (h:scan f k L=(S.map some,row)) (hx:f k=some x) (hm:x∈S):scan f (k+1) L=(S.map some,row++[place S x]):=by
 rw [scan,h,hx];simp only [place_some,adds_old hm]
theorem scan_new {f:Nat→Option α} {k:Nat} {L:List (Option α)} {S:List α} {row:List Nat} {x:α} (h:scan f k L=(S.map some,row)) (hx:f k=some x) (hm:x ∉ S):scan f (k+1) L=((S++[x]).map some,row++[S.length]):=by
 rw [scan,h,hx];simp only [place_some,adds_new hm,place_none hm]
theorem upTo_zero:upTo (some first) m (nxO g) 0=([first].map some,[]):=rfl
theorem upTo_step {i:Nat} {S S':List α} {T:List (List Nat)} {row:List Nat} {s:α} (h:upTo (some first) m (nxO g) i=(S.map some,T)) (hs:S[i]?=some s) (hr:scan (nxO g (some s)) m (S.map some)=(S'.map some,row)) :
 upTo (some first) m (nxO g) (i+1)=(S'.map some,T++[row]):=by
 rw [upTo,h]
 simp only [List.getElem?_map,hs,Option.map_some,hr]
theorem numO_fail {i k:Nat} {S S':List α} {T:List (List Nat)} {row:List Nat} {s:α} (h:upTo (some first) m (nxO g) i=(S.map some,T)) (hs:S[i]?=some s) (hi:i<256) (hk:k<m) (hr:scan (nxO g (some s)) k (S.map some)=(S'.map some,row))
 (hf:g s k=none):numO first m g=none:=by
 unfold numO
 cases hn:numb (some first) m (nxO g) with
 | none=>rfl
 | some q=>
  dsimp only
  unfold numb at hn
  split at hn
  ·have hq:=Option.some.inj hn
   subst hq
   have h2:(upTo (some first) m (nxO g) (i+1)).1=(scan (nxO g (some s)) m (S.map some)).1:=by
    rw [upTo,h]
    simp only [List.getElem?_map,hs,Option.map_some]
   have h3:=scan_mono (nxO g (some s)) (S.map some) (k:=k+1) (m:=m) (by omega)
   have h4:=upTo_mono (some first) m (nxO g) (i:=i+1) (j:=256) (by omega)
   have h5:(none:Option α)∈(scan (nxO g (some s)) (k+1) (S.map some)).1:=by
    rw [scan]
    simp only
    have:nxO g (some s) k=none:=by simp [nxO,hf]
    rw [this]
    exact adds_mem _ _
   rw [if_pos]
   exact h4.subset (h2 ▸ h3.subset h5)
  ·cases hn
theorem numO_many {i k:Nat} {S S':List α} {T:List (List Nat)} {row:List Nat} {s x:α} (h:upTo (some first) m (nxO g) i=(S.map some,T)) (hs:S[i]?=some s) (hi:i<256) (hk:k<m) (hr:scan (nxO g (some s)) k (S.map some)=(S'.map some,row))
 (hf:g s k=some x) (hx:x ∉ S') (h256:256≤S'.length):numO first m g=none:=by
 unfold numO
 rw [numb_none (s:=some s) (i:=i) (k:=k+1) hi (by omega) (by rw [h];simp [hs]) (by
  rw [h]
  simp only
  rw [scan_new hr (by simp [nxO,hf]) hx]
  simp
  omega)]
theorem numO_done {i:Nat} {S:List α} {T:List (List Nat)} (h:upTo (some first) m (nxO g) i=(S.map some,T)) (hl:S.length≤i) (hi:i≤256):numO first m g=some (S,T):=by
 unfold numO
 rw [numb_some (i:=i) (by rw [h];simpa using hl) hi,h]
 dsimp only
 rw [if_neg (by simp)]
 simp [List.filterMap_map]
theorem numO_some {S:List α} {T:List (List Nat)} (h:numO first m g=some (S,T)):upTo (some first) m (nxO g) 256=(S.map some,T)∧S.length≤256:=by
 unfold numO at h
 cases hn:numb (some first) m (nxO g) with
 | none=>rw [hn] at h;cases h
 | some q=>
  rw [hn] at h
  dsimp only at h
  split at h
  ·cases h
  ·rename_i hno
   unfold numb at hn
   split at hn
   ·rename_i hle
    have hq:=Option.some.inj hn
    subst hq
    obtain ⟨rfl,rfl⟩:=Prod.mk.inj (Option.some.inj h)
    have hall:((upTo (some first) m (nxO g) 256).1.filterMap id).map some=(upTo (some first) m (nxO g) 256).1:=by
     generalize (upTo (some first) m (nxO g) 256).1=l at *
     clear hle h
     induction l with
     | nil=>rfl
     | cons a l ih=>
      cases a with
      | none=>exact absurd (by simp) hno
      | some a=>
       simp only [List.filterMap_cons,id,List.map_cons]
       rw [ih (fun h=>hno (List.mem_cons_of_mem _ h))]
    refine ⟨?_,?_⟩
    ·rw [hall]
    ·have h9:=congrArg List.length hall
     rw [List.length_map] at h9
     rw [h9];exact hle
   ·cases hn
theorem numO_len {S:List α} {T:List (List Nat)} (h:numO first m g=some (S,T)):T.length=S.length:=by
 obtain ⟨h1,h2⟩:=numO_some h
 have:=upTo_full (first:=some first) (m:=m) (nx:=nxO g) (n:=256) (by rw [h1];simpa using h2)
 rw [h1] at this
 simpa using this
end
end Auto
end Go.Proofs.YtjclbjdkkdijbaaGreat
