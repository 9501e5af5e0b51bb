/- Slices of slices of ints; parts of a slice. No program is named. Conditions: none. -/
import Derived.Test.YtjclbjdkkdijbaaGreatLib2
set_option linter.unusedVariables false
set_option linter.unusedSimpArgs false
set_option linter.unusedSectionVars false
open Go.RowKit
namespace Go.Proofs.YtjclbjdkkdijbaaGreat
namespace L
structure CL (w:World) (lv:Value) (cs:List (List Int)):Prop where
 ex:∃ vals:List Value,vals.length=cs.length∧SL w 1 lv cs.length vals∧∀ (i:Nat) (c:List Int),cs[i]?=some c→∃ v,vals[i]?=some v∧SL w 1 v c.length (ints c)
theorem CL.upd {w w':World} {lv:Value} {cs:List (List Int)} (h:CL w lv cs) (hu:Upd [] w w'):CL w' lv cs:=by
 obtain ⟨vals,h1,h2,h3⟩:=h.ex
 refine ⟨vals,h1,h2.upd hu (by simp),fun i c hc=>?_⟩
 obtain ⟨v,hv,hs⟩:=h3 i c hc
 exact ⟨v,hv,hs.upd hu (by simp)⟩
theorem OwnL.cl {e:TypeId} {w0 w:World} {ov:Value} {cs:List (List Int)} {F:List Nat} (h:OwnL e w0 ov cs F w):CL w ov cs:=by
 obtain ⟨vals,h1,h2⟩:=h.ex
 refine ⟨vals,by have:=h1.row.1;omega,h1.sl,fun i c hc=>?_⟩
 obtain ⟨y,hy,hs,_⟩:=h2 i c hc
 exact ⟨y,hy,hs⟩
def CellAt (w:World) (a:Option Addr) (k:Nat) (c:List Int):Prop:=
 ∃ g off ay capy,a=some ⟨g,off,none⟩∧w.cell? ⟨g,off+k,none⟩=some (.slice ay c.length capy)∧SL w 1 (.slice ay c.length capy) c.length (ints c)∧c.length≤capy∧capy≤9223372036854775807
theorem CL.form {w:World} {lv:Value} {cs:List (List Int)} (h:CL w lv cs):∃ a cap,lv=.slice a cs.length cap∧cs.length≤cap∧cap≤9223372036854775807∧∀ k,k<cs.length→CellAt w a k (cs.getD k []):=by
 obtain ⟨vals,h1,h2,h3⟩:=h.ex
 obtain ⟨hl,a,cap,rfl,q1,q2,q3,q4⟩:=h2
 refine ⟨a,cap,rfl,q1,q2,fun k hk=>?_⟩
 rcases q4 with q4|⟨b,off,rfl,q4⟩
 ·omega
 ·have hg:cs[k]?=some (cs.getD k []):=by rw [List.getD_eq_getElem?_getD,List.getElem?_eq_getElem hk];rfl
  obtain ⟨v,hv,hs⟩:=h3 k _ hg
  obtain ⟨l1,ay,capy,rfl,r1,r2,_,_⟩:=id hs
  exact ⟨b,off,ay,capy,rfl,q4 k _ hv,hs,r1,r2⟩
theorem CellAt.upd {w w':World} {a:Option Addr} {k:Nat} {c:List Int} (h:CellAt w a k c) (hu:Upd [] w w'):CellAt w' a k c:=by
 obtain ⟨g,off,ay,capy,h1,h2,h3,h4⟩:=h
 exact ⟨g,off,ay,capy,h1,hu.some h2 (by simp),h3.upd hu (by simp),h4⟩
theorem SL.elems {w:World} {v:Value} {n:Nat} {cs:List Value} (h:SL w 1 v n cs):∃ a cap,v=.slice a n cap∧n≤cap∧cap≤9223372036854775807∧(0<n→∃ g off,a=some ⟨g,off,none⟩∧∀ j u,cs[j]?=some u→w.cell? ⟨g,off+j,none⟩=some u):=by
 obtain ⟨h1,a,cap,rfl,h2,h3,_,h4⟩:=h
 refine ⟨a,cap,rfl,h2,h3,fun hn=>?_⟩
 rcases h4 with h4|⟨b,off,rfl,h4⟩
 ·omega
 ·exact ⟨b,off,rfl,h4⟩
theorem SL.take_ {w:World} {a:Option Addr} {n m cap:Nat} {xs:List Int} (h:SL w 1 (.slice a n cap) n (ints xs)) (hm:m≤n):SL w 1 (.slice a m cap) m (ints (xs.take m)):=by
 obtain ⟨h1,a',cap',he,h2,h3,h5,h4⟩:=h
 cases he
 rw [ints_length] at h1
 refine ⟨by rw [ints_length,List.length_take];omega,a,cap,rfl,by omega,h3,h5,?_⟩
 rcases h4 with h4|⟨b,off,rfl,h4⟩
 ·left;omega
 ·refine .inr ⟨b,off,rfl,fun j u hj=>h4 j u ?_⟩
  unfold ints at hj ⊢
  rw [List.map_take,List.getElem?_take] at hj
  split at hj
  ·exact hj
  ·cases hj
theorem SL.upto {w:World} {a:Option Addr} {n m cap:Nat} {xs:List Int} (h:SL w 1 (.slice a n cap) n (ints xs)) (hm:m≤n):SL w 1 (sliced a 0 m cap 1) m (ints (xs.take m)):=by
 unfold sliced
 obtain ⟨h1,a',cap',he,h2,h3,h5,h4⟩:=SL.take_ h hm
 cases he
 refine ⟨h1,_,_,rfl,by omega,by omega,?_,?_⟩
 ·intro hn
  split at hn
  ·omega
  ·cases a with
   | none=>have:=h5 rfl;omega
   | some x=>cases hn
 ·rcases h4 with h4|⟨b,off,rfl,h4⟩
  ·exact .inl h4
  ·by_cases hc:cap=0
   ·left;omega
   ·right
    rw [if_neg hc]
    exact ⟨b,off,by simp [addr_add],h4⟩
theorem SL.from_ {w:World} {a:Option Addr} {n cap i:Nat} {cs:List Value} (h:SL w 1 (.slice a n cap) n cs) (hi:i≤n):SL w 1 (sliced a i n cap 1) (n-i) (cs.drop i):=by
 unfold sliced
 rw [Nat.mul_one]
 obtain ⟨h1,a',cap',he,h2,h3,h5,h4⟩:=h
 cases he
 refine ⟨by rw [List.length_drop];omega,_,_,rfl,by omega,by omega,?_,?_⟩
 ·intro hn
  split at hn
  ·omega
  ·cases a with
   | none=>have:=h5 rfl;omega
   | some x=>cases hn
 ·rcases h4 with h4|⟨b,off,rfl,h4⟩
  ·left;omega
  ·by_cases hc:cap=i
   ·left;omega
   ·right
    rw [if_neg hc]
    refine ⟨b,off+i,by simp [addr_add],fun j u hj=>?_⟩
    rw [List.getElem?_drop] at hj
    have:=h4 (i+j) u hj
    rwa [Nat.add_assoc]
theorem CL.from_ {w:World} {a:Option Addr} {cap i:Nat} {cs:List (List Int)} (h:CL w (.slice a cs.length cap) cs) (hi:i≤cs.length):CL w (sliced a i cs.length cap 1) (cs.drop i):=by
 obtain ⟨vals,h1,h2,h3⟩:=h.ex
 have e:(cs.drop i).length=cs.length-i:=List.length_drop
 refine ⟨vals.drop i,by rw [List.length_drop,e,h1],by rw [e];exact SL.from_ h2 hi,fun j c hj=>?_⟩
 rw [List.getElem?_drop] at hj ⊢
 exact h3 _ _ hj
theorem CL.of_blk {w:World} {b:Nat} {vals:List Value} {cs:List (List Int)} {e:TypeId} (h:Blk w b vals e) (hl:vals.length=cs.length) (hm:cs.length≤1000)
 (hs:∀ (i:Nat) (c:List Int),cs[i]?=some c→∃ v,vals[i]?=some v∧SL w 1 v c.length (ints c)):CL w (.slice (some ⟨b,0,none⟩) cs.length cs.length) cs:=
 ⟨vals,hl,SL.of_blk (pad:=[]) (by simpa using h) (by omega) (Nat.le_refl _) (by unfold maxLen;omega),hs⟩
theorem gd_some {α:Type} {l:List α} {k:Nat} {d:α} (h:k<l.length):l[k]?=some (l.getD k d):=by
 rw [List.getD_eq_getElem?_getD,List.getElem?_eq_getElem h]
 rfl
theorem gd_memA {α:Type} {l:List α} {k:Nat} {d:α} (h:k<l.length):l.getD k d∈l:=List.mem_of_getElem? (gd_some h)
end L
end Go.Proofs.YtjclbjdkkdijbaaGreat
