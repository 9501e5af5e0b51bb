/- Automata under construction in memory, as Minimal makes them: rows that grow in place. Conditions: none. Walks through package auto: Minimal. Conditions: none. Walks through the reference model of package auto: alike, blocks. Conditions: none. Walks through the reference model of package auto: merged. Conditions: none. -/
import Derived.Test.YtjclbjdkkdijbaaGreatRfZf
import Derived.Test.YtjclbjdkkdijbaaGreatAutoY
import Derived.Test.YtjclbjdkkdijbaaGreatAuZm
import Derived.Test.YtjclbjdkkdijbaaGreatAuF
import Derived.Test.YtjclbjdkkdijbaaGreatAuE
import Derived.Deep.LoopGhost
import Derived.Test.YtjclbjdkkdijbaaGreatAuZb
import Derived.Test.YtjclbjdkkdijbaaGreatAuZd
import Derived.Test.YtjclbjdkkdijbaaGreatAuK
set_option linter.unusedVariables false
set_option linter.unusedSimpArgs false
set_option linter.unusedSectionVars false
section
open Go.RowKit
namespace Go.Proofs.YtjclbjdkkdijbaaGreat
open L
namespace Aut
open Auto R01
def Tri (p0 p1 p2:Addr) (v0 v1 v2:Value):Type:={ w:World // w.cell? p0=some v0∧w.cell? p1=some v1∧w.cell? p2=some v2 }
section
variable {p0 p1 p2:Addr} {v0 v1 v2:Value}
def Tri.val (x:Tri p0 p1 p2 v0 v1 v2):World:=x.1
theorem Tri.c0 (x:Tri p0 p1 p2 v0 v1 v2):x.val.cell? p0=some v0:=x.2.1
theorem Tri.c1 (x:Tri p0 p1 p2 v0 v1 v2):x.val.cell? p1=some v1:=x.2.2.1
theorem Tri.c2 (x:Tri p0 p1 p2 v0 v1 v2):x.val.cell? p2=some v2:=x.2.2.2
attribute [go_sem] Tri.c0 Tri.c1 Tri.c2
theorem Tri.of {w:World} (h0:w.cell? p0=some v0) (h1:w.cell? p1=some v1) (h2:w.cell? p2=some v2):∃ x:Tri p0 p1 p2 v0 v1 v2,w=x.val:=⟨⟨w,h0,h1,h2⟩,rfl⟩
end
section
variable {w0 w w' w1:World} {e e':TypeId} {k k' n n' b g cap:Nat} {v v' cv nv av y:Value} {x x' c rvs:List Value} {cs rw_:List Int} {ns:List (List Int)} {bs:List Bool} {U:List Nat} {ab:Nat}
structure SpA (w0:World) (ab:Nat) (cv nv av:Value) (cs:List Int) (ns:List (List Int)) (bs:List Bool) (rvs:List Value) (w:World):Prop where
 bx:Blk w ab [cv,nv,av] 31
 cu:w.ownsRow 0 3 1 cv cs.length (ints cs)
 tb:w.ownsRow 0 22 1 nv ns.length rvs
 ac:w.ownsRow 0 4 1 av bs.length (bools bs)
 rw:∀ (i:Nat) (c:List Int) (y:Value),ns[i]?=some c→rvs[i]?=some y→w.ownsRow 0 3 1 y c.length (ints c)
 ds:∀ (i j:Nat) (y z:Value) (q:Nat),rvs[i]?=some y→rvs[j]?=some z→y.ownBlock=some q→z.ownBlock=some q→i=j
 cd:∀ (i:Nat) (y:Value) (q:Nat),rvs[i]?=some y→y.ownBlock=some q→cv.ownBlock≠some q
 nw:w0.heap.size≤ab∧(∀ q,cv.ownBlock=some q→w0.heap.size≤q)∧(∀ q,nv.ownBlock=some q→w0.heap.size≤q)∧(∀ q,av.ownBlock=some q→w0.heap.size≤q)∧∀ (i:Nat) (y:Value) (q:Nat),rvs[i]?=some y→y.ownBlock=some q→w0.heap.size≤q
 u:Upd [] w0 w
theorem SpA.len (h:SpA w0 ab cv nv av cs ns bs rvs w):rvs.length=ns.length:=by have:=h.tb.1;omega
theorem SpA.val (h:SpA w0 ab cv nv av cs ns bs rvs w) {i:Nat} {c:List Int} (hc:ns[i]?=some c):∃ y,rvs[i]?=some y∧w.ownsRow 0 3 1 y c.length (ints c):=by
 have hi:=(List.getElem?_eq_some_iff.1 hc).1
 have hl:=h.len
 exact ⟨rvs[i],List.getElem?_eq_getElem (by omega),h.rw i c _ hc (List.getElem?_eq_getElem (by omega))⟩
theorem SpA.quiet (h:SpA w0 ab cv nv av cs ns bs rvs w) (hu:Upd [] w w'):SpA w0 ab cv nv av cs ns bs rvs w':=
 ⟨h.bx.upd hu (by simp),ownsRow_updL h.cu hu (by simp),ownsRow_updL h.tb hu (by simp),ownsRow_updL h.ac hu (by simp),fun i c y h1 h2=>ownsRow_updL (h.rw i c y h1 h2) hu (by simp),h.ds,h.cd,h.nw,h.u.step hu⟩
theorem SpA.cl_ (h:SpA w0 ab cv nv av cs ns bs rvs w) (hu:Upd U w w') (h1:∀ b∈U,nv.ownBlock≠some b) (h2:∀ (i:Nat) (y:Value),rvs[i]?=some y→∀ b∈U,y.ownBlock≠some b):CL w' nv ns:=by
 refine ⟨rvs,h.len,SL.of_owns (ownsRow_updL h.tb hu h1),fun i c hc=>?_⟩
 obtain ⟨y,hy,ho⟩:=h.val hc
 exact ⟨y,hy,SL.of_owns (ownsRow_updL ho hu (h2 i y hy))⟩
theorem SpA.setCut {cv':Value} {cs':List Int} (h:SpA w0 ab cv nv av cs ns bs rvs w) (o:w1.ownsRow 0 3 1 cv' cs'.length (ints cs')) (hu:Upd cv.ownBlock.toList w w1) (hk:∀ q,cv'.ownBlock=some q→cv.ownBlock=some q∨w.heap.size≤q) :
 SpA w0 ab cv' nv av cs' ns bs rvs (w1.setCell ⟨ab,0,none⟩ cv'):=by
 have us:Upd [ab] w1 (w1.setCell ⟨ab,0,none⟩ cv'):=(Upd.refl [ab] w1).set (p:=⟨ab,0,none⟩) (by simp) _
 have hz:=h.u.size
 have hb1:Blk w1 ab [cv,nv,av] 31:=h.bx.upd hu (fun hm=>own_bne h.cu h.bx (by decide) (g:=ab) (by simpa using hm) rfl)
 refine ⟨hb1.set 0 _,ownsRow_updL o us (fun b hb hq=>?_),ownsRow_updL (ownsRow_updL h.tb hu (fun b hb hq=>own_ne h.tb h.cu (by decide) hq (by simpa using hb))) us (fun b hb hq=>own_bne h.tb h.bx (by decide) hq (by simpa using hb)),ownsRow_updL (ownsRow_updL h.ac hu (fun b hb hq=>own_ne h.ac h.cu (by decide) hq (by simpa using hb))) us (fun b hb hq=>own_bne h.ac h.bx (by decide) hq (by simpa using hb)),fun i c y h1 h2=>ownsRow_updL (ownsRow_updL (h.rw i c y h1 h2) hu (fun b hb hq=>h.cd i y b h2 hq (by simpa using hb))) us (fun b hb hq=>own_bne (h.rw i c y h1 h2) h.bx (by decide) hq (by simpa using hb)),h.ds,fun i y q h1 h2 h3=>?_,⟨h.nw.1,fun q hq=>?_,h.nw.2.2.1,h.nw.2.2.2.1,h.nw.2.2.2.2⟩,(h.u.fresh hu (fun b hb=>.inr (h.nw.2.1 b (by simpa using hb)))).fresh us (fun b hb=>.inr (by simp at hb;subst hb;exact h.nw.1))⟩
 ·simp at hb
  subst hb
  rcases hk _ hq with h1|h1
  ·exact own_bne h.cu h.bx (by decide) h1 rfl
  ·have:=h.bx.lt;omega
 ·rcases hk _ h3 with h4|h4
  ·exact h.cd i y q h1 h2 h4
  ·have hi:=(List.getElem?_eq_some_iff.1 h1).1
   have hl:=h.len
   have ho:=h.rw i ns[i] y (List.getElem?_eq_getElem (by omega)) h1
   have:=(ho.lt q h2).2
   omega
 ·rcases hk _ hq with h1|h1
  ·exact h.nw.2.1 _ h1
  ·omega
theorem SpA.setAcc {av':Value} {bs':List Bool} (h:SpA w0 ab cv nv av cs ns bs rvs w) (o:w1.ownsRow 0 4 1 av' bs'.length (bools bs')) (hu:Upd av.ownBlock.toList w w1) (hk:∀ q,av'.ownBlock=some q→av.ownBlock=some q∨w.heap.size≤q) :
 SpA w0 ab cv nv av' cs ns bs' rvs (w1.setCell ⟨ab,2,none⟩ av'):=by
 have us:Upd [ab] w1 (w1.setCell ⟨ab,2,none⟩ av'):=(Upd.refl [ab] w1).set (p:=⟨ab,2,none⟩) (by simp) _
 have hz:=h.u.size
 have hb1:Blk w1 ab [cv,nv,av] 31:=h.bx.upd hu (fun hm=>own_bne h.ac h.bx (by decide) (g:=ab) (by simpa using hm) rfl)
 refine ⟨hb1.set 2 _,ownsRow_updL (ownsRow_updL h.cu hu (fun b hb hq=>own_ne h.cu h.ac (by decide) hq (by simpa using hb))) us (fun b hb hq=>own_bne h.cu h.bx (by decide) hq (by simpa using hb)),ownsRow_updL (ownsRow_updL h.tb hu (fun b hb hq=>own_ne h.tb h.ac (by decide) hq (by simpa using hb))) us (fun b hb hq=>own_bne h.tb h.bx (by decide) hq (by simpa using hb)),ownsRow_updL o us (fun b hb hq=>?_),fun i c y h1 h2=>ownsRow_updL (ownsRow_updL (h.rw i c y h1 h2) hu (fun b hb hq=>own_ne (h.rw i c y h1 h2) h.ac (by decide) hq (by simpa using hb))) us (fun b hb hq=>own_bne (h.rw i c y h1 h2) h.bx (by decide) hq (by simpa using hb)),h.ds,h.cd,⟨h.nw.1,h.nw.2.1,h.nw.2.2.1,fun q hq=>?_,h.nw.2.2.2.2⟩,(h.u.fresh hu (fun b hb=>.inr (h.nw.2.2.2.1 b (by simpa using hb)))).fresh us (fun b hb=>.inr (by simp at hb;subst hb;exact h.nw.1))⟩
 ·simp at hb
  subst hb
  rcases hk _ hq with h1|h1
  ·exact own_bne h.ac h.bx (by decide) h1 rfl
  ·have:=h.bx.lt;omega
 ·rcases hk _ hq with h1|h1
  ·exact h.nw.2.2.2.1 _ h1
  ·omega
theorem SpA.rowPush {s gn:Nat} {c:List Int} {y':Value} {z:Int} (h:SpA w0 ab cv (.slice (some ⟨gn,0,none⟩) ns.length cap) av cs ns bs rvs w) (hc:ns[s]?=some c) (hy:rvs[s]?=some y) (o:w1.ownsRow 0 3 1 y' (c.length+1) (ints c++[.int .i64 z])) (hu:Upd y.ownBlock.toList w w1) (hk:∀ q,y'.ownBlock=some q→y.ownBlock=some q∨w.heap.size≤q) :
 SpA w0 ab cv (.slice (some ⟨gn,0,none⟩) ns.length cap) av cs (ns.set s (c++[z])) bs (rvs.set s y') (w1.setCell ⟨gn,s,none⟩ y'):=by
 have us:Upd [gn] w1 (w1.setCell ⟨gn,s,none⟩ y'):=(Upd.refl [gn] w1).set (p:=⟨gn,s,none⟩) (by simp) _
 have ho:=h.rw s c _ hc hy
 have hz:=h.u.size
 have hs:=(List.getElem?_eq_some_iff.1 hc).1
 have hl:=h.len
 have hnv:(Value.slice (some ⟨gn,0,none⟩) ns.length cap).ownBlock=some gn:=rfl
 have hgn:=(h.tb.lt gn hnv).2
 have hb1:Blk w1 ab [cv,.slice (some ⟨gn,0,none⟩) ns.length cap,av] 31:=h.bx.upd hu (fun hm=>own_bne ho h.bx (by decide) (g:=ab) (by simpa using hm) rfl)
 have ht1:=ownsRow_updL h.tb hu (fun b hb hq=>own_ne h.tb ho (by decide) hq (by simpa using hb))
 have hget:∀ {i:Nat} {u:Value},(rvs.set s y')[i]?=some u→(i=s∧u=y')∨(i≠s∧rvs[i]?=some u):=fun {i u} h1=>by
  by_cases e:i=s
  ·subst e
   rw [List.getElem?_set_self (by omega)] at h1
   exact .inl ⟨rfl,by simpa using h1.symm⟩
  ·rw [List.getElem?_set_ne (fun h2=>e h2.symm)] at h1
   exact .inr ⟨e,h1⟩
 have hlt:∀ {i:Nat} {u:Value} {q:Nat},rvs[i]?=some u→u.ownBlock=some q→q<w.heap.size:=fun {i u q} h1 h2=>by
  have hi:=(List.getElem?_eq_some_iff.1 h1).1
  exact ((h.rw i ns[i] u (List.getElem?_eq_getElem (by omega)) h1).lt q h2).2
 refine ⟨hb1.upd us (fun hm=>own_bne h.tb h.bx (by decide) hnv (by simpa using Eq.symm (List.mem_singleton.1 hm))),ownsRow_updL (ownsRow_updL h.cu hu (fun b hb hq=>h.cd s y b hy (by simpa using hb) hq)) us (fun b hb hq=>own_ne h.cu h.tb (by decide) hq (by simp at hb;subst hb;exact hnv)),by rw [List.length_set];exact own_cell ht1 hs _,ownsRow_updL (ownsRow_updL h.ac hu (fun b hb hq=>own_ne h.ac ho (by decide) hq (by simpa using hb))) us (fun b hb hq=>own_ne h.ac h.tb (by decide) hq (by simp at hb;subst hb;exact hnv)),fun i c' u h1 h2=>?_,fun i j u1 u2 q h1 h2 h3 h4=>?_,fun i u q h1 h2 h3=>?_,⟨h.nw.1,h.nw.2.1,h.nw.2.2.1,h.nw.2.2.2.1,fun i u q h1 h2=>?_⟩,(h.u.fresh hu (fun b hb=>.inr (h.nw.2.2.2.2 s y b hy (by simpa using hb)))).fresh us (fun b hb=>.inr (by simp at hb;subst hb;exact h.nw.2.2.1 _ hnv))⟩
 ·rcases hget h2 with ⟨rfl,rfl⟩|⟨hne,h2⟩
  ·rw [List.getElem?_set_self hs] at h1
   cases h1
   rw [show (c++[z]).length=c.length+1 by simp,show ints (c++[z])=ints c++[.int .i64 z] by simp [ints]]
   exact ownsRow_updL o us (fun b hb hq=>by
    simp at hb;subst hb
    rcases hk _ hq with h5|h5
    ·exact own_ne ho h.tb (by decide) h5 hnv
    ·omega)
  ·rw [List.getElem?_set_ne (fun e=>hne e.symm)] at h1
   have hi:=h.rw i c' u h1 h2
   exact ownsRow_updL (ownsRow_updL hi hu (fun b hb hq=>hne (h.ds i s u y b h2 hy hq (by simpa using hb)))) us (fun b hb hq=>own_ne hi h.tb (by decide) hq (by simp at hb;subst hb;exact hnv))
 ·rcases hget h1 with ⟨rfl,rfl⟩|⟨hn1,h1'⟩
  ·rcases hget h2 with ⟨rfl,rfl⟩|⟨hn2,h2⟩
   ·rfl
   ·rcases hk _ h3 with h5|h5
    ·exact h.ds _ _ _ _ q hy h2 h5 h4
    ·have:=hlt h2 h4;omega
  ·rcases hget h2 with ⟨rfl,rfl⟩|⟨hn2,h2'⟩
   ·rcases hk _ h4 with h5|h5
    ·exact h.ds _ _ _ _ q h1' hy h3 h5
    ·have:=hlt h1' h3;omega
   ·exact h.ds i j u1 u2 q h1' h2' h3 h4
 ·rcases hget h1 with ⟨rfl,rfl⟩|⟨hn1,h1⟩
  ·rcases hk _ h2 with h5|h5
   ·exact h.cd _ _ q hy h5 h3
   ·have:=(h.cu.lt q h3).2;omega
  ·exact h.cd i u q h1 h2 h3
 ·rcases hget h1 with ⟨rfl,rfl⟩|⟨hn1,h1⟩
  ·rcases hk _ h2 with h5|h5
   ·exact h.nw.2.2.2.2 _ _ q hy h5
   ·omega
  ·exact h.nw.2.2.2.2 i u q h1 h2
theorem SpA.fin (h:SpA w0 ab cv nv av cs ns bs rvs w) (hu:Upd U w w') (hU:∀ b∈U,b<w0.heap.size):AuF w' ⟨cs,ns,bs⟩ [cv,nv,av]:=
 ⟨_,_,_,rfl,SL.of_owns (ownsRow_updL h.cu hu (fun b hb hq=>by have:=h.nw.2.1 b hq;have:=hU b hb;omega)),h.cl_ hu (fun b hb hq=>by have:=h.nw.2.2.1 b hq;have:=hU b hb;omega) (fun i y hy b hb hq=>by have:=h.nw.2.2.2.2 i y b hy hq;have:=hU b hb;omega),SL.of_owns (ownsRow_updL h.ac hu (fun b hb hq=>by have:=h.nw.2.2.2.1 b hq;have:=hU b hb;omega))⟩
theorem SpA.begin {nb:Nat} {av:Value} (hb:Blk w ab [.slice none 0 0,.slice (some ⟨nb,0,none⟩) n n,av] 31) (hn:Blk w nb (List.replicate n (.slice none 0 0)) 22) (hl:n≤256) (h1:w0.heap.size≤ab) (h2:w0.heap.size≤nb) (hu:Upd [] w0 w) (ha:av=.slice none 0 0):SpA w0 ab (.slice none 0 0) (.slice (some ⟨nb,0,none⟩) n n) av [] (List.replicate n []) [] (List.replicate n (.slice none 0 0)) w:=by
 have hg:∀ {i:Nat} {y:Value},(List.replicate n (Value.slice none 0 0))[i]?=some y→y=.slice none 0 0:=fun {i y} h=>by
  rw [List.getElem?_replicate] at h
  split at h
  ·simpa using h.symm
  ·cases h
 refine ⟨hb,World.ownsRow_nil _ _ _ _,⟨by simp,.inr ⟨nb,n,(List.replicate n (Value.slice none 0 0)).toArray,by simp,Nat.zero_le _,hn,by simp,by unfold maxLen;omega,by simp,by simp⟩⟩,(by subst ha;exact World.ownsRow_nil _ _ _ _),fun i c y h3 h4=>?_,fun i j y z q h3 h4 h5=>?_,fun i y q h3 h4=>?_,⟨h1,fun q hq=>by simp [Value.ownBlock] at hq,fun q hq=>by simp [Value.ownBlock] at hq;omega,fun q hq=>by subst ha;simp [Value.ownBlock] at hq,fun i y q h3 h4=>?_⟩,hu⟩
 ·rw [List.getElem?_replicate] at h3
  split at h3
  ·cases h3
   rw [hg h4]
   exact World.ownsRow_nil _ _ _ _
  ·cases h3
 ·rw [hg h3] at h5;simp [Value.ownBlock] at h5
 ·rw [hg h3] at h4;simp [Value.ownBlock] at h4
 ·rw [hg h3] at h4;simp [Value.ownBlock] at h4
structure SpM (w0:World) (ab:Nat) (cv nv av:Value) (cs:List Int) (ns:List (List Int)) (bs:List Bool) (rvs:List Value) (w:World):Prop where
 bx:Blk w ab [cv,nv,av] 39
 cu:w.ownsRow 0 3 1 cv cs.length (ints cs)
 tb:w.ownsRow 0 22 1 nv ns.length rvs
 ac:True
 rw:∀ (i:Nat) (c:List Int) (y:Value),ns[i]?=some c→rvs[i]?=some y→w.ownsRow 0 3 1 y c.length (ints c)
 ds:∀ (i j:Nat) (y z:Value) (q:Nat),rvs[i]?=some y→rvs[j]?=some z→y.ownBlock=some q→z.ownBlock=some q→i=j
 cd:∀ (i:Nat) (y:Value) (q:Nat),rvs[i]?=some y→y.ownBlock=some q→cv.ownBlock≠some q
 nw:w0.heap.size≤ab∧(∀ q,cv.ownBlock=some q→w0.heap.size≤q)∧(∀ q,nv.ownBlock=some q→w0.heap.size≤q)∧True∧∀ (i:Nat) (y:Value) (q:Nat),rvs[i]?=some y→y.ownBlock=some q→w0.heap.size≤q
 u:Upd [] w0 w
theorem SpM.len (h:SpM w0 ab cv nv av cs ns bs rvs w):rvs.length=ns.length:=by have:=h.tb.1;omega
theorem SpM.val (h:SpM w0 ab cv nv av cs ns bs rvs w) {i:Nat} {c:List Int} (hc:ns[i]?=some c):∃ y,rvs[i]?=some y∧w.ownsRow 0 3 1 y c.length (ints c):=by
 have hi:=(List.getElem?_eq_some_iff.1 hc).1
 have hl:=h.len
 exact ⟨rvs[i],List.getElem?_eq_getElem (by omega),h.rw i c _ hc (List.getElem?_eq_getElem (by omega))⟩
theorem SpM.quiet (h:SpM w0 ab cv nv av cs ns bs rvs w) (hu:Upd [] w w'):SpM w0 ab cv nv av cs ns bs rvs w':=
 ⟨h.bx.upd hu (by simp),ownsRow_updL h.cu hu (by simp),ownsRow_updL h.tb hu (by simp),trivial,fun i c y h1 h2=>ownsRow_updL (h.rw i c y h1 h2) hu (by simp),h.ds,h.cd,h.nw,h.u.step hu⟩
theorem SpM.cl_ (h:SpM w0 ab cv nv av cs ns bs rvs w) (hu:Upd U w w') (h1:∀ b∈U,nv.ownBlock≠some b) (h2:∀ (i:Nat) (y:Value),rvs[i]?=some y→∀ b∈U,y.ownBlock≠some b):CL w' nv ns:=by
 refine ⟨rvs,h.len,SL.of_owns (ownsRow_updL h.tb hu h1),fun i c hc=>?_⟩
 obtain ⟨y,hy,ho⟩:=h.val hc
 exact ⟨y,hy,SL.of_owns (ownsRow_updL ho hu (h2 i y hy))⟩
theorem SpM.setCut {cv':Value} {cs':List Int} (h:SpM w0 ab cv nv av cs ns bs rvs w) (o:w1.ownsRow 0 3 1 cv' cs'.length (ints cs')) (hu:Upd cv.ownBlock.toList w w1) (hk:∀ q,cv'.ownBlock=some q→cv.ownBlock=some q∨w.heap.size≤q) :
 SpM w0 ab cv' nv av cs' ns bs rvs (w1.setCell ⟨ab,0,none⟩ cv'):=by
 have us:Upd [ab] w1 (w1.setCell ⟨ab,0,none⟩ cv'):=(Upd.refl [ab] w1).set (p:=⟨ab,0,none⟩) (by simp) _
 have hz:=h.u.size
 have hb1:Blk w1 ab [cv,nv,av] 39:=h.bx.upd hu (fun hm=>own_bne h.cu h.bx (by decide) (g:=ab) (by simpa using hm) rfl)
 refine ⟨hb1.set 0 _,ownsRow_updL o us (fun b hb hq=>?_),ownsRow_updL (ownsRow_updL h.tb hu (fun b hb hq=>own_ne h.tb h.cu (by decide) hq (by simpa using hb))) us (fun b hb hq=>own_bne h.tb h.bx (by decide) hq (by simpa using hb)),trivial,fun i c y h1 h2=>ownsRow_updL (ownsRow_updL (h.rw i c y h1 h2) hu (fun b hb hq=>h.cd i y b h2 hq (by simpa using hb))) us (fun b hb hq=>own_bne (h.rw i c y h1 h2) h.bx (by decide) hq (by simpa using hb)),h.ds,fun i y q h1 h2 h3=>?_,⟨h.nw.1,fun q hq=>?_,h.nw.2.2.1,h.nw.2.2.2.1,h.nw.2.2.2.2⟩,(h.u.fresh hu (fun b hb=>.inr (h.nw.2.1 b (by simpa using hb)))).fresh us (fun b hb=>.inr (by simp at hb;subst hb;exact h.nw.1))⟩
 ·simp at hb
  subst hb
  rcases hk _ hq with h1|h1
  ·exact own_bne h.cu h.bx (by decide) h1 rfl
  ·have:=h.bx.lt;omega
 ·rcases hk _ h3 with h4|h4
  ·exact h.cd i y q h1 h2 h4
  ·have hi:=(List.getElem?_eq_some_iff.1 h1).1
   have hl:=h.len
   have ho:=h.rw i ns[i] y (List.getElem?_eq_getElem (by omega)) h1
   have:=(ho.lt q h2).2
   omega
 ·rcases hk _ hq with h1|h1
  ·exact h.nw.2.1 _ h1
  ·omega
theorem SpM.rowPush {s gn:Nat} {c:List Int} {y':Value} {z:Int} (h:SpM w0 ab cv (.slice (some ⟨gn,0,none⟩) ns.length cap) av cs ns bs rvs w) (hc:ns[s]?=some c) (hy:rvs[s]?=some y) (o:w1.ownsRow 0 3 1 y' (c.length+1) (ints c++[.int .i64 z])) (hu:Upd y.ownBlock.toList w w1) (hk:∀ q,y'.ownBlock=some q→y.ownBlock=some q∨w.heap.size≤q) :
 SpM w0 ab cv (.slice (some ⟨gn,0,none⟩) ns.length cap) av cs (ns.set s (c++[z])) bs (rvs.set s y') (w1.setCell ⟨gn,s,none⟩ y'):=by
 have us:Upd [gn] w1 (w1.setCell ⟨gn,s,none⟩ y'):=(Upd.refl [gn] w1).set (p:=⟨gn,s,none⟩) (by simp) _
 have ho:=h.rw s c _ hc hy
 have hz:=h.u.size
 have hs:=(List.getElem?_eq_some_iff.1 hc).1
 have hl:=h.len
 have hnv:(Value.slice (some ⟨gn,0,none⟩) ns.length cap).ownBlock=some gn:=rfl
 have hgn:=(h.tb.lt gn hnv).2
 have hb1:Blk w1 ab [cv,.slice (some ⟨gn,0,none⟩) ns.length cap,av] 39:=h.bx.upd hu (fun hm=>own_bne ho h.bx (by decide) (g:=ab) (by simpa using hm) rfl)
 have ht1:=ownsRow_updL h.tb hu (fun b hb hq=>own_ne h.tb ho (by decide) hq (by simpa using hb))
 have hget:∀ {i:Nat} {u:Value},(rvs.set s y')[i]?=some u→(i=s∧u=y')∨(i≠s∧rvs[i]?=some u):=fun {i u} h1=>by
  by_cases e:i=s
  ·subst e
   rw [List.getElem?_set_self (by omega)] at h1
   exact .inl ⟨rfl,by simpa using h1.symm⟩
  ·rw [List.getElem?_set_ne (fun h2=>e h2.symm)] at h1
   exact .inr ⟨e,h1⟩
 have hlt:∀ {i:Nat} {u:Value} {q:Nat},rvs[i]?=some u→u.ownBlock=some q→q<w.heap.size:=fun {i u q} h1 h2=>by
  have hi:=(List.getElem?_eq_some_iff.1 h1).1
  exact ((h.rw i ns[i] u (List.getElem?_eq_getElem (by omega)) h1).lt q h2).2
 refine ⟨hb1.upd us (fun hm=>own_bne h.tb h.bx (by decide) hnv (by simpa using Eq.symm (List.mem_singleton.1 hm))),ownsRow_updL (ownsRow_updL h.cu hu (fun b hb hq=>h.cd s y b hy (by simpa using hb) hq)) us (fun b hb hq=>own_ne h.cu h.tb (by decide) hq (by simp at hb;subst hb;exact hnv)),by rw [List.length_set];exact own_cell ht1 hs _,trivial,fun i c' u h1 h2=>?_,fun i j u1 u2 q h1 h2 h3 h4=>?_,fun i u q h1 h2 h3=>?_,⟨h.nw.1,h.nw.2.1,h.nw.2.2.1,h.nw.2.2.2.1,fun i u q h1 h2=>?_⟩,(h.u.fresh hu (fun b hb=>.inr (h.nw.2.2.2.2 s y b hy (by simpa using hb)))).fresh us (fun b hb=>.inr (by simp at hb;subst hb;exact h.nw.2.2.1 _ hnv))⟩
 ·rcases hget h2 with ⟨rfl,rfl⟩|⟨hne,h2⟩
  ·rw [List.getElem?_set_self hs] at h1
   cases h1
   rw [show (c++[z]).length=c.length+1 by simp,show ints (c++[z])=ints c++[.int .i64 z] by simp [ints]]
   exact ownsRow_updL o us (fun b hb hq=>by
    simp at hb;subst hb
    rcases hk _ hq with h5|h5
    ·exact own_ne ho h.tb (by decide) h5 hnv
    ·omega)
  ·rw [List.getElem?_set_ne (fun e=>hne e.symm)] at h1
   have hi:=h.rw i c' u h1 h2
   exact ownsRow_updL (ownsRow_updL hi hu (fun b hb hq=>hne (h.ds i s u y b h2 hy hq (by simpa using hb)))) us (fun b hb hq=>own_ne hi h.tb (by decide) hq (by simp at hb;subst hb;exact hnv))
 ·rcases hget h1 with ⟨rfl,rfl⟩|⟨hn1,h1'⟩
  ·rcases hget h2 with ⟨rfl,rfl⟩|⟨hn2,h2⟩
   ·rfl
   ·rcases hk _ h3 with h5|h5
    ·exact h.ds _ _ _ _ q hy h2 h5 h4
    ·have:=hlt h2 h4;omega
  ·rcases hget h2 with ⟨rfl,rfl⟩|⟨hn2,h2'⟩
   ·rcases hk _ h4 with h5|h5
    ·exact h.ds _ _ _ _ q h1' hy h3 h5
    ·have:=hlt h1' h3;omega
   ·exact h.ds i j u1 u2 q h1' h2' h3 h4
 ·rcases hget h1 with ⟨rfl,rfl⟩|⟨hn1,h1⟩
  ·rcases hk _ h2 with h5|h5
   ·exact h.cd _ _ q hy h5 h3
   ·have:=(h.cu.lt q h3).2;omega
  ·exact h.cd i u q h1 h2 h3
 ·rcases hget h1 with ⟨rfl,rfl⟩|⟨hn1,h1⟩
  ·rcases hk _ h2 with h5|h5
   ·exact h.nw.2.2.2.2 _ _ q hy h5
   ·omega
  ·exact h.nw.2.2.2.2 i u q h1 h2
theorem SpM.begin {nb:Nat} {av:Value} (hb:Blk w ab [.slice none 0 0,.slice (some ⟨nb,0,none⟩) n n,av] 39) (hn:Blk w nb (List.replicate n (.slice none 0 0)) 22) (hl:n≤256) (h1:w0.heap.size≤ab) (h2:w0.heap.size≤nb) (hu:Upd [] w0 w):SpM w0 ab (.slice none 0 0) (.slice (some ⟨nb,0,none⟩) n n) av [] (List.replicate n []) [] (List.replicate n (.slice none 0 0)) w:=by
 have hg:∀ {i:Nat} {y:Value},(List.replicate n (Value.slice none 0 0))[i]?=some y→y=.slice none 0 0:=fun {i y} h=>by
  rw [List.getElem?_replicate] at h
  split at h
  ·simpa using h.symm
  ·cases h
 refine ⟨hb,World.ownsRow_nil _ _ _ _,⟨by simp,.inr ⟨nb,n,(List.replicate n (Value.slice none 0 0)).toArray,by simp,Nat.zero_le _,hn,by simp,by unfold maxLen;omega,by simp,by simp⟩⟩,trivial,fun i c y h3 h4=>?_,fun i j y z q h3 h4 h5=>?_,fun i y q h3 h4=>?_,⟨h1,fun q hq=>by simp [Value.ownBlock] at hq,fun q hq=>by simp [Value.ownBlock] at hq;omega,trivial,fun i y q h3 h4=>?_⟩,hu⟩
 ·rw [List.getElem?_replicate] at h3
  split at h3
  ·cases h3
   rw [hg h4]
   exact World.ownsRow_nil _ _ _ _
  ·cases h3
 ·rw [hg h3] at h5;simp [Value.ownBlock] at h5
 ·rw [hg h3] at h4;simp [Value.ownBlock] at h4
 ·rw [hg h3] at h4;simp [Value.ownBlock] at h4
theorem SpM.fin (h:SpM w0 ab cv nv av cs ns bs rvs w) (hu:Upd U w w') (hU:∀ b∈U,b<w0.heap.size) {zs:List Bool} (ha:SL w' 1 av zs.length (bools zs)):AuF w' ⟨cs,ns,zs⟩ [cv,nv,av]:=
 ⟨_,_,_,rfl,SL.of_owns (ownsRow_updL h.cu hu (fun b hb hq=>by have:=h.nw.2.1 b hq;have:=hU b hb;omega)),h.cl_ hu (fun b hb hq=>by have:=h.nw.2.2.1 b hq;have:=hU b hb;omega) (fun i y hy b hb hq=>by have:=h.nw.2.2.2.2 i y b hy hq;have:=hU b hb;omega),ha⟩
theorem SpA.rowPushN {s gn m:Nat} {c:List Int} {y':Value} {z:Int} (hm:m=ns.length) (h:SpA w0 ab cv (.slice (some ⟨gn,0,none⟩) m cap) av cs ns bs rvs w) (hc:ns[s]?=some c) (hy:rvs[s]?=some y) (o:w1.ownsRow 0 3 1 y' (c.length+1) (ints c++[.int .i64 z])) (hu:Upd y.ownBlock.toList w w1) (hk:∀ q,y'.ownBlock=some q→y.ownBlock=some q∨w.heap.size≤q) :
 SpA w0 ab cv (.slice (some ⟨gn,0,none⟩) m cap) av cs (ns.set s (c++[z])) bs (rvs.set s y') (w1.setCell ⟨gn,s,none⟩ y'):=by
 subst hm
 exact h.rowPush hc hy o hu hk
theorem SpA.tcell {gn m s:Nat} (h:SpA w0 ab cv (.slice (some ⟨gn,0,none⟩) m cap) av cs ns bs rvs w) (hy:rvs[s]?=some y):w.cell? ⟨gn,s,none⟩=some y:=by
 have hl:=(List.getElem?_eq_some_iff.1 hy).1
 have h1:=h.tb.1
 obtain ⟨a,cap',he,_,_,hc⟩:=(OwW.start h.tb).form
 cases he
 obtain ⟨g,he2,hc2⟩:=hc (by omega) (by decide)
 cases he2
 exact hc2 s y hy
theorem SpM.rowPushN {s gn m:Nat} {c:List Int} {y':Value} {z:Int} (hm:m=ns.length) (h:SpM w0 ab cv (.slice (some ⟨gn,0,none⟩) m cap) av cs ns bs rvs w) (hc:ns[s]?=some c) (hy:rvs[s]?=some y) (o:w1.ownsRow 0 3 1 y' (c.length+1) (ints c++[.int .i64 z])) (hu:Upd y.ownBlock.toList w w1) (hk:∀ q,y'.ownBlock=some q→y.ownBlock=some q∨w.heap.size≤q) :
 SpM w0 ab cv (.slice (some ⟨gn,0,none⟩) m cap) av cs (ns.set s (c++[z])) bs (rvs.set s y') (w1.setCell ⟨gn,s,none⟩ y'):=by
 subst hm
 exact h.rowPush hc hy o hu hk
theorem SpM.tcell {gn m s:Nat} (h:SpM w0 ab cv (.slice (some ⟨gn,0,none⟩) m cap) av cs ns bs rvs w) (hy:rvs[s]?=some y):w.cell? ⟨gn,s,none⟩=some y:=by
 have hl:=(List.getElem?_eq_some_iff.1 hy).1
 have h1:=h.tb.1
 obtain ⟨a,cap',he,_,_,hc⟩:=(OwW.start h.tb).form
 cases he
 obtain ⟨g,he2,hc2⟩:=hc (by omega) (by decide)
 cases he2
 exact hc2 s y hy
end
end Aut
end Go.Proofs.YtjclbjdkkdijbaaGreat
end
section
open Go.RowKit
namespace Go.Proofs.YtjclbjdkkdijbaaGreat
open L
namespace Aut
open Auto
attribute [-go_sem] sliced
def minE (a:Au):Au:=if vErr a≠0 then noA else minA a
def keptN (T:List (List Int)) (k:Nat):List Nat:=(List.range k).filter (begK T)
theorem keptN_yes {T:List (List Int)} {k:Nat} (h:begK T k=true):keptN T (k+1)=keptN T k++[k]:=by unfold keptN;rw [List.range_succ,List.filter_append];simp [h]
theorem keptN_no {T:List (List Int)} {k:Nat} (h:begK T k=false):keptN T (k+1)=keptN T k:=by unfold keptN;rw [List.range_succ,List.filter_append];simp [h]
theorem keptN_le (T:List (List Int)) (k:Nat):(keptN T k).length≤k:=by
 have:=List.length_filter_le (begK T) (List.range k)
 simpa [keptN] using this
def rowsN (T:List (List Int)) (k s:Nat):List (List Int):=(List.range T.length).map fun i=>(keptN T (if i<s then k+1 else k)).map fun c=>(T.getD i []).getD c 0
theorem rowsN_len (T:List (List Int)) (k s:Nat):(rowsN T k s).length=T.length:=by simp [rowsN]
theorem rowsN_at {T:List (List Int)} {k s i:Nat} (h:i<T.length):(rowsN T k s)[i]?=some ((keptN T (if i<s then k+1 else k)).map fun c=>(T.getD i []).getD c 0):=by
 unfold rowsN
 rw [List.getElem?_map,List.getElem?_range h]
 rfl
theorem rowsN_full (T:List (List Int)) (k:Nat):rowsN T k T.length=rowsN T (k+1) 0:=by
 unfold rowsN
 refine List.map_congr_left fun i hi=>?_
 rw [if_pos (List.mem_range.1 hi),if_neg (Nat.not_lt_zero _)]
theorem rowsN_no {T:List (List Int)} {k:Nat} (h:begK T k=false):rowsN T (k+1) 0=rowsN T k 0:=by
 unfold rowsN
 refine List.map_congr_left fun i hi=>?_
 rw [if_neg (Nat.not_lt_zero _),if_neg (Nat.not_lt_zero _),keptN_no h]
theorem rowsN_set {T:List (List Int)} {k s:Nat} (h:begK T k=true) (hs:s<T.length):(rowsN T k s).set s ((keptN T k).map (fun c=>(T.getD s []).getD c 0)++[(T.getD s []).getD k 0])=rowsN T k (s+1):=by
 apply List.ext_getElem?
 intro i
 by_cases hi:i<T.length
 ·by_cases he:i=s
  ·subst he
   rw [List.getElem?_set_self (by rw [rowsN_len];exact hs),rowsN_at hi,if_pos (by omega),keptN_yes h]
   simp
  ·rw [List.getElem?_set_ne (fun e=>he e.symm),rowsN_at hi,rowsN_at hi]
   by_cases h2:i<s
   ·rw [if_pos h2,if_pos (by omega)]
   ·rw [if_neg h2,if_neg (by omega)]
 ·rw [List.getElem?_eq_none (by rw [List.length_set,rowsN_len];omega),List.getElem?_eq_none (by rw [rowsN_len];omega)]
theorem rowsN_zero (T:List (List Int)):rowsN T 0 0=List.replicate T.length []:=by
 unfold rowsN keptN
 simp [List.map_const']
theorem rowsN_map (T:List (List Int)) (k:Nat):rowsN T k 0=T.map fun r=>(keptN T k).map fun c=>r.getD c 0:=by
 apply List.ext_getElem?
 intro i
 by_cases hi:i<T.length
 ·rw [rowsN_at hi,if_neg (Nat.not_lt_zero _),List.getElem?_map,List.getElem?_eq_getElem hi]
  simp [List.getD_eq_getElem?_getD,List.getElem?_eq_getElem hi]
 ·rw [List.getElem?_eq_none (by rw [rowsN_len];omega),List.getElem?_eq_none (by simp;omega)]
theorem mrg_end (cs:List Int) (T:List (List Int)) (bs:List Bool):mrgA ⟨cs,T,bs⟩=⟨(keptN T cs.length).map fun k=>cs.getD k 0,rowsN T cs.length 0,bs⟩:=by
 rw [rowsN_map]
 rfl
def begN (T:List (List Int)) (k s:Nat):Bool:=decide (k=0) || (T.take s).any fun r=>decide (r.getD k 0≠r.getD (k-1) 0)
theorem begN_full (T:List (List Int)) (k:Nat):begN T k T.length=begK T k:=by unfold begN begK;rw [List.take_length]
theorem begN_zero (T:List (List Int)) (k:Nat):begN T k 0=decide (k=0):=by unfold begN;simp
theorem begN_step {T:List (List Int)} {k s:Nat} {r:List Int} (h:T[s]?=some r):begN T k (s+1)=(begN T k s || decide (r.getD k 0≠r.getD (k-1) 0)):=by
 unfold begN
 rw [List.take_add_one,h,List.any_append]
 simp [Bool.or_assoc]
theorem begN_pos {T:List (List Int)} {k s:Nat} (h:begN T k s=false):0<k:=by
 unfold begN at h
 rw [Bool.or_eq_false_iff,decide_eq_false_iff_not] at h
 omega
section
variable {w w':World} {v v2:Value}
theorem two_made (w:World) (n:Nat) (T T2:TypeId):∃ w1,w1=((w.alloc (.cells (List.replicate n (Value.slice none 0 0)).toArray T2)).alloc (.cells #[.slice none 0 0,.slice (some ⟨w.heap.size,0,none⟩) n n,.slice none 0 0] T))∧Blk w1 w.heap.size (List.replicate n (Value.slice none 0 0)) T2∧Blk w1 (w.heap.size+1) [.slice none 0 0,.slice (some ⟨w.heap.size,0,none⟩) n n,.slice none 0 0] T∧Upd [] w w1:=by
 have s1:(w.alloc (.cells (List.replicate n (Value.slice none 0 0)).toArray T2)).heap.size=w.heap.size+1:=by simp
 have h2:=Blk.new (w.alloc (.cells (List.replicate n (Value.slice none 0 0)).toArray T2)) [.slice none 0 0,.slice (some ⟨w.heap.size,0,none⟩) n n,.slice none 0 0] T
 rw [s1] at h2
 exact ⟨_,rfl,(Blk.new w (List.replicate n (Value.slice none 0 0)) T2).alloc _,h2,((Upd.refl [] w).alloc _).alloc _⟩
set_option maxRecDepth 100000 in
set_option maxHeartbeats 16000000 in
theorem Minimal_calls {a:Au} (h:AuV w a v):Calls Tryz.prog 34 #[v] w fun e w'=>∃ v',e=.returned (.tuple #[v',.int .i64 (vErr a)])∧AuV w' (minE a) v'∧Upd [] w w':=by
 obtain ⟨a1,c1,a2,c2,a3,c3,rfl,hF⟩:=h.shape
 clear h
 go_enter Tryz.func34,Tryz.ntmps34
 go_upto_region 1 with fail
 have bA:=(Blk.new w [.slice a1 a.cuts.length c1,.slice a2 a.next.length c2,.slice a3 a.acc.length c3] 31).alloc (.cells #[.slice none 0 0,.slice none 0 0,.slice none 0 0] 31)
 have bR:=Blk.new (w.alloc (.cells #[.slice a1 a.cuts.length c1,.slice a2 a.next.length c2,.slice a3 a.acc.length c3] 31)) [.slice none 0 0,.slice none 0 0,.slice none 0 0] 31
 have uA:=((Upd.refl [] w).alloc (.cells #[.slice a1 a.cuts.length c1,.slice a2 a.next.length c2,.slice a3 a.acc.length c3] 31)).alloc (.cells #[.slice none 0 0,.slice none 0 0,.slice none 0 0] 31)
 have z1:(w.alloc (.cells #[.slice a1 a.cuts.length c1,.slice a2 a.next.length c2,.slice a3 a.acc.length c3] 31)).heap.size=w.heap.size+1:=by simp
 rw [z1] at bR
 change Blk ((w.alloc (.cells #[.slice a1 a.cuts.length c1,.slice a2 a.next.length c2,.slice a3 a.acc.length c3] 31)).alloc (.cells #[.slice none 0 0,.slice none 0 0,.slice none 0 0] 31)) _ _ _ at bA
 change Blk ((w.alloc (.cells #[.slice a1 a.cuts.length c1,.slice a2 a.next.length c2,.slice a3 a.acc.length c3] 31)).alloc (.cells #[.slice none 0 0,.slice none 0 0,.slice none 0 0] 31)) _ _ _ at bR
 change Code.wp _ _ _ _ ((w.alloc (.cells #[.slice a1 a.cuts.length c1,.slice a2 a.next.length c2,.slice a3 a.acc.length c3] 31)).alloc (.cells #[.slice none 0 0,.slice none 0 0,.slice none 0 0] 31))
 generalize ((w.alloc (.cells #[.slice a1 a.cuts.length c1,.slice a2 a.next.length c2,.slice a3 a.acc.length c3] 31)).alloc (.cells #[.slice none 0 0,.slice none 0 0,.slice none 0 0] 31))=w1 at *
 have HF:=Lib.hid (hF.ext uA)
 have HW:=Lib.hid (And.intro bR uA)
 have k0:=bA.cell (i:=0) rfl
 have k1:=bA.cell (i:=1) rfl
 have k2:=bA.cell (i:=2) rfl
 clear bA bR uA hF z1
 generalize hpa:w.heap.size=pa at *
 have HPA:=Lib.hid (Nat.le_of_eq hpa)
 clear hpa
 have HVA:=Lib.hid (Valid_calls (w:=w1) (a:=a) (v:=.agg #[.slice a1 a.cuts.length c1,.slice a2 a.next.length c2,.slice a3 a.acc.length c3]) ⟨_,rfl,HF.out⟩)
 by_cases he:vErr a=0
 ·have HOK:=Lib.hid (And.intro (vErr_ok he) he)
  have HME:=Lib.hid (show minE a=minA a by unfold minE;rw [if_neg (by simpa using he)])
  rw [he] at HVA
  clear he
  go_upto_region 4 with ((with_reducible refine HVA.out.mono ?_);rintro e w2 ⟨rfl,u2⟩)
  have k0:=u2.some k0 (by simp)
  have k1:=u2.some k1 (by simp)
  have k2:=u2.some k2 (by simp)
  have HU2:=Lib.hid u2
  clear u2
  have HBL:=Lib.hid (blocks_calls (w:=w2) (a:=a) (v:=.agg #[.slice a1 a.cuts.length c1,.slice a2 a.next.length c2,.slice a3 a.acc.length c3]) ⟨_,rfl,HF.out.ext HU2.out⟩ HOK.out.1)
  go_upto_region 5 with ((with_reducible refine HBL.out.mono ?_);rintro e w3 ⟨v3,rfl,j3,hj3,o3⟩;obtain ⟨ab3,cb3,rfl,_⟩:=id o3.form;have HO3:=Lib.hid (And.intro hj3 o3);clear o3 hj3)
  have U3:=HO3.out.2.fresh
  have k0:=U3.some k0 (by simp)
  have k1:=U3.some k1 (by simp)
  have k2:=U3.some k2 (by simp)
  have HU3:=Lib.hid (HU2.out.step U3)
  clear U3
  change Code.wp _ _ _ _ (w3.alloc (.cells #[.slice ab3 a.next.length cb3] 22))
  have bB:=Blk.new w3 [.slice ab3 a.next.length cb3] 22
  have uB:=(Upd.refl [] w3).alloc (.cells #[.slice ab3 a.next.length cb3] 22)
  change Blk (w3.alloc (.cells #[.slice ab3 a.next.length cb3] 22)) _ _ _ at bB
  generalize (w3.alloc (.cells #[.slice ab3 a.next.length cb3] 22))=w4 at *
  generalize w3.heap.size=bb at *
  have k0:=uB.some k0 (by simp)
  have k1:=uB.some k1 (by simp)
  have k2:=uB.some k2 (by simp)
  have HU4:=Lib.hid (HU3.out.step uB)
  have HNB:=Lib.hid (numberI_calls (w:=w4) (a:=a) (bl:=blkS a (j3+1)) (ab:=pa) (bb:=bb) (HF.out.ext HU4.out) HOK.out.1 k1 (bB.cell (i:=0) rfl) (by rw [blkS_len HOK.out.1];exact HO3.out.2.sl.upd uB (by simp)) (blkS_len HOK.out.1 _) (blkS_lt HOK.out.1 _))
  clear bB uB
  go_upto_region 8 with ((with_reducible refine HNB.out.mono ?_);rintro e w5 ⟨S,T,sv,tv,hu5,rfl,o5,cl5,hl5,hg5,_⟩;obtain ⟨as5,cs5,rfl,_⟩:=id o5.form;obtain ⟨at5,ct5,rfl,_⟩:=id cl5.form)
  have HPR:=Lib.hid (min_prog HOK.out.1 (blkS_stb HOK.out.1 HO3.out.1) (fun s t hs ht h=>blkS_lang HOK.out.1 _ s t hs ht h) hu5)
  have hlen:(natRows T).length=S.length:=by
   have h:=(pre_ok HOK.out.1).acc
   rw [HPR.out] at h
   have h2:(S.map fun s=>a.acc.getD s false).length=(natRows T).length:=h
   rw [List.length_map] at h2
   exact h2.symm
  have HRW:=Lib.hid (show ∀ l∈natRows T,l.length=a.cuts.length from fun l hl=>by
   have h:=(pre_ok HOK.out.1).rows
   rw [HPR.out] at h
   exact (h l hl).1)
  have HMI:=Lib.hid (show minE a=⟨(keptN (natRows T) a.cuts.length).map fun k=>a.cuts.getD k 0,rowsN (natRows T) a.cuts.length 0,S.map fun s=>a.acc.getD s false⟩ from by
   rw [HME.out,←mrg_end]
   unfold minA
   rw [HPR.out]
   rfl)
  have HO5:=Lib.hid (And.intro o5 (And.intro cl5 hg5))
  have U5:=o5.fresh
  have k0:=U5.some k0 (by simp)
  have k1:=U5.some k1 (by simp)
  have k2:=U5.some k2 (by simp)
  have HU5:=Lib.hid (HU4.out.step U5)
  have HAS:=Lib.hid (show ∀ i,(hi:i<S.length)→(S.map fun s=>a.acc.getD s false)[i]?=some (a.acc.getD S[i] false) from fun i hi=>by rw [List.getElem?_map,List.getElem?_eq_getElem hi];rfl)
  have HAL:=Lib.hid (show (S.map fun s=>a.acc.getD s false).length=S.length by simp)
  clear hu5 o5 cl5 hg5 U5 HNB HO3 HPR
  generalize (S.map fun s=>a.acc.getD s false)=AS at *
  generalize natRows T=NT at *
  have HNL:=Lib.hid hlen
  have hl5i:((S.length:Nat):Int)≤256:=by omega
  go_upto_region 9 with (at_make;refine wpList_mk rfl _ _ _ rfl 22 1 24 _ Tryz.underlying28 infoInts rfl (by decide) .i64 .i64 S.length S.length S.length rfl rfl (by omega) (by omega) (by omega) (by omega) ?_)
  have hrep:(rows S.length fun _=>[Value.slice none 0 0])=List.replicate S.length (.slice none 0 0):=by rw [rows_one]
  obtain ⟨w6,hw6,bN,bX,u6⟩:=two_made w5 S.length 31 22
  change Code.wp _ _ _ _ ((w5.alloc (.cells (rows S.length fun _=>[Value.slice none 0 0]).toArray 22)).alloc (.cells #[.slice none 0 0,.slice (some ⟨w5.heap.size,0,none⟩) S.length S.length,.slice none 0 0] 31))
  rw [hrep,←hw6]
  have HB0:=Lib.hid (SpA.begin (w0:=w5) bX bN hl5 (by omega) (Nat.le_refl _) u6 rfl)
  clear hrep hw6 bN bX u6 hlen
  have hnb5:=Nat.le_refl w5.heap.size
  generalize hnb:w5.heap.size=nb at *
  have HNB5:=Lib.hid hnb
  clear hnb5 hnb
  go_wp2_with fail
  go_loopw [47] (fun kv wr=>∃ (i:Nat) (av:Value),kv=.int .i64 i∧i≤S.length∧Hid (SpA w5 (nb+1) (.slice none 0 0) (.slice (some ⟨nb,0,none⟩) S.length S.length) av [] (List.replicate S.length []) (AS.take i) (List.replicate S.length (.slice none 0 0)) wr)) (fun kv _=>S.length - (intOf kv).toNat)
  case atStart=>exact ⟨0,_,rfl,Nat.zero_le _,Lib.hid HB0.out⟩
  case round=>
   obtain ⟨i,av,rfl,hi,HI⟩:=hrel
   by_cases hlt:i<S.length
   ·have hli:(i:Int)<S.length:=by omega
    have hgs:=HO5.out.2.2 _ (List.getElem_mem hlt)
    obtain ⟨_,_,hse,_,_,hcell⟩:=id HO5.out.1.form
    cases hse
    obtain ⟨g5,rfl,hcell2⟩:=hcell (by omega) (by decide)
    have e0:=HI.out.u.some (hcell2 i (.int .i64 (S[i]:Nat)) (by simp [ints,List.getElem?_map,List.getElem?_eq_getElem hlt])) (by simp)
    obtain ⟨ga,oa3,he3,hac⟩:=(HF.out.ext HU5.out).acc (i:=S[i]) (by rw [HOK.out.1.acc];exact hgs)
    cases he3
    have ac:=HI.out.u.some hac (by simp)
    have k2:=HI.out.u.some k2 (by simp)
    have q2:=HI.out.bx.cell (i:=2) rfl
    have hsa:(S[i]:Int)<a.acc.length:=by have:=HOK.out.1.acc;omega
    obtain ⟨BS,hBB⟩:∃ BS,AS.take i=BS:=⟨_,rfl⟩
    have HBS:=Lib.hid (show AS.take (i+1)=BS++[a.acc.getD S[i] false]∧BS.length=i from by
     rw [←hBB,List.take_add_one,HAS.out i hlt]
     exact ⟨rfl,by rw [List.length_take,HAL.out];omega⟩)
    rw [hBB] at HI
    clear hcell hcell2 hac hgs hBB
    generalize a.acc.getD S[i] false=bi at *
    generalize S[i]=s at *
    go_upto_region 12 with fail
    refine wp_region_ord 8 4 [0,1,2,3,4,5,6,9] [1,3,6] [0,1,2,3,4,5,6,7,8,9,10] (fun w'=>∃ x:Ext wr,w'=x.val) (by kernel_rfl) (by kernel_rfl) (Ext.of (by iterate 25 (first|exact Upd.refl _ _|assumption|refine Upd.alloc ?_ _|refine Upd.drew ?_|refine Upd.drewN ?_ _|refine Upd.dl ?_|refine Upd.step ?_ (Ext.upd _)|refine Upd.nil ?_|skip))) ?_
    repeat (first|(refine wpOrd_load rfl rfl rfl rfl (fun K hK=>?_);go_big_quiet_step (fail);refine wpQuiet_nil ?_;refine hK _ ?_;clear hK K)|(refine wpOrd_free rfl rfl rfl (fun K hK=>?_);go_big_quiet_step (fail);refine wpQuiet_nil ?_;refine hK _ ?_;clear hK K))
    refine wpOrd_fix rfl rfl (fun K hK=>?_)
    go_wp2_with fail
    have HNB3:=Lib.hid (show Blk ((wr.alloc (.cells #[.bool bi] 4)).drew) wr.heap.size [.bool bi] 4∧Upd [] wr ((wr.alloc (.cells #[.bool bi] 4)).drew) from ⟨Blk.new wr [.bool bi] 4,(by iterate 25 (first|exact Upd.refl _ _|assumption|refine Upd.alloc ?_ _|refine Upd.drew ?_|refine Upd.drewN ?_ _|refine Upd.dl ?_|refine Upd.step ?_ (Ext.upd _)|refine Upd.nil ?_|skip))⟩)
    have HGB:=Lib.hid (Nat.le_refl wr.heap.size)
    generalize ((wr.alloc (.cells #[.bool bi] 4)).drew)=wB at *
    generalize wr.heap.size=gB at HNB3 HGB ⊢
    have HIB:=Lib.hid (HI.out.quiet HNB3.out.2)
    have hbl:BS.length≤256:=by have:=HBS.out.2;omega
    refine ⟨fun _=>Ext.of HNB3.out.2,?_⟩
    repeat (first|(refine wpOrd_load rfl rfl rfl rfl (fun K hK=>?_);go_big_quiet_step (fail);refine wpQuiet_nil ?_;refine hK _ ?_;clear hK K)|(refine wpOrd_free rfl rfl rfl (fun K hK=>?_);go_big_quiet_step (fail);refine wpQuiet_nil ?_;refine hK _ ?_;clear hK K))
    refine wpOrd_fix rfl rfl (fun K hK=>?_)
    refine wpList_app rfl _ _ _ rfl 4 1 1 _ Tryz.underlying29 infoBool rfl (by decide) av _ _ rfl HIB.out.ac gB 1 1 [.bool bi] 4 rfl rfl HNB3.out.1 (by simp [Value.oneCell']) (by omega) (by unfold maxLen;omega) (by omega) ?_
    intro g7 c7 w7 o7 u7 k7
    simp only [Act.put,List.setIfInBounds_toArray,List.set_cons_zero,List.set_cons_succ]
    have bx7:=HIB.out.bx.upd u7 (fun hm=>own_bne HIB.out.ac HIB.out.bx (by decide) (g:=nb+1) (by simpa using hm) rfl)
    have q2':=bx7.cell (i:=2) rfl
    have f2':∀ q,w7.frozen? ⟨nb+1,q,none⟩=false:=bx7.free
    have H7:=Lib.hid (And.intro o7 (And.intro u7 k7))
    clear o7 u7 k7 bx7 q2
    go_wp2_with fail
    refine ⟨fun hC=>absurd hC (by decide),?_⟩
    repeat (first|(refine wpOrd_load rfl rfl rfl rfl (fun K hK=>?_);go_big_quiet_step (fail);refine wpQuiet_nil ?_;refine hK _ ?_;clear hK K)|(refine wpOrd_free rfl rfl rfl (fun K hK=>?_);go_big_quiet_step (fail);refine wpQuiet_nil ?_;refine hK _ ?_;clear hK K))
    refine wpOrd_fix rfl rfl (fun K hK=>?_)
    go_wp2_with fail
    refine ⟨fun hC=>absurd hC (by decide),?_⟩
    refine wpOrd_nil ?_
    go_wp2_with fail
    have hset:=HIB.out.setAcc (av':=.slice (some ⟨g7,0,none⟩) (BS.length+1) c7) (bs':=BS++[bi]) (w1:=w7) (by rw [show (BS++[bi]).length=BS.length+1 by simp,show bools (BS++[bi])=bools BS++[.bool bi] by simp [bools]];exact H7.out.1) H7.out.2.1 (fun q hq=>by
     simp only [Value.ownBlock,Option.some.injEq] at hq
     subst hq
     exact H7.out.2.2.imp id fun h=>by omega)
    exact ⟨⟨i+1,_,by go_num,by omega,Lib.hid (by rw [HBS.out.1];exact hset)⟩,by simp [intOf];omega⟩
   ·have hie:i=S.length:=by omega
    subst hie
    rw [List.take_of_length_le (Nat.le_of_eq HAL.out)] at HI
    have hni:¬ ((S.length:Int)<S.length):=by omega
    have k0':=HI.out.u.some k0 (by simp)
    obtain ⟨wo,rfl⟩:∃ wo:World,wo=wr:=⟨_,rfl⟩
    have HK:=Lib.hid (And.intro k0 (And.intro k1 k2))
    clear k0 k1 k2
    have HIX0:=HI
    go_wp2_with fail
    go_loopw [65] (fun kv wr=>∃ (k:Nat) (cv:Value) (rvs:List Value),kv=.int .i64 k∧k≤a.cuts.length∧Hid (SpA w5 (nb+1) cv (.slice (some ⟨nb,0,none⟩) S.length S.length) av ((keptN NT k).map fun c=>a.cuts.getD c 0) (rowsN NT k 0) AS rvs wr)) (fun kv _=>a.cuts.length - (intOf kv).toNat)
    case atStart=>exact ⟨0,_,_,rfl,Nat.zero_le _,Lib.hid (by rw [rowsN_zero,HNL.out];exact HI.out)⟩
    case round=>
     clear HI HIX0 k0'
     obtain ⟨k,cv,rvs,rfl,hk,HI⟩:=hrel
     by_cases hlk:k<a.cuts.length
     ·have hki:(k:Int)<a.cuts.length:=by omega
      have hkb:(k:Int)≤256:=by have:=cuts_len HOK.out.1;omega
      obtain ⟨gC,oC,heC,hcC⟩:=(HF.out.ext HU5.out).cuts hlk
      cases heC
      have cC:=HI.out.u.some hcC (by simp)
      obtain ⟨kz,hkz⟩:∃ kz:Bool,((k:Int) == 0)=kz:=⟨_,rfl⟩
      have HKZ:=Lib.hid (show kz=decide (k=0) from by
       rw [←hkz,Bool.eq_iff_iff]
       simp)
      generalize hcq:a.cuts.getD k 0=cq at *
      have HCQ:=Lib.hid hcq
      clear hcq hcC
      obtain ⟨wx,rfl⟩:∃ wx:World,wx=wr:=⟨_,rfl⟩
      go_wp2_with fail
      go_loopw [14,74] (fun bv sv wr=>∃ (s:Nat) (bg:Bool),bv=.bool bg∧sv=.int .i64 s∧s≤NT.length∧Hid (bg=begN NT k s)∧∃ x:Ext wx,wr=x.val) (fun _ sv _=>NT.length - (intOf sv).toNat)
      case atStart=>exact ⟨0,kz,rfl,rfl,Nat.zero_le _,Lib.hid (by rw [begN_zero];exact HKZ.out),Ext.of (by iterate 25 (first|exact Upd.refl _ _|assumption|refine Upd.alloc ?_ _|refine Upd.drew ?_|refine Upd.drewN ?_ _|refine Upd.dl ?_|refine Upd.step ?_ (Ext.upd _)|refine Upd.nil ?_|skip))⟩
      case round=>
       obtain ⟨s,bg,rfl,rfl,hs,HBG,x,rfl⟩:=hrel
       have HX:=Lib.hid x.upd
       generalize x.val=wq at *
       by_cases hls:s<NT.length
       ·have hsi:(s:Int)<NT.length:=by omega
        have hsi2:(s:Int)<S.length:=by have:=HNL.out;omega
        have HBS:=Lib.hid (begN_step (k:=k) (List.getElem?_eq_getElem hls))
        have hrs:=List.getElem?_eq_getElem hls
        have hrl:=HRW.out _ (List.getElem_mem hls)
        obtain ⟨_,_,hte,_,_,hcell⟩:=HO5.out.2.1.form
        cases hte
        obtain ⟨g6,o6,ar,cr,he6,hc6,hsl6,hcr1,hcr2⟩:=hcell s hls
        cases he6
        have hgd:NT.getD s []=NT[s]:=by rw [List.getD_eq_getElem?_getD,hrs];rfl
        rw [hgd] at hc6 hsl6 hcr1
        have r0:=HX.out.some (HI.out.u.some hc6 (by simp)) (by simp)
        obtain ⟨ra,rc,hre,_,_,hce⟩:=hsl6.elems
        cases hre
        obtain ⟨rg,ro,rfl,kk⟩:=hce (by omega)
        have r1:=HX.out.some (HI.out.u.some (kk k _ (ints_get (gd_some (d:=0) (by omega)))) (by simp)) (by simp)
        have hkr:(k:Int)<NT[s].length:=by omega
        cases bg with
        | true=>
         clear r1 kk hce hcell hc6 hsl6 hrs hgd
         generalize NT[s]=row at *
         go_upto_region 21 with fail
         refine wp_region_qx (by kernel_rfl) (by kernel_rfl) ?_
         repeat (go_big_quiet_step ((fail)))
         refine wpQuiet_nil ?_
         intro x
         have HX2:=Lib.hid (HX.out.step x.upd)
         generalize x.val=wz at *
         clear r0 cC
         go_wp2_with fail
         exact ⟨⟨s+1,true,rfl,by go_num,by omega,Lib.hid (by rw [HBS.out,←HBG.out];rfl),Ext.of HX2.out⟩,by simp [intOf];omega⟩
        | false=>
         have hk0:=begN_pos HBG.out.symm
         have r2:=HX.out.some (HI.out.u.some (kk (k-1) _ (ints_get (gd_some (d:=0) (by omega)))) (by simp)) (by simp)
         have hA:(0:Int)≤(k:Int) - 1:=by omega
         have hB:(k:Int) - 1<NT[s].length:=by omega
         have hT:((k:Int) - 1).toNat=k-1:=by omega
         obtain ⟨ne,hne⟩:∃ ne:Bool,(NT[s].getD k 0 != NT[s].getD (k-1) 0)=ne:=⟨_,rfl⟩
         have HNE:=Lib.hid (show ne=decide (NT[s].getD k 0≠NT[s].getD (k-1) 0) from by
          rw [←hne,Bool.eq_iff_iff]
          simp)
         rw [←HNE.out] at HBS
         clear kk hce hcell hc6 hsl6 hrs hgd HNE
         generalize NT[s].getD k 0=zx at *
         generalize NT[s].getD (k-1) 0=zy at *
         generalize NT[s]=row at *
         go_upto_region 21 with fail
         refine wp_region_qx (by kernel_rfl) (by kernel_rfl) ?_
         repeat (go_big_quiet_step ((fail)))
         refine wpQuiet_nil ?_
         intro x
         have HX2:=Lib.hid (HX.out.step x.upd)
         generalize x.val=wz at *
         clear r0 r1 r2 cC
         go_wp2_with fail
         exact ⟨⟨s+1,ne,rfl,by go_num,by omega,Lib.hid (by rw [HBS.out,←HBG.out];rfl),Ext.of HX2.out⟩,by simp [intOf];omega⟩
       ·have hse:s=NT.length:=by omega
        subst hse
        rw [begN_full] at HBG
        have hns:¬ ((NT.length:Int)<S.length):=by have:=HNL.out;omega
        have HIX:=Lib.hid (HI.out.quiet HX.out)
        clear cC
        cases bg with
        | false=>
         go_wp2_with fail
         exact ⟨⟨k+1,cv,rvs,by go_num,by omega,Lib.hid (by rw [keptN_no HBG.out.symm,rowsN_no HBG.out.symm];exact HIX.out)⟩,by simp [intOf];omega⟩
        | true=>
         have HKN:=keptN_le NT k
         obtain ⟨CS,hCS⟩:∃ CS,((keptN NT k).map fun c=>a.cuts.getD c 0)=CS:=⟨_,rfl⟩
         have hcl:CS.length≤1000:=by rw [←hCS,List.length_map];have:=cuts_len HOK.out.1;omega
         have HCS:=Lib.hid (show ((keptN NT (k+1)).map fun c=>a.cuts.getD c 0)=CS++[cq] from by rw [keptN_yes HBG.out.symm,List.map_append,hCS,←HCQ.out];rfl)
         rw [hCS] at HIX HI
         clear hCS
         have q0:=HIX.out.bx.cell (i:=0) rfl
         go_upto_region 25 with (refine wpList_push rfl rfl _ _ _ _ rfl rfl rfl 3 1 8 _ Tryz.underlying22 infoInt rfl (by decide) (by decide) (.int .i64 cq) [.int .i64 cq] rfl rfl rfl (by simp [Value.oneCell']) cv _ _ HIX.out.cu rfl rfl (by unfold maxLen;omega) (by omega) ?_;intro g7 c7 w7 o7 u7 k7;have bx7:=HIX.out.bx.upd u7 (fun hm=>own_bne HIX.out.cu HIX.out.bx (by decide) (g:=nb+1) (by simpa using hm) rfl);have p1:=bx7.cell (i:=0) rfl;have pf:∀ q,w7.frozen? ⟨nb+1,q,none⟩=false:=bx7.free;have HO7:=Lib.hid (And.intro o7 (And.intro u7 k7));clear o7 u7 k7 bx7)
         have HSC:=Lib.hid (HIX.out.setCut (cv':=.slice (some ⟨g7,0,none⟩) (CS.length+1) c7) (cs':=CS++[cq]) (w1:=w7) (by rw [show (CS++[cq]).length=CS.length+1 by simp,show ints (CS++[cq])=ints CS++[.int .i64 cq] by simp [ints]];exact HO7.out.1) HO7.out.2.1 (fun q hq=>by
          simp only [Value.ownBlock,Option.some.injEq] at hq
          subst hq
          exact HO7.out.2.2))
         generalize (w7.setCell ⟨nb+1,0,none⟩ (.slice (some ⟨g7,0,none⟩) (CS.length+1) c7))=w8 at *
         clear p1 pf q0 hns HO7 HIX
         go_wp2_with fail
         go_loopw [102] (fun sv wr=>∃ (s:Nat) (rvs:List Value),sv=.int .i64 s∧s≤NT.length∧Hid (SpA w5 (nb+1) (.slice (some ⟨g7,0,none⟩) (CS.length+1) c7) (.slice (some ⟨nb,0,none⟩) S.length S.length) av (CS++[cq]) (rowsN NT k s) AS rvs wr)) (fun sv _=>NT.length - (intOf sv).toNat)
         case atStart=>exact ⟨0,rvs,rfl,Nat.zero_le _,Lib.hid HSC.out⟩
         case round=>
          clear HI hs
          obtain ⟨s,rvs2,rfl,hs,HJ⟩:=hrel
          by_cases hls:s<NT.length
          ·have hsi:(s:Int)<NT.length:=by omega
           have hsi2:(s:Int)<S.length:=by have:=HNL.out;omega
           have hrs:=List.getElem?_eq_getElem hls
           have hrl:=HRW.out _ (List.getElem_mem hls)
           obtain ⟨_,_,hte,_,_,hcell⟩:=HO5.out.2.1.form
           cases hte
           obtain ⟨g6,o6,ar,cr,he6,hc6,hsl6,hcr1,hcr2⟩:=hcell s hls
           cases he6
           have hgd:NT.getD s []=NT[s]:=by rw [List.getD_eq_getElem?_getD,hrs];rfl
           rw [hgd] at hc6 hsl6 hcr1
           have r0:=HJ.out.u.some hc6 (by simp)
           obtain ⟨ra,rc,hre,_,_,hce⟩:=hsl6.elems
           cases hre
           obtain ⟨rg,ro,rfl,kk⟩:=hce (by omega)
           have hrk:=kk k _ (ints_get (gd_some (d:=0) (by omega)))
           have r1:=HJ.out.u.some hrk (by simp)
           have hkr:(k:Int)<NT[s].length:=by omega
           have hrt:=rowsN_at (k:=k) (s:=s) hls
           rw [if_neg (Nat.lt_irrefl s),hgd] at hrt
           have HST:=Lib.hid (rowsN_set (k:=k) (s:=s) HBG.out.symm hls)
           rw [hgd] at HST
           obtain ⟨C0,hC0⟩:∃ C0,((keptN NT k).map fun c=>NT[s].getD c 0)=C0:=⟨_,rfl⟩
           have hcl0:C0.length≤1000:=by rw [←hC0,List.length_map];have:=cuts_len HOK.out.1;omega
           rw [hC0] at hrt HST
           obtain ⟨y,hy,hyo⟩:=HJ.out.val hrt
           have q1:=HJ.out.bx.cell (i:=1) rfl
           have t0:=HJ.out.tcell hy
           have hrb:rg<w5.heap.size:=World.block_lt_of_cell? _ _ hrk
           have HY:=Lib.hid (And.intro hrt (And.intro hy (And.intro hyo (And.intro r1 hrb))))
           clear hcell hc6 hsl6 hce kk hrk hrt hrs hC0 hyo hrb hgd
           obtain ⟨ya,yc,rfl,_⟩:=id (SL.of_owns HY.out.2.2.1).elems
           generalize NT[s].getD k 0=z at *
           generalize NT[s]=row at *
           go_upto_region 28 with fail
           refine wp_region_ord 15 1 [0,1,2,3,4,5,6,7,8,9,10,11,14] [1,4,7,11] [0,1,2,3,4,5,6,7,8,9,10,11,12,13,14,15] (fun w'=>∃ x:Tri ⟨nb+1,1,none⟩ ⟨nb,s,none⟩ ⟨rg,ro+k,none⟩ (.slice (some ⟨nb,0,none⟩) S.length S.length) (.slice ya C0.length yc) (.int .i64 z),w'=x.val) (by kernel_rfl) (by kernel_rfl) (Tri.of q1 t0 r1) ?_
           repeat (first|(refine wpOrd_load rfl rfl rfl rfl (fun K hK=>?_);go_big_quiet_step (exact rfl);refine wpQuiet_nil ?_;refine hK _ ?_;clear hK K)|(refine wpOrd_free rfl rfl rfl (fun K hK=>?_);go_big_quiet_step (fail);refine wpQuiet_nil ?_;refine hK _ ?_;clear hK K))
           refine wpOrd_fix rfl rfl (fun K hK=>?_)
           go_wp2_with fail
           have HNB3:=Lib.hid (show Blk ((wr.alloc (.cells #[.int .i64 z] 3)).drew) wr.heap.size [.int .i64 z] 3∧Upd [] wr ((wr.alloc (.cells #[.int .i64 z] 3)).drew) from ⟨Blk.new wr [.int .i64 z] 3,(by iterate 25 (first|exact Upd.refl _ _|assumption|refine Upd.alloc ?_ _|refine Upd.drew ?_|refine Upd.drewN ?_ _|refine Upd.dl ?_|refine Upd.step ?_ (Ext.upd _)|refine Upd.nil ?_|skip))⟩)
           have HGB:=Lib.hid (Nat.le_refl wr.heap.size)
           generalize ((wr.alloc (.cells #[.int .i64 z] 3)).drew)=wB at *
           generalize wr.heap.size=gB at HNB3 HGB ⊢
           have HIB:=Lib.hid (HJ.out.quiet HNB3.out.2)
           have q1:=HNB3.out.2.some q1 (by simp)
           have t0:=HNB3.out.2.some t0 (by simp)
           have r1:=HNB3.out.2.some r1 (by simp)
           have HYB:=Lib.hid (ownsRow_updL HY.out.2.2.1 HNB3.out.2 (by simp))
           refine ⟨fun _=>Tri.of q1 t0 r1,?_⟩
           repeat (first|(refine wpOrd_load rfl rfl rfl rfl (fun K hK=>?_);go_big_quiet_step (exact rfl);refine wpQuiet_nil ?_;refine hK _ ?_;clear hK K)|(refine wpOrd_free rfl rfl rfl (fun K hK=>?_);go_big_quiet_step (fail);refine wpQuiet_nil ?_;refine hK _ ?_;clear hK K))
           refine wpOrd_fix rfl rfl (fun K hK=>?_)
           refine wpList_app rfl _ _ _ rfl 3 1 8 _ Tryz.underlying22 infoInt rfl (by decide) (.slice ya C0.length yc) _ _ rfl HYB.out gB 1 1 [.int .i64 z] 3 rfl rfl HNB3.out.1 (by simp [Value.oneCell']) (by omega) (by unfold maxLen;omega) (by omega) ?_
           intro g9 c9 w9 o9 u9 k9
           simp only [Act.put,List.setIfInBounds_toArray,List.set_cons_zero,List.set_cons_succ]
           have bx9:=HIB.out.bx.upd u9 (fun hm=>own_bne HYB.out HIB.out.bx (by decide) (g:=nb+1) (by simpa using hm) rfl)
           have htbN:wB.ownsRow 0 22 1 (.slice (some ⟨nb,0,none⟩) S.length S.length) S.length rvs2:=by have h1:=HIB.out.tb;rwa [rowsN_len,HNL.out] at h1
           obtain ⟨pad9,hbn9,_⟩:=own_blk (ownsRow_updL htbN u9 (fun b hb hq=>own_ne HIB.out.tb HYB.out (by decide) hq (by simpa using hb)))
           have q1':=bx9.cell (i:=1) rfl
           have t0':=u9.some t0 (fun hm=>own_ne HIB.out.tb HYB.out (by decide) (g:=nb) rfl (by simpa using hm))
           have r1':=u9.some r1 (fun hm=>by have h1:=HIB.out.nw.2.2.2.2 s _ _ HY.out.2.1 (by simpa using hm);have h2:=HY.out.2.2.2.2;(try simp only at h1);omega)
           have f1':∀ q,w9.frozen? ⟨nb,q,none⟩=false:=hbn9.free
           have H9:=Lib.hid (And.intro o9 (And.intro u9 k9))
           clear o9 u9 k9 bx9 hbn9 q1 t0 r1 htbN
           go_wp2_with fail
           refine ⟨fun _=>Tri.of q1' t0' r1',?_⟩
           repeat (first|(refine wpOrd_load rfl rfl rfl rfl (fun K hK=>?_);go_big_quiet_step (exact rfl);refine wpQuiet_nil ?_;refine hK _ ?_;clear hK K)|(refine wpOrd_free rfl rfl rfl (fun K hK=>?_);go_big_quiet_step (fail);refine wpQuiet_nil ?_;refine hK _ ?_;clear hK K))
           refine wpOrd_fix rfl rfl (fun K hK=>?_)
           go_wp2_with fail
           refine ⟨fun hC=>absurd hC (by decide),?_⟩
           refine wpOrd_nil ?_
           go_wp2_with fail
           have hpu:=HIB.out.rowPushN (y':=.slice (some ⟨g9,0,none⟩) (C0.length+1) c9) (z:=z) (w1:=w9) (by rw [rowsN_len,HNL.out]) HY.out.1 HY.out.2.1 H9.out.1 H9.out.2.1 (fun q hq=>by
            simp only [Value.ownBlock,Option.some.injEq] at hq
            subst hq
            exact H9.out.2.2.imp id fun h=>by omega)
           rw [HST.out] at hpu
           exact ⟨⟨s+1,_,by go_num,by omega,Lib.hid hpu⟩,by simp [intOf];omega⟩
          ·have hse:s=NT.length:=by omega
           subst hse
           have hns:¬ ((NT.length:Int)<S.length):=by have:=HNL.out;omega
           go_wp2_with fail
           exact ⟨⟨k+1,_,rvs2,by go_num,by omega,Lib.hid (by rw [HCS.out,←rowsN_full];exact HJ.out)⟩,by simp [intOf];omega⟩
     ·have hke:k=a.cuts.length:=by omega
      subst hke
      generalize ((keptN NT a.cuts.length).map fun c=>a.cuts.getD c 0)=CS at *
      generalize hRS:rowsN NT a.cuts.length 0=RS at *
      have hni:¬ ((a.cuts.length:Int)<a.cuts.length):=by omega
      obtain ⟨ca',cc',rfl,_⟩:=id (SL.of_owns HI.out.cu).elems
      obtain ⟨aa',ac',rfl,_⟩:=id (SL.of_owns HI.out.ac).elems
      have q0:=HI.out.bx.cell (i:=0) rfl
      have q1:=HI.out.bx.cell (i:=1) rfl
      have q2:=HI.out.bx.cell (i:=2) rfl
      have bR:=HW.out.1.upd (HU5.out.step HI.out.u) (by simp)
      have r0:=bR.cell (i:=0) rfl
      have r1:=bR.cell (i:=1) rfl
      have r2:=bR.cell (i:=2) rfl
      have rf:∀ q,wr.frozen? ⟨pa+1,q,none⟩=false:=bR.free
      have HBR:=Lib.hid bR
      clear bR hRS
      go_wp2_with fail
      have hs3:=cell3_set (a:=.slice ca' CS.length cc') (b:=.slice (some ⟨nb,0,none⟩) S.length S.length) (c:=.slice aa' AS.length ac') HBR.out
      have hf:=HI.out.fin hs3.2 (fun b hb=>by
       simp at hb
       subst hb
       have h1:=HW.out.1.lt
       have h2:=HU5.out.size
       omega)
      rw [HMI.out,HOK.out.2]
      exact ret_au2 rfl rfl rfl hs3.1 rfl hf ((HW.out.2.step (HU5.out.step HI.out.u)).fresh hs3.2 (fun b hb=>.inr (by simp at hb;subst hb;have:=HPA.out;omega)))
 ·have hbb:(vErr a != 0)=true:=by simpa using he
  have HE:=Lib.hid (show minE a=noA by unfold minE;rw [if_pos he])
  clear he
  generalize her:vErr a=er at HVA hbb
  have HER:=Lib.hid her
  clear her
  go_wp2_with ((with_reducible refine HVA.out.mono ?_);rintro e w2 ⟨rfl,u2⟩;have bR:=HW.out.1.upd u2 (by simp);have r0:=bR.cell (i:=0) rfl;have r1:=bR.cell (i:=1) rfl;have r2:=bR.cell (i:=2) rfl;have rf:∀ q,w2.frozen? ⟨pa+1,q,none⟩=false:=bR.free;have HBR:=Lib.hid (And.intro bR u2);clear bR u2)
  have hs:=cell3_set (a:=.slice none 0 0) (b:=.slice none 0 0) (c:=.slice none 0 0) HBR.out.1
  rw [HE.out,HER.out]
  exact ret_au2 rfl rfl rfl hs.1 rfl noA_F ((HW.out.2.step HBR.out.2).fresh hs.2 (fun c hc=>.inr (by simp at hc;subst hc;have:=HPA.out;omega)))
end
end Aut
end Go.Proofs.YtjclbjdkkdijbaaGreat
end
section
open Go.RowKit
namespace Go.Proofs.YtjclbjdkkdijbaaGreat
open L
namespace Aut
open Auto
attribute [-go_sem] sliced
theorem row_at {w:World} {a:Au} {a2:Option Addr} {c2:Nat} {x y:Value} (hF:AuF w a [x,.slice a2 a.next.length c2,y]) (hok:Ok a) {s k:Nat} (hs:s<a.next.length) (hk:k<a.cuts.length) :
 ∃ g off rg ro rc,a2=some ⟨g,off,none⟩∧w.cell? ⟨g,off+s,none⟩=some (.slice (some ⟨rg,ro,none⟩) a.cuts.length rc)∧w.cell? ⟨rg,ro+k,none⟩=some (.int .i64 (rowA a s k:Nat))∧a.cuts.length≤rc∧rc≤9223372036854775807:=by
 obtain ⟨g,off,ar,cr,he,h1,h2⟩:=hF.row hs
 have hrow:=hok.rows _ (gd_memA (d:=[]) hs)
 obtain ⟨ra,rc,he2,q1,r1,hce⟩:=h2.elems
 cases he2
 obtain ⟨rg,ro,rfl,kk⟩:=hce (by omega)
 have hx:=hrow.2 _ (gd_memA (d:=0) (by omega:k<(a.next.getD s []).length))
 have hcx:=kk k _ (by rw [ints_get (gd_some (d:=0) (by omega:k<(a.next.getD s []).length))])
 refine ⟨g,off,rg,ro,cr,he,by rw [←hrow.1];exact h1,?_,by omega,r1⟩
 rw [hcx]
 have e:((rowA a s k:Nat):Int)=(a.next.getD s []).getD k 0:=by unfold rowA;omega
 rw [e]
theorem nat_cell {w:World} {ao:Option Addr} {co n:Nat} {of:List Nat} (h:SL w 1 (.slice ao n co) of.length (ints (of.map Int.ofNat))) {s:Nat} (hs:s<of.length):∃ g off,ao=some ⟨g,off,none⟩∧w.cell? ⟨g,off+s,none⟩=some (.int .i64 (of.getD s 0:Nat)):=by
 obtain ⟨a',c',he,_,_,hc⟩:=SL.elems h
 cases he
 obtain ⟨g,off,rfl,kk⟩:=hc (by omega)
 refine ⟨g,off,rfl,kk s _ ?_⟩
 have e:=gd_some (d:=0) hs
 rw [ints_get (x:=((of.getD s 0:Nat):Int)) (by rw [List.getElem?_map,e];rfl)]
theorem nat_ne (x y:Nat):((x:Int) != (y:Int))=!decide (x=y):=by
 rw [Bool.eq_iff_iff]
 simp
 omega
section
variable {w w':World} {v v2:Value}
set_option maxRecDepth 100000 in
set_option maxHeartbeats 8000000 in
theorem alike_calls {a:Au} {of:List Nat} {s t:Nat} (h:AuV w a v) (ho:SL w 1 v2 of.length (ints (of.map Int.ofNat))) (hok:Ok a) (hl:of.length=a.next.length) (hs:s<a.next.length) (ht:t<a.next.length) :
 Calls Tryz.prog 98 #[v,v2,.int .i64 s,.int .i64 t] w fun e w'=>e=.returned (.bool (aliB a of s t))∧Upd [] w w':=by
 obtain ⟨a1,c1,a2,c2,a3,c3,rfl,hF⟩:=h.shape
 obtain ⟨ao,co,rfl,_⟩:=id ho.elems
 have HF:=Lib.hid hF
 have HOK:=Lib.hid hok
 have HO:=Lib.hid (And.intro ho hl)
 have HST:=Lib.hid (And.intro hs ht)
 have hoi:((of.length:Nat):Int)=a.next.length:=by omega
 clear h hF hok ho hl
 go_enter Tryz.func98,Tryz.ntmps98
 go_upto_region 1 with fail
 have bA:=Blk.new w [.slice a1 a.cuts.length c1,.slice a2 a.next.length c2,.slice a3 a.acc.length c3] 39
 have uA:=(Upd.refl [] w).alloc (.cells #[.slice a1 a.cuts.length c1,.slice a2 a.next.length c2,.slice a3 a.acc.length c3] 39)
 change Blk (w.alloc (.cells #[.slice a1 a.cuts.length c1,.slice a2 a.next.length c2,.slice a3 a.acc.length c3] 39)) _ _ _ at bA
 generalize (w.alloc (.cells #[.slice a1 a.cuts.length c1,.slice a2 a.next.length c2,.slice a3 a.acc.length c3] 39))=w1 at *
 have k0:=bA.cell (i:=0) rfl
 have k1:=bA.cell (i:=1) rfl
 have k2:=bA.cell (i:=2) rfl
 have HU:=Lib.hid uA
 have HK:=Lib.hid (And.intro k0 k1)
 clear bA uA
 generalize w.heap.size=pa at *
 obtain ⟨go,oo,rfl,_⟩:=nat_cell (HO.out.1.upd HU.out (by simp)) (s:=s) (by rw [HO.out.2];exact hs)
 have hcell:∀ {u:Nat},u<a.next.length→w1.cell? ⟨go,oo+u,none⟩=some (.int .i64 (of.getD u 0:Nat)):=fun {u} hu=>by
  obtain ⟨g',o',he,hc⟩:=nat_cell (HO.out.1.upd HU.out (by simp)) (s:=u) (by rw [HO.out.2];exact hu)
  cases he
  exact hc
 have HC:=Lib.hid (show ∀ u,u<a.next.length→w1.cell? ⟨go,oo+u,none⟩=some (.int .i64 (of.getD u 0:Nat)) from fun u hu=>hcell hu)
 have o1:=hcell hs
 have o2:=hcell ht
 obtain ⟨ga,oa,he3,hc1⟩:=(HF.out.ext HU.out).acc (i:=s) (by rw [HOK.out.acc];exact hs)
 cases he3
 obtain ⟨gb,ob,he3,hc2⟩:=(HF.out.ext HU.out).acc (i:=t) (by rw [HOK.out.acc];exact ht)
 cases he3
 have hsi:(s:Int)<a.next.length:=by omega
 have hti:(t:Int)<a.next.length:=by omega
 have hsa:(s:Int)<a.acc.length:=by rw [HOK.out.acc];omega
 have hta:(t:Int)<a.acc.length:=by rw [HOK.out.acc];omega
 have hso:(s:Int)<of.length:=by omega
 have hto:(t:Int)<of.length:=by omega
 have HAL:=Lib.hid (ali_iff (a:=a) (of:=of) (s:=s) (t:=t))
 clear hcell hoi
 generalize of.getD s 0=os at *
 generalize of.getD t 0=ot at *
 generalize a.acc.getD s false=bs at *
 generalize a.acc.getD t false=bt at *
 by_cases e1:os=ot
 ·subst e1
  by_cases e2:bs=bt
  ·subst e2
   refine wp_region_qx (by kernel_rfl) (by kernel_rfl) ?_
   repeat (go_big_quiet_step ((fail)))
   refine wpQuiet_nil ?_
   intro x
   have HX:=Lib.hid x.upd
   generalize x.val=w2 at *
   clear o1 o2 hc1 hc2 k0 k1 k2 hsi hti hsa hta hso hto
   go_wp2_with fail
   go_loopw [9] (fun kv wr=>∃ k:Nat,kv=.int .i64 k∧k≤a.cuts.length∧Hid (∀ j,j<k→of.getD (rowA a s j) 0=of.getD (rowA a t j) 0)∧∃ x:Ext w2,wr=x.val) (fun kv _=>a.cuts.length - (intOf kv).toNat)
   case atStart=>exact ⟨0,rfl,Nat.zero_le _,Lib.hid (fun j hj=>by omega),Ext.of (by iterate 25 (first|exact Upd.refl _ _|assumption|refine Upd.alloc ?_ _|refine Upd.drew ?_|refine Upd.drewN ?_ _|refine Upd.dl ?_|refine Upd.step ?_ (Ext.upd _)|refine Upd.nil ?_|skip))⟩
   case round=>
    obtain ⟨k,rfl,hk,HR,x,rfl⟩:=hrel
    have HY:=Lib.hid (HX.out.step x.upd)
    have HXX:=Lib.hid x.upd
    generalize x.val=w3 at *
    have k0:=HY.out.some HK.out.1 (by simp)
    have k1:=HY.out.some HK.out.2 (by simp)
    by_cases hlt:k<a.cuts.length
    ·have hki:(k:Int)<a.cuts.length:=by omega
     have hsi:(s:Int)<a.next.length:=by have:=HST.out.1;omega
     have hti:(t:Int)<a.next.length:=by have:=HST.out.2;omega
     obtain ⟨g1,p1,rg1,ro1,rc1,he1,r1,r2,_,_⟩:=row_at ((HF.out.ext HU.out).ext HY.out) HOK.out HST.out.1 hlt
     cases he1
     obtain ⟨g2,p2,rg2,ro2,rc2,he2,r3,r4,_,_⟩:=row_at ((HF.out.ext HU.out).ext HY.out) HOK.out HST.out.2 hlt
     cases he2
     have hx:=rowA_lt HOK.out HST.out.1 hlt
     have hy:=rowA_lt HOK.out HST.out.2 hlt
     have o1:=HY.out.some (HC.out _ hx) (by simp)
     have o2:=HY.out.some (HC.out _ hy) (by simp)
     have hxo:(rowA a s k:Int)<of.length:=by rw [HO.out.2];omega
     have hyo:(rowA a t k:Int)<of.length:=by rw [HO.out.2];omega
     have HRS:=Lib.hid (show of.getD (rowA a s k) 0=of.getD (rowA a t k) 0→∀ j,j<k+1→of.getD (rowA a s j) 0=of.getD (rowA a t j) 0 from fun h j hj=>by
      rcases Nat.lt_or_ge j k with h2|h2
      ·exact HR.out j h2
      ·have:j=k:=by omega
       subst this;exact h)
     have HNO:=Lib.hid (show ¬ of.getD (rowA a s k) 0=of.getD (rowA a t k) 0→aliB a of s t=false from fun h=>by
      rw [←Bool.not_eq_true]
      intro h2
      exact h ((HAL.out.1 h2).2.2 k hlt))
     generalize of.getD (rowA a s k) 0=ox at *
     generalize of.getD (rowA a t k) 0=oy at *
     generalize rowA a s k=rx at *
     generalize rowA a t k=ry at *
     have hne:=nat_ne ox oy
     by_cases e3:ox=oy
     ·have HE3:=Lib.hid (HRS.out e3)
      subst e3
      clear HRS HNO hx hy hne
      go_upto_region 6 with fail
      refine wp_region_qx (by kernel_rfl) (by kernel_rfl) ?_
      repeat (go_big_quiet_step ((fail)))
      refine wpQuiet_nil ?_
      intro x
      have HZ:=Lib.hid x.upd
      generalize x.val=w4 at *
      clear o1 o2 r1 r2 r3 r4 k0 k1
      go_wp2_with fail
      exact ⟨⟨k+1,by go_num,by omega,HE3,Ext.of (HXX.out.step HZ.out)⟩,by simp [intOf];omega⟩
     ·have HE3:=Lib.hid (HNO.out e3)
      have hne2:((ox:Int) != (oy:Int))=true:=by rw [hne];simp [e3]
      clear e3 HRS HNO hx hy hne
      go_upto_region 6 with fail
      refine wp_region_qx (by kernel_rfl) (by kernel_rfl) ?_
      repeat (go_big_quiet_step ((fail)))
      refine wpQuiet_nil ?_
      intro x
      have HZ:=Lib.hid (HY.out.step x.upd)
      generalize x.val=w4 at *
      clear o1 o2 r1 r2 r3 r4 k0 k1
      go_wp2_with fail
      go_ret
      rw [HE3.out]
      exact ⟨rfl,HU.out.step HZ.out⟩
    ·have hke:k=a.cuts.length:=by omega
     subst hke
     have HT:=Lib.hid (show aliB a of s t=true from HAL.out.2 ⟨by first|rfl|trivial,by first|rfl|trivial,HR.out⟩)
     have hni:¬ ((a.cuts.length:Int)<a.cuts.length):=by omega
     go_wp2_with fail
     go_ret
     rw [HT.out]
     exact ⟨rfl,HU.out.step HY.out⟩
  ·have HT:=Lib.hid (show aliB a of s t=false from by
    rw [←Bool.not_eq_true]
    intro h2
    exact e2 (HAL.out.1 h2).2.1)
   have hn2:(bs=true∧bt=false)∨(bs=false∧bt=true):=by cases bs <;> cases bt <;> simp at e2 ⊢
   clear e2
   rcases hn2 with ⟨rfl,rfl⟩|⟨rfl,rfl⟩
   all_goals
    refine wp_region_qx (by kernel_rfl) (by kernel_rfl) ?_
    repeat (go_big_quiet_step ((fail)))
    refine wpQuiet_nil ?_
    intro x
    have HX:=Lib.hid (HU.out.step x.upd)
    generalize x.val=w2 at *
    go_wp2_with fail
    go_ret
    rw [HT.out]
    exact ⟨rfl,HX.out⟩
 ·have HT:=Lib.hid (show aliB a of s t=false from by
   rw [←Bool.not_eq_true]
   intro h2
   exact e1 (HAL.out.1 h2).1)
  have hn1:((os:Int) != (ot:Int))=true:=by rw [nat_ne];simp [e1]
  clear e1
  refine wp_region_qx (by kernel_rfl) (by kernel_rfl) ?_
  repeat (go_big_quiet_step ((fail)))
  refine wpQuiet_nil ?_
  intro x
  have HX:=Lib.hid (HU.out.step x.upd)
  generalize x.val=w2 at *
  go_wp2_with fail
  go_ret
  rw [HT.out]
  exact ⟨rfl,HX.out⟩
theorem nats_own (w:World) (xs:List Nat) (hn:xs.length≤1000):OwW 3 1 xs.length w (.slice none 0 0) (.slice (some ⟨w.heap.size,0,none⟩) xs.length xs.length) (ints (xs.map Int.ofNat)) (w.alloc (.cells (ints (xs.map Int.ofNat)).toArray 3)):=
 ⟨owns_blk (Blk.new w (ints (xs.map Int.ofNat)) 3) (by simp [ints]) (by unfold maxLen;omega),(Upd.refl _ w).alloc _,fun g hg=>by
  simp only [Value.ownBlock,Option.some.injEq] at hg
  exact .inr (by omega)⟩
def repL (a:Au):List Nat:=(List.range a.next.length).map (rep a)
def chgB (x y:List Nat) (s:Nat):Bool:=(List.range s).any fun i=>decide (x.getD i 0≠y.getD i 0)
theorem chgB_step (x y:List Nat) (s:Nat):chgB x y (s+1)=(chgB x y s || decide (x.getD s 0≠y.getD s 0)):=by
 unfold chgB
 rw [List.range_succ,List.any_append]
 simp
theorem chgB_eq {x y:List Nat} (h:x.length=y.length) (hc:chgB x y x.length=false):x=y:=by
 unfold chgB at hc
 rw [List.any_eq_false] at hc
 apply List.ext_getElem h
 intro i p q
 have:=hc i (List.mem_range.2 p)
 rw [List.getD_eq_getElem?_getD,List.getD_eq_getElem?_getD,List.getElem?_eq_getElem p,List.getElem?_eq_getElem q] at this
 simpa using this
theorem chgB_self (x:List Nat) (s:Nat):chgB x x s=false:=by
 unfold chgB
 rw [List.any_eq_false]
 intro i _
 simp
set_option maxRecDepth 100000 in
set_option maxHeartbeats 8000000 in
theorem blocksR_calls {a:Au} (h:AuV w a v) (hok:Ok a):Calls Tryz.prog 70 #[v] w fun e w'=>∃ v',e=.returned v'∧OwW 3 1 a.next.length w (.slice none 0 0) v' (ints ((repL a).map Int.ofNat)) w':=by
 obtain ⟨a1,c1,a2,c2,a3,c3,rfl,hF⟩:=h.shape
 have HF:=Lib.hid hF
 have HOK:=Lib.hid hok
 have hfew:((a.next.length:Nat):Int)≤256:=by have:=hok.few;omega
 clear h hF hok
 go_enter Tryz.func70,Tryz.ntmps70
 go_upto_region 1 with fail
 have bA:=Blk.new w [.slice a1 a.cuts.length c1,.slice a2 a.next.length c2,.slice a3 a.acc.length c3] 39
 have uA:=(Upd.refl [] w).alloc (.cells #[.slice a1 a.cuts.length c1,.slice a2 a.next.length c2,.slice a3 a.acc.length c3] 39)
 change Blk (w.alloc (.cells #[.slice a1 a.cuts.length c1,.slice a2 a.next.length c2,.slice a3 a.acc.length c3] 39)) _ _ _ at bA
 generalize (w.alloc (.cells #[.slice a1 a.cuts.length c1,.slice a2 a.next.length c2,.slice a3 a.acc.length c3] 39))=w1 at *
 have k0:=bA.cell (i:=0) rfl
 have k1:=bA.cell (i:=1) rfl
 have k2:=bA.cell (i:=2) rfl
 have HU:=Lib.hid uA
 have HK:=Lib.hid (And.intro k0 (And.intro k1 k2))
 clear bA uA
 generalize w.heap.size=pa at *
 go_upto_region 2 with (at_make;refine wpList_mk rfl _ _ _ rfl 3 1 8 _ Tryz.underlying22 infoInt rfl (by decide) .i64 .i64 a.next.length a.next.length a.next.length rfl rfl (by omega) (by omega) (by omega) (by omega) ?_)
 have hrep:(rows a.next.length fun _=>[Value.int .i64 0])=ints ((ofS a 0).map Int.ofNat):=by rw [rows_one];simp [ints,ofS]
 change Code.wp _ _ _ _ (w1.alloc (.cells (rows a.next.length fun _=>[Value.int .i64 0]).toArray 3))
 rw [hrep]
 have HO0:=Lib.hid (show OwW 3 1 a.next.length w1 (.slice none 0 0) (.slice (some ⟨w1.heap.size,0,none⟩) a.next.length a.next.length) (ints ((ofS a 0).map Int.ofNat)) (w1.alloc (.cells (ints ((ofS a 0).map Int.ofNat)).toArray 3)) from by
  have h:=nats_own w1 (ofS a 0) (by rw [ofS_len];omega)
  rwa [ofS_len] at h)
 generalize (w1.alloc (.cells (ints ((ofS a 0).map Int.ofNat)).toArray 3))=w2 at *
 generalize w1.heap.size=ob at *
 clear hrep k0 k1 k2
 go_wp2_with fail
 go_loopg [3,4] (a.next.length+1) (fun gk ov cv wr=>∃ (j:Nat) (ch:Bool) (v3:Value),v3=ov∧cv=.bool ch∧Hid (OwW 3 1 a.next.length w1 (.slice none 0 0) v3 (ints ((ofS a j).map Int.ofNat)) wr∧(ch=true→a.next.length+1≤gk+cntO a j)∧(ch=false→ofS a (j+1)=ofS a j)))
 case atStart=>exact ⟨0,true,_,rfl,rfl,Lib.hid ⟨HO0.out,fun _=>by omega,fun h=>by cases h⟩⟩
 case round=>
  obtain ⟨j,ch,v3,rfl,rfl,HI⟩:=hrel
  obtain ⟨oa,oc,rfl,_⟩:=id HI.out.1.form
  cases ch with
  | false=>
   have HL:=Lib.hid (show ofS a j=repL a from by
    unfold repL
    apply List.ext_getElem (by simp [ofS_len])
    intro i p q
    have hp:i<a.next.length:=by rw [ofS_len] at p;exact p
    have h1:=rep_at HOK.out.few (HI.out.2.2 rfl) i
    rw [List.getD_eq_getElem?_getD,List.getElem?_eq_getElem p] at h1
    simp only [Option.getD_some] at h1
    rw [h1]
    simp)
   go_wp2_with fail
   go_ret
   refine ⟨_,rfl,?_⟩
   rw [←HL.out]
   have h1:=HI.out.1
   exact ⟨h1.row,HU.out.step h1.fresh,fun g hg=>(h1.old g hg).imp id fun h2=>Nat.le_trans HU.out.size h2⟩
  | true=>
   have HIT:=Lib.hid (HI.out.2.1 rfl)
   have HIO:=Lib.hid HI.out.1
   clear HI
   obtain ⟨wo,rfl⟩:∃ wo:World,wo=wr:=⟨_,rfl⟩
   go_wp2_with fail
   go_loopw [5,6] (fun nx sv wr=>∃ (s:Nat) (nv:Value),nv=nx∧sv=.int .i64 s∧s≤a.next.length∧Hid (OwW 3 1 s wo (.slice none 0 0) nv (ints (((ofS a (j+1)).take s).map Int.ofNat)) wr)) (fun _ sv _=>a.next.length - (intOf sv).toNat)
   case atStart=>exact ⟨0,_,rfl,rfl,Nat.zero_le _,Lib.hid (OwW.nil _ _ _)⟩
   case round=>
    obtain ⟨s,nv,rfl,rfl,hs,HS⟩:=hrel
    obtain ⟨na,nc,rfl,_⟩:=id HS.out.form
    by_cases hlt:s<a.next.length
    ·have hsi:(s:Int)<a.next.length:=by omega
     have hsl:=leastB_spec (a:=a) (of:=ofS a j) hlt
     have HLS:=Lib.hid hsl
     have hlb:leastB a (ofS a j) s<a.next.length:=by have:=hsl.1;omega
     have HAL:=Lib.hid (fun (w':World) (u:Upd [] wr w') (t:Nat) (ht:t<a.next.length)=>alike_calls (w:=w') (a:=a) (of:=ofS a j) (v:=.agg #[.slice a1 a.cuts.length c1,.slice a2 a.next.length c2,.slice a3 a.acc.length c3]) (v2:=.slice oa a.next.length oc) ⟨_,rfl,((((HF.out.ext HU.out).ext HIO.out.fresh).ext HS.out.fresh).ext u)⟩ (by rw [ofS_len];exact (HIO.out.sl.upd (HS.out.fresh.step u) (by simp))) HOK.out (ofS_len a j) hlt ht)
     have HST:=Lib.hid (show ((ofS a (j+1)).take (s+1))=(ofS a (j+1)).take s++[leastB a (ofS a j) s] from by
      have e1:(ofS a (j+1)).getD s 0=leastB a (ofS a j) s:=now_at hlt
      rw [List.take_add_one,gd_some (d:=0) (by rw [ofS_len];exact hlt),e1]
      rfl)
     have HKR:=Lib.hid (HIO.out.fresh.step HS.out.fresh)
     obtain ⟨NS,hNS⟩:∃ NS,(ofS a (j+1)).take s=NS:=⟨_,rfl⟩
     have HNL:=Lib.hid (show NS.length=s from by rw [←hNS,List.length_take,ofS_len];omega)
     rw [hNS] at HS HST
     generalize leastB a (ofS a j) s=lb at *
     clear hNS hsl
     obtain ⟨wp,rfl⟩:∃ wp:World,wp=wr:=⟨_,rfl⟩
     go_wp2_with fail
     go_loopw [7] (fun tv wr=>∃ t:Nat,tv=.int .i64 t∧t≤lb∧∃ x:Ext wp,wr=x.val) (fun tv _=>a.next.length - (intOf tv).toNat)
     case atStart=>exact ⟨0,rfl,Nat.zero_le _,Ext.of (by iterate 25 (first|exact Upd.refl _ _|assumption|refine Upd.alloc ?_ _|refine Upd.drew ?_|refine Upd.drewN ?_ _|refine Upd.dl ?_|refine Upd.step ?_ (Ext.upd _)|refine Upd.nil ?_|skip))⟩
     case round=>
      obtain ⟨t,rfl,ht,x,rfl⟩:=hrel
      have HX:=Lib.hid x.upd
      generalize x.val=wq at *
      have k0:=(HKR.out.step HX.out).some HK.out.1 (by simp)
      have k1:=(HKR.out.step HX.out).some HK.out.2.1 (by simp)
      have k2:=(HKR.out.step HX.out).some HK.out.2.2 (by simp)
      by_cases hte:t=lb
      ·subst hte
       have HCA:=Lib.hid (show Calls Tryz.prog 98 #[.agg #[.slice a1 a.cuts.length c1,.slice a2 a.next.length c2,.slice a3 a.acc.length c3],.slice oa a.next.length oc,.int .i64 s,.int .i64 t] wq fun e w'=>e=.returned (.bool true)∧Upd [] wq w' from by have h:=HAL.out wq HX.out t hlb;rwa [HLS.out.2.1] at h)
       go_upto_region 12 with ((with_reducible refine HCA.out.mono ?_);rintro e w5 ⟨rfl,u5⟩)
       have HS5:=Lib.hid (HS.out.quiet (HX.out.step u5))
       clear u5 k0 k1 k2
       go_wp2_with (refine wpList_push rfl rfl _ _ _ _ rfl rfl rfl 3 1 8 _ Tryz.underlying22 infoInt rfl (by decide) (by decide) (.int .i64 (t:Nat)) [.int .i64 (t:Nat)] rfl rfl rfl (by simp [Value.oneCell']) (.slice na s nc) _ _ HS5.out.row rfl rfl (by unfold maxLen;omega) (by omega) ?_;intro g7 c7 w7 o7 u7 k7)
       have hpu:=HS5.out.push o7 u7 k7
       have e:ints (NS.map Int.ofNat)++[.int .i64 (t:Nat)]=ints ((NS++[t]).map Int.ofNat):=by simp [ints]
       rw [e] at hpu
       exact ⟨⟨s+1,_,rfl,by go_num,by omega,Lib.hid (by rw [HST.out];exact hpu)⟩,by simp [intOf];omega⟩
      ·have hlt2:t<lb:=by omega
       have HCA:=Lib.hid (show Calls Tryz.prog 98 #[.agg #[.slice a1 a.cuts.length c1,.slice a2 a.next.length c2,.slice a3 a.acc.length c3],.slice oa a.next.length oc,.int .i64 s,.int .i64 t] wq fun e w'=>e=.returned (.bool false)∧Upd [] wq w' from by have h:=HAL.out wq HX.out t (by omega);rwa [HLS.out.2.2 t hlt2] at h)
       go_wp2_with ((with_reducible refine HCA.out.mono ?_);rintro e w5 ⟨rfl,u5⟩)
       exact ⟨⟨t+1,by go_num,by omega,Ext.of (HX.out.step u5)⟩,by simp [intOf];omega⟩
    ·have hse:s=a.next.length:=by omega
     subst hse
     have hni:¬ ((a.next.length:Int)<a.next.length):=by omega
     rw [List.take_of_length_le (by rw [ofS_len];exact Nat.le_refl _)] at HS
     have HUP:=Lib.hid (cntO_up a j)
     have HCL:=Lib.hid (cntO_le a (j+1))
     obtain ⟨wp,rfl⟩:∃ wp:World,wp=wr:=⟨_,rfl⟩
     go_wp2_with fail
     go_loopw [4,8] (fun cv sv wr=>∃ (s:Nat) (ch:Bool),cv=.bool ch∧sv=.int .i64 s∧s≤a.next.length∧Hid (ch=chgB (ofS a (j+1)) (ofS a j) s)∧∃ x:Ext wp,wr=x.val) (fun _ sv _=>a.next.length - (intOf sv).toNat)
     case atStart=>exact ⟨0,false,rfl,rfl,Nat.zero_le _,Lib.hid rfl,Ext.of (by iterate 25 (first|exact Upd.refl _ _|assumption|refine Upd.alloc ?_ _|refine Upd.drew ?_|refine Upd.drewN ?_ _|refine Upd.dl ?_|refine Upd.step ?_ (Ext.upd _)|refine Upd.nil ?_|skip))⟩
     case round=>
      obtain ⟨s,ch,rfl,rfl,hs,HCH,x,rfl⟩:=hrel
      have HX:=Lib.hid x.upd
      generalize x.val=wq at *
      by_cases hlt:s<a.next.length
      ·have hsi:(s:Int)<a.next.length:=by omega
       have HSP:=Lib.hid (chgB_step (ofS a (j+1)) (ofS a j) s)
       cases ch with
       | true=>
        go_upto_region 16 with fail
        refine wp_region_qx (by kernel_rfl) (by kernel_rfl) ?_
        repeat (go_big_quiet_step ((fail)))
        refine wpQuiet_nil ?_
        intro x
        have HZ:=Lib.hid (HX.out.step x.upd)
        generalize x.val=wz at *
        go_wp2_with fail
        exact ⟨⟨s+1,true,rfl,by go_num,by omega,Lib.hid (by rw [HSP.out,←HCH.out];rfl),Ext.of HZ.out⟩,by simp [intOf];omega⟩
       | false=>
        obtain ⟨g1,o1,he1,hc1⟩:=nat_cell (ao:=na) (co:=nc) (n:=a.next.length) (of:=ofS a (j+1)) (by rw [ofS_len];exact HS.out.sl.upd HX.out (by simp)) (s:=s) (by rw [ofS_len];exact hlt)
        obtain ⟨g2,o2,he2,hc2⟩:=nat_cell (ao:=oa) (co:=oc) (n:=a.next.length) (of:=ofS a j) (by rw [ofS_len];exact HIO.out.sl.upd (HS.out.fresh.step HX.out) (by simp)) (s:=s) (by rw [ofS_len];exact hlt)
        cases he1
        cases he2
        generalize (ofS a (j+1)).getD s 0=x1 at *
        generalize (ofS a j).getD s 0=x2 at *
        obtain ⟨ne,hne⟩:∃ ne:Bool,((x1:Int) != (x2:Int))=ne:=⟨_,rfl⟩
        have HNE:=Lib.hid (show ne=decide (x1≠x2) from by rw [←hne,nat_ne];by_cases h:x1=x2 <;> simp [h])
        rw [←HNE.out] at HSP
        clear HNE
        go_upto_region 16 with fail
        refine wp_region_qx (by kernel_rfl) (by kernel_rfl) ?_
        repeat (go_big_quiet_step ((fail)))
        refine wpQuiet_nil ?_
        intro x
        have HZ:=Lib.hid (HX.out.step x.upd)
        generalize x.val=wz at *
        clear hc1 hc2
        go_wp2_with fail
        exact ⟨⟨s+1,ne,rfl,by go_num,by omega,Lib.hid (by rw [HSP.out,←HCH.out];rfl),Ext.of HZ.out⟩,by simp [intOf];omega⟩
      ·have hse:s=a.next.length:=by omega
       subst hse
       have hni:¬ ((a.next.length:Int)<a.next.length):=by omega
       have HQ:=Lib.hid (show OwW 3 1 a.next.length w1 (.slice none 0 0) (.slice na a.next.length nc) (ints ((ofS a (j+1)).map Int.ofNat)) wq from by
        have h1:=HS.out.quiet HX.out
        exact ⟨h1.row,HIO.out.fresh.step h1.fresh,fun g hg=>(h1.old g hg).imp id fun h2=>Nat.le_trans HIO.out.fresh.size h2⟩)
       cases ch with
       | false=>
        have HEQ:=Lib.hid (show ofS a (j+2)=ofS a (j+1) from by
         have h1:ofS a (j+1)=ofS a j:=chgB_eq (by rw [ofS_len,ofS_len]) (by rw [ofS_len];exact HCH.out.symm)
         show nowO a (ofS a (j+1))=nowO a (ofS a j)
         rw [h1])
        go_wp2_with fail
        go_roundg 0
        case measure=>have h1:=HIT.out;have h2:=HCL.out;have h3:=HUP.out.1;omega
        case rel=>exact ⟨j+1,false,_,rfl,rfl,Lib.hid ⟨HQ.out,(fun h=>by cases h),fun _=>HEQ.out⟩⟩
       | true=>
        have HGR:=Lib.hid (show cntO a j<cntO a (j+1) from by
         rcases Nat.lt_or_ge (cntO a j) (cntO a (j+1)) with h1|h1
         ·exact h1
         ·have h2:=HUP.out.2 (Nat.le_antisymm HUP.out.1 h1)
          have h3:=HCH.out
          rw [h2,chgB_self] at h3
          cases h3)
        go_wp2_with fail
        go_roundg (gk-1)
        case measure=>have h1:=HIT.out;have h2:=HCL.out;have h3:=HUP.out.1;omega
        case rel=>exact ⟨j+1,true,_,rfl,rfl,Lib.hid ⟨HQ.out,fun _=>by have h1:=HIT.out;have h2:=HGR.out;have h3:=HCL.out;omega,fun h=>by cases h⟩⟩
end
end Aut
end Go.Proofs.YtjclbjdkkdijbaaGreat
end
section
open Go.RowKit
namespace Go.Proofs.YtjclbjdkkdijbaaGreat
open L
namespace Aut
open Auto
attribute [-go_sem] sliced
def Pen (p0 p1 p2 p3 p4:Addr) (v0 v1 v2 v3 v4:Value):Type:={ w:World // w.cell? p0=some v0∧w.cell? p1=some v1∧w.cell? p2=some v2∧w.cell? p3=some v3∧w.cell? p4=some v4 }
section
variable {p0 p1 p2 p3 p4:Addr} {v0 v1 v2 v3 v4:Value}
def Pen.val (x:Pen p0 p1 p2 p3 p4 v0 v1 v2 v3 v4):World:=x.1
theorem Pen.c0 (x:Pen p0 p1 p2 p3 p4 v0 v1 v2 v3 v4):x.val.cell? p0=some v0:=x.2.1
theorem Pen.c1 (x:Pen p0 p1 p2 p3 p4 v0 v1 v2 v3 v4):x.val.cell? p1=some v1:=x.2.2.1
theorem Pen.c2 (x:Pen p0 p1 p2 p3 p4 v0 v1 v2 v3 v4):x.val.cell? p2=some v2:=x.2.2.2.1
theorem Pen.c3 (x:Pen p0 p1 p2 p3 p4 v0 v1 v2 v3 v4):x.val.cell? p3=some v3:=x.2.2.2.2.1
theorem Pen.c4 (x:Pen p0 p1 p2 p3 p4 v0 v1 v2 v3 v4):x.val.cell? p4=some v4:=x.2.2.2.2.2
attribute [go_sem] Pen.c0 Pen.c1 Pen.c2 Pen.c3 Pen.c4
theorem Pen.of {w:World} (h0:w.cell? p0=some v0) (h1:w.cell? p1=some v1) (h2:w.cell? p2=some v2) (h3:w.cell? p3=some v3) (h4:w.cell? p4=some v4):∃ x:Pen p0 p1 p2 p3 p4 v0 v1 v2 v3 v4,w=x.val:=⟨⟨w,h0,h1,h2,h3,h4⟩,rfl⟩
end
theorem begN_zero' (T:List (List Int)) (s:Nat):begN T 0 s=true:=by unfold begN;simp
section
variable {w w':World} {v v2:Value}
set_option maxRecDepth 100000 in
set_option maxHeartbeats 16000000 in
theorem merged_calls {b:Au} (h:AuV w b v) (hok:Ok b):Calls Tryz.prog 71 #[v] w fun e w'=>∃ v',e=.returned v'∧AuV w' (mrgA b) v'∧Upd [] w w':=by
 obtain ⟨a1,c1,a2,c2,a3,c3,rfl,hF⟩:=h.shape
 have HOK:=Lib.hid hok
 have HMI:=Lib.hid (show mrgA b=⟨(keptN b.next b.cuts.length).map fun k=>b.cuts.getD k 0,rowsN b.next b.cuts.length 0,b.acc⟩ from mrg_end b.cuts b.next b.acc)
 have HRW:=Lib.hid (show ∀ l∈b.next,l.length=b.cuts.length from fun l hl=>(hok.rows l hl).1)
 have hfew:((b.next.length:Nat):Int)≤256:=by have:=hok.few;omega
 clear h hok
 go_enter Tryz.func71,Tryz.ntmps71
 go_upto_region 1 with fail
 have bA:=(Blk.new w [.slice a1 b.cuts.length c1,.slice a2 b.next.length c2,.slice a3 b.acc.length c3] 39).alloc (.cells #[.slice none 0 0,.slice none 0 0,.slice none 0 0] 39)
 have bR:=Blk.new (w.alloc (.cells #[.slice a1 b.cuts.length c1,.slice a2 b.next.length c2,.slice a3 b.acc.length c3] 39)) [.slice none 0 0,.slice none 0 0,.slice none 0 0] 39
 have uA:=((Upd.refl [] w).alloc (.cells #[.slice a1 b.cuts.length c1,.slice a2 b.next.length c2,.slice a3 b.acc.length c3] 39)).alloc (.cells #[.slice none 0 0,.slice none 0 0,.slice none 0 0] 39)
 have z1:(w.alloc (.cells #[.slice a1 b.cuts.length c1,.slice a2 b.next.length c2,.slice a3 b.acc.length c3] 39)).heap.size=w.heap.size+1:=by simp
 rw [z1] at bR
 change Blk ((w.alloc (.cells #[.slice a1 b.cuts.length c1,.slice a2 b.next.length c2,.slice a3 b.acc.length c3] 39)).alloc (.cells #[.slice none 0 0,.slice none 0 0,.slice none 0 0] 39)) _ _ _ at bA
 change Blk ((w.alloc (.cells #[.slice a1 b.cuts.length c1,.slice a2 b.next.length c2,.slice a3 b.acc.length c3] 39)).alloc (.cells #[.slice none 0 0,.slice none 0 0,.slice none 0 0] 39)) _ _ _ at bR
 change Code.wp _ _ _ _ ((w.alloc (.cells #[.slice a1 b.cuts.length c1,.slice a2 b.next.length c2,.slice a3 b.acc.length c3] 39)).alloc (.cells #[.slice none 0 0,.slice none 0 0,.slice none 0 0] 39))
 generalize ((w.alloc (.cells #[.slice a1 b.cuts.length c1,.slice a2 b.next.length c2,.slice a3 b.acc.length c3] 39)).alloc (.cells #[.slice none 0 0,.slice none 0 0,.slice none 0 0] 39))=w1 at *
 have HF:=Lib.hid (hF.ext uA)
 have HW:=Lib.hid (And.intro bR uA)
 have k0:=bA.cell (i:=0) rfl
 have k1:=bA.cell (i:=1) rfl
 have k2:=bA.cell (i:=2) rfl
 have HK:=Lib.hid (And.intro k0 (And.intro k1 k2))
 have HAL0:=Lib.hid (show ∀ q,(Value.slice a3 b.acc.length c3).ownBlock=some q→q<w.heap.size from fun q hq=>by
  obtain ⟨_,_,_,he,_,_,h5⟩:=hF
  cases he
  exact sl_lt h5 (by have h1:=HOK.out.acc;have h2:=HOK.out.some_;omega) hq)
 clear bA uA hF z1
 generalize hpa:w.heap.size=pa at *
 have HPA:=Lib.hid (Nat.le_of_eq hpa)
 have HPB:=Lib.hid (show pa+1<w1.heap.size from bR.lt)
 have HAL:=Lib.hid (show ∀ q,(Value.slice a3 b.acc.length c3).ownBlock=some q→q<pa from fun q hq=>by have:=HAL0.out q hq;omega)
 clear hpa bR
 have hrep:(rows b.next.length fun _=>[Value.slice none 0 0])=List.replicate b.next.length (.slice none 0 0):=by rw [rows_one]
 have HREP:=Lib.hid hrep
 clear hrep
 go_cut [3] (fun x3 w'=>∃ ab nb,x3=.pointer (some ⟨ab,0,none⟩)∧Blk w' ab [.slice none 0 0,.slice (some ⟨nb,0,none⟩) b.next.length b.next.length,.slice a3 b.acc.length c3] 39∧Blk w' nb (List.replicate b.next.length (.slice none 0 0)) 22∧w1.heap.size≤ab∧w1.heap.size≤nb∧Upd [] w1 w')
 case first=>
  go_wp2_with fail
  refine wp_region_wa 9 8 (fun w'=>∃ x:Ext w1,w'=x.val) (by kernel_rfl) (by kernel_rfl) (Ext.of (by iterate 25 (first|exact Upd.refl _ _|assumption|refine Upd.alloc ?_ _|refine Upd.drew ?_|refine Upd.drewN ?_ _|refine Upd.dl ?_|refine Upd.step ?_ (Ext.upd _)|refine Upd.nil ?_|skip))) ?_
  (refine WA.free 0 rfl rfl (by kernel_rfl) (fun K hK=>?_);go_big_quiet_step (fail);refine wpQuiet_nil ?_;refine hK _ ?_;clear hK K)
  (refine WA.load 1 8 rfl rfl (by kernel_rfl) (by kernel_rfl) (fun K hK=>?_);go_big_quiet_step (fail);refine wpQuiet_nil ?_;refine hK _ ?_;clear hK K)
  (refine WA.free 2 rfl rfl (by kernel_rfl) (fun K hK=>?_);go_big_quiet_step (fail);refine wpQuiet_nil ?_;refine hK _ ?_;clear hK K);(refine WA.free 4 rfl rfl (by kernel_rfl) (fun K hK=>?_);go_big_quiet_step (fail);refine wpQuiet_nil ?_;refine hK _ ?_;clear hK K)
  (refine WA.load 5 8 rfl rfl (by kernel_rfl) (by kernel_rfl) (fun K hK=>?_);go_big_quiet_step (fail);refine wpQuiet_nil ?_;refine hK _ ?_;clear hK K)
  refine WA.two 3 7 (by kernel_rfl) (Do_.mk rfl (fun K hK=>?_)) (Do_.mk rfl (fun K hK=>?_))
  ·go_wp2_with (at_make;refine wpList_mk rfl _ _ _ rfl 22 1 24 _ Tryz.underlying28 infoInts rfl (by decide) .i64 .i64 b.next.length b.next.length b.next.length rfl rfl (by omega) (by omega) (by omega) (by omega) ?_)
   have HN:=Lib.hid (show Blk (w1.drew.alloc (.cells (rows b.next.length fun _=>(Value.slice none 0 0).cells.toList).toArray 22)) w1.drew.heap.size (List.replicate b.next.length (.slice none 0 0)) 22∧Upd [] w1 (w1.drew.alloc (.cells (rows b.next.length fun _=>(Value.slice none 0 0).cells.toList).toArray 22))∧w1.heap.size≤w1.drew.heap.size from by
    have e:(rows b.next.length fun _=>(Value.slice none 0 0).cells.toList)=List.replicate b.next.length (.slice none 0 0):=HREP.out
    rw [e]
    exact ⟨Blk.new _ _ _,((Upd.refl [] w1).drew).alloc _,((Upd.refl [] w1).drew).size⟩)
   generalize (w1.drew.alloc (.cells (rows b.next.length fun _=>(Value.slice none 0 0).cells.toList).toArray 22))=w2 at *
   generalize w1.drew.heap.size=nb at *
   simp only [Act.put,List.setIfInBounds_toArray,List.set_cons_zero,List.set_cons_succ]
   refine WA.keep (Ext.of HN.out.2.1) ?_
   (refine WA.free 6 rfl rfl (by kernel_rfl) (fun K hK=>?_);go_big_quiet_step (fail);refine wpQuiet_nil ?_;refine hK _ ?_;clear hK K)
   refine WA.one 7 (by kernel_rfl) (Do_.mk rfl (fun K hK=>?_))
   go_wp2_with fail
   have HZ:=Lib.hid (show Blk (w2.alloc (.cells #[.slice none 0 0,.slice none 0 0,.slice none 0 0] 39)) w2.heap.size [.slice none 0 0,.slice none 0 0,.slice none 0 0] 39∧Upd [] w2 (w2.alloc (.cells #[.slice none 0 0,.slice none 0 0,.slice none 0 0] 39))∧w1.heap.size≤w2.heap.size from ⟨Blk.new w2 [.slice none 0 0,.slice none 0 0,.slice none 0 0] _,(Upd.refl [] w2).alloc _,HN.out.2.1.size⟩)
   generalize (w2.alloc (.cells #[.slice none 0 0,.slice none 0 0,.slice none 0 0] 39))=w3 at *
   have HNL:=Lib.hid HN.out.1.lt
   have HN3:=Lib.hid (HN.out.1.upd HZ.out.2.1 (by simp))
   generalize w2.heap.size=ab at *
   refine WA.keep (Ext.of (HN.out.2.1.step HZ.out.2.1)) ?_
   have s0:=HZ.out.1.cell (i:=0) rfl
   have s1:=HZ.out.1.cell (i:=1) rfl
   have s2:=HZ.out.1.cell (i:=2) rfl
   have sf:∀ q,w3.frozen? ⟨ab,q,none⟩=false:=HZ.out.1.free
   refine WA.one 8 (by kernel_rfl) (Do_.mk rfl (fun K hK=>?_))
   go_wp2_with fail
   refine WA.past (by kernel_rfl) ?_
   refine WA.nil (by kernel_rfl) ?_
   go_wp2_with fail
   go_meet
   case rel=>
    have hs:=cell3_set (a:=.slice none 0 0) (b:=.slice (some ⟨nb,0,none⟩) b.next.length b.next.length) (c:=.slice a3 b.acc.length c3) HZ.out.1
    exact ⟨ab,nb,rfl,hs.1,HN3.out.upd hs.2 (by simp;have:=HNL.out;omega),HZ.out.2.2,HN.out.2.2,(HN.out.2.1.step HZ.out.2.1).fresh hs.2 (fun c hc=>.inr (by simp at hc;subst hc;exact HZ.out.2.2))⟩
  ·go_wp2_with fail
   have HZ:=Lib.hid (show Blk ((w1.alloc (.cells #[.slice none 0 0,.slice none 0 0,.slice none 0 0] 39)).drew) w1.heap.size [.slice none 0 0,.slice none 0 0,.slice none 0 0] 39∧Upd [] w1 ((w1.alloc (.cells #[.slice none 0 0,.slice none 0 0,.slice none 0 0] 39)).drew) from ⟨(Blk.new w1 [.slice none 0 0,.slice none 0 0,.slice none 0 0] 39).drew,((Upd.refl [] w1).alloc _).drew⟩)
   generalize ((w1.alloc (.cells #[.slice none 0 0,.slice none 0 0,.slice none 0 0] 39)).drew)=w2 at *
   obtain ⟨ab,hxe⟩:∃ ab,w1.heap.size=ab:=⟨_,rfl⟩
   rw [hxe] at HZ ⊢
   have HXB:=Lib.hid (Nat.le_of_eq hxe)
   clear hxe
   refine WA.keep (Ext.of HZ.out.2) ?_
   refine WA.one 3 (by kernel_rfl) (Do_.mk rfl (fun K hK=>?_))
   go_wp2_with (at_make;refine wpList_mk rfl _ _ _ rfl 22 1 24 _ Tryz.underlying28 infoInts rfl (by decide) .i64 .i64 b.next.length b.next.length b.next.length rfl rfl (by omega) (by omega) (by omega) (by omega) ?_)
   have HN:=Lib.hid (show Blk (w2.alloc (.cells (rows b.next.length fun _=>(Value.slice none 0 0).cells.toList).toArray 22)) w2.heap.size (List.replicate b.next.length (.slice none 0 0)) 22∧Upd [] w2 (w2.alloc (.cells (rows b.next.length fun _=>(Value.slice none 0 0).cells.toList).toArray 22))∧w1.heap.size≤w2.heap.size from by
    have e:(rows b.next.length fun _=>(Value.slice none 0 0).cells.toList)=List.replicate b.next.length (.slice none 0 0):=HREP.out
    rw [e]
    exact ⟨Blk.new _ _ _,(Upd.refl [] w2).alloc _,HZ.out.2.size⟩)
   generalize (w2.alloc (.cells (rows b.next.length fun _=>(Value.slice none 0 0).cells.toList).toArray 22))=w3 at *
   have HNL:=Lib.hid HZ.out.1.lt
   have HZ3:=Lib.hid (HZ.out.1.upd HN.out.2.1 (by simp))
   generalize w2.heap.size=nb at *
   simp only [Act.put,List.setIfInBounds_toArray,List.set_cons_zero,List.set_cons_succ]
   refine WA.keep (Ext.of (HZ.out.2.step HN.out.2.1)) ?_
   (refine WA.free 6 rfl rfl (by kernel_rfl) (fun K hK=>?_);go_big_quiet_step (fail);refine wpQuiet_nil ?_;refine hK _ ?_;clear hK K)
   have s0:=HZ3.out.cell (i:=0) rfl
   have s1:=HZ3.out.cell (i:=1) rfl
   have s2:=HZ3.out.cell (i:=2) rfl
   have sf:∀ q,w3.frozen? ⟨ab,q,none⟩=false:=HZ3.out.free
   refine WA.one 8 (by kernel_rfl) (Do_.mk rfl (fun K hK=>?_))
   go_wp2_with fail
   refine WA.past (by kernel_rfl) ?_
   refine WA.nil (by kernel_rfl) ?_
   go_wp2_with fail
   go_meet
   case rel=>
    have hs:=cell3_set (a:=.slice none 0 0) (b:=.slice (some ⟨nb,0,none⟩) b.next.length b.next.length) (c:=.slice a3 b.acc.length c3) HZ3.out
    exact ⟨ab,nb,rfl,hs.1,HN.out.1.upd hs.2 (by simp;have:=HNL.out;omega),HXB.out,HN.out.2.2,(HZ.out.2.step HN.out.2.1).fresh hs.2 (fun c hc=>.inr (by simp at hc;subst hc;exact HXB.out))⟩
 case rest=>
 obtain ⟨ab,nb,rfl,hbx,hbn,hla,hlb,uc⟩:=hcut
 have HM0:=Lib.hid (SpM.begin (w0:=w1) hbx hbn (by omega) hla hlb uc)
 clear hbx hbn hla hlb uc k0 k1 k2
 go_wp2_with fail
 go_loopw [4] (fun kv wr=>∃ (k:Nat) (cv:Value) (rvs:List Value),kv=.int .i64 k∧k≤b.cuts.length∧Hid (SpM w1 ab cv (.slice (some ⟨nb,0,none⟩) b.next.length b.next.length) (.slice a3 b.acc.length c3) ((keptN b.next k).map fun c=>b.cuts.getD c 0) (rowsN b.next k 0) [] rvs wr)) (fun kv _=>b.cuts.length - (intOf kv).toNat)
 case atStart=>exact ⟨0,_,_,rfl,Nat.zero_le _,Lib.hid (by rw [rowsN_zero];exact HM0.out)⟩
 case round=>
  clear HM0
  obtain ⟨k,cv,rvs,rfl,hk,HI⟩:=hrel
  have k0:=HI.out.u.some HK.out.1 (by simp)
  by_cases hlk:k<b.cuts.length
  ·have hki:(k:Int)<b.cuts.length:=by omega
   have hkb:(k:Int)≤256:=by have:=cuts_len HOK.out;omega
   obtain ⟨kz,hkz⟩:∃ kz:Bool,((k:Int) == 0)=kz:=⟨_,rfl⟩
   have HKZ:=Lib.hid (show kz=decide (k=0) from by
    rw [←hkz,Bool.eq_iff_iff]
    simp)
   obtain ⟨wx,rfl⟩:∃ wx:World,wx=wr:=⟨_,rfl⟩
   go_wp2_with fail
   go_loopw [5,6] (fun bv sv wr=>∃ (s:Nat) (bg:Bool),bv=.bool bg∧sv=.int .i64 s∧s≤b.next.length∧Hid (bg=begN b.next k s)∧∃ x:Ext wx,wr=x.val) (fun _ sv _=>b.next.length - (intOf sv).toNat)
   case atStart=>exact ⟨0,kz,rfl,rfl,Nat.zero_le _,Lib.hid (by rw [begN_zero];exact HKZ.out),Ext.of (by iterate 25 (first|exact Upd.refl _ _|assumption|refine Upd.alloc ?_ _|refine Upd.drew ?_|refine Upd.drewN ?_ _|refine Upd.dl ?_|refine Upd.step ?_ (Ext.upd _)|refine Upd.nil ?_|skip))⟩
   case round=>
    obtain ⟨s,bg,rfl,rfl,hs,HBG,x,rfl⟩:=hrel
    have HX:=Lib.hid x.upd
    generalize x.val=wq at *
    have k1:=HX.out.some (HI.out.u.some HK.out.2.1 (by simp)) (by simp)
    have k0:=HX.out.some k0 (by simp)
    have HTS:=Lib.hid (show (0<k∧s<b.next.length)∨¬ (0<k∧s<b.next.length) from Classical.em _)
    by_cases htst:0<k∧s<b.next.length
    ·have hls:=htst.2
     have hk0:=htst.1
     have hkp:(0:Int)<(k:Int):=by omega
     have hsi:(s:Int)<b.next.length:=by omega
     have HBS:=Lib.hid (begN_step (k:=k) (List.getElem?_eq_getElem hls))
     obtain ⟨g6,o6,ar,cr,he6,hc6,hsl6⟩:=HF.out.row hls
     cases he6
     have hrl:=HRW.out _ (List.getElem_mem hls)
     have hgd:b.next.getD s []=b.next[s]:=by rw [List.getD_eq_getElem?_getD,List.getElem?_eq_getElem hls];rfl
     rw [hgd] at hc6 hsl6
     have r0:=HX.out.some (HI.out.u.some hc6 (by simp)) (by simp)
     obtain ⟨ra,rc,hre,_,_,hce⟩:=hsl6.elems
     cases hre
     obtain ⟨rg,ro,rfl,kk⟩:=hce (by omega)
     have hkr:(k:Int)<b.next[s].length:=by omega
     cases bg with
     | true=>
      clear kk hce hc6 hsl6 hgd htst
      generalize b.next[s]=row at *
      go_upto_region 9 with fail
      refine wp_region_qx (by kernel_rfl) (by kernel_rfl) ?_
      repeat (go_big_quiet_step ((fail)))
      refine wpQuiet_nil ?_
      intro x
      have HX2:=Lib.hid (HX.out.step x.upd)
      generalize x.val=wz at *
      clear r0 k0 k1
      go_wp2_with fail
      exact ⟨⟨s+1,true,rfl,by go_num,by omega,Lib.hid (by rw [HBS.out,←HBG.out];rfl),Ext.of HX2.out⟩,by simp [intOf];omega⟩
     | false=>
      have r1:=HX.out.some (HI.out.u.some (kk k _ (ints_get (gd_some (d:=0) (by omega)))) (by simp)) (by simp)
      have r2:=HX.out.some (HI.out.u.some (kk (k-1) _ (ints_get (gd_some (d:=0) (by omega)))) (by simp)) (by simp)
      have hA:(0:Int)≤(k:Int) - 1:=by omega
      have hB:(k:Int) - 1<b.next[s].length:=by omega
      have hT:((k:Int) - 1).toNat=k-1:=by omega
      obtain ⟨ne,hne⟩:∃ ne:Bool,(b.next[s].getD k 0 != b.next[s].getD (k-1) 0)=ne:=⟨_,rfl⟩
      have HNE:=Lib.hid (show ne=decide (b.next[s].getD k 0≠b.next[s].getD (k-1) 0) from by
       rw [←hne,Bool.eq_iff_iff]
       simp)
      rw [←HNE.out] at HBS
      clear kk hce hc6 hsl6 hgd HNE htst
      generalize b.next[s].getD k 0=zx at *
      generalize b.next[s].getD (k-1) 0=zy at *
      generalize b.next[s]=row at *
      go_upto_region 9 with fail
      refine wp_region_qx (by kernel_rfl) (by kernel_rfl) ?_
      repeat (go_big_quiet_step ((fail)))
      refine wpQuiet_nil ?_
      intro x
      have HX2:=Lib.hid (HX.out.step x.upd)
      generalize x.val=wz at *
      clear r0 r1 r2 k0 k1
      go_wp2_with fail
      exact ⟨⟨s+1,ne,rfl,by go_num,by omega,Lib.hid (by rw [HBS.out,←HBG.out];rfl),Ext.of HX2.out⟩,by simp [intOf];omega⟩
    ·have HBK:=Lib.hid (show bg=begK b.next k from by
      rw [HBG.out]
      rcases Nat.eq_zero_or_pos k with h0|h0
      ·subst h0;rw [begN_zero'];rfl
      ·have:s=b.next.length:=by omega
       subst this
       exact begN_full _ _)
     have HTT:=Lib.hid (show (s<b.next.length∧¬ 0<(k:Int))∨¬ (s:Int)<b.next.length from by omega)
     rcases HTT.out with ⟨h1,h2⟩|h1
     ·have h3:(s:Int)<b.next.length:=by omega
      have h4:=decide_eq_false h2
      have HIX:=Lib.hid (HI.out.quiet HX.out)
      clear htst
      cases bg with
      | false=>
       go_wp2_with fail
       exact ⟨⟨k+1,cv,rvs,by go_num,by omega,Lib.hid (by rw [keptN_no HBK.out.symm,rowsN_no HBK.out.symm];exact HIX.out)⟩,by simp [intOf];omega⟩
      | true=>
       have HKN:=keptN_le b.next k
       obtain ⟨gC,oC,heC,hcC⟩:=HF.out.cuts hlk
       cases heC
       have cC:=HIX.out.u.some hcC (by simp)
       obtain ⟨CS,hCS⟩:∃ CS,((keptN b.next k).map fun c=>b.cuts.getD c 0)=CS:=⟨_,rfl⟩
       have hcl:CS.length≤1000:=by rw [←hCS,List.length_map];omega
       have HCS:=Lib.hid (show ((keptN b.next (k+1)).map fun c=>b.cuts.getD c 0)=CS++[b.cuts.getD k 0] from by rw [keptN_yes HBK.out.symm,List.map_append,hCS];rfl)
       rw [hCS] at HIX HI
       generalize b.cuts.getD k 0=cq at *
       clear hCS hcC
       have q0:=HIX.out.bx.cell (i:=0) rfl
       obtain ⟨wy,rfl⟩:∃ wy:World,wy=wq:=⟨_,rfl⟩
       go_upto_region 11 with fail
       refine wp_region_ord 8 4 [0,1,2,3,4,5,6,9] [1,3,6] [0,1,2,3,4,5,6,7,8,9,10] (fun w'=>∃ x:Ext wy,w'=x.val) (by kernel_rfl) (by kernel_rfl) (Ext.of (by iterate 25 (first|exact Upd.refl _ _|assumption|refine Upd.alloc ?_ _|refine Upd.drew ?_|refine Upd.drewN ?_ _|refine Upd.dl ?_|refine Upd.step ?_ (Ext.upd _)|refine Upd.nil ?_|skip))) ?_
       repeat (first|(refine wpOrd_load rfl rfl rfl rfl (fun K hK=>?_);go_big_quiet_step (fail);refine wpQuiet_nil ?_;refine hK _ ?_;clear hK K)|(refine wpOrd_free rfl rfl rfl (fun K hK=>?_);go_big_quiet_step (fail);refine wpQuiet_nil ?_;refine hK _ ?_;clear hK K))
       refine wpOrd_fix rfl rfl (fun K hK=>?_)
       go_wp2_with fail
       have HNB3:=Lib.hid (show Blk ((wy.alloc (.cells #[.int .i64 cq] 3)).drew) wy.heap.size [.int .i64 cq] 3∧Upd [] wy ((wy.alloc (.cells #[.int .i64 cq] 3)).drew) from ⟨Blk.new wy [.int .i64 cq] 3,(by iterate 25 (first|exact Upd.refl _ _|assumption|refine Upd.alloc ?_ _|refine Upd.drew ?_|refine Upd.drewN ?_ _|refine Upd.dl ?_|refine Upd.step ?_ (Ext.upd _)|refine Upd.nil ?_|skip))⟩)
       have HGB:=Lib.hid (Nat.le_refl wy.heap.size)
       generalize ((wy.alloc (.cells #[.int .i64 cq] 3)).drew)=wB at *
       generalize wy.heap.size=gB at HNB3 HGB ⊢
       have HIB:=Lib.hid (HIX.out.quiet HNB3.out.2)
       refine ⟨by first|exact Ext.of HNB3.out.2|exact fun _=>Ext.of HNB3.out.2,?_⟩
       repeat (first|(refine wpOrd_load rfl rfl rfl rfl (fun K hK=>?_);go_big_quiet_step (fail);refine wpQuiet_nil ?_;refine hK _ ?_;clear hK K)|(refine wpOrd_free rfl rfl rfl (fun K hK=>?_);go_big_quiet_step (fail);refine wpQuiet_nil ?_;refine hK _ ?_;clear hK K))
       refine wpOrd_fix rfl rfl (fun K hK=>?_)
       refine wpList_app rfl _ _ _ rfl 3 1 8 _ Tryz.underlying22 infoInt rfl (by decide) cv _ _ rfl HIB.out.cu gB 1 1 [.int .i64 cq] 3 rfl rfl HNB3.out.1 (by simp [Value.oneCell']) (by omega) (by unfold maxLen;omega) (by omega) ?_
       intro g7 c7 w7 o7 u7 k7
       simp only [Act.put,List.setIfInBounds_toArray,List.set_cons_zero,List.set_cons_succ]
       have bx7:=HIB.out.bx.upd u7 (fun hm=>own_bne HIB.out.cu HIB.out.bx (by decide) (g:=ab) (by simpa using hm) rfl)
       have p1:=bx7.cell (i:=0) rfl
       have pf:∀ q,w7.frozen? ⟨ab,q,none⟩=false:=bx7.free
       have HO7:=Lib.hid (And.intro o7 (And.intro u7 k7))
       clear o7 u7 k7 bx7 q0 cC k0 k1
       go_wp2_with fail
       refine ⟨fun hC=>absurd hC (by decide),?_⟩
       repeat (first|(refine wpOrd_load rfl rfl rfl rfl (fun K hK=>?_);go_big_quiet_step (fail);refine wpQuiet_nil ?_;refine hK _ ?_;clear hK K)|(refine wpOrd_free rfl rfl rfl (fun K hK=>?_);go_big_quiet_step (fail);refine wpQuiet_nil ?_;refine hK _ ?_;clear hK K))
       refine wpOrd_fix rfl rfl (fun K hK=>?_)
       go_wp2_with fail
       refine ⟨fun hC=>absurd hC (by decide),?_⟩
       refine wpOrd_nil ?_
       have HSC:=Lib.hid (HIB.out.setCut (cv':=.slice (some ⟨g7,0,none⟩) (CS.length+1) c7) (cs':=CS++[cq]) (w1:=w7) (by rw [show (CS++[cq]).length=CS.length+1 by simp,show ints (CS++[cq])=ints CS++[.int .i64 cq] by simp [ints]];exact HO7.out.1) HO7.out.2.1 (fun q hq=>by
        simp only [Value.ownBlock,Option.some.injEq] at hq
        subst hq
        exact HO7.out.2.2.imp id fun h=>by omega))
       generalize (w7.setCell ⟨ab,0,none⟩ (.slice (some ⟨g7,0,none⟩) (CS.length+1) c7))=w8 at *
       clear p1 pf HO7 HIX HIB HNB3
       go_wp2_with fail
       go_loopw [7] (fun sv wr=>∃ (s:Nat) (rvs:List Value),sv=.int .i64 s∧s≤b.next.length∧Hid (SpM w1 ab (.slice (some ⟨g7,0,none⟩) (CS.length+1) c7) (.slice (some ⟨nb,0,none⟩) b.next.length b.next.length) (.slice a3 b.acc.length c3) (CS++[cq]) (rowsN b.next k s) [] rvs wr)) (fun sv _=>b.next.length - (intOf sv).toNat)
       case atStart=>exact ⟨0,rvs,rfl,Nat.zero_le _,Lib.hid HSC.out⟩
       case round=>
        clear HI hs
        obtain ⟨s,rvs2,rfl,hs,HJ⟩:=hrel
        have k1:=HJ.out.u.some HK.out.2.1 (by simp)
        by_cases hls:s<b.next.length
        ·have hsi:(s:Int)<b.next.length:=by omega
         obtain ⟨g6,o6,ar,cr,he6,hc6,hsl6⟩:=HF.out.row hls
         cases he6
         have hrl:=HRW.out _ (List.getElem_mem hls)
         have hgd:b.next.getD s []=b.next[s]:=by rw [List.getD_eq_getElem?_getD,List.getElem?_eq_getElem hls];rfl
         rw [hgd] at hc6 hsl6
         have r0:=HJ.out.u.some hc6 (by simp)
         obtain ⟨ra,rc,hre,_,_,hce⟩:=hsl6.elems
         cases hre
         obtain ⟨rg,ro,rfl,kk⟩:=hce (by omega)
         have hrk:=kk k _ (ints_get (gd_some (d:=0) (by omega)))
         have r1:=HJ.out.u.some hrk (by simp)
         have hkr:(k:Int)<b.next[s].length:=by omega
         have hrt:=rowsN_at (k:=k) (s:=s) hls
         rw [if_neg (Nat.lt_irrefl s),hgd] at hrt
         have HST:=Lib.hid (rowsN_set (k:=k) (s:=s) HBK.out.symm hls)
         rw [hgd] at HST
         obtain ⟨C0,hC0⟩:∃ C0,((keptN b.next k).map fun c=>b.next[s].getD c 0)=C0:=⟨_,rfl⟩
         have hcl0:C0.length≤1000:=by rw [←hC0,List.length_map];omega
         rw [hC0] at hrt HST
         obtain ⟨y,hy,hyo⟩:=HJ.out.val hrt
         have q1:=HJ.out.bx.cell (i:=1) rfl
         have t0:=HJ.out.tcell hy
         have hrb:rg<w1.heap.size:=World.block_lt_of_cell? _ _ hrk
         have hgb:g6<w1.heap.size:=World.block_lt_of_cell? _ _ hc6
         have HY:=Lib.hid (And.intro hrt (And.intro hy (And.intro hyo (And.intro hgb hrb))))
         clear hc6 hsl6 hce kk hrk hrt hC0 hyo hrb hgd hgb
         obtain ⟨ya,yc,rfl,_⟩:=id (SL.of_owns HY.out.2.2.1).elems
         generalize b.next[s].getD k 0=z at *
         generalize b.next[s]=row at *
         go_upto_region 15 with fail
         refine wp_region_ord 19 1 [0,1,2,3,4,5,6,7,8,9,10,11,12,13,14,15,18] [1,4,7,9,12,15] [0,1,2,3,4,5,6,7,8,9,10,11,12,13,14,15,16,17,18,19] (fun w'=>∃ x:Pen ⟨ab,1,none⟩ ⟨nb,s,none⟩ ⟨pa,1,none⟩ ⟨g6,o6+s,none⟩ ⟨rg,ro+k,none⟩ (.slice (some ⟨nb,0,none⟩) b.next.length b.next.length) (.slice ya C0.length yc) (.slice (some ⟨g6,o6,none⟩) b.next.length c2) (.slice (some ⟨rg,ro,none⟩) row.length cr) (.int .i64 z),w'=x.val) (by kernel_rfl) (by kernel_rfl) (Pen.of q1 t0 k1 r0 r1) ?_
         repeat (first|(refine wpOrd_load rfl rfl rfl rfl (fun K hK=>?_);go_big_quiet_step (exact rfl);refine wpQuiet_nil ?_;refine hK _ ?_;clear hK K)|(refine wpOrd_free rfl rfl rfl (fun K hK=>?_);go_big_quiet_step (fail);refine wpQuiet_nil ?_;refine hK _ ?_;clear hK K))
         refine wpOrd_fix rfl rfl (fun K hK=>?_)
         go_wp2_with fail
         have HNB3:=Lib.hid (show Blk ((wr.alloc (.cells #[.int .i64 z] 3)).drew) wr.heap.size [.int .i64 z] 3∧Upd [] wr ((wr.alloc (.cells #[.int .i64 z] 3)).drew) from ⟨Blk.new wr [.int .i64 z] 3,(by iterate 25 (first|exact Upd.refl _ _|assumption|refine Upd.alloc ?_ _|refine Upd.drew ?_|refine Upd.drewN ?_ _|refine Upd.dl ?_|refine Upd.step ?_ (Ext.upd _)|refine Upd.nil ?_|skip))⟩)
         have HGB:=Lib.hid (Nat.le_refl wr.heap.size)
         generalize ((wr.alloc (.cells #[.int .i64 z] 3)).drew)=wB at *
         generalize wr.heap.size=gB at HNB3 HGB ⊢
         have HIB:=Lib.hid (HJ.out.quiet HNB3.out.2)
         have q1:=HNB3.out.2.some q1 (by simp)
         have t0:=HNB3.out.2.some t0 (by simp)
         have k1:=HNB3.out.2.some k1 (by simp)
         have r0:=HNB3.out.2.some r0 (by simp)
         have r1:=HNB3.out.2.some r1 (by simp)
         have HYB:=Lib.hid (ownsRow_updL HY.out.2.2.1 HNB3.out.2 (by simp))
         refine ⟨by first|exact Pen.of q1 t0 k1 r0 r1|exact fun _=>Pen.of q1 t0 k1 r0 r1,?_⟩
         repeat (first|(refine wpOrd_load rfl rfl rfl rfl (fun K hK=>?_);go_big_quiet_step (exact rfl);refine wpQuiet_nil ?_;refine hK _ ?_;clear hK K)|(refine wpOrd_free rfl rfl rfl (fun K hK=>?_);go_big_quiet_step (fail);refine wpQuiet_nil ?_;refine hK _ ?_;clear hK K))
         refine wpOrd_fix rfl rfl (fun K hK=>?_)
         refine wpList_app rfl _ _ _ rfl 3 1 8 _ Tryz.underlying22 infoInt rfl (by decide) (.slice ya C0.length yc) _ _ rfl HYB.out gB 1 1 [.int .i64 z] 3 rfl rfl HNB3.out.1 (by simp [Value.oneCell']) (by omega) (by unfold maxLen;omega) (by omega) ?_
         intro g9 c9 w9 o9 u9 k9
         simp only [Act.put,List.setIfInBounds_toArray,List.set_cons_zero,List.set_cons_succ]
         have bx9:=HIB.out.bx.upd u9 (fun hm=>own_bne HYB.out HIB.out.bx (by decide) (g:=ab) (by simpa using hm) rfl)
         have htbN:wB.ownsRow 0 22 1 (.slice (some ⟨nb,0,none⟩) b.next.length b.next.length) b.next.length rvs2:=by have h1:=HIB.out.tb;rwa [rowsN_len] at h1
         obtain ⟨pad9,hbn9,_⟩:=own_blk (ownsRow_updL htbN u9 (fun b hb hq=>own_ne HIB.out.tb HYB.out (by decide) hq (by simpa using hb)))
         have hyn:∀ q,(Value.slice ya C0.length yc).ownBlock=some q→w1.heap.size≤q:=fun q hq=>HIB.out.nw.2.2.2.2 s _ _ HY.out.2.1 hq
         have q1':=bx9.cell (i:=1) rfl
         have t0':=u9.some t0 (fun hm=>own_ne HIB.out.tb HYB.out (by decide) (g:=nb) rfl (by simpa using hm))
         have k1':=u9.some k1 (fun hm=>by have h1:=hyn _ (by simpa using hm);have h2:=HPB.out;omega)
         have r0':=u9.some r0 (fun hm=>by have h1:=hyn _ (by simpa using hm);have h2:=HY.out.2.2.2.1;omega)
         have r1':=u9.some r1 (fun hm=>by have h1:=hyn _ (by simpa using hm);have h2:=HY.out.2.2.2.2;omega)
         have f1':∀ q,w9.frozen? ⟨nb,q,none⟩=false:=hbn9.free
         have H9:=Lib.hid (And.intro o9 (And.intro u9 k9))
         clear o9 u9 k9 bx9 hbn9 q1 t0 k1 r0 r1 htbN hyn
         go_wp2_with fail
         refine ⟨by first|exact Pen.of q1' t0' k1' r0' r1'|exact fun _=>Pen.of q1' t0' k1' r0' r1',?_⟩
         repeat (first|(refine wpOrd_load rfl rfl rfl rfl (fun K hK=>?_);go_big_quiet_step (exact rfl);refine wpQuiet_nil ?_;refine hK _ ?_;clear hK K)|(refine wpOrd_free rfl rfl rfl (fun K hK=>?_);go_big_quiet_step (fail);refine wpQuiet_nil ?_;refine hK _ ?_;clear hK K))
         refine wpOrd_fix rfl rfl (fun K hK=>?_)
         go_wp2_with fail
         refine ⟨fun hC=>absurd hC (by decide),?_⟩
         refine wpOrd_nil ?_
         go_wp2_with fail
         have hpu:=HIB.out.rowPushN (y':=.slice (some ⟨g9,0,none⟩) (C0.length+1) c9) (z:=z) (w1:=w9) (by rw [rowsN_len]) HY.out.1 HY.out.2.1 H9.out.1 H9.out.2.1 (fun q hq=>by
          simp only [Value.ownBlock,Option.some.injEq] at hq
          subst hq
          exact H9.out.2.2.imp id fun h=>by omega)
         rw [HST.out] at hpu
         exact ⟨⟨s+1,_,by go_num,by omega,Lib.hid hpu⟩,by simp [intOf];omega⟩
        ·have hse:s=b.next.length:=by omega
         subst hse
         have hns:¬ ((b.next.length:Int)<b.next.length):=by omega
         go_wp2_with fail
         exact ⟨⟨k+1,_,rvs2,by go_num,by omega,Lib.hid (by rw [HCS.out,←rowsN_full];exact HJ.out)⟩,by simp [intOf];omega⟩
     ·have h4:=decide_eq_false h1
      have HIX:=Lib.hid (HI.out.quiet HX.out)
      clear htst
      cases bg with
      | false=>
       go_wp2_with fail
       exact ⟨⟨k+1,cv,rvs,by go_num,by omega,Lib.hid (by rw [keptN_no HBK.out.symm,rowsN_no HBK.out.symm];exact HIX.out)⟩,by simp [intOf];omega⟩
      | true=>
       have HKN:=keptN_le b.next k
       obtain ⟨gC,oC,heC,hcC⟩:=HF.out.cuts hlk
       cases heC
       have cC:=HIX.out.u.some hcC (by simp)
       obtain ⟨CS,hCS⟩:∃ CS,((keptN b.next k).map fun c=>b.cuts.getD c 0)=CS:=⟨_,rfl⟩
       have hcl:CS.length≤1000:=by rw [←hCS,List.length_map];omega
       have HCS:=Lib.hid (show ((keptN b.next (k+1)).map fun c=>b.cuts.getD c 0)=CS++[b.cuts.getD k 0] from by rw [keptN_yes HBK.out.symm,List.map_append,hCS];rfl)
       rw [hCS] at HIX HI
       generalize b.cuts.getD k 0=cq at *
       clear hCS hcC
       have q0:=HIX.out.bx.cell (i:=0) rfl
       obtain ⟨wy,rfl⟩:∃ wy:World,wy=wq:=⟨_,rfl⟩
       go_upto_region 11 with fail
       refine wp_region_ord 8 4 [0,1,2,3,4,5,6,9] [1,3,6] [0,1,2,3,4,5,6,7,8,9,10] (fun w'=>∃ x:Ext wy,w'=x.val) (by kernel_rfl) (by kernel_rfl) (Ext.of (by iterate 25 (first|exact Upd.refl _ _|assumption|refine Upd.alloc ?_ _|refine Upd.drew ?_|refine Upd.drewN ?_ _|refine Upd.dl ?_|refine Upd.step ?_ (Ext.upd _)|refine Upd.nil ?_|skip))) ?_
       repeat (first|(refine wpOrd_load rfl rfl rfl rfl (fun K hK=>?_);go_big_quiet_step (fail);refine wpQuiet_nil ?_;refine hK _ ?_;clear hK K)|(refine wpOrd_free rfl rfl rfl (fun K hK=>?_);go_big_quiet_step (fail);refine wpQuiet_nil ?_;refine hK _ ?_;clear hK K))
       refine wpOrd_fix rfl rfl (fun K hK=>?_)
       go_wp2_with fail
       have HNB3:=Lib.hid (show Blk ((wy.alloc (.cells #[.int .i64 cq] 3)).drew) wy.heap.size [.int .i64 cq] 3∧Upd [] wy ((wy.alloc (.cells #[.int .i64 cq] 3)).drew) from ⟨Blk.new wy [.int .i64 cq] 3,(by iterate 25 (first|exact Upd.refl _ _|assumption|refine Upd.alloc ?_ _|refine Upd.drew ?_|refine Upd.drewN ?_ _|refine Upd.dl ?_|refine Upd.step ?_ (Ext.upd _)|refine Upd.nil ?_|skip))⟩)
       have HGB:=Lib.hid (Nat.le_refl wy.heap.size)
       generalize ((wy.alloc (.cells #[.int .i64 cq] 3)).drew)=wB at *
       generalize wy.heap.size=gB at HNB3 HGB ⊢
       have HIB:=Lib.hid (HIX.out.quiet HNB3.out.2)
       refine ⟨by first|exact Ext.of HNB3.out.2|exact fun _=>Ext.of HNB3.out.2,?_⟩
       repeat (first|(refine wpOrd_load rfl rfl rfl rfl (fun K hK=>?_);go_big_quiet_step (fail);refine wpQuiet_nil ?_;refine hK _ ?_;clear hK K)|(refine wpOrd_free rfl rfl rfl (fun K hK=>?_);go_big_quiet_step (fail);refine wpQuiet_nil ?_;refine hK _ ?_;clear hK K))
       refine wpOrd_fix rfl rfl (fun K hK=>?_)
       refine wpList_app rfl _ _ _ rfl 3 1 8 _ Tryz.underlying22 infoInt rfl (by decide) cv _ _ rfl HIB.out.cu gB 1 1 [.int .i64 cq] 3 rfl rfl HNB3.out.1 (by simp [Value.oneCell']) (by omega) (by unfold maxLen;omega) (by omega) ?_
       intro g7 c7 w7 o7 u7 k7
       simp only [Act.put,List.setIfInBounds_toArray,List.set_cons_zero,List.set_cons_succ]
       have bx7:=HIB.out.bx.upd u7 (fun hm=>own_bne HIB.out.cu HIB.out.bx (by decide) (g:=ab) (by simpa using hm) rfl)
       have p1:=bx7.cell (i:=0) rfl
       have pf:∀ q,w7.frozen? ⟨ab,q,none⟩=false:=bx7.free
       have HO7:=Lib.hid (And.intro o7 (And.intro u7 k7))
       clear o7 u7 k7 bx7 q0 cC k0 k1
       go_wp2_with fail
       refine ⟨fun hC=>absurd hC (by decide),?_⟩
       repeat (first|(refine wpOrd_load rfl rfl rfl rfl (fun K hK=>?_);go_big_quiet_step (fail);refine wpQuiet_nil ?_;refine hK _ ?_;clear hK K)|(refine wpOrd_free rfl rfl rfl (fun K hK=>?_);go_big_quiet_step (fail);refine wpQuiet_nil ?_;refine hK _ ?_;clear hK K))
       refine wpOrd_fix rfl rfl (fun K hK=>?_)
       go_wp2_with fail
       refine ⟨fun hC=>absurd hC (by decide),?_⟩
       refine wpOrd_nil ?_
       have HSC:=Lib.hid (HIB.out.setCut (cv':=.slice (some ⟨g7,0,none⟩) (CS.length+1) c7) (cs':=CS++[cq]) (w1:=w7) (by rw [show (CS++[cq]).length=CS.length+1 by simp,show ints (CS++[cq])=ints CS++[.int .i64 cq] by simp [ints]];exact HO7.out.1) HO7.out.2.1 (fun q hq=>by
        simp only [Value.ownBlock,Option.some.injEq] at hq
        subst hq
        exact HO7.out.2.2.imp id fun h=>by omega))
       generalize (w7.setCell ⟨ab,0,none⟩ (.slice (some ⟨g7,0,none⟩) (CS.length+1) c7))=w8 at *
       clear p1 pf HO7 HIX HIB HNB3
       go_wp2_with fail
       go_loopw [7] (fun sv wr=>∃ (s:Nat) (rvs:List Value),sv=.int .i64 s∧s≤b.next.length∧Hid (SpM w1 ab (.slice (some ⟨g7,0,none⟩) (CS.length+1) c7) (.slice (some ⟨nb,0,none⟩) b.next.length b.next.length) (.slice a3 b.acc.length c3) (CS++[cq]) (rowsN b.next k s) [] rvs wr)) (fun sv _=>b.next.length - (intOf sv).toNat)
       case atStart=>exact ⟨0,rvs,rfl,Nat.zero_le _,Lib.hid HSC.out⟩
       case round=>
        clear HI hs
        obtain ⟨s,rvs2,rfl,hs,HJ⟩:=hrel
        have k1:=HJ.out.u.some HK.out.2.1 (by simp)
        by_cases hls:s<b.next.length
        ·have hsi:(s:Int)<b.next.length:=by omega
         obtain ⟨g6,o6,ar,cr,he6,hc6,hsl6⟩:=HF.out.row hls
         cases he6
         have hrl:=HRW.out _ (List.getElem_mem hls)
         have hgd:b.next.getD s []=b.next[s]:=by rw [List.getD_eq_getElem?_getD,List.getElem?_eq_getElem hls];rfl
         rw [hgd] at hc6 hsl6
         have r0:=HJ.out.u.some hc6 (by simp)
         obtain ⟨ra,rc,hre,_,_,hce⟩:=hsl6.elems
         cases hre
         obtain ⟨rg,ro,rfl,kk⟩:=hce (by omega)
         have hrk:=kk k _ (ints_get (gd_some (d:=0) (by omega)))
         have r1:=HJ.out.u.some hrk (by simp)
         have hkr:(k:Int)<b.next[s].length:=by omega
         have hrt:=rowsN_at (k:=k) (s:=s) hls
         rw [if_neg (Nat.lt_irrefl s),hgd] at hrt
         have HST:=Lib.hid (rowsN_set (k:=k) (s:=s) HBK.out.symm hls)
         rw [hgd] at HST
         obtain ⟨C0,hC0⟩:∃ C0,((keptN b.next k).map fun c=>b.next[s].getD c 0)=C0:=⟨_,rfl⟩
         have hcl0:C0.length≤1000:=by rw [←hC0,List.length_map];omega
         rw [hC0] at hrt HST
         obtain ⟨y,hy,hyo⟩:=HJ.out.val hrt
         have q1:=HJ.out.bx.cell (i:=1) rfl
         have t0:=HJ.out.tcell hy
         have hrb:rg<w1.heap.size:=World.block_lt_of_cell? _ _ hrk
         have hgb:g6<w1.heap.size:=World.block_lt_of_cell? _ _ hc6
         have HY:=Lib.hid (And.intro hrt (And.intro hy (And.intro hyo (And.intro hgb hrb))))
         clear hc6 hsl6 hce kk hrk hrt hC0 hyo hrb hgd hgb
         obtain ⟨ya,yc,rfl,_⟩:=id (SL.of_owns HY.out.2.2.1).elems
         generalize b.next[s].getD k 0=z at *
         generalize b.next[s]=row at *
         go_upto_region 15 with fail
         refine wp_region_ord 19 1 [0,1,2,3,4,5,6,7,8,9,10,11,12,13,14,15,18] [1,4,7,9,12,15] [0,1,2,3,4,5,6,7,8,9,10,11,12,13,14,15,16,17,18,19] (fun w'=>∃ x:Pen ⟨ab,1,none⟩ ⟨nb,s,none⟩ ⟨pa,1,none⟩ ⟨g6,o6+s,none⟩ ⟨rg,ro+k,none⟩ (.slice (some ⟨nb,0,none⟩) b.next.length b.next.length) (.slice ya C0.length yc) (.slice (some ⟨g6,o6,none⟩) b.next.length c2) (.slice (some ⟨rg,ro,none⟩) row.length cr) (.int .i64 z),w'=x.val) (by kernel_rfl) (by kernel_rfl) (Pen.of q1 t0 k1 r0 r1) ?_
         repeat (first|(refine wpOrd_load rfl rfl rfl rfl (fun K hK=>?_);go_big_quiet_step (exact rfl);refine wpQuiet_nil ?_;refine hK _ ?_;clear hK K)|(refine wpOrd_free rfl rfl rfl (fun K hK=>?_);go_big_quiet_step (fail);refine wpQuiet_nil ?_;refine hK _ ?_;clear hK K))
         refine wpOrd_fix rfl rfl (fun K hK=>?_)
         go_wp2_with fail
         have HNB3:=Lib.hid (show Blk ((wr.alloc (.cells #[.int .i64 z] 3)).drew) wr.heap.size [.int .i64 z] 3∧Upd [] wr ((wr.alloc (.cells #[.int .i64 z] 3)).drew) from ⟨Blk.new wr [.int .i64 z] 3,(by iterate 25 (first|exact Upd.refl _ _|assumption|refine Upd.alloc ?_ _|refine Upd.drew ?_|refine Upd.drewN ?_ _|refine Upd.dl ?_|refine Upd.step ?_ (Ext.upd _)|refine Upd.nil ?_|skip))⟩)
         have HGB:=Lib.hid (Nat.le_refl wr.heap.size)
         generalize ((wr.alloc (.cells #[.int .i64 z] 3)).drew)=wB at *
         generalize wr.heap.size=gB at HNB3 HGB ⊢
         have HIB:=Lib.hid (HJ.out.quiet HNB3.out.2)
         have q1:=HNB3.out.2.some q1 (by simp)
         have t0:=HNB3.out.2.some t0 (by simp)
         have k1:=HNB3.out.2.some k1 (by simp)
         have r0:=HNB3.out.2.some r0 (by simp)
         have r1:=HNB3.out.2.some r1 (by simp)
         have HYB:=Lib.hid (ownsRow_updL HY.out.2.2.1 HNB3.out.2 (by simp))
         refine ⟨by first|exact Pen.of q1 t0 k1 r0 r1|exact fun _=>Pen.of q1 t0 k1 r0 r1,?_⟩
         repeat (first|(refine wpOrd_load rfl rfl rfl rfl (fun K hK=>?_);go_big_quiet_step (exact rfl);refine wpQuiet_nil ?_;refine hK _ ?_;clear hK K)|(refine wpOrd_free rfl rfl rfl (fun K hK=>?_);go_big_quiet_step (fail);refine wpQuiet_nil ?_;refine hK _ ?_;clear hK K))
         refine wpOrd_fix rfl rfl (fun K hK=>?_)
         refine wpList_app rfl _ _ _ rfl 3 1 8 _ Tryz.underlying22 infoInt rfl (by decide) (.slice ya C0.length yc) _ _ rfl HYB.out gB 1 1 [.int .i64 z] 3 rfl rfl HNB3.out.1 (by simp [Value.oneCell']) (by omega) (by unfold maxLen;omega) (by omega) ?_
         intro g9 c9 w9 o9 u9 k9
         simp only [Act.put,List.setIfInBounds_toArray,List.set_cons_zero,List.set_cons_succ]
         have bx9:=HIB.out.bx.upd u9 (fun hm=>own_bne HYB.out HIB.out.bx (by decide) (g:=ab) (by simpa using hm) rfl)
         have htbN:wB.ownsRow 0 22 1 (.slice (some ⟨nb,0,none⟩) b.next.length b.next.length) b.next.length rvs2:=by have h1:=HIB.out.tb;rwa [rowsN_len] at h1
         obtain ⟨pad9,hbn9,_⟩:=own_blk (ownsRow_updL htbN u9 (fun b hb hq=>own_ne HIB.out.tb HYB.out (by decide) hq (by simpa using hb)))
         have hyn:∀ q,(Value.slice ya C0.length yc).ownBlock=some q→w1.heap.size≤q:=fun q hq=>HIB.out.nw.2.2.2.2 s _ _ HY.out.2.1 hq
         have q1':=bx9.cell (i:=1) rfl
         have t0':=u9.some t0 (fun hm=>own_ne HIB.out.tb HYB.out (by decide) (g:=nb) rfl (by simpa using hm))
         have k1':=u9.some k1 (fun hm=>by have h1:=hyn _ (by simpa using hm);have h2:=HPB.out;omega)
         have r0':=u9.some r0 (fun hm=>by have h1:=hyn _ (by simpa using hm);have h2:=HY.out.2.2.2.1;omega)
         have r1':=u9.some r1 (fun hm=>by have h1:=hyn _ (by simpa using hm);have h2:=HY.out.2.2.2.2;omega)
         have f1':∀ q,w9.frozen? ⟨nb,q,none⟩=false:=hbn9.free
         have H9:=Lib.hid (And.intro o9 (And.intro u9 k9))
         clear o9 u9 k9 bx9 hbn9 q1 t0 k1 r0 r1 htbN hyn
         go_wp2_with fail
         refine ⟨by first|exact Pen.of q1' t0' k1' r0' r1'|exact fun _=>Pen.of q1' t0' k1' r0' r1',?_⟩
         repeat (first|(refine wpOrd_load rfl rfl rfl rfl (fun K hK=>?_);go_big_quiet_step (exact rfl);refine wpQuiet_nil ?_;refine hK _ ?_;clear hK K)|(refine wpOrd_free rfl rfl rfl (fun K hK=>?_);go_big_quiet_step (fail);refine wpQuiet_nil ?_;refine hK _ ?_;clear hK K))
         refine wpOrd_fix rfl rfl (fun K hK=>?_)
         go_wp2_with fail
         refine ⟨fun hC=>absurd hC (by decide),?_⟩
         refine wpOrd_nil ?_
         go_wp2_with fail
         have hpu:=HIB.out.rowPushN (y':=.slice (some ⟨g9,0,none⟩) (C0.length+1) c9) (z:=z) (w1:=w9) (by rw [rowsN_len]) HY.out.1 HY.out.2.1 H9.out.1 H9.out.2.1 (fun q hq=>by
          simp only [Value.ownBlock,Option.some.injEq] at hq
          subst hq
          exact H9.out.2.2.imp id fun h=>by omega)
         rw [HST.out] at hpu
         exact ⟨⟨s+1,_,by go_num,by omega,Lib.hid hpu⟩,by simp [intOf];omega⟩
        ·have hse:s=b.next.length:=by omega
         subst hse
         have hns:¬ ((b.next.length:Int)<b.next.length):=by omega
         go_wp2_with fail
         exact ⟨⟨k+1,_,rvs2,by go_num,by omega,Lib.hid (by rw [HCS.out,←rowsN_full];exact HJ.out)⟩,by simp [intOf];omega⟩
  ·have hke:k=b.cuts.length:=by omega
   subst hke
   generalize ((keptN b.next b.cuts.length).map fun c=>b.cuts.getD c 0)=CS at *
   generalize hRS:rowsN b.next b.cuts.length 0=RS at *
   have hni:¬ ((b.cuts.length:Int)<b.cuts.length):=by omega
   obtain ⟨ca',cc',rfl,_⟩:=id (SL.of_owns HI.out.cu).elems
   have q0:=HI.out.bx.cell (i:=0) rfl
   have q1:=HI.out.bx.cell (i:=1) rfl
   have q2:=HI.out.bx.cell (i:=2) rfl
   have bR:=HW.out.1.upd HI.out.u (by simp)
   have r0:=bR.cell (i:=0) rfl
   have r1:=bR.cell (i:=1) rfl
   have r2:=bR.cell (i:=2) rfl
   have rf:∀ q,wr.frozen? ⟨pa+1,q,none⟩=false:=bR.free
   have HBR:=Lib.hid bR
   clear bR hRS
   go_wp2_with fail
   have hs3:=cell3_set (a:=.slice ca' CS.length cc') (b:=(.slice (some ⟨nb,0,none⟩) b.next.length b.next.length)) (c:=(.slice a3 b.acc.length c3)) HBR.out
   have hac:SL w1 1 (.slice a3 b.acc.length c3) b.acc.length (bools b.acc):=by
    obtain ⟨_,_,_,he,_,_,h5⟩:=HF.out
    cases he
    exact h5
   have hal:=HAL.out
   have hf:=HI.out.fin hs3.2 (fun b hb=>by
    simp at hb
    subst hb
    exact HPB.out) ((hac.upd HI.out.u (by simp)).upd hs3.2 (fun b hb hv=>by simp at hb;subst hb;have:=hal _ hv;omega))
   rw [HMI.out]
   exact ret_plain rfl rfl hs3.1 rfl hf ((HW.out.2.step HI.out.u).fresh hs3.2 (fun b hb=>.inr (by simp at hb;subst hb;have:=HPA.out;omega)))
end
end Aut
end Go.Proofs.YtjclbjdkkdijbaaGreat
end
