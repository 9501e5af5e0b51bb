/- A slice of ints of one's own. Conditions: none. -/
import Derived.Test.YtjclbjdkkdijbaaGreatLib2
import Derived.Test.YtjclbjdkkdijbaaGreatSame
set_option linter.unusedVariables false
set_option linter.unusedSimpArgs false
set_option linter.unusedSectionVars false
open Go.RowKit
namespace Go.Proofs.YtjclbjdkkdijbaaGreat
open L
namespace R14
open R01
theorem infoInt:(Tryz.prog.info? 3).map (fun i=>(i.zero,i.size,i.bytes))=some (some (.int .i64 0),1,8):=by kernel_rfl
theorem ownsRow_upd {S:List Nat} {w w':World} {base:Nat} {e:TypeId} {size:Nat} {v:Value} {n:Nat} {xs:List Value} (h:w.ownsRow base e size v n xs) (hu:Upd S w w') (hS:∀ b∈S,v.ownBlock≠some b):w'.ownsRow base e size v n xs:=by
 refine ⟨h.1,?_⟩
 rcases h.2 with h2|⟨g,cap,cur,rfl,hb,hg,hr⟩
 ·exact .inl h2
 ·refine .inr ⟨g,cap,cur,rfl,hb,?_,hr⟩
  rw [hu.block g (Array.getElem?_eq_some_iff.1 hg).1 (fun hm=>hS g hm rfl)]
  exact hg
section
variable {w:World}
structure Own (w0:World) (v:Value) (xs:List Int) (w:World):Prop where
 row:w.ownsRow 0 3 1 v xs.length (ints xs)
 fresh:∀ g,v.ownBlock=some g→w0.heap.size≤g
 u:Upd [] w0 w
theorem Own.form {w0 w:World} {v:Value} {xs:List Int} (h:Own w0 v xs w):∃ a cap,v=.slice a xs.length cap∧xs.length≤cap∧(0<xs.length→∃ g,a=some ⟨g,0,none⟩∧∀ (i:Nat) (x:Int),xs[i]?=some x→w.cell? ⟨g,i,none⟩=some (.int .i64 x)):=by
 obtain ⟨h1,a,cap,rfl,h2,h3,h5,h4⟩:=SL.of_owns h.row
 refine ⟨a,cap,rfl,h2,fun hn=>?_⟩
 obtain ⟨g,cap',he,_⟩:=owns_form h.row hn
 cases he
 rcases h4 with h4|⟨b,off,he,h4⟩
 ·omega
 ·cases he
  exact ⟨g,rfl,fun i x hi=>by have:=h4 i _ (ints_get hi);rwa [Nat.zero_add] at this⟩
theorem Own.nil (w:World):Own w (.slice none 0 0) [] w:=⟨World.ownsRow_nil _ _ _ _,by simp [Value.ownBlock],Upd.refl _ _⟩
theorem Own.quiet {w0 w w':World} {v:Value} {xs:List Int} (h:Own w0 v xs w) (hu:Upd [] w w'):Own w0 v xs w':=⟨ownsRow_upd h.row hu (by simp),h.fresh,h.u.step hu⟩
theorem Own.push {w0 w w':World} {v:Value} {xs:List Int} {x:Int} {g cap:Nat} (h:Own w0 v xs w) (o:w'.ownsRow 0 3 1 (.slice (some ⟨g,0,none⟩) (xs.length+1) cap) (xs.length+1) (ints xs++[.int .i64 x])) (u:Upd v.ownBlock.toList w w')
 (k:v.ownBlock=some g∨w.heap.size≤g):Own w0 (.slice (some ⟨g,0,none⟩) (xs.length+1) cap) (xs++[x]) w':=by
 refine ⟨by simpa [ints] using o,?_,h.u.fresh u (fun j hj=>.inr (h.fresh j (by simpa using hj)))⟩
 intro j hj
 simp only [Value.ownBlock,Option.some.injEq] at hj
 subst hj
 rcases k with k|k
 ·exact h.fresh _ k
 ·have:=h.u.size;omega
theorem Own.drop {w0 w:World} {g n cap:Nat} {xs:List Int} (h:Own w0 (.slice (some ⟨g,0,none⟩) xs.length cap) xs w) (hn:n≤xs.length):Own w0 (.slice (some ⟨g,0,none⟩) n cap) (xs.take n) w:=by
 have h1:=own_take h.row hn
 have e:(xs.take n).length=n:=by rw [List.length_take];omega
 refine ⟨?_,h.fresh,h.u⟩
 rw [e]
 simpa [ints,List.map_take] using h1
theorem Own.sl {w0 w:World} {v:Value} {xs:List Int} (h:Own w0 v xs w):SL w 1 v xs.length (ints xs):=SL.of_owns h.row
end
end R14
end Go.Proofs.YtjclbjdkkdijbaaGreat
