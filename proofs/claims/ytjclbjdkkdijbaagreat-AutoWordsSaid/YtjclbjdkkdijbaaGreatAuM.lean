/- Slices of one's own that grow; what a call may change. Conditions: none. -/
import Derived.Test.YtjclbjdkkdijbaaGreatLib2
import Derived.Test.YtjclbjdkkdijbaaGreatProg
set_option linter.unusedVariables false
set_option linter.unusedSimpArgs false
set_option linter.unusedSectionVars false
open Go.RowKit
namespace Go.Proofs.YtjclbjdkkdijbaaGreat
open L
namespace Aut
theorem infoInt:(Tryz.prog.info? 3).map (fun i=>(i.zero,i.size,i.bytes))=some (some (.int .i64 0),1,8):=by kernel_rfl
section
variable {w w0 w':World} {v v0 v':Value} {e:TypeId} {k:Nat} {cs cs':List Value}
structure OwW (e:TypeId) (k n:Nat) (w0:World) (v0 v:Value) (cs:List Value) (w:World):Prop where
 row:w.ownsRow 0 e k v n cs
 u:Upd v0.ownBlock.toList w0 w
 old:∀ g,v.ownBlock=some g→v0.ownBlock=some g∨w0.heap.size≤g
variable {n n':Nat}
theorem OwW.start (h:w.ownsRow 0 e k v n cs):OwW e k n w v v cs w:=⟨h,Upd.refl _ _,fun _ h=>.inl h⟩
theorem OwW.nil (w:World) (e:TypeId) (k:Nat):OwW e k 0 w (.slice none 0 0) (.slice none 0 0) [] w:=.start (World.ownsRow_nil _ _ _ _)
theorem OwW.quiet (h:OwW e k n w0 v0 v cs w) (hu:Upd [] w w'):OwW e k n w0 v0 v cs w':=⟨ownsRow_updL h.row hu (by simp),h.u.step hu,h.old⟩
theorem OwW.lt (h:OwW e k n w0 v0 v cs w) {g:Nat} (hg:v.ownBlock=some g):g<w.heap.size:=(h.row.lt g hg).2
theorem OwW.step (h:OwW e k n w0 v0 v cs w) (hu:Upd v.ownBlock.toList w w') (hr:w'.ownsRow 0 e k v' n' cs') (ho:∀ g,v'.ownBlock=some g→v.ownBlock=some g∨w.heap.size≤g):OwW e k n' w0 v0 v' cs' w':=by
 refine ⟨hr,h.u.fresh hu fun j hj=>?_,fun g hg=>?_⟩
 ·rcases h.old j (by simpa using hj) with h1|h1
  ·exact .inl (by simp [h1])
  ·exact .inr h1
 ·rcases ho g hg with h1|h1
  ·exact h.old g h1
  ·have:=h.u.size;exact .inr (by omega)
theorem OwW.trans (h:OwW e k n w0 v0 v cs w) (h2:OwW e k n' w v v' cs' w'):OwW e k n' w0 v0 v' cs' w':=h.step h2.u h2.row h2.old
theorem OwW.push {g cap:Nat} {news:List Value} (h:OwW e k n w0 v0 v cs w) (o:w'.ownsRow 0 e k (.slice (some ⟨g,0,none⟩) n' cap) n' (cs++news)) (hu:Upd v.ownBlock.toList w w')
 (hk:v.ownBlock=some g∨w.heap.size≤g):OwW e k n' w0 v0 (.slice (some ⟨g,0,none⟩) n' cap) (cs++news) w':=h.step hu o fun q hq=>by
 simp only [Value.ownBlock,Option.some.injEq] at hq
 subst hq
 exact hk
theorem OwW.off (h:OwW e k n w0 v0 v cs w) {b:Nat} (hb:b<w0.heap.size) (hn:v0.ownBlock≠some b):v.ownBlock≠some b:=fun hv=>by
 rcases h.old b hv with h1|h1
 ·exact hn h1
 ·omega
theorem OwW.sl (h:OwW e k n w0 v0 v cs w):SL w k v n cs:=SL.of_owns h.row
theorem OwW.form (h:OwW e k n w0 v0 v cs w):∃ a cap,v=.slice a n cap∧n≤cap∧cap≤9223372036854775807∧(0<n→0<k→∃ g,a=some ⟨g,0,none⟩∧∀ (i:Nat) (u:Value),cs[i]?=some u→w.cell? ⟨g,i,none⟩=some u):=by
 obtain ⟨h1,a,cap,rfl,h2,h3,h5,h4⟩:=SL.of_owns h.row
 refine ⟨a,cap,rfl,h2,h3,fun hn hk=>?_⟩
 obtain ⟨g,cap',he,_⟩:=owns_form h.row hn
 cases he
 rcases h4 with h4|⟨b,off,he,h4⟩
 ·have:0<n*k:=Nat.mul_pos hn hk
  omega
 ·cases he
  exact ⟨g,rfl,fun i x hi=>by have:=h4 i _ hi;rwa [Nat.zero_add] at this⟩
theorem OwW.fresh (h:OwW e k n w0 (.slice none 0 0) v cs w):Upd [] w0 w:=by simpa [Value.ownBlock] using h.u
end
end Aut
end Go.Proofs.YtjclbjdkkdijbaaGreat
