/- Worlds that come out of a world by draws and new blocks alone: no program is named. Conditions: none. -/
import Derived.Test.YtjclbjdkkdijbaaGreatLib
import Derived.Sort.Grow
import Derived.Deep.Draws
set_option linter.unusedVariables false
set_option linter.unusedSimpArgs false
set_option linter.unusedSectionVars false
open Go.RowKit
namespace Go.Proofs.YtjclbjdkkdijbaaGreat
namespace L
def Grw (w w':World):Prop:=∃ (q:Nat) (os:Array Obj),w'=Sort.grow (w.drewN q) os
section
variable {w w' w2:World}
theorem Grw.refl (w:World):Grw w w:=⟨0,#[],by rw [Sort.grow_empty];rfl⟩
theorem Grw.step (h:Grw w w') (k:Grw w' w2):Grw w w2:=by
 obtain ⟨q,os,rfl⟩:=h
 obtain ⟨q2,os2,rfl⟩:=k
 exact ⟨q+q2,os++os2,by simp [Sort.grow,World.drewN,Nat.add_assoc,Array.append_assoc]⟩
theorem Grw.alloc (h:Grw w w') (o:Obj):Grw w (w'.alloc o):=h.step ⟨0,#[o],by rw [Sort.alloc_eq_grow];rfl⟩
theorem Grw.drew (h:Grw w w'):Grw w w'.drew:=h.step ⟨1,#[],by rw [Sort.grow_empty];rfl⟩
theorem Grw.drewN (h:Grw w w') (n:Nat):Grw w (w'.drewN n):=h.step ⟨n,#[],by rw [Sort.grow_empty]⟩
theorem Grw.upd (h:Grw w w'):Upd [] w w':=by
 obtain ⟨q,os,rfl⟩:=h
 refine ⟨rfl,rfl,rfl,by simp [Sort.grow,World.drewN],fun k hk _=>?_⟩
 simp only [Sort.grow,World.drewN]
 exact Array.getElem?_append_left hk
theorem Grw.some (h:Grw w w') {p:Addr} {v:Value} (hc:w.cell? p=some v) (_:True):w'.cell? p=some v:=h.upd.some hc (by simp)
def GX (w:World):Type:={ w':World // Grw w w' }
instance (w:World):Nonempty (GX w):=⟨⟨w,Grw.refl _⟩⟩
theorem GX.cell (x:GX w) (a:Addr) (h:(w.cell? a).isSome=true):x.val.cell? a=w.cell? a:=by
 obtain ⟨u,hu⟩:=Option.isSome_iff_exists.1 h
 exact x.property.upd.cell (World.block_lt_of_cell? w a hu) (by simp)
theorem GX.frozen (x:GX w) (a:Addr) (h:(w.cell? a).isSome=true):x.val.frozen? a=w.frozen? a:=by
 obtain ⟨u,hu⟩:=Option.isSome_iff_exists.1 h
 exact x.property.upd.frozen (World.block_lt_of_cell? w a hu) (by simp)
attribute [go_sem] GX.cell GX.frozen
theorem GX.of (h:Grw w w'):∃ x:GX w,w'=x.val:=⟨⟨w',h⟩,rfl⟩
theorem GX.upd (x:GX w):Grw w x.val:=x.property
end
end L
end Go.Proofs.YtjclbjdkkdijbaaGreat
