/- Walks through package regex: the table of normal forms in use. Conditions: none. -/
import Derived.Test.YtjclbjdkkdijbaaGreatRxJ
set_option linter.unusedVariables false
set_option linter.unusedSimpArgs false
set_option linter.unusedSectionVars false
open Go.RowKit
namespace Go.Proofs.YtjclbjdkkdijbaaGreat
open L
namespace Rgx
open Rx
section
variable {w w':World} {v:Value} {M M' S:List Nat} {b:Nat}
theorem Jn.sub {u z:Rx} (h:Jn M w v u z) (hM:∀ b∈M',b∈M∨w.heap.size≤b):Jn M' w v u z:=by
 obtain ⟨b1,b2,rfl,h1,h2⟩:=h
 exact ⟨b1,b2,rfl,h1.sub hM,h2.sub hM⟩
theorem FM.upd (h:FM M w b) (hu:Upd S w w') (hS:∀ b∈S,b∈M):FM M w' b:=by
 obtain ⟨be,ba,v3,v4,v5,f,h0,h1,h2,h3,h4,h5,h6,h7,h8,j3,j4,j5,x1,x2⟩:=h.ex
 exact ⟨⟨be,ba,v3,v4,v5,f,h0.upd hu (fun hm=>h.off (hS _ hm)),h1,h2,h3,h4,h5,h6,h7,h8,j3.upd hu hS,j4.upd hu hS,j5.upd hu hS,x1.upd hu hS,x2.upd hu hS⟩,h.off⟩
theorem FM.ext (h:FM M w b) (hu:Upd [] w w'):FM M w' b:=h.upd hu (by simp)
theorem FM.sub (h:FM M w b) (hM:∀ b∈M',b∈M∨w.heap.size≤b):FM M' w b:=by
 obtain ⟨be,ba,v3,v4,v5,f,h0,h1,h2,h3,h4,h5,h6,h7,h8,j3,j4,j5,x1,x2⟩:=h.ex
 refine ⟨⟨be,ba,v3,v4,v5,f,h0,h1,h2,h3,h4,h5,h6,h7,h8,j3.sub hM,j4.sub hM,j5.sub hM,x1.sub hM,x2.sub hM⟩,fun hm=>?_⟩
 rcases hM b hm with h'|h'
 ·exact h.off h'
 ·have:=h0.lt;omega
structure FitR (r:Rx):Prop where
 lo:0≤r.kind
 hi:r.kind≤7
 one:r.kind=6∨r.kind=7→∃ x,r.kids=[x]∧(x.kind=6→∃ y,x.kids=[y])
theorem form_at (h:FM M w b) {r:Rx} {vr:Value} (hr:RxV M w r vr) (hM:∀ b∈M,b<w.heap.size) (hn:nodes r≤1000000) (hf:FitR r) :
 ∃ (f:Int→Option Value) (g:Nat) (caps:Array Value),MF Tryz.prog 3 w b 8 f∧f r.kind=some (.func (.func g) #[] caps)∧(∀ args w,(callFunc g args).run Tryz.prog w=.ok (.enter g args) w) ∧
  Calls Tryz.prog g (#[vr]++caps) w fun e w'=>∃ v',e=.returned v'∧RxV M w' (form r) v'∧Upd [] w w':=by
 obtain ⟨be,ba,v3,v4,v5,f,h0,h1,h2,h3,h4,h5,h6,h7,h8,j3,j4,j5,x1,x2⟩:=h.ex
 have eta:=Rx.eta r
 have hl:=hf.lo
 have hh:=hf.hi
 rcases (by omega:(r.kind=0∨r.kind=1∨r.kind=2)∨r.kind=3∨r.kind=4∨r.kind=5∨r.kind=6∨r.kind=7) with hk|hk|hk|hk|hk|hk
 ·refine ⟨f,114,#[],h0,?_,enters_of Tryz.func114 (by kernel_rfl) rfl,?_⟩
  ·rcases hk with hk|hk|hk <;> rw [hk]
   ·exact h1
   ·exact h2
   ·exact h3
  ·have he:form r=r:=by
    rw [←eta,form]
    rw [if_neg (by omega),if_neg (by omega),if_neg (by omega),if_neg (by omega),if_neg (by omega)]
   rw [he]
   exact itself_calls hr hM
 ·obtain ⟨b1,b2,rfl,y1,y2⟩:=j3
  refine ⟨f,116,_,h0,by rw [hk];exact h4,enters_of Tryz.func116 (by kernel_rfl) rfl,?_⟩
  have he:form r=joinE r.kind rEmpty rNone r.kids:=by conv=>lhs;rw [←eta,form,if_pos hk]
                                                      rw [hk]
  rw [he]
  exact join_calls hr y1 y2 hM hn
 ·obtain ⟨b1,b2,rfl,y1,y2⟩:=j4
  refine ⟨f,116,_,h0,by rw [hk];exact h5,enters_of Tryz.func116 (by kernel_rfl) rfl,?_⟩
  have he:form r=joinE r.kind rNone rAll r.kids:=by conv=>lhs;rw [←eta,form,if_neg (by omega),if_pos hk]
                                                    rw [hk]
  rw [he]
  exact join_calls hr y1 y2 hM hn
 ·obtain ⟨b1,b2,rfl,y1,y2⟩:=j5
  refine ⟨f,116,_,h0,by rw [hk];exact h6,enters_of Tryz.func116 (by kernel_rfl) rfl,?_⟩
  have he:form r=joinE r.kind rAll rNone r.kids:=by conv=>lhs;rw [←eta,form,if_neg (by omega),if_neg (by omega),if_pos hk]
                                                    rw [hk]
  rw [he]
  exact join_calls hr y1 y2 hM hn
 ·obtain ⟨x,hx,hy⟩:=hf.one (.inl hk)
  refine ⟨f,124,#[],h0,by rw [hk];exact h7,enters_of Tryz.func124 (by kernel_rfl) rfl,?_⟩
  have he:form r=notR x r:=by
   conv=>lhs;rw [←eta,hk,hx,form6]
   unfold notR
   rw [←hk,←hx,eta]
  rw [he]
  exact not_calls hr hM hx hy
 ·obtain ⟨x,hx,_⟩:=hf.one (.inr hk)
  refine ⟨f,125,_,h0,by rw [hk];exact h8,enters_of Tryz.func125 (by kernel_rfl) rfl,?_⟩
  have he:form r=starR x r:=by
   conv=>lhs;rw [←eta,hk,hx,form7]
   unfold starR
   rw [←hk,←hx,eta]
  rw [he]
  exact star_calls hr hM hx x1 x2
theorem form_at2 (h:FM M w b) {r:Rx} {vr:Value} (hr:RxV M w r vr) (hM:∀ b∈M,b<w.heap.size) (hn:nodes r≤1000000) (hf:FitR r) :
 ∃ (f:Int→Option Value) (g:Nat) (caps:Array Value),f r.kind=some (.func (.func g) #[] caps)∧(∀ args w,(callFunc g args).run Tryz.prog w=.ok (.enter g args) w) ∧
  ∀ w5,Upd [] w w5→MF Tryz.prog 3 w5 b 8 f∧Calls Tryz.prog g (#[vr]++caps) w5 fun e w'=>∃ v',e=.returned v'∧RxV M w' (form r) v'∧Upd [] w5 w':=by
 obtain ⟨be,ba,v3,v4,v5,f,h0,h1,h2,h3,h4,h5,h6,h7,h8,j3,j4,j5,x1,x2⟩:=h.ex
 have eta:=Rx.eta r
 have hl:=hf.lo
 have hh:=hf.hi
 rcases (by omega:(r.kind=0∨r.kind=1∨r.kind=2)∨r.kind=3∨r.kind=4∨r.kind=5∨r.kind=6∨r.kind=7) with hk|hk|hk|hk|hk|hk
 ·refine ⟨f,114,#[],?_,enters_of Tryz.func114 (by kernel_rfl) rfl,fun w5 u=>⟨h0.upd u (by simp),?_⟩⟩
  ·rcases hk with hk|hk|hk <;> rw [hk]
   ·exact h1
   ·exact h2
   ·exact h3
  ·have he:form r=r:=by
    rw [←eta,form]
    rw [if_neg (by omega),if_neg (by omega),if_neg (by omega),if_neg (by omega),if_neg (by omega)]
   rw [he]
   exact itself_calls (hr.ext u) (fun b hb=>by have:=hM b hb;have:=u.size;omega)
 ·obtain ⟨b1,b2,rfl,y1,y2⟩:=j3
  refine ⟨f,116,_,by rw [hk];exact h4,enters_of Tryz.func116 (by kernel_rfl) rfl,fun w5 u=>⟨h0.upd u (by simp),?_⟩⟩
  have he:form r=joinE r.kind rEmpty rNone r.kids:=by conv=>lhs;rw [←eta,form,if_pos hk]
                                                      rw [hk]
  rw [he]
  exact join_calls (hr.ext u) (y1.ext u) (y2.ext u) (fun b hb=>by have:=hM b hb;have:=u.size;omega) hn
 ·obtain ⟨b1,b2,rfl,y1,y2⟩:=j4
  refine ⟨f,116,_,by rw [hk];exact h5,enters_of Tryz.func116 (by kernel_rfl) rfl,fun w5 u=>⟨h0.upd u (by simp),?_⟩⟩
  have he:form r=joinE r.kind rNone rAll r.kids:=by conv=>lhs;rw [←eta,form,if_neg (by omega),if_pos hk]
                                                    rw [hk]
  rw [he]
  exact join_calls (hr.ext u) (y1.ext u) (y2.ext u) (fun b hb=>by have:=hM b hb;have:=u.size;omega) hn
 ·obtain ⟨b1,b2,rfl,y1,y2⟩:=j5
  refine ⟨f,116,_,by rw [hk];exact h6,enters_of Tryz.func116 (by kernel_rfl) rfl,fun w5 u=>⟨h0.upd u (by simp),?_⟩⟩
  have he:form r=joinE r.kind rAll rNone r.kids:=by conv=>lhs;rw [←eta,form,if_neg (by omega),if_neg (by omega),if_pos hk]
                                                    rw [hk]
  rw [he]
  exact join_calls (hr.ext u) (y1.ext u) (y2.ext u) (fun b hb=>by have:=hM b hb;have:=u.size;omega) hn
 ·obtain ⟨x,hx,hy⟩:=hf.one (.inl hk)
  refine ⟨f,124,#[],by rw [hk];exact h7,enters_of Tryz.func124 (by kernel_rfl) rfl,fun w5 u=>⟨h0.upd u (by simp),?_⟩⟩
  have he:form r=notR x r:=by
   conv=>lhs;rw [←eta,hk,hx,form6]
   unfold notR
   rw [←hk,←hx,eta]
  rw [he]
  exact not_calls (hr.ext u) (fun b hb=>by have:=hM b hb;have:=u.size;omega) hx hy
 ·obtain ⟨x,hx,_⟩:=hf.one (.inr hk)
  refine ⟨f,125,_,by rw [hk];exact h8,enters_of Tryz.func125 (by kernel_rfl) rfl,fun w5 u=>⟨h0.upd u (by simp),?_⟩⟩
  have he:form r=starR x r:=by
   conv=>lhs;rw [←eta,hk,hx,form7]
   unfold starR
   rw [←hk,←hx,eta]
  rw [he]
  exact star_calls (hr.ext u) (fun b hb=>by have:=hM b hb;have:=u.size;omega) hx (x1.ext u) (x2.ext u)
end
end Rgx
end Go.Proofs.YtjclbjdkkdijbaaGreat
