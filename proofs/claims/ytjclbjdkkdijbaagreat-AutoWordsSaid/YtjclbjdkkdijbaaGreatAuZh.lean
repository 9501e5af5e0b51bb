/- A law for regions in which several operations that make memory may come up in any order: each value owns its blocks, its one consumer takes them. No program is named. Conditions: none. A law for regions whose operations may come up in any order, by an invariant of what was done. No program is named. Conditions: none. -/
import Derived.Test.YtjclbjdkkdijbaaGreatReg3
set_option linter.unusedVariables false
set_option linter.unusedSimpArgs false
set_option linter.unusedSectionVars false
section
open Go.RowKit
namespace Go.Proofs.YtjclbjdkkdijbaaGreat
namespace L
def updV {α:Type} (f:Nat→α) (j:Nat) (v:α):Nat→α:=fun i=>if i=j then v else f i
theorem updV_same {α:Type} (f:Nat→α) (j:Nat) (v:α):updV f j v j=v:=by simp [updV]
theorem updV_ne {α:Type} (f:Nat→α) {i j:Nat} (v:α) (h:i≠j):updV f j v i=f i:=by simp [updV,h]
section
variable {P:Program} {Q:Exit→Act→World→Prop} {l:List Oper} {f:Nat} {w0:World}
def linB (l:List Oper) (n:Nat) (Tk:List Nat) (use:Nat→List Nat) (listed0 listed1:Array Bool):Bool:=
 (List.range l.length).all (fun j=>match l[j]? with
  | none=>false
  | some o=>o.after.all fun e=>!(Region.binds .any e) || decide (e.on<j)) &&
 (List.range l.length).all (fun j=>Tk.contains j || listed0.getD j false || Tk.all fun i=>waits l.toArray n j i) &&
 Tk.all (fun j=>decide (j<l.length) && !(listed0.getD j false) && match l[j]? with
  | none=>false
  | some o=>(use j).all fun i=>Tk.contains i && o.after.any fun e=>Region.binds .any e && e.on == i) &&
 Tk.all (fun j=>Tk.all fun j'=>j == j' || (use j).all fun i=>!(use j').contains i) &&
 decide Tk.Nodup && decide (listed1.size=l.length) && decide (listed0.size=l.length) && (List.range l.length).all (fun k=>listed1.getD k false == (listed0.getD k false || Tk.contains k))
abbrev NewC (w0:World):World→Prop:=fun w'=>∃ x:Ext w0,w'=x.val
def left_ (Tk:List Nat) (listed:Array Bool):Nat:=(Tk.filter fun i=>!(listed.getD i false)).length
attribute [irreducible] linB
def setAll (T:Array Value):List (Nat × Nat)→(Nat→Value)→Array Value
 | [],_=>T
 | (j,t)::r,val=>setAll (T.setIfInBounds t (val j)) r val
theorem setAll_same (T:Array Value):∀ (ds:List (Nat × Nat)) (val:Nat→Value),(∀ p∈ds,val p.1=T.getD p.2 undef)→setAll T ds val=T
 | [],_,_=>rfl
 | (j,t)::r,val,h=>by
  have e:T.setIfInBounds t (val j)=T:=by
   rw [h (j,t) (by simp)]
   apply Array.ext_getElem?
   intro k
   rw [Array.getElem?_setIfInBounds]
   by_cases hk:t=k
   ·subst hk
    rw [if_pos rfl]
    by_cases ht:t<T.size
    ·simp [ht]
    ·simp [ht]
   ·rw [if_neg hk]
  unfold setAll
  rw [e]
  exact setAll_same T r val (fun p hp=>h p (by simp [hp]))
def slotOf (ds:List (Nat × Nat)) (j:Nat):Nat:=((ds.find? fun p=>p.1 == j).map (·.2)).getD 0
theorem wpOp_mk {X:Act→World→Prop} {i:Nat} {o:Oper} {a:Act} {w:World} (ho':nth l i=some o)
 (h:∀ K:Act→World→Prop,(∀ a w,Halt_ (X a w)→K a w)→wpList P l.toArray (Exit.then K (NoPanic Q)) [o] a w):wpOp P l.toArray (NoPanic Q) i X a w:=by
 have ho:l.toArray[i]?=some o:=by rw [←ho',nth_eq];simp
 have h':=h _ fun _ _ h=>h
 unfold wpOp
 rw [ho]
 simp only
 unfold wpList at h'
 split
 ·rename_i hw
  rw [if_pos hw] at h'
  rcases h' with h'|⟨h1,a',w',h2⟩
  ·exact .inl (Oper.wp_thenQ' (Oper.wp_mono (fun _ _ h=>h) h'))
  ·exact .inr ⟨h1,a',w',h2⟩
 ·rename_i hw
  rw [if_neg hw] at h'
  exact h'
end
end L
end Go.Proofs.YtjclbjdkkdijbaaGreat
end
section
open Go.RowKit
namespace Go.Proofs.YtjclbjdkkdijbaaGreat
namespace L
section
variable {P:Program} {Q:Exit→Act→World→Prop} {l:List Oper} {f:Nat} {w0:World}
def linI (l:List Oper) (n:Nat) (Tk:List Nat) (listed0 listed1:Array Bool):Bool:=
 (List.range l.length).all (fun j=>match l[j]? with
  | none=>false
  | some o=>o.after.all fun e=>!(Region.binds .any e) || decide (e.on<j)) &&
 (List.range l.length).all (fun j=>Tk.contains j || listed0.getD j false || Tk.all fun i=>waits l.toArray n j i) &&
 Tk.all (fun j=>decide (j<l.length) && !(listed0.getD j false)) &&
 decide Tk.Nodup && decide (listed1.size=l.length) && decide (listed0.size=l.length) && (List.range l.length).all (fun k=>listed1.getD k false == (listed0.getD k false || Tk.contains k))
theorem getD_listed {listed:Array Bool} {n j:Nat} (hls:listed.size=n) (hj:j<n) (k:Nat):(listed.setIfInBounds j true).getD k false=if k=j then true else listed.getD k false:=by
 by_cases hk:k=j
 ·subst hk
  have:k<listed.size:=by omega
  simp [Array.getD,this]
 ·rw [if_neg hk,getD_set_ne false (fun h=>hk h.symm)]
def depB (l:List Oper) (j i:Nat):Bool:=match l[j]? with
 | none=>false
 | some o=>o.after.any fun e=>Region.binds .any e && e.on == i
theorem Closed.dep {listed:Array Bool} (h:Closed l.toArray listed) {j i:Nat} (hd:depB l j i=true) (hj:listed.getD j false=true):listed.getD i false=true:=by
 unfold depB at hd
 cases hl:l[j]? with
 | none=>rw [hl] at hd;cases hd
 | some o=>
  rw [hl] at hd
  obtain ⟨e,he,hb⟩:=Array.any_eq_true'.1 hd
  simp only [Bool.and_eq_true,beq_iff_eq] at hb
  rw [←hb.2]
  exact h.2 j o (by simpa using hl) hj e he hb.1
theorem after_dep {listed:Array Bool} {j i:Nat} (h:∀ oj,l[j]?=some oj→∀ e∈oj.after,Region.binds .any e=true→listed.getD e.on false=true) (hd:depB l j i=true):listed.getD i false=true:=by
 unfold depB at hd
 cases hl:l[j]? with
 | none=>rw [hl] at hd;cases hd
 | some o=>
  rw [hl] at hd
  obtain ⟨e,he,hb⟩:=Array.any_eq_true'.1 hd
  simp only [Bool.and_eq_true,beq_iff_eq] at hb
  rw [←hb.2]
  exact h o hl e he hb.1
theorem WA.inv (n:Nat) (Tk:List Nat) (listed0 listed1:Array Bool) (mkA:(Nat→Value)→Act) (I:Array Bool→(Nat→Value)→World→Prop) (fuel0:Nat)
 (hB:linI l n Tk listed0 listed1=true)
 (hIU:∀ listed val w,I listed val w→Upd [] w0 w)
 (hstep:∀ j∈Tk,∀ (listed:Array Bool) (val:Nat→Value) (w:World),listed.size=l.length→listed.getD j false=false→Closed l.toArray listed→(∀ oj,l[j]?=some oj→∀ e∈oj.after,Region.binds .any e=true→listed.getD e.on false=true)→I listed val w →
  wpOp P l.toArray (NoPanic Q) j (fun a' w'=>∃ v,a'=mkA (updV val j v)∧I (listed.setIfInBounds j true) (updV val j v) w') (mkA val) w)
 (hend:∀ (val:Nat→Value) (w:World),I listed1 val w→WA P l Q f (NewC w0) fuel0 listed1 (mkA val) w)
 (val0:Nat→Value) (w:World) (hI:I listed0 val0 w):WA P l Q f (NewC w0) (fuel0+Tk.length) listed0 (mkA val0) w:=by
 simp only [linI,Bool.and_eq_true,List.all_eq_true,List.mem_range,decide_eq_true_eq] at hB
 obtain ⟨⟨⟨⟨⟨⟨hB1,hB2⟩,hB3⟩,hBn⟩,hB5⟩,hB6⟩,hB7⟩:=hB
 have hget:∀ j:Nat,l.toArray[j]?=l[j]?:=fun j=>by simp
 have key:∀ (m:Nat) (listed:Array Bool) (val:Nat→Value) (w:World),left_ Tk listed=m→listed.size=l.length →
  (∀ k,listed0.getD k false=true→listed.getD k false=true)→(∀ k,listed.getD k false=true→listed0.getD k false=true∨k∈Tk) →
  I listed val w→WA P l Q f (NewC w0) (fuel0+m) listed (mkA val) w:=by
  intro m
  induction m with
  | zero=>
   intro listed val w hm hls h0 h1 hI
   have hall:∀ i∈Tk,listed.getD i false=true:=by
    intro i hi
    unfold left_ at hm
    have:=List.length_eq_zero_iff.1 hm
    rw [List.filter_eq_nil_iff] at this
    have h2:=this i hi
    simpa using h2
   have hle:listed=listed1:=by
    apply Array.ext
    ·rw [hls,hB5]
    ·intro k hk1 hk2
     have hk:k<l.length:=by omega
     have e1:listed.getD k false=listed[k]:=by simp [Array.getD,hk1]
     have e2:listed1.getD k false=listed1[k]:=by simp [Array.getD,hk2]
     have h3:=hB7 k hk
     rw [beq_iff_eq] at h3
     rw [←e1,←e2,h3,Bool.eq_iff_iff]
     simp only [Bool.or_eq_true,List.contains_iff_mem]
     constructor
     ·intro h;exact h1 k h
     ·rintro (h|h)
      ·exact h0 k h
      ·exact hall k h
   subst hle
   exact hend val w hI
  | succ m ih=>
   intro listed val w hm hls h0 h1 hI hns hcl hH
   have hnot:¬ ∀ i∈Tk,listed.getD i false=true:=by
    intro h
    have:left_ Tk listed=0:=by
     unfold left_
     rw [List.length_eq_zero_iff,List.filter_eq_nil_iff]
     intro i hi
     simp [h i hi]
    omega
   refine ⟨fun hr=>?_,fun j hj=>?_⟩
   ·exfalso
    have hallk:∀ N k,k<N→k<l.length→listed.getD k false=true:=by
     intro N
     induction N with
     | zero=>intro k h;omega
     | succ N ihN=>
      intro k hkN hk
      cases hlk:listed.getD k false with
      | true=>rfl
      | false=>
       exfalso
       have hmem:k∈Region.ready .any l.toArray listed:=by
        refine mem_ready.2 ⟨?_,l[k],by rw [hget,List.getElem?_eq_getElem hk],fun e he hb=>?_⟩
        ·have:k<listed.size:=by omega
         simp [Array.getD,this] at hlk ⊢
         exact hlk
        ·have h3:=hB1 k hk
         rw [List.getElem?_eq_getElem hk] at h3
         simp only at h3
         rw [Array.all_eq_true'] at h3
         have h4:=h3 e he
         rw [hb] at h4
         simp only [Bool.not_true,Bool.false_or,decide_eq_true_eq] at h4
         exact ihN e.on (by omega) (by omega)
       rw [hr] at hmem
       cases hmem
    exact hnot (fun i hi=>hallk (i+1) i (by omega) (hB3 i hi).1)
   ·obtain ⟨hjun,oj,hoj,hall⟩:=mem_ready.1 hj
    have hjl:j<l.length:=by
     rw [hget] at hoj
     exact (List.getElem?_eq_some_iff.1 hoj).1
    have hjun2:=getD_both hjun
    have hjT:j∈Tk:=by
     apply Classical.byContradiction
     intro hn
     have h3:=hB2 j hjl
     simp only [Bool.or_eq_true,List.contains_iff_mem,List.all_eq_true] at h3
     rcases h3 with (h3|h3)|h3
     ·exact hn h3
     ·have:=h0 j h3;rw [hjun2] at this;cases this
     ·refine hnot (fun i hi=>?_)
      have h4:=h3 i hi
      cases n with
      | zero=>simp [L.waits] at h4
      | succ n'=>
       unfold L.waits at h4
       rw [hoj] at h4
       obtain ⟨e,he,hb⟩:=Array.any_eq_true'.1 h4
       simp only [Bool.and_eq_true,Bool.or_eq_true,beq_iff_eq] at hb
       have h5:=hall e he hb.1
       rcases hb.2 with h6|h6
       ·rw [←h6];exact h5
       ·exact hcl.waits n' e.on i h6 h5
    have hlj:l[j]?=some oj:=by rw [←hget];exact hoj
    have hst:=hstep j hjT listed val w hls hjun2 hcl (fun oj' h' e he hb=>by rw [hlj] at h';cases h';exact hall e he hb) hI
    refine wpOp_mono (fun a' w' h4=>?_) hst
    obtain ⟨v,rfl,hI'⟩:=h4
    have hset:=getD_listed (j:=j) hls hjl
    have hlm:left_ Tk (listed.setIfInBounds j true)=m:=by
     have e1:(Tk.filter fun i=>!((listed.setIfInBounds j true).getD i false))=(Tk.filter fun i=>!(listed.getD i false)).erase j:=by
      rw [(hBn.sublist List.filter_sublist).erase_eq_filter,List.filter_filter]
      congr 1
      funext i
      rw [hset]
      by_cases hij:i=j
      ·subst hij;simp
      ·simp [hij]
     unfold left_ at hm ⊢
     rw [e1,List.length_erase_of_mem (List.mem_filter.2 ⟨hjT,by rw [hjun2];rfl⟩),hm]
     rfl
    have hH':Hold f (NewC w0) (listed.setIfInBounds j true) w':=fun _=>Ext.of (hIU _ _ _ hI')
    refine ⟨hH',ih (listed.setIfInBounds j true) (updV val j v) w' hlm (by simp [hls]) (fun k hk=>?_) (fun k hk=>?_) hI' hns (hcl.set hj) hH'⟩
    ·rw [hset];split
     ·rfl
     ·exact h0 k hk
    ·rw [hset] at hk
     by_cases hkj:k=j
     ·subst hkj;exact .inr hjT
     ·rw [if_neg hkj] at hk;exact h1 k hk
 have hno:∀ i∈Tk,listed0.getD i false=false:=fun i hi=>by
  have:=(hB3 i hi).2
  simpa using this
 refine key Tk.length listed0 val0 w ?_ hB6 (fun k h=>h) (fun k h=>.inl h) hI
 unfold left_
 rw [List.filter_eq_self.2 (fun i hi=>by rw [hno i hi];rfl)]
attribute [irreducible] linI
theorem WA.invA {T:Array Value} {d:List Deferred} {w:World} (n:Nat) (Tk:List Nat) (ds:List (Nat × Nat)) (listed0 listed1:Array Bool) (I:Array Bool→(Nat→Value)→World→Prop) (fuel0 fuel:Nat)
 (hB:(linI l n Tk listed0 listed1 && ds.all (fun p=>slotOf ds p.1 == p.2) && decide (fuel=fuel0+Tk.length))=true)
 (hIU:∀ listed val w,I listed val w→Upd [] w0 w)
 (hstep:∀ j∈Tk,∀ (listed:Array Bool) (val:Nat→Value) (w:World),listed.size=l.length→listed.getD j false=false→Closed l.toArray listed→(∀ oj,l[j]?=some oj→∀ e∈oj.after,Region.binds .any e=true→listed.getD e.on false=true)→I listed val w →
  wpOp P l.toArray (NoPanic Q) j (fun a' w'=>∃ v,a'={ tmps:=setAll T ds (updV val j v),defers:=d }∧I (listed.setIfInBounds j true) (updV val j v) w') { tmps:=setAll T ds val,defers:=d } w)
 (hend:∀ (val:Nat→Value) (w:World),I listed1 val w→WA P l Q f (NewC w0) fuel0 listed1 { tmps:=setAll T ds val,defers:=d } w)
 (hI:∀ val,I listed0 val w):WA P l Q f (NewC w0) fuel listed0 { tmps:=T,defers:=d } w:=by
 rw [Bool.and_eq_true,Bool.and_eq_true,List.all_eq_true,decide_eq_true_eq] at hB
 obtain ⟨⟨hB1,hB2⟩,hB3⟩:=hB
 have e:=setAll_same T ds (fun j=>T.getD (slotOf ds j) undef) (fun p hp=>by
  show T.getD (slotOf ds p.1) undef=_
  have:=hB2 p hp
  rw [beq_iff_eq] at this
  rw [this])
 have h:=WA.inv (P:=P) (Q:=Q) (l:=l) (f:=f) (w0:=w0) n Tk listed0 listed1 (fun val=>{ tmps:=setAll T ds val,defers:=d }) I fuel0 hB1 hIU hstep hend (fun j=>T.getD (slotOf ds j) undef) w (hI _)
 rw [←hB3] at h
 simp only [e] at h
 exact h
end
end L
end Go.Proofs.YtjclbjdkkdijbaaGreat
end
