/- A law for regions that draw their order, taken step by step; several operations may come up at a place. No program is named. Conditions: none. -/
import Derived.Test.YtjclbjdkkdijbaaGreatReg2
set_option linter.unusedVariables false
set_option linter.unusedSimpArgs false
set_option linter.unusedSectionVars false
open Go.RowKit
namespace Go.Proofs.YtjclbjdkkdijbaaGreat
namespace L
section
variable {P:Program} {Q:Exit→Act→World→Prop} {C:World→Prop} {l:List Oper} {f fuel:Nat} {listed:Array Bool} {a:Act} {w:World}
def WA (P:Program) (l:List Oper) (Q:Exit→Act→World→Prop) (f:Nat) (C:World→Prop) (fuel:Nat) (listed:Array Bool) (a:Act) (w:World):Prop:=
 Region.noSelect l.toArray=true→Closed l.toArray listed→Hold f C listed w→wpAnyS P l.toArray (NoPanic Q) f C fuel listed a w
theorem wp_region_wa {id:Nat} (n f:Nat) (C:World→Prop) (hm:P.follows .mixedOrders=true) (hB:(Region.noSelect l.toArray && decide (l.toArray.size=n))=true) (hC:C w.drew)
 (h:WA P l Q f C n (Array.replicate n false) a w.drew):(Code.region id l.toArray true).wp P Q a w:=by
 simp only [Bool.and_eq_true,decide_eq_true_eq] at hB
 obtain ⟨hB,hn⟩:=hB
 subst hn
 exact wp_region_noPanic (wp_region_any hm (wpAny_of_S (f:=f) (C:=C) _ _ _ _ (h hB Closed.init (fun _=>hC))))
theorem noPanic_any {Q:Exit→Act→World→Prop}:∀ c (a a':Act) w,NoPanic Q (.panic c) a w→NoPanic Q (.panic c) a' w:=fun _ _ _ _ h=>h.elim
theorem WA.nil (hB:Region.ready .any l.toArray listed=[]) (h:Q .normal a w):WA P l Q f C 0 listed a w:=fun _ _ _=>⟨hB,h⟩
theorem WA.mov_ {D:World→Prop} (i n:Nat) {o:Oper} (ho':nth l i=some o) (hB:((Region.ready .any l.toArray listed).contains i && Region.free .any l.toArray listed i && i != f)=true)
 (hD:(∀ w,D w)∨(D=C∧waits l.toArray n f i=true)∨(D=C∧l.toArray.size≤f))
 (h:mov P l.toArray D o (fun a'=>WA P l Q f C fuel (listed.setIfInBounds i true) a' w) a):WA P l Q f C (fuel+1) listed a w:=by
 intro hns hcl hH
 have ho:l.toArray[i]?=some o:=by rw [←ho',nth_eq];simp
 simp only [Bool.and_eq_true,bne_iff_ne,ne_eq] at hB
 obtain ⟨⟨hr,hf⟩,hif⟩:=hB
 have hr':i∈Region.ready .any l.toArray listed:=by simpa using hr
 obtain ⟨v,hy,hK⟩:∃ v,YieldsIf P l.toArray D o v a∧WA P l Q f C fuel (listed.setIfInBounds i true) (a.put o.dst v) w:=by
  unfold mov at h
  by_cases hw:Region.wanted o (yielded l.toArray a.tmps)=true
  ·rw [if_pos hw] at h
   obtain ⟨v,h1,h2⟩:=h
   exact ⟨v,.inl ⟨hw,h1⟩,h2⟩
  ·rw [if_neg hw] at h
   exact ⟨undef,.inr ⟨by simpa using hw,rfl⟩,h⟩
 have hlf:(listed.setIfInBounds i true).getD f false=listed.getD f false:=getD_set_ne false hif
 exact wpAnyS_first (n:=n) (D:=D) ho (Region.noSelect_spec hns) (fun c a w h=>noPanic_any c _ _ w h) hif hD fuel listed a w hcl (Region.free_spec ho hf) hr' hy hH
  (hK hns (hcl.set hr') (fun h=>hH (by rw [hlf] at h;exact h)))
theorem WA.free (i:Nat) {o:Oper} (ho':nth l i=some o) (hs:still_ o.op=true) (hB:((Region.ready .any l.toArray listed).contains i && Region.free .any l.toArray listed i && i != f)=true)
 (h:∀ K:Act→Prop,(∀ a,WA P l Q f C fuel (listed.setIfInBounds i true) a w→K a)→wpQuiet P l.toArray (fun _=>True) K [o] a):WA P l Q f C (fuel+1) listed a w:=by
 refine WA.mov_ (D:=fun _=>True) i 0 ho' hB (.inl fun _=>trivial) ?_
 exact mov_of_quiet hs (h _ fun _ h=>h)
theorem WA.load (i n:Nat) {o:Oper} (ho':nth l i=some o) (hs:still_ o.op=true) (hB:((Region.ready .any l.toArray listed).contains i && Region.free .any l.toArray listed i && i != f)=true)
 (hw:(waits l.toArray n f i || decide (l.toArray.size≤f))=true)
 (h:∀ K:Act→Prop,(∀ a,WA P l Q f C fuel (listed.setIfInBounds i true) a w→K a)→wpQuiet P l.toArray C K [o] a):WA P l Q f C (fuel+1) listed a w:=by
 refine WA.mov_ (D:=C) i n ho' hB (.inr ?_) (mov_of_quiet hs (h _ fun _ h=>h))
 simp only [Bool.or_eq_true,decide_eq_true_eq] at hw
 rcases hw with hw|hw
 ·exact .inl ⟨rfl,hw⟩
 ·exact .inr ⟨rfl,hw⟩
def Do_ (P:Program) (l:List Oper) (Q:Exit→Act→World→Prop) (f:Nat) (C:World→Prop) (fuel:Nat) (listed:Array Bool) (i:Nat) (a:Act) (w:World):Prop:=
 wpOp P l.toArray (NoPanic Q) i (fun a' w'=>∃ C':World→Prop,((listed.setIfInBounds i true).getD f false=false→(∀ w,C' w→C w)∧C' w')∧WA P l Q f C' fuel (listed.setIfInBounds i true) a' w') a w
theorem Do_.step {i:Nat} (hi:i∈Region.ready .any l.toArray listed) (hns:Region.noSelect l.toArray=true) (hcl:Closed l.toArray listed) (h:Do_ P l Q f C fuel listed i a w) :
 wpOp P l.toArray (NoPanic Q) i (fun a' w'=>Hold f C (listed.setIfInBounds i true) w'∧wpAnyS P l.toArray (NoPanic Q) f C fuel (listed.setIfInBounds i true) a' w') a w:=by
 refine wpOp_mono (fun a' w' h3=>?_) h
 obtain ⟨C',hC',h4⟩:=h3
 have H:=h4 hns (hcl.set hi) (fun h0=>(hC' h0).2)
 refine ⟨fun h0=>(hC' h0).1 _ (hC' h0).2,?_⟩
 cases hl:(listed.setIfInBounds i true).getD f false with
 | false=>exact wpAnyS_mono (hC' hl).1 _ _ _ _ H
 | true=>exact wpAnyS_past _ _ _ _ hl H
theorem WA.one (i:Nat) (hB:Region.ready .any l.toArray listed=[i]) (h:Do_ P l Q f C fuel listed i a w):WA P l Q f C (fuel+1) listed a w:=by
 intro hns hcl _
 refine ⟨fun h0=>(by rw [hB] at h0;cases h0),fun k hk=>?_⟩
 have hk':=hk
 rw [hB] at hk'
 simp only [List.mem_singleton] at hk'
 subst hk'
 exact h.step hk hns hcl
theorem WA.two (i j:Nat) (hB:Region.ready .any l.toArray listed=[i,j]) (hi:Do_ P l Q f C fuel listed i a w) (hj:Do_ P l Q f C fuel listed j a w):WA P l Q f C (fuel+1) listed a w:=by
 intro hns hcl _
 refine ⟨fun h0=>(by rw [hB] at h0;cases h0),fun k hk=>?_⟩
 have hk':=hk
 rw [hB] at hk'
 simp only [List.mem_cons,List.not_mem_nil,or_false] at hk'
 rcases hk' with rfl|rfl
 ·exact hi.step hk hns hcl
 ·exact hj.step hk hns hcl
theorem WA.three (i j m:Nat) (hB:Region.ready .any l.toArray listed=[i,j,m]) (hi:Do_ P l Q f C fuel listed i a w) (hj:Do_ P l Q f C fuel listed j a w) (hm:Do_ P l Q f C fuel listed m a w):WA P l Q f C (fuel+1) listed a w:=by
 intro hns hcl _
 refine ⟨fun h0=>(by rw [hB] at h0;cases h0),fun k hk=>?_⟩
 have hk':=hk
 rw [hB] at hk'
 simp only [List.mem_cons,List.not_mem_nil,or_false] at hk'
 rcases hk' with rfl|rfl|rfl
 ·exact hi.step hk hns hcl
 ·exact hj.step hk hns hcl
 ·exact hm.step hk hns hcl
theorem Do_.mk {i:Nat} {o:Oper} (ho':nth l i=some o)
 (h:∀ K:Act→World→Prop,(∀ a w,Halt_ (∃ C':World→Prop,((listed.setIfInBounds i true).getD f false=false→(∀ w,C' w→C w)∧C' w)∧WA P l Q f C' fuel (listed.setIfInBounds i true) a w)→K a w)→wpList P l.toArray (Exit.then K (NoPanic Q)) [o] a w) :
 Do_ P l Q f C fuel listed i a w:=by
 have ho:l.toArray[i]?=some o:=by rw [←ho',nth_eq];simp
 have h':=h _ fun _ _ h=>h
 unfold Do_ wpOp
 rw [ho]
 simp only
 unfold wpList at h'
 split
 ·rename_i hw
  rw [if_pos hw] at h'
  rcases h' with h'|⟨h1,a',w',h2⟩
  ·exact .inl (Oper.wp_thenQ' (Oper.wp_mono (fun _ _ h=>h) h'))
  ·exact .inr ⟨h1,a',w',h2⟩
 ·rename_i hw
  rw [if_neg hw] at h'
  exact h'
theorem WA.keep {i:Nat} (h1:C w) (h2:WA P l Q f C fuel (listed.setIfInBounds i true) a w) :
 Halt_ (∃ C':World→Prop,((listed.setIfInBounds i true).getD f false=false→(∀ w,C' w→C w)∧C' w)∧WA P l Q f C' fuel (listed.setIfInBounds i true) a w):=⟨C,fun _=>⟨fun _ h=>h,h1⟩,h2⟩
theorem WA.past {i:Nat} (hb:(listed.setIfInBounds i true).getD f false=true) (h2:WA P l Q f (fun _=>True) fuel (listed.setIfInBounds i true) a w) :
 Halt_ (∃ C':World→Prop,((listed.setIfInBounds i true).getD f false=false→(∀ w,C' w→C w)∧C' w)∧WA P l Q f C' fuel (listed.setIfInBounds i true) a w):=⟨fun _=>True,fun h=>(by rw [hb] at h;cases h),h2⟩
theorem WA.ext {i:Nat} (h1:∀ x:Ext w,C x.val) (h2:WA P l Q f (fun w'=>∃ x:Ext w,w'=x.val) fuel (listed.setIfInBounds i true) a w) :
 Halt_ (∃ C':World→Prop,((listed.setIfInBounds i true).getD f false=false→(∀ w,C' w→C w)∧C' w)∧WA P l Q f C' fuel (listed.setIfInBounds i true) a w):=
 ⟨fun w'=>∃ x:Ext w,w'=x.val,fun _=>⟨fun _ ⟨x,hx⟩=>hx ▸ h1 x,Ext.of (Upd.refl _ _)⟩,h2⟩
end
end L
end Go.Proofs.YtjclbjdkkdijbaaGreat
