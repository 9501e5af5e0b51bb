/- A law for regions that draw their order: one walk serves every order. No program is named. Conditions: none. -/
import Derived.Test.YtjclbjdkkdijbaaGreatLib
set_option linter.unusedVariables false
set_option linter.unusedSimpArgs false
set_option linter.unusedSectionVars false
open Go.RowKit
namespace Go.Proofs.YtjclbjdkkdijbaaGreat
namespace L
section
variable {P:Program} {ops:Array Oper} {Q:Exit→Act→World→Prop} {C:World→Prop}

def still_:Op→Bool
 | .move _ | .assign _ | .pick .. | .load .. | .nilCheck _ | .binOp .. | .unOp .. | .fieldAddr .. | .field .. | .indexAddr .. | .index .. | .extract .. | .slice .. | .convert .. | .build ..=>true
 | .call { callee:=.builtin b,.. }=>match b with | .len | .cap | .max | .min=>true|_=>false
 | _=>false
def waits (ops:Array Oper):Nat→Nat→Nat→Bool
 | 0,_,_=>false
 | n+1,j,r=>match ops[j]? with
  | none=>false
  | some o=>o.after.any fun e=>Region.binds .any e && (e.on == r || waits ops n e.on r)
def Closed (ops:Array Oper) (listed:Array Bool):Prop:=
 listed.size=ops.size∧∀ (j:Nat) (oj:Oper),ops[j]?=some oj→listed.getD j false=true→∀ e∈oj.after,Region.binds .any e=true→listed.getD e.on false=true
theorem Closed.waits {listed:Array Bool} (h:Closed ops listed):∀ (n j r:Nat),waits ops n j r=true→listed.getD j false=true→listed.getD r false=true
 | 0,_,_,hw,_=>by simp [L.waits] at hw
 | n+1,j,r,hw,hl=>by
  unfold L.waits at hw
  cases ho:ops[j]? with
  | none=>rw [ho] at hw;simp at hw
  | some o=>
   rw [ho] at hw
   obtain ⟨e,he,hb⟩:=Array.any_eq_true'.1 hw
   simp only [Bool.and_eq_true,Bool.or_eq_true,beq_iff_eq] at hb
   have h1:=h.2 j o ho hl e he hb.1
   rcases hb.2 with h2|h2
   ·rw [←h2];exact h1
   ·exact h.waits n e.on r h2 h1
theorem Closed.set {i:Nat} {listed:Array Bool} (h:Closed ops listed) (hi:i∈Region.ready .any ops listed):Closed ops (listed.setIfInBounds i true):=by
 obtain ⟨_,oi,hoi,hall⟩:=mem_ready.1 hi
 refine ⟨by simp [h.1],fun j oj hj hl e he hb=>?_⟩
 by_cases hij:i=j
 ·subst hij
  have:oj=oi:=Option.some.inj (hj.symm.trans hoi)
  subst this
  exact getD_set_true (hall e he hb)
 ·rw [getD_set_ne false hij] at hl
  exact getD_set_true (h.2 j oj hj hl e he hb)
theorem Closed.init:Closed ops (Array.replicate ops.size false):=by
 refine ⟨by simp,fun j oj hj hl=>?_⟩
 rcases Nat.lt_or_ge j ops.size with h|h <;> simp [h] at hl

theorem getD_both {listed:Array Bool} {i:Nat} (h:listed.getD i true=false):listed.getD i false=false:=by
 rcases Nat.lt_or_ge i listed.size with h'|h'
 ·simp [h'] at h ⊢;exact h
 ·simp [Array.getElem?_eq_none h'] at h
def Hold (f:Nat) (C:World→Prop) (listed:Array Bool) (w:World):Prop:=listed.getD f false=false→C w
def wpAnyS (P:Program) (ops:Array Oper) (Q:Exit→Act→World→Prop) (f:Nat) (C:World→Prop):Nat→Array Bool→Act→World→Prop
 | 0,listed,a,w=>Region.ready .any ops listed=[]∧Q .normal a w
 | fuel+1,listed,a,w=>
  (Region.ready .any ops listed=[]→Q .normal a w) ∧
  ∀ i∈Region.ready .any ops listed,wpOp P ops Q i (fun a' w'=>Hold f C (listed.setIfInBounds i true) w'∧wpAnyS P ops Q f C fuel (listed.setIfInBounds i true) a' w') a w
theorem wpAny_of_S {f:Nat}:∀ (fuel:Nat) (listed:Array Bool) (a:Act) (w:World),wpAnyS P ops Q f C fuel listed a w→wpAny P .any ops Q fuel listed a w
 | 0,_,_,_,h=>h
 | fuel+1,_,_,_,h=>⟨h.1,fun i hi=>wpOp_mono (fun a' w' h'=>wpAny_of_S fuel _ a' w' h'.2) (h.2 i hi)⟩
theorem wpAnyS_first {i f n:Nat} {oi:Oper} {v:Value} {D:World→Prop} (hi:ops[i]?=some oi) (hsel:∀ (j:Nat) (o:Oper) cs b,ops[j]?=some o→o.op≠.select cs b)
 (hQ:∀ c a w,Q (.panic c) (a.put oi.dst v) w→Q (.panic c) a w) (hif:i≠f) (hD:(∀ w,D w)∨(D=C∧waits ops n f i=true)∨(D=C∧ops.size≤f)) :
 ∀ (fuel:Nat) (listed:Array Bool) (a:Act) (w:World),Closed ops listed →
  (∀ j oj,ops[j]?=some oj→j≠i→listed.getD j true=false→(∀ e∈oj.after,Region.binds .any e=true→e.on≠i)→oi.apart ops oj=true) →
  i∈Region.ready .any ops listed→YieldsIf P ops D oi v a→Hold f C listed w →
  wpAnyS P ops Q f C fuel (listed.setIfInBounds i true) (a.put oi.dst v) w→wpAnyS P ops Q f C (fuel+1) listed a w:=by
 have key:∀ (listed:Array Bool) (w:World),Closed ops listed→listed.getD i false=false→Hold f C listed w→D w:=by
  intro listed w hcl hun hH
  rcases hD with h|⟨rfl,h⟩|⟨rfl,h⟩
  ·exact h w
  ·refine hH ?_
   cases hl:listed.getD f false with
   | false=>rfl
   | true=>have:=hcl.waits n f i h hl;rw [hun] at this;cases this
  ·exact hH (by simp [hcl.1,Array.getD,Nat.not_lt.2 h])
 intro fuel
 induction fuel with
 | zero=>
  intro listed a w hcl _ hr hy hS H
  have hun:=getD_both (mem_ready.1 hr).1
  refine ⟨fun h=>(by rw [h] at hr;cases hr),fun j hj=>?_⟩
  by_cases hji:j=i
  ·subst hji;exact hy.wpOp hi (key _ _ hcl hun hS) ⟨fun h=>hS (by rw [getD_set_ne false hif] at h;exact h),H⟩
  ·have:=ready_mono hj hji
   rw [H.1] at this
   cases this
 | succ fuel ih=>
  intro listed a w hcl hfree hr hy hS H
  have hun:=getD_both (mem_ready.1 hr).1
  refine ⟨fun h=>(by rw [h] at hr;cases hr),fun j hj=>?_⟩
  by_cases hji:j=i
  ·subst hji;exact hy.wpOp hi (key _ _ hcl hun hS) ⟨fun h=>hS (by rw [getD_set_ne false hif] at h;exact h),H⟩
  ·have h1:=H.2 j (ready_mono hj hji)
   obtain ⟨hjun,oj,hoj,hall⟩:=mem_ready.1 hj
   have hnot:∀ e∈oj.after,Region.binds .any e=true→e.on≠i:=fun e he hb heq=>by
    have h1:=hall e he hb
    rw [heq,hun] at h1
    cases h1
   have h2:=wpOp_putIf hoj (hfree j oj hoj hji hjun hnot) (fun cs b=>hsel i oi cs b hi) (fun cs b=>hsel j oj cs b hoj) hQ hy h1
   have hfree':∀ k ok,ops[k]?=some ok→k≠i→(listed.setIfInBounds j true).getD k true=false →
    (∀ e∈ok.after,Region.binds .any e=true→e.on≠i)→oi.apart ops ok=true:=fun k ok hk hki hun hno=>by
    refine hfree k ok hk hki ?_ hno
    by_cases hjk:j=k
    ·subst hjk;exact hjun
    ·rw [getD_set_ne true hjk] at hun;exact hun
   have hcl':=hcl.set hj
   refine wpOp_mono (fun a' w' h3=>?_) h2
   have hH:Hold f C (listed.setIfInBounds j true) w':=fun h=>h3.2.1 (by rw [Array.setIfInBounds_comm _ _ (Ne.symm hji),getD_set_ne false hif];exact h)
   refine ⟨hH,ih (listed.setIfInBounds j true) a' w' hcl' hfree' (ready_mono hr (Ne.symm hji)) h3.1 hH ?_⟩
   rw [Array.setIfInBounds_comm _ _ hji]
   exact h3.2.2

def mov (P:Program) (ops:Array Oper) (D:World→Prop) (o:Oper) (K:Act→Prop) (a:Act):Prop:=
 if Region.wanted o (yielded ops a.tmps) then ∃ v,(∀ w,D w→(execOp a.eval o).run P w=.ok (.value v) w)∧K (a.put o.dst v) else K (a.put o.dst undef)
def wpOrd (P:Program) (ops:Array Oper) (Q:Exit→Act→World→Prop) (f:Nat) (C:World→Prop) (M R:List Nat):Bool→List Nat→Act→World→Prop
 | _,[],a,w=>Q .normal a w
 | b,i::r,a,w=>match ops[i]? with
  | none=>False
  | some o=>
   if M.contains i then mov P ops (fun w=>R.contains i=true→C w) o (fun a'=>wpOrd P ops Q f C M R b r a' w) a
   else wpOp P ops Q i (fun a' w'=>((b && i != f)=true→C w')∧wpOrd P ops Q f C M R (b && i != f) r a' w') a w
def okOrd (ops:Array Oper) (f n:Nat) (M R:List Nat):List Nat→Array Bool→Bool
 | [],listed=>(Region.ready .any ops listed).isEmpty
 | i::r,listed=>
  (if M.contains i then (Region.ready .any ops listed).contains i && Region.free .any ops listed i && i != f && (!R.contains i || waits ops n f i || decide (ops.size≤f))
   else decide (Region.ready .any ops listed=[i])) && okOrd ops f n M R r (listed.setIfInBounds i true)
theorem wpAnyS_ord {f n:Nat} {M R:List Nat} (hsel:∀ (j:Nat) (o:Oper) cs b,ops[j]?=some o→o.op≠.select cs b) (hQ:∀ c (a a':Act) w,Q (.panic c) a w→Q (.panic c) a' w) :
 ∀ (ord:List Nat) (b:Bool) (listed:Array Bool) (a:Act) (w:World),Closed ops listed→(listed.getD f false=false→b=true)→okOrd ops f n M R ord listed=true→Hold f C listed w →
  wpOrd P ops Q f C M R b ord a w→wpAnyS P ops Q f C ord.length listed a w
 | [],_,listed,a,w,_,_,hB,_,h=>⟨by simpa [okOrd] using hB,h⟩
 | i::r,b,listed,a,w,hcl,hb,hB,hH,h=>by
  unfold okOrd at hB
  rw [Bool.and_eq_true] at hB
  obtain ⟨hB1,hB2⟩:=hB
  unfold wpOrd at h
  cases ho:ops[i]? with
  | none=>rw [ho] at h;exact h.elim
  | some o=>
   rw [ho] at h
   simp only at h
   by_cases hM:M.contains i=true
   ·rw [if_pos hM] at h hB1
    simp only [Bool.and_eq_true,Bool.or_eq_true,bne_iff_ne,ne_eq,Bool.not_eq_true',decide_eq_true_eq] at hB1
    obtain ⟨⟨⟨hr,hf⟩,hif⟩,hR⟩:=hB1
    have hr':i∈Region.ready .any ops listed:=by simpa using hr
    obtain ⟨v,hy,hK⟩:∃ v,YieldsIf P ops (fun w=>R.contains i=true→C w) o v a∧wpOrd P ops Q f C M R b r (a.put o.dst v) w:=by
     unfold mov at h
     by_cases hw:Region.wanted o (yielded ops a.tmps)=true
     ·rw [if_pos hw] at h
      obtain ⟨v,h1,h2⟩:=h
      exact ⟨v,.inl ⟨hw,h1⟩,h2⟩
     ·rw [if_neg hw] at h
      exact ⟨undef,.inr ⟨by simpa using hw,rfl⟩,h⟩
    have hcl':=hcl.set hr'
    have hlf:(listed.setIfInBounds i true).getD f false=listed.getD f false:=getD_set_ne false hif
    have H:=wpAnyS_ord hsel hQ r b (listed.setIfInBounds i true) (a.put o.dst v) w hcl' (by rw [hlf];exact hb) hB2 (fun h=>hH (by rw [hlf] at h;exact h)) hK
    refine wpAnyS_first (n:=n) (D:=fun w=>R.contains i=true→C w) ho hsel (fun c a w h=>hQ c _ _ w h) hif ?_ r.length listed a w hcl (Region.free_spec ho hf) hr' hy hH H
    by_cases hRi:R.contains i=true
    ·refine .inr ?_
     have e:(fun w=>R.contains i=true→C w)=C:=funext fun w=>propext ⟨fun h=>h hRi,fun h _=>h⟩
     rcases hR with (hR|hR)|hR
     ·rw [hRi] at hR;cases hR
     ·exact .inl ⟨e,hR⟩
     ·exact .inr ⟨e,hR⟩
    ·exact .inl fun w h=>absurd h hRi
   ·rw [if_neg hM] at h hB1
    have hr:Region.ready .any ops listed=[i]:=by simpa using hB1
    refine ⟨fun h0=>(by rw [hr] at h0;cases h0),fun j hj=>?_⟩
    rw [hr] at hj
    have hji:j=i:=by simpa using hj
    subst hji
    have hr':j∈Region.ready .any ops listed:=by rw [hr];simp
    have hcl':=hcl.set hr'
    have hjs:j<ops.size:=(Array.getElem?_eq_some_iff.1 ho).1
    have hbf:(listed.setIfInBounds j true).getD f false=false→(b && j != f)=true:=by
     intro h0
     by_cases hjf:j=f
     ·subst hjf
      have hs:j<listed.size:=by rw [hcl.1];exact hjs
      simp [hs] at h0
     ·rw [getD_set_ne false hjf] at h0
      simp [hb h0,hjf]
    refine wpOp_mono (fun a' w' h3=>?_) h
    exact ⟨fun h0=>h3.1 (hbf h0),wpAnyS_ord hsel hQ r _ _ a' w' hcl' hbf hB2 (fun h0=>h3.1 (hbf h0)) h3.2⟩

theorem wp_region_ord {id:Nat} {a:Act} {w:World} {l:List Oper} (f n:Nat) (M R ord:List Nat) (C:World→Prop) (hm:P.follows .mixedOrders=true)
 (hB:(Region.noSelect l.toArray && okOrd l.toArray f n M R ord (Array.replicate l.toArray.size false) && decide (ord.length=l.toArray.size))=true) (hC:C w.drew)
 (h:wpOrd P l.toArray (NoPanic Q) f C M R true ord a w.drew):(Code.region id l.toArray true).wp P Q a w:=by
 simp only [Bool.and_eq_true,decide_eq_true_eq] at hB
 refine wp_region_noPanic (wp_region_any hm (wpAny_of_S (f:=f) (C:=C) _ _ _ _ ?_))
 have H:=wpAnyS_ord (Q:=NoPanic Q) (Region.noSelect_spec hB.1.1) (fun _ _ _ _ h=>h.elim) ord true _ a w.drew Closed.init (fun _=>rfl) hB.1.2 (fun _=>hC) h
 rw [hB.2] at H
 exact H

theorem run_v {ρ:Sem Value} {w w':World} {n:Next} (h:(do pure (Next.value (←ρ)):Sem Next).run P w=.ok n w'):∃ x,n=.value x:=by
 rw [Sem.run_bind] at h
 cases hr:Sem.run P ρ w with
 | ok x w1=>rw [hr] at h;simp only [Result.andThen_ok,Sem.run_pure,Result.ok.injEq] at h;exact ⟨x,h.1.symm⟩
 | halt x w1=>rw [hr] at h;simp [Result.andThen] at h
theorem still_value {o:Oper} {ρ:Operand→Value} {w w':World} {n:Next} (hs:still_ o.op=true) (h:(execOp ρ o).run P w=.ok n w'):∃ x,n=.value x:=by
 unfold execOp at h
 cases ho:o.op <;> rw [ho] at h hs <;> simp only [still_] at hs <;> try (cases hs;done)
 case nilCheck x=>
  simp only at h
  split at h <;> try (simp [runtimePanic,goPanic,go_sem] at h;done)
  ·split at h <;> try (simp [runtimePanic,goPanic,go_sem] at h;done)
   ·simp only [Sem.run_bind] at h
    cases hr:Sem.run P program w with
    | halt x w1=>rw [hr] at h;simp [Result.andThen] at h
    | ok x w1=>
     rw [hr] at h
     simp only [Result.andThen_ok] at h
     generalize Sem.run P (nilAhead _ _ _ _) w1=r at h
     cases r with
     | halt x w1=>simp [Result.andThen] at h
     | ok x w1=>
      simp only [Result.andThen_ok] at h
      split at h
      ·simp [unsupported] at h
      ·simp only [Sem.run_pure,Result.ok.injEq] at h;exact ⟨_,h.1.symm⟩
   ·simp only [Sem.run_pure,Result.ok.injEq] at h;exact ⟨_,h.1.symm⟩
  ·simp only [Sem.run_pure,Result.ok.injEq] at h;exact ⟨_,h.1.symm⟩
 case call c=>
  obtain ⟨callee,args,tys⟩:=c
  cases callee <;> simp only [still_] at hs <;> try (cases hs;done)
  rename_i b
  cases b <;> simp only at hs <;> try (cases hs;done)
  all_goals
   simp only [resolve,invoke,builtin] at h
   exact run_v h
 case pick c a b=>
  simp only [Sem.run_bind] at h
  generalize Sem.run P (asBool _) w=r at h
  cases r with
  | halt x w1=>simp [Result.andThen] at h
  | ok x w1=>simp only [Result.andThen_ok,Sem.run_pure,Result.ok.injEq] at h;exact ⟨_,h.1.symm⟩
 all_goals first|exact run_v h|(simp only [Sem.run_pure,Result.ok.injEq] at h;exact ⟨_,h.1.symm⟩)
theorem mov_of_quiet {o:Oper} {D:World→Prop} {K:Act→Prop} {a:Act} (hs:still_ o.op=true) (h:wpQuiet P ops D K [o] a):mov P ops D o K a:=by
 unfold mov
 unfold wpQuiet at h
 split at h
 ·rename_i hw
  rw [if_pos hw]
  obtain ⟨v,h1,h2⟩:=h
  refine ⟨v,fun w hD=>?_,h2⟩
  have h3:=h1 w hD
  unfold Oper.quietAt at h3
  cases hr:(execOp a.eval o).run P w with
  | halt x w'=>rw [hr] at h3;exact h3.elim
  | ok n w'=>
   obtain ⟨x,rfl⟩:=still_value hs hr
   rw [hr] at h3
   obtain ⟨rfl,rfl⟩:=h3
   rfl
 ·rename_i hw
  rw [if_neg hw]
  exact h
theorem Oper.wp_thenQ' {o:Oper} {a:Act} {w:World} {K K':Act→World→Prop} (h:o.wp P a w K' (Exit.then K Q)):o.wp P a w K' Q:=by
 unfold Oper.wp at *
 generalize (execOp a.eval o).run P w=r at *
 cases r with
 | ok n w'=>
  cases n <;> simp only [Oper.upon] at h ⊢ <;>
   first
    | exact h
    | exact Calls.mono h (fun e w'' he=>by cases e <;> first|exact he|(obtain ⟨a,w,h⟩:=he;exact ⟨a,w,h⟩))
 | halt x w'=>cases x <;> simp only [Oper.upon] at h ⊢ <;> exact h
theorem wpList_thenMono {K K':Act→World→Prop} (hK:∀ a w,K a w→K' a w):∀ {l:List Oper} {a:Act} {w:World},wpList P ops (Exit.then K Q) l a w→wpList P ops (Exit.then K' Q) l a w
 | [],a,w,h=>by simpa [wpList,Exit.then] using hK _ _ (by simpa [wpList,Exit.then] using h)
 | o::l,a,w,h=>by
  unfold wpList at h ⊢
  split
  ·rename_i hw
   rw [if_pos hw] at h
   rcases h with h|⟨h1,a',w',h2⟩
   ·refine .inl ?_
    have h3:=Oper.wp_mono (fun a w hh=>wpList_thenMono hK (l:=l) (a:=a) (w:=w) hh) h
    unfold Oper.wp at *
    generalize (execOp a.eval o).run P w=r at *
    cases r with
    | ok n w'=>
     cases n <;> simp only [Oper.upon] at h3 ⊢ <;>
      first
       | exact h3
       | exact Calls.mono h3 (fun e w'' he=>by cases e <;> first|exact he|(obtain ⟨a,w,h⟩:=he;exact ⟨a,w,h⟩))
    | halt x w'=>cases x <;> simp only [Oper.upon] at h3 ⊢ <;> exact h3
   ·exact .inr ⟨h1,a',w',h2⟩
  ·rename_i hw
   rw [if_neg hw] at h
   exact wpList_thenMono hK h
theorem wpList_cut:∀ (n:Nat) {l:List Oper} {a:Act} {w:World},
 (∀ K:Act→World→Prop,(∀ a w,wpList P ops Q (l.drop n) a w→K a w)→wpList P ops (Exit.then K Q) (l.take n) a w)→wpList P ops Q l a w
 | 0,l,a,w,h=>by
  have:=h (wpList P ops Q l) (fun _ _ h=>by simpa using h)
  simpa [wpList,Exit.then] using this
 | n+1,[],a,w,h=>by
  have:=h (wpList P ops Q []) (fun _ _ h=>by simpa using h)
  simpa [wpList,Exit.then] using this
 | n+1,o::l,a,w,h=>by
  have h':=h (wpList P ops Q (l.drop n)) (fun _ _ h=>by simpa using h)
  simp only [List.take_succ_cons] at h'
  have key:∀ a w,wpList P ops (Exit.then (wpList P ops Q (l.drop n)) Q) (l.take n) a w→wpList P ops Q l a w:=fun a w hh=>
   wpList_cut n (a:=a) (w:=w) fun K hK=>wpList_thenMono hK hh
  unfold wpList at h' ⊢
  split
  ·rename_i hw
   rw [if_pos hw] at h'
   rcases h' with h'|⟨h1,a',w',h2⟩
   ·exact .inl (Oper.wp_mono key (Oper.wp_thenQ' h'))
   ·exact .inr ⟨h1,a',w',h2⟩
  ·rename_i hw
   rw [if_neg hw] at h'
   exact key _ _ h'
def Halt_ (p:Prop):Prop:=p
theorem Halt_.intro {p:Prop} (h:p):Halt_ p:=h
theorem wpList_cutH (n:Nat) {l:List Oper} {a:Act} {w:World} (h:∀ K:Act→World→Prop,(∀ a w,Halt_ (wpList P ops Q (l.drop n) a w)→K a w)→wpList P ops (Exit.then K Q) (l.take n) a w):wpList P ops Q l a w:=wpList_cut n h
def nth {α:Type}:List α→Nat→Option α
 | [],_=>none
 | x::_,0=>some x
 | _::l,n+1=>nth l n
theorem nth_eq {α:Type}:∀ (l:List α) (i:Nat),nth l i=l[i]?
 | [],i=>by simp [nth]
 | x::l,0=>by simp [nth]
 | x::l,n+1=>by simp [nth,nth_eq l n]
section
variable {f:Nat} {M R r:List Nat} {b:Bool} {a:Act} {w:World} {i:Nat} {o:Oper} {l:List Oper}
theorem wpOrd_load (ho':nth l i=some o) (hM:M.contains i=true) (hR:R.contains i=true) (hs:still_ o.op=true)
 (h:∀ K:Act→Prop,(∀ a,wpOrd P l.toArray Q f C M R b r a w→K a)→wpQuiet P l.toArray C K [o] a):wpOrd P l.toArray Q f C M R b (i::r) a w:=by
 have ho:l.toArray[i]?=some o:=by rw [←ho',nth_eq];simp
 unfold wpOrd
 rw [ho]
 simp only [hM,if_true]
 have e:(fun w=>R.contains i=true→C w)=C:=funext fun w=>propext ⟨fun h=>h hR,fun h _=>h⟩
 rw [e]
 exact mov_of_quiet hs (h _ fun _ h=>h)
theorem wpOrd_free (ho':nth l i=some o) (hM:M.contains i=true) (hs:still_ o.op=true)
 (h:∀ K:Act→Prop,(∀ a,wpOrd P l.toArray Q f C M R b r a w→K a)→wpQuiet P l.toArray (fun _=>True) K [o] a):wpOrd P l.toArray Q f C M R b (i::r) a w:=by
 have ho:l.toArray[i]?=some o:=by rw [←ho',nth_eq];simp
 unfold wpOrd
 rw [ho]
 simp only [hM,if_true]
 have h':=mov_of_quiet hs (h _ fun _ h=>h)
 unfold mov at h' ⊢
 split
 ·rename_i hw
  rw [if_pos hw] at h'
  obtain ⟨v,h1,h2⟩:=h'
  exact ⟨v,fun w _=>h1 w trivial,h2⟩
 ·rename_i hw
  rw [if_neg hw] at h'
  exact h'
theorem Oper.wp_thenQ {K:Act→World→Prop} (h:o.wp P a w K (Exit.then K Q)):o.wp P a w K Q:=Oper.wp_thenQ' h
theorem wpOrd_fix (ho':nth l i=some o) (hM:M.contains i=false)
 (h:∀ K:Act→World→Prop,(∀ a w,(((b && i != f)=true→C w)∧wpOrd P l.toArray Q f C M R (b && i != f) r a w)→K a w)→wpList P l.toArray (Exit.then K Q) [o] a w) :
 wpOrd P l.toArray Q f C M R b (i::r) a w:=by
 have ho:l.toArray[i]?=some o:=by rw [←ho',nth_eq];simp
 unfold wpOrd
 rw [ho]
 simp only [hM,Bool.false_eq_true,if_false]
 have h':=h _ fun _ _ h=>h
 unfold wpOp
 rw [ho]
 simp only
 unfold wpList at h'
 split
 ·rename_i hw
  rw [if_pos hw] at h'
  rcases h' with h'|⟨h1,a',w',h2⟩
  ·refine .inl (Oper.wp_thenQ (Oper.wp_mono (fun _ _ h=>h) h'))
  ·exact .inr ⟨h1,a',w',h2⟩
 ·rename_i hw
  rw [if_neg hw] at h'
  exact h'
theorem wpOrd_nil (h:Q .normal a w):wpOrd P l.toArray (NoPanic Q) f C M R b [] a w:=h
end
end
attribute [irreducible] wpOrd mov
end L
end Go.Proofs.YtjclbjdkkdijbaaGreat
