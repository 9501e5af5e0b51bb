/- Regular expressions as plain data: what normal forms keep, two ways of deriving, sizes. No program is named. Conditions: none. -/
import Derived.Test.YtjclbjdkkdijbaaGreatRxP
set_option linter.unusedVariables false
set_option linter.unusedSimpArgs false
set_option linter.unusedSectionVars false
open Go.RowKit
namespace Go.Proofs.YtjclbjdkkdijbaaGreat
open L
namespace Rgx
open Rx
def Inc (l:List Rx):Prop:=l.Pairwise fun a b=>ltR a b=true
theorem ltR_ne {a b:Rx} (h:ltR a b=true):a≠b:=fun e=>by subst e;rw [ltR_irr] at h;cases h
theorem inc_unique:∀ {l1 l2:List Rx},Inc l1→Inc l2→(∀ x,x∈l1↔x∈l2)→l1=l2
 | [],[],_,_,_=>rfl
 | [],y::l2,_,_,h=>by have:=(h y).2 (by simp);simp at this
 | x::l1,[],_,_,h=>by have:=(h x).1 (by simp);simp at this
 | x::l1,y::l2,h1,h2,h=>by
  obtain ⟨a1,a2⟩:=List.pairwise_cons.1 h1
  obtain ⟨b1,b2⟩:=List.pairwise_cons.1 h2
  have e:x=y:=by
   rcases List.mem_cons.1 ((h x).1 (by simp)) with e|hx
   ·exact e
   ·rcases List.mem_cons.1 ((h y).2 (by simp)) with e|hy
    ·exact e.symm
    ·exact absurd rfl (ltR_ne (ltR_tr (a1 y hy) (b1 x hx)))
  subst e
  congr 1
  refine inc_unique a2 b2 (fun z=>?_)
  constructor
  ·intro hz
   rcases List.mem_cons.1 ((h z).1 (by simp [hz])) with e|h3
   ·exact absurd e.symm (ltR_ne (a1 z hz))
   ·exact h3
  ·intro hz
   rcases List.mem_cons.1 ((h z).2 (by simp [hz])) with e|h3
   ·exact absurd e.symm (ltR_ne (b1 z hz))
   ·exact h3
theorem putR_mem (n x:Rx):∀ l,x∈putR l n↔x∈l∨x=n
 | []=>by simp [putR]
 | y::l=>by
  unfold putR
  split
  ·rw [List.mem_cons,putR_mem n x l,List.mem_cons,or_assoc]
  ·split
   ·rename_i h
    subst h
    constructor
    ·exact .inl
    ·rintro (h|h)
     ·exact h
     ·rw [h];simp
   ·rw [List.mem_cons,or_comm]
theorem putR_inc (n:Rx):∀ {l:List Rx},Inc l→Inc (putR l n)
 | [],_=>by simp [putR,Inc]
 | y::l,h=>by
  obtain ⟨h1,h2⟩:=List.pairwise_cons.1 h
  unfold putR
  split
  ·rename_i hy
   refine List.pairwise_cons.2 ⟨fun z hz=>?_,putR_inc n h2⟩
   rcases (putR_mem n z l).1 hz with hz|hz
   ·exact h1 z hz
   ·rw [hz];exact hy
  ·split
   ·exact h
   ·rename_i ha hb
    have hny:ltR n y=true:=by
     rcases ltR_tri y n with h3|h3|h3
     ·exact absurd h3 ha
     ·exact absurd h3 hb
     ·exact h3
    refine List.pairwise_cons.2 ⟨fun z hz=>?_,h⟩
    rcases List.mem_cons.1 hz with hz|hz
    ·rw [hz];exact hny
    ·exact ltR_tr hny (h1 z hz)
theorem foldR_spec:∀ (r:List Rx) {l:List Rx},Inc l→Inc (r.foldl putR l)∧∀ x,x∈r.foldl putR l↔x∈l∨x∈r
 | [],l,h=>⟨h,fun x=>by simp⟩
 | y::r,l,h=>by
  obtain ⟨h1,h2⟩:=foldR_spec r (putR_inc y h)
  refine ⟨h1,fun x=>?_⟩
  rw [List.foldl_cons,h2 x,putR_mem,List.mem_cons,or_assoc]
theorem sortR_inc (l:List Rx):Inc (sortR l):=(foldR_spec l (l:=[]) .nil).1
theorem sortR_mem (l:List Rx) (x:Rx):x∈sortR l↔x∈l:=by unfold sortR;rw [(foldR_spec l (l:=[]) .nil).2 x];simp
theorem sortR_eq {l m:List Rx} (h:Inc m) (hm:∀ x,x∈m↔x∈l):sortR l=m:=inc_unique (sortR_inc l) h fun x=>(sortR_mem l x).trans (hm x).symm
inductive NF:Rx→Prop where
 | none:NF (nd 0 0 0 [])
 | empty:NF (nd 1 0 0 [])
 | range (lo hi:Int):lo≤hi→0≤lo→hi≤255→NF (nd 2 lo hi [])
 | cat (ks:List Rx):2≤ks.length→(∀ r∈ks,NF r)→(∀ r∈ks,r.kind≠3∧r≠nd 0 0 0 []∧r≠nd 1 0 0 [])→NF (nd 3 0 0 ks)
 | alt (ks:List Rx):2≤ks.length→(∀ r∈ks,NF r)→(∀ r∈ks,r.kind≠4∧r≠nd 0 0 0 []∧r≠rAll)→Inc ks→NF (nd 4 0 0 ks)
 | all (ks:List Rx):2≤ks.length→(∀ r∈ks,NF r)→(∀ r∈ks,r.kind≠5∧r≠nd 0 0 0 []∧r≠rAll)→Inc ks→NF (nd 5 0 0 ks)
 | not (x:Rx):NF x→x.kind≠6→NF (nd 6 0 0 [x])
 | star (x:Rx):NF x→x.kind≠0→x.kind≠1→x.kind≠7→x≠rAll→NF (nd 7 0 0 [x])
theorem NF.rNone:NF rNone:=.none
theorem NF.rEmpty:NF rEmpty:=.empty
theorem NF.rAll:NF rAll:=.not _ .none (by decide)
theorem flat_mem {k:Int} {ks:List Rx} {x:Rx}:x∈flat k ks↔∃ r∈ks,(r.kind=k∧x∈r.kids)∨(r.kind≠k∧x=r):=by
 unfold flat
 rw [List.mem_flatMap]
 constructor
 ·rintro ⟨r,hr,h⟩
  refine ⟨r,hr,?_⟩
  split at h
  ·rename_i h1;exact .inl ⟨h1,h⟩
  ·rename_i h1;exact .inr ⟨h1,by simpa using h⟩
 ·rintro ⟨r,hr,h⟩
  refine ⟨r,hr,?_⟩
  rcases h with ⟨h1,h2⟩|⟨h1,h2⟩
  ·rw [if_pos h1];exact h2
  ·rw [if_neg h1,h2];simp
theorem NF.kids {r:Rx} (h:NF r):∀ x∈r.kids,NF x:=by
 cases h <;> simp [Rx.kids] <;> assumption
theorem NF.kid_kind {r:Rx} (h:NF r) {k:Int} (hk:r.kind=k) (hk3:k=3∨k=4∨k=5):∀ x∈r.kids,x.kind≠k:=by
 cases h <;> simp only [Rx.kind,Rx.kids] at hk ⊢ <;> subst hk <;> first|(intro x hx;rename_i h1 h2 _;exact (h2 x hx).1)|(intro x hx;rename_i h1 h2;exact (h2 x hx).1)|omega
theorem flat_nf {k:Int} (hk:k=3∨k=4∨k=5) {ks:List Rx} (h:∀ r∈ks,NF r):∀ x∈flat k ks,NF x∧x.kind≠k:=by
 intro x hx
 obtain ⟨r,hr,h1⟩:=flat_mem.1 hx
 rcases h1 with ⟨h1,h2⟩|⟨h1,rfl⟩
 ·exact ⟨(h r hr).kids x h2,(h r hr).kid_kind h1 hk x h2⟩
 ·exact ⟨h x hr,h1⟩
def joinL (k:Int) (unit:Rx) (ks:List Rx):List Rx:=
 if k=3 then (flat k ks).filter fun r=>decide (r≠unit) else sortR ((flat k ks).filter fun r=>decide (r≠unit))
theorem joinL_mem {k:Int} {unit:Rx} {ks:List Rx} {x:Rx}:x∈joinL k unit ks↔x∈flat k ks∧x≠unit:=by
 unfold joinL
 split
 ·simp
 ·rw [sortR_mem];simp
def pickE (k:Int) (unit:Rx):List Rx→Rx
 | []=>unit
 | [x]=>x
 | l=>nd k 0 0 l
theorem joinE_eq (k:Int) (unit zero:Rx) (ks:List Rx) (hu:zero≠unit):joinE k unit zero ks=if zero∈flat k ks then zero else pickE k unit (joinL k unit ks):=by
 unfold joinE joinL
 simp only [List.mem_filter,decide_eq_true_eq,ne_eq]
 have e:(zero∈flat k ks∧¬ zero=unit)↔zero∈flat k ks:=⟨fun h=>h.1,fun h=>⟨h,hu⟩⟩
 simp only [e]
 split
 ·rfl
 ·generalize (if k=3 then (flat k ks).filter fun r=>decide ¬r=unit else sortR ((flat k ks).filter fun r=>decide ¬r=unit))=l
  match l with
  | []=>rfl
  | [_]=>rfl
  | _::_::_=>rfl
theorem pickE_cases {k:Int} {unit:Rx} {l:List Rx}:(l=[]∧pickE k unit l=unit)∨(∃ x,l=[x]∧pickE k unit l=x)∨(2≤l.length∧pickE k unit l=nd k 0 0 l):=by
 match l with
 | []=>exact .inl ⟨rfl,rfl⟩
 | [x]=>exact .inr (.inl ⟨x,rfl,rfl⟩)
 | x::y::l=>exact .inr (.inr ⟨by simp,rfl⟩)
theorem join_nf3 {ks:List Rx} (h:∀ r∈ks,NF r):NF (joinE 3 rEmpty rNone ks):=by
 rw [joinE_eq _ _ _ _ (by decide)]
 have hf:=flat_nf (k:=3) (by decide) h
 split
 ·exact .rNone
 ·rename_i hz
  rcases pickE_cases (k:=3) (unit:=rEmpty) (l:=joinL 3 rEmpty ks) with ⟨_,e⟩|⟨x,e1,e⟩|⟨h2,e⟩
  ·rw [e];exact .rEmpty
  ·rw [e];exact (hf x (joinL_mem.1 (by rw [e1];simp)).1).1
  ·rw [e]
   refine .cat _ h2 (fun r hr=>(hf r (joinL_mem.1 hr).1).1) fun r hr=>?_
   obtain ⟨h3,h4⟩:=joinL_mem.1 hr
   exact ⟨(hf r h3).2,fun e=>hz (by rw [show r=rNone from e] at h3;exact h3),h4⟩
theorem join_nf4 {ks:List Rx} (h:∀ r∈ks,NF r):NF (joinE 4 rNone rAll ks):=by
 rw [joinE_eq _ _ _ _ (by decide)]
 have hf:=flat_nf (k:=4) (by decide) h
 split
 ·exact .rAll
 ·rename_i hz
  rcases pickE_cases (k:=4) (unit:=rNone) (l:=joinL 4 rNone ks) with ⟨_,e⟩|⟨x,e1,e⟩|⟨h2,e⟩
  ·rw [e];exact .rNone
  ·rw [e];exact (hf x (joinL_mem.1 (by rw [e1];simp)).1).1
  ·rw [e]
   refine .alt _ h2 (fun r hr=>(hf r (joinL_mem.1 hr).1).1) (fun r hr=>?_) (sortR_inc _)
   obtain ⟨h3,h4⟩:=joinL_mem.1 hr
   exact ⟨(hf r h3).2,h4,fun e=>hz (by rw [←e];exact h3)⟩
theorem join_nf5 {ks:List Rx} (h:∀ r∈ks,NF r):NF (joinE 5 rAll rNone ks):=by
 rw [joinE_eq _ _ _ _ (by decide)]
 have hf:=flat_nf (k:=5) (by decide) h
 split
 ·exact .rNone
 ·rename_i hz
  rcases pickE_cases (k:=5) (unit:=rAll) (l:=joinL 5 rAll ks) with ⟨_,e⟩|⟨x,e1,e⟩|⟨h2,e⟩
  ·rw [e];exact .rAll
  ·rw [e];exact (hf x (joinL_mem.1 (by rw [e1];simp)).1).1
  ·rw [e]
   refine .all _ h2 (fun r hr=>(hf r (joinL_mem.1 hr).1).1) (fun r hr=>?_) (sortR_inc _)
   obtain ⟨h3,h4⟩:=joinL_mem.1 hr
   exact ⟨(hf r h3).2,fun e=>hz (by rw [show r=rNone from e] at h3;exact h3),h4⟩
def Fit (k lo hi:Int) (ks:List Rx):Prop:=
 ((k=0∨k=1)∧lo=0∧hi=0∧ks=[])∨(k=2∧lo≤hi∧0≤lo∧hi≤255∧ks=[])∨((k=3∨k=4∨k=5)∧lo=0∧hi=0)∨((k=6∨k=7)∧lo=0∧hi=0∧ks.length=1)
theorem form6 (lo hi:Int) (x:Rx):form (nd 6 lo hi [x])=if x.kind=6 then x.kids.headD rNone else nd 6 lo hi [x]:=by
 unfold form
 simp
theorem form7 (lo hi:Int) (x:Rx):form (nd 7 lo hi [x])=if x.kind=0∨x.kind=1 then rEmpty else if x.kind=7∨x=rAll then x else nd 7 lo hi [x]:=by
 unfold form
 simp
theorem form_nf {k lo hi:Int} {ks:List Rx} (hf:Fit k lo hi ks) (h:∀ r∈ks,NF r):NF (form (nd k lo hi ks)):=by
 rcases hf with ⟨h1,rfl,rfl,rfl⟩|⟨rfl,h1,h2,h3,rfl⟩|⟨h1,rfl,rfl⟩|⟨h1,rfl,rfl,hl⟩
 ·rcases h1 with rfl|rfl
  ·exact .none
  ·exact .empty
 ·exact .range lo hi h1 h2 h3
 ·rcases h1 with rfl|rfl|rfl
  ·exact join_nf3 h
  ·exact join_nf4 h
  ·exact join_nf5 h
 ·match ks,hl with
  | [x],_=>
  have hx:=h x (by simp)
  rcases h1 with rfl|rfl
  ·rw [form6]
   split
   ·rename_i h6
    cases hx <;> simp only [Rx.kind] at h6 <;> first|omega|skip
    simpa [Rx.kids] using ‹NF _›
   ·rename_i h6;exact .not x hx h6
  ·rw [form7]
   split
   ·exact .rEmpty
   ·split
    ·exact hx
    ·rename_i h1 h2
     exact .star x hx (fun e=>h1 (.inl e)) (fun e=>h1 (.inr e)) (fun e=>h2 (.inl e)) (fun e=>h2 (.inr e))
inductive Byt:Rx→Prop where
 | mk (k lo hi:Int) (ks:List Rx):0≤lo→lo≤255→0≤hi→hi≤255→(∀ r∈ks,Byt r)→Byt (nd k lo hi ks)
theorem proper_fit {k lo hi:Int} {ks:List Rx} (hb:0≤lo∧hi≤255) (h:proper (nd k lo hi ks)=true):Fit k lo hi ks∧∀ r∈ks,proper r=true:=by
 rw [proper,Bool.and_eq_true] at h
 obtain ⟨h1,h2⟩:=h
 unfold Fit
 split at h2
 ·rename_i hk
  have:ks=[]:=by simpa using h2
  subst this
  have:lo=0∧hi=0:=by
   rcases hk with rfl|rfl <;> simpa using h1
  exact ⟨.inl ⟨hk,this.1,this.2,rfl⟩,by simp⟩
 ·split at h2
  ·rename_i hk
   simp only [Bool.and_eq_true,decide_eq_true_eq,List.isEmpty_iff] at h2
   obtain ⟨rfl,h2⟩:=h2
   exact ⟨.inr (.inl ⟨hk,h2,hb.1,hb.2,rfl⟩),by simp⟩
  ·rename_i hk2
   have hlh:lo=0∧hi=0:=by
    have:(k == 2)=false:=by simpa using hk2
    simpa [this] using h1
   split at h2
   ·rename_i hk
    exact ⟨.inr (.inr (.inl ⟨hk,hlh⟩)),(properL_iff _).1 h2⟩
   ·split at h2
    ·rename_i hk
     rw [Bool.and_eq_true,decide_eq_true_eq] at h2
     exact ⟨.inr (.inr (.inr ⟨hk,hlh.1,hlh.2,h2.1⟩)),(properL_iff _).1 h2.2⟩
    ·cases h2
theorem fit_map {k lo hi:Int} {ks ms:List Rx} (h:Fit k lo hi ks) (hl:ms.length=ks.length):Fit k lo hi ms:=by
 unfold Fit at *
 have:ks=[]→ms=[]:=fun e=>List.eq_nil_of_length_eq_zero (by rw [hl,e];rfl)
 rcases h with ⟨h1,h2,h3,h4⟩|⟨h1,h2,h3,h4,h5⟩|h1|⟨h1,h2,h3,h4⟩
 ·exact .inl ⟨h1,h2,h3,this h4⟩
 ·exact .inr (.inl ⟨h1,h2,h3,h4,this h5⟩)
 ·exact .inr (.inr (.inl h1))
 ·exact .inr (.inr (.inr ⟨h1,h2,h3,by omega⟩))
theorem norm_nf:∀ (r:Rx),Byt r→proper r=true→NF (norm r):=by
 intro r
 induction r using Rx.ind with
 | h k lo hi ks ih=>
  intro hb h
  cases hb with
  | mk _ _ _ _ b1 b2 b3 b4 b5=>
  obtain ⟨h1,h2⟩:=proper_fit ⟨b1,b4⟩ h
  rw [norm,normL_map]
  refine form_nf (fit_map h1 (by simp)) fun r hr=>?_
  obtain ⟨x,hx,rfl⟩:=List.mem_map.1 hr
  exact ih x hx (b5 x hx) (h2 x hx)
theorem NF.proper {r:Rx} (h:NF r):proper r=true:=by
 induction h with
 | none=>rfl
 | empty=>rfl
 | range lo hi h1=>simp [Rgx.proper,h1]
 | cat ks _ _ _ ih=>simp [Rgx.proper,(properL_iff ks).2 ih]
 | alt ks _ _ _ _ ih=>simp [Rgx.proper,(properL_iff ks).2 ih]
 | all ks _ _ _ _ ih=>simp [Rgx.proper,(properL_iff ks).2 ih]
 | not x _ _ ih=>simp [Rgx.proper,properL,ih]
 | star x _ _ _ _ _ ih=>simp [Rgx.proper,properL,ih]
theorem NF.byt {r:Rx} (h:NF r):Byt r:=by
 induction h with
 | none=>exact .mk _ _ _ _ (by omega) (by omega) (by omega) (by omega) (by simp)
 | empty=>exact .mk _ _ _ _ (by omega) (by omega) (by omega) (by omega) (by simp)
 | range lo hi h1 h2 h3=>exact .mk _ _ _ _ (by omega) (by omega) (by omega) (by omega) (by simp)
 | cat ks _ _ _ ih=>exact .mk _ _ _ _ (by omega) (by omega) (by omega) (by omega) ih
 | alt ks _ _ _ _ ih=>exact .mk _ _ _ _ (by omega) (by omega) (by omega) (by omega) ih
 | all ks _ _ _ _ ih=>exact .mk _ _ _ _ (by omega) (by omega) (by omega) (by omega) ih
 | not x _ _ ih=>exact .mk _ _ _ _ (by omega) (by omega) (by omega) (by omega) (by simpa using ih)
 | star x _ _ _ _ _ ih=>exact .mk _ _ _ _ (by omega) (by omega) (by omega) (by omega) (by simpa using ih)
theorem derC_nf {c:Int}:∀ {ks:List Rx},(∀ r∈ks,NF r)→(∀ r∈ks,NF (der c r))→∀ r∈derC c ks,NF r
 | [],_,_,r,hr=>by simp [derC] at hr
 | k::l,h1,h2,r,hr=>by
  rw [derC] at hr
  rcases List.mem_cons.1 hr with rfl|hr
  ·refine form_nf (.inr (.inr (.inl ⟨.inl rfl,rfl,rfl⟩))) fun x hx=>?_
   rcases List.mem_cons.1 hx with rfl|hx
   ·exact h2 k (by simp)
   ·exact h1 x (by simp [hx])
  ·split at hr
   ·exact derC_nf (fun x hx=>h1 x (by simp [hx])) (fun x hx=>h2 x (by simp [hx])) r hr
   ·simp at hr
theorem der_nf {c:Int} {r:Rx} (h:NF r):NF (der c r):=by
 induction h with
 | none=>rw [der];simp;exact .rNone
 | empty=>rw [der];simp;exact .rNone
 | range lo hi h1 h2 h3=>
  rw [der,if_pos rfl]
  split
  ·exact .rEmpty
  ·exact .rNone
 | cat ks h1 h2 h3 ih=>
  rw [der,if_neg (by decide),if_pos rfl]
  exact form_nf (.inr (.inr (.inl ⟨.inr (.inl rfl),rfl,rfl⟩))) (derC_nf h2 ih)
 | alt ks h1 h2 h3 h4 ih=>
  rw [der,if_neg (by decide),if_neg (by decide),if_pos (by decide),derL_map]
  exact form_nf (.inr (.inr (.inl ⟨.inr (.inl rfl),rfl,rfl⟩))) (by simpa using ih)
 | all ks h1 h2 h3 h4 ih=>
  rw [der,if_neg (by decide),if_neg (by decide),if_pos (by decide),derL_map]
  exact form_nf (.inr (.inr (.inl ⟨.inr (.inr rfl),rfl,rfl⟩))) (by simpa using ih)
 | not x h1 h2 ih=>
  rw [der,if_neg (by decide),if_neg (by decide),if_pos (by decide),derL_map]
  exact form_nf (.inr (.inr (.inr ⟨.inl rfl,rfl,rfl,rfl⟩))) (by simpa using ih)
 | star x h1 h2 h3 h4 h5 ih=>
  rw [der,if_neg (by decide),if_neg (by decide),if_neg (by decide),if_pos rfl,derL_map]
  refine form_nf (.inr (.inr (.inl ⟨.inl rfl,rfl,rfl⟩))) fun r hr=>?_
  simp at hr
  rcases hr with rfl|rfl
  ·exact ih
  ·exact .star x h1 h2 h3 h4 h5
theorem join4_assoc {x:Rx} {l:List Rx} (hl:∀ r∈l,NF r):joinE 4 rNone rAll [x,joinE 4 rNone rAll l]=joinE 4 rNone rAll (x::l):=by
 have hf:=flat_nf (k:=4) (by decide) hl
 have hz:(rAll∈flat 4 [x,joinE 4 rNone rAll l]↔rAll∈flat 4 (x::l))∧(rAll ∉ flat 4 (x::l)→∀ y,y≠rNone→(y∈flat 4 [x,joinE 4 rNone rAll l]↔y∈flat 4 (x::l))):=by
  have e1:∀ m:List Rx,flat 4 (x::m)=flat 4 [x]++flat 4 m:=fun m=>by simp [flat]
  rw [e1 l,e1 [joinE 4 rNone rAll l],joinE_eq _ _ _ _ (by decide)]
  simp only [List.mem_append]
  by_cases h0:rAll∈flat 4 l
  ·rw [if_pos h0]
   have:flat 4 [rAll]=[rAll]:=rfl
   rw [this]
   refine ⟨by simp [h0],fun h=>absurd (.inr h0) h⟩
  ·rw [if_neg h0]
   have key:∀ y,y≠rNone→(y∈flat 4 [pickE 4 rNone (joinL 4 rNone l)]↔y∈flat 4 l):=by
    intro y hy
    rcases pickE_cases (k:=4) (unit:=rNone) (l:=joinL 4 rNone l) with ⟨e1,e⟩|⟨z,e1,e⟩|⟨h2,e⟩
    ·rw [e]
     have hno:∀ y,y≠rNone→y ∉ flat 4 l:=fun y hy hm=>by
      have:=joinL_mem.2 ⟨hm,hy⟩
      rw [e1] at this;simp at this
     have:flat 4 [rNone]=[rNone]:=rfl
     rw [this]
     simp [hy,hno y hy]
    ·rw [e]
     have hz:=joinL_mem.1 (show z∈joinL 4 rNone l by rw [e1];simp)
     have hzk:=(hf z hz.1).2
     have:flat 4 [z]=[z]:=by simp [flat,hzk]
     rw [this,←show y∈joinL 4 rNone l↔y∈flat 4 l from ⟨fun h=>(joinL_mem.1 h).1,fun h=>joinL_mem.2 ⟨h,hy⟩⟩,e1]
    ·rw [e]
     have:flat 4 [nd 4 0 0 (joinL 4 rNone l)]=joinL 4 rNone l:=by simp [flat,Rx.kind,Rx.kids]
     rw [this,joinL_mem]
     simp [hy]
   exact ⟨by rw [key rAll (by decide)],fun _ y hy=>by rw [key y hy]⟩
 rw [joinE_eq 4 rNone rAll [x,joinE 4 rNone rAll l] (by decide),joinE_eq 4 rNone rAll (x::l) (by decide)]
 by_cases h0:rAll∈flat 4 (x::l)
 ·rw [if_pos (hz.1.2 h0),if_pos h0]
 ·rw [if_neg (fun h=>h0 (hz.1.1 h)),if_neg h0]
  congr 1
  refine inc_unique (sortR_inc _) (sortR_inc _) fun y=>?_
  have a:=joinL_mem (k:=4) (unit:=rNone) (ks:=[x,joinE 4 rNone rAll l]) (x:=y)
  have b:=joinL_mem (k:=4) (unit:=rNone) (ks:=x::l) (x:=y)
  rw [a,b]
  exact ⟨fun h=>⟨(hz.2 h0 y h.2).1 h.1,h.2⟩,fun h=>⟨(hz.2 h0 y h.2).2 h.1,h.2⟩⟩
def rderC (c:Int):List Rx→Rx
 | []=>rNone
 | k::l=>if nul k then form (nd 4 0 0 [form (nd 3 0 0 (der c k::l)),rderC c l]) else form (nd 4 0 0 [form (nd 3 0 0 (der c k::l))])
theorem rderC_eq {c:Int}:∀ {ks:List Rx},(∀ r∈ks,NF r)→rderC c ks=form (nd 4 0 0 (derC c ks))
 | [],_=>rfl
 | k::l,h=>by
  have hl:∀ r∈l,NF r:=fun r hr=>h r (by simp [hr])
  rw [rderC,derC,rderC_eq hl]
  cases hn:nul k with
  | false=>simp
  | true=>
   simp only [if_true]
   have hd:=derC_nf (c:=c) hl (fun r hr=>der_nf (hl r hr))
   exact join4_assoc hd
theorem nodesL_filter (p:Rx→Bool):∀ l:List Rx,nodesL (l.filter p)≤nodesL l
 | []=>Nat.le_refl _
 | r::l=>by
  rw [List.filter_cons]
  have:=nodesL_filter p l
  split <;> simp only [nodesL] <;> omega
theorem nodesL_flat (k:Int):∀ l:List Rx,nodesL (flat k l)≤nodesL l
 | []=>Nat.le_refl _
 | r::l=>by
  have e:flat k (r::l)=(if r.kind=k then r.kids else [r])++flat k l:=by simp [flat]
  rw [e,nodesL_app,nodesL]
  have:=nodesL_flat k l
  have h1:nodesL (if r.kind=k then r.kids else [r])≤nodes r:=by
   split
   ·cases r;simp only [Rx.kids,nodes];omega
   ·simp [nodesL]
  omega
theorem nodesL_putR (n:Rx):∀ l,nodesL (putR l n)≤nodesL l+nodes n
 | []=>by simp [putR,nodesL]
 | y::l=>by
  unfold putR
  split
  ·simp only [nodesL];have:=nodesL_putR n l;omega
  ·split <;> simp only [nodesL] <;> omega
theorem nodesL_sortR (l:List Rx):nodesL (sortR l)≤nodesL l:=by
 have:∀ (r l:List Rx),nodesL (r.foldl putR l)≤nodesL l+nodesL r:=by
  intro r
  induction r with
  | nil=>simp [nodesL]
  | cons y r ih=>intro l;rw [List.foldl_cons,nodesL];have:=ih (putR l y);have:=nodesL_putR y l;omega
 have:=this l []
 simpa [sortR,nodesL] using this
theorem joinE_nodes (k:Int) {unit zero:Rx} (ks:List Rx) (hu:nodes unit≤2) (hz:nodes zero≤2):nodes (joinE k unit zero ks)≤max 2 (1+nodesL ks):=by
 unfold joinE
 simp only
 split
 ·omega
 ·have hl:nodesL (if k=3 then (flat k ks).filter fun r=>decide (r≠unit) else sortR ((flat k ks).filter fun r=>decide (r≠unit)))≤nodesL ks:=by
   have h1:=nodesL_filter (fun r=>decide (r≠unit)) (flat k ks)
   have h2:=nodesL_flat k ks
   split
   ·omega
   ·have:=nodesL_sortR ((flat k ks).filter fun r=>decide (r≠unit));omega
  revert hl
  generalize (if k=3 then (flat k ks).filter fun r=>decide (r≠unit) else sortR ((flat k ks).filter fun r=>decide (r≠unit)))=m
  intro hl
  match m,hl with
  | [],_=>simp only;omega
  | [x],hl=>simp only [nodesL] at hl ⊢;omega
  | x::y::l,hl=>simp only [nodes];omega
theorem kid_nodes (ks:List Rx):nodes (ks.headD rNone)≤max 1 (nodesL ks):=by
 cases ks with
 | nil=>simp [rNone,nodes,nodesL]
 | cons x l=>simp only [List.headD_cons,nodesL];omega
theorem form_nodes (k lo hi:Int) (ks:List Rx):nodes (form (nd k lo hi ks))≤max 2 (1+nodesL ks):=by
 have h1:nodes rNone≤2:=by decide
 have h2:nodes rEmpty≤2:=by decide
 have h3:nodes rAll≤2:=by decide
 have hk:=kid_nodes ks
 have hn:nodes (nd k lo hi ks)=1+nodesL ks:=by rw [nodes]
 rw [form]
 split
 ·exact joinE_nodes 3 ks h2 h1
 ·split
  ·exact joinE_nodes 4 ks h1 h3
  ·split
   ·exact joinE_nodes 5 ks h3 h1
   ·split
    ·split
     ·have h5:=kid_nodes (ks.headD rNone).kids
      have h6:1+nodesL (ks.headD rNone).kids=nodes (ks.headD rNone):=by cases ks.headD rNone;rw [nodes];rfl
      omega
     ·omega
    ·split
     ·split
      ·omega
      ·split <;> omega
     ·omega
theorem norm_nodes (r:Rx):nodes (norm r)≤2*nodes r:=by
 induction r using Rx.ind with
 | h k lo hi ks ih=>
  rw [norm,nodes]
  have h1:=form_nodes k lo hi (normL ks)
  have h2:nodesL (normL ks)≤2*nodesL ks:=by
   clear h1
   induction ks with
   | nil=>simp [normL,nodesL]
   | cons x l ih2=>
    have:=ih2 (fun r hr=>ih r (by simp [hr]))
    have:=ih x (by simp)
    rw [normL,nodesL,nodesL];omega
  omega
theorem derC_nodes (c:Int) (N:Nat):∀ ks:List Rx,nodesL ks≤N→(∀ r∈ks,nodes (der c r)+N+4≤2*nodes r*(N+4))→nodesL (derC c ks)+0≤2*nodesL ks*(N+4)
 | [],_,_=>by simp [derC,nodesL]
 | k::l,hN,h=>by
  rw [nodesL] at hN
  have h1:=form_nodes 3 0 0 (der c k::l)
  rw [nodesL] at h1
  have h2:=h k (by simp)
  have h3:=derC_nodes c N l (by omega) (fun r hr=>h r (by simp [hr]))
  rw [derC,nodesL,nodesL]
  have e:2*(nodes k+nodesL l)*(N+4)=2*nodes k*(N+4)+2*nodesL l*(N+4):=by rw [Nat.mul_add 2,Nat.add_mul]
  rw [e]
  split
  ·omega
  ·rw [nodesL];omega
theorem derL_nodes (c:Int) (N:Nat):∀ ks:List Rx,(∀ r∈ks,nodes (der c r)+N+4≤2*nodes r*(N+4))→nodesL (derL c ks)≤2*nodesL ks*(N+4)
 | [],_=>by simp [derL,nodesL]
 | k::l,h=>by
  have h2:=h k (by simp)
  have h3:=derL_nodes c N l (fun r hr=>h r (by simp [hr]))
  rw [derL,nodesL,nodesL]
  have e:2*(nodes k+nodesL l)*(N+4)=2*nodes k*(N+4)+2*nodesL l*(N+4):=by rw [Nat.mul_add 2,Nat.add_mul]
  rw [e]
  omega
theorem nodesL_take (n:Nat):∀ l:List Rx,nodesL (l.take n)≤nodesL l:=by
 induction n with
 | zero=>intro l;simp [nodesL]
 | succ n ih=>intro l;cases l with
  | nil=>simp
  | cons x l=>rw [List.take_succ_cons,nodesL,nodesL];have:=ih l;omega
theorem der_nodes (c:Int) (N:Nat) (r:Rx) (hN:nodes r≤N):nodes (der c r)+N+4≤2*nodes r*(N+4):=by
 induction r using Rx.ind with
 | h k lo hi ks ih=>
  rw [nodes] at hN
  have ih':∀ r∈ks,nodes (der c r)+N+4≤2*nodes r*(N+4):=fun r hr=>ih r hr (by have:=nodesL_mem hr;omega)
  have e:2*nodes (nd k lo hi ks)*(N+4)=2*(N+4)+2*nodesL ks*(N+4):=by rw [nodes,Nat.mul_add 2,Nat.add_mul]
  rw [e,der]
  have hC:=derC_nodes c N ks (by omega) ih'
  have hL:=derL_nodes c N ks ih'
  have h1:nodes rNone=1:=rfl
  have h2:nodes rEmpty=1:=rfl
  split
  ·split <;> omega
  ·split
   ·have:=form_nodes 4 0 0 (derC c ks);omega
   ·split
    ·have:=form_nodes k 0 0 (derL c ks);omega
    ·split
     ·have h5:=form_nodes 3 0 0 ((derL c ks).take 1++[nd k lo hi ks])
      rw [nodesL_app] at h5
      have h6:=nodesL_take 1 (derL c ks)
      simp only [nodesL,nodes] at h5
      omega
     ·omega
end Rgx
end Go.Proofs.YtjclbjdkkdijbaaGreat
