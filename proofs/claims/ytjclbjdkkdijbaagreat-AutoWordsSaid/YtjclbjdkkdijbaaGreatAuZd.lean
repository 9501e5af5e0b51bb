/- Walks through package auto: class, run, Run, Accepts. Conditions: none. Walks through package auto: Least. Conditions: none. -/
import Derived.Test.YtjclbjdkkdijbaaGreatAuZb
import Derived.Test.YtjclbjdkkdijbaaGreatAutoL
import Derived.Test.YtjclbjdkkdijbaaGreatSearchI
import Derived.Test.YtjclbjdkkdijbaaGreatBstr
set_option linter.unusedVariables false
set_option linter.unusedSimpArgs false
set_option linter.unusedSectionVars false
section
open Go.RowKit
namespace Go.Proofs.YtjclbjdkkdijbaaGreat
open L
namespace Aut
open Auto
attribute [-go_sem] sliced
def byt (s:ByteArray):List Int:=s.data.toList.map fun b=>(b.toNat:Int)
section
variable {w w':World} {v:Value}
end
end Aut
end Go.Proofs.YtjclbjdkkdijbaaGreat
end
section
open Go.RowKit
namespace Go.Proofs.YtjclbjdkkdijbaaGreat
open L
namespace Auto
theorem scanQ_pre (row:Nat→Nat) (cut:Nat→Int) (w:List Int) (k:Nat) (q:Qu):q <+: scanQ row cut w k q:=by
 obtain ⟨r,h,_⟩:=scanQ_ext row cut w k q
 exact ⟨r,h.symm⟩
theorem scanQ_len (row:Nat→Nat) (cut:Nat→Int) (w:List Int) (q:Qu):∀ k,(scanQ row cut w k q).length≤q.length+k
 | 0=>Nat.le_refl _
 | k+1=>by
  have:=scanQ_len row cut w q k
  unfold scanQ addQ
  split
  ·omega
  ·rw [List.length_append,List.length_singleton];omega
theorem bf_wlen (a:Au):∀ i,∀ e∈bfsQ a i,e.2.length≤i
 | 0,e,he=>by simp [bfsQ] at he;subst he;simp
 | i+1,e,he=>by
  rw [bfsQ] at he
  cases h:(bfsQ a i)[i]? with
  | none=>rw [h] at he;have:=bf_wlen a i e he;omega
  | some c=>
   rw [h] at he
   obtain ⟨r,hr,hn⟩:=scanQ_ext (rowA a c.1) (fun k=>a.cuts.getD k 0) c.2 a.cuts.length (bfsQ a i)
   simp only at he
   rw [hr] at he
   rcases List.mem_append.1 he with h1|h1
   ·have:=bf_wlen a i e h1;omega
   ·obtain ⟨j,_,rfl⟩:=hn e h1
    have:=bf_wlen a i c (List.mem_of_getElem? h)
    simp;exact this
theorem bfsQ_pre (a:Au) (i:Nat):bfsQ a i <+: bfsQ a (i+1):=by
 rw [bfsQ]
 cases h:(bfsQ a i)[i]? with
 | none=>exact List.prefix_refl _
 | some e=>exact scanQ_pre _ _ _ _ _
theorem bfsQ_mono (a:Au) (i:Nat):∀ d,bfsQ a i <+: bfsQ a (i+d)
 | 0=>List.prefix_refl _
 | d+1=>(bfsQ_mono a i d).trans (bfsQ_pre a (i+d))
theorem bfsQ_done {a:Au} {i:Nat} (h:(bfsQ a i).length≤i):∀ d,bfsQ a (i+d)=bfsQ a i
 | 0=>rfl
 | d+1=>by
  have ih:=bfsQ_done h d
  show bfsQ a ((i+d)+1)=_
  rw [bfsQ,List.getElem?_eq_none_iff.2 (by rw [ih];omega)]
  exact ih
theorem bfsQ_step {a:Au} {i:Nat} {e:Nat × List Int} (h:(bfsQ a i)[i]?=some e):bfsQ a (i+1)=scanQ (rowA a e.1) (fun k=>a.cuts.getD k 0) e.2 a.cuts.length (bfsQ a i):=by
 rw [bfsQ,h]
theorem find_at {α:Type} {p:α→Bool}:∀ {l:List α} {i:Nat} {e:α},l[i]?=some e→p e=true→(∀ j e',j<i→l[j]?=some e'→p e'=false)→l.find? p=some e
 | [],i,e,h,_,_=>by simp at h
 | x::l,0,e,h,hp,_=>by simp at h;subst h;simp [hp]
 | x::l,i+1,e,h,hp,hn=>by
  rw [List.find?_cons,hn 0 x (by omega) rfl]
  exact find_at (by simpa using h) hp fun j e' hj he=>hn (j+1) e' (by omega) (by simpa using he)
theorem leastA_at {a:Au} {i:Nat} {e:Nat × List Int} (hi:i<256) (h:(bfsQ a i)[i]?=some e) (hp:a.acc.getD e.1 false=true) (hn:∀ j e',j<i→(bfsQ a i)[j]?=some e'→a.acc.getD e'.1 false=false):leastA a=some e.2:=by
 obtain ⟨r,hr⟩:=bfsQ_mono a i (256-i)
 rw [show i+(256-i)=256 by omega] at hr
 have hl:=(List.getElem?_eq_some_iff.1 h).1
 unfold leastA
 rw [find_at (l:=bfsQ a 256) (i:=i) (e:=e) (by rw [←hr,List.getElem?_append_left hl,h]) hp fun j e' hj he=>?_]
 ·rfl
 ·rw [←hr,List.getElem?_append_left (by omega)] at he
  exact hn j e' hj he
theorem leastA_none {a:Au} {i:Nat} (hi:i≤256) (h:(bfsQ a i).length≤i) (hn:∀ j e',j<i→(bfsQ a i)[j]?=some e'→a.acc.getD e'.1 false=false):leastA a=none:=by
 have hd:=bfsQ_done h (256-i)
 rw [show i+(256-i)=256 by omega] at hd
 unfold leastA
 rw [hd,Option.map_eq_none_iff,List.find?_eq_none]
 intro e he
 obtain ⟨j,hj,rfl⟩:=List.getElem_of_mem he
 rw [hn j _ (by omega) (List.getElem?_eq_getElem hj)]
 simp
end Auto
namespace Aut
open Auto
attribute [-go_sem] sliced
theorem infoReach:(Tryz.prog.info? 106).map (fun i=>(i.zero,i.size,i.bytes))=some (some (.agg #[.int .i64 0,.string ⟨#[]⟩]),2,24):=by kernel_rfl
def strB (w:List Int):ByteArray:=⟨(w.map fun c=>UInt8.ofNat c.toNat).toArray⟩
theorem strB_snoc (w:List Int) (c:Int):strB w++⟨[UInt8.ofNat c.toNat].toArray⟩=strB (w++[c]):=by
 apply ByteArray.ext
 rw [ByteArray.data_append]
 simp [strB]
def qcs (q:Qu):List Value:=q.flatMap fun e=>[.int .i64 e.1,.string (strB e.2)]
theorem qcs_snoc (q:Qu) (e:Nat × List Int):qcs (q++[e])=qcs q++[.int .i64 e.1,.string (strB e.2)]:=by simp [qcs]
theorem qcs_at:∀ {q:Qu} {i:Nat} {e:Nat × List Int},q[i]?=some e→(qcs q)[i*2]?=some (.int .i64 e.1)∧(qcs q)[i*2+1]?=some (.string (strB e.2))
 | [],_,_,h=>by simp at h
 | x::q,0,e,h=>by simp at h;subst h;exact ⟨rfl,rfl⟩
 | x::q,i+1,e,h=>by
  have ih:=qcs_at (q:=q) (i:=i) (e:=e) (by simpa using h)
  have e1:qcs (x::q)=.int .i64 x.1::.string (strB x.2)::qcs q:=rfl
  rw [e1,show (i+1)*2=i*2+1+1 by omega]
  exact ⟨by simpa using ih.1,by simpa using ih.2⟩
def seenL (n:Nat) (q:Qu):List Bool:=(List.range n).map fun s=>decide (s∈q.map (·.1))
theorem seenL_get {n s:Nat} {q:Qu} (h:s<n):(bools (seenL n q))[s]?=some (.bool (decide (s∈q.map (·.1)))):=by
 simp [bools,seenL,h]
theorem seenL_set {n t:Nat} {q:Qu} {w:List Int} (h:t<n):(bools (seenL n q)).set t (.bool true)=bools (seenL n (q++[(t,w)])):=by
 apply List.ext_getElem?
 intro s
 rw [List.getElem?_set]
 by_cases hs:t=s
 ·subst hs
  rw [if_pos rfl,if_pos (by simp [bools,seenL];exact h),seenL_get h]
  simp
 ·rw [if_neg hs]
  by_cases hn:s<n
  ·rw [seenL_get hn,seenL_get hn]
   simp [Ne.symm hs]
  ·simp [bools,seenL,hn]
def lstS (a:Au):ByteArray:=if vErr a≠0 then ⟨#[]⟩ else match leastA a with|some w=>strB w|none=>⟨#[]⟩
def lstB (a:Au):Bool:=if vErr a≠0 then false else (leastA a).isSome
section
variable {w w' w0:World} {v v0 qv:Value} {e:TypeId} {k n sb:Nat} {cs:List Value} {q:Qu}
theorem OwW.other (h:OwW e k n w0 v0 v cs w) {U:List Nat} (hu:Upd U w w') (hn:∀ b∈U,v.ownBlock≠some b) (hg:∀ b∈U,w0.heap.size≤b):OwW e k n w0 v0 v cs w':=
 ⟨ownsRow_updL h.row hu (fun b hb hv=>hn b hb hv),h.u.fresh hu fun j hj=>.inr (hg j hj),h.old⟩
structure Lq (n:Nat) (w0:World) (sb:Nat) (qv:Value) (q:Qu) (w:World):Prop where
 qo:OwW 106 2 q.length w0 (.slice none 0 0) qv (qcs q) w
 so:Blk w sb (bools (seenL n q)) 4
 ap:qv.ownBlock≠some sb
 nw:w0.heap.size≤sb
theorem Lq.quiet (h:Lq n w0 sb qv q w) (hu:Upd [] w w'):Lq n w0 sb qv q w':=⟨h.qo.quiet hu,h.so.upd hu (by simp),h.ap,h.nw⟩
theorem Lq.u (h:Lq n w0 sb qv q w):Upd [] w0 w:=h.qo.fresh
theorem Lq.start (w0:World):∀ {w1:World},Upd [] (w0.alloc (.cells #[.int .i64 0,.string ⟨#[]⟩] 106)) w1→OwW 106 2 1 w0 (.slice none 0 0) (.slice (some ⟨w0.heap.size,0,none⟩) 1 1) (qcs [(0,[])]) w1:=fun {w1} hu=>by
 have hB:=(Blk.new w0 [.int .i64 0,.string ⟨#[]⟩] 106).upd hu (by simp)
 refine ⟨⟨by decide,.inr ⟨w0.heap.size,1,#[.int .i64 0,.string ⟨#[]⟩],rfl,Nat.zero_le _,hB,Nat.le_refl _,by decide,by decide,by simp [qcs,strB]⟩⟩,?_,fun g hg=>?_⟩
 ·exact ((Upd.refl _ w0).alloc _).step (by simpa [Value.ownBlock] using hu)
 ·simp only [Value.ownBlock,Option.some.injEq] at hg
  exact .inr (by omega)
theorem Lq.mark {t:Nat} {wd:List Int} {g cap:Nat} {w1:World} (h:Lq n w0 sb qv q w) (ht:t<n) (hu:Upd [sb] w w1) (hs:Blk w1 sb ((bools (seenL n q)).set t (.bool true)) 4)
 (ho:w'.ownsRow 0 106 2 (.slice (some ⟨g,0,none⟩) (q.length+1) cap) (q.length+1) (qcs q++[.int .i64 t,.string (strB wd)])) (hv:Upd qv.ownBlock.toList w1 w') (hk:qv.ownBlock=some g∨w1.heap.size≤g) :
 Lq n w0 sb (.slice (some ⟨g,0,none⟩) (q++[(t,wd)]).length cap) (q++[(t,wd)]) w':=by
 have hl:(q++[(t,wd)]).length=q.length+1:=by simp
 have h1:=h.qo.other hu (fun b hb hq=>by simp at hb;subst hb;exact h.ap hq) (fun b hb=>by simp at hb;subst hb;exact h.nw)
 rw [hl]
 refine ⟨by rw [hl,qcs_snoc];exact h1.push ho hv hk,?_,fun he=>?_,h.nw⟩
 ·rw [seenL_set ht] at hs
  exact hs.upd hv (fun hm=>h.ap (by simpa using hm))
 ·simp only [Value.ownBlock,Option.some.injEq] at he
  subst he
  rcases hk with h2|h2
  ·exact h.ap h2
  ·have:=hs.lt;omega
theorem Lq.cell (h:Lq n w0 sb qv q w) {i:Nat} {e:Nat × List Int} (hi:q[i]?=some e):∃ g cap,qv=.slice (some ⟨g,0,none⟩) q.length cap∧w.cell? ⟨g,i*2,none⟩=some (.int .i64 e.1)∧w.cell? ⟨g,i*2+1,none⟩=some (.string (strB e.2)):=by
 obtain ⟨a,cap,rfl,_,_,hc⟩:=h.qo.form
 have hl:=(List.getElem?_eq_some_iff.1 hi).1
 obtain ⟨g,rfl,hc2⟩:=hc (by omega) (by decide)
 exact ⟨g,cap,rfl,by have:=hc2 _ _ (qcs_at hi).1;simpa using this,by have:=hc2 _ _ (qcs_at hi).2;simpa using this⟩
end
section
variable {w w':World} {v:Value}
set_option maxRecDepth 100000 in
set_option maxHeartbeats 16000000 in
theorem Least_calls {a:Au} (h:AuV w a v):Calls Tryz.prog 21 #[v] w fun e w'=>e=.returned (.tuple #[.string (lstS a),.bool (lstB a),.int .i64 (vErr a)])∧Upd [] w w':=by
 obtain ⟨a1,c1,a2,c2,a3,c3,rfl,hF⟩:=h.shape
 have HF:=Lib.hid hF
 clear h hF
 go_enter Tryz.func21,Tryz.ntmps21
 go_upto_region 1 with fail
 have b1:=Blk.new w [.slice a1 a.cuts.length c1,.slice a2 a.next.length c2,.slice a3 a.acc.length c3] 31
 have u1:=(Upd.refl [] w).alloc (.cells #[.slice a1 a.cuts.length c1,.slice a2 a.next.length c2,.slice a3 a.acc.length c3] 31)
 change Blk (w.alloc (.cells #[.slice a1 a.cuts.length c1,.slice a2 a.next.length c2,.slice a3 a.acc.length c3] 31)) _ _ _ at b1
 generalize (w.alloc (.cells #[.slice a1 a.cuts.length c1,.slice a2 a.next.length c2,.slice a3 a.acc.length c3] 31))=w1 at *
 have k0:=b1.cell (i:=0) rfl
 have k1:=b1.cell (i:=1) rfl
 have k2:=b1.cell (i:=2) rfl
 have HB:=Lib.hid (And.intro b1 u1)
 have HVC:=Lib.hid (Valid_calls (v:=.agg #[.slice a1 a.cuts.length c1,.slice a2 a.next.length c2,.slice a3 a.acc.length c3]) ⟨_,rfl,HF.out.ext u1⟩)
 clear b1 u1
 generalize w.heap.size=pa at *
 by_cases he:vErr a=0
 ·have HOK:=Lib.hid (And.intro (vErr_ok he) he)
  rw [he] at HVC
  have HLW:=Lib.hid (show a.next.length≤256∧0<a.next.length from ⟨HOK.out.1.few,HOK.out.1.some_⟩)
  clear he
  go_upto_region 4 with ((with_reducible refine HVC.out.mono ?_);rintro e w2 ⟨rfl,u2⟩)
  have HU2:=Lib.hid (HB.out.2.step u2)
  have g0:=u2.some k0 (by simp)
  have g1:=u2.some k1 (by simp)
  have g2:=u2.some k2 (by simp)
  have HG:=Lib.hid (And.intro g0 (And.intro g1 g2))
  clear k0 k1 k2 u2
  go_upto_region 5 with fail
  change Code.wp _ _ _ _ (w2.alloc (.cells #[.int .i64 0,.string ⟨#[]⟩] 106))
  have uQ:=(Upd.refl [] w2).alloc (.cells #[.int .i64 0,.string ⟨#[]⟩] 106)
  have HQ:=Lib.hid (Lq.start w2 (Upd.refl [] (w2.alloc (.cells #[.int .i64 0,.string ⟨#[]⟩] 106))))
  generalize (w2.alloc (.cells #[.int .i64 0,.string ⟨#[]⟩] 106))=wq at *
  generalize hqb:w2.heap.size=qb at HQ ⊢
  have q0:=uQ.some g0 (by simp)
  have q1:=uQ.some g1 (by simp)
  have q2:=uQ.some g2 (by simp)
  have HQB:=Lib.hid (And.intro (Nat.le_of_eq hqb) uQ)
  clear g0 g1 g2 uQ hqb
  have hfew:((a.next.length:Nat):Int)≤256:=by have:=HLW.out.1;omega
  have hpos:(0:Int)<(a.next.length:Nat):=by have:=HLW.out.2;omega
  go_upto_region 6 with (at_make;refine wpList_mk rfl _ _ _ rfl 4 1 1 _ Tryz.underlying29 infoBool rfl (by decide) .i64 .i64 a.next.length a.next.length a.next.length rfl rfl (by omega) (by omega) (by omega) (by omega) ?_)
  have hrep:(rows a.next.length fun _=>[Value.bool false])=bools (List.replicate a.next.length false):=by rw [rows_one];simp [bools]
  change Code.wp _ _ _ _ (wq.alloc (.cells (rows a.next.length fun _=>[Value.bool false]).toArray 4))
  rw [hrep]
  have bN:=Blk.new wq (bools (List.replicate a.next.length false)) 4
  have uN:=(Upd.refl [] wq).alloc (.cells (bools (List.replicate a.next.length false)).toArray 4)
  generalize (wq.alloc (.cells (bools (List.replicate a.next.length false)).toArray 4))=wn at *
  generalize hnb:wq.heap.size=sb at bN ⊢
  have n0:=uN.some q0 (by simp)
  have n1:=uN.some q1 (by simp)
  have n2:=uN.some q2 (by simp)
  have HNB:=Lib.hid (And.intro (Nat.le_of_eq hnb) (And.intro uN bN))
  clear q0 q1 q2 hnb hrep
  have s0:wn.cell? ⟨sb,0,none⟩=some (.bool false):=bN.cell (i:=0) (by simp [bools,HLW.out.2])
  have sf:∀ q,wn.frozen? ⟨sb,q,none⟩=false:=bN.free
  clear bN uN
  go_upto_region 7 with fail
  have us:=(Upd.refl [sb] wn).set (p:=⟨sb,0,none⟩) (by simp) (Value.bool true)
  have hse:bools (List.replicate a.next.length false)=bools (seenL a.next.length []):=by
   congr 1
   apply List.ext_getElem
   ·simp [seenL]
   ·intro i h1 h2
    simp [seenL]
  have HLQ:=Lib.hid (show Lq a.next.length w2 sb (.slice (some ⟨qb,0,none⟩) 1 1) (bfsQ a 0) (wn.setCell ⟨sb,0,none⟩ (.bool true)) from by
   have hq1:=(HQ.out.quiet HNB.out.2.1)
   have hlt:=hq1.lt (g:=qb) rfl
   have h1:=HNB.out.1
   have h2:=HQ.out.lt (g:=qb) rfl
   have h3:=HQ.out.fresh.size
   refine ⟨hq1.other us (fun b hb hv=>?_) (fun b hb=>?_),?_,fun hv=>?_,by omega⟩
   ·simp at hb;subst hb;simp [Value.ownBlock] at hv;omega
   ·simp at hb;subst hb;omega
   ·have h4:=HNB.out.2.2
    rw [hse] at h4
    have h5:=h4.set 0 (.bool true)
    rw [seenL_set (w:=[]) HLW.out.2] at h5
    exact h5
   ·simp [Value.ownBlock] at hv;omega)
  have HUW:=Lib.hid (show Upd [] w2 (wn.setCell ⟨sb,0,none⟩ (.bool true)) from HLQ.out.u)
  generalize (wn.setCell ⟨sb,0,none⟩ (.bool true))=wz at *
  clear n0 n1 n2 s0 sf us hse
  have HLZ:=Lib.hid (HLQ.out)
  go_wp2_with fail
  go_loopw [6,8] (fun s6 s8 wr=>∃ (i:Nat),s8=.int .i64 i∧i≤256∧Hid (Lq a.next.length w2 sb s6 (bfsQ a i) wr∧∀ j e',j<i→(bfsQ a i)[j]?=some e'→a.acc.getD e'.1 false=false)) (fun _ s8 _=>256 - (intOf s8).toNat)
  case atStart=>exact ⟨0,rfl,by omega,Lib.hid ⟨HLZ.out,fun j e' hj=>by omega⟩⟩
  case round=>
   obtain ⟨i,rfl,hi,HI⟩:=hrel
   have hql:=bf_len HOK.out.1 i
   have p0:=HI.out.1.u.some HG.out.1 (by simp)
   have p1:=HI.out.1.u.some HG.out.2.1 (by simp)
   have p2:=HI.out.1.u.some HG.out.2.2 (by simp)
   by_cases hlt:i<(bfsQ a i).length
   ·have hge:=List.getElem?_eq_getElem hlt
    generalize (bfsQ a i)[i]=e at hge
    obtain ⟨qg,qc,rfl,cq0,cq1⟩:=HI.out.1.cell hge
    have hst:=(bf_run HOK.out.1 i e (List.mem_of_getElem? hge)).1
    have hwl:=bf_wlen a i e (List.mem_of_getElem? hge)
    obtain ⟨st,wd⟩:=e
    simp only at hst cq0 cq1 hwl
    have HWL:=Lib.hid (show (strB wd).size≤256 by simp [strB,ByteArray.size];omega)
    clear hwl
    have hi256:i<256:=by omega
    have hli:(i:Int)<(bfsQ a i).length:=by omega
    obtain ⟨g3,off3,he3,hacc⟩:=(HF.out.ext HU2.out).acc (i:=st) (by rw [HOK.out.1.acc];exact hst)
    cases he3
    obtain ⟨g4,off4,ar,cr,he4,hrc,hrow⟩:=(HF.out.ext HU2.out).row hst
    cases he4
    have hac':=HI.out.1.u.some hacc (by simp)
    have hrc':=HI.out.1.u.some hrc (by simp)
    have hsta:(st:Int)<a.acc.length:=by have:=HOK.out.1.acc;omega
    have hstn:(st:Int)<a.next.length:=by omega
    go_upto_region 11 with fail
    change Code.wp _ _ _ _ (wr.alloc (.cells #[.int .i64 st,.string (strB wd)] 106))
    have bR:=Blk.new wr [.int .i64 st,.string (strB wd)] 106
    have uR:=(Upd.refl [] wr).alloc (.cells #[.int .i64 st,.string (strB wd)] 106)
    change Blk (wr.alloc (.cells #[.int .i64 st,.string (strB wd)] 106)) _ _ _ at bR
    have hsbr:=HI.out.1.so.lt
    have hqvr:=HI.out.1.qo.lt (g:=qg) rfl
    generalize (wr.alloc (.cells #[.int .i64 st,.string (strB wd)] 106))=w5 at *
    generalize hrb:wr.heap.size=rb at bR hsbr hqvr ⊢
    have HRB:=Lib.hid (And.intro bR (And.intro uR (And.intro (Nat.le_of_eq hrb.symm) (And.intro hsbr hqvr))))
    have r0:=bR.cell (i:=0) rfl
    have r1:=bR.cell (i:=1) rfl
    have v0:=uR.some p0 (by simp)
    have v1:=uR.some p1 (by simp)
    have v2:=uR.some p2 (by simp)
    have ac5:=uR.some hac' (by simp)
    have rc5:=uR.some hrc' (by simp)
    clear bR uR hrb p0 p1 p2 hac' hrc' hacc hrc cq0 cq1 hsbr hqvr
    by_cases hac:a.acc.getD st false=true
    ·have HL:=Lib.hid (show lstS a=strB wd∧lstB a=true by
      have:=leastA_at hi256 hge hac HI.out.2
      unfold lstS lstB
      rw [if_neg (by simpa using HOK.out.2),if_neg (by simpa using HOK.out.2),this]
      exact ⟨rfl,rfl⟩)
     rw [hac] at ac5
     clear hac
     generalize strB wd=sw at *
     go_wp2_with fail
     go_ret3
     rw [HL.out.1,HL.out.2,HOK.out.2]
     exact ⟨rfl,HU2.out.step (HI.out.1.u.step HRB.out.2.1)⟩
    ·rw [Bool.not_eq_true] at hac
     have HAC:=Lib.hid hac
     rw [hac] at ac5
     clear hac
     have HROW:=Lib.hid (And.intro (HOK.out.1.rows _ (gd_memA (d:=[]) hst)) (And.intro hrow (show ∀ k,rowA a st k=((a.next.getD st []).getD k 0).toNat from fun k=>rfl)))
     have HSTEP:=Lib.hid (bfsQ_step hge)
     have HGE:=Lib.hid hge
     have hcl:=cuts_len HOK.out.1
     generalize a.next.getD st []=row at *
     have hrl:row.length≤256:=by rw [HROW.out.1.1];exact hcl
     clear hrow hge
     obtain ⟨wo,rfl⟩:∃ wo:World,wo=w5:=⟨_,rfl⟩
     go_wp2_with fail
     go_loopw [6,50] (fun s6 s50 wr2=>∃ (k:Nat),s50=.int .i64 k∧k≤row.length∧Hid (Lq a.next.length w2 sb s6 (scanQ (rowA a st) (fun k=>a.cuts.getD k 0) wd k (bfsQ a i)) wr2∧Blk wr2 rb [.int .i64 st,.string (strB wd)] 106∧s6.ownBlock≠some rb∧sb≠rb)) (fun _ s50 _=>row.length - (intOf s50).toNat)
     case atStart=>exact ⟨0,rfl,Nat.zero_le _,Lib.hid ⟨HI.out.1.quiet HRB.out.2.1,HRB.out.1,by have:=HRB.out.2.2.2.2;simp [Value.ownBlock];omega,by have:=HRB.out.2.2.2.1;omega⟩⟩
     case round=>
      obtain ⟨k,rfl,hk,HK⟩:=hrel
      by_cases hkl:k<row.length
      ·have hkli:(k:Int)<row.length:=by omega
       have htn:=(HROW.out.1.2 _ (gd_memA (d:=0) hkl))
       have hcr:=HROW.out.1.1
       obtain ⟨ra,rc,he,_,_,hce⟩:=HROW.out.2.1.elems
       cases he
       obtain ⟨g5,off5,rfl,kk⟩:=hce (by omega)
       have hcx:=kk k _ (by rw [ints_get (gd_some (d:=0) hkl)])
       have hrk:=HROW.out.2.2 k
       obtain ⟨tn,htx⟩:∃ tn:Nat,row.getD k 0=tn:=⟨(row.getD k 0).toNat,by omega⟩
       rw [htx] at hcx htn hrk
       simp only [Int.toNat_natCast] at hrk
       have htn':tn<a.next.length:=by omega
       have HSC:=Lib.hid (show scanQ (rowA a st) (fun k=>a.cuts.getD k 0) wd (k+1) (bfsQ a i)=addQ (scanQ (rowA a st) (fun k=>a.cuts.getD k 0) wd k (bfsQ a i)) tn (wd++[a.cuts.getD k 0]) by show addQ _ (rowA a st k) _=_;rw [hrk])
       have HQL:=Lib.hid (show (scanQ (rowA a st) (fun k=>a.cuts.getD k 0) wd k (bfsQ a i)).length≤512 by have:=scanQ_len (rowA a st) (fun k=>a.cuts.getD k 0) wd (bfsQ a i) k;omega)
       clear hrk hce kk htx
       have hkc:k<a.cuts.length:=by omega
       have HU5:=Lib.hid (HI.out.1.u.step HRB.out.2.1)
       generalize scanQ (rowA a st) (fun k=>a.cuts.getD k 0) wd k (bfsQ a i)=q at *
       have hw:=(HU2.out)
       have hxr:=HK.out.1.u.some hcx (by simp)
       have hs5:=HK.out.1.so.cell (i:=tn) (seenL_get htn')
       have r0':=HK.out.2.1.cell (i:=0) rfl
       have r1':=HK.out.2.1.cell (i:=1) rfl
       have v0':=HK.out.1.u.some HG.out.1 (by simp)
       clear hcx hcr
       by_cases hm:tn∈q.map (·.1)
       ·have HA:=Lib.hid (show addQ q tn (wd++[a.cuts.getD k 0])=q by unfold addQ;rw [if_pos hm])
        rw [decide_eq_true hm] at hs5
        clear hm
        go_wp2_with fail
        refine ⟨⟨k+1,by go_num,by omega,Lib.hid ?_⟩,by simp [intOf];omega⟩
        rw [HSC.out,HA.out]
        exact HK.out
       ·have HA:=Lib.hid (show addQ q tn (wd++[a.cuts.getD k 0])=q++[(tn,wd++[a.cuts.getD k 0])] by unfold addQ;rw [if_neg hm])
        rw [decide_eq_false hm] at hs5
        clear hm
        have hsf:∀ q,wr.frozen? ⟨sb,q,none⟩=false:=HK.out.1.so.free
        go_upto_region 18 with fail
        have us:Upd [sb] wr (wr.setCell ⟨sb,tn,none⟩ (.bool true)):=(Upd.refl [sb] wr).set (p:=⟨sb,tn,none⟩) (by simp) _
        have b6:=HK.out.1.so.set tn (.bool true)
        have hold:∀ (p:Addr) (x:Value),w2.cell? p=some x→(wr.setCell ⟨sb,tn,none⟩ (.bool true)).cell? p=some x:=fun p x hp=>by
         refine us.some (HK.out.1.u.some hp (by simp)) (fun hm=>?_)
         have h1:=World.block_lt_of_cell? _ _ hp
         have h2:=HK.out.1.nw
         simp at hm;omega
        have t1:=us.some r1' (by have:=HK.out.2.2.2;simp;omega)
        have t0:=hold _ _ HG.out.1
        obtain ⟨g6,off6,he6,hcc⟩:=(HF.out.ext HU2.out).cuts hkc
        cases he6
        have t2:=hold _ _ hcc
        have H6:=Lib.hid (And.intro us (And.intro b6 (HK.out.1.qo.other us (fun b hb hv=>by simp at hb;subst hb;exact HK.out.1.ap hv) (fun b hb=>by simp at hb;subst hb;exact HK.out.1.nw))))
        have hcin:a.cuts.getD k 0∈a.cuts:=gd_memA hkc
        have hc0:=HOK.out.1.nonneg _ hcin
        have hc1:=HOK.out.1.top _ hcin
        generalize (wr.setCell ⟨sb,tn,none⟩ (.bool true))=w6 at *
        generalize a.cuts.getD k 0=ck at *
        clear us b6 hold hcc r0' r1' v0' hs5 hsf hxr hcin
        refine wp_region_ord 15 12 [0,1,2,3,4,5,6,7,8,9,13,16] [3,5,8] [0,1,2,3,4,5,6,7,8,9,10,11,12,13,14,15,16] (fun w'=>∃ x:Ext w6,w'=x.val) (by kernel_rfl) (by kernel_rfl) (Ext.of (by iterate 25 (first|exact Upd.refl _ _|assumption|refine Upd.alloc ?_ _|refine Upd.drew ?_|refine Upd.drewN ?_ _|refine Upd.dl ?_|refine Upd.step ?_ (Ext.upd _)|refine Upd.nil ?_|skip))) ?_
        repeat (first|(refine wpOrd_load rfl rfl rfl rfl (fun K hK=>?_);go_big_quiet_step (fail);refine wpQuiet_nil ?_;refine hK _ ?_;clear hK K)|(refine wpOrd_free rfl rfl rfl (fun K hK=>?_);go_big_quiet_step (fail);refine wpQuiet_nil ?_;refine hK _ ?_;clear hK K))
        refine wpOrd_fix rfl rfl (fun K hK=>?_)
        go_wp2_with fail
        have HB7:=Lib.hid (show Blk ((w6.alloc (.cells #[.int .u8 ck] 5)).drew) w6.heap.size [.int .u8 ck] 5∧Upd [] w6 ((w6.alloc (.cells #[.int .u8 ck] 5)).drew) from ⟨Blk.new w6 [.int .u8 ck] 5,(by iterate 25 (first|exact Upd.refl _ _|assumption|refine Upd.alloc ?_ _|refine Upd.drew ?_|refine Upd.drewN ?_ _|refine Upd.dl ?_|refine Upd.step ?_ (Ext.upd _)|refine Upd.nil ?_|skip))⟩)
        generalize ((w6.alloc (.cells #[.int .u8 ck] 5)).drew)=w7 at *
        generalize w6.heap.size=tb at HB7 ⊢
        have HR7:=Lib.hid (show w7.ownsRow 0 5 1 (.slice (some ⟨tb,0,none⟩) 1 1) [UInt8.ofNat ck.toNat].length (bcs [UInt8.ofNat ck.toNat]) from by
         have e:bcs [UInt8.ofNat ck.toNat]=[.int .u8 ck]:=by
          simp only [bcs,List.map_cons,List.map_nil,UInt8.toNat_ofNat']
          congr 2
          omega
         rw [e]
         exact OwW.of_blk (pad:=[]) HB7.out.1 rfl rfl (by decide))
        refine ⟨fun _=>Ext.of HB7.out.2,?_⟩
        repeat (first|(refine wpOrd_load rfl rfl rfl rfl (fun K hK=>?_);go_big_quiet_step (fail);refine wpQuiet_nil ?_;refine hK _ ?_;clear hK K)|(refine wpOrd_free rfl rfl rfl (fun K hK=>?_);go_big_quiet_step (fail);refine wpQuiet_nil ?_;refine hK _ ?_;clear hK K))
        refine wpOrd_fix rfl rfl (fun K hK=>?_)
        refine wpList_bstr Tryz.underlying92 Tryz.underlying5 Tryz.underlying9 _ rfl rfl (.slice (some ⟨tb,0,none⟩) 1 1) [UInt8.ofNat ck.toNat] rfl HR7.out ?_
        simp only [Act.put,List.setIfInBounds_toArray,List.set_cons_zero,List.set_cons_succ]
        generalize hbw:(ByteArray.mk [UInt8.ofNat ck.toNat].toArray)=bw
        have hcat:¬ ((strB wd).size+bw.size > 9223372036854775807):=by
         have h1:=HWL.out
         have h2:bw.size=1:=by rw [←hbw];rfl
         omega
        have HBW:=Lib.hid (show strB wd++bw=strB (wd++[ck]) by rw [←hbw];exact strB_snoc wd ck)
        clear hbw
        go_wp2_with fail
        refine ⟨fun _=>Ext.of HB7.out.2,?_⟩
        repeat (first|(refine wpOrd_load rfl rfl rfl rfl (fun K hK=>?_);go_big_quiet_step (fail);refine wpQuiet_nil ?_;refine hK _ ?_;clear hK K)|(refine wpOrd_free rfl rfl rfl (fun K hK=>?_);go_big_quiet_step (fail);refine wpQuiet_nil ?_;refine hK _ ?_;clear hK K))
        refine wpOrd_fix rfl rfl (fun K hK=>?_)
        go_wp2_with fail
        refine ⟨fun _=>Ext.of HB7.out.2,?_⟩
        repeat (first|(refine wpOrd_load rfl rfl rfl rfl (fun K hK=>?_);go_big_quiet_step (fail);refine wpQuiet_nil ?_;refine hK _ ?_;clear hK K)|(refine wpOrd_free rfl rfl rfl (fun K hK=>?_);go_big_quiet_step (fail);refine wpQuiet_nil ?_;refine hK _ ?_;clear hK K))
        refine wpOrd_fix rfl rfl (fun K hK=>?_)
        go_wp2_with fail
        have HB8:=Lib.hid (show Blk (w7.alloc (.cells #[.int .i64 tn,.string (strB wd++bw)] 106)) w7.heap.size [.int .i64 tn,.string (strB wd++bw)] 106∧Upd [] w7 (w7.alloc (.cells #[.int .i64 tn,.string (strB wd++bw)] 106)) from ⟨Blk.new w7 _ _,(Upd.refl [] w7).alloc _⟩)
        generalize (w7.alloc (.cells #[.int .i64 tn,.string (strB wd++bw)] 106))=w8 at *
        generalize w7.heap.size=tb8 at HB8 ⊢
        have HU8:=Lib.hid (HB7.out.2.step HB8.out.2)
        have hq5:=HQL.out
        refine ⟨fun _=>Ext.of HU8.out,?_⟩
        repeat (first|(refine wpOrd_load rfl rfl rfl rfl (fun K hK=>?_);go_big_quiet_step (fail);refine wpQuiet_nil ?_;refine hK _ ?_;clear hK K)|(refine wpOrd_free rfl rfl rfl (fun K hK=>?_);go_big_quiet_step (fail);refine wpQuiet_nil ?_;refine hK _ ?_;clear hK K))
        refine wpOrd_fix rfl rfl (fun K hK=>?_)
        refine wpList_app rfl _ _ _ rfl 106 2 24 _ Tryz.underlying107 infoReach rfl (by decide) u6 _ _ rfl (H6.out.2.2.quiet HU8.out).row tb8 1 1 [.int .i64 tn,.string (strB wd++bw)] 106 rfl rfl HB8.out.1 (by simp [Value.oneCell']) (by omega) (by unfold maxLen;omega) (by omega) ?_
        intro g9 c9 w9 o9 u9 k9
        simp only [Act.put,List.setIfInBounds_toArray,List.set_cons_zero,List.set_cons_succ]
        have H9:=Lib.hid (And.intro o9 (And.intro u9 k9))
        clear o9 u9 k9 hq5
        go_wp2_with fail
        refine ⟨fun hC=>absurd hC (by decide),?_⟩
        repeat (first|(refine wpOrd_load rfl rfl rfl rfl (fun K hK=>?_);go_big_quiet_step (fail);refine wpQuiet_nil ?_;refine hK _ ?_;clear hK K)|(refine wpOrd_free rfl rfl rfl (fun K hK=>?_);go_big_quiet_step (fail);refine wpQuiet_nil ?_;refine hK _ ?_;clear hK K))
        refine wpOrd_nil ?_
        go_wp2_with fail
        have hsz8:=HU8.out.size
        have hsz6:=H6.out.1.size
        have hrbl:=HK.out.2.1.lt
        refine ⟨⟨k+1,by go_num,by omega,Lib.hid ?_⟩,by simp [intOf];omega⟩
        rw [HSC.out,HA.out]
        have ho:=H9.out.1
        rw [HBW.out] at ho
        have hk9:=H9.out.2.2.imp id Nat.le_of_eq
        have hmk:=HK.out.1.mark htn' (H6.out.1.step HU8.out) (H6.out.2.1.upd HU8.out (by simp)) ho H9.out.2.1 (H9.out.2.2.imp id (fun h=>Nat.le_of_eq h.symm))
        rw [show (q++[(tn,wd++[ck])]).length=q.length+1 by simp] at hmk
        refine ⟨hmk,((HK.out.2.1.upd H6.out.1 (by have:=HK.out.2.2.2;simp;omega)).upd HU8.out (by simp)).upd H9.out.2.1 (fun hm=>HK.out.2.2.1 (by simpa using hm)),fun hv=>?_,HK.out.2.2.2⟩
        simp only [Value.ownBlock,Option.some.injEq] at hv
        rcases H9.out.2.2 with h|h
        ·exact HK.out.2.2.1 (hv ▸ h)
        ·omega
      ·have hke:k=row.length:=by omega
       subst hke
       have hni:¬ ((row.length:Int)<row.length):=by omega
       go_wp2_with fail
       refine ⟨⟨i+1,by go_num,by omega,Lib.hid ?_⟩,by simp [intOf];omega⟩
       rw [HSTEP.out,←HROW.out.1.1]
       refine ⟨HK.out.1,fun j e' hj he'=>?_⟩
       obtain ⟨r,hr⟩:=scanQ_pre (rowA a st) (fun k=>a.cuts.getD k 0) wd row.length (bfsQ a i)
       have hjl:j<(bfsQ a i).length:=by omega
       rw [←hr,List.getElem?_append_left hjl] at he'
       rcases Nat.lt_or_ge j i with h|h
       ·exact HI.out.2 j e' h he'
       ·have:j=i:=by omega
        subst this
        rw [HGE.out] at he'
        cases he'
        exact HAC.out
   ·have hie:i=(bfsQ a i).length∨(bfsQ a i).length<i:=by omega
    have hni:¬ ((i:Int)<(bfsQ a i).length):=by omega
    have HL:=Lib.hid (show lstS a=⟨#[]⟩∧lstB a=false by
     have:=leastA_none hi (by omega) HI.out.2
     unfold lstS lstB
     rw [if_neg (by simpa using HOK.out.2),if_neg (by simpa using HOK.out.2),this]
     exact ⟨rfl,rfl⟩)
    obtain ⟨qa,qc,rfl,_⟩:=id HI.out.1.qo.form
    go_wp2_with fail
    go_ret3
    rw [HL.out.1,HL.out.2,HOK.out.2]
    exact ⟨rfl,HU2.out.step HI.out.1.u⟩
 ·have HE:=Lib.hid (show lstS a=⟨#[]⟩∧lstB a=false by unfold lstS lstB;rw [if_pos he,if_pos he];exact ⟨rfl,rfl⟩)
  have hb:(vErr a != 0)=true:=by simpa using he
  clear he
  generalize her:vErr a=er at HVC hb
  have HER:=Lib.hid her
  clear her
  go_wp2_with ((with_reducible refine HVC.out.mono ?_);rintro e w2 ⟨rfl,u2⟩)
  go_ret3
  rw [HE.out.1,HE.out.2,HER.out]
  exact ⟨rfl,HB.out.2.step u2⟩
end
end Aut
end Go.Proofs.YtjclbjdkkdijbaaGreat
end
