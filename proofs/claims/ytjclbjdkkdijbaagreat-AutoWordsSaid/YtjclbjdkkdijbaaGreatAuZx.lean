/- A proof in parts: the statement that is left at a cut is kept as a value, so that a later text can prove it. Conditions: none. Walks through the law of chapter 05: AutoWords. Conditions: none. Walks through the law of chapter 05: AutoWords, a part. Conditions: none. Walks through the law of chapter 05: AutoWords, a part. Conditions: none. -/
import Derived.Test.YtjclbjdkkdijbaaGreatLib
import Derived.Test.YtjclbjdkkdijbaaGreatRfZf
import Derived.Test.YtjclbjdkkdijbaaGreatAuZp
import Derived.Test.YtjclbjdkkdijbaaGreatAuZq
import Derived.Test.YtjclbjdkkdijbaaGreatAuZd
import Derived.Test.YtjclbjdkkdijbaaGreatRfZw
set_option linter.unusedVariables false
set_option linter.unusedSimpArgs false
set_option linter.unusedSectionVars false
section
open Go.RowKit
namespace Go.Proofs.YtjclbjdkkdijbaaGreat
namespace L
def cut2 {G:Prop} (A B:Prop) (h:RowKit.Hid A→RowKit.Hid B→G):{ T:Prop × Prop // RowKit.Hid T.1→RowKit.Hid T.2→G }:=⟨(A,B),h⟩
def cut3 {G:Prop} (A B C:Prop) (h:RowKit.Hid A→RowKit.Hid B→RowKit.Hid C→G):{ T:Prop × Prop × Prop // RowKit.Hid T.1→RowKit.Hid T.2.1→RowKit.Hid T.2.2→G }:=⟨(A,B,C),h⟩
end L
end Go.Proofs.YtjclbjdkkdijbaaGreat
end
section
open Go.RowKit
namespace Go.Proofs.YtjclbjdkkdijbaaGreat
open L
namespace Law
open Aut Auto R01 Rgx
attribute [-go_sem] sliced
theorem spoilA_next (a:Au) (at_ how by_:Int):(spoilA a at_ how by_).next.length≤a.next.length:=by
 unfold spoilA
 repeat' split
 all_goals first|exact Nat.le_refl _|(simp;done)|(simp;omega)
theorem ofA_next (r:Rx):(ofA r).next.length≤256:=by
 unfold ofA
 split
 ·simp [noA]
 ·cases h:numO (nRes r) (srtC (0::cutB (nRes r))).length (nxR (srtC (0::cutB (nRes r)))) with
  | none=>simp [noA]
  | some q=>
   obtain ⟨S,T⟩:=q
   have h1:=numO_len h
   have h2:=(numO_some h).2
   simp [natRows]
   omega
theorem someL_few (xs ys:List Int) (at_ how by_:Int):∀ a∈someL xs ys at_ how by_,a.next.length≤1000:=by
 intro a ha
 have h1:=(madeA_szs ys).2.1
 have h2:=spoilA_next (madeA ys) at_ how by_
 have h3:=spoilA_next (spoilA (madeA ys) at_ how by_) how at_ (by_.tdiv 2)
 have h4:=ofA_next (madeR xs)
 simp only [someL,List.mem_cons,List.not_mem_nil,or_false] at ha
 rcases ha with rfl|rfl|rfl|rfl|rfl
 ·omega
 ·omega
 ·omega
 ·omega
 ·simp [noA]
theorem left_known {a:Au} {s m:Nat} (h:vErr a=0) (hs:s<a.next.length) (hm:m≤64):leftE a s m=0∧leftR a s m=resL a s (m+1):=by
 have h0:¬ vErr a≠0:=fun h2=>h2 h
 have h1:¬ (((s:Nat):Int)<0∨(a.next.length:Int)≤s):=by omega
 have h2:¬ (((m:Nat):Int)<0∨(64:Int)<m):=by omega
 unfold leftE leftR
 rw [if_neg h0,if_neg h0,if_neg h1,if_neg h1,if_neg h2,if_neg h2]
 exact ⟨rfl,by simp [resL]⟩
theorem left_unknown {a:Au} {st mo:Int} (h:vErr a=0) (hs:st<0∨(a.next.length:Int)≤st):leftE a st mo=7∧leftR a st mo=[]:=by
 have h0:¬ vErr a≠0:=fun h2=>h2 h
 unfold leftE leftR
 rw [if_neg h0,if_neg h0,if_pos hs,if_pos hs]
 exact ⟨rfl,rfl⟩
theorem left_bad {a:Au} {st mo:Int} (h:vErr a=0) (hs:¬ (st<0∨(a.next.length:Int)≤st)) (hm:mo<0∨64<mo):leftE a st mo=5∧leftR a st mo=[]:=by
 have h0:¬ vErr a≠0:=fun h2=>h2 h
 unfold leftE leftR
 rw [if_neg h0,if_neg h0,if_neg hs,if_neg hs,if_pos hm,if_pos hm]
 exact ⟨rfl,rfl⟩
theorem left_err {a:Au} {st mo:Int} (h:vErr a≠0):leftE a st mo=vErr a∧leftR a st mo=[]:=by
 unfold leftE leftR
 rw [if_pos h,if_pos h]
 exact ⟨rfl,rfl⟩
section
variable {w w':World} {v v1 v2:Value}
theorem Lengths_ok {a:Au} {m:Nat} (o:AuV w a v) (hok:Ok a) (h:vErr a=0) (hm:m≤64):Calls Tryz.prog 24 #[v,.int .i64 m] w fun e w'=>∃ v',e=.returned (.tuple #[v',.int .i64 0])∧SL w' 1 v' (resL a 0 (m+1)).length (bools (resL a 0 (m+1)))∧Upd [] w w':=by
 have h1:=Lengths_calls (most:=(m:Int)) o
 have h2:=left_known (s:=0) h hok.some_ hm
 rw [show ((0:Nat):Int)=0 from rfl] at h2
 rwa [h2.1,h2.2] at h1
theorem Lengths_no {a:Au} {mo er:Int} (o:AuV w a v) (h:leftE a 0 mo=er∧leftR a 0 mo=[]):Calls Tryz.prog 24 #[v,.int .i64 mo] w fun e w'=>∃ ga c,e=.returned (.tuple #[.slice ga 0 c,.int .i64 er])∧Upd [] w w':=by
 refine (Lengths_calls (most:=mo) o).mono ?_
 rintro e w2 ⟨v',rfl,h1,u⟩
 rw [h.2] at h1
 obtain ⟨ga,c,rfl,_⟩:=h1.elems
 exact ⟨ga,c,by rw [h.1];rfl,u⟩
theorem Left_ok {a:Au} {s m:Nat} (o:AuV w a v) (h:vErr a=0) (hs:s<a.next.length) (hm:m≤64):Calls Tryz.prog 27 #[v,.int .i64 s,.int .i64 m] w fun e w'=>∃ v',e=.returned (.tuple #[v',.int .i64 0])∧SL w' 1 v' (resL a s (m+1)).length (bools (resL a s (m+1)))∧Upd [] w w':=by
 have h1:=Left_calls (st:=(s:Int)) (most:=(m:Int)) o
 have h2:=left_known h hs hm
 rwa [h2.1,h2.2] at h1
theorem Left_no {a:Au} {st mo er:Int} (o:AuV w a v) (h:leftE a st mo=er∧leftR a st mo=[]):Calls Tryz.prog 27 #[v,.int .i64 st,.int .i64 mo] w fun e w'=>∃ ga c,e=.returned (.tuple #[.slice ga 0 c,.int .i64 er])∧Upd [] w w':=by
 refine (Left_calls (st:=st) (most:=mo) o).mono ?_
 rintro e w2 ⟨v',rfl,h1,u⟩
 rw [h.2] at h1
 obtain ⟨ga,c,rfl,_⟩:=h1.elems
 exact ⟨ga,c,by rw [h.1];rfl,u⟩
theorem LeftR_len {a:Au} {s m:Nat} (h:AuV w a v) (hok:Ok a) (hs:s<a.next.length) (hm:m≤64):Calls Tryz.prog 26 #[v,.int .i64 s,.int .i64 m] w fun e w'=>∃ v',e=.returned v'∧SL w' 1 v' (resL a s (m+1)).length (bools (resL a s (m+1)))∧Upd [] w w':=by
 simp only [resL_len]
 exact LeftR_calls h hok hs hm
theorem SameB_self {xs:List Bool} (h1:SL w 1 v1 xs.length (bools xs)) (h2:SL w 1 v2 xs.length (bools xs)):Calls Tryz.prog 25 #[v1,v2] w fun e w'=>e=.returned (.bool true)∧Upd [] w w':=by
 have h:=SameBools_calls h1 h2
 rwa [decide_eq_true rfl] at h
end
section
set_option maxRecDepth 100000 in
set_option maxHeartbeats 16000000 in
def wz (w:World) (v v2:Value) (xs ys:List Int) (at_ how by_ stt:Int) (H0:RowKit.Hid ((∀ x∈xs,IsI64 x)∧SL w 1 v xs.length (ints xs)∧(∀ x∈ys,IsI64 x)∧SL w 1 v2 ys.length (ints ys)∧IsI64 at_∧IsI64 how∧IsI64 by_∧IsI64 stt)):{ T:Prop × Prop // RowKit.Hid T.1→RowKit.Hid T.2→Calls Tryz.prog 4 #[v,v2,.int .i64 at_,.int .i64 how,.int .i64 by_,.int .i64 stt] w fun e w'=>e=.returned (.bool true)∧Upd [] w w' }:=
 cut2 _ _ (by
 intro K1 K2
 have HC1:=Lib.hid (some_calls H0.out.1 H0.out.2.1 H0.out.2.2.1 H0.out.2.2.2.1 H0.out.2.2.2.2.1 H0.out.2.2.2.2.2.1 H0.out.2.2.2.2.2.2.1)
 have hl5:(someL xs ys at_ how by_).length≤5:=Nat.le_refl _
 have HL5:=Lib.hid hl5
 have HFE:=Lib.hid (someL_few xs ys at_ how by_)
 have HI:=Lib.hid (And.intro H0.out.2.2.2.2.2.2.1 H0.out.2.2.2.2.2.2.2)
 clear hl5
 generalize someL xs ys at_ how by_=ls at *
 go_enter Tryz.func4,Tryz.ntmps4
 go_upto_region 2 with ((with_reducible refine HC1.out.mono ?_);rintro e w1 ⟨v1,rfl,hls,u1⟩)
 obtain ⟨lg,lc,rfl,hc1⟩:=id hls
 have HLS:=Lib.hid (And.intro u1 hc1)
 clear hls u1 hc1
 go_wp2_with fail
 go_loopg [14] ls.length (fun gk iv wr=>∃ m:Nat,iv=.int .i64 m∧m+gk=ls.length∧∃ x:Ext w1,wr=x.val)
 case atStart=>exact ⟨0,rfl,Nat.zero_add _,Ext.of (by iterate 25 (first|exact Upd.refl _ _|assumption|refine Upd.alloc ?_ _|refine Upd.drew ?_|refine Upd.drewN ?_ _|refine Upd.dl ?_|refine Upd.step ?_ (Ext.upd _)|refine Upd.nil ?_|skip))⟩
 case round=>
  obtain ⟨m,rfl,hm,x,rfl⟩:=hrel
  have HXU:=Lib.hid x.upd
  generalize x.val=wq at *
  by_cases hlt:m<ls.length
  ·have hli:(m:Int)<ls.length:=by omega
   have hm5:(m:Int)≤5:=by have:=HL5.out;omega
   have ha:=List.getElem?_eq_getElem hlt
   have hfew:ls[m].next.length≤1000:=HFE.out _ (List.getElem_mem hlt)
   generalize ls[m]=a at *
   obtain ⟨y0,y1,y2,hF,e0,e1,e2⟩:=HLS.out.2 m a ha
   obtain ⟨a1,c1,a2,c2,a3,c3,hve,hFF⟩:=AuV.shape (show AuV w1 a (.agg #[y0,y1,y2]) from ⟨_,rfl,hF⟩)
   cases hve
   have HAU:=Lib.hid (fun (w':World) (u:Upd [] w1 w')=>show AuV w' a (.agg #[.slice a1 a.cuts.length c1,.slice a2 a.next.length c2,.slice a3 a.acc.length c3]) from ⟨_,rfl,hFF.ext u⟩)
   have HCE:=Lib.hid (And.intro e0 (And.intro e1 e2))
   have HON:=Lib.hid (fun (w':World) (u:Upd [] w1 w')=>own_calls (HAU.out w' u))
   obtain ⟨er,hee⟩:∃ er,vErr a=er:=⟨_,rfl⟩
   have f0:=HXU.out.some e0 (by simp)
   have f1:=HXU.out.some e1 (by simp)
   have f2:=HXU.out.some e2 (by simp)
   have HRV:=Lib.hid (show Calls Tryz.prog 20 #[.agg #[.slice a1 a.cuts.length c1,.slice a2 a.next.length c2,.slice a3 a.acc.length c3]] wq fun e w'=>e=.returned (.int .i64 er)∧Upd [] wq w' from by have h:=rValid_calls (HAU.out wq HXU.out);rwa [hee] at h)
   have HAR:=Lib.hid (fun (w':World)=>Around_calls stt ((a.next.length:Int)+2) w' HI.out.2 (by omega) (by omega))
   have hal:=around_lo (n:=stt) (k:=(a.next.length:Int)+2) (by omega)
   have hah:=around_hi (n:=stt) (k:=(a.next.length:Int)+2) (by omega)
   have hfewi:(a.next.length:Int)≤1000:=by omega
   generalize around stt ((a.next.length:Int)+2)=ar at *
   clear hF hFF e0 e1 e2 ha
   have hwr:wrap64 (ar-1)=ar-1:=by unfold Go.RowKit.wrap64;omega
   have HFB:=Lib.hid (And.intro hal (And.intro hah hfew))
   clear hah hfew
   by_cases he:er=0
   ·subst he
    clear K2
    rename_i x1 x2 x3 x4 x5 x6 x7
    revert HI ls HC1 HL5 HFE x1 w1 x2 x3 lg lc HLS gk u12 u15 u16 u17 u18 u19 u20 u21 u22 u23 u24 u25 u26 u27 u28 u29 u30 u37 u38 u39 u40 u41 u42 u43 u44 u45 u46 u47 u48 u49 u50 u51 u52 u53 u54 u55 u56 u57 u58 u59 u60 u61 u62 u63 u64 u65 u66 u67 u68 u69 u70 u71 u72 u73 u74 u75 u76 u77 u78 u79 u80 u81 u82 u83 u84 u85 u86 u87 u88 u89 u90 u91 u92 u93 u94 u95 u96 u97 u98 u99 u100 u101 u102 u103 u104 u105 u106 u107 u108 u109 u110 u111 u112 u113 u114 u115 u116 u117 u118 u119 u120 u121 u122 u123 u124 u125 u126 u127 u128 u129 u130 u131 u132 u133 u134 u135 u136 u137 u138 u139 u140 u141 u142 u143 u144 u145 u146 u147 u148 u149 u150 u151 u152 u153 u154 u155 u156 u157 u158 u159 u160 u161 u162 u163 u164 u165 u166 u167 u168 u169 u170 u171 u172 u173 u174 u175 u176 u177 u178 u179 u180 u181 u182 u183 u184 u185 u186 u187 u188 u189 u190 u191 u192 u193 u194 u195 u196 u197 u198 u199 u200 u201 u202 u203 u204 u205 u206 u207 u208 u209 u210 u211 u212 u213 u214 u215 u216 u217 u218 u219 u220 u221 u222 u223 u224 u225 u226 u227 u228 u229 u230 u231 u232 u233 u234 u235 u236 u237 u238 u239 u240 u241 u242 u243 u244 u245 u246 u247 u248 u249 u250 u251 u252 u253 u254 u255 u256 u257 u258 u259 u260 u261 u262 u263 u264 u265 u266 u267 u268 u269 u270 u271 u272 u273 u274 u275 u276 u277 u278 u279 u280 u281 u282 u283 x4 x5 x6 x7 m hm x wq HXU hlt hli hm5 a a1 c1 a2 c2 a3 c3 HAU HCE HON f0 f1 f2 hfewi ar HAR hal hwr HFB hee HRV
    exact K1.out
   ·clear K1
    rename_i x1 x2 x3 x4 x5 x6 x7
    revert HI ls HC1 HL5 HFE x1 w1 x2 x3 lg lc HLS gk u12 u15 u16 u17 u18 u19 u20 u21 u22 u23 u24 u25 u26 u27 u28 u29 u30 u37 u38 u39 u40 u41 u42 u43 u44 u45 u46 u47 u48 u49 u50 u51 u52 u53 u54 u55 u56 u57 u58 u59 u60 u61 u62 u63 u64 u65 u66 u67 u68 u69 u70 u71 u72 u73 u74 u75 u76 u77 u78 u79 u80 u81 u82 u83 u84 u85 u86 u87 u88 u89 u90 u91 u92 u93 u94 u95 u96 u97 u98 u99 u100 u101 u102 u103 u104 u105 u106 u107 u108 u109 u110 u111 u112 u113 u114 u115 u116 u117 u118 u119 u120 u121 u122 u123 u124 u125 u126 u127 u128 u129 u130 u131 u132 u133 u134 u135 u136 u137 u138 u139 u140 u141 u142 u143 u144 u145 u146 u147 u148 u149 u150 u151 u152 u153 u154 u155 u156 u157 u158 u159 u160 u161 u162 u163 u164 u165 u166 u167 u168 u169 u170 u171 u172 u173 u174 u175 u176 u177 u178 u179 u180 u181 u182 u183 u184 u185 u186 u187 u188 u189 u190 u191 u192 u193 u194 u195 u196 u197 u198 u199 u200 u201 u202 u203 u204 u205 u206 u207 u208 u209 u210 u211 u212 u213 u214 u215 u216 u217 u218 u219 u220 u221 u222 u223 u224 u225 u226 u227 u228 u229 u230 u231 u232 u233 u234 u235 u236 u237 u238 u239 u240 u241 u242 u243 u244 u245 u246 u247 u248 u249 u250 u251 u252 u253 u254 u255 u256 u257 u258 u259 u260 u261 u262 u263 u264 u265 u266 u267 u268 u269 u270 u271 u272 u273 u274 u275 u276 u277 u278 u279 u280 u281 u282 u283 x4 x5 x6 x7 m hm x wq HXU hlt hli hm5 a a1 c1 a2 c2 a3 c3 HAU HCE HON er hee f0 f1 f2 HRV hfewi ar HAR hal hwr HFB he
    exact K2.out
  ·have hnm:¬ ((m:Int)<ls.length):=by omega
   have HLV:=Lib.hid (lives_calls (w:=wq))
   go_wp2_with ((with_reducible refine HLV.out.mono ?_);rintro e w8 ⟨rfl,u8⟩)
   go_ret
   exact ⟨rfl,(HLS.out.1.step HXU.out).step u8⟩)
end
end Law
end Go.Proofs.YtjclbjdkkdijbaaGreat
end
section
open Go.RowKit
namespace Go.Proofs.YtjclbjdkkdijbaaGreat
open L
namespace Law
open Aut Auto R01 Rgx
attribute [-go_sem] sliced
set_option maxRecDepth 100000 in
set_option maxHeartbeats 16000000 in
def wzo (w:World) (v v2:Value) (xs ys:List Int) (at_ how by_ stt:Int) (H0:RowKit.Hid ((∀ x∈xs,IsI64 x)∧SL w 1 v xs.length (ints xs)∧(∀ x∈ys,IsI64 x)∧SL w 1 v2 ys.length (ints ys)∧IsI64 at_∧IsI64 how∧IsI64 by_∧IsI64 stt)):{ T:Prop × Prop × Prop // RowKit.Hid T.1→RowKit.Hid T.2.1→RowKit.Hid T.2.2→RowKit.Hid (wz w v v2 xs ys at_ how by_ stt H0).1.1 }:=
 cut3 _ _ _ (by
 intro K1 K2 K3
 refine Lib.hid ?_
 dsimp -zeta only [wz,cut2]
 unhygienic intros
 have HOK:=Lib.hid (And.intro (vErr_ok hee) hee)
 go_upto_region 6 with ((with_reducible refine HRV.out.mono ?_);rintro e w5 ⟨rfl,u5⟩)
 have HX5:=Lib.hid (HXU.out.step u5)
 have f0:=u5.some f0 (by simp)
 have f1:=u5.some f1 (by simp)
 have f2:=u5.some f2 (by simp)
 have HON5:=Lib.hid (HON.out w5 HX5.out)
 clear u5
 go_upto_region 7 with (first|((with_reducible refine HON5.out.mono ?_);rintro e w6 ⟨v6,rfl,o6,u6⟩;have HVC:=Lib.hid (HOK.out.2 ▸ Least_calls o6);have HU6:=Lib.hid u6;clear u6 o6)|((with_reducible refine HVC.out.mono ?_);rintro e w7 ⟨rfl,u7⟩))
 have HX7:=Lib.hid ((HX5.out.step HU6.out).step u7)
 clear f0 f1 f2 u7
 go_upto_region 9 with fail
 go_upto_region 10 with fail
 change Code.wp _ _ _ _ (w7.alloc (.cells #[.int .i64 by_,.int .i64 0,.int .i64 7,.int .i64 64,.int .i64 65,.int .i64 (-1)] 3))
 have HB:=Lib.hid (show Blk (w7.alloc (.cells #[.int .i64 by_,.int .i64 0,.int .i64 7,.int .i64 64,.int .i64 65,.int .i64 (-1)] 3)) w7.heap.size [.int .i64 by_,.int .i64 0,.int .i64 7,.int .i64 64,.int .i64 65,.int .i64 (-1)] 3∧Upd [] w7 (w7.alloc (.cells #[.int .i64 by_,.int .i64 0,.int .i64 7,.int .i64 64,.int .i64 65,.int .i64 (-1)] 3)) from ⟨Blk.new w7 [.int .i64 by_,.int .i64 0,.int .i64 7,.int .i64 64,.int .i64 65,.int .i64 (-1)] _,(Upd.refl [] w7).alloc _⟩)
 generalize (w7.alloc (.cells #[.int .i64 by_,.int .i64 0,.int .i64 7,.int .i64 64,.int .i64 65,.int .i64 (-1)] 3))=w8 at *
 generalize w7.heap.size=mb at *
 have HX8:=Lib.hid (HX7.out.step HB.out.2)
 have f1:=HX8.out.some HCE.out.2.1 (by simp)
 go_upto_region 11 with ((with_reducible refine (HAR.out _).mono ?_);rintro e _ ⟨rfl,rfl⟩)
 change Code.wp _ _ _ _ (w8.alloc (.cells #[.int .i64 stt,.int .i64 0,.int .i64 (ar-1)] 3))
 have HS:=Lib.hid (show Blk (w8.alloc (.cells #[.int .i64 stt,.int .i64 0,.int .i64 (ar-1)] 3)) w8.heap.size [.int .i64 stt,.int .i64 0,.int .i64 (ar-1)] 3∧Upd [] w8 (w8.alloc (.cells #[.int .i64 stt,.int .i64 0,.int .i64 (ar-1)] 3)) from ⟨Blk.new w8 [.int .i64 stt,.int .i64 0,.int .i64 (ar-1)] _,(Upd.refl [] w8).alloc _⟩)
 generalize (w8.alloc (.cells #[.int .i64 stt,.int .i64 0,.int .i64 (ar-1)] 3))=w9 at *
 generalize w8.heap.size=sb at *
 have HX9:=Lib.hid (HX8.out.step HS.out.2)
 have HMB:=Lib.hid (HB.out.1.upd HS.out.2 (by simp))
 have HSB:=Lib.hid HS.out.1
 clear f1 HAR hwr
 go_wp2_with fail
 go_loopg [21] 6 (fun gk kv wr=>∃ k:Nat,kv=.int .i64 k∧k+gk=6∧∃ x:Ext w9,wr=x.val)
 case atStart=>exact ⟨0,rfl,rfl,Ext.of (by iterate 25 (first|exact Upd.refl _ _|assumption|refine Upd.alloc ?_ _|refine Upd.drew ?_|refine Upd.drewN ?_ _|refine Upd.dl ?_|refine Upd.step ?_ (Ext.upd _)|refine Upd.nil ?_|skip))⟩
 case round=>
  obtain ⟨k,rfl,hk,x,rfl⟩:=hrel
  have HXA:=Lib.hid (HX9.out.step x.upd)
  have HY:=Lib.hid x.upd
  generalize x.val=wa at *
  by_cases hk6:k<6
  ·have hki:(k:Int)<6:=by omega
   obtain ⟨mo,hw⟩:∃ mo:Int,([.int .i64 by_,.int .i64 0,.int .i64 7,.int .i64 64,.int .i64 65,.int .i64 (-1)]:List Value)[k]?=some (.int .i64 mo):=by
    rcases (by omega:k=0∨k=1∨k=2∨k=3∨k=4∨k=5) with rfl|rfl|rfl|rfl|rfl|rfl <;> exact ⟨_,rfl⟩
   have HW:=Lib.hid hw
   clear hw
   have HFI:=Lib.hid (show (0≤mo∧mo≤64)∨¬ 0≤mo∨(0≤mo∧¬ mo≤64) by omega)
   have wc0:=(HMB.out.upd HY.out (by simp)).cell HW.out
   have f0:=HXA.out.some HCE.out.1 (by simp)
   have f1:=HXA.out.some HCE.out.2.1 (by simp)
   have f2:=HXA.out.some HCE.out.2.2 (by simp)
   rcases HFI.out with ⟨hu0,hu1⟩|hu0|⟨hu0,hu1⟩
   ·clear K2 K3
    rename_i xa1 xa2 xa3 xa4 xa5 xa6 xa7 xa8 xa9 xa10 xa11 xa12 xa13 xa14 xa15 xa16 xa17 xa18 xa19 xa20 xa21 xa22 xa23 xa24 xa25 xa26 xa27 xa28 xa29 xa30 xa31 xa32 xa33 xa34 xa35 xa36 xa37 xa38 xa39 xa40 xa41 xa42 xa43 xa44 xa45 xa46 xa47 xa48 xa49 xa50 xa51 xa52 xa53 xa54 xa55 xa56 xa57 xa58 xa59 xa60 xa61 xa62 xa63 xa64 xa65 xa66 xa67 xa68 xa69 xa70 xa71 xa72 xa73 xa74 xa75 xa76 xa77 xa78 xa79 xa80 xa81 xa82 xa83 xa84 xa85 xa86 xa87 xa88 xa89 xa90 xa91 xa92 xa93 xa94 xa95 xa96 xa97 xa98 xa99 xa100 xa101 xa102 xa103 xa104 xa105 xa106 xa107 xa108 xa109 xa110 xa111 xa112 xa113 xa114 xa115 xa116 xa117 xa118 xa119 xa120 xa121 xa122 xa123 xa124 xa125 xa126 xa127 xa128 xa129 xa130 xa131 xa132 xa133 xa134 xa135 xa136 xa137 xa138 xa139 xa140 xa141 xa142 xa143 xa144 xa145 xa146 xa147 xa148 xa149 xa150 xa151 xa152 xa153 xa154 xa155 xa156 xa157 xa158 xa159 xa160 xa161 xa162 xa163 xa164 xa165 xa166 xa167 xa168 xa169 xa170 xa171 xa172 xa173 xa174 xa175 xa176 xa177 xa178 xa179 xa180 xa181 xa182 xa183 xa184 xa185 xa186 xa187 xa188 xa189 xa190 xa191 xa192 xa193 xa194 xa195 xa196 xa197 xa198 xa199 xa200 xa201
    revert HI ls HC1 HL5 HFE x1 w1 x2 x3 lg lc HLS xa1 xa2 u15 u16 u17 u18 u19 u20 u21 xa3 xa4 xa5 xa6 xa7 xa8 xa9 u29 u30 u37 u38 u39 u40 u41 u42 u43 u44 u45 u46 u47 u48 u49 u50 u51 u52 u53 u54 u55 u56 u57 u58 u59 u60 u61 u62 u63 u64 u65 u66 u67 u68 u69 u70 u71 u72 u73 u74 u75 u76 u77 u78 u79 u80 u81 u82 u83 u84 u85 xa10 xa11 xa12 xa13 xa14 xa15 xa16 xa17 xa18 xa19 xa20 xa21 xa22 xa23 xa24 xa25 xa26 xa27 xa28 xa29 xa30 xa31 xa32 xa33 xa34 xa35 xa36 xa37 xa38 xa39 xa40 xa41 xa42 xa43 xa44 xa45 xa46 xa47 xa48 xa49 xa50 xa51 xa52 xa53 xa54 xa55 xa56 xa57 xa58 xa59 xa60 xa61 xa62 xa63 xa64 xa65 xa66 xa67 xa68 xa69 xa70 xa71 xa72 xa73 xa74 xa75 xa76 xa77 xa78 xa79 xa80 xa81 xa82 xa83 xa84 xa85 xa86 xa87 xa88 xa89 xa90 xa91 xa92 xa93 xa94 xa95 xa96 xa97 xa98 xa99 xa100 xa101 xa102 xa103 xa104 xa105 xa106 xa107 xa108 xa109 xa110 xa111 xa112 xa113 xa114 xa115 xa116 xa117 xa118 xa119 xa120 xa121 xa122 xa123 xa124 xa125 xa126 xa127 xa128 xa129 xa130 xa131 xa132 xa133 xa134 xa135 xa136 xa137 xa138 xa139 xa140 xa141 xa142 xa143 xa144 xa145 xa146 xa147 xa148 xa149 xa150 xa151 xa152 xa153 xa154 xa155 xa156 xa157 xa158 xa159 xa160 xa161 xa162 xa163 xa164 xa165 xa166 xa167 xa168 xa169 xa170 xa171 xa172 xa173 xa174 xa175 xa176 xa177 xa178 xa179 xa180 xa181 xa182 xa183 xa184 xa185 xa186 xa187 xa188 xa189 u266 u267 u268 u269 u270 u271 u272 u273 u274 u275 u276 u277 u278 u279 u280 u281 u282 u283 x4 x5 x6 x7 m hm xa190 wq HXU hlt hli hm5 a a1 c1 a2 c2 a3 c3 HAU HCE HON xa191 xa192 xa193 hfewi ar hal HFB hee HRV HOK xa194 xa195 w5 HX5 HON5 w6 v6 HVC HU6 w7 HX7 w8 mb HB HX8 xa196 xa197 w9 sb HS HX9 HMB HSB gk u12 u22 u23 u24 u25 u26 u27 u28 u86 u87 u88 u89 u90 u91 u92 u93 u94 u95 u96 u97 u98 u99 u100 u101 u102 u103 u104 u105 u106 u107 u108 u109 u110 u111 u112 u113 u114 u115 u116 u117 u118 u119 u120 u121 u122 u123 u124 u125 u126 u127 u128 u129 u130 u131 u132 u133 u134 u135 u136 u137 u138 u139 u140 u141 u142 u143 u144 u145 u146 u147 u148 u149 u150 u151 u152 u153 u154 u155 u156 u157 u158 u159 u160 u161 u162 u163 u164 u165 u166 u167 u168 u169 u170 u171 u172 u173 u174 u175 u176 u177 u178 u179 u180 u181 u182 u183 u184 u185 u186 u187 u188 u189 u190 u191 u192 u193 u194 u195 u196 u197 u198 u199 u200 u201 u202 u203 u204 u205 u206 u207 u208 u209 u210 u211 u212 u213 u214 u215 u216 u217 u218 u219 u220 u221 u222 u223 u224 u225 u226 u227 u228 u229 u230 u231 u232 u233 u234 u235 u236 u237 u238 u239 u240 u241 u242 u243 u244 u245 u246 u247 u248 u249 u250 u251 u252 u253 u254 u255 u256 u257 u258 u259 u260 u261 u262 u263 u264 u265 xa198 xa199 xa200 xa201 k hk x wa HXA HY hk6 hki mo HW HFI wc0 f0 f1 f2 hu0 hu1
    exact K1.out
   ·clear K1 K3
    rename_i xa1 xa2 xa3 xa4 xa5 xa6 xa7 xa8 xa9 xa10 xa11 xa12 xa13 xa14 xa15 xa16 xa17 xa18 xa19 xa20 xa21 xa22 xa23 xa24 xa25 xa26 xa27 xa28 xa29 xa30 xa31 xa32 xa33 xa34 xa35 xa36 xa37 xa38 xa39 xa40 xa41 xa42 xa43 xa44 xa45 xa46 xa47 xa48 xa49 xa50 xa51 xa52 xa53 xa54 xa55 xa56 xa57 xa58 xa59 xa60 xa61 xa62 xa63 xa64 xa65 xa66 xa67 xa68 xa69 xa70 xa71 xa72 xa73 xa74 xa75 xa76 xa77 xa78 xa79 xa80 xa81 xa82 xa83 xa84 xa85 xa86 xa87 xa88 xa89 xa90 xa91 xa92 xa93 xa94 xa95 xa96 xa97 xa98 xa99 xa100 xa101 xa102 xa103 xa104 xa105 xa106 xa107 xa108 xa109 xa110 xa111 xa112 xa113 xa114 xa115 xa116 xa117 xa118 xa119 xa120 xa121 xa122 xa123 xa124 xa125 xa126 xa127 xa128 xa129 xa130 xa131 xa132 xa133 xa134 xa135 xa136 xa137 xa138 xa139 xa140 xa141 xa142 xa143 xa144 xa145 xa146 xa147 xa148 xa149 xa150 xa151 xa152 xa153 xa154 xa155 xa156 xa157 xa158 xa159 xa160 xa161 xa162 xa163 xa164 xa165 xa166 xa167 xa168 xa169 xa170 xa171 xa172 xa173 xa174 xa175 xa176 xa177 xa178 xa179 xa180 xa181 xa182 xa183 xa184 xa185 xa186 xa187 xa188 xa189 xa190 xa191 xa192 xa193 xa194 xa195 xa196 xa197 xa198 xa199 xa200 xa201
    revert HI ls HC1 HL5 HFE x1 w1 x2 x3 lg lc HLS xa1 xa2 u15 u16 u17 u18 u19 u20 u21 xa3 xa4 xa5 xa6 xa7 xa8 xa9 u29 u30 u37 u38 u39 u40 u41 u42 u43 u44 u45 u46 u47 u48 u49 u50 u51 u52 u53 u54 u55 u56 u57 u58 u59 u60 u61 u62 u63 u64 u65 u66 u67 u68 u69 u70 u71 u72 u73 u74 u75 u76 u77 u78 u79 u80 u81 u82 u83 u84 u85 xa10 xa11 xa12 xa13 xa14 xa15 xa16 xa17 xa18 xa19 xa20 xa21 xa22 xa23 xa24 xa25 xa26 xa27 xa28 xa29 xa30 xa31 xa32 xa33 xa34 xa35 xa36 xa37 xa38 xa39 xa40 xa41 xa42 xa43 xa44 xa45 xa46 xa47 xa48 xa49 xa50 xa51 xa52 xa53 xa54 xa55 xa56 xa57 xa58 xa59 xa60 xa61 xa62 xa63 xa64 xa65 xa66 xa67 xa68 xa69 xa70 xa71 xa72 xa73 xa74 xa75 xa76 xa77 xa78 xa79 xa80 xa81 xa82 xa83 xa84 xa85 xa86 xa87 xa88 xa89 xa90 xa91 xa92 xa93 xa94 xa95 xa96 xa97 xa98 xa99 xa100 xa101 xa102 xa103 xa104 xa105 xa106 xa107 xa108 xa109 xa110 xa111 xa112 xa113 xa114 xa115 xa116 xa117 xa118 xa119 xa120 xa121 xa122 xa123 xa124 xa125 xa126 xa127 xa128 xa129 xa130 xa131 xa132 xa133 xa134 xa135 xa136 xa137 xa138 xa139 xa140 xa141 xa142 xa143 xa144 xa145 xa146 xa147 xa148 xa149 xa150 xa151 xa152 xa153 xa154 xa155 xa156 xa157 xa158 xa159 xa160 xa161 xa162 xa163 xa164 xa165 xa166 xa167 xa168 xa169 xa170 xa171 xa172 xa173 xa174 xa175 xa176 xa177 xa178 xa179 xa180 xa181 xa182 xa183 xa184 xa185 xa186 xa187 xa188 xa189 u266 u267 u268 u269 u270 u271 u272 u273 u274 u275 u276 u277 u278 u279 u280 u281 u282 u283 x4 x5 x6 x7 m hm xa190 wq HXU hlt hli hm5 a a1 c1 a2 c2 a3 c3 HAU HCE HON xa191 xa192 xa193 hfewi ar hal HFB hee HRV HOK xa194 xa195 w5 HX5 HON5 w6 v6 HVC HU6 w7 HX7 w8 mb HB HX8 xa196 xa197 w9 sb HS HX9 HMB HSB gk u12 u22 u23 u24 u25 u26 u27 u28 u86 u87 u88 u89 u90 u91 u92 u93 u94 u95 u96 u97 u98 u99 u100 u101 u102 u103 u104 u105 u106 u107 u108 u109 u110 u111 u112 u113 u114 u115 u116 u117 u118 u119 u120 u121 u122 u123 u124 u125 u126 u127 u128 u129 u130 u131 u132 u133 u134 u135 u136 u137 u138 u139 u140 u141 u142 u143 u144 u145 u146 u147 u148 u149 u150 u151 u152 u153 u154 u155 u156 u157 u158 u159 u160 u161 u162 u163 u164 u165 u166 u167 u168 u169 u170 u171 u172 u173 u174 u175 u176 u177 u178 u179 u180 u181 u182 u183 u184 u185 u186 u187 u188 u189 u190 u191 u192 u193 u194 u195 u196 u197 u198 u199 u200 u201 u202 u203 u204 u205 u206 u207 u208 u209 u210 u211 u212 u213 u214 u215 u216 u217 u218 u219 u220 u221 u222 u223 u224 u225 u226 u227 u228 u229 u230 u231 u232 u233 u234 u235 u236 u237 u238 u239 u240 u241 u242 u243 u244 u245 u246 u247 u248 u249 u250 u251 u252 u253 u254 u255 u256 u257 u258 u259 u260 u261 u262 u263 u264 u265 xa198 xa199 xa200 xa201 k hk x wa HXA HY hk6 hki mo HW HFI wc0 f0 f1 f2 hu0
    exact K2.out
   ·clear K1 K2
    rename_i xa1 xa2 xa3 xa4 xa5 xa6 xa7 xa8 xa9 xa10 xa11 xa12 xa13 xa14 xa15 xa16 xa17 xa18 xa19 xa20 xa21 xa22 xa23 xa24 xa25 xa26 xa27 xa28 xa29 xa30 xa31 xa32 xa33 xa34 xa35 xa36 xa37 xa38 xa39 xa40 xa41 xa42 xa43 xa44 xa45 xa46 xa47 xa48 xa49 xa50 xa51 xa52 xa53 xa54 xa55 xa56 xa57 xa58 xa59 xa60 xa61 xa62 xa63 xa64 xa65 xa66 xa67 xa68 xa69 xa70 xa71 xa72 xa73 xa74 xa75 xa76 xa77 xa78 xa79 xa80 xa81 xa82 xa83 xa84 xa85 xa86 xa87 xa88 xa89 xa90 xa91 xa92 xa93 xa94 xa95 xa96 xa97 xa98 xa99 xa100 xa101 xa102 xa103 xa104 xa105 xa106 xa107 xa108 xa109 xa110 xa111 xa112 xa113 xa114 xa115 xa116 xa117 xa118 xa119 xa120 xa121 xa122 xa123 xa124 xa125 xa126 xa127 xa128 xa129 xa130 xa131 xa132 xa133 xa134 xa135 xa136 xa137 xa138 xa139 xa140 xa141 xa142 xa143 xa144 xa145 xa146 xa147 xa148 xa149 xa150 xa151 xa152 xa153 xa154 xa155 xa156 xa157 xa158 xa159 xa160 xa161 xa162 xa163 xa164 xa165 xa166 xa167 xa168 xa169 xa170 xa171 xa172 xa173 xa174 xa175 xa176 xa177 xa178 xa179 xa180 xa181 xa182 xa183 xa184 xa185 xa186 xa187 xa188 xa189 xa190 xa191 xa192 xa193 xa194 xa195 xa196 xa197 xa198 xa199 xa200 xa201
    revert HI ls HC1 HL5 HFE x1 w1 x2 x3 lg lc HLS xa1 xa2 u15 u16 u17 u18 u19 u20 u21 xa3 xa4 xa5 xa6 xa7 xa8 xa9 u29 u30 u37 u38 u39 u40 u41 u42 u43 u44 u45 u46 u47 u48 u49 u50 u51 u52 u53 u54 u55 u56 u57 u58 u59 u60 u61 u62 u63 u64 u65 u66 u67 u68 u69 u70 u71 u72 u73 u74 u75 u76 u77 u78 u79 u80 u81 u82 u83 u84 u85 xa10 xa11 xa12 xa13 xa14 xa15 xa16 xa17 xa18 xa19 xa20 xa21 xa22 xa23 xa24 xa25 xa26 xa27 xa28 xa29 xa30 xa31 xa32 xa33 xa34 xa35 xa36 xa37 xa38 xa39 xa40 xa41 xa42 xa43 xa44 xa45 xa46 xa47 xa48 xa49 xa50 xa51 xa52 xa53 xa54 xa55 xa56 xa57 xa58 xa59 xa60 xa61 xa62 xa63 xa64 xa65 xa66 xa67 xa68 xa69 xa70 xa71 xa72 xa73 xa74 xa75 xa76 xa77 xa78 xa79 xa80 xa81 xa82 xa83 xa84 xa85 xa86 xa87 xa88 xa89 xa90 xa91 xa92 xa93 xa94 xa95 xa96 xa97 xa98 xa99 xa100 xa101 xa102 xa103 xa104 xa105 xa106 xa107 xa108 xa109 xa110 xa111 xa112 xa113 xa114 xa115 xa116 xa117 xa118 xa119 xa120 xa121 xa122 xa123 xa124 xa125 xa126 xa127 xa128 xa129 xa130 xa131 xa132 xa133 xa134 xa135 xa136 xa137 xa138 xa139 xa140 xa141 xa142 xa143 xa144 xa145 xa146 xa147 xa148 xa149 xa150 xa151 xa152 xa153 xa154 xa155 xa156 xa157 xa158 xa159 xa160 xa161 xa162 xa163 xa164 xa165 xa166 xa167 xa168 xa169 xa170 xa171 xa172 xa173 xa174 xa175 xa176 xa177 xa178 xa179 xa180 xa181 xa182 xa183 xa184 xa185 xa186 xa187 xa188 xa189 u266 u267 u268 u269 u270 u271 u272 u273 u274 u275 u276 u277 u278 u279 u280 u281 u282 u283 x4 x5 x6 x7 m hm xa190 wq HXU hlt hli hm5 a a1 c1 a2 c2 a3 c3 HAU HCE HON xa191 xa192 xa193 hfewi ar hal HFB hee HRV HOK xa194 xa195 w5 HX5 HON5 w6 v6 HVC HU6 w7 HX7 w8 mb HB HX8 xa196 xa197 w9 sb HS HX9 HMB HSB gk u12 u22 u23 u24 u25 u26 u27 u28 u86 u87 u88 u89 u90 u91 u92 u93 u94 u95 u96 u97 u98 u99 u100 u101 u102 u103 u104 u105 u106 u107 u108 u109 u110 u111 u112 u113 u114 u115 u116 u117 u118 u119 u120 u121 u122 u123 u124 u125 u126 u127 u128 u129 u130 u131 u132 u133 u134 u135 u136 u137 u138 u139 u140 u141 u142 u143 u144 u145 u146 u147 u148 u149 u150 u151 u152 u153 u154 u155 u156 u157 u158 u159 u160 u161 u162 u163 u164 u165 u166 u167 u168 u169 u170 u171 u172 u173 u174 u175 u176 u177 u178 u179 u180 u181 u182 u183 u184 u185 u186 u187 u188 u189 u190 u191 u192 u193 u194 u195 u196 u197 u198 u199 u200 u201 u202 u203 u204 u205 u206 u207 u208 u209 u210 u211 u212 u213 u214 u215 u216 u217 u218 u219 u220 u221 u222 u223 u224 u225 u226 u227 u228 u229 u230 u231 u232 u233 u234 u235 u236 u237 u238 u239 u240 u241 u242 u243 u244 u245 u246 u247 u248 u249 u250 u251 u252 u253 u254 u255 u256 u257 u258 u259 u260 u261 u262 u263 u264 u265 xa198 xa199 xa200 xa201 k hk x wa HXA HY hk6 hki mo HW HFI wc0 f0 f1 f2 hu0 hu1
    exact K3.out
  ·have hnk:¬ ((k:Int)<6):=by omega
   clear K1 K2 K3
   have f0:=HXA.out.some HCE.out.1 (by simp)
   have f1:=HXA.out.some HCE.out.2.1 (by simp)
   have f2:=HXA.out.some HCE.out.2.2 (by simp)
   have HLR:=Lib.hid (fun (w':World) (u:Upd [] w1 w')=>LeastR_calls (HAU.out w' u) HOK.out.1 HOK.out.2)
   go_upto_region 30 with ((with_reducible refine (HLR.out _ HXA.out).mono ?_);rintro e wb ⟨rfl,u7⟩)
   have HX7:=Lib.hid (HXA.out.step u7)
   clear f0 f1 f2 u7
   go_wp2_with fail
   go_roundg (ls.length - (m+1))
   case measure=>omega
   case rel=>exact ⟨m+1,by go_num,by omega,Ext.of HX7.out⟩)
end Law
end Go.Proofs.YtjclbjdkkdijbaaGreat
end
section
open Go.RowKit
namespace Go.Proofs.YtjclbjdkkdijbaaGreat
open L
namespace Law
open Aut Auto R01 Rgx
attribute [-go_sem] sliced
set_option maxRecDepth 100000 in
set_option maxHeartbeats 16000000 in
def wze (w:World) (v v2:Value) (xs ys:List Int) (at_ how by_ stt:Int) (H0:RowKit.Hid ((∀ x∈xs,IsI64 x)∧SL w 1 v xs.length (ints xs)∧(∀ x∈ys,IsI64 x)∧SL w 1 v2 ys.length (ints ys)∧IsI64 at_∧IsI64 how∧IsI64 by_∧IsI64 stt)):{ T:Prop × Prop × Prop // RowKit.Hid T.1→RowKit.Hid T.2.1→RowKit.Hid T.2.2→RowKit.Hid (wz w v v2 xs ys at_ how by_ stt H0).1.2 }:=
 cut3 _ _ _ (by
 intro K1 K2 K3
 refine Lib.hid ?_
 dsimp -zeta only [wz,cut2]
 unhygienic intros
 have heb:(er != 0)=true:=by simpa using he
 have her:((er:Int) != er)=false:=by simp
 have hez:(er == 0)=false:=by simpa using he
 go_upto_region 6 with ((with_reducible refine HRV.out.mono ?_);rintro e w5 ⟨rfl,u5⟩)
 have HX5:=Lib.hid (HXU.out.step u5)
 have f0:=u5.some f0 (by simp)
 have f1:=u5.some f1 (by simp)
 have f2:=u5.some f2 (by simp)
 have HON5:=Lib.hid (HON.out w5 HX5.out)
 clear u5
 have HLE:=Lib.hid (show lstS a=⟨#[]⟩∧lstB a=false from by unfold lstS lstB;rw [if_pos (by rw [hee];exact he),if_pos (by rw [hee];exact he)];exact ⟨rfl,rfl⟩)
 have HLL:=Lib.hid (fun (v6:Value) (w6:World) (o6:AuV w6 a v6)=>show Calls Tryz.prog 21 #[v6] w6 fun e w'=>e=.returned (.tuple #[.string ⟨#[]⟩,.bool false,.int .i64 er])∧Upd [] w6 w' from by have h:=Least_calls o6;rwa [hee,HLE.out.1,HLE.out.2] at h)
 go_upto_region 7 with (first|((with_reducible refine HON5.out.mono ?_);rintro e w6 ⟨v6,rfl,o6,u6⟩;have HVC:=Lib.hid (HLL.out _ _ o6);have HU6:=Lib.hid u6;clear u6 o6)|((with_reducible refine HVC.out.mono ?_);rintro e w7 ⟨rfl,u7⟩))
 have HX7:=Lib.hid ((HX5.out.step HU6.out).step u7)
 clear f0 f1 f2 u7
 go_upto_region 9 with fail
 go_upto_region 10 with fail
 change Code.wp _ _ _ _ (w7.alloc (.cells #[.int .i64 by_,.int .i64 0,.int .i64 7,.int .i64 64,.int .i64 65,.int .i64 (-1)] 3))
 have HB:=Lib.hid (show Blk (w7.alloc (.cells #[.int .i64 by_,.int .i64 0,.int .i64 7,.int .i64 64,.int .i64 65,.int .i64 (-1)] 3)) w7.heap.size [.int .i64 by_,.int .i64 0,.int .i64 7,.int .i64 64,.int .i64 65,.int .i64 (-1)] 3∧Upd [] w7 (w7.alloc (.cells #[.int .i64 by_,.int .i64 0,.int .i64 7,.int .i64 64,.int .i64 65,.int .i64 (-1)] 3)) from ⟨Blk.new w7 [.int .i64 by_,.int .i64 0,.int .i64 7,.int .i64 64,.int .i64 65,.int .i64 (-1)] _,(Upd.refl [] w7).alloc _⟩)
 generalize (w7.alloc (.cells #[.int .i64 by_,.int .i64 0,.int .i64 7,.int .i64 64,.int .i64 65,.int .i64 (-1)] 3))=w8 at *
 generalize w7.heap.size=mb at *
 have HX8:=Lib.hid (HX7.out.step HB.out.2)
 have f1:=HX8.out.some HCE.out.2.1 (by simp)
 go_upto_region 11 with ((with_reducible refine (HAR.out _).mono ?_);rintro e _ ⟨rfl,rfl⟩)
 change Code.wp _ _ _ _ (w8.alloc (.cells #[.int .i64 stt,.int .i64 0,.int .i64 (ar-1)] 3))
 have HS:=Lib.hid (show Blk (w8.alloc (.cells #[.int .i64 stt,.int .i64 0,.int .i64 (ar-1)] 3)) w8.heap.size [.int .i64 stt,.int .i64 0,.int .i64 (ar-1)] 3∧Upd [] w8 (w8.alloc (.cells #[.int .i64 stt,.int .i64 0,.int .i64 (ar-1)] 3)) from ⟨Blk.new w8 [.int .i64 stt,.int .i64 0,.int .i64 (ar-1)] _,(Upd.refl [] w8).alloc _⟩)
 generalize (w8.alloc (.cells #[.int .i64 stt,.int .i64 0,.int .i64 (ar-1)] 3))=w9 at *
 generalize w8.heap.size=sb at *
 have HX9:=Lib.hid (HX8.out.step HS.out.2)
 have HMB:=Lib.hid (HB.out.1.upd HS.out.2 (by simp))
 have HSB:=Lib.hid HS.out.1
 clear f1 HAR hwr
 go_wp2_with fail
 go_loopg [21] 6 (fun gk kv wr=>∃ k:Nat,kv=.int .i64 k∧k+gk=6∧∃ x:Ext w9,wr=x.val)
 case atStart=>exact ⟨0,rfl,rfl,Ext.of (by iterate 25 (first|exact Upd.refl _ _|assumption|refine Upd.alloc ?_ _|refine Upd.drew ?_|refine Upd.drewN ?_ _|refine Upd.dl ?_|refine Upd.step ?_ (Ext.upd _)|refine Upd.nil ?_|skip))⟩
 case round=>
  obtain ⟨k,rfl,hk,x,rfl⟩:=hrel
  have HXA:=Lib.hid (HX9.out.step x.upd)
  have HY:=Lib.hid x.upd
  generalize x.val=wa at *
  by_cases hk6:k<6
  ·have hki:(k:Int)<6:=by omega
   obtain ⟨mo,hw⟩:∃ mo:Int,([.int .i64 by_,.int .i64 0,.int .i64 7,.int .i64 64,.int .i64 65,.int .i64 (-1)]:List Value)[k]?=some (.int .i64 mo):=by
    rcases (by omega:k=0∨k=1∨k=2∨k=3∨k=4∨k=5) with rfl|rfl|rfl|rfl|rfl|rfl <;> exact ⟨_,rfl⟩
   have HW:=Lib.hid hw
   clear hw
   have HFI:=Lib.hid (show (0≤mo∧mo≤64)∨¬ 0≤mo∨(0≤mo∧¬ mo≤64) by omega)
   have wc0:=(HMB.out.upd HY.out (by simp)).cell HW.out
   have f0:=HXA.out.some HCE.out.1 (by simp)
   have f1:=HXA.out.some HCE.out.2.1 (by simp)
   have f2:=HXA.out.some HCE.out.2.2 (by simp)
   rcases HFI.out with ⟨hu0,hu1⟩|hu0|⟨hu0,hu1⟩
   ·clear K2 K3
    rename_i xa1 xa2 xa3 xa4 xa5 xa6 xa7 xa8 xa9 xa10 xa11 xa12 xa13 xa14 xa15 xa16 xa17 xa18 xa19 xa20 xa21 xa22 xa23 xa24 xa25 xa26 xa27 xa28 xa29 xa30 xa31 xa32 xa33 xa34 xa35 xa36 xa37 xa38 xa39 xa40 xa41 xa42 xa43 xa44 xa45 xa46 xa47 xa48 xa49 xa50 xa51 xa52 xa53 xa54 xa55 xa56 xa57 xa58 xa59 xa60 xa61 xa62 xa63 xa64 xa65 xa66 xa67 xa68 xa69 xa70 xa71 xa72 xa73 xa74 xa75 xa76 xa77 xa78 xa79 xa80 xa81 xa82 xa83 xa84 xa85 xa86 xa87 xa88 xa89 xa90 xa91 xa92 xa93 xa94 xa95 xa96 xa97 xa98 xa99 xa100 xa101 xa102 xa103 xa104 xa105 xa106 xa107 xa108 xa109 xa110 xa111 xa112 xa113 xa114 xa115 xa116 xa117 xa118 xa119 xa120 xa121 xa122 xa123 xa124 xa125 xa126 xa127 xa128 xa129 xa130 xa131 xa132 xa133 xa134 xa135 xa136 xa137 xa138 xa139 xa140 xa141 xa142 xa143 xa144 xa145 xa146 xa147 xa148 xa149 xa150 xa151 xa152 xa153 xa154 xa155 xa156 xa157 xa158 xa159 xa160 xa161 xa162 xa163 xa164 xa165 xa166 xa167 xa168 xa169 xa170 xa171 xa172 xa173 xa174 xa175 xa176 xa177 xa178 xa179 xa180 xa181 xa182 xa183 xa184 xa185 xa186 xa187 xa188 xa189 xa190 xa191 xa192 xa193 xa194 xa195 xa196 xa197 xa198 xa199 xa200 xa201
    revert HI ls HC1 HL5 HFE x1 w1 x2 x3 lg lc HLS xa1 xa2 u15 u16 u17 u18 u19 u20 u21 xa3 xa4 xa5 xa6 xa7 xa8 xa9 u29 u30 u37 u38 u39 u40 u41 u42 u43 u44 u45 u46 u47 u48 u49 u50 u51 u52 u53 u54 u55 u56 u57 u58 u59 u60 u61 u62 u63 u64 u65 u66 u67 u68 u69 u70 u71 u72 u73 u74 u75 u76 u77 u78 u79 u80 u81 u82 u83 u84 u85 xa10 xa11 xa12 xa13 xa14 xa15 xa16 xa17 xa18 xa19 xa20 xa21 xa22 xa23 xa24 xa25 xa26 xa27 xa28 xa29 xa30 xa31 xa32 xa33 xa34 xa35 xa36 xa37 xa38 xa39 xa40 xa41 xa42 xa43 xa44 xa45 xa46 xa47 xa48 xa49 xa50 xa51 xa52 xa53 xa54 xa55 xa56 xa57 xa58 xa59 xa60 xa61 xa62 xa63 xa64 xa65 xa66 xa67 xa68 xa69 xa70 xa71 xa72 xa73 xa74 xa75 xa76 xa77 xa78 xa79 xa80 xa81 xa82 xa83 xa84 xa85 xa86 xa87 xa88 xa89 xa90 xa91 xa92 xa93 xa94 xa95 xa96 xa97 xa98 xa99 xa100 xa101 xa102 xa103 xa104 xa105 xa106 xa107 xa108 xa109 xa110 xa111 xa112 xa113 xa114 xa115 xa116 xa117 xa118 xa119 xa120 xa121 xa122 xa123 xa124 xa125 xa126 xa127 xa128 xa129 xa130 xa131 xa132 xa133 xa134 xa135 xa136 xa137 xa138 xa139 xa140 xa141 xa142 xa143 xa144 xa145 xa146 xa147 xa148 xa149 xa150 xa151 xa152 xa153 xa154 xa155 xa156 xa157 xa158 xa159 xa160 xa161 xa162 xa163 xa164 xa165 xa166 xa167 xa168 xa169 xa170 xa171 xa172 xa173 xa174 xa175 xa176 xa177 xa178 xa179 xa180 xa181 xa182 xa183 xa184 xa185 xa186 xa187 xa188 xa189 u266 u267 u268 u269 u270 u271 u272 u273 u274 u275 u276 u277 u278 u279 u280 u281 u282 u283 x4 x5 x6 x7 m hm xa190 wq HXU hlt hli hm5 a a1 c1 a2 c2 a3 c3 HAU HCE HON er hee xa191 xa192 xa193 HRV hfewi ar hal HFB he heb her hez xa194 xa195 w5 HX5 HON5 HLE HLL w6 v6 HVC HU6 w7 HX7 w8 mb HB HX8 xa196 xa197 w9 sb HS HX9 HMB HSB gk u12 u22 u23 u24 u25 u26 u27 u28 u86 u87 u88 u89 u90 u91 u92 u93 u94 u95 u96 u97 u98 u99 u100 u101 u102 u103 u104 u105 u106 u107 u108 u109 u110 u111 u112 u113 u114 u115 u116 u117 u118 u119 u120 u121 u122 u123 u124 u125 u126 u127 u128 u129 u130 u131 u132 u133 u134 u135 u136 u137 u138 u139 u140 u141 u142 u143 u144 u145 u146 u147 u148 u149 u150 u151 u152 u153 u154 u155 u156 u157 u158 u159 u160 u161 u162 u163 u164 u165 u166 u167 u168 u169 u170 u171 u172 u173 u174 u175 u176 u177 u178 u179 u180 u181 u182 u183 u184 u185 u186 u187 u188 u189 u190 u191 u192 u193 u194 u195 u196 u197 u198 u199 u200 u201 u202 u203 u204 u205 u206 u207 u208 u209 u210 u211 u212 u213 u214 u215 u216 u217 u218 u219 u220 u221 u222 u223 u224 u225 u226 u227 u228 u229 u230 u231 u232 u233 u234 u235 u236 u237 u238 u239 u240 u241 u242 u243 u244 u245 u246 u247 u248 u249 u250 u251 u252 u253 u254 u255 u256 u257 u258 u259 u260 u261 u262 u263 u264 u265 xa198 xa199 xa200 xa201 k hk x wa HXA HY hk6 hki mo HW HFI wc0 f0 f1 f2 hu0 hu1
    exact K1.out
   ·clear K1 K3
    rename_i xa1 xa2 xa3 xa4 xa5 xa6 xa7 xa8 xa9 xa10 xa11 xa12 xa13 xa14 xa15 xa16 xa17 xa18 xa19 xa20 xa21 xa22 xa23 xa24 xa25 xa26 xa27 xa28 xa29 xa30 xa31 xa32 xa33 xa34 xa35 xa36 xa37 xa38 xa39 xa40 xa41 xa42 xa43 xa44 xa45 xa46 xa47 xa48 xa49 xa50 xa51 xa52 xa53 xa54 xa55 xa56 xa57 xa58 xa59 xa60 xa61 xa62 xa63 xa64 xa65 xa66 xa67 xa68 xa69 xa70 xa71 xa72 xa73 xa74 xa75 xa76 xa77 xa78 xa79 xa80 xa81 xa82 xa83 xa84 xa85 xa86 xa87 xa88 xa89 xa90 xa91 xa92 xa93 xa94 xa95 xa96 xa97 xa98 xa99 xa100 xa101 xa102 xa103 xa104 xa105 xa106 xa107 xa108 xa109 xa110 xa111 xa112 xa113 xa114 xa115 xa116 xa117 xa118 xa119 xa120 xa121 xa122 xa123 xa124 xa125 xa126 xa127 xa128 xa129 xa130 xa131 xa132 xa133 xa134 xa135 xa136 xa137 xa138 xa139 xa140 xa141 xa142 xa143 xa144 xa145 xa146 xa147 xa148 xa149 xa150 xa151 xa152 xa153 xa154 xa155 xa156 xa157 xa158 xa159 xa160 xa161 xa162 xa163 xa164 xa165 xa166 xa167 xa168 xa169 xa170 xa171 xa172 xa173 xa174 xa175 xa176 xa177 xa178 xa179 xa180 xa181 xa182 xa183 xa184 xa185 xa186 xa187 xa188 xa189 xa190 xa191 xa192 xa193 xa194 xa195 xa196 xa197 xa198 xa199 xa200 xa201
    revert HI ls HC1 HL5 HFE x1 w1 x2 x3 lg lc HLS xa1 xa2 u15 u16 u17 u18 u19 u20 u21 xa3 xa4 xa5 xa6 xa7 xa8 xa9 u29 u30 u37 u38 u39 u40 u41 u42 u43 u44 u45 u46 u47 u48 u49 u50 u51 u52 u53 u54 u55 u56 u57 u58 u59 u60 u61 u62 u63 u64 u65 u66 u67 u68 u69 u70 u71 u72 u73 u74 u75 u76 u77 u78 u79 u80 u81 u82 u83 u84 u85 xa10 xa11 xa12 xa13 xa14 xa15 xa16 xa17 xa18 xa19 xa20 xa21 xa22 xa23 xa24 xa25 xa26 xa27 xa28 xa29 xa30 xa31 xa32 xa33 xa34 xa35 xa36 xa37 xa38 xa39 xa40 xa41 xa42 xa43 xa44 xa45 xa46 xa47 xa48 xa49 xa50 xa51 xa52 xa53 xa54 xa55 xa56 xa57 xa58 xa59 xa60 xa61 xa62 xa63 xa64 xa65 xa66 xa67 xa68 xa69 xa70 xa71 xa72 xa73 xa74 xa75 xa76 xa77 xa78 xa79 xa80 xa81 xa82 xa83 xa84 xa85 xa86 xa87 xa88 xa89 xa90 xa91 xa92 xa93 xa94 xa95 xa96 xa97 xa98 xa99 xa100 xa101 xa102 xa103 xa104 xa105 xa106 xa107 xa108 xa109 xa110 xa111 xa112 xa113 xa114 xa115 xa116 xa117 xa118 xa119 xa120 xa121 xa122 xa123 xa124 xa125 xa126 xa127 xa128 xa129 xa130 xa131 xa132 xa133 xa134 xa135 xa136 xa137 xa138 xa139 xa140 xa141 xa142 xa143 xa144 xa145 xa146 xa147 xa148 xa149 xa150 xa151 xa152 xa153 xa154 xa155 xa156 xa157 xa158 xa159 xa160 xa161 xa162 xa163 xa164 xa165 xa166 xa167 xa168 xa169 xa170 xa171 xa172 xa173 xa174 xa175 xa176 xa177 xa178 xa179 xa180 xa181 xa182 xa183 xa184 xa185 xa186 xa187 xa188 xa189 u266 u267 u268 u269 u270 u271 u272 u273 u274 u275 u276 u277 u278 u279 u280 u281 u282 u283 x4 x5 x6 x7 m hm xa190 wq HXU hlt hli hm5 a a1 c1 a2 c2 a3 c3 HAU HCE HON er hee xa191 xa192 xa193 HRV hfewi ar hal HFB he heb her hez xa194 xa195 w5 HX5 HON5 HLE HLL w6 v6 HVC HU6 w7 HX7 w8 mb HB HX8 xa196 xa197 w9 sb HS HX9 HMB HSB gk u12 u22 u23 u24 u25 u26 u27 u28 u86 u87 u88 u89 u90 u91 u92 u93 u94 u95 u96 u97 u98 u99 u100 u101 u102 u103 u104 u105 u106 u107 u108 u109 u110 u111 u112 u113 u114 u115 u116 u117 u118 u119 u120 u121 u122 u123 u124 u125 u126 u127 u128 u129 u130 u131 u132 u133 u134 u135 u136 u137 u138 u139 u140 u141 u142 u143 u144 u145 u146 u147 u148 u149 u150 u151 u152 u153 u154 u155 u156 u157 u158 u159 u160 u161 u162 u163 u164 u165 u166 u167 u168 u169 u170 u171 u172 u173 u174 u175 u176 u177 u178 u179 u180 u181 u182 u183 u184 u185 u186 u187 u188 u189 u190 u191 u192 u193 u194 u195 u196 u197 u198 u199 u200 u201 u202 u203 u204 u205 u206 u207 u208 u209 u210 u211 u212 u213 u214 u215 u216 u217 u218 u219 u220 u221 u222 u223 u224 u225 u226 u227 u228 u229 u230 u231 u232 u233 u234 u235 u236 u237 u238 u239 u240 u241 u242 u243 u244 u245 u246 u247 u248 u249 u250 u251 u252 u253 u254 u255 u256 u257 u258 u259 u260 u261 u262 u263 u264 u265 xa198 xa199 xa200 xa201 k hk x wa HXA HY hk6 hki mo HW HFI wc0 f0 f1 f2 hu0
    exact K2.out
   ·clear K1 K2
    rename_i xa1 xa2 xa3 xa4 xa5 xa6 xa7 xa8 xa9 xa10 xa11 xa12 xa13 xa14 xa15 xa16 xa17 xa18 xa19 xa20 xa21 xa22 xa23 xa24 xa25 xa26 xa27 xa28 xa29 xa30 xa31 xa32 xa33 xa34 xa35 xa36 xa37 xa38 xa39 xa40 xa41 xa42 xa43 xa44 xa45 xa46 xa47 xa48 xa49 xa50 xa51 xa52 xa53 xa54 xa55 xa56 xa57 xa58 xa59 xa60 xa61 xa62 xa63 xa64 xa65 xa66 xa67 xa68 xa69 xa70 xa71 xa72 xa73 xa74 xa75 xa76 xa77 xa78 xa79 xa80 xa81 xa82 xa83 xa84 xa85 xa86 xa87 xa88 xa89 xa90 xa91 xa92 xa93 xa94 xa95 xa96 xa97 xa98 xa99 xa100 xa101 xa102 xa103 xa104 xa105 xa106 xa107 xa108 xa109 xa110 xa111 xa112 xa113 xa114 xa115 xa116 xa117 xa118 xa119 xa120 xa121 xa122 xa123 xa124 xa125 xa126 xa127 xa128 xa129 xa130 xa131 xa132 xa133 xa134 xa135 xa136 xa137 xa138 xa139 xa140 xa141 xa142 xa143 xa144 xa145 xa146 xa147 xa148 xa149 xa150 xa151 xa152 xa153 xa154 xa155 xa156 xa157 xa158 xa159 xa160 xa161 xa162 xa163 xa164 xa165 xa166 xa167 xa168 xa169 xa170 xa171 xa172 xa173 xa174 xa175 xa176 xa177 xa178 xa179 xa180 xa181 xa182 xa183 xa184 xa185 xa186 xa187 xa188 xa189 xa190 xa191 xa192 xa193 xa194 xa195 xa196 xa197 xa198 xa199 xa200 xa201
    revert HI ls HC1 HL5 HFE x1 w1 x2 x3 lg lc HLS xa1 xa2 u15 u16 u17 u18 u19 u20 u21 xa3 xa4 xa5 xa6 xa7 xa8 xa9 u29 u30 u37 u38 u39 u40 u41 u42 u43 u44 u45 u46 u47 u48 u49 u50 u51 u52 u53 u54 u55 u56 u57 u58 u59 u60 u61 u62 u63 u64 u65 u66 u67 u68 u69 u70 u71 u72 u73 u74 u75 u76 u77 u78 u79 u80 u81 u82 u83 u84 u85 xa10 xa11 xa12 xa13 xa14 xa15 xa16 xa17 xa18 xa19 xa20 xa21 xa22 xa23 xa24 xa25 xa26 xa27 xa28 xa29 xa30 xa31 xa32 xa33 xa34 xa35 xa36 xa37 xa38 xa39 xa40 xa41 xa42 xa43 xa44 xa45 xa46 xa47 xa48 xa49 xa50 xa51 xa52 xa53 xa54 xa55 xa56 xa57 xa58 xa59 xa60 xa61 xa62 xa63 xa64 xa65 xa66 xa67 xa68 xa69 xa70 xa71 xa72 xa73 xa74 xa75 xa76 xa77 xa78 xa79 xa80 xa81 xa82 xa83 xa84 xa85 xa86 xa87 xa88 xa89 xa90 xa91 xa92 xa93 xa94 xa95 xa96 xa97 xa98 xa99 xa100 xa101 xa102 xa103 xa104 xa105 xa106 xa107 xa108 xa109 xa110 xa111 xa112 xa113 xa114 xa115 xa116 xa117 xa118 xa119 xa120 xa121 xa122 xa123 xa124 xa125 xa126 xa127 xa128 xa129 xa130 xa131 xa132 xa133 xa134 xa135 xa136 xa137 xa138 xa139 xa140 xa141 xa142 xa143 xa144 xa145 xa146 xa147 xa148 xa149 xa150 xa151 xa152 xa153 xa154 xa155 xa156 xa157 xa158 xa159 xa160 xa161 xa162 xa163 xa164 xa165 xa166 xa167 xa168 xa169 xa170 xa171 xa172 xa173 xa174 xa175 xa176 xa177 xa178 xa179 xa180 xa181 xa182 xa183 xa184 xa185 xa186 xa187 xa188 xa189 u266 u267 u268 u269 u270 u271 u272 u273 u274 u275 u276 u277 u278 u279 u280 u281 u282 u283 x4 x5 x6 x7 m hm xa190 wq HXU hlt hli hm5 a a1 c1 a2 c2 a3 c3 HAU HCE HON er hee xa191 xa192 xa193 HRV hfewi ar hal HFB he heb her hez xa194 xa195 w5 HX5 HON5 HLE HLL w6 v6 HVC HU6 w7 HX7 w8 mb HB HX8 xa196 xa197 w9 sb HS HX9 HMB HSB gk u12 u22 u23 u24 u25 u26 u27 u28 u86 u87 u88 u89 u90 u91 u92 u93 u94 u95 u96 u97 u98 u99 u100 u101 u102 u103 u104 u105 u106 u107 u108 u109 u110 u111 u112 u113 u114 u115 u116 u117 u118 u119 u120 u121 u122 u123 u124 u125 u126 u127 u128 u129 u130 u131 u132 u133 u134 u135 u136 u137 u138 u139 u140 u141 u142 u143 u144 u145 u146 u147 u148 u149 u150 u151 u152 u153 u154 u155 u156 u157 u158 u159 u160 u161 u162 u163 u164 u165 u166 u167 u168 u169 u170 u171 u172 u173 u174 u175 u176 u177 u178 u179 u180 u181 u182 u183 u184 u185 u186 u187 u188 u189 u190 u191 u192 u193 u194 u195 u196 u197 u198 u199 u200 u201 u202 u203 u204 u205 u206 u207 u208 u209 u210 u211 u212 u213 u214 u215 u216 u217 u218 u219 u220 u221 u222 u223 u224 u225 u226 u227 u228 u229 u230 u231 u232 u233 u234 u235 u236 u237 u238 u239 u240 u241 u242 u243 u244 u245 u246 u247 u248 u249 u250 u251 u252 u253 u254 u255 u256 u257 u258 u259 u260 u261 u262 u263 u264 u265 xa198 xa199 xa200 xa201 k hk x wa HXA HY hk6 hki mo HW HFI wc0 f0 f1 f2 hu0 hu1
    exact K3.out
  ·have hnk:¬ ((k:Int)<6):=by omega
   go_wp2_with fail
   go_roundg (ls.length - (m+1))
   case measure=>omega
   case rel=>exact ⟨m+1,by go_num,by omega,Ext.of HXA.out⟩)
end Law
end Go.Proofs.YtjclbjdkkdijbaaGreat
end
