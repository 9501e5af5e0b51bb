/- Walks through the law of chapter 05: AutoWords, a part. Conditions: none. Walks through the law of chapter 05: AutoWords, a part. Conditions: none. Walks through the law of chapter 05: AutoWords, a part. Conditions: none. -/
import Derived.Test.YtjclbjdkkdijbaaGreatAuZx
set_option linter.unusedVariables false
set_option linter.unusedSimpArgs false
set_option linter.unusedSectionVars false
section
open Go.RowKit
namespace Go.Proofs.YtjclbjdkkdijbaaGreat
open L
namespace Law
open Aut Auto R01 Rgx
attribute [-go_sem] sliced
set_option maxRecDepth 100000 in
set_option maxHeartbeats 16000000 in
def wzof (w:World) (v v2:Value) (xs ys:List Int) (at_ how by_ stt:Int) (H0:RowKit.Hid ((∀ x∈xs,IsI64 x)∧SL w 1 v xs.length (ints xs)∧(∀ x∈ys,IsI64 x)∧SL w 1 v2 ys.length (ints ys)∧IsI64 at_∧IsI64 how∧IsI64 by_∧IsI64 stt)):{ T:Prop × Prop × Prop // RowKit.Hid T.1→RowKit.Hid T.2.1→RowKit.Hid T.2.2→RowKit.Hid (wzo w v v2 xs ys at_ how by_ stt H0).1.1 }:=
 cut3 _ _ _ (by
 intro K1 K2 K3
 refine Lib.hid ?_
 dsimp -zeta only [wzo,cut3]
 unhygienic intros
 obtain ⟨mn,rfl⟩:∃ mn:Nat,mo=mn:=⟨mo.toNat,by omega⟩
 have HMN:=Lib.hid (show mn≤64 by omega)
 have HLR0:=Lib.hid (fun (w':World) (u:Upd [] w1 w')=>show Calls Tryz.prog 26 #[.agg #[.slice a1 a.cuts.length c1,.slice a2 a.next.length c2,.slice a3 a.acc.length c3],.int .i64 0,.int .i64 mn] w' fun e w2=>∃ v',e=.returned v'∧SL w2 1 v' (resL a 0 (mn+1)).length (bools (resL a 0 (mn+1)))∧Upd [] w' w2 from LeftR_len (s:=0) (HAU.out w' u) HOK.out.1 HOK.out.1.some_ HMN.out)
 go_upto_region 14 with fail
 refine wp_region_ord 9 2 [0,1,2,3,5,6,7,8,10,11,12,13,14] [3,8] [0,1,2,3,5,6,7,8,4,9,10,11,12,13,14] (fun w'=>∃ x:Ext wa,w'=x.val) (by kernel_rfl) (by kernel_rfl) (Ext.of (by iterate 25 (first|exact Upd.refl _ _|assumption|refine Upd.alloc ?_ _|refine Upd.drew ?_|refine Upd.drewN ?_ _|refine Upd.dl ?_|refine Upd.step ?_ (Ext.upd _)|refine Upd.nil ?_|skip))) ?_
 repeat (first|(refine wpOrd_load rfl rfl rfl rfl (fun K hK=>?_);go_big_quiet_step (fail);refine wpQuiet_nil ?_;refine hK _ ?_;clear hK K)|(refine wpOrd_free rfl rfl rfl (fun K hK=>?_);go_big_quiet_step (fail);refine wpQuiet_nil ?_;refine hK _ ?_;clear hK K))
 refine wpOrd_fix rfl rfl (fun K hK=>?_)
 go_wp2_with (go_at_call 22;refine (HON.out _ (HXA.out.step (by iterate 25 (first|exact Upd.refl _ _|assumption|refine Upd.alloc ?_ _|refine Upd.drew ?_|refine Upd.drewN ?_ _|refine Upd.dl ?_|refine Upd.step ?_ (Ext.upd _)|refine Upd.nil ?_|skip)))).mono ?_;rintro e w6 ⟨v6,rfl,o6,u6⟩)
 have HU6:=Lib.hid (And.intro (show Upd [] wa w6 from Upd.step (by iterate 25 (first|exact Upd.refl _ _|assumption|refine Upd.alloc ?_ _|refine Upd.drew ?_|refine Upd.drewN ?_ _|refine Upd.dl ?_|refine Upd.step ?_ (Ext.upd _)|refine Upd.nil ?_|skip)) u6) o6)
 clear u6 o6
 refine ⟨fun _=>Ext.of HU6.out.1,?_⟩
 repeat (first|(refine wpOrd_load rfl rfl rfl rfl (fun K hK=>?_);go_big_quiet_step (fail);refine wpQuiet_nil ?_;refine hK _ ?_;clear hK K)|(refine wpOrd_free rfl rfl rfl (fun K hK=>?_);go_big_quiet_step (fail);refine wpQuiet_nil ?_;refine hK _ ?_;clear hK K))
 refine wpOrd_fix rfl rfl (fun K hK=>?_)
 go_wp2_with (go_at_call 24;refine (Lengths_ok (m:=mn) HU6.out.2 HOK.out.1 HOK.out.2 HMN.out).mono ?_;rintro e wb ⟨v7,rfl,o7,u7⟩)
 have HU7:=Lib.hid (And.intro (HU6.out.1.step u7) o7)
 clear u7 o7
 obtain ⟨a7,c7,rfl,_⟩:=SL.elems HU7.out.2
 refine ⟨fun hC=>absurd hC (by decide),?_⟩
 repeat (first|(refine wpOrd_load rfl rfl rfl rfl (fun K hK=>?_);go_big_quiet_step (fail);refine wpQuiet_nil ?_;refine hK _ ?_;clear hK K)|(refine wpOrd_free rfl rfl rfl (fun K hK=>?_);go_big_quiet_step (fail);refine wpQuiet_nil ?_;refine hK _ ?_;clear hK K))
 refine wpOrd_nil ?_
 have HXB:=Lib.hid (HXA.out.step HU7.out.1)
 have HYB:=Lib.hid (HY.out.step HU7.out.1)
 clear f0 f1 f2 wc0
 have f0:=HXB.out.some HCE.out.1 (by simp)
 have f1:=HXB.out.some HCE.out.2.1 (by simp)
 have f2:=HXB.out.some HCE.out.2.2 (by simp)
 have wc0:=(HMB.out.upd HYB.out (by simp)).cell HW.out
 go_upto_region 16 with fail
 refine wp_region_ord 17 1 [0,1,2,3,4,5,6,7,8,9,10,11,12,13,14,15,16,19,20,21,22,23,24,25,26,27,28,29,30,31,32,33,34,35,36,37,38,39,40,41,42,43,44,45,46,47,48] [12,16] [0,1,2,3,4,5,6,7,8,9,10,11,12,13,14,15,16,17,18,19,20,21,22,23,24,25,26,27,28,29,30,31,32,33,34,35,36,37,38,39,40,41,42,43,44,45,46,47,48] (fun w'=>∃ x:Ext wb,w'=x.val) (by kernel_rfl) (by kernel_rfl) (Ext.of (by iterate 25 (first|exact Upd.refl _ _|assumption|refine Upd.alloc ?_ _|refine Upd.drew ?_|refine Upd.drewN ?_ _|refine Upd.dl ?_|refine Upd.step ?_ (Ext.upd _)|refine Upd.nil ?_|skip))) ?_
 repeat (first|(refine wpOrd_load rfl rfl rfl rfl (fun K hK=>?_);go_big_quiet_step (fail);refine wpQuiet_nil ?_;refine hK _ ?_;clear hK K)|(refine wpOrd_free rfl rfl rfl (fun K hK=>?_);go_big_quiet_step (fail);refine wpQuiet_nil ?_;refine hK _ ?_;clear hK K))
 refine wpOrd_fix rfl rfl (fun K hK=>?_)
 go_wp2_with (go_at_call 26;refine (HLR0.out _ (HXB.out.step (by iterate 25 (first|exact Upd.refl _ _|assumption|refine Upd.alloc ?_ _|refine Upd.drew ?_|refine Upd.drewN ?_ _|refine Upd.dl ?_|refine Upd.step ?_ (Ext.upd _)|refine Upd.nil ?_|skip)))).mono ?_;rintro e wc ⟨v8,rfl,o8,u8⟩)
 have HU8:=Lib.hid (And.intro (show Upd [] wb wc from Upd.step (by iterate 25 (first|exact Upd.refl _ _|assumption|refine Upd.alloc ?_ _|refine Upd.drew ?_|refine Upd.drewN ?_ _|refine Upd.dl ?_|refine Upd.step ?_ (Ext.upd _)|refine Upd.nil ?_|skip)) u8) o8)
 have HQ2:=Lib.hid (fun (w':World) (u:Upd [] wc w')=>SameB_self (HU7.out.2.upd (HU8.out.1.step u) (by simp)) (HU8.out.2.upd u (by simp)))
 clear u8 o8
 refine ⟨fun hC=>absurd hC (by decide),?_⟩
 repeat (first|(refine wpOrd_load rfl rfl rfl rfl (fun K hK=>?_);go_big_quiet_step (fail);refine wpQuiet_nil ?_;refine hK _ ?_;clear hK K)|(refine wpOrd_free rfl rfl rfl (fun K hK=>?_);go_big_quiet_step (fail);refine wpQuiet_nil ?_;refine hK _ ?_;clear hK K))
 refine wpOrd_fix rfl rfl (fun K hK=>?_)
 go_wp2_with ((with_reducible refine (HQ2.out _ (by iterate 25 (first|exact Upd.refl _ _|assumption|refine Upd.alloc ?_ _|refine Upd.drew ?_|refine Upd.drewN ?_ _|refine Upd.dl ?_|refine Upd.step ?_ (Ext.upd _)|refine Upd.nil ?_|skip))).mono ?_);rintro e wd ⟨rfl,u9⟩)
 have HU9:=Lib.hid (HU8.out.1.step (Upd.step (by iterate 25 (first|exact Upd.refl _ _|assumption|refine Upd.alloc ?_ _|refine Upd.drew ?_|refine Upd.drewN ?_ _|refine Upd.dl ?_|refine Upd.step ?_ (Ext.upd _)|refine Upd.nil ?_|skip)) u9))
 clear u9
 refine ⟨fun hC=>absurd hC (by decide),?_⟩
 repeat (first|(refine wpOrd_load rfl rfl rfl rfl (fun K hK=>?_);go_big_quiet_step (fail);refine wpQuiet_nil ?_;refine hK _ ?_;clear hK K)|(refine wpOrd_free rfl rfl rfl (fun K hK=>?_);go_big_quiet_step (fail);refine wpQuiet_nil ?_;refine hK _ ?_;clear hK K))
 refine wpOrd_nil ?_
 have HXD:=Lib.hid (HXB.out.step HU9.out)
 have HYD:=Lib.hid (HYB.out.step HU9.out)
 clear f0 f1 f2 wc0
 go_wp2_with fail
 go_loopg [25] 3 (fun gk jv wr=>∃ j:Nat,jv=.int .i64 j∧j+gk=3∧∃ x:Ext wd,wr=x.val)
 case atStart=>exact ⟨0,rfl,rfl,Ext.of (by iterate 25 (first|exact Upd.refl _ _|assumption|refine Upd.alloc ?_ _|refine Upd.drew ?_|refine Upd.drewN ?_ _|refine Upd.dl ?_|refine Upd.step ?_ (Ext.upd _)|refine Upd.nil ?_|skip))⟩
 case round=>
  obtain ⟨j,rfl,hj,x,rfl⟩:=hrel
  have HXE:=Lib.hid (HXD.out.step x.upd)
  have HYE:=Lib.hid (HYD.out.step x.upd)
  have HZE:=Lib.hid x.upd
  generalize x.val=wf at *
  by_cases hj3:j<3
  ·have hji:(j:Int)<3:=by omega
   obtain ⟨st,hs⟩:∃ st:Int,([.int .i64 stt,.int .i64 0,.int .i64 (ar-1)]:List Value)[j]?=some (.int .i64 st):=by
    rcases (by omega:j=0∨j=1∨j=2) with rfl|rfl|rfl <;> exact ⟨_,rfl⟩
   have HSW:=Lib.hid hs
   clear hs
   have sc0:=(HSB.out.upd HYE.out (by simp)).cell HSW.out
   have HKN:=Lib.hid (show (0≤st∧st<a.next.length)∨¬ 0≤st∨(0≤st∧¬ st<a.next.length) by omega)
   rcases HKN.out with ⟨hv0,hv1⟩|hv0|⟨hv0,hv1⟩
   ·clear K2 K3
    rename_i xb1 xb2 xb3 xb4 xb5 xb6 xb7 xb8 xb9 xb10 xb11 xb12 xb13 xb14 xb15 xb16 xb17 xb18 xb19 xb20 xb21 xb22 xb23 xb24 xb25 xb26 xb27 xb28 xb29 xb30 xb31 xb32 xb33 xb34 xb35 xb36 xb37 xb38 xb39 xb40 xb41 xb42 xb43 xb44 xb45 xb46 xb47 xb48 xb49 xb50 xb51 xb52 xb53 xb54 xb55 xb56 xb57 xb58 xb59 xb60 xb61 xb62 xb63 xb64 xb65 xb66 xb67 xb68 xb69 xb70 xb71 xb72 xb73 xb74 xb75 xb76 xb77 xb78 xb79 xb80 xb81 xb82 xb83 xb84 xb85 xb86 xb87 xb88 xb89 xb90 xb91 xb92 xb93 xb94 xb95 xb96 xb97 xb98 xb99 xb100 xb101 xb102 xb103 xb104 xb105 xb106 xb107 xb108 xb109 xb110 xb111 xb112 xb113 xb114 xb115 xb116
    revert HI ls HC1 HL5 HFE x1 w1 x2 x3 lg lc HLS xa1 xa2 u15 u16 u17 u18 u19 u20 u21 xa3 xa4 xa5 xa6 xa7 xa8 xa9 u29 u30 u37 u38 u39 u40 u41 u42 u43 u44 u45 u46 u47 u48 u49 u50 u51 u52 u53 u54 u55 u56 u57 u58 u59 u60 u61 u62 u63 u64 u65 u66 u67 u68 u69 u70 u71 u72 u73 u74 u75 u76 u77 u78 u79 u80 u81 u82 u83 u84 u85 xa10 xa11 xa12 xa13 xa14 xa15 xa16 xa17 xa18 xa19 xa20 xa21 xa22 xa23 xa24 xa25 xa26 xa27 xa28 xa29 xa30 xa31 xa32 xa33 xa34 xa35 xa36 xa37 xa38 xa39 xa40 xa41 xa42 xa43 xa44 xa45 xa46 xa47 xa48 xa49 xa50 xa51 xa52 xa53 xa54 xa55 xa56 xa57 xa58 xa59 xa60 xa61 xa62 xa63 xa64 xa65 xa66 xa67 xa68 xa69 xa70 xa71 xa72 xa73 xa74 xa75 xa76 xa77 xa78 xa79 xa80 xa81 xa82 xa83 xa84 xa85 xa86 xa87 xa88 xa89 xa90 xa91 xa92 xa93 xa94 xa95 xa96 xa97 xa98 xa99 xa100 xa101 xa102 xa103 xa104 xa105 xa106 xa107 xa108 xa109 xa110 xa111 xa112 xa113 xa114 xa115 xa116 xa117 xa118 xa119 xa120 xa121 xa122 xa123 xa124 xa125 xa126 xa127 xa128 xa129 xa130 xa131 xa132 xa133 xa134 xa135 xa136 xa137 xa138 xa139 xa140 xa141 xa142 xa143 xa144 xa145 xa146 xa147 xa148 xa149 xa150 xa151 xa152 xa153 xa154 xa155 xa156 xa157 xa158 xa159 xa160 xa161 xa162 xa163 xa164 xa165 xa166 xa167 xa168 xa169 xa170 xa171 xa172 xa173 xa174 xa175 xa176 xa177 xa178 xa179 xa180 xa181 xa182 xa183 xa184 xa185 xa186 xa187 xa188 xa189 u266 u267 u268 u269 u270 u271 u272 u273 u274 u275 u276 u277 u278 u279 u280 u281 u282 u283 x4 x5 x6 x7 m hm xa190 wq HXU hlt hli hm5 a a1 c1 a2 c2 a3 c3 HAU HCE HON xa191 xa192 xa193 hfewi ar hal HFB hee HRV HOK xa194 xa195 w5 HX5 HON5 xb1 xb2 HVC xb3 w7 HX7 w8 mb HB HX8 xa196 xa197 w9 sb HS HX9 HMB HSB xb4 xb5 u22 u23 u24 u25 xb6 xb7 xb8 u86 u87 u88 u89 u90 u91 u92 u93 u94 u95 u96 u97 u98 u99 u100 u101 u102 u103 u104 u105 u106 u107 u108 u109 u110 u111 u112 u113 u114 u115 u116 u117 u118 u119 u120 u121 u122 u123 u124 u125 u126 u127 u128 u129 u130 u131 u132 u133 u134 u135 u136 u137 u138 u139 u140 u141 u142 u143 u144 u145 u146 u147 u148 u149 u150 u151 u152 u153 u154 u155 u156 u157 u158 u159 u160 u161 u162 u163 u164 u165 xb9 xb10 xb11 xb12 xb13 xb14 xb15 xb16 xb17 xb18 xb19 xb20 xb21 xb22 xb23 xb24 xb25 xb26 xb27 xb28 xb29 xb30 xb31 xb32 xb33 xb34 xb35 xb36 xb37 xb38 xb39 xb40 xb41 xb42 xb43 xb44 xb45 xb46 xb47 xb48 xb49 xb50 xb51 xb52 xb53 xb54 xb55 xb56 xb57 xb58 xb59 xb60 xb61 xb62 xb63 xb64 xb65 xb66 xb67 xb68 xb69 xb70 xb71 xb72 xb73 xb74 xb75 xb76 xb77 xb78 xb79 xb80 xb81 xb82 xb83 xb84 xb85 xb86 xb87 xb88 xb89 xb90 xb91 xb92 xb93 xb94 xb95 xb96 xb97 xb98 xb99 xb100 xb101 xb102 xb103 xb104 xb105 xb106 xb107 xb108 xa198 xa199 xa200 xa201 k hk xb109 wa HXA HY hk6 hki mn HW hu0 hu1 HMN HLR0 xb110 xb111 w6 v6 HFI HU6 wb a7 c7 xb112 HU7 HXB HYB wc v8 HU8 HQ2 wd HU9 HXD HYD gk u12 u26 u27 u28 u166 u167 u168 u169 u170 u171 u172 u173 u174 u175 u176 u177 u178 u179 u180 u181 u182 u183 u184 u185 u186 u187 u188 u189 u190 u191 u192 u193 u194 u195 u196 u197 u198 u199 u200 u201 u202 u203 u204 u205 u206 u207 u208 u209 u210 u211 u212 u213 u214 u215 u216 u217 u218 u219 u220 u221 u222 u223 u224 u225 u226 u227 u228 u229 u230 u231 u232 u233 u234 u235 u236 u237 u238 u239 u240 u241 u242 u243 u244 u245 u246 u247 u248 u249 u250 u251 u252 u253 u254 u255 u256 u257 u258 u259 u260 u261 u262 u263 u264 u265 xb113 xb114 xb115 xb116 j hj x wf HXE HYE HZE hj3 hji st HSW sc0 HKN hv0 hv1
    exact K1.out
   ·clear K1 K3
    rename_i xb1 xb2 xb3 xb4 xb5 xb6 xb7 xb8 xb9 xb10 xb11 xb12 xb13 xb14 xb15 xb16 xb17 xb18 xb19 xb20 xb21 xb22 xb23 xb24 xb25 xb26 xb27 xb28 xb29 xb30 xb31 xb32 xb33 xb34 xb35 xb36 xb37 xb38 xb39 xb40 xb41 xb42 xb43 xb44 xb45 xb46 xb47 xb48 xb49 xb50 xb51 xb52 xb53 xb54 xb55 xb56 xb57 xb58 xb59 xb60 xb61 xb62 xb63 xb64 xb65 xb66 xb67 xb68 xb69 xb70 xb71 xb72 xb73 xb74 xb75 xb76 xb77 xb78 xb79 xb80 xb81 xb82 xb83 xb84 xb85 xb86 xb87 xb88 xb89 xb90 xb91 xb92 xb93 xb94 xb95 xb96 xb97 xb98 xb99 xb100 xb101 xb102 xb103 xb104 xb105 xb106 xb107 xb108 xb109 xb110 xb111 xb112 xb113 xb114 xb115 xb116
    revert HI ls HC1 HL5 HFE x1 w1 x2 x3 lg lc HLS xa1 xa2 u15 u16 u17 u18 u19 u20 u21 xa3 xa4 xa5 xa6 xa7 xa8 xa9 u29 u30 u37 u38 u39 u40 u41 u42 u43 u44 u45 u46 u47 u48 u49 u50 u51 u52 u53 u54 u55 u56 u57 u58 u59 u60 u61 u62 u63 u64 u65 u66 u67 u68 u69 u70 u71 u72 u73 u74 u75 u76 u77 u78 u79 u80 u81 u82 u83 u84 u85 xa10 xa11 xa12 xa13 xa14 xa15 xa16 xa17 xa18 xa19 xa20 xa21 xa22 xa23 xa24 xa25 xa26 xa27 xa28 xa29 xa30 xa31 xa32 xa33 xa34 xa35 xa36 xa37 xa38 xa39 xa40 xa41 xa42 xa43 xa44 xa45 xa46 xa47 xa48 xa49 xa50 xa51 xa52 xa53 xa54 xa55 xa56 xa57 xa58 xa59 xa60 xa61 xa62 xa63 xa64 xa65 xa66 xa67 xa68 xa69 xa70 xa71 xa72 xa73 xa74 xa75 xa76 xa77 xa78 xa79 xa80 xa81 xa82 xa83 xa84 xa85 xa86 xa87 xa88 xa89 xa90 xa91 xa92 xa93 xa94 xa95 xa96 xa97 xa98 xa99 xa100 xa101 xa102 xa103 xa104 xa105 xa106 xa107 xa108 xa109 xa110 xa111 xa112 xa113 xa114 xa115 xa116 xa117 xa118 xa119 xa120 xa121 xa122 xa123 xa124 xa125 xa126 xa127 xa128 xa129 xa130 xa131 xa132 xa133 xa134 xa135 xa136 xa137 xa138 xa139 xa140 xa141 xa142 xa143 xa144 xa145 xa146 xa147 xa148 xa149 xa150 xa151 xa152 xa153 xa154 xa155 xa156 xa157 xa158 xa159 xa160 xa161 xa162 xa163 xa164 xa165 xa166 xa167 xa168 xa169 xa170 xa171 xa172 xa173 xa174 xa175 xa176 xa177 xa178 xa179 xa180 xa181 xa182 xa183 xa184 xa185 xa186 xa187 xa188 xa189 u266 u267 u268 u269 u270 u271 u272 u273 u274 u275 u276 u277 u278 u279 u280 u281 u282 u283 x4 x5 x6 x7 m hm xa190 wq HXU hlt hli hm5 a a1 c1 a2 c2 a3 c3 HAU HCE HON xa191 xa192 xa193 hfewi ar hal HFB hee HRV HOK xa194 xa195 w5 HX5 HON5 xb1 xb2 HVC xb3 w7 HX7 w8 mb HB HX8 xa196 xa197 w9 sb HS HX9 HMB HSB xb4 xb5 u22 u23 u24 u25 xb6 xb7 xb8 u86 u87 u88 u89 u90 u91 u92 u93 u94 u95 u96 u97 u98 u99 u100 u101 u102 u103 u104 u105 u106 u107 u108 u109 u110 u111 u112 u113 u114 u115 u116 u117 u118 u119 u120 u121 u122 u123 u124 u125 u126 u127 u128 u129 u130 u131 u132 u133 u134 u135 u136 u137 u138 u139 u140 u141 u142 u143 u144 u145 u146 u147 u148 u149 u150 u151 u152 u153 u154 u155 u156 u157 u158 u159 u160 u161 u162 u163 u164 u165 xb9 xb10 xb11 xb12 xb13 xb14 xb15 xb16 xb17 xb18 xb19 xb20 xb21 xb22 xb23 xb24 xb25 xb26 xb27 xb28 xb29 xb30 xb31 xb32 xb33 xb34 xb35 xb36 xb37 xb38 xb39 xb40 xb41 xb42 xb43 xb44 xb45 xb46 xb47 xb48 xb49 xb50 xb51 xb52 xb53 xb54 xb55 xb56 xb57 xb58 xb59 xb60 xb61 xb62 xb63 xb64 xb65 xb66 xb67 xb68 xb69 xb70 xb71 xb72 xb73 xb74 xb75 xb76 xb77 xb78 xb79 xb80 xb81 xb82 xb83 xb84 xb85 xb86 xb87 xb88 xb89 xb90 xb91 xb92 xb93 xb94 xb95 xb96 xb97 xb98 xb99 xb100 xb101 xb102 xb103 xb104 xb105 xb106 xb107 xb108 xa198 xa199 xa200 xa201 k hk xb109 wa HXA HY hk6 hki mn HW hu0 hu1 HMN HLR0 xb110 xb111 w6 v6 HFI HU6 wb a7 c7 xb112 HU7 HXB HYB wc v8 HU8 HQ2 wd HU9 HXD HYD gk u12 u26 u27 u28 u166 u167 u168 u169 u170 u171 u172 u173 u174 u175 u176 u177 u178 u179 u180 u181 u182 u183 u184 u185 u186 u187 u188 u189 u190 u191 u192 u193 u194 u195 u196 u197 u198 u199 u200 u201 u202 u203 u204 u205 u206 u207 u208 u209 u210 u211 u212 u213 u214 u215 u216 u217 u218 u219 u220 u221 u222 u223 u224 u225 u226 u227 u228 u229 u230 u231 u232 u233 u234 u235 u236 u237 u238 u239 u240 u241 u242 u243 u244 u245 u246 u247 u248 u249 u250 u251 u252 u253 u254 u255 u256 u257 u258 u259 u260 u261 u262 u263 u264 u265 xb113 xb114 xb115 xb116 j hj x wf HXE HYE HZE hj3 hji st HSW sc0 HKN hv0
    exact K2.out
   ·clear K1 K2
    rename_i xb1 xb2 xb3 xb4 xb5 xb6 xb7 xb8 xb9 xb10 xb11 xb12 xb13 xb14 xb15 xb16 xb17 xb18 xb19 xb20 xb21 xb22 xb23 xb24 xb25 xb26 xb27 xb28 xb29 xb30 xb31 xb32 xb33 xb34 xb35 xb36 xb37 xb38 xb39 xb40 xb41 xb42 xb43 xb44 xb45 xb46 xb47 xb48 xb49 xb50 xb51 xb52 xb53 xb54 xb55 xb56 xb57 xb58 xb59 xb60 xb61 xb62 xb63 xb64 xb65 xb66 xb67 xb68 xb69 xb70 xb71 xb72 xb73 xb74 xb75 xb76 xb77 xb78 xb79 xb80 xb81 xb82 xb83 xb84 xb85 xb86 xb87 xb88 xb89 xb90 xb91 xb92 xb93 xb94 xb95 xb96 xb97 xb98 xb99 xb100 xb101 xb102 xb103 xb104 xb105 xb106 xb107 xb108 xb109 xb110 xb111 xb112 xb113 xb114 xb115 xb116
    revert HI ls HC1 HL5 HFE x1 w1 x2 x3 lg lc HLS xa1 xa2 u15 u16 u17 u18 u19 u20 u21 xa3 xa4 xa5 xa6 xa7 xa8 xa9 u29 u30 u37 u38 u39 u40 u41 u42 u43 u44 u45 u46 u47 u48 u49 u50 u51 u52 u53 u54 u55 u56 u57 u58 u59 u60 u61 u62 u63 u64 u65 u66 u67 u68 u69 u70 u71 u72 u73 u74 u75 u76 u77 u78 u79 u80 u81 u82 u83 u84 u85 xa10 xa11 xa12 xa13 xa14 xa15 xa16 xa17 xa18 xa19 xa20 xa21 xa22 xa23 xa24 xa25 xa26 xa27 xa28 xa29 xa30 xa31 xa32 xa33 xa34 xa35 xa36 xa37 xa38 xa39 xa40 xa41 xa42 xa43 xa44 xa45 xa46 xa47 xa48 xa49 xa50 xa51 xa52 xa53 xa54 xa55 xa56 xa57 xa58 xa59 xa60 xa61 xa62 xa63 xa64 xa65 xa66 xa67 xa68 xa69 xa70 xa71 xa72 xa73 xa74 xa75 xa76 xa77 xa78 xa79 xa80 xa81 xa82 xa83 xa84 xa85 xa86 xa87 xa88 xa89 xa90 xa91 xa92 xa93 xa94 xa95 xa96 xa97 xa98 xa99 xa100 xa101 xa102 xa103 xa104 xa105 xa106 xa107 xa108 xa109 xa110 xa111 xa112 xa113 xa114 xa115 xa116 xa117 xa118 xa119 xa120 xa121 xa122 xa123 xa124 xa125 xa126 xa127 xa128 xa129 xa130 xa131 xa132 xa133 xa134 xa135 xa136 xa137 xa138 xa139 xa140 xa141 xa142 xa143 xa144 xa145 xa146 xa147 xa148 xa149 xa150 xa151 xa152 xa153 xa154 xa155 xa156 xa157 xa158 xa159 xa160 xa161 xa162 xa163 xa164 xa165 xa166 xa167 xa168 xa169 xa170 xa171 xa172 xa173 xa174 xa175 xa176 xa177 xa178 xa179 xa180 xa181 xa182 xa183 xa184 xa185 xa186 xa187 xa188 xa189 u266 u267 u268 u269 u270 u271 u272 u273 u274 u275 u276 u277 u278 u279 u280 u281 u282 u283 x4 x5 x6 x7 m hm xa190 wq HXU hlt hli hm5 a a1 c1 a2 c2 a3 c3 HAU HCE HON xa191 xa192 xa193 hfewi ar hal HFB hee HRV HOK xa194 xa195 w5 HX5 HON5 xb1 xb2 HVC xb3 w7 HX7 w8 mb HB HX8 xa196 xa197 w9 sb HS HX9 HMB HSB xb4 xb5 u22 u23 u24 u25 xb6 xb7 xb8 u86 u87 u88 u89 u90 u91 u92 u93 u94 u95 u96 u97 u98 u99 u100 u101 u102 u103 u104 u105 u106 u107 u108 u109 u110 u111 u112 u113 u114 u115 u116 u117 u118 u119 u120 u121 u122 u123 u124 u125 u126 u127 u128 u129 u130 u131 u132 u133 u134 u135 u136 u137 u138 u139 u140 u141 u142 u143 u144 u145 u146 u147 u148 u149 u150 u151 u152 u153 u154 u155 u156 u157 u158 u159 u160 u161 u162 u163 u164 u165 xb9 xb10 xb11 xb12 xb13 xb14 xb15 xb16 xb17 xb18 xb19 xb20 xb21 xb22 xb23 xb24 xb25 xb26 xb27 xb28 xb29 xb30 xb31 xb32 xb33 xb34 xb35 xb36 xb37 xb38 xb39 xb40 xb41 xb42 xb43 xb44 xb45 xb46 xb47 xb48 xb49 xb50 xb51 xb52 xb53 xb54 xb55 xb56 xb57 xb58 xb59 xb60 xb61 xb62 xb63 xb64 xb65 xb66 xb67 xb68 xb69 xb70 xb71 xb72 xb73 xb74 xb75 xb76 xb77 xb78 xb79 xb80 xb81 xb82 xb83 xb84 xb85 xb86 xb87 xb88 xb89 xb90 xb91 xb92 xb93 xb94 xb95 xb96 xb97 xb98 xb99 xb100 xb101 xb102 xb103 xb104 xb105 xb106 xb107 xb108 xa198 xa199 xa200 xa201 k hk xb109 wa HXA HY hk6 hki mn HW hu0 hu1 HMN HLR0 xb110 xb111 w6 v6 HFI HU6 wb a7 c7 xb112 HU7 HXB HYB wc v8 HU8 HQ2 wd HU9 HXD HYD gk u12 u26 u27 u28 u166 u167 u168 u169 u170 u171 u172 u173 u174 u175 u176 u177 u178 u179 u180 u181 u182 u183 u184 u185 u186 u187 u188 u189 u190 u191 u192 u193 u194 u195 u196 u197 u198 u199 u200 u201 u202 u203 u204 u205 u206 u207 u208 u209 u210 u211 u212 u213 u214 u215 u216 u217 u218 u219 u220 u221 u222 u223 u224 u225 u226 u227 u228 u229 u230 u231 u232 u233 u234 u235 u236 u237 u238 u239 u240 u241 u242 u243 u244 u245 u246 u247 u248 u249 u250 u251 u252 u253 u254 u255 u256 u257 u258 u259 u260 u261 u262 u263 u264 u265 xb113 xb114 xb115 xb116 j hj x wf HXE HYE HZE hj3 hji st HSW sc0 HKN hv0 hv1
    exact K3.out
  ·have hnj:¬ ((j:Int)<3):=by omega
   go_wp2_with fail
   go_roundg (6 - (k+1))
   case measure=>omega
   case rel=>exact ⟨k+1,by go_num,by omega,Ext.of HYE.out⟩)
set_option maxRecDepth 100000 in
set_option maxHeartbeats 16000000 in
theorem wzofk (w:World) (v v2:Value) (xs ys:List Int) (at_ how by_ stt:Int) (H0:RowKit.Hid ((∀ x∈xs,IsI64 x)∧SL w 1 v xs.length (ints xs)∧(∀ x∈ys,IsI64 x)∧SL w 1 v2 ys.length (ints ys)∧IsI64 at_∧IsI64 how∧IsI64 by_∧IsI64 stt)):RowKit.Hid (wzof w v v2 xs ys at_ how by_ stt H0).1.1:=by
 refine Lib.hid ?_
 dsimp -zeta only [wzof,cut3]
 unhygienic intros
 obtain ⟨sn,rfl⟩:∃ sn:Nat,st=sn:=⟨st.toNat,by omega⟩
 have HSN:=Lib.hid (show sn<a.next.length by omega)
 have f0:=HXE.out.some HCE.out.1 (by simp)
 have f1:=HXE.out.some HCE.out.2.1 (by simp)
 have f2:=HXE.out.some HCE.out.2.2 (by simp)
 have wc0:=(HMB.out.upd HYE.out (by simp)).cell HW.out
 go_upto_region 21 with fail
 refine wp_region_ord 13 2 [0,1,2,3,5,6,7,8,9,10,11,12,14,15,16,17,18] [3,8,12] [0,1,2,3,5,6,7,8,9,10,11,12,4,13,14,15,16,17,18] (fun w'=>∃ x:Ext wf,w'=x.val) (by kernel_rfl) (by kernel_rfl) (Ext.of (by iterate 25 (first|exact Upd.refl _ _|assumption|refine Upd.alloc ?_ _|refine Upd.drew ?_|refine Upd.drewN ?_ _|refine Upd.dl ?_|refine Upd.step ?_ (Ext.upd _)|refine Upd.nil ?_|skip))) ?_
 repeat (first|(refine wpOrd_load rfl rfl rfl rfl (fun K hK=>?_);go_big_quiet_step (fail);refine wpQuiet_nil ?_;refine hK _ ?_;clear hK K)|(refine wpOrd_free rfl rfl rfl (fun K hK=>?_);go_big_quiet_step (fail);refine wpQuiet_nil ?_;refine hK _ ?_;clear hK K))
 refine wpOrd_fix rfl rfl (fun K hK=>?_)
 go_wp2_with (go_at_call 22;refine (HON.out _ (HXE.out.step (by iterate 25 (first|exact Upd.refl _ _|assumption|refine Upd.alloc ?_ _|refine Upd.drew ?_|refine Upd.drewN ?_ _|refine Upd.dl ?_|refine Upd.step ?_ (Ext.upd _)|refine Upd.nil ?_|skip)))).mono ?_;rintro e w6 ⟨v6,rfl,o6,u6⟩)
 have HU6:=Lib.hid (And.intro (show Upd [] wf w6 from Upd.step (by iterate 25 (first|exact Upd.refl _ _|assumption|refine Upd.alloc ?_ _|refine Upd.drew ?_|refine Upd.drewN ?_ _|refine Upd.dl ?_|refine Upd.step ?_ (Ext.upd _)|refine Upd.nil ?_|skip)) u6) o6)
 clear u6 o6
 refine ⟨fun _=>Ext.of HU6.out.1,?_⟩
 repeat (first|(refine wpOrd_load rfl rfl rfl rfl (fun K hK=>?_);go_big_quiet_step (fail);refine wpQuiet_nil ?_;refine hK _ ?_;clear hK K)|(refine wpOrd_free rfl rfl rfl (fun K hK=>?_);go_big_quiet_step (fail);refine wpQuiet_nil ?_;refine hK _ ?_;clear hK K))
 refine wpOrd_fix rfl rfl (fun K hK=>?_)
 go_wp2_with (go_at_call 27;refine (Left_ok (s:=sn) (m:=mn) HU6.out.2 HOK.out.2 HSN.out HMN.out).mono ?_;rintro e wg ⟨v9,rfl,o9,u9⟩)
 have HU9:=Lib.hid (And.intro (HU6.out.1.step u9) o9)
 clear u9 o9
 obtain ⟨a9,c9,rfl,_⟩:=SL.elems HU9.out.2
 refine ⟨fun hC=>absurd hC (by decide),?_⟩
 repeat (first|(refine wpOrd_load rfl rfl rfl rfl (fun K hK=>?_);go_big_quiet_step (fail);refine wpQuiet_nil ?_;refine hK _ ?_;clear hK K)|(refine wpOrd_free rfl rfl rfl (fun K hK=>?_);go_big_quiet_step (fail);refine wpQuiet_nil ?_;refine hK _ ?_;clear hK K))
 refine wpOrd_nil ?_
 have HXG:=Lib.hid (HXE.out.step HU9.out.1)
 have HYG:=Lib.hid (HYE.out.step HU9.out.1)
 have HZG:=Lib.hid (HZE.out.step HU9.out.1)
 clear f0 f1 f2 wc0 sc0
 have f0:=HXG.out.some HCE.out.1 (by simp)
 have f1:=HXG.out.some HCE.out.2.1 (by simp)
 have f2:=HXG.out.some HCE.out.2.2 (by simp)
 have wc0:=(HMB.out.upd HYG.out (by simp)).cell HW.out
 have sc0:=(HSB.out.upd HYG.out (by simp)).cell HSW.out
 go_upto_region 22 with fail
 refine wp_region_qx (by kernel_rfl) (by kernel_rfl) ?_
 repeat (go_big_quiet_step ((fail)))
 refine wpQuiet_nil ?_
 intro x
 have HXH:=Lib.hid (HXG.out.step x.upd)
 have HYH:=Lib.hid (HYG.out.step x.upd)
 have HZH:=Lib.hid (HZG.out.step x.upd)
 have HQH:=Lib.hid x.upd
 clear f0 f1 f2 wc0 sc0
 generalize x.val=wh at *
 have f0:=HXH.out.some HCE.out.1 (by simp)
 have f1:=HXH.out.some HCE.out.2.1 (by simp)
 have f2:=HXH.out.some HCE.out.2.2 (by simp)
 have wc0:=(HMB.out.upd HYH.out (by simp)).cell HW.out
 have sc0:=(HSB.out.upd HYH.out (by simp)).cell HSW.out
 go_upto_region 26 with fail
 refine wp_region_ord 48 1 [0,1,2,3,4,5,6,7,8,9,10,11,12,13,14,15,16,17,18,19,20,21,22,23,24,25,26,27,28,29,30,31,32,33,34,35,36,37,38,39,40,41,42,43,44,45,46,47,50,51,52,53] [39,43,47] [0,1,2,3,4,5,6,7,8,9,10,11,12,13,14,15,16,17,18,19,20,21,22,23,24,25,26,27,28,29,30,31,32,33,34,35,36,37,38,39,40,41,42,43,44,45,46,47,48,49,50,51,52,53] (fun w'=>∃ x:Ext wh,w'=x.val) (by kernel_rfl) (by kernel_rfl) (Ext.of (by iterate 25 (first|exact Upd.refl _ _|assumption|refine Upd.alloc ?_ _|refine Upd.drew ?_|refine Upd.drewN ?_ _|refine Upd.dl ?_|refine Upd.step ?_ (Ext.upd _)|refine Upd.nil ?_|skip))) ?_
 repeat (first|(refine wpOrd_load rfl rfl rfl rfl (fun K hK=>?_);go_big_quiet_step (fail);refine wpQuiet_nil ?_;refine hK _ ?_;clear hK K)|(refine wpOrd_free rfl rfl rfl (fun K hK=>?_);go_big_quiet_step (fail);refine wpQuiet_nil ?_;refine hK _ ?_;clear hK K))
 refine wpOrd_fix rfl rfl (fun K hK=>?_)
 go_wp2_with (go_at_call 26;refine (LeftR_len (s:=sn) (m:=mn) (HAU.out _ (HXH.out.step (by iterate 25 (first|exact Upd.refl _ _|assumption|refine Upd.alloc ?_ _|refine Upd.drew ?_|refine Upd.drewN ?_ _|refine Upd.dl ?_|refine Upd.step ?_ (Ext.upd _)|refine Upd.nil ?_|skip)))) HOK.out.1 HSN.out HMN.out).mono ?_;rintro e wi ⟨v8,rfl,o8,u8⟩)
 have HV8:=Lib.hid (And.intro (show Upd [] wh wi from Upd.step (by iterate 25 (first|exact Upd.refl _ _|assumption|refine Upd.alloc ?_ _|refine Upd.drew ?_|refine Upd.drewN ?_ _|refine Upd.dl ?_|refine Upd.step ?_ (Ext.upd _)|refine Upd.nil ?_|skip)) u8) o8)
 have HQ2:=Lib.hid (fun (w':World) (u:Upd [] wi w')=>SameB_self (HU9.out.2.upd ((HQH.out.step HV8.out.1).step u) (by simp)) (HV8.out.2.upd u (by simp)))
 clear u8 o8
 refine ⟨fun hC=>absurd hC (by decide),?_⟩
 repeat (first|(refine wpOrd_load rfl rfl rfl rfl (fun K hK=>?_);go_big_quiet_step (fail);refine wpQuiet_nil ?_;refine hK _ ?_;clear hK K)|(refine wpOrd_free rfl rfl rfl (fun K hK=>?_);go_big_quiet_step (fail);refine wpQuiet_nil ?_;refine hK _ ?_;clear hK K))
 refine wpOrd_fix rfl rfl (fun K hK=>?_)
 go_wp2_with ((with_reducible refine (HQ2.out _ (by iterate 25 (first|exact Upd.refl _ _|assumption|refine Upd.alloc ?_ _|refine Upd.drew ?_|refine Upd.drewN ?_ _|refine Upd.dl ?_|refine Upd.step ?_ (Ext.upd _)|refine Upd.nil ?_|skip))).mono ?_);rintro e wj ⟨rfl,u9⟩)
 have HV9:=Lib.hid (HV8.out.1.step (Upd.step (by iterate 25 (first|exact Upd.refl _ _|assumption|refine Upd.alloc ?_ _|refine Upd.drew ?_|refine Upd.drewN ?_ _|refine Upd.dl ?_|refine Upd.step ?_ (Ext.upd _)|refine Upd.nil ?_|skip)) u9))
 clear u9
 refine ⟨fun hC=>absurd hC (by decide),?_⟩
 repeat (first|(refine wpOrd_load rfl rfl rfl rfl (fun K hK=>?_);go_big_quiet_step (fail);refine wpQuiet_nil ?_;refine hK _ ?_;clear hK K)|(refine wpOrd_free rfl rfl rfl (fun K hK=>?_);go_big_quiet_step (fail);refine wpQuiet_nil ?_;refine hK _ ?_;clear hK K))
 refine wpOrd_nil ?_
 go_wp2_with fail
 go_roundg (3 - (j+1))
 case measure=>omega
 case rel=>exact ⟨j+1,by go_num,by omega,Ext.of (HZH.out.step HV9.out)⟩
set_option maxRecDepth 100000 in
set_option maxHeartbeats 16000000 in
theorem wzofl (w:World) (v v2:Value) (xs ys:List Int) (at_ how by_ stt:Int) (H0:RowKit.Hid ((∀ x∈xs,IsI64 x)∧SL w 1 v xs.length (ints xs)∧(∀ x∈ys,IsI64 x)∧SL w 1 v2 ys.length (ints ys)∧IsI64 at_∧IsI64 how∧IsI64 by_∧IsI64 stt)):RowKit.Hid (wzof w v v2 xs ys at_ how by_ stt H0).1.2.1:=by
 refine Lib.hid ?_
 dsimp -zeta only [wzof,cut3]
 unhygienic intros
 have hd:=decide_eq_false hv0
 have HNJ:=Lib.hid (left_unknown (a:=a) (st:=st) (mo:=(mn:Nat)) HOK.out.2 (by omega))
 have f0:=HXE.out.some HCE.out.1 (by simp)
 have f1:=HXE.out.some HCE.out.2.1 (by simp)
 have f2:=HXE.out.some HCE.out.2.2 (by simp)
 have wc0:=(HMB.out.upd HYE.out (by simp)).cell HW.out
 go_upto_region 21 with fail
 refine wp_region_ord 13 2 [0,1,2,3,5,6,7,8,9,10,11,12,14,15,16,17,18] [3,8,12] [0,1,2,3,5,6,7,8,9,10,11,12,4,13,14,15,16,17,18] (fun w'=>∃ x:Ext wf,w'=x.val) (by kernel_rfl) (by kernel_rfl) (Ext.of (by iterate 25 (first|exact Upd.refl _ _|assumption|refine Upd.alloc ?_ _|refine Upd.drew ?_|refine Upd.drewN ?_ _|refine Upd.dl ?_|refine Upd.step ?_ (Ext.upd _)|refine Upd.nil ?_|skip))) ?_
 repeat (first|(refine wpOrd_load rfl rfl rfl rfl (fun K hK=>?_);go_big_quiet_step (fail);refine wpQuiet_nil ?_;refine hK _ ?_;clear hK K)|(refine wpOrd_free rfl rfl rfl (fun K hK=>?_);go_big_quiet_step (fail);refine wpQuiet_nil ?_;refine hK _ ?_;clear hK K))
 refine wpOrd_fix rfl rfl (fun K hK=>?_)
 go_wp2_with (go_at_call 22;refine (HON.out _ (HXE.out.step (by iterate 25 (first|exact Upd.refl _ _|assumption|refine Upd.alloc ?_ _|refine Upd.drew ?_|refine Upd.drewN ?_ _|refine Upd.dl ?_|refine Upd.step ?_ (Ext.upd _)|refine Upd.nil ?_|skip)))).mono ?_;rintro e w6 ⟨v6,rfl,o6,u6⟩)
 have HU6:=Lib.hid (And.intro (show Upd [] wf w6 from Upd.step (by iterate 25 (first|exact Upd.refl _ _|assumption|refine Upd.alloc ?_ _|refine Upd.drew ?_|refine Upd.drewN ?_ _|refine Upd.dl ?_|refine Upd.step ?_ (Ext.upd _)|refine Upd.nil ?_|skip)) u6) o6)
 clear u6 o6
 refine ⟨fun _=>Ext.of HU6.out.1,?_⟩
 repeat (first|(refine wpOrd_load rfl rfl rfl rfl (fun K hK=>?_);go_big_quiet_step (fail);refine wpQuiet_nil ?_;refine hK _ ?_;clear hK K)|(refine wpOrd_free rfl rfl rfl (fun K hK=>?_);go_big_quiet_step (fail);refine wpQuiet_nil ?_;refine hK _ ?_;clear hK K))
 refine wpOrd_fix rfl rfl (fun K hK=>?_)
 go_wp2_with (go_at_call 27;refine (Left_no (st:=st) HU6.out.2 HNJ.out).mono ?_;rintro e wg ⟨a9,c9,rfl,u9⟩)
 have HU9:=Lib.hid (And.intro (HU6.out.1.step u9) trivial)
 clear u9
 refine ⟨fun hC=>absurd hC (by decide),?_⟩
 repeat (first|(refine wpOrd_load rfl rfl rfl rfl (fun K hK=>?_);go_big_quiet_step (fail);refine wpQuiet_nil ?_;refine hK _ ?_;clear hK K)|(refine wpOrd_free rfl rfl rfl (fun K hK=>?_);go_big_quiet_step (fail);refine wpQuiet_nil ?_;refine hK _ ?_;clear hK K))
 refine wpOrd_nil ?_
 have HXG:=Lib.hid (HXE.out.step HU9.out.1)
 have HYG:=Lib.hid (HYE.out.step HU9.out.1)
 have HZG:=Lib.hid (HZE.out.step HU9.out.1)
 clear f0 f1 f2 wc0 sc0
 have f0:=HXG.out.some HCE.out.1 (by simp)
 have f1:=HXG.out.some HCE.out.2.1 (by simp)
 have f2:=HXG.out.some HCE.out.2.2 (by simp)
 have wc0:=(HMB.out.upd HYG.out (by simp)).cell HW.out
 have sc0:=(HSB.out.upd HYG.out (by simp)).cell HSW.out
 go_upto_region 22 with fail
 refine wp_region_qx (by kernel_rfl) (by kernel_rfl) ?_
 repeat (go_big_quiet_step ((fail)))
 refine wpQuiet_nil ?_
 intro x
 have HXH:=Lib.hid (HXG.out.step x.upd)
 have HYH:=Lib.hid (HYG.out.step x.upd)
 have HZH:=Lib.hid (HZG.out.step x.upd)
 have HQH:=Lib.hid x.upd
 clear f0 f1 f2 wc0 sc0
 generalize x.val=wh at *
 go_upto_region 26 with fail
 refine wp_region_qx (by kernel_rfl) (by kernel_rfl) ?_
 repeat (go_big_quiet_step ((fail)))
 refine wpQuiet_nil ?_
 intro x
 have HZI:=Lib.hid (HZH.out.step x.upd)
 generalize x.val=wi at *
 go_wp2_with fail
 go_roundg (3 - (j+1))
 case measure=>omega
 case rel=>exact ⟨j+1,by go_num,by omega,Ext.of HZI.out⟩
set_option maxRecDepth 100000 in
set_option maxHeartbeats 16000000 in
theorem wzofh (w:World) (v v2:Value) (xs ys:List Int) (at_ how by_ stt:Int) (H0:RowKit.Hid ((∀ x∈xs,IsI64 x)∧SL w 1 v xs.length (ints xs)∧(∀ x∈ys,IsI64 x)∧SL w 1 v2 ys.length (ints ys)∧IsI64 at_∧IsI64 how∧IsI64 by_∧IsI64 stt)):RowKit.Hid (wzof w v v2 xs ys at_ how by_ stt H0).1.2.2:=by
 refine Lib.hid ?_
 dsimp -zeta only [wzof,cut3]
 unhygienic intros
 have hd:=decide_eq_false hv1
 have HNJ:=Lib.hid (left_unknown (a:=a) (st:=st) (mo:=(mn:Nat)) HOK.out.2 (by omega))
 have f0:=HXE.out.some HCE.out.1 (by simp)
 have f1:=HXE.out.some HCE.out.2.1 (by simp)
 have f2:=HXE.out.some HCE.out.2.2 (by simp)
 have wc0:=(HMB.out.upd HYE.out (by simp)).cell HW.out
 go_upto_region 21 with fail
 refine wp_region_ord 13 2 [0,1,2,3,5,6,7,8,9,10,11,12,14,15,16,17,18] [3,8,12] [0,1,2,3,5,6,7,8,9,10,11,12,4,13,14,15,16,17,18] (fun w'=>∃ x:Ext wf,w'=x.val) (by kernel_rfl) (by kernel_rfl) (Ext.of (by iterate 25 (first|exact Upd.refl _ _|assumption|refine Upd.alloc ?_ _|refine Upd.drew ?_|refine Upd.drewN ?_ _|refine Upd.dl ?_|refine Upd.step ?_ (Ext.upd _)|refine Upd.nil ?_|skip))) ?_
 repeat (first|(refine wpOrd_load rfl rfl rfl rfl (fun K hK=>?_);go_big_quiet_step (fail);refine wpQuiet_nil ?_;refine hK _ ?_;clear hK K)|(refine wpOrd_free rfl rfl rfl (fun K hK=>?_);go_big_quiet_step (fail);refine wpQuiet_nil ?_;refine hK _ ?_;clear hK K))
 refine wpOrd_fix rfl rfl (fun K hK=>?_)
 go_wp2_with (go_at_call 22;refine (HON.out _ (HXE.out.step (by iterate 25 (first|exact Upd.refl _ _|assumption|refine Upd.alloc ?_ _|refine Upd.drew ?_|refine Upd.drewN ?_ _|refine Upd.dl ?_|refine Upd.step ?_ (Ext.upd _)|refine Upd.nil ?_|skip)))).mono ?_;rintro e w6 ⟨v6,rfl,o6,u6⟩)
 have HU6:=Lib.hid (And.intro (show Upd [] wf w6 from Upd.step (by iterate 25 (first|exact Upd.refl _ _|assumption|refine Upd.alloc ?_ _|refine Upd.drew ?_|refine Upd.drewN ?_ _|refine Upd.dl ?_|refine Upd.step ?_ (Ext.upd _)|refine Upd.nil ?_|skip)) u6) o6)
 clear u6 o6
 refine ⟨fun _=>Ext.of HU6.out.1,?_⟩
 repeat (first|(refine wpOrd_load rfl rfl rfl rfl (fun K hK=>?_);go_big_quiet_step (fail);refine wpQuiet_nil ?_;refine hK _ ?_;clear hK K)|(refine wpOrd_free rfl rfl rfl (fun K hK=>?_);go_big_quiet_step (fail);refine wpQuiet_nil ?_;refine hK _ ?_;clear hK K))
 refine wpOrd_fix rfl rfl (fun K hK=>?_)
 go_wp2_with (go_at_call 27;refine (Left_no (st:=st) HU6.out.2 HNJ.out).mono ?_;rintro e wg ⟨a9,c9,rfl,u9⟩)
 have HU9:=Lib.hid (And.intro (HU6.out.1.step u9) trivial)
 clear u9
 refine ⟨fun hC=>absurd hC (by decide),?_⟩
 repeat (first|(refine wpOrd_load rfl rfl rfl rfl (fun K hK=>?_);go_big_quiet_step (fail);refine wpQuiet_nil ?_;refine hK _ ?_;clear hK K)|(refine wpOrd_free rfl rfl rfl (fun K hK=>?_);go_big_quiet_step (fail);refine wpQuiet_nil ?_;refine hK _ ?_;clear hK K))
 refine wpOrd_nil ?_
 have HXG:=Lib.hid (HXE.out.step HU9.out.1)
 have HYG:=Lib.hid (HYE.out.step HU9.out.1)
 have HZG:=Lib.hid (HZE.out.step HU9.out.1)
 clear f0 f1 f2 wc0 sc0
 have f0:=HXG.out.some HCE.out.1 (by simp)
 have f1:=HXG.out.some HCE.out.2.1 (by simp)
 have f2:=HXG.out.some HCE.out.2.2 (by simp)
 have wc0:=(HMB.out.upd HYG.out (by simp)).cell HW.out
 have sc0:=(HSB.out.upd HYG.out (by simp)).cell HSW.out
 go_upto_region 22 with fail
 refine wp_region_qx (by kernel_rfl) (by kernel_rfl) ?_
 repeat (go_big_quiet_step ((fail)))
 refine wpQuiet_nil ?_
 intro x
 have HXH:=Lib.hid (HXG.out.step x.upd)
 have HYH:=Lib.hid (HYG.out.step x.upd)
 have HZH:=Lib.hid (HZG.out.step x.upd)
 have HQH:=Lib.hid x.upd
 clear f0 f1 f2 wc0 sc0
 generalize x.val=wh at *
 go_upto_region 26 with fail
 refine wp_region_qx (by kernel_rfl) (by kernel_rfl) ?_
 repeat (go_big_quiet_step ((fail)))
 refine wpQuiet_nil ?_
 intro x
 have HZI:=Lib.hid (HZH.out.step x.upd)
 generalize x.val=wi at *
 go_wp2_with fail
 go_roundg (3 - (j+1))
 case measure=>omega
 case rel=>exact ⟨j+1,by go_num,by omega,Ext.of HZI.out⟩
end Law
end Go.Proofs.YtjclbjdkkdijbaaGreat
end
section
open Go.RowKit
namespace Go.Proofs.YtjclbjdkkdijbaaGreat
open L
namespace Law
open Aut Auto R01 Rgx
attribute [-go_sem] sliced
set_option maxRecDepth 100000 in
set_option maxHeartbeats 16000000 in
def wzol (w:World) (v v2:Value) (xs ys:List Int) (at_ how by_ stt:Int) (H0:RowKit.Hid ((∀ x∈xs,IsI64 x)∧SL w 1 v xs.length (ints xs)∧(∀ x∈ys,IsI64 x)∧SL w 1 v2 ys.length (ints ys)∧IsI64 at_∧IsI64 how∧IsI64 by_∧IsI64 stt)):{ T:Prop × Prop × Prop // RowKit.Hid T.1→RowKit.Hid T.2.1→RowKit.Hid T.2.2→RowKit.Hid (wzo w v v2 xs ys at_ how by_ stt H0).1.2.1 }:=
 cut3 _ _ _ (by
 intro K1 K2 K3
 refine Lib.hid ?_
 dsimp -zeta only [wzo,cut3]
 unhygienic intros
 have hd:=decide_eq_false hu0
 have HBD:=Lib.hid (show mo<0∨64<mo by omega)
 have HNO:=Lib.hid (left_bad (a:=a) (st:=0) (mo:=mo) HOK.out.2 (by have:=HOK.out.1.some_;omega) HBD.out)
 go_upto_region 14 with fail
 refine wp_region_ord 9 2 [0,1,2,3,5,6,7,8,10,11,12,13,14] [3,8] [0,1,2,3,5,6,7,8,4,9,10,11,12,13,14] (fun w'=>∃ x:Ext wa,w'=x.val) (by kernel_rfl) (by kernel_rfl) (Ext.of (by iterate 25 (first|exact Upd.refl _ _|assumption|refine Upd.alloc ?_ _|refine Upd.drew ?_|refine Upd.drewN ?_ _|refine Upd.dl ?_|refine Upd.step ?_ (Ext.upd _)|refine Upd.nil ?_|skip))) ?_
 repeat (first|(refine wpOrd_load rfl rfl rfl rfl (fun K hK=>?_);go_big_quiet_step (fail);refine wpQuiet_nil ?_;refine hK _ ?_;clear hK K)|(refine wpOrd_free rfl rfl rfl (fun K hK=>?_);go_big_quiet_step (fail);refine wpQuiet_nil ?_;refine hK _ ?_;clear hK K))
 refine wpOrd_fix rfl rfl (fun K hK=>?_)
 go_wp2_with (go_at_call 22;refine (HON.out _ (HXA.out.step (by iterate 25 (first|exact Upd.refl _ _|assumption|refine Upd.alloc ?_ _|refine Upd.drew ?_|refine Upd.drewN ?_ _|refine Upd.dl ?_|refine Upd.step ?_ (Ext.upd _)|refine Upd.nil ?_|skip)))).mono ?_;rintro e w6 ⟨v6,rfl,o6,u6⟩)
 have HU6:=Lib.hid (And.intro (show Upd [] wa w6 from Upd.step (by iterate 25 (first|exact Upd.refl _ _|assumption|refine Upd.alloc ?_ _|refine Upd.drew ?_|refine Upd.drewN ?_ _|refine Upd.dl ?_|refine Upd.step ?_ (Ext.upd _)|refine Upd.nil ?_|skip)) u6) o6)
 clear u6 o6
 refine ⟨fun _=>Ext.of HU6.out.1,?_⟩
 repeat (first|(refine wpOrd_load rfl rfl rfl rfl (fun K hK=>?_);go_big_quiet_step (fail);refine wpQuiet_nil ?_;refine hK _ ?_;clear hK K)|(refine wpOrd_free rfl rfl rfl (fun K hK=>?_);go_big_quiet_step (fail);refine wpQuiet_nil ?_;refine hK _ ?_;clear hK K))
 refine wpOrd_fix rfl rfl (fun K hK=>?_)
 go_wp2_with (go_at_call 24;refine (Lengths_no (mo:=mo) HU6.out.2 HNO.out).mono ?_;rintro e wb ⟨a7,c7,rfl,u7⟩)
 have HU7:=Lib.hid (And.intro (HU6.out.1.step u7) trivial)
 clear u7
 refine ⟨fun hC=>absurd hC (by decide),?_⟩
 repeat (first|(refine wpOrd_load rfl rfl rfl rfl (fun K hK=>?_);go_big_quiet_step (fail);refine wpQuiet_nil ?_;refine hK _ ?_;clear hK K)|(refine wpOrd_free rfl rfl rfl (fun K hK=>?_);go_big_quiet_step (fail);refine wpQuiet_nil ?_;refine hK _ ?_;clear hK K))
 refine wpOrd_nil ?_
 have HXB:=Lib.hid (HXA.out.step HU7.out.1)
 have HYB:=Lib.hid (HY.out.step HU7.out.1)
 clear f0 f1 f2 wc0
 have f0:=HXB.out.some HCE.out.1 (by simp)
 have f1:=HXB.out.some HCE.out.2.1 (by simp)
 have f2:=HXB.out.some HCE.out.2.2 (by simp)
 have wc0:=(HMB.out.upd HYB.out (by simp)).cell HW.out
 go_upto_region 16 with fail
 refine wp_region_qx (by kernel_rfl) (by kernel_rfl) ?_
 repeat (go_big_quiet_step ((fail)))
 refine wpQuiet_nil ?_
 intro x
 have HXD:=Lib.hid (HXB.out.step x.upd)
 have HYD:=Lib.hid (HYB.out.step x.upd)
 generalize x.val=wd at *
 clear f0 f1 f2 wc0
 go_wp2_with fail
 go_loopg [25] 3 (fun gk jv wr=>∃ j:Nat,jv=.int .i64 j∧j+gk=3∧∃ x:Ext wd,wr=x.val)
 case atStart=>exact ⟨0,rfl,rfl,Ext.of (by iterate 25 (first|exact Upd.refl _ _|assumption|refine Upd.alloc ?_ _|refine Upd.drew ?_|refine Upd.drewN ?_ _|refine Upd.dl ?_|refine Upd.step ?_ (Ext.upd _)|refine Upd.nil ?_|skip))⟩
 case round=>
  obtain ⟨j,rfl,hj,x,rfl⟩:=hrel
  have HXE:=Lib.hid (HXD.out.step x.upd)
  have HYE:=Lib.hid (HYD.out.step x.upd)
  have HZE:=Lib.hid x.upd
  generalize x.val=wf at *
  by_cases hj3:j<3
  ·have hji:(j:Int)<3:=by omega
   obtain ⟨st,hs⟩:∃ st:Int,([.int .i64 stt,.int .i64 0,.int .i64 (ar-1)]:List Value)[j]?=some (.int .i64 st):=by
    rcases (by omega:j=0∨j=1∨j=2) with rfl|rfl|rfl <;> exact ⟨_,rfl⟩
   have HSW:=Lib.hid hs
   clear hs
   have sc0:=(HSB.out.upd HYE.out (by simp)).cell HSW.out
   have HKN:=Lib.hid (show (0≤st∧st<a.next.length)∨¬ 0≤st∨(0≤st∧¬ st<a.next.length) by omega)
   rcases HKN.out with ⟨hv0,hv1⟩|hv0|⟨hv0,hv1⟩
   ·clear K2 K3
    rename_i xb1 xb2 xb3 xb4 xb5 xb6 xb7 xb8 xb9 xb10 xb11 xb12 xb13 xb14 xb15 xb16 xb17 xb18 xb19 xb20 xb21 xb22 xb23 xb24 xb25 xb26 xb27 xb28 xb29 xb30 xb31 xb32 xb33 xb34 xb35 xb36 xb37 xb38 xb39 xb40 xb41 xb42 xb43 xb44 xb45 xb46 xb47 xb48 xb49 xb50 xb51 xb52 xb53 xb54 xb55 xb56 xb57 xb58 xb59 xb60 xb61 xb62 xb63 xb64 xb65 xb66 xb67 xb68 xb69 xb70 xb71 xb72 xb73 xb74 xb75 xb76 xb77 xb78 xb79 xb80 xb81 xb82 xb83 xb84 xb85 xb86 xb87 xb88 xb89 xb90 xb91 xb92 xb93 xb94 xb95 xb96 xb97 xb98 xb99 xb100 xb101 xb102 xb103 xb104 xb105 xb106 xb107 xb108 xb109 xb110 xb111 xb112 xb113 xb114 xb115 xb116
    revert HI ls HC1 HL5 HFE x1 w1 x2 x3 lg lc HLS xa1 xa2 u15 u16 u17 u18 u19 u20 u21 xa3 xa4 xa5 xa6 xa7 xa8 xa9 u29 u30 u37 u38 u39 u40 u41 u42 u43 u44 u45 u46 u47 u48 u49 u50 u51 u52 u53 u54 u55 u56 u57 u58 u59 u60 u61 u62 u63 u64 u65 u66 u67 u68 u69 u70 u71 u72 u73 u74 u75 u76 u77 u78 u79 u80 u81 u82 u83 u84 u85 xa10 xa11 xa12 xa13 xa14 xa15 xa16 xa17 xa18 xa19 xa20 xa21 xa22 xa23 xa24 xa25 xa26 xa27 xa28 xa29 xa30 xa31 xa32 xa33 xa34 xa35 xa36 xa37 xa38 xa39 xa40 xa41 xa42 xa43 xa44 xa45 xa46 xa47 xa48 xa49 xa50 xa51 xa52 xa53 xa54 xa55 xa56 xa57 xa58 xa59 xa60 xa61 xa62 xa63 xa64 xa65 xa66 xa67 xa68 xa69 xa70 xa71 xa72 xa73 xa74 xa75 xa76 xa77 xa78 xa79 xa80 xa81 xa82 xa83 xa84 xa85 xa86 xa87 xa88 xa89 xa90 xa91 xa92 xa93 xa94 xa95 xa96 xa97 xa98 xa99 xa100 xa101 xa102 xa103 xa104 xa105 xa106 xa107 xa108 xa109 xa110 xa111 xa112 xa113 xa114 xa115 xa116 xa117 xa118 xa119 xa120 xa121 xa122 xa123 xa124 xa125 xa126 xa127 xa128 xa129 xa130 xa131 xa132 xa133 xa134 xa135 xa136 xa137 xa138 xa139 xa140 xa141 xa142 xa143 xa144 xa145 xa146 xa147 xa148 xa149 xa150 xa151 xa152 xa153 xa154 xa155 xa156 xa157 xa158 xa159 xa160 xa161 xa162 xa163 xa164 xa165 xa166 xa167 xa168 xa169 xa170 xa171 xa172 xa173 xa174 xa175 xa176 xa177 xa178 xa179 xa180 xa181 xa182 xa183 xa184 xa185 xa186 xa187 xa188 xa189 u266 u267 u268 u269 u270 u271 u272 u273 u274 u275 u276 u277 u278 u279 u280 u281 u282 u283 x4 x5 x6 x7 m hm xa190 wq HXU hlt hli hm5 a a1 c1 a2 c2 a3 c3 HAU HCE HON xa191 xa192 xa193 hfewi ar hal HFB hee HRV HOK xa194 xa195 w5 HX5 HON5 xb1 xb2 HVC xb3 w7 HX7 w8 mb HB HX8 xa196 xa197 w9 sb HS HX9 HMB HSB xb4 xb5 u22 u23 u24 u25 xb6 xb7 xb8 u86 u87 u88 u89 u90 u91 u92 u93 u94 u95 u96 u97 u98 u99 u100 u101 u102 u103 u104 u105 u106 u107 u108 u109 u110 u111 u112 u113 u114 u115 u116 u117 u118 u119 u120 u121 u122 u123 u124 u125 u126 u127 u128 u129 u130 u131 u132 u133 u134 u135 u136 u137 u138 u139 u140 u141 u142 u143 u144 u145 u146 u147 u148 u149 u150 u151 u152 u153 u154 u155 u156 u157 u158 u159 u160 u161 u162 u163 u164 u165 xb9 xb10 xb11 xb12 xb13 xb14 xb15 xb16 xb17 xb18 xb19 xb20 xb21 xb22 xb23 xb24 xb25 xb26 xb27 xb28 xb29 xb30 xb31 xb32 xb33 xb34 xb35 xb36 xb37 xb38 xb39 xb40 xb41 xb42 xb43 xb44 xb45 xb46 xb47 xb48 xb49 xb50 xb51 xb52 xb53 xb54 xb55 xb56 xb57 xb58 xb59 xb60 xb61 xb62 xb63 xb64 xb65 xb66 xb67 xb68 xb69 xb70 xb71 xb72 xb73 xb74 xb75 xb76 xb77 xb78 xb79 xb80 xb81 xb82 xb83 xb84 xb85 xb86 xb87 xb88 xb89 xb90 xb91 xb92 xb93 xb94 xb95 xb96 xb97 xb98 xb99 xb100 xb101 xb102 xb103 xb104 xb105 xb106 xb107 xb108 xa198 xa199 xa200 xa201 k hk xb109 wa HXA HY hk6 hki mo HW hd HBD HNO xb110 xb111 w6 v6 HFI hu0 HU6 wb a7 c7 HU7 HXB HYB xb112 wd HXD HYD gk u12 u26 u27 u28 u166 u167 u168 u169 u170 u171 u172 u173 u174 u175 u176 u177 u178 u179 u180 u181 u182 u183 u184 u185 u186 u187 u188 u189 u190 u191 u192 u193 u194 u195 u196 u197 u198 u199 u200 u201 u202 u203 u204 u205 u206 u207 u208 u209 u210 u211 u212 u213 u214 u215 u216 u217 u218 u219 u220 u221 u222 u223 u224 u225 u226 u227 u228 u229 u230 u231 u232 u233 u234 u235 u236 u237 u238 u239 u240 u241 u242 u243 u244 u245 u246 u247 u248 u249 u250 u251 u252 u253 u254 u255 u256 u257 u258 u259 u260 u261 u262 u263 u264 u265 xb113 xb114 xb115 xb116 j hj x wf HXE HYE HZE hj3 hji st HSW sc0 HKN hv0 hv1
    exact K1.out
   ·clear K1 K3
    rename_i xb1 xb2 xb3 xb4 xb5 xb6 xb7 xb8 xb9 xb10 xb11 xb12 xb13 xb14 xb15 xb16 xb17 xb18 xb19 xb20 xb21 xb22 xb23 xb24 xb25 xb26 xb27 xb28 xb29 xb30 xb31 xb32 xb33 xb34 xb35 xb36 xb37 xb38 xb39 xb40 xb41 xb42 xb43 xb44 xb45 xb46 xb47 xb48 xb49 xb50 xb51 xb52 xb53 xb54 xb55 xb56 xb57 xb58 xb59 xb60 xb61 xb62 xb63 xb64 xb65 xb66 xb67 xb68 xb69 xb70 xb71 xb72 xb73 xb74 xb75 xb76 xb77 xb78 xb79 xb80 xb81 xb82 xb83 xb84 xb85 xb86 xb87 xb88 xb89 xb90 xb91 xb92 xb93 xb94 xb95 xb96 xb97 xb98 xb99 xb100 xb101 xb102 xb103 xb104 xb105 xb106 xb107 xb108 xb109 xb110 xb111 xb112 xb113 xb114 xb115 xb116
    revert HI ls HC1 HL5 HFE x1 w1 x2 x3 lg lc HLS xa1 xa2 u15 u16 u17 u18 u19 u20 u21 xa3 xa4 xa5 xa6 xa7 xa8 xa9 u29 u30 u37 u38 u39 u40 u41 u42 u43 u44 u45 u46 u47 u48 u49 u50 u51 u52 u53 u54 u55 u56 u57 u58 u59 u60 u61 u62 u63 u64 u65 u66 u67 u68 u69 u70 u71 u72 u73 u74 u75 u76 u77 u78 u79 u80 u81 u82 u83 u84 u85 xa10 xa11 xa12 xa13 xa14 xa15 xa16 xa17 xa18 xa19 xa20 xa21 xa22 xa23 xa24 xa25 xa26 xa27 xa28 xa29 xa30 xa31 xa32 xa33 xa34 xa35 xa36 xa37 xa38 xa39 xa40 xa41 xa42 xa43 xa44 xa45 xa46 xa47 xa48 xa49 xa50 xa51 xa52 xa53 xa54 xa55 xa56 xa57 xa58 xa59 xa60 xa61 xa62 xa63 xa64 xa65 xa66 xa67 xa68 xa69 xa70 xa71 xa72 xa73 xa74 xa75 xa76 xa77 xa78 xa79 xa80 xa81 xa82 xa83 xa84 xa85 xa86 xa87 xa88 xa89 xa90 xa91 xa92 xa93 xa94 xa95 xa96 xa97 xa98 xa99 xa100 xa101 xa102 xa103 xa104 xa105 xa106 xa107 xa108 xa109 xa110 xa111 xa112 xa113 xa114 xa115 xa116 xa117 xa118 xa119 xa120 xa121 xa122 xa123 xa124 xa125 xa126 xa127 xa128 xa129 xa130 xa131 xa132 xa133 xa134 xa135 xa136 xa137 xa138 xa139 xa140 xa141 xa142 xa143 xa144 xa145 xa146 xa147 xa148 xa149 xa150 xa151 xa152 xa153 xa154 xa155 xa156 xa157 xa158 xa159 xa160 xa161 xa162 xa163 xa164 xa165 xa166 xa167 xa168 xa169 xa170 xa171 xa172 xa173 xa174 xa175 xa176 xa177 xa178 xa179 xa180 xa181 xa182 xa183 xa184 xa185 xa186 xa187 xa188 xa189 u266 u267 u268 u269 u270 u271 u272 u273 u274 u275 u276 u277 u278 u279 u280 u281 u282 u283 x4 x5 x6 x7 m hm xa190 wq HXU hlt hli hm5 a a1 c1 a2 c2 a3 c3 HAU HCE HON xa191 xa192 xa193 hfewi ar hal HFB hee HRV HOK xa194 xa195 w5 HX5 HON5 xb1 xb2 HVC xb3 w7 HX7 w8 mb HB HX8 xa196 xa197 w9 sb HS HX9 HMB HSB xb4 xb5 u22 u23 u24 u25 xb6 xb7 xb8 u86 u87 u88 u89 u90 u91 u92 u93 u94 u95 u96 u97 u98 u99 u100 u101 u102 u103 u104 u105 u106 u107 u108 u109 u110 u111 u112 u113 u114 u115 u116 u117 u118 u119 u120 u121 u122 u123 u124 u125 u126 u127 u128 u129 u130 u131 u132 u133 u134 u135 u136 u137 u138 u139 u140 u141 u142 u143 u144 u145 u146 u147 u148 u149 u150 u151 u152 u153 u154 u155 u156 u157 u158 u159 u160 u161 u162 u163 u164 u165 xb9 xb10 xb11 xb12 xb13 xb14 xb15 xb16 xb17 xb18 xb19 xb20 xb21 xb22 xb23 xb24 xb25 xb26 xb27 xb28 xb29 xb30 xb31 xb32 xb33 xb34 xb35 xb36 xb37 xb38 xb39 xb40 xb41 xb42 xb43 xb44 xb45 xb46 xb47 xb48 xb49 xb50 xb51 xb52 xb53 xb54 xb55 xb56 xb57 xb58 xb59 xb60 xb61 xb62 xb63 xb64 xb65 xb66 xb67 xb68 xb69 xb70 xb71 xb72 xb73 xb74 xb75 xb76 xb77 xb78 xb79 xb80 xb81 xb82 xb83 xb84 xb85 xb86 xb87 xb88 xb89 xb90 xb91 xb92 xb93 xb94 xb95 xb96 xb97 xb98 xb99 xb100 xb101 xb102 xb103 xb104 xb105 xb106 xb107 xb108 xa198 xa199 xa200 xa201 k hk xb109 wa HXA HY hk6 hki mo HW hd HBD HNO xb110 xb111 w6 v6 HFI hu0 HU6 wb a7 c7 HU7 HXB HYB xb112 wd HXD HYD gk u12 u26 u27 u28 u166 u167 u168 u169 u170 u171 u172 u173 u174 u175 u176 u177 u178 u179 u180 u181 u182 u183 u184 u185 u186 u187 u188 u189 u190 u191 u192 u193 u194 u195 u196 u197 u198 u199 u200 u201 u202 u203 u204 u205 u206 u207 u208 u209 u210 u211 u212 u213 u214 u215 u216 u217 u218 u219 u220 u221 u222 u223 u224 u225 u226 u227 u228 u229 u230 u231 u232 u233 u234 u235 u236 u237 u238 u239 u240 u241 u242 u243 u244 u245 u246 u247 u248 u249 u250 u251 u252 u253 u254 u255 u256 u257 u258 u259 u260 u261 u262 u263 u264 u265 xb113 xb114 xb115 xb116 j hj x wf HXE HYE HZE hj3 hji st HSW sc0 HKN hv0
    exact K2.out
   ·clear K1 K2
    rename_i xb1 xb2 xb3 xb4 xb5 xb6 xb7 xb8 xb9 xb10 xb11 xb12 xb13 xb14 xb15 xb16 xb17 xb18 xb19 xb20 xb21 xb22 xb23 xb24 xb25 xb26 xb27 xb28 xb29 xb30 xb31 xb32 xb33 xb34 xb35 xb36 xb37 xb38 xb39 xb40 xb41 xb42 xb43 xb44 xb45 xb46 xb47 xb48 xb49 xb50 xb51 xb52 xb53 xb54 xb55 xb56 xb57 xb58 xb59 xb60 xb61 xb62 xb63 xb64 xb65 xb66 xb67 xb68 xb69 xb70 xb71 xb72 xb73 xb74 xb75 xb76 xb77 xb78 xb79 xb80 xb81 xb82 xb83 xb84 xb85 xb86 xb87 xb88 xb89 xb90 xb91 xb92 xb93 xb94 xb95 xb96 xb97 xb98 xb99 xb100 xb101 xb102 xb103 xb104 xb105 xb106 xb107 xb108 xb109 xb110 xb111 xb112 xb113 xb114 xb115 xb116
    revert HI ls HC1 HL5 HFE x1 w1 x2 x3 lg lc HLS xa1 xa2 u15 u16 u17 u18 u19 u20 u21 xa3 xa4 xa5 xa6 xa7 xa8 xa9 u29 u30 u37 u38 u39 u40 u41 u42 u43 u44 u45 u46 u47 u48 u49 u50 u51 u52 u53 u54 u55 u56 u57 u58 u59 u60 u61 u62 u63 u64 u65 u66 u67 u68 u69 u70 u71 u72 u73 u74 u75 u76 u77 u78 u79 u80 u81 u82 u83 u84 u85 xa10 xa11 xa12 xa13 xa14 xa15 xa16 xa17 xa18 xa19 xa20 xa21 xa22 xa23 xa24 xa25 xa26 xa27 xa28 xa29 xa30 xa31 xa32 xa33 xa34 xa35 xa36 xa37 xa38 xa39 xa40 xa41 xa42 xa43 xa44 xa45 xa46 xa47 xa48 xa49 xa50 xa51 xa52 xa53 xa54 xa55 xa56 xa57 xa58 xa59 xa60 xa61 xa62 xa63 xa64 xa65 xa66 xa67 xa68 xa69 xa70 xa71 xa72 xa73 xa74 xa75 xa76 xa77 xa78 xa79 xa80 xa81 xa82 xa83 xa84 xa85 xa86 xa87 xa88 xa89 xa90 xa91 xa92 xa93 xa94 xa95 xa96 xa97 xa98 xa99 xa100 xa101 xa102 xa103 xa104 xa105 xa106 xa107 xa108 xa109 xa110 xa111 xa112 xa113 xa114 xa115 xa116 xa117 xa118 xa119 xa120 xa121 xa122 xa123 xa124 xa125 xa126 xa127 xa128 xa129 xa130 xa131 xa132 xa133 xa134 xa135 xa136 xa137 xa138 xa139 xa140 xa141 xa142 xa143 xa144 xa145 xa146 xa147 xa148 xa149 xa150 xa151 xa152 xa153 xa154 xa155 xa156 xa157 xa158 xa159 xa160 xa161 xa162 xa163 xa164 xa165 xa166 xa167 xa168 xa169 xa170 xa171 xa172 xa173 xa174 xa175 xa176 xa177 xa178 xa179 xa180 xa181 xa182 xa183 xa184 xa185 xa186 xa187 xa188 xa189 u266 u267 u268 u269 u270 u271 u272 u273 u274 u275 u276 u277 u278 u279 u280 u281 u282 u283 x4 x5 x6 x7 m hm xa190 wq HXU hlt hli hm5 a a1 c1 a2 c2 a3 c3 HAU HCE HON xa191 xa192 xa193 hfewi ar hal HFB hee HRV HOK xa194 xa195 w5 HX5 HON5 xb1 xb2 HVC xb3 w7 HX7 w8 mb HB HX8 xa196 xa197 w9 sb HS HX9 HMB HSB xb4 xb5 u22 u23 u24 u25 xb6 xb7 xb8 u86 u87 u88 u89 u90 u91 u92 u93 u94 u95 u96 u97 u98 u99 u100 u101 u102 u103 u104 u105 u106 u107 u108 u109 u110 u111 u112 u113 u114 u115 u116 u117 u118 u119 u120 u121 u122 u123 u124 u125 u126 u127 u128 u129 u130 u131 u132 u133 u134 u135 u136 u137 u138 u139 u140 u141 u142 u143 u144 u145 u146 u147 u148 u149 u150 u151 u152 u153 u154 u155 u156 u157 u158 u159 u160 u161 u162 u163 u164 u165 xb9 xb10 xb11 xb12 xb13 xb14 xb15 xb16 xb17 xb18 xb19 xb20 xb21 xb22 xb23 xb24 xb25 xb26 xb27 xb28 xb29 xb30 xb31 xb32 xb33 xb34 xb35 xb36 xb37 xb38 xb39 xb40 xb41 xb42 xb43 xb44 xb45 xb46 xb47 xb48 xb49 xb50 xb51 xb52 xb53 xb54 xb55 xb56 xb57 xb58 xb59 xb60 xb61 xb62 xb63 xb64 xb65 xb66 xb67 xb68 xb69 xb70 xb71 xb72 xb73 xb74 xb75 xb76 xb77 xb78 xb79 xb80 xb81 xb82 xb83 xb84 xb85 xb86 xb87 xb88 xb89 xb90 xb91 xb92 xb93 xb94 xb95 xb96 xb97 xb98 xb99 xb100 xb101 xb102 xb103 xb104 xb105 xb106 xb107 xb108 xa198 xa199 xa200 xa201 k hk xb109 wa HXA HY hk6 hki mo HW hd HBD HNO xb110 xb111 w6 v6 HFI hu0 HU6 wb a7 c7 HU7 HXB HYB xb112 wd HXD HYD gk u12 u26 u27 u28 u166 u167 u168 u169 u170 u171 u172 u173 u174 u175 u176 u177 u178 u179 u180 u181 u182 u183 u184 u185 u186 u187 u188 u189 u190 u191 u192 u193 u194 u195 u196 u197 u198 u199 u200 u201 u202 u203 u204 u205 u206 u207 u208 u209 u210 u211 u212 u213 u214 u215 u216 u217 u218 u219 u220 u221 u222 u223 u224 u225 u226 u227 u228 u229 u230 u231 u232 u233 u234 u235 u236 u237 u238 u239 u240 u241 u242 u243 u244 u245 u246 u247 u248 u249 u250 u251 u252 u253 u254 u255 u256 u257 u258 u259 u260 u261 u262 u263 u264 u265 xb113 xb114 xb115 xb116 j hj x wf HXE HYE HZE hj3 hji st HSW sc0 HKN hv0 hv1
    exact K3.out
  ·have hnj:¬ ((j:Int)<3):=by omega
   go_wp2_with fail
   go_roundg (6 - (k+1))
   case measure=>omega
   case rel=>exact ⟨k+1,by go_num,by omega,Ext.of HYE.out⟩)
set_option maxRecDepth 100000 in
set_option maxHeartbeats 16000000 in
theorem wzolk (w:World) (v v2:Value) (xs ys:List Int) (at_ how by_ stt:Int) (H0:RowKit.Hid ((∀ x∈xs,IsI64 x)∧SL w 1 v xs.length (ints xs)∧(∀ x∈ys,IsI64 x)∧SL w 1 v2 ys.length (ints ys)∧IsI64 at_∧IsI64 how∧IsI64 by_∧IsI64 stt)):RowKit.Hid (wzol w v v2 xs ys at_ how by_ stt H0).1.1:=by
 refine Lib.hid ?_
 dsimp -zeta only [wzol,cut3]
 unhygienic intros
 obtain ⟨sn,rfl⟩:∃ sn:Nat,st=sn:=⟨st.toNat,by omega⟩
 have HSN:=Lib.hid (show sn<a.next.length by omega)
 have HNJ:=Lib.hid (left_bad (a:=a) (st:=((sn:Nat):Int)) (mo:=mo) HOK.out.2 (by have:=HSN.out;omega) HBD.out)
 have f0:=HXE.out.some HCE.out.1 (by simp)
 have f1:=HXE.out.some HCE.out.2.1 (by simp)
 have f2:=HXE.out.some HCE.out.2.2 (by simp)
 have wc0:=(HMB.out.upd HYE.out (by simp)).cell HW.out
 go_upto_region 21 with fail
 refine wp_region_ord 13 2 [0,1,2,3,5,6,7,8,9,10,11,12,14,15,16,17,18] [3,8,12] [0,1,2,3,5,6,7,8,9,10,11,12,4,13,14,15,16,17,18] (fun w'=>∃ x:Ext wf,w'=x.val) (by kernel_rfl) (by kernel_rfl) (Ext.of (by iterate 25 (first|exact Upd.refl _ _|assumption|refine Upd.alloc ?_ _|refine Upd.drew ?_|refine Upd.drewN ?_ _|refine Upd.dl ?_|refine Upd.step ?_ (Ext.upd _)|refine Upd.nil ?_|skip))) ?_
 repeat (first|(refine wpOrd_load rfl rfl rfl rfl (fun K hK=>?_);go_big_quiet_step (fail);refine wpQuiet_nil ?_;refine hK _ ?_;clear hK K)|(refine wpOrd_free rfl rfl rfl (fun K hK=>?_);go_big_quiet_step (fail);refine wpQuiet_nil ?_;refine hK _ ?_;clear hK K))
 refine wpOrd_fix rfl rfl (fun K hK=>?_)
 go_wp2_with (go_at_call 22;refine (HON.out _ (HXE.out.step (by iterate 25 (first|exact Upd.refl _ _|assumption|refine Upd.alloc ?_ _|refine Upd.drew ?_|refine Upd.drewN ?_ _|refine Upd.dl ?_|refine Upd.step ?_ (Ext.upd _)|refine Upd.nil ?_|skip)))).mono ?_;rintro e w6 ⟨v6,rfl,o6,u6⟩)
 have HU6:=Lib.hid (And.intro (show Upd [] wf w6 from Upd.step (by iterate 25 (first|exact Upd.refl _ _|assumption|refine Upd.alloc ?_ _|refine Upd.drew ?_|refine Upd.drewN ?_ _|refine Upd.dl ?_|refine Upd.step ?_ (Ext.upd _)|refine Upd.nil ?_|skip)) u6) o6)
 clear u6 o6
 refine ⟨fun _=>Ext.of HU6.out.1,?_⟩
 repeat (first|(refine wpOrd_load rfl rfl rfl rfl (fun K hK=>?_);go_big_quiet_step (fail);refine wpQuiet_nil ?_;refine hK _ ?_;clear hK K)|(refine wpOrd_free rfl rfl rfl (fun K hK=>?_);go_big_quiet_step (fail);refine wpQuiet_nil ?_;refine hK _ ?_;clear hK K))
 refine wpOrd_fix rfl rfl (fun K hK=>?_)
 go_wp2_with (go_at_call 27;refine (Left_no (st:=((sn:Nat):Int)) HU6.out.2 HNJ.out).mono ?_;rintro e wg ⟨a9,c9,rfl,u9⟩)
 have HU9:=Lib.hid (And.intro (HU6.out.1.step u9) trivial)
 clear u9
 refine ⟨fun hC=>absurd hC (by decide),?_⟩
 repeat (first|(refine wpOrd_load rfl rfl rfl rfl (fun K hK=>?_);go_big_quiet_step (fail);refine wpQuiet_nil ?_;refine hK _ ?_;clear hK K)|(refine wpOrd_free rfl rfl rfl (fun K hK=>?_);go_big_quiet_step (fail);refine wpQuiet_nil ?_;refine hK _ ?_;clear hK K))
 refine wpOrd_nil ?_
 have HXG:=Lib.hid (HXE.out.step HU9.out.1)
 have HYG:=Lib.hid (HYE.out.step HU9.out.1)
 have HZG:=Lib.hid (HZE.out.step HU9.out.1)
 clear f0 f1 f2 wc0 sc0
 have f0:=HXG.out.some HCE.out.1 (by simp)
 have f1:=HXG.out.some HCE.out.2.1 (by simp)
 have f2:=HXG.out.some HCE.out.2.2 (by simp)
 have wc0:=(HMB.out.upd HYG.out (by simp)).cell HW.out
 have sc0:=(HSB.out.upd HYG.out (by simp)).cell HSW.out
 go_upto_region 22 with fail
 refine wp_region_qx (by kernel_rfl) (by kernel_rfl) ?_
 repeat (go_big_quiet_step ((fail)))
 refine wpQuiet_nil ?_
 intro x
 have HXH:=Lib.hid (HXG.out.step x.upd)
 have HYH:=Lib.hid (HYG.out.step x.upd)
 have HZH:=Lib.hid (HZG.out.step x.upd)
 have HQH:=Lib.hid x.upd
 clear f0 f1 f2 wc0 sc0
 generalize x.val=wh at *
 go_upto_region 26 with fail
 refine wp_region_qx (by kernel_rfl) (by kernel_rfl) ?_
 repeat (go_big_quiet_step ((fail)))
 refine wpQuiet_nil ?_
 intro x
 have HZI:=Lib.hid (HZH.out.step x.upd)
 generalize x.val=wi at *
 go_wp2_with fail
 go_roundg (3 - (j+1))
 case measure=>omega
 case rel=>exact ⟨j+1,by go_num,by omega,Ext.of HZI.out⟩
set_option maxRecDepth 100000 in
set_option maxHeartbeats 16000000 in
theorem wzoll (w:World) (v v2:Value) (xs ys:List Int) (at_ how by_ stt:Int) (H0:RowKit.Hid ((∀ x∈xs,IsI64 x)∧SL w 1 v xs.length (ints xs)∧(∀ x∈ys,IsI64 x)∧SL w 1 v2 ys.length (ints ys)∧IsI64 at_∧IsI64 how∧IsI64 by_∧IsI64 stt)):RowKit.Hid (wzol w v v2 xs ys at_ how by_ stt H0).1.2.1:=by
 refine Lib.hid ?_
 dsimp -zeta only [wzol,cut3]
 unhygienic intros
 have hd:=decide_eq_false hv0
 have HNJ:=Lib.hid (left_unknown (a:=a) (st:=st) (mo:=mo) HOK.out.2 (by omega))
 have f0:=HXE.out.some HCE.out.1 (by simp)
 have f1:=HXE.out.some HCE.out.2.1 (by simp)
 have f2:=HXE.out.some HCE.out.2.2 (by simp)
 have wc0:=(HMB.out.upd HYE.out (by simp)).cell HW.out
 go_upto_region 21 with fail
 refine wp_region_ord 13 2 [0,1,2,3,5,6,7,8,9,10,11,12,14,15,16,17,18] [3,8,12] [0,1,2,3,5,6,7,8,9,10,11,12,4,13,14,15,16,17,18] (fun w'=>∃ x:Ext wf,w'=x.val) (by kernel_rfl) (by kernel_rfl) (Ext.of (by iterate 25 (first|exact Upd.refl _ _|assumption|refine Upd.alloc ?_ _|refine Upd.drew ?_|refine Upd.drewN ?_ _|refine Upd.dl ?_|refine Upd.step ?_ (Ext.upd _)|refine Upd.nil ?_|skip))) ?_
 repeat (first|(refine wpOrd_load rfl rfl rfl rfl (fun K hK=>?_);go_big_quiet_step (fail);refine wpQuiet_nil ?_;refine hK _ ?_;clear hK K)|(refine wpOrd_free rfl rfl rfl (fun K hK=>?_);go_big_quiet_step (fail);refine wpQuiet_nil ?_;refine hK _ ?_;clear hK K))
 refine wpOrd_fix rfl rfl (fun K hK=>?_)
 go_wp2_with (go_at_call 22;refine (HON.out _ (HXE.out.step (by iterate 25 (first|exact Upd.refl _ _|assumption|refine Upd.alloc ?_ _|refine Upd.drew ?_|refine Upd.drewN ?_ _|refine Upd.dl ?_|refine Upd.step ?_ (Ext.upd _)|refine Upd.nil ?_|skip)))).mono ?_;rintro e w6 ⟨v6,rfl,o6,u6⟩)
 have HU6:=Lib.hid (And.intro (show Upd [] wf w6 from Upd.step (by iterate 25 (first|exact Upd.refl _ _|assumption|refine Upd.alloc ?_ _|refine Upd.drew ?_|refine Upd.drewN ?_ _|refine Upd.dl ?_|refine Upd.step ?_ (Ext.upd _)|refine Upd.nil ?_|skip)) u6) o6)
 clear u6 o6
 refine ⟨fun _=>Ext.of HU6.out.1,?_⟩
 repeat (first|(refine wpOrd_load rfl rfl rfl rfl (fun K hK=>?_);go_big_quiet_step (fail);refine wpQuiet_nil ?_;refine hK _ ?_;clear hK K)|(refine wpOrd_free rfl rfl rfl (fun K hK=>?_);go_big_quiet_step (fail);refine wpQuiet_nil ?_;refine hK _ ?_;clear hK K))
 refine wpOrd_fix rfl rfl (fun K hK=>?_)
 go_wp2_with (go_at_call 27;refine (Left_no (st:=st) HU6.out.2 HNJ.out).mono ?_;rintro e wg ⟨a9,c9,rfl,u9⟩)
 have HU9:=Lib.hid (And.intro (HU6.out.1.step u9) trivial)
 clear u9
 refine ⟨fun hC=>absurd hC (by decide),?_⟩
 repeat (first|(refine wpOrd_load rfl rfl rfl rfl (fun K hK=>?_);go_big_quiet_step (fail);refine wpQuiet_nil ?_;refine hK _ ?_;clear hK K)|(refine wpOrd_free rfl rfl rfl (fun K hK=>?_);go_big_quiet_step (fail);refine wpQuiet_nil ?_;refine hK _ ?_;clear hK K))
 refine wpOrd_nil ?_
 have HXG:=Lib.hid (HXE.out.step HU9.out.1)
 have HYG:=Lib.hid (HYE.out.step HU9.out.1)
 have HZG:=Lib.hid (HZE.out.step HU9.out.1)
 clear f0 f1 f2 wc0 sc0
 have f0:=HXG.out.some HCE.out.1 (by simp)
 have f1:=HXG.out.some HCE.out.2.1 (by simp)
 have f2:=HXG.out.some HCE.out.2.2 (by simp)
 have wc0:=(HMB.out.upd HYG.out (by simp)).cell HW.out
 have sc0:=(HSB.out.upd HYG.out (by simp)).cell HSW.out
 go_upto_region 22 with fail
 refine wp_region_qx (by kernel_rfl) (by kernel_rfl) ?_
 repeat (go_big_quiet_step ((fail)))
 refine wpQuiet_nil ?_
 intro x
 have HXH:=Lib.hid (HXG.out.step x.upd)
 have HYH:=Lib.hid (HYG.out.step x.upd)
 have HZH:=Lib.hid (HZG.out.step x.upd)
 have HQH:=Lib.hid x.upd
 clear f0 f1 f2 wc0 sc0
 generalize x.val=wh at *
 go_upto_region 26 with fail
 refine wp_region_qx (by kernel_rfl) (by kernel_rfl) ?_
 repeat (go_big_quiet_step ((fail)))
 refine wpQuiet_nil ?_
 intro x
 have HZI:=Lib.hid (HZH.out.step x.upd)
 generalize x.val=wi at *
 go_wp2_with fail
 go_roundg (3 - (j+1))
 case measure=>omega
 case rel=>exact ⟨j+1,by go_num,by omega,Ext.of HZI.out⟩
set_option maxRecDepth 100000 in
set_option maxHeartbeats 16000000 in
theorem wzolh (w:World) (v v2:Value) (xs ys:List Int) (at_ how by_ stt:Int) (H0:RowKit.Hid ((∀ x∈xs,IsI64 x)∧SL w 1 v xs.length (ints xs)∧(∀ x∈ys,IsI64 x)∧SL w 1 v2 ys.length (ints ys)∧IsI64 at_∧IsI64 how∧IsI64 by_∧IsI64 stt)):RowKit.Hid (wzol w v v2 xs ys at_ how by_ stt H0).1.2.2:=by
 refine Lib.hid ?_
 dsimp -zeta only [wzol,cut3]
 unhygienic intros
 have hd:=decide_eq_false hv1
 have HNJ:=Lib.hid (left_unknown (a:=a) (st:=st) (mo:=mo) HOK.out.2 (by omega))
 have f0:=HXE.out.some HCE.out.1 (by simp)
 have f1:=HXE.out.some HCE.out.2.1 (by simp)
 have f2:=HXE.out.some HCE.out.2.2 (by simp)
 have wc0:=(HMB.out.upd HYE.out (by simp)).cell HW.out
 go_upto_region 21 with fail
 refine wp_region_ord 13 2 [0,1,2,3,5,6,7,8,9,10,11,12,14,15,16,17,18] [3,8,12] [0,1,2,3,5,6,7,8,9,10,11,12,4,13,14,15,16,17,18] (fun w'=>∃ x:Ext wf,w'=x.val) (by kernel_rfl) (by kernel_rfl) (Ext.of (by iterate 25 (first|exact Upd.refl _ _|assumption|refine Upd.alloc ?_ _|refine Upd.drew ?_|refine Upd.drewN ?_ _|refine Upd.dl ?_|refine Upd.step ?_ (Ext.upd _)|refine Upd.nil ?_|skip))) ?_
 repeat (first|(refine wpOrd_load rfl rfl rfl rfl (fun K hK=>?_);go_big_quiet_step (fail);refine wpQuiet_nil ?_;refine hK _ ?_;clear hK K)|(refine wpOrd_free rfl rfl rfl (fun K hK=>?_);go_big_quiet_step (fail);refine wpQuiet_nil ?_;refine hK _ ?_;clear hK K))
 refine wpOrd_fix rfl rfl (fun K hK=>?_)
 go_wp2_with (go_at_call 22;refine (HON.out _ (HXE.out.step (by iterate 25 (first|exact Upd.refl _ _|assumption|refine Upd.alloc ?_ _|refine Upd.drew ?_|refine Upd.drewN ?_ _|refine Upd.dl ?_|refine Upd.step ?_ (Ext.upd _)|refine Upd.nil ?_|skip)))).mono ?_;rintro e w6 ⟨v6,rfl,o6,u6⟩)
 have HU6:=Lib.hid (And.intro (show Upd [] wf w6 from Upd.step (by iterate 25 (first|exact Upd.refl _ _|assumption|refine Upd.alloc ?_ _|refine Upd.drew ?_|refine Upd.drewN ?_ _|refine Upd.dl ?_|refine Upd.step ?_ (Ext.upd _)|refine Upd.nil ?_|skip)) u6) o6)
 clear u6 o6
 refine ⟨fun _=>Ext.of HU6.out.1,?_⟩
 repeat (first|(refine wpOrd_load rfl rfl rfl rfl (fun K hK=>?_);go_big_quiet_step (fail);refine wpQuiet_nil ?_;refine hK _ ?_;clear hK K)|(refine wpOrd_free rfl rfl rfl (fun K hK=>?_);go_big_quiet_step (fail);refine wpQuiet_nil ?_;refine hK _ ?_;clear hK K))
 refine wpOrd_fix rfl rfl (fun K hK=>?_)
 go_wp2_with (go_at_call 27;refine (Left_no (st:=st) HU6.out.2 HNJ.out).mono ?_;rintro e wg ⟨a9,c9,rfl,u9⟩)
 have HU9:=Lib.hid (And.intro (HU6.out.1.step u9) trivial)
 clear u9
 refine ⟨fun hC=>absurd hC (by decide),?_⟩
 repeat (first|(refine wpOrd_load rfl rfl rfl rfl (fun K hK=>?_);go_big_quiet_step (fail);refine wpQuiet_nil ?_;refine hK _ ?_;clear hK K)|(refine wpOrd_free rfl rfl rfl (fun K hK=>?_);go_big_quiet_step (fail);refine wpQuiet_nil ?_;refine hK _ ?_;clear hK K))
 refine wpOrd_nil ?_
 have HXG:=Lib.hid (HXE.out.step HU9.out.1)
 have HYG:=Lib.hid (HYE.out.step HU9.out.1)
 have HZG:=Lib.hid (HZE.out.step HU9.out.1)
 clear f0 f1 f2 wc0 sc0
 have f0:=HXG.out.some HCE.out.1 (by simp)
 have f1:=HXG.out.some HCE.out.2.1 (by simp)
 have f2:=HXG.out.some HCE.out.2.2 (by simp)
 have wc0:=(HMB.out.upd HYG.out (by simp)).cell HW.out
 have sc0:=(HSB.out.upd HYG.out (by simp)).cell HSW.out
 go_upto_region 22 with fail
 refine wp_region_qx (by kernel_rfl) (by kernel_rfl) ?_
 repeat (go_big_quiet_step ((fail)))
 refine wpQuiet_nil ?_
 intro x
 have HXH:=Lib.hid (HXG.out.step x.upd)
 have HYH:=Lib.hid (HYG.out.step x.upd)
 have HZH:=Lib.hid (HZG.out.step x.upd)
 have HQH:=Lib.hid x.upd
 clear f0 f1 f2 wc0 sc0
 generalize x.val=wh at *
 go_upto_region 26 with fail
 refine wp_region_qx (by kernel_rfl) (by kernel_rfl) ?_
 repeat (go_big_quiet_step ((fail)))
 refine wpQuiet_nil ?_
 intro x
 have HZI:=Lib.hid (HZH.out.step x.upd)
 generalize x.val=wi at *
 go_wp2_with fail
 go_roundg (3 - (j+1))
 case measure=>omega
 case rel=>exact ⟨j+1,by go_num,by omega,Ext.of HZI.out⟩
end Law
end Go.Proofs.YtjclbjdkkdijbaaGreat
end
section
open Go.RowKit
namespace Go.Proofs.YtjclbjdkkdijbaaGreat
open L
namespace Law
open Aut Auto R01 Rgx
attribute [-go_sem] sliced
set_option maxRecDepth 100000 in
set_option maxHeartbeats 16000000 in
def wzoh (w:World) (v v2:Value) (xs ys:List Int) (at_ how by_ stt:Int) (H0:RowKit.Hid ((∀ x∈xs,IsI64 x)∧SL w 1 v xs.length (ints xs)∧(∀ x∈ys,IsI64 x)∧SL w 1 v2 ys.length (ints ys)∧IsI64 at_∧IsI64 how∧IsI64 by_∧IsI64 stt)):{ T:Prop × Prop × Prop // RowKit.Hid T.1→RowKit.Hid T.2.1→RowKit.Hid T.2.2→RowKit.Hid (wzo w v v2 xs ys at_ how by_ stt H0).1.2.2 }:=
 cut3 _ _ _ (by
 intro K1 K2 K3
 refine Lib.hid ?_
 dsimp -zeta only [wzo,cut3]
 unhygienic intros
 have hd:=decide_eq_false hu1
 have HBD:=Lib.hid (show mo<0∨64<mo by omega)
 have HNO:=Lib.hid (left_bad (a:=a) (st:=0) (mo:=mo) HOK.out.2 (by have:=HOK.out.1.some_;omega) HBD.out)
 go_upto_region 14 with fail
 refine wp_region_ord 9 2 [0,1,2,3,5,6,7,8,10,11,12,13,14] [3,8] [0,1,2,3,5,6,7,8,4,9,10,11,12,13,14] (fun w'=>∃ x:Ext wa,w'=x.val) (by kernel_rfl) (by kernel_rfl) (Ext.of (by iterate 25 (first|exact Upd.refl _ _|assumption|refine Upd.alloc ?_ _|refine Upd.drew ?_|refine Upd.drewN ?_ _|refine Upd.dl ?_|refine Upd.step ?_ (Ext.upd _)|refine Upd.nil ?_|skip))) ?_
 repeat (first|(refine wpOrd_load rfl rfl rfl rfl (fun K hK=>?_);go_big_quiet_step (fail);refine wpQuiet_nil ?_;refine hK _ ?_;clear hK K)|(refine wpOrd_free rfl rfl rfl (fun K hK=>?_);go_big_quiet_step (fail);refine wpQuiet_nil ?_;refine hK _ ?_;clear hK K))
 refine wpOrd_fix rfl rfl (fun K hK=>?_)
 go_wp2_with (go_at_call 22;refine (HON.out _ (HXA.out.step (by iterate 25 (first|exact Upd.refl _ _|assumption|refine Upd.alloc ?_ _|refine Upd.drew ?_|refine Upd.drewN ?_ _|refine Upd.dl ?_|refine Upd.step ?_ (Ext.upd _)|refine Upd.nil ?_|skip)))).mono ?_;rintro e w6 ⟨v6,rfl,o6,u6⟩)
 have HU6:=Lib.hid (And.intro (show Upd [] wa w6 from Upd.step (by iterate 25 (first|exact Upd.refl _ _|assumption|refine Upd.alloc ?_ _|refine Upd.drew ?_|refine Upd.drewN ?_ _|refine Upd.dl ?_|refine Upd.step ?_ (Ext.upd _)|refine Upd.nil ?_|skip)) u6) o6)
 clear u6 o6
 refine ⟨fun _=>Ext.of HU6.out.1,?_⟩
 repeat (first|(refine wpOrd_load rfl rfl rfl rfl (fun K hK=>?_);go_big_quiet_step (fail);refine wpQuiet_nil ?_;refine hK _ ?_;clear hK K)|(refine wpOrd_free rfl rfl rfl (fun K hK=>?_);go_big_quiet_step (fail);refine wpQuiet_nil ?_;refine hK _ ?_;clear hK K))
 refine wpOrd_fix rfl rfl (fun K hK=>?_)
 go_wp2_with (go_at_call 24;refine (Lengths_no (mo:=mo) HU6.out.2 HNO.out).mono ?_;rintro e wb ⟨a7,c7,rfl,u7⟩)
 have HU7:=Lib.hid (And.intro (HU6.out.1.step u7) trivial)
 clear u7
 refine ⟨fun hC=>absurd hC (by decide),?_⟩
 repeat (first|(refine wpOrd_load rfl rfl rfl rfl (fun K hK=>?_);go_big_quiet_step (fail);refine wpQuiet_nil ?_;refine hK _ ?_;clear hK K)|(refine wpOrd_free rfl rfl rfl (fun K hK=>?_);go_big_quiet_step (fail);refine wpQuiet_nil ?_;refine hK _ ?_;clear hK K))
 refine wpOrd_nil ?_
 have HXB:=Lib.hid (HXA.out.step HU7.out.1)
 have HYB:=Lib.hid (HY.out.step HU7.out.1)
 clear f0 f1 f2 wc0
 have f0:=HXB.out.some HCE.out.1 (by simp)
 have f1:=HXB.out.some HCE.out.2.1 (by simp)
 have f2:=HXB.out.some HCE.out.2.2 (by simp)
 have wc0:=(HMB.out.upd HYB.out (by simp)).cell HW.out
 go_upto_region 16 with fail
 refine wp_region_qx (by kernel_rfl) (by kernel_rfl) ?_
 repeat (go_big_quiet_step ((fail)))
 refine wpQuiet_nil ?_
 intro x
 have HXD:=Lib.hid (HXB.out.step x.upd)
 have HYD:=Lib.hid (HYB.out.step x.upd)
 generalize x.val=wd at *
 clear f0 f1 f2 wc0
 go_wp2_with fail
 go_loopg [25] 3 (fun gk jv wr=>∃ j:Nat,jv=.int .i64 j∧j+gk=3∧∃ x:Ext wd,wr=x.val)
 case atStart=>exact ⟨0,rfl,rfl,Ext.of (by iterate 25 (first|exact Upd.refl _ _|assumption|refine Upd.alloc ?_ _|refine Upd.drew ?_|refine Upd.drewN ?_ _|refine Upd.dl ?_|refine Upd.step ?_ (Ext.upd _)|refine Upd.nil ?_|skip))⟩
 case round=>
  obtain ⟨j,rfl,hj,x,rfl⟩:=hrel
  have HXE:=Lib.hid (HXD.out.step x.upd)
  have HYE:=Lib.hid (HYD.out.step x.upd)
  have HZE:=Lib.hid x.upd
  generalize x.val=wf at *
  by_cases hj3:j<3
  ·have hji:(j:Int)<3:=by omega
   obtain ⟨st,hs⟩:∃ st:Int,([.int .i64 stt,.int .i64 0,.int .i64 (ar-1)]:List Value)[j]?=some (.int .i64 st):=by
    rcases (by omega:j=0∨j=1∨j=2) with rfl|rfl|rfl <;> exact ⟨_,rfl⟩
   have HSW:=Lib.hid hs
   clear hs
   have sc0:=(HSB.out.upd HYE.out (by simp)).cell HSW.out
   have HKN:=Lib.hid (show (0≤st∧st<a.next.length)∨¬ 0≤st∨(0≤st∧¬ st<a.next.length) by omega)
   rcases HKN.out with ⟨hv0,hv1⟩|hv0|⟨hv0,hv1⟩
   ·clear K2 K3
    rename_i xb1 xb2 xb3 xb4 xb5 xb6 xb7 xb8 xb9 xb10 xb11 xb12 xb13 xb14 xb15 xb16 xb17 xb18 xb19 xb20 xb21 xb22 xb23 xb24 xb25 xb26 xb27 xb28 xb29 xb30 xb31 xb32 xb33 xb34 xb35 xb36 xb37 xb38 xb39 xb40 xb41 xb42 xb43 xb44 xb45 xb46 xb47 xb48 xb49 xb50 xb51 xb52 xb53 xb54 xb55 xb56 xb57 xb58 xb59 xb60 xb61 xb62 xb63 xb64 xb65 xb66 xb67 xb68 xb69 xb70 xb71 xb72 xb73 xb74 xb75 xb76 xb77 xb78 xb79 xb80 xb81 xb82 xb83 xb84 xb85 xb86 xb87 xb88 xb89 xb90 xb91 xb92 xb93 xb94 xb95 xb96 xb97 xb98 xb99 xb100 xb101 xb102 xb103 xb104 xb105 xb106 xb107 xb108 xb109 xb110 xb111 xb112 xb113 xb114 xb115 xb116
    revert HI ls HC1 HL5 HFE x1 w1 x2 x3 lg lc HLS xa1 xa2 u15 u16 u17 u18 u19 u20 u21 xa3 xa4 xa5 xa6 xa7 xa8 xa9 u29 u30 u37 u38 u39 u40 u41 u42 u43 u44 u45 u46 u47 u48 u49 u50 u51 u52 u53 u54 u55 u56 u57 u58 u59 u60 u61 u62 u63 u64 u65 u66 u67 u68 u69 u70 u71 u72 u73 u74 u75 u76 u77 u78 u79 u80 u81 u82 u83 u84 u85 xa10 xa11 xa12 xa13 xa14 xa15 xa16 xa17 xa18 xa19 xa20 xa21 xa22 xa23 xa24 xa25 xa26 xa27 xa28 xa29 xa30 xa31 xa32 xa33 xa34 xa35 xa36 xa37 xa38 xa39 xa40 xa41 xa42 xa43 xa44 xa45 xa46 xa47 xa48 xa49 xa50 xa51 xa52 xa53 xa54 xa55 xa56 xa57 xa58 xa59 xa60 xa61 xa62 xa63 xa64 xa65 xa66 xa67 xa68 xa69 xa70 xa71 xa72 xa73 xa74 xa75 xa76 xa77 xa78 xa79 xa80 xa81 xa82 xa83 xa84 xa85 xa86 xa87 xa88 xa89 xa90 xa91 xa92 xa93 xa94 xa95 xa96 xa97 xa98 xa99 xa100 xa101 xa102 xa103 xa104 xa105 xa106 xa107 xa108 xa109 xa110 xa111 xa112 xa113 xa114 xa115 xa116 xa117 xa118 xa119 xa120 xa121 xa122 xa123 xa124 xa125 xa126 xa127 xa128 xa129 xa130 xa131 xa132 xa133 xa134 xa135 xa136 xa137 xa138 xa139 xa140 xa141 xa142 xa143 xa144 xa145 xa146 xa147 xa148 xa149 xa150 xa151 xa152 xa153 xa154 xa155 xa156 xa157 xa158 xa159 xa160 xa161 xa162 xa163 xa164 xa165 xa166 xa167 xa168 xa169 xa170 xa171 xa172 xa173 xa174 xa175 xa176 xa177 xa178 xa179 xa180 xa181 xa182 xa183 xa184 xa185 xa186 xa187 xa188 xa189 u266 u267 u268 u269 u270 u271 u272 u273 u274 u275 u276 u277 u278 u279 u280 u281 u282 u283 x4 x5 x6 x7 m hm xa190 wq HXU hlt hli hm5 a a1 c1 a2 c2 a3 c3 HAU HCE HON xa191 xa192 xa193 hfewi ar hal HFB hee HRV HOK xa194 xa195 w5 HX5 HON5 xb1 xb2 HVC xb3 w7 HX7 w8 mb HB HX8 xa196 xa197 w9 sb HS HX9 HMB HSB xb4 xb5 u22 u23 u24 u25 xb6 xb7 xb8 u86 u87 u88 u89 u90 u91 u92 u93 u94 u95 u96 u97 u98 u99 u100 u101 u102 u103 u104 u105 u106 u107 u108 u109 u110 u111 u112 u113 u114 u115 u116 u117 u118 u119 u120 u121 u122 u123 u124 u125 u126 u127 u128 u129 u130 u131 u132 u133 u134 u135 u136 u137 u138 u139 u140 u141 u142 u143 u144 u145 u146 u147 u148 u149 u150 u151 u152 u153 u154 u155 u156 u157 u158 u159 u160 u161 u162 u163 u164 u165 xb9 xb10 xb11 xb12 xb13 xb14 xb15 xb16 xb17 xb18 xb19 xb20 xb21 xb22 xb23 xb24 xb25 xb26 xb27 xb28 xb29 xb30 xb31 xb32 xb33 xb34 xb35 xb36 xb37 xb38 xb39 xb40 xb41 xb42 xb43 xb44 xb45 xb46 xb47 xb48 xb49 xb50 xb51 xb52 xb53 xb54 xb55 xb56 xb57 xb58 xb59 xb60 xb61 xb62 xb63 xb64 xb65 xb66 xb67 xb68 xb69 xb70 xb71 xb72 xb73 xb74 xb75 xb76 xb77 xb78 xb79 xb80 xb81 xb82 xb83 xb84 xb85 xb86 xb87 xb88 xb89 xb90 xb91 xb92 xb93 xb94 xb95 xb96 xb97 xb98 xb99 xb100 xb101 xb102 xb103 xb104 xb105 xb106 xb107 xb108 xa198 xa199 xa200 xa201 k hk xb109 wa HXA HY hk6 hki mo HW hu0 hd HBD HNO xb110 xb111 w6 v6 HFI hu1 HU6 wb a7 c7 HU7 HXB HYB xb112 wd HXD HYD gk u12 u26 u27 u28 u166 u167 u168 u169 u170 u171 u172 u173 u174 u175 u176 u177 u178 u179 u180 u181 u182 u183 u184 u185 u186 u187 u188 u189 u190 u191 u192 u193 u194 u195 u196 u197 u198 u199 u200 u201 u202 u203 u204 u205 u206 u207 u208 u209 u210 u211 u212 u213 u214 u215 u216 u217 u218 u219 u220 u221 u222 u223 u224 u225 u226 u227 u228 u229 u230 u231 u232 u233 u234 u235 u236 u237 u238 u239 u240 u241 u242 u243 u244 u245 u246 u247 u248 u249 u250 u251 u252 u253 u254 u255 u256 u257 u258 u259 u260 u261 u262 u263 u264 u265 xb113 xb114 xb115 xb116 j hj x wf HXE HYE HZE hj3 hji st HSW sc0 HKN hv0 hv1
    exact K1.out
   ·clear K1 K3
    rename_i xb1 xb2 xb3 xb4 xb5 xb6 xb7 xb8 xb9 xb10 xb11 xb12 xb13 xb14 xb15 xb16 xb17 xb18 xb19 xb20 xb21 xb22 xb23 xb24 xb25 xb26 xb27 xb28 xb29 xb30 xb31 xb32 xb33 xb34 xb35 xb36 xb37 xb38 xb39 xb40 xb41 xb42 xb43 xb44 xb45 xb46 xb47 xb48 xb49 xb50 xb51 xb52 xb53 xb54 xb55 xb56 xb57 xb58 xb59 xb60 xb61 xb62 xb63 xb64 xb65 xb66 xb67 xb68 xb69 xb70 xb71 xb72 xb73 xb74 xb75 xb76 xb77 xb78 xb79 xb80 xb81 xb82 xb83 xb84 xb85 xb86 xb87 xb88 xb89 xb90 xb91 xb92 xb93 xb94 xb95 xb96 xb97 xb98 xb99 xb100 xb101 xb102 xb103 xb104 xb105 xb106 xb107 xb108 xb109 xb110 xb111 xb112 xb113 xb114 xb115 xb116
    revert HI ls HC1 HL5 HFE x1 w1 x2 x3 lg lc HLS xa1 xa2 u15 u16 u17 u18 u19 u20 u21 xa3 xa4 xa5 xa6 xa7 xa8 xa9 u29 u30 u37 u38 u39 u40 u41 u42 u43 u44 u45 u46 u47 u48 u49 u50 u51 u52 u53 u54 u55 u56 u57 u58 u59 u60 u61 u62 u63 u64 u65 u66 u67 u68 u69 u70 u71 u72 u73 u74 u75 u76 u77 u78 u79 u80 u81 u82 u83 u84 u85 xa10 xa11 xa12 xa13 xa14 xa15 xa16 xa17 xa18 xa19 xa20 xa21 xa22 xa23 xa24 xa25 xa26 xa27 xa28 xa29 xa30 xa31 xa32 xa33 xa34 xa35 xa36 xa37 xa38 xa39 xa40 xa41 xa42 xa43 xa44 xa45 xa46 xa47 xa48 xa49 xa50 xa51 xa52 xa53 xa54 xa55 xa56 xa57 xa58 xa59 xa60 xa61 xa62 xa63 xa64 xa65 xa66 xa67 xa68 xa69 xa70 xa71 xa72 xa73 xa74 xa75 xa76 xa77 xa78 xa79 xa80 xa81 xa82 xa83 xa84 xa85 xa86 xa87 xa88 xa89 xa90 xa91 xa92 xa93 xa94 xa95 xa96 xa97 xa98 xa99 xa100 xa101 xa102 xa103 xa104 xa105 xa106 xa107 xa108 xa109 xa110 xa111 xa112 xa113 xa114 xa115 xa116 xa117 xa118 xa119 xa120 xa121 xa122 xa123 xa124 xa125 xa126 xa127 xa128 xa129 xa130 xa131 xa132 xa133 xa134 xa135 xa136 xa137 xa138 xa139 xa140 xa141 xa142 xa143 xa144 xa145 xa146 xa147 xa148 xa149 xa150 xa151 xa152 xa153 xa154 xa155 xa156 xa157 xa158 xa159 xa160 xa161 xa162 xa163 xa164 xa165 xa166 xa167 xa168 xa169 xa170 xa171 xa172 xa173 xa174 xa175 xa176 xa177 xa178 xa179 xa180 xa181 xa182 xa183 xa184 xa185 xa186 xa187 xa188 xa189 u266 u267 u268 u269 u270 u271 u272 u273 u274 u275 u276 u277 u278 u279 u280 u281 u282 u283 x4 x5 x6 x7 m hm xa190 wq HXU hlt hli hm5 a a1 c1 a2 c2 a3 c3 HAU HCE HON xa191 xa192 xa193 hfewi ar hal HFB hee HRV HOK xa194 xa195 w5 HX5 HON5 xb1 xb2 HVC xb3 w7 HX7 w8 mb HB HX8 xa196 xa197 w9 sb HS HX9 HMB HSB xb4 xb5 u22 u23 u24 u25 xb6 xb7 xb8 u86 u87 u88 u89 u90 u91 u92 u93 u94 u95 u96 u97 u98 u99 u100 u101 u102 u103 u104 u105 u106 u107 u108 u109 u110 u111 u112 u113 u114 u115 u116 u117 u118 u119 u120 u121 u122 u123 u124 u125 u126 u127 u128 u129 u130 u131 u132 u133 u134 u135 u136 u137 u138 u139 u140 u141 u142 u143 u144 u145 u146 u147 u148 u149 u150 u151 u152 u153 u154 u155 u156 u157 u158 u159 u160 u161 u162 u163 u164 u165 xb9 xb10 xb11 xb12 xb13 xb14 xb15 xb16 xb17 xb18 xb19 xb20 xb21 xb22 xb23 xb24 xb25 xb26 xb27 xb28 xb29 xb30 xb31 xb32 xb33 xb34 xb35 xb36 xb37 xb38 xb39 xb40 xb41 xb42 xb43 xb44 xb45 xb46 xb47 xb48 xb49 xb50 xb51 xb52 xb53 xb54 xb55 xb56 xb57 xb58 xb59 xb60 xb61 xb62 xb63 xb64 xb65 xb66 xb67 xb68 xb69 xb70 xb71 xb72 xb73 xb74 xb75 xb76 xb77 xb78 xb79 xb80 xb81 xb82 xb83 xb84 xb85 xb86 xb87 xb88 xb89 xb90 xb91 xb92 xb93 xb94 xb95 xb96 xb97 xb98 xb99 xb100 xb101 xb102 xb103 xb104 xb105 xb106 xb107 xb108 xa198 xa199 xa200 xa201 k hk xb109 wa HXA HY hk6 hki mo HW hu0 hd HBD HNO xb110 xb111 w6 v6 HFI hu1 HU6 wb a7 c7 HU7 HXB HYB xb112 wd HXD HYD gk u12 u26 u27 u28 u166 u167 u168 u169 u170 u171 u172 u173 u174 u175 u176 u177 u178 u179 u180 u181 u182 u183 u184 u185 u186 u187 u188 u189 u190 u191 u192 u193 u194 u195 u196 u197 u198 u199 u200 u201 u202 u203 u204 u205 u206 u207 u208 u209 u210 u211 u212 u213 u214 u215 u216 u217 u218 u219 u220 u221 u222 u223 u224 u225 u226 u227 u228 u229 u230 u231 u232 u233 u234 u235 u236 u237 u238 u239 u240 u241 u242 u243 u244 u245 u246 u247 u248 u249 u250 u251 u252 u253 u254 u255 u256 u257 u258 u259 u260 u261 u262 u263 u264 u265 xb113 xb114 xb115 xb116 j hj x wf HXE HYE HZE hj3 hji st HSW sc0 HKN hv0
    exact K2.out
   ·clear K1 K2
    rename_i xb1 xb2 xb3 xb4 xb5 xb6 xb7 xb8 xb9 xb10 xb11 xb12 xb13 xb14 xb15 xb16 xb17 xb18 xb19 xb20 xb21 xb22 xb23 xb24 xb25 xb26 xb27 xb28 xb29 xb30 xb31 xb32 xb33 xb34 xb35 xb36 xb37 xb38 xb39 xb40 xb41 xb42 xb43 xb44 xb45 xb46 xb47 xb48 xb49 xb50 xb51 xb52 xb53 xb54 xb55 xb56 xb57 xb58 xb59 xb60 xb61 xb62 xb63 xb64 xb65 xb66 xb67 xb68 xb69 xb70 xb71 xb72 xb73 xb74 xb75 xb76 xb77 xb78 xb79 xb80 xb81 xb82 xb83 xb84 xb85 xb86 xb87 xb88 xb89 xb90 xb91 xb92 xb93 xb94 xb95 xb96 xb97 xb98 xb99 xb100 xb101 xb102 xb103 xb104 xb105 xb106 xb107 xb108 xb109 xb110 xb111 xb112 xb113 xb114 xb115 xb116
    revert HI ls HC1 HL5 HFE x1 w1 x2 x3 lg lc HLS xa1 xa2 u15 u16 u17 u18 u19 u20 u21 xa3 xa4 xa5 xa6 xa7 xa8 xa9 u29 u30 u37 u38 u39 u40 u41 u42 u43 u44 u45 u46 u47 u48 u49 u50 u51 u52 u53 u54 u55 u56 u57 u58 u59 u60 u61 u62 u63 u64 u65 u66 u67 u68 u69 u70 u71 u72 u73 u74 u75 u76 u77 u78 u79 u80 u81 u82 u83 u84 u85 xa10 xa11 xa12 xa13 xa14 xa15 xa16 xa17 xa18 xa19 xa20 xa21 xa22 xa23 xa24 xa25 xa26 xa27 xa28 xa29 xa30 xa31 xa32 xa33 xa34 xa35 xa36 xa37 xa38 xa39 xa40 xa41 xa42 xa43 xa44 xa45 xa46 xa47 xa48 xa49 xa50 xa51 xa52 xa53 xa54 xa55 xa56 xa57 xa58 xa59 xa60 xa61 xa62 xa63 xa64 xa65 xa66 xa67 xa68 xa69 xa70 xa71 xa72 xa73 xa74 xa75 xa76 xa77 xa78 xa79 xa80 xa81 xa82 xa83 xa84 xa85 xa86 xa87 xa88 xa89 xa90 xa91 xa92 xa93 xa94 xa95 xa96 xa97 xa98 xa99 xa100 xa101 xa102 xa103 xa104 xa105 xa106 xa107 xa108 xa109 xa110 xa111 xa112 xa113 xa114 xa115 xa116 xa117 xa118 xa119 xa120 xa121 xa122 xa123 xa124 xa125 xa126 xa127 xa128 xa129 xa130 xa131 xa132 xa133 xa134 xa135 xa136 xa137 xa138 xa139 xa140 xa141 xa142 xa143 xa144 xa145 xa146 xa147 xa148 xa149 xa150 xa151 xa152 xa153 xa154 xa155 xa156 xa157 xa158 xa159 xa160 xa161 xa162 xa163 xa164 xa165 xa166 xa167 xa168 xa169 xa170 xa171 xa172 xa173 xa174 xa175 xa176 xa177 xa178 xa179 xa180 xa181 xa182 xa183 xa184 xa185 xa186 xa187 xa188 xa189 u266 u267 u268 u269 u270 u271 u272 u273 u274 u275 u276 u277 u278 u279 u280 u281 u282 u283 x4 x5 x6 x7 m hm xa190 wq HXU hlt hli hm5 a a1 c1 a2 c2 a3 c3 HAU HCE HON xa191 xa192 xa193 hfewi ar hal HFB hee HRV HOK xa194 xa195 w5 HX5 HON5 xb1 xb2 HVC xb3 w7 HX7 w8 mb HB HX8 xa196 xa197 w9 sb HS HX9 HMB HSB xb4 xb5 u22 u23 u24 u25 xb6 xb7 xb8 u86 u87 u88 u89 u90 u91 u92 u93 u94 u95 u96 u97 u98 u99 u100 u101 u102 u103 u104 u105 u106 u107 u108 u109 u110 u111 u112 u113 u114 u115 u116 u117 u118 u119 u120 u121 u122 u123 u124 u125 u126 u127 u128 u129 u130 u131 u132 u133 u134 u135 u136 u137 u138 u139 u140 u141 u142 u143 u144 u145 u146 u147 u148 u149 u150 u151 u152 u153 u154 u155 u156 u157 u158 u159 u160 u161 u162 u163 u164 u165 xb9 xb10 xb11 xb12 xb13 xb14 xb15 xb16 xb17 xb18 xb19 xb20 xb21 xb22 xb23 xb24 xb25 xb26 xb27 xb28 xb29 xb30 xb31 xb32 xb33 xb34 xb35 xb36 xb37 xb38 xb39 xb40 xb41 xb42 xb43 xb44 xb45 xb46 xb47 xb48 xb49 xb50 xb51 xb52 xb53 xb54 xb55 xb56 xb57 xb58 xb59 xb60 xb61 xb62 xb63 xb64 xb65 xb66 xb67 xb68 xb69 xb70 xb71 xb72 xb73 xb74 xb75 xb76 xb77 xb78 xb79 xb80 xb81 xb82 xb83 xb84 xb85 xb86 xb87 xb88 xb89 xb90 xb91 xb92 xb93 xb94 xb95 xb96 xb97 xb98 xb99 xb100 xb101 xb102 xb103 xb104 xb105 xb106 xb107 xb108 xa198 xa199 xa200 xa201 k hk xb109 wa HXA HY hk6 hki mo HW hu0 hd HBD HNO xb110 xb111 w6 v6 HFI hu1 HU6 wb a7 c7 HU7 HXB HYB xb112 wd HXD HYD gk u12 u26 u27 u28 u166 u167 u168 u169 u170 u171 u172 u173 u174 u175 u176 u177 u178 u179 u180 u181 u182 u183 u184 u185 u186 u187 u188 u189 u190 u191 u192 u193 u194 u195 u196 u197 u198 u199 u200 u201 u202 u203 u204 u205 u206 u207 u208 u209 u210 u211 u212 u213 u214 u215 u216 u217 u218 u219 u220 u221 u222 u223 u224 u225 u226 u227 u228 u229 u230 u231 u232 u233 u234 u235 u236 u237 u238 u239 u240 u241 u242 u243 u244 u245 u246 u247 u248 u249 u250 u251 u252 u253 u254 u255 u256 u257 u258 u259 u260 u261 u262 u263 u264 u265 xb113 xb114 xb115 xb116 j hj x wf HXE HYE HZE hj3 hji st HSW sc0 HKN hv0 hv1
    exact K3.out
  ·have hnj:¬ ((j:Int)<3):=by omega
   go_wp2_with fail
   go_roundg (6 - (k+1))
   case measure=>omega
   case rel=>exact ⟨k+1,by go_num,by omega,Ext.of HYE.out⟩)
set_option maxRecDepth 100000 in
set_option maxHeartbeats 16000000 in
theorem wzohk (w:World) (v v2:Value) (xs ys:List Int) (at_ how by_ stt:Int) (H0:RowKit.Hid ((∀ x∈xs,IsI64 x)∧SL w 1 v xs.length (ints xs)∧(∀ x∈ys,IsI64 x)∧SL w 1 v2 ys.length (ints ys)∧IsI64 at_∧IsI64 how∧IsI64 by_∧IsI64 stt)):RowKit.Hid (wzoh w v v2 xs ys at_ how by_ stt H0).1.1:=by
 refine Lib.hid ?_
 dsimp -zeta only [wzoh,cut3]
 unhygienic intros
 obtain ⟨sn,rfl⟩:∃ sn:Nat,st=sn:=⟨st.toNat,by omega⟩
 have HSN:=Lib.hid (show sn<a.next.length by omega)
 have HNJ:=Lib.hid (left_bad (a:=a) (st:=((sn:Nat):Int)) (mo:=mo) HOK.out.2 (by have:=HSN.out;omega) HBD.out)
 have f0:=HXE.out.some HCE.out.1 (by simp)
 have f1:=HXE.out.some HCE.out.2.1 (by simp)
 have f2:=HXE.out.some HCE.out.2.2 (by simp)
 have wc0:=(HMB.out.upd HYE.out (by simp)).cell HW.out
 go_upto_region 21 with fail
 refine wp_region_ord 13 2 [0,1,2,3,5,6,7,8,9,10,11,12,14,15,16,17,18] [3,8,12] [0,1,2,3,5,6,7,8,9,10,11,12,4,13,14,15,16,17,18] (fun w'=>∃ x:Ext wf,w'=x.val) (by kernel_rfl) (by kernel_rfl) (Ext.of (by iterate 25 (first|exact Upd.refl _ _|assumption|refine Upd.alloc ?_ _|refine Upd.drew ?_|refine Upd.drewN ?_ _|refine Upd.dl ?_|refine Upd.step ?_ (Ext.upd _)|refine Upd.nil ?_|skip))) ?_
 repeat (first|(refine wpOrd_load rfl rfl rfl rfl (fun K hK=>?_);go_big_quiet_step (fail);refine wpQuiet_nil ?_;refine hK _ ?_;clear hK K)|(refine wpOrd_free rfl rfl rfl (fun K hK=>?_);go_big_quiet_step (fail);refine wpQuiet_nil ?_;refine hK _ ?_;clear hK K))
 refine wpOrd_fix rfl rfl (fun K hK=>?_)
 go_wp2_with (go_at_call 22;refine (HON.out _ (HXE.out.step (by iterate 25 (first|exact Upd.refl _ _|assumption|refine Upd.alloc ?_ _|refine Upd.drew ?_|refine Upd.drewN ?_ _|refine Upd.dl ?_|refine Upd.step ?_ (Ext.upd _)|refine Upd.nil ?_|skip)))).mono ?_;rintro e w6 ⟨v6,rfl,o6,u6⟩)
 have HU6:=Lib.hid (And.intro (show Upd [] wf w6 from Upd.step (by iterate 25 (first|exact Upd.refl _ _|assumption|refine Upd.alloc ?_ _|refine Upd.drew ?_|refine Upd.drewN ?_ _|refine Upd.dl ?_|refine Upd.step ?_ (Ext.upd _)|refine Upd.nil ?_|skip)) u6) o6)
 clear u6 o6
 refine ⟨fun _=>Ext.of HU6.out.1,?_⟩
 repeat (first|(refine wpOrd_load rfl rfl rfl rfl (fun K hK=>?_);go_big_quiet_step (fail);refine wpQuiet_nil ?_;refine hK _ ?_;clear hK K)|(refine wpOrd_free rfl rfl rfl (fun K hK=>?_);go_big_quiet_step (fail);refine wpQuiet_nil ?_;refine hK _ ?_;clear hK K))
 refine wpOrd_fix rfl rfl (fun K hK=>?_)
 go_wp2_with (go_at_call 27;refine (Left_no (st:=((sn:Nat):Int)) HU6.out.2 HNJ.out).mono ?_;rintro e wg ⟨a9,c9,rfl,u9⟩)
 have HU9:=Lib.hid (And.intro (HU6.out.1.step u9) trivial)
 clear u9
 refine ⟨fun hC=>absurd hC (by decide),?_⟩
 repeat (first|(refine wpOrd_load rfl rfl rfl rfl (fun K hK=>?_);go_big_quiet_step (fail);refine wpQuiet_nil ?_;refine hK _ ?_;clear hK K)|(refine wpOrd_free rfl rfl rfl (fun K hK=>?_);go_big_quiet_step (fail);refine wpQuiet_nil ?_;refine hK _ ?_;clear hK K))
 refine wpOrd_nil ?_
 have HXG:=Lib.hid (HXE.out.step HU9.out.1)
 have HYG:=Lib.hid (HYE.out.step HU9.out.1)
 have HZG:=Lib.hid (HZE.out.step HU9.out.1)
 clear f0 f1 f2 wc0 sc0
 have f0:=HXG.out.some HCE.out.1 (by simp)
 have f1:=HXG.out.some HCE.out.2.1 (by simp)
 have f2:=HXG.out.some HCE.out.2.2 (by simp)
 have wc0:=(HMB.out.upd HYG.out (by simp)).cell HW.out
 have sc0:=(HSB.out.upd HYG.out (by simp)).cell HSW.out
 go_upto_region 22 with fail
 refine wp_region_qx (by kernel_rfl) (by kernel_rfl) ?_
 repeat (go_big_quiet_step ((fail)))
 refine wpQuiet_nil ?_
 intro x
 have HXH:=Lib.hid (HXG.out.step x.upd)
 have HYH:=Lib.hid (HYG.out.step x.upd)
 have HZH:=Lib.hid (HZG.out.step x.upd)
 have HQH:=Lib.hid x.upd
 clear f0 f1 f2 wc0 sc0
 generalize x.val=wh at *
 go_upto_region 26 with fail
 refine wp_region_qx (by kernel_rfl) (by kernel_rfl) ?_
 repeat (go_big_quiet_step ((fail)))
 refine wpQuiet_nil ?_
 intro x
 have HZI:=Lib.hid (HZH.out.step x.upd)
 generalize x.val=wi at *
 go_wp2_with fail
 go_roundg (3 - (j+1))
 case measure=>omega
 case rel=>exact ⟨j+1,by go_num,by omega,Ext.of HZI.out⟩
set_option maxRecDepth 100000 in
set_option maxHeartbeats 16000000 in
theorem wzohl (w:World) (v v2:Value) (xs ys:List Int) (at_ how by_ stt:Int) (H0:RowKit.Hid ((∀ x∈xs,IsI64 x)∧SL w 1 v xs.length (ints xs)∧(∀ x∈ys,IsI64 x)∧SL w 1 v2 ys.length (ints ys)∧IsI64 at_∧IsI64 how∧IsI64 by_∧IsI64 stt)):RowKit.Hid (wzoh w v v2 xs ys at_ how by_ stt H0).1.2.1:=by
 refine Lib.hid ?_
 dsimp -zeta only [wzoh,cut3]
 unhygienic intros
 have hd:=decide_eq_false hv0
 have HNJ:=Lib.hid (left_unknown (a:=a) (st:=st) (mo:=mo) HOK.out.2 (by omega))
 have f0:=HXE.out.some HCE.out.1 (by simp)
 have f1:=HXE.out.some HCE.out.2.1 (by simp)
 have f2:=HXE.out.some HCE.out.2.2 (by simp)
 have wc0:=(HMB.out.upd HYE.out (by simp)).cell HW.out
 go_upto_region 21 with fail
 refine wp_region_ord 13 2 [0,1,2,3,5,6,7,8,9,10,11,12,14,15,16,17,18] [3,8,12] [0,1,2,3,5,6,7,8,9,10,11,12,4,13,14,15,16,17,18] (fun w'=>∃ x:Ext wf,w'=x.val) (by kernel_rfl) (by kernel_rfl) (Ext.of (by iterate 25 (first|exact Upd.refl _ _|assumption|refine Upd.alloc ?_ _|refine Upd.drew ?_|refine Upd.drewN ?_ _|refine Upd.dl ?_|refine Upd.step ?_ (Ext.upd _)|refine Upd.nil ?_|skip))) ?_
 repeat (first|(refine wpOrd_load rfl rfl rfl rfl (fun K hK=>?_);go_big_quiet_step (fail);refine wpQuiet_nil ?_;refine hK _ ?_;clear hK K)|(refine wpOrd_free rfl rfl rfl (fun K hK=>?_);go_big_quiet_step (fail);refine wpQuiet_nil ?_;refine hK _ ?_;clear hK K))
 refine wpOrd_fix rfl rfl (fun K hK=>?_)
 go_wp2_with (go_at_call 22;refine (HON.out _ (HXE.out.step (by iterate 25 (first|exact Upd.refl _ _|assumption|refine Upd.alloc ?_ _|refine Upd.drew ?_|refine Upd.drewN ?_ _|refine Upd.dl ?_|refine Upd.step ?_ (Ext.upd _)|refine Upd.nil ?_|skip)))).mono ?_;rintro e w6 ⟨v6,rfl,o6,u6⟩)
 have HU6:=Lib.hid (And.intro (show Upd [] wf w6 from Upd.step (by iterate 25 (first|exact Upd.refl _ _|assumption|refine Upd.alloc ?_ _|refine Upd.drew ?_|refine Upd.drewN ?_ _|refine Upd.dl ?_|refine Upd.step ?_ (Ext.upd _)|refine Upd.nil ?_|skip)) u6) o6)
 clear u6 o6
 refine ⟨fun _=>Ext.of HU6.out.1,?_⟩
 repeat (first|(refine wpOrd_load rfl rfl rfl rfl (fun K hK=>?_);go_big_quiet_step (fail);refine wpQuiet_nil ?_;refine hK _ ?_;clear hK K)|(refine wpOrd_free rfl rfl rfl (fun K hK=>?_);go_big_quiet_step (fail);refine wpQuiet_nil ?_;refine hK _ ?_;clear hK K))
 refine wpOrd_fix rfl rfl (fun K hK=>?_)
 go_wp2_with (go_at_call 27;refine (Left_no (st:=st) HU6.out.2 HNJ.out).mono ?_;rintro e wg ⟨a9,c9,rfl,u9⟩)
 have HU9:=Lib.hid (And.intro (HU6.out.1.step u9) trivial)
 clear u9
 refine ⟨fun hC=>absurd hC (by decide),?_⟩
 repeat (first|(refine wpOrd_load rfl rfl rfl rfl (fun K hK=>?_);go_big_quiet_step (fail);refine wpQuiet_nil ?_;refine hK _ ?_;clear hK K)|(refine wpOrd_free rfl rfl rfl (fun K hK=>?_);go_big_quiet_step (fail);refine wpQuiet_nil ?_;refine hK _ ?_;clear hK K))
 refine wpOrd_nil ?_
 have HXG:=Lib.hid (HXE.out.step HU9.out.1)
 have HYG:=Lib.hid (HYE.out.step HU9.out.1)
 have HZG:=Lib.hid (HZE.out.step HU9.out.1)
 clear f0 f1 f2 wc0 sc0
 have f0:=HXG.out.some HCE.out.1 (by simp)
 have f1:=HXG.out.some HCE.out.2.1 (by simp)
 have f2:=HXG.out.some HCE.out.2.2 (by simp)
 have wc0:=(HMB.out.upd HYG.out (by simp)).cell HW.out
 have sc0:=(HSB.out.upd HYG.out (by simp)).cell HSW.out
 go_upto_region 22 with fail
 refine wp_region_qx (by kernel_rfl) (by kernel_rfl) ?_
 repeat (go_big_quiet_step ((fail)))
 refine wpQuiet_nil ?_
 intro x
 have HXH:=Lib.hid (HXG.out.step x.upd)
 have HYH:=Lib.hid (HYG.out.step x.upd)
 have HZH:=Lib.hid (HZG.out.step x.upd)
 have HQH:=Lib.hid x.upd
 clear f0 f1 f2 wc0 sc0
 generalize x.val=wh at *
 go_upto_region 26 with fail
 refine wp_region_qx (by kernel_rfl) (by kernel_rfl) ?_
 repeat (go_big_quiet_step ((fail)))
 refine wpQuiet_nil ?_
 intro x
 have HZI:=Lib.hid (HZH.out.step x.upd)
 generalize x.val=wi at *
 go_wp2_with fail
 go_roundg (3 - (j+1))
 case measure=>omega
 case rel=>exact ⟨j+1,by go_num,by omega,Ext.of HZI.out⟩
set_option maxRecDepth 100000 in
set_option maxHeartbeats 16000000 in
theorem wzohh (w:World) (v v2:Value) (xs ys:List Int) (at_ how by_ stt:Int) (H0:RowKit.Hid ((∀ x∈xs,IsI64 x)∧SL w 1 v xs.length (ints xs)∧(∀ x∈ys,IsI64 x)∧SL w 1 v2 ys.length (ints ys)∧IsI64 at_∧IsI64 how∧IsI64 by_∧IsI64 stt)):RowKit.Hid (wzoh w v v2 xs ys at_ how by_ stt H0).1.2.2:=by
 refine Lib.hid ?_
 dsimp -zeta only [wzoh,cut3]
 unhygienic intros
 have hd:=decide_eq_false hv1
 have HNJ:=Lib.hid (left_unknown (a:=a) (st:=st) (mo:=mo) HOK.out.2 (by omega))
 have f0:=HXE.out.some HCE.out.1 (by simp)
 have f1:=HXE.out.some HCE.out.2.1 (by simp)
 have f2:=HXE.out.some HCE.out.2.2 (by simp)
 have wc0:=(HMB.out.upd HYE.out (by simp)).cell HW.out
 go_upto_region 21 with fail
 refine wp_region_ord 13 2 [0,1,2,3,5,6,7,8,9,10,11,12,14,15,16,17,18] [3,8,12] [0,1,2,3,5,6,7,8,9,10,11,12,4,13,14,15,16,17,18] (fun w'=>∃ x:Ext wf,w'=x.val) (by kernel_rfl) (by kernel_rfl) (Ext.of (by iterate 25 (first|exact Upd.refl _ _|assumption|refine Upd.alloc ?_ _|refine Upd.drew ?_|refine Upd.drewN ?_ _|refine Upd.dl ?_|refine Upd.step ?_ (Ext.upd _)|refine Upd.nil ?_|skip))) ?_
 repeat (first|(refine wpOrd_load rfl rfl rfl rfl (fun K hK=>?_);go_big_quiet_step (fail);refine wpQuiet_nil ?_;refine hK _ ?_;clear hK K)|(refine wpOrd_free rfl rfl rfl (fun K hK=>?_);go_big_quiet_step (fail);refine wpQuiet_nil ?_;refine hK _ ?_;clear hK K))
 refine wpOrd_fix rfl rfl (fun K hK=>?_)
 go_wp2_with (go_at_call 22;refine (HON.out _ (HXE.out.step (by iterate 25 (first|exact Upd.refl _ _|assumption|refine Upd.alloc ?_ _|refine Upd.drew ?_|refine Upd.drewN ?_ _|refine Upd.dl ?_|refine Upd.step ?_ (Ext.upd _)|refine Upd.nil ?_|skip)))).mono ?_;rintro e w6 ⟨v6,rfl,o6,u6⟩)
 have HU6:=Lib.hid (And.intro (show Upd [] wf w6 from Upd.step (by iterate 25 (first|exact Upd.refl _ _|assumption|refine Upd.alloc ?_ _|refine Upd.drew ?_|refine Upd.drewN ?_ _|refine Upd.dl ?_|refine Upd.step ?_ (Ext.upd _)|refine Upd.nil ?_|skip)) u6) o6)
 clear u6 o6
 refine ⟨fun _=>Ext.of HU6.out.1,?_⟩
 repeat (first|(refine wpOrd_load rfl rfl rfl rfl (fun K hK=>?_);go_big_quiet_step (fail);refine wpQuiet_nil ?_;refine hK _ ?_;clear hK K)|(refine wpOrd_free rfl rfl rfl (fun K hK=>?_);go_big_quiet_step (fail);refine wpQuiet_nil ?_;refine hK _ ?_;clear hK K))
 refine wpOrd_fix rfl rfl (fun K hK=>?_)
 go_wp2_with (go_at_call 27;refine (Left_no (st:=st) HU6.out.2 HNJ.out).mono ?_;rintro e wg ⟨a9,c9,rfl,u9⟩)
 have HU9:=Lib.hid (And.intro (HU6.out.1.step u9) trivial)
 clear u9
 refine ⟨fun hC=>absurd hC (by decide),?_⟩
 repeat (first|(refine wpOrd_load rfl rfl rfl rfl (fun K hK=>?_);go_big_quiet_step (fail);refine wpQuiet_nil ?_;refine hK _ ?_;clear hK K)|(refine wpOrd_free rfl rfl rfl (fun K hK=>?_);go_big_quiet_step (fail);refine wpQuiet_nil ?_;refine hK _ ?_;clear hK K))
 refine wpOrd_nil ?_
 have HXG:=Lib.hid (HXE.out.step HU9.out.1)
 have HYG:=Lib.hid (HYE.out.step HU9.out.1)
 have HZG:=Lib.hid (HZE.out.step HU9.out.1)
 clear f0 f1 f2 wc0 sc0
 have f0:=HXG.out.some HCE.out.1 (by simp)
 have f1:=HXG.out.some HCE.out.2.1 (by simp)
 have f2:=HXG.out.some HCE.out.2.2 (by simp)
 have wc0:=(HMB.out.upd HYG.out (by simp)).cell HW.out
 have sc0:=(HSB.out.upd HYG.out (by simp)).cell HSW.out
 go_upto_region 22 with fail
 refine wp_region_qx (by kernel_rfl) (by kernel_rfl) ?_
 repeat (go_big_quiet_step ((fail)))
 refine wpQuiet_nil ?_
 intro x
 have HXH:=Lib.hid (HXG.out.step x.upd)
 have HYH:=Lib.hid (HYG.out.step x.upd)
 have HZH:=Lib.hid (HZG.out.step x.upd)
 have HQH:=Lib.hid x.upd
 clear f0 f1 f2 wc0 sc0
 generalize x.val=wh at *
 go_upto_region 26 with fail
 refine wp_region_qx (by kernel_rfl) (by kernel_rfl) ?_
 repeat (go_big_quiet_step ((fail)))
 refine wpQuiet_nil ?_
 intro x
 have HZI:=Lib.hid (HZH.out.step x.upd)
 generalize x.val=wi at *
 go_wp2_with fail
 go_roundg (3 - (j+1))
 case measure=>omega
 case rel=>exact ⟨j+1,by go_num,by omega,Ext.of HZI.out⟩
end Law
end Go.Proofs.YtjclbjdkkdijbaaGreat
end
