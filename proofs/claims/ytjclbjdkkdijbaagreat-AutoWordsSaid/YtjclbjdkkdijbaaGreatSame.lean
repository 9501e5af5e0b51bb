/- Walks through the references' small functions: SameInts, Around. Conditions: none. -/
import Derived.Test.YtjclbjdkkdijbaaGreatProg
import Derived.Test.YtjclbjdkkdijbaaGreatReg
set_option linter.unusedVariables false
set_option linter.unusedSimpArgs false
set_option linter.unusedSectionVars false
open Go.RowKit
namespace Go.Proofs.YtjclbjdkkdijbaaGreat
open L
namespace R01
theorem SL.form {w:World} {v:Value} {n:Nat} {cs:List Value} (h:SL w 1 v n cs) :
 ∃ a cap,v=.slice a n cap∧n≤cap∧cap≤9223372036854775807∧(0<n→∃ g off,a=some ⟨g,off,none⟩∧∀ j u,cs[j]?=some u→w.cell? ⟨g,off+j,none⟩=some u):=by
 obtain ⟨h1,a,cap,rfl,h2,h3,_,h4⟩:=h
 refine ⟨a,cap,rfl,h2,h3,fun hn=>?_⟩
 rcases h4 with h4|⟨b,off,rfl,h4⟩
 ·omega
 ·exact ⟨b,off,rfl,h4⟩
theorem SameInts_calls {w:World} {v1 v2:Value} {xs ys:List Int} (h1:SL w 1 v1 xs.length (ints xs)) (h2:SL w 1 v2 ys.length (ints ys)) :
 Calls Tryz.prog 58 #[v1,v2] w fun e w'=>e=.returned (.bool (decide (xs=ys)))∧Upd [] w w':=by
 obtain ⟨a1,cap1,rfl,q1,r1,hc1⟩:=SL.form h1
 obtain ⟨a2,cap2,rfl,q2,r2,hc2⟩:=SL.form h2
 have HC1:=Lib.hid hc1
 have HC2:=Lib.hid hc2
 clear h1 h2 hc1 hc2
 by_cases hl:xs.length=ys.length
 ·have HL:=Lib.hid hl
  have hb:((xs.length:Int) != (ys.length:Int))=false:=by simp [hl]
  have hle:xs.length≤ys.length:=by omega
  have hle2:ys.length≤xs.length:=by omega
  clear hl
  go_enter Tryz.func58,Tryz.ntmps58
  go_wp2_with fail
  go_loopw [5] (fun i wr=>∃ k:Nat,k≤xs.length∧i=.int .i64 k∧xs.take k=ys.take k∧Upd [] w wr) (fun i _=>xs.length - (intOf i).toNat)
  case atStart=>exact ⟨0,Nat.zero_le _,rfl,rfl,Upd.refl _ _⟩
  case round=>
   obtain ⟨k,hk,rfl,ht,hu⟩:=hrel
   have HT:=Lib.hid ht
   clear ht
   by_cases hlt:k<xs.length
   ·obtain ⟨g1,o1,rfl,c1⟩:=HC1.out (by omega)
    obtain ⟨g2,o2,rfl,c2⟩:=HC2.out (by omega)
    have e1:=hu.some (c1 k _ (ints_get (List.getElem?_eq_getElem hlt))) (by simp)
    have e2:=hu.some (c2 k _ (ints_get (List.getElem?_eq_getElem (show k<ys.length by omega)))) (by simp)
    by_cases hxy:xs[k]=ys[k]
    ·have HB:Hid (xs.take (k+1)=ys.take (k+1)):=by
      unfold Hid
      rw [List.take_add_one,List.take_add_one,HT.out,List.getElem?_eq_getElem hlt,List.getElem?_eq_getElem (show k<ys.length by omega),hxy]
     have hb:(xs[k] != ys[k])=false:=by simp [hxy]
     clear hxy c1 c2
     generalize xs[k]=x at *
     generalize ys[k]'(by omega)=y at *
     go_wp2_with fail
     refine wp_region_qx (by kernel_rfl) (by kernel_rfl) ?_
     repeat (go_big_quiet_step ((fail)))
     refine wpQuiet_nil ?_
     intro x
     go_wp2_with fail
     exact ⟨⟨k+1,by omega,by go_num,HB.out,hu.step x.upd⟩,by simp [intOf];omega⟩
    ·have HB:Hid (xs≠ys):=fun h=>hxy (by subst h;rfl)
     have hb:(xs[k] != ys[k])=true:=by simp [hxy]
     clear hxy c1 c2
     generalize xs[k]=x at *
     generalize ys[k]'(by omega)=y at *
     go_wp2_with fail
     refine wp_region_qx (by kernel_rfl) (by kernel_rfl) ?_
     repeat (go_big_quiet_step ((fail)))
     refine wpQuiet_nil ?_
     intro x
     go_wp2_with fail
     go_ret
     exact ⟨ret_bool (by simp [HB.out]),hu.step x.upd⟩
   ·have HB:Hid (xs=ys):=by
     have:=HT.out
     rw [List.take_of_length_le (by omega),List.take_of_length_le (by omega)] at this
     exact this
    go_wp2_with fail
    go_ret
    exact ⟨ret_bool (by simp [HB.out]),hu⟩
 ·have hb:((xs.length:Int) != (ys.length:Int))=true:=by simp;omega
  go_enter Tryz.func58,Tryz.ntmps58
  go_wp2_with fail
  go_ret
  exact ⟨ret_bool (by have:xs≠ys:=fun h=>hl (by rw [h])
                      simp [this]),Upd.refl _ _⟩
def around (n k:Int):Int:=(if n<0 then -(n+1) else n) % k
theorem around_lo {n k:Int} (hk:0<k):0≤around n k:=Int.emod_nonneg _ (by omega)
theorem around_hi {n k:Int} (hk:0<k):around n k<k:=Int.emod_lt_of_pos _ hk
theorem Around_calls (n k:Int) (w:World) (hn:IsI64 n) (hk:1≤k) (hk':k≤9223372036854775807) :
 Calls Tryz.prog 23 #[.int .i64 n,.int .i64 k] w fun e w'=>e=.returned (.int .i64 (around n k))∧w=w':=by
 unfold IsI64 at hn
 by_cases h0:n<0
 ·have h1:0≤n+1∨n+1≤0:=by omega
  have h2:0≤-(n+1):=by omega
  go_enter Tryz.func23,Tryz.ntmps23
  go_wp2
  go_ret
  exact ⟨ret_int (by unfold around;rw [if_pos h0];rw [←Int.neg_tmod,Int.tmod_eq_emod_of_nonneg h2]),rfl⟩
 ·go_enter Tryz.func23,Tryz.ntmps23
  go_wp2
  go_ret
  exact ⟨ret_int (by unfold around;rw [if_neg (by omega)]),rfl⟩
end R01
end Go.Proofs.YtjclbjdkkdijbaaGreat
