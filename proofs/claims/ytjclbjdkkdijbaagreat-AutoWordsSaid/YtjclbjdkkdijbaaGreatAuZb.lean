/- Walks through package auto: Valid. Conditions: none. Walks: cloning of ints and of bools; looking into a list by a closure. Conditions: none. Walks through package auto: Left, Lengths. Conditions: none. -/
import Derived.Test.YtjclbjdkkdijbaaGreatAuF
set_option linter.unusedVariables false
set_option linter.unusedSimpArgs false
set_option linter.unusedSectionVars false
section
open Go.RowKit
namespace Go.Proofs.YtjclbjdkkdijbaaGreat
open L
namespace Aut
open Auto
attribute [-go_sem] sliced
section
variable {w w':World} {v:Value}
theorem AuF.cuts {a:Au} {a1:Option Addr} {c1 n:Nat} {x y:Value} (h:AuF w a [.slice a1 n c1,x,y]) {i:Nat} (hi:i<a.cuts.length):∃ g off,a1=some ⟨g,off,none⟩∧w.cell? ⟨g,off+i,none⟩=some (.int .i64 (a.cuts.getD i 0)):=by
 obtain ⟨cv,nv,av,he,h1,_,_⟩:=h
 cases he
 obtain ⟨a',c',he,_,_,hc⟩:=h1.elems
 cases he
 obtain ⟨g,off,rfl,h2⟩:=hc (by omega)
 exact ⟨g,off,rfl,h2 i _ (ints_get (gd_some hi))⟩
theorem AuF.acc {a:Au} {a1:Option Addr} {c1 n:Nat} {x y:Value} (h:AuF w a [x,y,.slice a1 n c1]) {i:Nat} (hi:i<a.acc.length):∃ g off,a1=some ⟨g,off,none⟩∧w.cell? ⟨g,off+i,none⟩=some (.bool (a.acc.getD i false)):=by
 obtain ⟨cv,nv,av,he,_,_,h1⟩:=h
 cases he
 obtain ⟨a',c',he,_,_,hc⟩:=h1.elems
 cases he
 obtain ⟨g,off,rfl,h2⟩:=hc (by omega)
 exact ⟨g,off,rfl,h2 i _ (bools_get (gd_some hi))⟩
theorem AuF.row {a:Au} {a2:Option Addr} {c2 n:Nat} {x y:Value} (h:AuF w a [x,.slice a2 n c2,y]) {i:Nat} (hi:i<a.next.length):∃ g off ar cr,a2=some ⟨g,off,none⟩∧w.cell? ⟨g,off+i,none⟩=some (.slice ar (a.next.getD i []).length cr)∧SL w 1 (.slice ar (a.next.getD i []).length cr) (a.next.getD i []).length (ints (a.next.getD i [])):=by
 obtain ⟨cv,nv,av,he,_,⟨vals,hl,hs,hr⟩,_⟩:=h
 cases he
 obtain ⟨a',c',he,_,_,hc⟩:=hs.elems
 cases he
 obtain ⟨g,off,rfl,h2⟩:=hc (by omega)
 obtain ⟨y,hy,hsl⟩:=hr i _ (gd_some (d:=[]) hi)
 obtain ⟨ar,cr,rfl,_⟩:=id hsl.elems
 exact ⟨g,off,ar,cr,rfl,h2 i _ hy,hsl⟩
set_option maxRecDepth 100000 in
set_option maxHeartbeats 8000000 in
theorem Valid_calls {a:Au} (h:AuV w a v):Calls Tryz.prog 30 #[v] w fun e w'=>e=.returned (.int .i64 (vErr a))∧Upd [] w w':=by
 obtain ⟨a1,c1,a2,c2,a3,c3,rfl,hF⟩:=h.shape
 have HF:=Lib.hid hF
 have HV:=Lib.hid (show vErr a=(if 256<a.next.length∨256<a.acc.length then 4
  else if a.next.length=0∨a.acc.length≠a.next.length∨a.cuts.length=0∨a.cuts.getD 0 0≠0 then 1
  else if ¬ (∀ i,i<a.cuts.length→1≤i→a.cuts.getD (i-1) 0<a.cuts.getD i 0∧a.cuts.getD i 0≤255) then 1
  else if ¬ (∀ l∈a.next,l.length=a.cuts.length∧∀ s∈l,0≤s∧s<a.next.length) then 1 else 0) from rfl)
 clear h hF
 go_enter Tryz.func30,Tryz.ntmps30
 go_upto_region 1 with fail
 have bA:=Blk.new w [.slice a1 a.cuts.length c1,.slice a2 a.next.length c2,.slice a3 a.acc.length c3] 31
 have uA:=(Upd.refl [] w).alloc (.cells #[.slice a1 a.cuts.length c1,.slice a2 a.next.length c2,.slice a3 a.acc.length c3] 31)
 change Blk (w.alloc (.cells #[.slice a1 a.cuts.length c1,.slice a2 a.next.length c2,.slice a3 a.acc.length c3] 31)) _ _ _ at bA
 generalize (w.alloc (.cells #[.slice a1 a.cuts.length c1,.slice a2 a.next.length c2,.slice a3 a.acc.length c3] 31))=w1 at *
 have k0:=bA.cell (i:=0) rfl
 have k1:=bA.cell (i:=1) rfl
 have k2:=bA.cell (i:=2) rfl
 have HU:=Lib.hid uA
 have HF1:=Lib.hid (HF.out.ext uA)
 clear bA uA
 generalize w.heap.size=pb at *
 by_cases h1:256<a.next.length
 ·have hi:(256:Int)<a.next.length:=by omega
  go_wp2_with fail
  go_ret
  exact ⟨ret_int (by rw [HV.out,if_pos (.inl h1)]),HU.out⟩
 have hi1:¬ (256:Int)<a.next.length:=by omega
 by_cases h2:256<a.acc.length
 ·have hi:(256:Int)<a.acc.length:=by omega
  have HH:=Lib.hid h2
  clear h1 h2
  go_wp2_with fail
  go_ret
  exact ⟨ret_int (by rw [HV.out,if_pos (.inr HH.out)]),HU.out⟩
 have hi2:¬ (256:Int)<a.acc.length:=by omega
 have HV2:=Lib.hid (HV.out.trans (if_neg (by rintro (h|h);exact h1 h;exact h2 h)))
 clear h1 h2
 by_cases h3:a.next.length=0
 ·have HH:=Lib.hid (show vErr a=1 by rw [HV2.out,if_pos (.inl h3)])
  have hb:((a.next.length:Int) == 0)=true:=by simp [h3]
  clear h3
  go_wp2_with fail
  go_ret
  exact ⟨ret_int HH.out.symm,HU.out⟩
 have hb3:((a.next.length:Int) == 0)=false:=by simpa using h3
 by_cases h4:a.acc.length≠a.next.length
 ·have HH:=Lib.hid (show vErr a=1 by rw [HV2.out,if_pos (.inr (.inl h4))])
  have hb:((a.acc.length:Int) != a.next.length)=true:=by simp;omega
  clear h3 h4
  go_wp2_with fail
  go_ret
  exact ⟨ret_int HH.out.symm,HU.out⟩
 have hb4:((a.acc.length:Int) != a.next.length)=false:=by simp;omega
 by_cases h5:a.cuts.length=0
 ·have HH:=Lib.hid (show vErr a=1 by rw [HV2.out,if_pos (.inr (.inr (.inl h5)))])
  have hb:((a.cuts.length:Int) == 0)=true:=by simp [h5]
  clear h3 h4 h5
  go_wp2_with fail
  go_ret
  exact ⟨ret_int HH.out.symm,HU.out⟩
 have hb5:((a.cuts.length:Int) == 0)=false:=by simpa using h5
 have hcp:0<a.cuts.length:=by omega
 obtain ⟨gc,oc,rfl,hc0⟩:=HF1.out.cuts hcp
 rw [Nat.add_zero] at hc0
 by_cases h6:a.cuts.getD 0 0≠0
 ·have HH:=Lib.hid (show vErr a=1 by rw [HV2.out,if_pos (.inr (.inr (.inr h6)))])
  have hb:(a.cuts.getD 0 0 != 0)=true:=by simpa using h6
  clear h3 h4 h5 h6
  generalize a.cuts.getD 0 0=x0 at *
  go_wp2_with fail
  go_ret
  exact ⟨ret_int HH.out.symm,HU.out⟩
 have HV3:=Lib.hid (HV2.out.trans (if_neg (by rintro (h|h|h|h);exact h3 h;exact h4 h;exact h5 h;exact h6 h)))
 have h60:a.cuts.getD 0 0=0:=Classical.byContradiction h6
 rw [h60] at hc0
 clear HV HV2 h3 h4 h5 h6 h60
 go_wp2_with fail
 have hcb:(a.cuts.length:Int)≤9223372036854775807:=by
  obtain ⟨cv,nv,av,he,hh,_,_⟩:=HF1.out
  cases he
  obtain ⟨a',c',he,q1,q2,_⟩:=hh.elems
  omega
 have HC:=Lib.hid (fun (i:Nat) (hi:i<a.cuts.length)=>HF1.out.cuts hi)
 have HB:=Lib.hid (And.intro k0 (And.intro k1 k2))
 clear hc0
 go_loopw [4] (fun iv wr=>∃ k:Nat,iv=.int .i64 k∧1≤k∧k≤a.cuts.length∧Hid ((∀ j,j<k→1≤j→a.cuts.getD (j-1) 0<a.cuts.getD j 0∧a.cuts.getD j 0≤255)∧Upd [] w1 wr)) (fun iv _=>a.cuts.length - (intOf iv).toNat)
 case atStart=>exact ⟨1,rfl,Nat.le_refl _,hcp,Lib.hid ⟨fun j h1 h2=>by omega,Upd.refl _ _⟩⟩
 case round=>
  obtain ⟨k,rfl,hk1,hk,HI⟩:=hrel
  have k0':=HI.out.2.some k0 (by simp)
  have k1':=HI.out.2.some k1 (by simp)
  have k2':=HI.out.2.some k2 (by simp)
  by_cases hlt:k<a.cuts.length
  ·have hk1i:(1:Int)≤k:=by omega
   have hli:(k:Int)<a.cuts.length:=by omega
   have hA:(0:Int)≤(k:Int) - 1:=by omega
   have hB:(k:Int) - 1<a.cuts.length:=by omega
   have hkb:(k:Int)≤9223372036854775807:=by omega
   have hT:((k:Int) - 1).toNat=k-1:=by omega
   obtain ⟨g1,o1,he1,hx⟩:=HC.out (k-1) (by omega)
   cases he1
   obtain ⟨g2,o2,he2,hy⟩:=HC.out k hlt
   cases he2
   have hx':=HI.out.2.some hx (by simp)
   have hy':=HI.out.2.some hy (by simp)
   have HXY:=Lib.hid (show ∀ j,j<k+1→1≤j→j≠k→a.cuts.getD (j-1) 0<a.cuts.getD j 0∧a.cuts.getD j 0≤255 from fun j h1 h2 h3=>HI.out.1 j (by omega) h2)
   by_cases hle:a.cuts.getD k 0≤a.cuts.getD (k-1) 0
   ·have HH:=Lib.hid (show vErr a=1 by
     rw [HV3.out,if_pos]
     intro h
     have:=(h k hlt (by omega)).1
     omega)
    clear HXY
    generalize a.cuts.getD k 0=y at *
    generalize a.cuts.getD (k-1) 0=x at *
    go_wp2_with fail
    refine wp_region_qx (by kernel_rfl) (by kernel_rfl) ?_
    repeat (go_big_quiet_step ((fail)))
    refine wpQuiet_nil ?_
    intro x
    go_wp2_with fail
    go_ret
    exact ⟨ret_int HH.out.symm,HU.out.step (HI.out.2.step x.upd)⟩
   ·have hgt:a.cuts.getD (k-1) 0<a.cuts.getD k 0:=by omega
    have hdf:decide (a.cuts.getD k 0≤a.cuts.getD (k-1) 0)=false:=by simpa using hgt
    by_cases h255:255<a.cuts.getD k 0
    ·have HH:=Lib.hid (show vErr a=1 by
      rw [HV3.out,if_pos]
      intro h
      have:=(h k hlt (by omega)).2
      omega)
     clear HXY
     generalize a.cuts.getD k 0=y at *
     generalize a.cuts.getD (k-1) 0=x at *
     go_wp2_with fail
     refine wp_region_qx (by kernel_rfl) (by kernel_rfl) ?_
     repeat (go_big_quiet_step ((fail)))
     refine wpQuiet_nil ?_
     intro x
     go_wp2_with fail
     go_ret
     exact ⟨ret_int HH.out.symm,HU.out.step (HI.out.2.step x.upd)⟩
    ·have HH:=Lib.hid (show ∀ j,j<k+1→1≤j→a.cuts.getD (j-1) 0<a.cuts.getD j 0∧a.cuts.getD j 0≤255 from fun j h1 h2=>by
      by_cases h3:j=k
      ·subst h3;omega
      ·exact HXY.out j h1 h2 h3)
     clear HXY
     generalize a.cuts.getD k 0=y at *
     generalize a.cuts.getD (k-1) 0=x at *
     go_wp2_with fail
     refine wp_region_qx (by kernel_rfl) (by kernel_rfl) ?_
     repeat (go_big_quiet_step ((fail)))
     refine wpQuiet_nil ?_
     intro x
     go_wp2_with fail
     exact ⟨⟨k+1,by go_num,by omega,by omega,Lib.hid ⟨HH.out,HI.out.2.step x.upd⟩⟩,by simp [intOf];omega⟩
  ·have HV4:=Lib.hid (HV3.out.trans (if_neg (fun h=>h (fun i h1 h2=>HI.out.1 i (by omega) h2))))
   have hke:a.cuts.length=k:=by omega
   have HIU:=Lib.hid HI.out.2
   have HRW:=Lib.hid (fun (i:Nat) (hi:i<a.next.length)=>HF1.out.row hi)
   have hni:¬ ((k:Int)<a.cuts.length):=by omega
   clear HI HV3 hke hlt hk1 hk hcp HC
   go_wp2_with fail
   go_loopw [72] (fun iv wq=>∃ i:Nat,iv=.int .i64 i∧i≤a.next.length∧Hid ((∀ l∈a.next.take i,l.length=a.cuts.length∧∀ s∈l,0≤s∧s<a.next.length)∧Upd [] w1 wq)) (fun iv _=>a.next.length - (intOf iv).toNat)
   case atStart=>exact ⟨0,rfl,Nat.zero_le _,Lib.hid ⟨fun l hl=>by simp at hl,HIU.out⟩⟩
   case round=>
    obtain ⟨i,rfl,hi,HJ⟩:=hrel
    have q0:=HJ.out.2.some HB.out.1 (by simp)
    by_cases hlt:i<a.next.length
    ·have hli:(i:Int)<a.next.length:=by omega
     obtain ⟨g,off,ar,cr,he,hc,hrow⟩:=HRW.out i hlt
     cases he
     have hc':=HJ.out.2.some hc (by simp)
     have HL:=Lib.hid (And.intro hrow (And.intro (gd_memA (d:=[]) hlt) (show a.next.take (i+1)=a.next.take i++[a.next.getD i []] by rw [List.take_add_one,gd_some (d:=[]) hlt];rfl)))
     clear hc hrow
     generalize a.next.getD i []=l at *
     by_cases hll:l.length=a.cuts.length
     ·have hb:((l.length:Int) != a.cuts.length)=false:=by simp;omega
      have HLL:=Lib.hid hll
      clear hll
      go_wp2_with fail
      go_loopw [84] (fun jv wz=>∃ j:Nat,jv=.int .i64 j∧j≤l.length∧Hid ((∀ s∈l.take j,0≤s∧s<a.next.length)∧Upd [] w1 wz)) (fun jv _=>l.length - (intOf jv).toNat)
      case atStart=>exact ⟨0,rfl,Nat.zero_le _,Lib.hid ⟨fun l hl=>by simp at hl,HJ.out.2⟩⟩
      case round=>
       obtain ⟨j,rfl,hj,HK⟩:=hrel
       by_cases hjl:j<l.length
       ·have hji:(j:Int)<l.length:=by omega
        obtain ⟨ar',cr',he,_,_,hcc⟩:=HL.out.1.elems
        cases he
        obtain ⟨gr,orr,rfl,hcr⟩:=hcc (by omega)
        have hx:=HK.out.2.some (hcr j _ (ints_get (gd_some (d:=0) hjl))) (by simp)
        have HM:=Lib.hid (And.intro (gd_memA (d:=0) hjl) (show l.take (j+1)=l.take j++[l.getD j 0] by rw [List.take_add_one,gd_some (d:=0) hjl];rfl))
        clear hcc hcr
        generalize l.getD j 0=x at *
        by_cases hneg:x<0
        ·have HH:=Lib.hid (show vErr a=1 by
          rw [HV4.out,if_pos]
          intro h
          have:=((h l HL.out.2.1).2 x HM.out.1).1
          omega)
         go_wp2_with fail
         go_ret
         exact ⟨ret_int HH.out.symm,HU.out.step HK.out.2⟩
        ·by_cases hbig:(a.next.length:Int)≤x
         ·have HH:=Lib.hid (show vErr a=1 by
           rw [HV4.out,if_pos]
           intro h
           have:=((h l HL.out.2.1).2 x HM.out.1).2
           omega)
          go_wp2_with fail
          go_ret
          exact ⟨ret_int HH.out.symm,HU.out.step HK.out.2⟩
         ·have HH:=Lib.hid (And.intro (show 0≤x by omega) (show x<a.next.length by omega))
          go_wp2_with fail
          refine ⟨⟨j+1,by go_num,by omega,Lib.hid ⟨fun s hs=>?_,HK.out.2⟩⟩,by simp [intOf];omega⟩
          rw [HM.out.2] at hs
          rcases List.mem_append.1 hs with hs|hs
          ·exact HK.out.1 s hs
          ·simp at hs;subst hs;exact HH.out
       ·have hje:j=l.length:=by omega
        subst hje
        have HH:=HK.out.1
        rw [List.take_length] at HH
        have HHH:=Lib.hid HH
        clear HH
        go_wp2_with fail
        refine ⟨⟨i+1,by go_num,by omega,Lib.hid ⟨fun s hs=>?_,HK.out.2⟩⟩,by simp [intOf];omega⟩
        rw [HL.out.2.2] at hs
        rcases List.mem_append.1 hs with hs|hs
        ·exact HJ.out.1 s hs
        ·simp at hs;subst hs;exact ⟨HLL.out,HHH.out⟩
     ·have hb:((l.length:Int) != a.cuts.length)=true:=by simp;omega
      have HH:=Lib.hid (show vErr a=1 by
       rw [HV4.out,if_pos]
       intro h
       exact hll (h l HL.out.2.1).1)
      clear hll
      go_wp2_with fail
      go_ret
      exact ⟨ret_int HH.out.symm,HU.out.step HJ.out.2⟩
    ·have hie:i=a.next.length:=by omega
     subst hie
     have HH:=HJ.out.1
     rw [List.take_length] at HH
     have HE:=Lib.hid (show vErr a=0 by rw [HV4.out,if_neg (fun h=>h HH)])
     clear HH
     go_wp2_with fail
     go_ret
     exact ⟨ret_int HE.out.symm,HU.out.step HJ.out.2⟩
end
end Aut
end Go.Proofs.YtjclbjdkkdijbaaGreat
end
section
open Go.RowKit
namespace Go.Proofs.YtjclbjdkkdijbaaGreat
open L
namespace Aut
open Auto
attribute [-go_sem] sliced
theorem bools_one (xs:List Bool):∀ u∈bools xs,u.oneCell'=true:=by
 intro u hu
 simp only [bools,List.mem_map] at hu
 obtain ⟨_,_,rfl⟩:=hu
 rfl
section
variable {w:World}
set_option maxRecDepth 100000
set_option maxHeartbeats 1000000 in
theorem CloneI_calls {v:Value} {xs:List Int} (h:SL w 1 v xs.length (ints xs)) (hb:xs.length≤8796093022208):Calls Tryz.prog 72 #[v] w fun e w'=>∃ a cap,e=.returned (.slice a xs.length cap)∧OwW 3 1 xs.length w (.slice none 0 0) (.slice a xs.length cap) (ints xs) w':=by
 obtain ⟨hl,a,cap,rfl,hc,hm,hnil,hcell⟩:=h
 have H:SL w 1 (.slice a xs.length cap) xs.length (ints xs):=⟨hl,a,cap,rfl,hc,hm,hnil,hcell⟩
 have hnl:=fun (w:World) (a:Option Addr) (n c:Nat)=>Lib.run_eql_slice_nil (P:=Tryz.prog) w 22 _ a n c 0 0 Tryz.underlying22
 cases a with
 | none=>
  have h0:xs.length=0:=by have:=hnil rfl;omega
  have hx:xs=[]:=List.eq_nil_of_length_eq_zero h0
  subst hx
  have hc0:cap=0:=hnil rfl
  subst hc0
  clear hl hcell H hnil h0
  go_enter Tryz.func72,Tryz.ntmps72
  go_wp2_with fail
  go_ret
  exact ⟨none,0,rfl,OwW.nil _ _ _⟩
 | some ad=>
  clear hl hcell hnil
  go_enter Tryz.func72,Tryz.ntmps72
  go_upto_region 3 with fail
  refine wp_region_lit ?_
  refine wpList_cutH 2 (fun K hK=>?_)
  simp only [List.take_succ_cons,List.take_zero]
  go_wp2_with fail
  refine Halt_.intro ?_;try simp only [List.drop_succ_cons,List.drop_zero]
  have g0:=owns_none (w:=w) rfl 3
  have u0:=(Upd.refl [] w).alloc (.cells #[] 3)
  have H0:=H.upd u0 (by simp)
  have hs:(w.alloc (.cells #[] 3)).heap.size=w.heap.size+1:=by simp
  generalize w.alloc (.cells #[] 3)=w0 at *
  refine wpList_appS rfl _ _ _ rfl 3 1 8 _ Tryz.underlying22 infoInt rfl (by decide) (.slice (some ⟨w.heap.size,0,none⟩) 0 0) 0 [] rfl (owns_blk g0 rfl (by unfold maxLen;omega)) (.slice (some ad) xs.length cap) xs.length (ints xs) rfl H0 (ints_one _) (by unfold maxLen;omega) (by omega) ?_
  intro a1 cap1 w1 o1 u1 k1
  simp only [Act.put,List.setIfInBounds_toArray,List.set_cons_zero,List.set_cons_succ]
  rw [List.nil_append] at o1
  have HO:=Lib.hid (And.intro o1 (And.intro u1 k1))
  clear o1 u1 k1 H H0 g0
  simp only [Nat.zero_add] at HO ⊢
  go_wp2_with fail
  go_ret
  refine ⟨a1,cap1,rfl,HO.out.1,?_,fun g hg=>?_⟩
  ·have:=u0.fresh HO.out.2.1 (fun j hj=>.inr (by simp [Value.ownBlock] at hj;omega))
   simpa [Value.ownBlock] using this
  ·right
   rcases HO.out.2.2 with h|h
   ·rw [hg] at h;simp [Value.ownBlock] at h;omega
   ·rw [hg] at h;simp at h;omega
set_option maxHeartbeats 1000000 in
theorem CloneB_calls {v:Value} {xs:List Bool} (h:SL w 1 v xs.length (bools xs)) (hb:xs.length≤8796093022208):Calls Tryz.prog 60 #[v] w fun e w'=>∃ a cap,e=.returned (.slice a xs.length cap)∧OwW 4 1 xs.length w (.slice none 0 0) (.slice a xs.length cap) (bools xs) w':=by
 obtain ⟨hl,a,cap,rfl,hc,hm,hnil,hcell⟩:=h
 have H:SL w 1 (.slice a xs.length cap) xs.length (bools xs):=⟨hl,a,cap,rfl,hc,hm,hnil,hcell⟩
 have hnl:=fun (w:World) (a:Option Addr) (n c:Nat)=>Lib.run_eql_slice_nil (P:=Tryz.prog) w 29 _ a n c 0 0 Tryz.underlying29
 cases a with
 | none=>
  have h0:xs.length=0:=by have:=hnil rfl;omega
  have hx:xs=[]:=List.eq_nil_of_length_eq_zero h0
  subst hx
  have hc0:cap=0:=hnil rfl
  subst hc0
  clear hl hcell H hnil h0
  go_enter Tryz.func60,Tryz.ntmps60
  go_wp2_with fail
  go_ret
  exact ⟨none,0,rfl,OwW.nil _ _ _⟩
 | some ad=>
  clear hl hcell hnil
  go_enter Tryz.func60,Tryz.ntmps60
  go_upto_region 3 with fail
  refine wp_region_lit ?_
  refine wpList_cutH 2 (fun K hK=>?_)
  simp only [List.take_succ_cons,List.take_zero]
  go_wp2_with fail
  refine Halt_.intro ?_;try simp only [List.drop_succ_cons,List.drop_zero]
  have g0:=owns_none (w:=w) rfl 4
  have u0:=(Upd.refl [] w).alloc (.cells #[] 4)
  have H0:=H.upd u0 (by simp)
  have hs:(w.alloc (.cells #[] 4)).heap.size=w.heap.size+1:=by simp
  generalize w.alloc (.cells #[] 4)=w0 at *
  refine wpList_appS rfl _ _ _ rfl 4 1 1 _ Tryz.underlying29 infoBool rfl (by decide) (.slice (some ⟨w.heap.size,0,none⟩) 0 0) 0 [] rfl (owns_blk g0 rfl (by unfold maxLen;omega)) (.slice (some ad) xs.length cap) xs.length (bools xs) rfl H0 (bools_one _) (by unfold maxLen;omega) (by omega) ?_
  intro a1 cap1 w1 o1 u1 k1
  simp only [Act.put,List.setIfInBounds_toArray,List.set_cons_zero,List.set_cons_succ]
  rw [List.nil_append] at o1
  have HO:=Lib.hid (And.intro o1 (And.intro u1 k1))
  clear o1 u1 k1 H H0 g0
  simp only [Nat.zero_add] at HO ⊢
  go_wp2_with fail
  go_ret
  refine ⟨a1,cap1,rfl,HO.out.1,?_,fun g hg=>?_⟩
  ·have:=u0.fresh HO.out.2.1 (fun j hj=>.inr (by simp [Value.ownBlock] at hj;omega))
   simpa [Value.ownBlock] using this
  ·right
   rcases HO.out.2.2 with h|h
   ·rw [hg] at h;simp [Value.ownBlock] at h;omega
   ·rw [hg] at h;simp at h;omega
def idxI (p:Int→Bool) (xs:List Int):Int:=if xs.any p then (xs.findIdx p:Nat) else -1
theorem idxI_at {p:Int→Bool} {xs:List Int} {k:Nat} (hk:k<xs.length) (h:p (xs.getD k 0)=true) (hlo:∀ j,j<k→p (xs.getD j 0)=false):idxI p xs=k:=by
 have hg:∀ j,(hj:j<xs.length)→xs.getD j 0=xs[j]:=fun j hj=>by rw [List.getD_eq_getElem?_getD,List.getElem?_eq_getElem hj];rfl
 unfold idxI
 rw [if_pos (List.any_eq_true.2 ⟨xs[k],List.getElem_mem _,by rw [←hg k hk];exact h⟩)]
 congr 1
 exact (List.findIdx_eq hk).2 ⟨by rw [←hg k hk];exact h,fun j hj=>by rw [←hg j (by omega)];exact hlo j hj⟩
theorem idxI_none {p:Int→Bool} {xs:List Int} (hlo:∀ j,j<xs.length→p (xs.getD j 0)=false):idxI p xs=-1:=by
 unfold idxI
 rw [if_neg]
 intro h
 obtain ⟨x,hx,hp⟩:=List.any_eq_true.1 h
 obtain ⟨j,hj,rfl⟩:=List.getElem_of_mem hx
 have:=hlo j hj
 rw [List.getD_eq_getElem?_getD,List.getElem?_eq_getElem hj] at this
 simp at this
 rw [hp] at this
 cases this
theorem Left1_calls {xs:List Bool} {s:Int} {bb:Nat} {vb:Value} (h:w.cell? ⟨bb,0,none⟩=some vb) (hb:SL w 1 vb xs.length (bools xs)) (h0:0≤s) (h1:s<xs.length) :
 Calls Tryz.prog 62 #[.int .i64 s,.pointer (some ⟨bb,0,none⟩)] w fun e w'=>e=.returned (.bool (xs.getD s.toNat false))∧Upd [] w w':=by
 obtain ⟨n,rfl⟩:=Int.eq_ofNat_of_zero_le h0
 obtain ⟨a,c,rfl,_,_,hc⟩:=hb.elems
 obtain ⟨g,off,rfl,hg⟩:=hc (by omega)
 have hn:n<xs.length:=by omega
 have e1:=hg n _ (bools_get (gd_some (d:=false) hn))
 have HE:=Lib.hid (show xs.getD ((n:Int)).toNat false=xs.getD n false by rw [Int.toNat_natCast])
 clear hc hg hb h0
 generalize hx:xs.getD n false=x at *
 clear hx
 go_enter Tryz.func62,Tryz.ntmps62
 go_wp2_with fail
 go_ret
 exact ⟨ret_bool HE.out.symm,Upd.refl _ _⟩
set_option maxHeartbeats 4000000 in
theorem Index_calls {xs:List Int} {vl vb:Value} {bs:List Bool} {bb:Nat} (hl:SL w 1 vl xs.length (ints xs)) (h:w.cell? ⟨bb,0,none⟩=some vb) (hb:SL w 1 vb bs.length (bools bs)) (hin:∀ x∈xs,0≤x∧x<bs.length) :
 Calls Tryz.prog 97 #[vl,.func (.func 62) #[] #[.pointer (some ⟨bb,0,none⟩)]] w fun e w'=>e=.returned (.int .i64 (idxI (fun x=>bs.getD x.toNat false) xs))∧Upd [] w w':=by
 obtain ⟨a,c,rfl,q1,q2,hc⟩:=hl.elems
 have HC:=Lib.hid hc
 have HB:=Lib.hid (And.intro h (And.intro hb hin))
 clear hl h hb hin hc
 go_enter Tryz.func97,Tryz.ntmps97
 go_wp2_with fail
 go_loopw [8] (fun i wr=>∃ k:Nat,i=.int .i64 k∧k≤xs.length∧Hid ((∀ j,j<k→(fun x:Int=>bs.getD x.toNat false) (xs.getD j 0)=false)∧Upd [] w wr)) (fun i _=>xs.length - (intOf i).toNat)
 case atStart=>exact ⟨0,rfl,Nat.zero_le _,Lib.hid ⟨fun j hj=>by omega,Upd.refl _ _⟩⟩
 case round=>
  obtain ⟨k,rfl,hk,HI⟩:=hrel
  by_cases hlt:k<xs.length
  ·have hli:(k:Int)<xs.length:=by omega
   obtain ⟨g,off,rfl,hg⟩:=HC.out (by omega)
   have e1:=HI.out.2.some (hg k _ (ints_get (gd_some (d:=0) hlt))) (by simp)
   have hx:=HB.out.2.2 _ (gd_memA (d:=0) hlt)
   have HX:=Lib.hid (Left1_calls (HI.out.2.some HB.out.1 (by simp)) (HB.out.2.1.upd HI.out.2 (by simp)) hx.1 hx.2)
   have HA:=Lib.hid (fun h=>idxI_at (p:=fun x:Int=>bs.getD x.toNat false) hlt h HI.out.1)
   have HG:=Lib.hid (show ∀ j,j<k+1→j≠k→(fun x:Int=>bs.getD x.toNat false) (xs.getD j 0)=false from fun j h1 h2=>HI.out.1 j (by omega))
   clear hg hx
   generalize hxx:xs.getD k 0=x at *
   have HXX:=Lib.hid hxx
   clear hxx
   cases hp:bs.getD x.toNat false with
   | true=>
    rw [hp] at HX
    have HE:=Lib.hid (HA.out hp)
    clear hp
    go_wp2_with ((with_reducible refine HX.out.mono ?_);rintro e w3 ⟨rfl,hu⟩)
    go_ret
    exact ⟨ret_int HE.out.symm,HI.out.2.step hu⟩
   | false=>
    rw [hp] at HX
    have HE:=Lib.hid hp
    clear hp
    go_wp2_with ((with_reducible refine HX.out.mono ?_);rintro e w3 ⟨rfl,hu⟩)
    refine ⟨⟨k+1,by go_num,by omega,Lib.hid ⟨fun j hj=>?_,HI.out.2.step hu⟩⟩,by simp [intOf];omega⟩
    by_cases h:j=k
    ·subst h;show bs.getD (xs.getD j 0).toNat false=false;rw [HXX.out];exact HE.out
    ·exact HG.out j hj h
  ·have hme:k=xs.length:=by omega
   subst hme
   have HE:=Lib.hid (idxI_none (p:=fun x:Int=>bs.getD x.toNat false) HI.out.1)
   go_wp2_with fail
   go_ret
   exact ⟨ret_int HE.out.symm,HI.out.2⟩
theorem Contains_calls {xs:List Int} {vl vb:Value} {bs:List Bool} {bb:Nat} (hl:SL w 1 vl xs.length (ints xs)) (h:w.cell? ⟨bb,0,none⟩=some vb) (hb:SL w 1 vb bs.length (bools bs)) (hin:∀ x∈xs,0≤x∧x<bs.length) :
 Calls Tryz.prog 61 #[vl,.func (.func 62) #[] #[.pointer (some ⟨bb,0,none⟩)]] w fun e w'=>e=.returned (.bool (xs.any fun x=>bs.getD x.toNat false))∧Upd [] w w':=by
 have HI:=Lib.hid (Index_calls hl h hb hin)
 have HR:=Lib.hid (show (xs.any fun x=>bs.getD x.toNat false)=decide (0≤idxI (fun x=>bs.getD x.toNat false) xs) by
  unfold idxI
  split
  ·rename_i h;rw [h];simp
  ·rename_i h;rw [Bool.not_eq_true] at h;rw [h];simp)
 obtain ⟨a,c,rfl,_⟩:=hl.elems
 clear hl h hb hin
 generalize idxI (fun x=>bs.getD x.toNat false) xs=ix at *
 go_enter Tryz.func61,Tryz.ntmps61
 go_wp2_with ((with_reducible refine HI.out.mono ?_);rintro e w3 ⟨rfl,hu⟩)
 go_ret
 rw [HR.out]
 exact ⟨ret_bool (by rfl),hu⟩
end
end Aut
end Go.Proofs.YtjclbjdkkdijbaaGreat
end
section
open Go.RowKit
namespace Go.Proofs.YtjclbjdkkdijbaaGreat
open L
namespace Aut
open Auto
attribute [-go_sem] sliced
theorem vErr_ok {a:Au} (h:vErr a=0):Ok a:=by
 unfold vErr at h
 split at h
 ·omega
 ·rename_i h1
  split at h
  ·omega
  ·rename_i h2
   split at h
   ·omega
   ·rename_i h3
    split at h
    ·omega
    ·rename_i h4
     rw [Classical.not_not] at h3 h4
     have hz:a.cuts.getD 0 0=0:=Classical.byContradiction fun h=>h2 (.inr (.inr (.inr h)))
     have hl:0<a.cuts.length:=Nat.pos_of_ne_zero fun h=>h2 (.inr (.inr (.inl h)))
     have hg:∀ i,(hi:i<a.cuts.length)→a.cuts.getD i 0=a.cuts[i]:=fun i hi=>by rw [List.getD_eq_getElem?_getD,List.getElem?_eq_getElem hi];rfl
     refine ⟨by omega,Nat.pos_of_ne_zero fun h=>h2 (.inl h),Classical.byContradiction fun h=>h2 (.inr (.inl h)),?_,?_,?_,h4⟩
     ·rw [List.getD_eq_getElem?_getD,List.getElem?_eq_getElem hl]
      rw [hg 0 hl] at hz
      simpa using hz
     ·rw [List.pairwise_iff_getElem]
      intro i j hi hj hij
      have key:∀ d,∀ h2:i+d+1<a.cuts.length,a.cuts[i]<a.cuts[i+d+1]:=by
       intro d
       induction d with
       | zero=>
        intro h2
        have:=(h3 (i+1) h2 (by omega)).1
        rw [Nat.add_sub_cancel,hg _ hi,hg _ h2] at this
        exact this
       | succ d ih=>
        intro h2
        have h5:=ih (by omega)
        have:=(h3 (i+(d+1)+1) h2 (by omega)).1
        rw [Nat.add_sub_cancel,hg _ (by omega),hg _ h2] at this
        exact Int.lt_trans h5 this
      have:=key (j-i-1) (by omega)
      have e:i+(j-i-1)+1=j:=by omega
      simpa [e] using this
     ·intro x hx
      obtain ⟨i,hi,rfl⟩:=List.getElem_of_mem hx
      rcases Nat.eq_zero_or_pos i with rfl|h5
      ·rw [hg 0 hl] at hz;omega
      ·have:=(h3 i hi h5).2
       rw [hg i hi] at this
       exact this
theorem cuts_len {a:Au} (h:Ok a):a.cuts.length≤256:=by
 have key:∀ i,(hi:i<a.cuts.length)→(i:Int)≤a.cuts[i]:=by
  intro i
  induction i with
  | zero=>
   intro hi
   have h0:=h.zero
   rw [List.getD_eq_getElem?_getD,List.getElem?_eq_getElem hi] at h0
   simp at h0
   omega
  | succ i ih=>
   intro hi
   have h1:=ih (by omega)
   have h2:=List.pairwise_iff_getElem.1 h.inc i (i+1) (by omega) hi (by omega)
   omega
 rcases Nat.lt_or_ge 256 a.cuts.length with hl|hl
 ·have h1:=key 256 hl
  have h2:=h.top _ (List.getElem_mem hl)
  omega
 ·exact hl
def nowL (a:Au) (k:Nat):List Bool:=(List.range a.next.length).map fun s=>leftN a k s
theorem nowL_len (a:Au) (k:Nat):(nowL a k).length=a.next.length:=by simp [nowL]
theorem nowL_get {a:Au} {k s:Nat} (hs:s<a.next.length):(nowL a k).getD s false=leftN a k s:=by
 unfold nowL
 rw [List.getD_eq_getElem?_getD,List.getElem?_map,List.getElem?_range hs]
 rfl
theorem nowL_zero {a:Au} (h:a.acc.length=a.next.length):nowL a 0=a.acc:=by
 apply List.ext_getElem?
 intro i
 unfold nowL
 rw [List.getElem?_map]
 by_cases hi:i<a.next.length
 ·rw [List.getElem?_range hi,List.getElem?_eq_getElem (by omega)]
  simp [leftN,List.getD_eq_getElem?_getD,List.getElem?_eq_getElem (show i<a.acc.length by omega)]
 ·rw [List.getElem?_eq_none (by simp;omega),List.getElem?_eq_none (by omega)]
  rfl
theorem any_congr' {l:List Int} {p q:Int→Bool} (h:∀ x∈l,p x=q x):l.any p=l.any q:=by
 induction l with
 | nil=>rfl
 | cons x l ih=>rw [List.any_cons,List.any_cons,h x (by simp),ih fun y hy=>h y (by simp [hy])]
theorem nowL_next {a:Au} (ha:Ok a) {k s:Nat} (hs:s<a.next.length):((a.next.getD s []).any fun t=>(nowL a k).getD t.toNat false)=leftN a (k+1) s:=by
 show _=(a.next.getD s []).any fun t=>leftN a k t.toNat
 refine any_congr' fun t ht=>?_
 have:=(ha.rows _ (gd_memA (d:=[]) hs)).2 t ht
 exact nowL_get (by omega)
theorem nrow_false {a:Au} {k i:Nat} (h:i<a.next.length):(bools ((nowL a k).take i++List.replicate (a.next.length-i) false))[i]?=some (.bool false):=by
 refine bools_get ?_
 have hl:=nowL_len a k
 rw [List.getElem?_append_right (by simp;omega),List.length_take,List.getElem?_replicate,if_pos (by omega)]
theorem nrow_set {a:Au} {k i:Nat} (h:i<a.next.length):(bools ((nowL a k).take i++List.replicate (a.next.length-i) false)).set i (.bool (leftN a k i))=bools ((nowL a k).take (i+1)++List.replicate (a.next.length - (i+1)) false):=by
 have e:List.replicate (a.next.length-i) false=false::List.replicate (a.next.length - (i+1)) false:=by rw [←List.replicate_succ];congr 1;omega
 have hl:=nowL_len a k
 have hl2:((nowL a k).take i).length=i:=by simp;omega
 have ht:(nowL a k).take (i+1)=(nowL a k).take i++[leftN a k i]:=by
  rw [List.take_add_one,gd_some (d:=false) (show i<(nowL a k).length by omega),nowL_get h];rfl
 rw [e,ht]
 unfold bools
 rw [←List.map_set,List.set_append_right _ _ (by omega),hl2,Nat.sub_self,List.append_assoc]
 rfl
def leftE (a:Au) (st most:Int):Int:=if vErr a≠0 then vErr a else if st<0∨(a.next.length:Int)≤st then 7 else if most<0∨64<most then 5 else 0
def leftR (a:Au) (st most:Int):List Bool:=if vErr a≠0 then [] else if st<0∨(a.next.length:Int)≤st then [] else if most<0∨64<most then [] else (List.range (most.toNat+1)).map fun n=>leftN a n st.toNat
def resL (a:Au) (s k:Nat):List Bool:=(List.range k).map fun n=>leftN a n s
theorem resL_succ (a:Au) (s k:Nat):resL a s (k+1)=resL a s k++[leftN a k s]:=by simp [resL,List.range_succ]
theorem resL_len (a:Au) (s k:Nat):(resL a s k).length=k:=by simp [resL]
section
variable {w w':World} {v:Value}
theorem nil_bools:SL w 1 (.slice none 0 0) ([]:List Bool).length (bools []):=⟨rfl,none,0,rfl,Nat.zero_le _,Nat.zero_le _,fun _=>rfl,.inl rfl⟩
set_option maxRecDepth 100000 in
set_option maxHeartbeats 16000000 in
theorem Left_callsF {a:Au} {st most:Int} (h:AuV w a v):Calls Tryz.prog 27 #[v,.int .i64 st,.int .i64 most] w fun e w'=>∃ v',e=.returned (.tuple #[v',.int .i64 (leftE a st most)])∧SL w' 1 v' (leftR a st most).length (bools (leftR a st most))∧Upd [] w w'∧∀ q,v'.ownBlock=some q→w.heap.size≤q:=by
 obtain ⟨a1,c1,a2,c2,a3,c3,rfl,hF⟩:=h.shape
 have HF:=Lib.hid hF
 clear h hF
 go_enter Tryz.func27,Tryz.ntmps27
 go_upto_region 1 with fail
 have bA:=Blk.new w [.slice a1 a.cuts.length c1,.slice a2 a.next.length c2,.slice a3 a.acc.length c3] 31
 have uA:=(Upd.refl [] w).alloc (.cells #[.slice a1 a.cuts.length c1,.slice a2 a.next.length c2,.slice a3 a.acc.length c3] 31)
 change Blk (w.alloc (.cells #[.slice a1 a.cuts.length c1,.slice a2 a.next.length c2,.slice a3 a.acc.length c3] 31)) _ _ _ at bA
 generalize (w.alloc (.cells #[.slice a1 a.cuts.length c1,.slice a2 a.next.length c2,.slice a3 a.acc.length c3] 31))=w1 at *
 have k0:=bA.cell (i:=0) rfl
 have k1:=bA.cell (i:=1) rfl
 have k2:=bA.cell (i:=2) rfl
 have HU:=Lib.hid uA
 have HVC:=Lib.hid (Valid_calls (v:=.agg #[.slice a1 a.cuts.length c1,.slice a2 a.next.length c2,.slice a3 a.acc.length c3]) ⟨_,rfl,HF.out.ext uA⟩)
 clear bA uA
 generalize w.heap.size=pb at *
 by_cases he:vErr a=0
 ·have HOK:=Lib.hid (And.intro (vErr_ok he) he)
  rw [he] at HVC
  clear he
  go_upto_region 4 with ((with_reducible refine HVC.out.mono ?_);rintro e w2 ⟨rfl,u2⟩)
  have HU2:=Lib.hid (HU.out.step u2)
  have g0:=u2.some k0 (by simp)
  have g1:=u2.some k1 (by simp)
  have g2:=u2.some k2 (by simp)
  clear k0 k1 k2 u2
  by_cases hs1:st<0
  ·have HE:=Lib.hid (show leftE a st most=7∧leftR a st most=[] by unfold leftE leftR;rw [if_neg (by simpa using HOK.out.2),if_pos (.inl hs1),if_neg (by simpa using HOK.out.2),if_pos (.inl hs1)];exact ⟨rfl,rfl⟩)
   go_wp2_with fail
   go_ret2
   rw [HE.out.1,HE.out.2]
   exact ⟨_,rfl,nil_bools,HU2.out,by simp [Value.ownBlock]⟩
  by_cases hs2:(a.next.length:Int)≤st
  ·have HE:=Lib.hid (show leftE a st most=7∧leftR a st most=[] by unfold leftE leftR;rw [if_neg (by simpa using HOK.out.2),if_pos (.inr hs2),if_neg (by simpa using HOK.out.2),if_pos (.inr hs2)];exact ⟨rfl,rfl⟩)
   go_wp2_with fail
   go_ret2
   rw [HE.out.1,HE.out.2]
   exact ⟨_,rfl,nil_bools,HU2.out,by simp [Value.ownBlock]⟩
  have hss:¬ (st<0∨(a.next.length:Int)≤st):=by rintro (h|h);exact hs1 h;exact hs2 h
  by_cases hm:most<0∨64<most
  ·have HE:=Lib.hid (show leftE a st most=5∧leftR a st most=[] by unfold leftE leftR;rw [if_neg (by simpa using HOK.out.2),if_neg hss,if_pos hm,if_neg (by simpa using HOK.out.2),if_neg hss,if_pos hm];exact ⟨rfl,rfl⟩)
   rcases hm with hm|hm
   ·go_wp2_with fail
    go_ret2
    rw [HE.out.1,HE.out.2]
    exact ⟨_,rfl,nil_bools,HU2.out,by simp [Value.ownBlock]⟩
   ·have hm2:¬ most<0:=by omega
    go_wp2_with fail
    go_ret2
    rw [HE.out.1,HE.out.2]
    exact ⟨_,rfl,nil_bools,HU2.out,by simp [Value.ownBlock]⟩
  have HE:=Lib.hid (show leftE a st most=0∧leftR a st most=resL a st.toNat (most.toNat+1) by unfold leftE leftR;rw [if_neg (by simpa using HOK.out.2),if_neg hss,if_neg hm,if_neg (by simpa using HOK.out.2),if_neg hss,if_neg hm];exact ⟨rfl,rfl⟩)
  have hm1:¬ most<0:=fun h=>hm (.inl h)
  have hm2:¬ 64<most:=fun h=>hm (.inr h)
  clear hss hm
  obtain ⟨s,rfl⟩:=Int.eq_ofNat_of_zero_le (show 0≤st by omega)
  obtain ⟨m,rfl⟩:=Int.eq_ofNat_of_zero_le (show 0≤most by omega)
  go_upto_region 8 with fail
  have hsn:s<a.next.length:=by omega
  have HACC:=Lib.hid HOK.out.1.acc
  have hsl:SL w2 1 (.slice a3 a.acc.length c3) a.acc.length (bools a.acc):=by
   obtain ⟨cv,nv,av,he,_,_,h3⟩:=HF.out
   cases he
   exact h3.upd HU2.out (by simp)
  have HCB:=Lib.hid (CloneB_calls hsl (by have:=HOK.out.1.few;have:=HACC.out;omega))
  have HS:=Lib.hid hsn
  have hsa:(s:Int)<a.acc.length:=by have:=HACC.out;omega
  have hsn2:s<a.acc.length:=by omega
  clear hsl
  go_upto_region 9 with ((with_reducible refine HCB.out.mono ?_);rintro e w3 ⟨an,cn,rfl,o3⟩)
  obtain ⟨an',cn',he,_,_,hoc⟩:=o3.form
  cases he
  obtain ⟨gn,rfl,hgc⟩:=hoc (by omega) (by omega)
  have e1:=hgc s _ (bools_get (gd_some (d:=false) hsn2))
  have HO3:=Lib.hid o3
  clear hoc hgc
  generalize hx:a.acc.getD s false=x0 at *
  have HX:=Lib.hid hx
  clear hx
  have j1:=o3.fresh.some g1 (by simp)
  clear o3
  go_upto_region 11 with fail
  have bL:=Blk.new w3 [.bool x0] 4
  have uL:=(Upd.refl [] w3).alloc (.cells #[.bool x0] 4)
  have hrow0:(w3.alloc (.cells #[.bool x0] 4)).ownsRow 0 4 1 (.slice (some ⟨w3.heap.size,0,none⟩) 1 1) 1 (bools (resL a s 1)):=owns_blk (by rw [show bools (resL a s 1)=[.bool x0] by rw [←HX.out];rfl];exact bL) (by simp [bools,resL]) (by unfold maxLen;decide)
  have hnow0:SL (w3.alloc (.cells #[.bool x0] 4)) 1 (.slice (some ⟨gn,0,none⟩) a.acc.length cn) a.next.length (bools (nowL a 0)):=by
   have:=HO3.out.sl.upd uL (by simp)
   rw [nowL_zero HACC.out,←HACC.out]
   exact this
  have hgn:gn<w3.heap.size:=HO3.out.lt rfl
  have hz3:(w3.alloc (.cells #[.bool x0] 4)).heap.size=w3.heap.size+1:=by simp
  have j2:=uL.some j1 (by simp)
  have HW3:=Lib.hid (And.intro hrow0 (And.intro hnow0 (And.intro hgn (And.intro (HO3.out.fresh.step uL) (And.intro hz3 (show w2.heap.size≤gn from by
   rcases HO3.out.old gn rfl with h|h
   ·simp [Value.ownBlock] at h
   ·exact h))))))
  have HZ3:=Lib.hid HO3.out.fresh.size
  clear hrow0 hnow0 hgn hz3 bL uL e1
  generalize (w3.alloc (.cells #[.bool x0] 4))=w4 at *
  generalize w3.heap.size=lb at *
  have HNXT:=Lib.hid (fun (i:Nat) (hi:i<a.next.length)=>(HF.out.ext HU2.out).row hi)
  go_loopw [9,10,43] (fun nw lw kv wr=>∃ (k:Nat) (nv lv:Value),nv=nw∧lv=lw∧kv=.int .i64 k∧k≤m∧Hid (SL wr 1 nv a.next.length (bools (nowL a k))∧wr.ownsRow 0 4 1 lv (k+1) (bools (resL a s (k+1)))∧(∀ q,lv.ownBlock=some q→w2.heap.size≤q)∧(∀ q,nv.ownBlock=some q→lv.ownBlock≠some q)∧Upd [] w2 wr)) (fun _ _ kv _=>m - (intOf kv).toNat)
  case atStart=>exact ⟨0,_,_,rfl,rfl,rfl,Nat.zero_le _,Lib.hid ⟨HW3.out.2.1,HW3.out.1,fun q hq=>by simp only [Value.ownBlock,Option.some.injEq] at hq;have:=HZ3.out;omega,fun q hq=>by simp only [Value.ownBlock,Option.some.injEq] at hq;have:=HW3.out.2.2.1;simp [Value.ownBlock];omega,HW3.out.2.2.2.1⟩⟩
  case round=>
   obtain ⟨k,nv,lv,rfl,rfl,rfl,hk,HI⟩:=hrel
   by_cases hkm:k<m
   ·have hki:(k:Int)<m:=by omega
    obtain ⟨an,cn,rfl,_⟩:=id HI.out.1.elems
    have HLW:=Lib.hid (And.intro HOK.out.1.few hm2)
    go_upto_region 13 with fail
    have bB:=Blk.new wr [.slice an a.next.length cn] 29
    have uB:=(Upd.refl [] wr).alloc (.cells #[.slice an a.next.length cn] 29)
    change Blk (wr.alloc (.cells #[.slice an a.next.length cn] 29)) _ _ _ at bB
    generalize (wr.alloc (.cells #[.slice an a.next.length cn] 29))=wb at *
    generalize wr.heap.size=bb at *
    have b0:=bB.cell (i:=0) rfl
    have hfew:((a.next.length:Nat):Int)≤256:=by have:=HLW.out.1;omega
    go_upto_region 14 with (at_make;refine wpList_mk rfl _ _ _ rfl 4 1 1 _ Tryz.underlying29 infoBool rfl (by decide) .i64 .i64 a.next.length a.next.length a.next.length rfl rfl (by omega) (by omega) (by omega) (by omega) ?_)
    have hrep:(rows a.next.length fun _=>[Value.bool false])=bools (List.replicate a.next.length false):=by rw [rows_one];simp [bools]
    change Code.wp _ _ _ _ (wb.alloc (.cells (rows a.next.length fun _=>[Value.bool false]).toArray 4))
    rw [hrep]
    have bN:=Blk.new wb (bools (List.replicate a.next.length false)) 4
    have uN:=(Upd.refl [] wb).alloc (.cells (bools (List.replicate a.next.length false)).toArray 4)
    generalize (wb.alloc (.cells (bools (List.replicate a.next.length false)).toArray 4))=wn at *
    generalize hnb:wb.heap.size=nb at bN ⊢
    have HNB:=Lib.hid (Nat.le_of_eq hnb)
    have b1:=uN.some b0 (by simp)
    have hlvn:∀ q,lv.ownBlock=some q→q<wb.heap.size:=fun q hq=>by have:=(HI.out.2.1.lt q hq).2;have:=uB.size;omega
    have HN:=Lib.hid (And.intro bN (And.intro (uB.step uN) (And.intro b0 (And.intro hlvn (And.intro uN uB)))))
    have jj:=(HI.out.2.2.2.2.step (uB.step uN)).some g1 (by simp)
    clear bB uB bN uN hrep hnb b0 hlvn hfew
    go_wp2_with fail
    go_loopw [52] (fun iv wz=>∃ i:Nat,iv=.int .i64 i∧i≤a.next.length∧Hid (Blk wz nb (bools ((nowL a (k+1)).take i++List.replicate (a.next.length-i) false)) 4∧Upd [] wb wz)) (fun iv _=>a.next.length - (intOf iv).toNat)
    case atStart=>exact ⟨0,rfl,Nat.zero_le _,Lib.hid ⟨by simpa using HN.out.1,HN.out.2.2.2.2.1⟩⟩
    case round=>
     obtain ⟨i,rfl,hi,HJ⟩:=hrel
     have HUZ:=Lib.hid ((HI.out.2.2.2.2.step HN.out.2.2.2.2.2).step HJ.out.2)
     by_cases hlt:i<a.next.length
     ·have hli:(i:Int)<a.next.length:=by omega
      obtain ⟨g,off,ar,cr,he,hc,hrow⟩:=HNXT.out i hlt
      cases he
      have hc':=HUZ.out.some hc (by simp)
      have HCT:=Lib.hid (Contains_calls (hrow.upd HUZ.out (by simp)) (HJ.out.2.some HN.out.2.2.1 (by simp)) (bs:=nowL a k) (by rw [nowL_len];exact HI.out.1.upd (HN.out.2.2.2.2.2.step HJ.out.2) (by simp)) (fun x hx=>by rw [nowL_len];exact (HOK.out.1.rows _ (gd_memA (d:=[]) hlt)).2 x hx))
      rw [nowL_next HOK.out.1 hlt] at HCT
      clear hc hrow
      generalize a.next.getD i []=row at *
      go_wp2_with ((with_reducible refine HCT.out.mono ?_);rintro e w9 ⟨rfl,u9⟩;have bR:=HJ.out.1.upd u9 (by simp);have c8:w9.cell? ⟨nb,i,none⟩=some (.bool false):=bR.cell (nrow_false hlt);have f8:∀ q,w9.frozen? ⟨nb,q,none⟩=false:=bR.free;have HBR:=Lib.hid (And.intro bR u9);clear bR u9)
      have uS:Upd [nb] w9 (w9.setCell ⟨nb,i,none⟩ (.bool (leftN a (k+1) i))):=(Upd.refl [nb] w9).set (p:=⟨nb,i,none⟩) (by simp) _
      refine ⟨⟨i+1,by go_num,by omega,Lib.hid ⟨?_,(HJ.out.2.step HBR.out.2).fresh uS (fun b hb=>.inr (by simp at hb;subst hb;exact HNB.out))⟩⟩,by simp [intOf];omega⟩
      have:=HBR.out.1.set i (.bool (leftN a (k+1) i))
      rw [nrow_set hlt] at this
      exact this
     ·have hie:i=a.next.length:=by omega
      subst hie
      have hl:=nowL_len a (k+1)
      have bJ:=HJ.out.1
      rw [Nat.sub_self,List.replicate_zero,List.append_nil,List.take_of_length_le (by omega)] at bJ
      have c8:=bJ.cell (i:=s) (bools_get (gd_some (d:=false) (show s<(nowL a (k+1)).length by have:=HS.out;omega)))
      rw [nowL_get HS.out] at c8
      have HLV:=Lib.hid (ownsRow_updL HI.out.2.1 (HN.out.2.2.2.2.2.step HJ.out.2) (by simp))
      have HBJ:=Lib.hid bJ
      have hni:¬ ((a.next.length:Int)<a.next.length):=by omega
      have HK:=Lib.hid (show k+1+1≤1000 by have:=HLW.out.2;omega)
      clear bJ hl
      generalize hxx:leftN a (k+1) s=xx at *
      have HXX:=Lib.hid hxx
      clear hxx
      go_wp2_with (refine wpList_push rfl rfl _ _ _ _ rfl rfl rfl 4 1 1 _ Tryz.underlying29 infoBool rfl (by decide) (by decide) (.bool xx) [.bool xx] rfl rfl rfl (by simp [Value.oneCell']) lv _ _ HLV.out rfl rfl (by have:=HK.out;unfold maxLen;omega) (by have:=HK.out;omega) ?_;intro g7 c7 w7 o7 u7 k7)
      have hz:=HUZ.out.size
      refine ⟨⟨k+1,_,_,rfl,rfl,by go_num,by omega,Lib.hid ⟨?_,?_,fun q hq=>?_,fun q hq=>?_,HUZ.out.fresh u7 (fun b hb=>.inr (HI.out.2.2.1 b (by simpa using hb)))⟩⟩,by simp [intOf];omega⟩
      ·have h1:=SL.of_blk (pad:=[]) (k:=1) (n:=a.next.length) (cap:=a.next.length) (xs:=bools (nowL a (k+1))) (by simpa using HBJ.out) (by simp [bools,nowL]) (Nat.le_refl _) (by have:=HLW.out.1;unfold maxLen;omega)
       refine h1.upd u7 (fun b hb hn=>?_)
       simp only [Value.ownBlock,Option.some.injEq] at hn
       subst hn
       have:=HN.out.2.2.2.1 nb (by simpa using hb)
       have:=HNB.out
       omega
      ·rw [resL_succ a s (k+1),show leftN a (k+1) s=xx from HXX.out]
       simpa [bools] using o7
      ·simp only [Value.ownBlock,Option.some.injEq] at hq
       subst hq
       rcases k7 with h|h
       ·exact HI.out.2.2.1 _ h
       ·omega
      ·simp only [Value.ownBlock,Option.some.injEq] at hq ⊢
       subst hq
       intro h2
       simp only [Option.some.injEq] at h2
       subst h2
       rcases k7 with h|h
       ·have:=HN.out.2.2.2.1 _ h;have:=HNB.out;omega
       ·have:=HBJ.out.lt;omega
   ·have hke:k=m:=by omega
    subst hke
    have hkn:¬ ((k:Int)<k):=by omega
    go_wp2_with fail
    go_ret2
    rw [HE.out.1,HE.out.2]
    refine ⟨_,rfl,?_,HU2.out.step HI.out.2.2.2.2,fun q hq=>Nat.le_trans HU2.out.size (HI.out.2.2.1 q hq)⟩
    rw [Int.toNat_natCast,Int.toNat_natCast,resL_len]
    exact SL.of_owns HI.out.2.1
 ·have HE:=Lib.hid (show leftE a st most=vErr a∧leftR a st most=[] by unfold leftE leftR;rw [if_pos he,if_pos he];exact ⟨rfl,rfl⟩)
  have hb:(vErr a != 0)=true:=by simpa using he
  clear he
  generalize vErr a=er at *
  go_wp2_with ((with_reducible refine HVC.out.mono ?_);rintro e w2 ⟨rfl,u2⟩)
  go_ret2
  rw [HE.out.1,HE.out.2]
  exact ⟨_,rfl,nil_bools,HU.out.step u2,by simp [Value.ownBlock]⟩
theorem Left_calls {a:Au} {st most:Int} (h:AuV w a v):Calls Tryz.prog 27 #[v,.int .i64 st,.int .i64 most] w fun e w'=>∃ v',e=.returned (.tuple #[v',.int .i64 (leftE a st most)])∧SL w' 1 v' (leftR a st most).length (bools (leftR a st most))∧Upd [] w w':=
 (Left_callsF h).mono fun _ _ ⟨v',h1,h2,h3,_⟩=>⟨v',h1,h2,h3⟩
set_option maxRecDepth 100000 in
theorem Lengths_calls {a:Au} {most:Int} (h:AuV w a v):Calls Tryz.prog 24 #[v,.int .i64 most] w fun e w'=>∃ v',e=.returned (.tuple #[v',.int .i64 (leftE a 0 most)])∧SL w' 1 v' (leftR a 0 most).length (bools (leftR a 0 most))∧Upd [] w w':=by
 obtain ⟨a1,c1,a2,c2,a3,c3,rfl,hF⟩:=h.shape
 have HF:=Lib.hid hF
 clear h hF
 go_enter Tryz.func24,Tryz.ntmps24
 go_upto_region 1 with fail
 have bA:=Blk.new w [.slice a1 a.cuts.length c1,.slice a2 a.next.length c2,.slice a3 a.acc.length c3] 31
 have uA:=(Upd.refl [] w).alloc (.cells #[.slice a1 a.cuts.length c1,.slice a2 a.next.length c2,.slice a3 a.acc.length c3] 31)
 change Blk (w.alloc (.cells #[.slice a1 a.cuts.length c1,.slice a2 a.next.length c2,.slice a3 a.acc.length c3] 31)) _ _ _ at bA
 generalize (w.alloc (.cells #[.slice a1 a.cuts.length c1,.slice a2 a.next.length c2,.slice a3 a.acc.length c3] 31))=w1 at *
 have k0:=bA.cell (i:=0) rfl
 have k1:=bA.cell (i:=1) rfl
 have k2:=bA.cell (i:=2) rfl
 have HU:=Lib.hid uA
 have HC:=Lib.hid (Left_calls (st:=0) (most:=most) (v:=.agg #[.slice a1 a.cuts.length c1,.slice a2 a.next.length c2,.slice a3 a.acc.length c3]) ⟨_,rfl,HF.out.ext uA⟩)
 clear bA uA
 generalize w.heap.size=pb at *
 go_wp2_with ((with_reducible refine HC.out.mono ?_);rintro e w2 ⟨v2,rfl,h2,u2⟩)
 go_ret2
 exact ⟨_,rfl,h2,HU.out.step u2⟩
end
end Aut
end Go.Proofs.YtjclbjdkkdijbaaGreat
end
