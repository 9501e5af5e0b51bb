/- Walks through package auto: Complement. Conditions: none. -/
import Derived.Test.YtjclbjdkkdijbaaGreatAuZb
set_option linter.unusedVariables false
set_option linter.unusedSimpArgs false
set_option linter.unusedSectionVars false
open Go.RowKit
namespace Go.Proofs.YtjclbjdkkdijbaaGreat
open L
namespace Aut
open Auto
attribute [-go_sem] sliced
/-- What Complement returns. -/
def compA (a : Au) : Au := if vErr a ≠ 0 then noA else ⟨a.cuts, a.next, a.acc.map not⟩
/-- The result of Complement after so many states, in its box cb = w0.heap.size. -/
structure Cp (w0 : World) (a : Au) (cb i j : Nat) (cv nv av : Value) (F : List Nat) (w : World) : Prop where
  bx : Blk w cb [cv, nv, av] 31
  tb : OwnL 22 w0 nv (a.next.take i) F w
  ac : w.ownsRow 0 4 1 av j (bools ((a.acc.take j).map not))
  an : ∀ q, av.ownBlock = some q → w0.heap.size ≤ q ∧ q ≠ cb ∧ q ∉ F ∧ nv.ownBlock ≠ some q
  cn : cb ∉ F ∧ nv.ownBlock ≠ some cb ∧ w0.heap.size ≤ cb
  u : Upd [] w0 w
  fn : ∀ b ∈ F, w0.heap.size ≤ b
section
variable {w0 w w' : World} {a : Au} {cb i j : Nat} {cv nv av : Value} {F : List Nat}
theorem Cp.quiet (h : Cp w0 a cb i j cv nv av F w) (hu : Upd [] w w') : Cp w0 a cb i j cv nv av F w' :=
  ⟨h.bx.upd hu (by simp), h.tb.upd hu (by simp), ownsRow_updL h.ac hu (by simp), h.an, h.cn, h.u.step hu, h.fn⟩
end
section
variable {w w' : World} {v : Value}
set_option maxRecDepth 100000 in
set_option maxHeartbeats 16000000 in
theorem Complement_calls {a : Au} (h : AuV w a v) : Calls Tryz.prog 36 #[v] w fun e w' => ∃ v', e = .returned (.tuple #[v', .int .i64 (vErr a)]) ∧ AuV w' (compA a) v' ∧ Upd [] w w' := by
  obtain ⟨a1, c1, a2, c2, a3, c3, rfl, hF⟩ := h.shape
  have HF := Lib.hid hF
  clear h hF
  go_enter Tryz.func36, Tryz.ntmps36
  go_upto_region 1 with fail
  have b1 := (Blk.new w [.slice a1 a.cuts.length c1, .slice a2 a.next.length c2, .slice a3 a.acc.length c3] 31).alloc (.cells #[.slice none 0 0, .slice none 0 0, .slice none 0 0] 31)
  have b2 := Blk.new (w.alloc (.cells #[.slice a1 a.cuts.length c1, .slice a2 a.next.length c2, .slice a3 a.acc.length c3] 31)) [.slice none 0 0, .slice none 0 0, .slice none 0 0] 31
  have u1 := ((Upd.refl [] w).alloc (.cells #[.slice a1 a.cuts.length c1, .slice a2 a.next.length c2, .slice a3 a.acc.length c3] 31)).alloc (.cells #[.slice none 0 0, .slice none 0 0, .slice none 0 0] 31)
  have z1 : (w.alloc (.cells #[.slice a1 a.cuts.length c1, .slice a2 a.next.length c2, .slice a3 a.acc.length c3] 31)).heap.size = w.heap.size + 1 := by simp
  rw [z1] at b2
  change Blk ((w.alloc (.cells #[.slice a1 a.cuts.length c1, .slice a2 a.next.length c2, .slice a3 a.acc.length c3] 31)).alloc (.cells #[.slice none 0 0, .slice none 0 0, .slice none 0 0] 31)) _ _ _ at b1
  change Blk ((w.alloc (.cells #[.slice a1 a.cuts.length c1, .slice a2 a.next.length c2, .slice a3 a.acc.length c3] 31)).alloc (.cells #[.slice none 0 0, .slice none 0 0, .slice none 0 0] 31)) _ _ _ at b2
  generalize ((w.alloc (.cells #[.slice a1 a.cuts.length c1, .slice a2 a.next.length c2, .slice a3 a.acc.length c3] 31)).alloc (.cells #[.slice none 0 0, .slice none 0 0, .slice none 0 0] 31)) = w1 at *
  have k0 := b1.cell (i := 0) rfl
  have k1 := b1.cell (i := 1) rfl
  have k2 := b1.cell (i := 2) rfl
  have HB := Lib.hid (And.intro b2 u1)
  have HVC := Lib.hid (Valid_calls (v := .agg #[.slice a1 a.cuts.length c1, .slice a2 a.next.length c2, .slice a3 a.acc.length c3]) ⟨_, rfl, HF.out.ext u1⟩)
  clear b1 b2 u1 z1
  generalize hpa : w.heap.size = pa at *
  have HPA := Lib.hid hpa
  clear hpa
  by_cases he : vErr a = 0
  · have HOK := Lib.hid (And.intro (vErr_ok he) he)
    have HE := Lib.hid (show compA a = ⟨a.cuts, a.next, a.acc.map not⟩ by unfold compA; rw [if_neg (by simpa using he)])
    rw [he] at HVC
    clear he
    go_upto_region 4 with ((with_reducible refine HVC.out.mono ?_); rintro e w2 ⟨rfl, u2⟩)
    have HU2 := Lib.hid (HB.out.2.step u2)
    have g0 := u2.some k0 (by simp)
    have g1 := u2.some k1 (by simp)
    have g2 := u2.some k2 (by simp)
    have HB2 := Lib.hid (HB.out.1.upd u2 (by simp))
    clear k0 k1 k2 u2
    have hsl : SL w2 1 (.slice a1 a.cuts.length c1) a.cuts.length (ints a.cuts) := by
      obtain ⟨cv, nv, av, he, h3, _, _⟩ := HF.out
      cases he
      exact h3.upd HU2.out (by simp)
    have hle := hsl.elems
    have HCL := Lib.hid (CloneI_calls hsl (by have := cuts_len HOK.out.1; omega))
    clear hsl hle
    go_upto_region 5 with ((with_reducible refine HCL.out.mono ?_); rintro e w3 ⟨an, cn, rfl, o3⟩)
    have bC := Blk.new w3 [.slice an a.cuts.length cn, .slice none 0 0, .slice none 0 0] 31
    have uC := (Upd.refl [] w3).alloc (.cells #[.slice an a.cuts.length cn, .slice none 0 0, .slice none 0 0] 31)
    change Blk (w3.alloc (.cells #[.slice an a.cuts.length cn, .slice none 0 0, .slice none 0 0] 31)) _ _ _ at bC
    have j1 := (o3.fresh.step uC).some g1 (by simp)
    have H3 := Lib.hid (And.intro o3.sl (And.intro (HU2.out.step o3.fresh) (And.intro (HB2.out.upd o3.fresh (by simp)) o3.fresh)))
    have HCO := Lib.hid (show ∀ q, (Value.slice an a.cuts.length cn).ownBlock = some q → w2.heap.size ≤ q from fun q hq => by
      rcases o3.old q hq with h | h
      · simp [Value.ownBlock] at h
      · exact h)
    have HSZ := Lib.hid (And.intro HB2.out.lt o3.fresh.size)
    generalize (w3.alloc (.cells #[.slice an a.cuts.length cn, .slice none 0 0, .slice none 0 0] 31)) = w4 at *
    have HC := Lib.hid (And.intro bC uC)
    clear bC uC o3
    have HZ := Lib.hid (Nat.le_refl w3.heap.size)
    go_wp2_with fail
    have HCB : ∃ cb, w3.heap.size = cb := ⟨_, rfl⟩
    obtain ⟨cb, hcb⟩ := HCB
    rw [hcb] at HC ⊢
    have HLE := Lib.hid (Nat.le_of_eq hcb)
    clear hcb HZ
    go_loopw [21] (fun kv wr => ∃ (i : Nat) (nv av : Value) (F : List Nat), kv = .int .i64 i ∧ i ≤ a.next.length ∧ Hid (Cp w3 a cb i i (.slice an a.cuts.length cn) nv av F wr)) (fun kv _ => a.next.length - (intOf kv).toNat)
    case atStart => exact ⟨0, _, _, [], rfl, Nat.zero_le _, Lib.hid ⟨HC.out.1, OwnL.nil _ _ _, World.ownsRow_nil _ _ _ _, fun q hq => by simp [Value.ownBlock] at hq, ⟨by simp, by simp [Value.ownBlock], HLE.out⟩, HC.out.2, by simp⟩⟩
    case round =>
      obtain ⟨i, nv, av, F, rfl, hi, HI⟩ := hrel
      by_cases hlt : i < a.next.length
      · have hli : (i : Int) < a.next.length := by omega
        obtain ⟨g, off, ar, cr, he, hc, hrow⟩ := (HF.out.ext HU2.out).row hlt
        cases he
        have HROW := Lib.hid (And.intro (HOK.out.1.rows _ (gd_memA (d := []) hlt)).1 (And.intro (cuts_len HOK.out.1) (show a.next.take (i + 1) = a.next.take i ++ [a.next.getD i []] by rw [List.take_add_one, gd_some (d := []) hlt]; rfl)))
        generalize a.next.getD i [] = row at *
        have hc' := (H3.out.2.2.2.step HI.out.u)
        have HRO := Lib.hid (show SL wr 1 (.slice ar row.length cr) row.length (ints row) from hrow.upd hc' (by simp))
        have hcc : wr.cell? ⟨g, off + i, none⟩ = some (.slice ar row.length cr) := HI.out.u.some (H3.out.2.2.2.some hc (by simp)) (by simp)
        have q1 := HI.out.bx.cell (i := 1) rfl
        have q2 := HI.out.bx.cell (i := 2) rfl
        clear hc hrow hc'
        go_upto_region 8 with fail
        go_cut [] (fun w' => ∃ nv' F', Cp w3 a cb (i + 1) i (.slice an a.cuts.length cn) nv' av F' w')
        case first =>
          obtain ⟨vals, hv1, hv2⟩ := HI.out.tb.ex
          have HV := Lib.hid (And.intro hv1 hv2)
          have hfew := HOK.out.1.few
          have HTK := Lib.hid (show (a.next.take i).length ≤ 256 by rw [List.length_take]; omega)
          clear hv1 hv2 hfew
          have HCR := Lib.hid (fun (w5 : World) (u5 : Upd [] wr w5) => CloneI_calls (HRO.out.upd u5 (by simp)) (by have := HROW.out.1; have := HROW.out.2.1; omega))
          go_wp2_with fail
          refine wp_region_ord 5 1 [0, 1, 2, 6] [1] [0, 1, 2, 3, 4, 5, 6, 7] (fun w' => ∃ x : Ext wr, w' = x.val) (by kernel_rfl) (by kernel_rfl) (Ext.of (by iterate 25 (first | exact Upd.refl _ _ | assumption | refine Upd.alloc ?_ _ | refine Upd.drew ?_ | refine Upd.drewN ?_ _ | refine Upd.dl ?_ | refine Upd.step ?_ (Ext.upd _) | refine Upd.nil ?_ | skip))) ?_
          repeat (first | (refine wpOrd_load rfl rfl rfl rfl (fun K hK => ?_); go_big_quiet_step (fail); refine wpQuiet_nil ?_; refine hK _ ?_; clear hK K) | (refine wpOrd_free rfl rfl rfl (fun K hK => ?_); go_big_quiet_step (fail); refine wpQuiet_nil ?_; refine hK _ ?_; clear hK K))
          refine wpOrd_fix rfl rfl (fun K hK => ?_)
          go_wp2_with ((with_reducible refine (HCR.out _ (by iterate 25 (first | exact Upd.refl _ _ | assumption | refine Upd.alloc ?_ _ | refine Upd.drew ?_ | refine Upd.drewN ?_ _ | refine Upd.dl ?_ | refine Upd.step ?_ (Ext.upd _) | refine Upd.nil ?_ | skip))).mono ?_); rintro e w6 ⟨a6, c6, rfl, o6⟩)
          have HO6 := Lib.hid (And.intro o6 (show Upd [] wr w6 from Upd.step (by iterate 25 (first | exact Upd.refl _ _ | assumption | refine Upd.alloc ?_ _ | refine Upd.drew ?_ | refine Upd.drewN ?_ _ | refine Upd.dl ?_ | refine Upd.step ?_ (Ext.upd _) | refine Upd.nil ?_ | skip)) o6.fresh))
          clear o6
          refine ⟨fun _ => Ext.of HO6.out.2, ?_⟩
          repeat (first | (refine wpOrd_load rfl rfl rfl rfl (fun K hK => ?_); go_big_quiet_step (fail); refine wpQuiet_nil ?_; refine hK _ ?_; clear hK K) | (refine wpOrd_free rfl rfl rfl (fun K hK => ?_); go_big_quiet_step (fail); refine wpQuiet_nil ?_; refine hK _ ?_; clear hK K))
          refine wpOrd_fix rfl rfl (fun K hK => ?_)
          go_wp2_with fail
          have HNB2 := Lib.hid (show Blk (w6.alloc (.cells #[.slice a6 row.length c6] 22)) w6.heap.size [.slice a6 row.length c6] 22 ∧ Upd [] w6 (w6.alloc (.cells #[.slice a6 row.length c6] 22)) from ⟨Blk.new w6 _ _, (Upd.refl [] w6).alloc _⟩)
          generalize (w6.alloc (.cells #[.slice a6 row.length c6] 22)) = wB at *
          generalize w6.heap.size = gB at *
          have HUB := Lib.hid (HO6.out.2.step HNB2.out.2)
          refine ⟨fun _ => Ext.of HUB.out, ?_⟩
          repeat (first | (refine wpOrd_load rfl rfl rfl rfl (fun K hK => ?_); go_big_quiet_step (fail); refine wpQuiet_nil ?_; refine hK _ ?_; clear hK K) | (refine wpOrd_free rfl rfl rfl (fun K hK => ?_); go_big_quiet_step (fail); refine wpQuiet_nil ?_; refine hK _ ?_; clear hK K))
          refine wpOrd_fix rfl rfl (fun K hK => ?_)
          refine wpList_app rfl _ _ _ rfl 22 1 24 _ Tryz.underlying28 infoInts rfl (by decide) nv _ _ rfl (ownsRow_updL HV.out.1.row HUB.out (by simp)) gB 1 1 [.slice a6 row.length c6] 22 rfl rfl HNB2.out.1 (by simp [Value.oneCell']) (by omega) (by have := HTK.out; unfold maxLen; omega) (by have := HTK.out; omega) ?_
          intro g7 c7 w7 o7 u7 k7
          simp only [Act.put, List.setIfInBounds_toArray, List.set_cons_zero, List.set_cons_succ]
          have bx7 : Blk w7 cb [.slice an a.cuts.length cn, nv, av] 31 := (HI.out.bx.upd HUB.out (by simp)).upd u7 (fun hm => HI.out.cn.2.1 (by simpa using hm))
          have q1' := bx7.cell (i := 1) rfl
          have f1' : ∀ q, w7.frozen? ⟨cb, q, none⟩ = false := bx7.free
          have H7 := Lib.hid (And.intro o7 (And.intro u7 (And.intro k7 bx7)))
          clear o7 u7 k7 bx7 q1
          go_wp2_with fail
          refine ⟨fun hC => absurd hC (by decide), ?_⟩
          repeat (first | (refine wpOrd_load rfl rfl rfl rfl (fun K hK => ?_); go_big_quiet_step (fail); refine wpQuiet_nil ?_; refine hK _ ?_; clear hK K) | (refine wpOrd_free rfl rfl rfl (fun K hK => ?_); go_big_quiet_step (fail); refine wpQuiet_nil ?_; refine hK _ ?_; clear hK K))
          refine wpOrd_fix rfl rfl (fun K hK => ?_)
          go_wp2_with fail
          refine ⟨fun hC => absurd hC (by decide), ?_⟩
          refine wpOrd_nil ?_
          go_wp2_with fail
          go_meet
          case rel =>
            have hti : (a.next.take i).length = i := by rw [List.length_take]; omega
            have hyf : ∀ b, (Value.slice a6 row.length c6).ownBlock = some b → wr.heap.size ≤ b := fun b hb => by
              rcases HO6.out.1.old b hb with h | h
              · simp [Value.ownBlock] at h
              · exact Nat.le_trans (Nat.le_of_eq rfl) h
            have htb := (HI.out.tb.upd HUB.out (by simp)).push (HV.out.1.upd HUB.out (by simp)) (fun i c hc => by
              obtain ⟨y, h1, h2, h3⟩ := HV.out.2 i c hc
              exact ⟨y, h1, h2.upd HUB.out (by simp), h3⟩) (by have := HI.out.u.size; have := HUB.out.size; omega) (c := row) (y := .slice a6 row.length c6) (HO6.out.1.sl.upd HNB2.out.2 (by simp)) (fun b hb => ⟨fun hn => by have := HI.out.tb.own_lt b hn; have := hyf b hb; omega, by have := HO6.out.1.lt hb; have := HNB2.out.2.size; omega⟩) H7.out.1 H7.out.2.1 (H7.out.2.2.1.imp id fun h => Nat.le_of_eq h.symm)
            rw [← HROW.out.2.2, hti] at htb
            have us : Upd [cb] w7 (w7.setCell ⟨cb, 1, none⟩ (.slice (some ⟨g7, 0, none⟩) (i + 1) c7)) := (Upd.refl [cb] w7).set (p := ⟨cb, 1, none⟩) (by simp) _
            have hcl := HI.out.bx.lt
            have hcF : ∀ b ∈ (Value.slice a6 row.length c6).ownBlock.toList, wr.heap.size ≤ b := fun b hb => hyf b (by simpa using hb)
            have hg7 : nv.ownBlock = some g7 ∨ wr.heap.size ≤ g7 := H7.out.2.2.1.imp id fun h => by have := HUB.out.size; omega
            have hzz := HI.out.u.size
            have hgc : g7 ≠ cb := fun e => by
              rcases hg7 with h | h
              · exact HI.out.cn.2.1 (e ▸ h)
              · omega
            refine ⟨_, F ++ (Value.slice a6 row.length c6).ownBlock.toList, H7.out.2.2.2.set 1 _, htb.upd us (fun b hb => ?_), ?_, fun q hq => ?_, ⟨?_, ?_, HI.out.cn.2.2⟩, ?_, fun b hb => ?_⟩
            · simp at hb; subst hb
              refine ⟨fun hf => ?_, fun hv => hgc (by simpa [Value.ownBlock] using hv)⟩
              rcases List.mem_append.1 hf with h | h
              · exact HI.out.cn.1 h
              · have := hcF _ h; omega
            · exact ownsRow_updL (ownsRow_updL (ownsRow_updL HI.out.ac HUB.out (by simp)) H7.out.2.1 (fun b hb hv => (HI.out.an _ hv).2.2.2 (by simpa using hb))) us (fun b hb hv => (HI.out.an _ hv).2.1 (by simpa using hb))
            · obtain ⟨h1, h2, h3, h4⟩ := HI.out.an q hq
              have hql := (HI.out.ac.lt q hq).2
              refine ⟨h1, h2, fun hm => ?_, fun he => ?_⟩
              · rcases List.mem_append.1 hm with h | h
                · exact h3 h
                · have := hcF _ h; omega
              · simp [Value.ownBlock] at he; subst he
                rcases hg7 with h | h
                · exact h4 h
                · omega
            · intro hm
              rcases List.mem_append.1 hm with h | h
              · exact HI.out.cn.1 h
              · have := hcF _ h; omega
            · exact fun hv => hgc (by simpa [Value.ownBlock] using hv)
            · exact ((HI.out.u.step HUB.out).fresh H7.out.2.1 (fun b hb => .inr (HV.out.1.fresh _ (by simpa using hb)))).fresh us (fun b hb => .inr (by simp at hb; subst hb; exact HI.out.cn.2.2))
            · rcases List.mem_append.1 hb with h | h
              · exact HI.out.fn _ h
              · have := hcF _ h; omega
        case rest => 
          obtain ⟨nv', F', hC⟩ := hcut
          have HC2 := Lib.hid hC
          clear hC
          have hia : i < a.acc.length := by rw [HOK.out.1.acc]; exact hlt
          obtain ⟨g3, off3, he3, hacc⟩ := (HF.out.ext HU2.out).acc hia
          cases he3
          have hac' : wc.cell? ⟨g3, off3 + i, none⟩ = some (.bool (a.acc.getD i false)) := HC2.out.u.some (H3.out.2.2.2.some hacc (by simp)) (by simp)
          have hp2 : wc.cell? ⟨pa, 2, none⟩ = some (.slice (some ⟨g3, off3, none⟩) a.acc.length c3) := HC2.out.u.some (H3.out.2.2.2.some g2 (by simp)) (by simp)
          have q2 := HC2.out.bx.cell (i := 2) rfl
          have HBI := Lib.hid (show (a.acc.take (i + 1)).map not = (a.acc.take i).map not ++ [!a.acc.getD i false] by
            rw [List.take_add_one, gd_some (d := false) hia]; simp)
          clear hacc
          generalize a.acc.getD i false = bi at *
          go_wp2_with fail
          refine wp_region_ord 9 6 [0, 1, 2, 3, 4, 5, 6, 7, 10] [1, 3, 6] [0, 1, 2, 3, 4, 5, 6, 7, 8, 9, 10, 11] (fun w' => ∃ x : Ext wc, w' = x.val) (by kernel_rfl) (by kernel_rfl) (Ext.of (by iterate 25 (first | exact Upd.refl _ _ | assumption | refine Upd.alloc ?_ _ | refine Upd.drew ?_ | refine Upd.drewN ?_ _ | refine Upd.dl ?_ | refine Upd.step ?_ (Ext.upd _) | refine Upd.nil ?_ | skip))) ?_
          repeat (first | (refine wpOrd_load rfl rfl rfl rfl (fun K hK => ?_); go_big_quiet_step (fail); refine wpQuiet_nil ?_; refine hK _ ?_; clear hK K) | (refine wpOrd_free rfl rfl rfl (fun K hK => ?_); go_big_quiet_step (fail); refine wpQuiet_nil ?_; refine hK _ ?_; clear hK K))
          refine wpOrd_fix rfl rfl (fun K hK => ?_)
          go_wp2_with fail
          have HNB3 := Lib.hid (show Blk ((wc.alloc (.cells #[.bool !bi] 4)).drew) wc.heap.size [.bool !bi] 4 ∧ Upd [] wc ((wc.alloc (.cells #[.bool !bi] 4)).drew) from ⟨Blk.new wc [.bool !bi] 4, (by iterate 25 (first | exact Upd.refl _ _ | assumption | refine Upd.alloc ?_ _ | refine Upd.drew ?_ | refine Upd.drewN ?_ _ | refine Upd.dl ?_ | refine Upd.step ?_ (Ext.upd _) | refine Upd.nil ?_ | skip))⟩)
          have HGB := Lib.hid (Nat.le_refl wc.heap.size)
          generalize ((wc.alloc (.cells #[.bool !bi] 4)).drew) = wB at *
          generalize wc.heap.size = gB at HNB3 HGB ⊢
          have hi6 : i ≤ 256 := by have := HOK.out.1.few; omega
          refine ⟨fun _ => Ext.of HNB3.out.2, ?_⟩
          repeat (first | (refine wpOrd_load rfl rfl rfl rfl (fun K hK => ?_); go_big_quiet_step (fail); refine wpQuiet_nil ?_; refine hK _ ?_; clear hK K) | (refine wpOrd_free rfl rfl rfl (fun K hK => ?_); go_big_quiet_step (fail); refine wpQuiet_nil ?_; refine hK _ ?_; clear hK K))
          refine wpOrd_fix rfl rfl (fun K hK => ?_)
          refine wpList_app rfl _ _ _ rfl 4 1 1 _ Tryz.underlying29 infoBool rfl (by decide) av _ _ rfl (ownsRow_updL HC2.out.ac HNB3.out.2 (by simp)) gB 1 1 [.bool !bi] 4 rfl rfl HNB3.out.1 (by simp [Value.oneCell']) (by omega) (by unfold maxLen; omega) (by omega) ?_
          intro g7 c7 w7 o7 u7 k7
          simp only [Act.put, List.setIfInBounds_toArray, List.set_cons_zero, List.set_cons_succ]
          have bx7 := (HC2.out.bx.upd HNB3.out.2 (by simp)).upd u7 (fun hm => (HC2.out.an cb (by simpa using hm)).2.1 rfl)
          have q2' := bx7.cell (i := 2) rfl
          have f2' : ∀ q, w7.frozen? ⟨cb, q, none⟩ = false := bx7.free
          have H7 := Lib.hid (And.intro o7 (And.intro u7 (And.intro k7 bx7)))
          clear o7 u7 k7 bx7 q2
          go_wp2_with fail
          refine ⟨fun hC => absurd hC (by decide), ?_⟩
          repeat (first | (refine wpOrd_load rfl rfl rfl rfl (fun K hK => ?_); go_big_quiet_step (fail); refine wpQuiet_nil ?_; refine hK _ ?_; clear hK K) | (refine wpOrd_free rfl rfl rfl (fun K hK => ?_); go_big_quiet_step (fail); refine wpQuiet_nil ?_; refine hK _ ?_; clear hK K))
          refine wpOrd_fix rfl rfl (fun K hK => ?_)
          go_wp2_with fail
          refine ⟨fun hC => absurd hC (by decide), ?_⟩
          refine wpOrd_nil ?_
          go_wp2_with fail
          have us : Upd [cb] w7 (w7.setCell ⟨cb, 2, none⟩ (.slice (some ⟨g7, 0, none⟩) (i + 1) c7)) := (Upd.refl [cb] w7).set (p := ⟨cb, 2, none⟩) (by simp) _
          have hz1 := HNB3.out.2.size
          have hz2 := HC2.out.bx.lt
          have hz3 := HC2.out.u.size
          have hg7 : av.ownBlock = some g7 ∨ wc.heap.size ≤ g7 := H7.out.2.2.1.imp id fun h => by omega
          have hgc : g7 ≠ cb := fun e => by
            rcases hg7 with h | h
            · exact (HC2.out.an _ h).2.1 e
            · omega
          refine ⟨⟨i + 1, nv', _, F', by go_num, by omega, Lib.hid ⟨H7.out.2.2.2.set 2 _, ((HC2.out.tb.upd HNB3.out.2 (by simp)).upd H7.out.2.1 (fun b hb => ?_)).upd us (fun b hb => ?_), ?_, fun q hq => ?_, HC2.out.cn, ((HC2.out.u.step HNB3.out.2).fresh H7.out.2.1 (fun b hb => .inr (HC2.out.an b (by simpa using hb)).1)).fresh us (fun b hb => .inr (by simp at hb; subst hb; exact HC2.out.cn.2.2)), HC2.out.fn⟩⟩, by simp [intOf]; omega⟩
          · have := HC2.out.an b (by simpa using hb)
            exact ⟨this.2.2.1, this.2.2.2⟩
          · simp at hb; subst hb; exact ⟨HC2.out.cn.1, HC2.out.cn.2.1⟩
          · have h1 := ownsRow_updL H7.out.1 us (fun b hb hv => by simp at hb; subst hb; simp [Value.ownBlock] at hv; exact hgc hv)
            rw [HBI.out]
            simpa [bools] using h1
          · simp only [Value.ownBlock, Option.some.injEq] at hq
            subst hq
            rcases hg7 with h | h
            · exact HC2.out.an _ h
            · refine ⟨by omega, hgc, fun hf => ?_, fun hv => ?_⟩
              · have := HC2.out.tb.lt _ hf; omega
              · have := HC2.out.tb.own_lt _ hv; omega
      · have hie : i = a.next.length := by omega
        subst hie
        have hni : ¬ ((a.next.length : Int) < a.next.length) := by omega
        obtain ⟨vals, hv1, hv2⟩ := id HI.out.tb.ex
        obtain ⟨a2', c2', rfl, _⟩ := id HI.out.tb.cl.form
        obtain ⟨a3', c3', rfl, _⟩ := id (SL.of_owns HI.out.ac).elems
        have q0 := HI.out.bx.cell (i := 0) rfl
        have q1 := HI.out.bx.cell (i := 1) rfl
        have q2 := HI.out.bx.cell (i := 2) rfl
        have bR := H3.out.2.2.1.upd HI.out.u (by simp)
        have r0 := bR.cell (i := 0) rfl
        have r1 := bR.cell (i := 1) rfl
        have r2 := bR.cell (i := 2) rfl
        have rf : ∀ q, wr.frozen? ⟨pa + 1, q, none⟩ = false := bR.free
        have HBR := Lib.hid bR
        clear bR hv1 hv2
        go_wp2_with fail
        have hs := cell3_set (a := .slice an a.cuts.length cn) (b := .slice a2' a.next.length c2') (c := .slice a3' a.next.length c3') HBR.out
        have z1 := HSZ.out.1
        have z2 := HSZ.out.2
        rw [HE.out, HOK.out.2]
        refine ret_au2 rfl rfl rfl hs.1 rfl ⟨_, _, _, rfl, ?_, ?_, ?_⟩ ((H3.out.2.1.step HI.out.u).fresh hs.2 (fun b hb => .inr (by simp at hb; subst hb; have := HPA.out; omega)))
        · exact (H3.out.1.upd HI.out.u (by simp)).upd hs.2 (fun b hb hv => by simp at hb; subst hb; have := HCO.out _ hv; omega)
        · have h1 := (HI.out.tb.upd hs.2 (fun b hb => by
            simp at hb; subst hb
            refine ⟨fun hf => ?_, fun hv => ?_⟩
            · have := HI.out.fn _ hf; omega
            · obtain ⟨vals, h1, _⟩ := HI.out.tb.ex
              have := h1.fresh _ hv; omega)).cl
          rw [List.take_length] at h1
          simpa using h1
        · have h1 := SL.of_owns (ownsRow_updL HI.out.ac hs.2 (fun b hb hv => by simp at hb; subst hb; have := (HI.out.an _ hv).1; omega))
          rw [List.take_of_length_le (by rw [HOK.out.1.acc]; exact Nat.le_refl _)] at h1
          simpa [HOK.out.1.acc] using h1
  · have hb : (vErr a != 0) = true := by simpa using he
    have HE := Lib.hid (show compA a = noA by unfold compA; rw [if_pos he])
    clear he
    generalize her : vErr a = er at HVC hb
    have HER := Lib.hid her
    clear her
    go_wp2_with ((with_reducible refine HVC.out.mono ?_); rintro e w2 ⟨rfl, u2⟩; have bR := HB.out.1.upd u2 (by simp); have r0 := bR.cell (i := 0) rfl; have r1 := bR.cell (i := 1) rfl; have r2 := bR.cell (i := 2) rfl; have rf : ∀ q, w2.frozen? ⟨pa + 1, q, none⟩ = false := bR.free; have HBR := Lib.hid (And.intro bR u2); clear bR u2)
    have hs := cell3_set (a := .slice none 0 0) (b := .slice none 0 0) (c := .slice none 0 0) HBR.out.1
    rw [HE.out, HER.out]
    exact ret_au2 rfl rfl rfl hs.1 rfl noA_F ((HB.out.2.step HBR.out.2).fresh hs.2 (fun b hb => .inr (by simp at hb; subst hb; have := HPA.out; omega)))
end
end Aut
end Go.Proofs.YtjclbjdkkdijbaaGreat
