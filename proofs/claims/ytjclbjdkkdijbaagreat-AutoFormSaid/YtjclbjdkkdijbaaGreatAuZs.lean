/- Walks through the reference of automata: Same. Conditions: none. Walks through package auto: Complement. Conditions: none. Walks through the reference of automata: Made. Conditions: none. Walks through the law of chapter 05: lives. Conditions: none. What Both and Complement return, as plain data. Conditions: none. The least automata of two automata are equal exactly if nothing is accepted by just one of them: as plain data. Conditions: none. -/
import Derived.Test.YtjclbjdkkdijbaaGreatAuZb
import Derived.Test.YtjclbjdkkdijbaaGreatSame
import Derived.Test.YtjclbjdkkdijbaaGreatAuZc
import Derived.Test.YtjclbjdkkdijbaaGreatAuK
import Derived.Test.YtjclbjdkkdijbaaGreatReg3
import Derived.Test.YtjclbjdkkdijbaaGreatAuZd
import Derived.Test.YtjclbjdkkdijbaaGreatAuZr
import Derived.Test.YtjclbjdkkdijbaaGreatAutoY
set_option linter.unusedVariables false
set_option linter.unusedSimpArgs false
set_option linter.unusedSectionVars false
section
open Go.RowKit
namespace Go.Proofs.YtjclbjdkkdijbaaGreat
open L
namespace Aut
open Auto R01
attribute [-go_sem] sliced
theorem two_rows3 (w : World) (a0 a1 a2 b0 b1 b2 : Value) (T : TypeId) : ∃ w1, w1 = ((w.alloc (.cells #[a0, a1, a2] T)).alloc (.cells #[b0, b1, b2] T)) ∧ Blk w1 w.heap.size [a0, a1, a2] T ∧ Blk w1 (w.heap.size + 1) [b0, b1, b2] T ∧ Upd [] w w1 := by
  have s1 : (w.alloc (.cells #[a0, a1, a2] T)).heap.size = w.heap.size + 1 := by simp
  have h2 := Blk.new (w.alloc (.cells #[a0, a1, a2] T)) [b0, b1, b2] T
  rw [s1] at h2
  exact ⟨_, rfl, (Blk.new w [a0, a1, a2] T).alloc _, h2, ((Upd.refl [] w).alloc _).alloc _⟩
/-- What Same says of two automata. -/
def SameT (a b : Au) (w : World) (e : Ending) (w' : World) : Prop := ∃ x : Bool, e = .returned (.bool x) ∧ (x = true ↔ a = b) ∧ Upd [] w w'
theorem SameT.no {a b : Au} {w w' : World} (h : a ≠ b) (u : Upd [] w w') : SameT a b w (.returned (.bool false)) w' := ⟨false, rfl, by simp [h], u⟩
theorem SameT.yes {a b : Au} {w w' : World} (h : a = b) (u : Upd [] w w') : SameT a b w (.returned (.bool true)) w' := ⟨true, rfl, by simp [h], u⟩
theorem step_rel {a b : Au} {s : Nat} (h : ∀ j, j < s → a.next.getD j [] = b.next.getD j [] ∧ (j < a.acc.length → a.acc.getD j false = b.acc.getD j false)) (h1 : a.next.getD s [] = b.next.getD s []) (h2 : s < a.acc.length → a.acc.getD s false = b.acc.getD s false) :
    ∀ j, j < s + 1 → a.next.getD j [] = b.next.getD j [] ∧ (j < a.acc.length → a.acc.getD j false = b.acc.getD j false) := fun j hj => by
  rcases Nat.lt_or_ge j s with h3 | h3
  · exact h j h3
  · have : j = s := by omega
    subst this
    exact ⟨h1, h2⟩
theorem au_ext {a b : Au} (h1 : a.cuts = b.cuts) (h2 : a.next.length = b.next.length) (h3 : a.acc.length = b.acc.length) (h4 : ∀ j, j < a.next.length → a.next.getD j [] = b.next.getD j []) (h5 : ∀ j, j < a.acc.length → a.acc.getD j false = b.acc.getD j false) : a = b := by
  have e1 : a.next = b.next := List.ext_getElem h2 fun i p q => by
    have := h4 i p
    rw [List.getD_eq_getElem?_getD, List.getD_eq_getElem?_getD, List.getElem?_eq_getElem p, List.getElem?_eq_getElem q] at this
    exact this
  have e2 : a.acc = b.acc := List.ext_getElem h3 fun i p q => by
    have := h5 i p
    rw [List.getD_eq_getElem?_getD, List.getD_eq_getElem?_getD, List.getElem?_eq_getElem p, List.getElem?_eq_getElem q] at this
    exact this
  cases a; cases b
  simp_all
section
variable {w w' : World} {v v2 : Value}
set_option maxRecDepth 100000 in
set_option maxHeartbeats 16000000 in
theorem SameA_calls {a b : Au} (ha : AuV w a v) (hb : AuV w b v2) : Calls Tryz.prog 16 #[v, v2] w (SameT a b w) := by
  obtain ⟨a1, c1, a2, c2, a3, c3, rfl, hF⟩ := ha.shape
  obtain ⟨b1, d1, b2, d2, b3, d3, rfl, hG⟩ := hb.shape
  have HF := Lib.hid hF
  have HG := Lib.hid hG
  obtain ⟨w1, hw1, e1, e2, u1⟩ := two_rows3 w (.slice a1 a.cuts.length c1) (.slice a2 a.next.length c2) (.slice a3 a.acc.length c3) (.slice b1 b.cuts.length d1) (.slice b2 b.next.length d2) (.slice b3 b.acc.length d3) 39
  have lims : a.next.length ≤ 9223372036854775807 ∧ a.acc.length ≤ 9223372036854775807 := by
    obtain ⟨_, _, _, he, _, h4, h5⟩ := hF
    cases he
    obtain ⟨_, _, he, q1, q2, _⟩ := h4.form
    cases he
    obtain ⟨_, _, he, q3, q4, _⟩ := h5.elems
    cases he
    omega
  have lim1 := lims.1
  have lim2 := lims.2
  clear ha hb hF hG lims
  go_enter Tryz.func16, Tryz.ntmps16
  go_upto_region 1 with fail
  rw [← hw1]
  clear hw1
  have HB := Lib.hid (And.intro e1 (And.intro e2 u1))
  have HCB := Lib.hid (show ∀ (w5 : World), Upd [] w1 w5 → w5.cell? ⟨w.heap.size, 0, none⟩ = some (.slice a1 a.cuts.length c1) ∧ w5.cell? ⟨w.heap.size, 1, none⟩ = some (.slice a2 a.next.length c2) ∧ w5.cell? ⟨w.heap.size, 2, none⟩ = some (.slice a3 a.acc.length c3) ∧ w5.cell? ⟨w.heap.size + 1, 0, none⟩ = some (.slice b1 b.cuts.length d1) ∧ w5.cell? ⟨w.heap.size + 1, 1, none⟩ = some (.slice b2 b.next.length d2) ∧ w5.cell? ⟨w.heap.size + 1, 2, none⟩ = some (.slice b3 b.acc.length d3) from fun w5 u5 => by
    have x1 := e1.upd u5 (by simp)
    have x2 := e2.upd u5 (by simp)
    exact ⟨x1.cell (i := 0) rfl, x1.cell (i := 1) rfl, x1.cell (i := 2) rfl, x2.cell (i := 0) rfl, x2.cell (i := 1) rfl, x2.cell (i := 2) rfl⟩)
  have HSC := SameInts_calls (w := w1) (v1 := .slice a1 a.cuts.length c1) (v2 := .slice b1 b.cuts.length d1) (xs := a.cuts) (ys := b.cuts) (by
    obtain ⟨_, _, _, he, h3, _, _⟩ := HF.out
    cases he
    exact h3.upd u1 (by simp)) (by
    obtain ⟨_, _, _, he, h3, _, _⟩ := HG.out
    cases he
    exact h3.upd u1 (by simp))
  clear e1 e2 u1
  generalize w.heap.size = pa at *
  obtain ⟨k0, k1, k2, l0, l1, l2⟩ := HCB.out w1 (Upd.refl _ _)
  by_cases hc : a.cuts = b.cuts
  · rw [decide_eq_true hc] at HSC
    have HSC := Lib.hid HSC
    have HC := Lib.hid hc
    clear hc
    by_cases hn : a.next.length = b.next.length
    · have hnb : ((a.next.length : Int) != (b.next.length : Int)) = false := by simp [hn]
      have HNL := Lib.hid hn
      clear hn
      by_cases hk : a.acc.length = b.acc.length
      · have hkb : ((a.acc.length : Int) != (b.acc.length : Int)) = false := by simp [hk]
        have HKL := Lib.hid hk
        clear hk
        go_upto_region 3 with ((with_reducible refine HSC.out.mono ?_); rintro e w2 ⟨rfl, u2⟩; obtain ⟨k0, k1, k2, l0, l1, l2⟩ := HCB.out w2 u2; have HU2 := Lib.hid u2; clear u2)
        go_wp2_with fail
        go_loopw [5] (fun s5 wr => ∃ s : Nat, s5 = .int .i64 s ∧ s ≤ a.next.length ∧ Hid ((∀ j, j < s → a.next.getD j [] = b.next.getD j [] ∧ (j < a.acc.length → a.acc.getD j false = b.acc.getD j false)) ∧ Upd [] w1 wr)) (fun s5 _ => a.next.length - (intOf s5).toNat)
        case atStart => exact ⟨0, rfl, Nat.zero_le _, Lib.hid ⟨fun j hj => absurd hj (Nat.not_lt_zero _), HU2.out⟩⟩
        case round =>
          obtain ⟨s, rfl, hs, HI⟩ := hrel
          obtain ⟨k0, k1, k2, l0, l1, l2⟩ := HCB.out wr HI.out.2
          by_cases hlt : s < a.next.length
          · have hli : (s : Int) < a.next.length := by omega
            have hlt2 : s < b.next.length := by have := HNL.out; omega
            have hli2 : (s : Int) < b.next.length := by omega
            obtain ⟨g, off, ar, cr, he, hrc, hrow⟩ := (HF.out.ext (HB.out.2.2.step HI.out.2)).row hlt
            cases he
            obtain ⟨g', off', br, dr, he, hrd, hrow2⟩ := (HG.out.ext (HB.out.2.2.step HI.out.2)).row hlt2
            cases he
            have HRR := Lib.hid (And.intro hrow hrow2)
            have HGR := Lib.hid (show a = b → a.next.getD s [] = b.next.getD s [] from fun h => by rw [h])
            clear hrow hrow2
            generalize hra : a.next.getD s [] = ra at *
            generalize hrb : b.next.getD s [] = rb at *
            have HRA := Lib.hid (And.intro hra hrb)
            clear hra hrb
            by_cases hr : ra = rb
            · have HSR := Lib.hid (show ∀ w5, Upd [] wr w5 → Calls Tryz.prog 58 #[.slice ar ra.length cr, .slice br rb.length dr] w5 fun e w' => e = .returned (.bool true) ∧ Upd [] w5 w' from fun w5 u5 => by
                have := SameInts_calls (HRR.out.1.upd u5 (by simp)) (HRR.out.2.upd u5 (by simp))
                rw [decide_eq_true hr] at this
                exact this)
              have HEQ := Lib.hid (show a.next.getD s [] = b.next.getD s [] by rw [HRA.out.1, HRA.out.2]; exact hr)
              clear hr
              go_upto_region 6 with fail
              refine wp_region_qx (by kernel_rfl) (by kernel_rfl) ?_
              repeat (go_big_quiet_step (((go_at_call 58; exact qx (HSR.out _ (Ext.upd _))))))
              refine wpQuiet_nil ?_
              intro x
              have hU3 := HI.out.2.step x.upd
              generalize x.val = w3 at *
              obtain ⟨k0, k1, k2, l0, l1, l2⟩ := HCB.out w3 hU3
              have HU3 := Lib.hid hU3
              clear hU3
              by_cases hac : s < a.acc.length
              · have haci : (s : Int) < a.acc.length := by omega
                have hac2 : s < b.acc.length := by have := HKL.out; omega
                have haci2 : (s : Int) < b.acc.length := by omega
                obtain ⟨ga, oa3, he3, hxa⟩ := (HF.out.ext (HB.out.2.2.step HU3.out)).acc hac
                cases he3
                obtain ⟨gb, ob3, he3, hxb⟩ := (HG.out.ext (HB.out.2.2.step HU3.out)).acc hac2
                cases he3
                have HGA := Lib.hid (show ∀ h : a = b, a.acc.getD s false = b.acc.getD s false from fun h => by rw [h])
                by_cases hxx : a.acc.getD s false = b.acc.getD s false
                · have HXX := Lib.hid (step_rel HI.out.1 HEQ.out (fun _ => hxx))
                  generalize a.acc.getD s false = xa at *
                  generalize b.acc.getD s false = xb at *
                  subst hxx
                  clear HGA
                  cases xa with
                  | false =>
                    go_upto_region 7 with fail
                    refine wp_region_qx (by kernel_rfl) (by kernel_rfl) ?_
                    repeat (go_big_quiet_step ((fail)))
                    refine wpQuiet_nil ?_
                    intro x
                    go_wp2_with fail
                    exact ⟨⟨s + 1, by go_num, by omega, Lib.hid ⟨HXX.out, HU3.out.step x.upd⟩⟩, by simp [intOf]; omega⟩
                  | true =>
                    go_upto_region 7 with fail
                    refine wp_region_qx (by kernel_rfl) (by kernel_rfl) ?_
                    repeat (go_big_quiet_step ((fail)))
                    refine wpQuiet_nil ?_
                    intro x
                    go_wp2_with fail
                    exact ⟨⟨s + 1, by go_num, by omega, Lib.hid ⟨HXX.out, HU3.out.step x.upd⟩⟩, by simp [intOf]; omega⟩
                · have HNE := Lib.hid (show a ≠ b from fun h => hxx (HGA.out h))
                  generalize a.acc.getD s false = xa at *
                  generalize b.acc.getD s false = xb at *
                  cases xa <;> cases xb
                  · exact absurd rfl hxx
                  · clear hxx
                    go_upto_region 7 with fail
                    refine wp_region_qx (by kernel_rfl) (by kernel_rfl) ?_
                    repeat (go_big_quiet_step ((fail)))
                    refine wpQuiet_nil ?_
                    intro x
                    go_wp2_with fail
                    go_ret
                    exact SameT.no HNE.out ((HB.out.2.2.step HU3.out).step x.upd)
                  · clear hxx
                    go_upto_region 7 with fail
                    refine wp_region_qx (by kernel_rfl) (by kernel_rfl) ?_
                    repeat (go_big_quiet_step ((fail)))
                    refine wpQuiet_nil ?_
                    intro x
                    go_wp2_with fail
                    go_ret
                    exact SameT.no HNE.out ((HB.out.2.2.step HU3.out).step x.upd)
                  · exact absurd rfl hxx
              · have haci : ¬ ((s : Int) < a.acc.length) := by omega
                go_upto_region 7 with fail
                refine wp_region_qx (by kernel_rfl) (by kernel_rfl) ?_
                repeat (go_big_quiet_step ((fail)))
                refine wpQuiet_nil ?_
                intro x
                go_wp2_with fail
                exact ⟨⟨s + 1, by go_num, by omega, Lib.hid ⟨step_rel HI.out.1 HEQ.out (fun h => absurd h hac), HU3.out.step x.upd⟩⟩, by simp [intOf]; omega⟩
            · have HSR := Lib.hid (show ∀ w5, Upd [] wr w5 → Calls Tryz.prog 58 #[.slice ar ra.length cr, .slice br rb.length dr] w5 fun e w' => e = .returned (.bool false) ∧ Upd [] w5 w' from fun w5 u5 => by
                have := SameInts_calls (HRR.out.1.upd u5 (by simp)) (HRR.out.2.upd u5 (by simp))
                rw [decide_eq_false hr] at this
                exact this)
              have HNE := Lib.hid (show a ≠ b from fun h => hr (HGR.out h))
              clear hr
              go_upto_region 6 with fail
              refine wp_region_qx (by kernel_rfl) (by kernel_rfl) ?_
              repeat (go_big_quiet_step (((go_at_call 58; exact qx (HSR.out _ (Ext.upd _))))))
              refine wpQuiet_nil ?_
              intro x
              have hU3 := HI.out.2.step x.upd
              generalize x.val = w3 at *
              obtain ⟨k0, k1, k2, l0, l1, l2⟩ := HCB.out w3 hU3
              have HU3 := Lib.hid hU3
              clear hU3
              go_upto_region 7 with fail
              refine wp_region_qx (by kernel_rfl) (by kernel_rfl) ?_
              repeat (go_big_quiet_step ((fail)))
              refine wpQuiet_nil ?_
              intro x
              go_wp2_with fail
              go_ret
              exact SameT.no HNE.out ((HB.out.2.2.step HU3.out).step x.upd)
          · have hse : s = a.next.length := by omega
            subst hse
            have hni : ¬ ((a.next.length : Int) < a.next.length) := by omega
            go_wp2_with fail
            go_loopw [7] (fun s7 wr2 => ∃ s : Nat, s7 = .int .i64 s ∧ (s ≤ a.acc.length ∨ s = a.next.length) ∧ Hid ((∀ j, j < s → j < a.acc.length → a.acc.getD j false = b.acc.getD j false) ∧ Upd [] w1 wr2)) (fun s7 _ => a.acc.length - (intOf s7).toNat)
            case atStart => exact ⟨a.next.length, rfl, .inr rfl, Lib.hid ⟨fun j hj hj2 => (HI.out.1 j hj).2 hj2, HI.out.2⟩⟩
            case round =>
              obtain ⟨s, rfl, hs, HJ⟩ := hrel
              obtain ⟨k0, k1, k2, l0, l1, l2⟩ := HCB.out wr HJ.out.2
              by_cases hac : s < a.acc.length
              · have haci : (s : Int) < a.acc.length := by omega
                have hac2 : s < b.acc.length := by have := HKL.out; omega
                have haci2 : (s : Int) < b.acc.length := by omega
                obtain ⟨ga, oa3, he3, hxa⟩ := (HF.out.ext (HB.out.2.2.step HJ.out.2)).acc hac
                cases he3
                obtain ⟨gb, ob3, he3, hxb⟩ := (HG.out.ext (HB.out.2.2.step HJ.out.2)).acc hac2
                cases he3
                have HGA := Lib.hid (show ∀ h : a = b, a.acc.getD s false = b.acc.getD s false from fun h => by rw [h])
                by_cases hxx : a.acc.getD s false = b.acc.getD s false
                · have HXX := Lib.hid (show ∀ j, j < s + 1 → j < a.acc.length → a.acc.getD j false = b.acc.getD j false from fun j hj hj2 => by
                    rcases Nat.lt_or_ge j s with h | h
                    · exact HJ.out.1 j h hj2
                    · have : j = s := by omega
                      subst this; exact hxx)
                  generalize a.acc.getD s false = xa at *
                  generalize b.acc.getD s false = xb at *
                  subst hxx
                  clear HGA
                  cases xa with
                  | false =>
                    go_upto_region 12 with fail
                    refine wp_region_qx (by kernel_rfl) (by kernel_rfl) ?_
                    repeat (go_big_quiet_step ((fail)))
                    refine wpQuiet_nil ?_
                    intro x
                    go_wp2_with fail
                    exact ⟨⟨s + 1, by go_num, .inl (by omega), Lib.hid ⟨HXX.out, HJ.out.2.step x.upd⟩⟩, by simp [intOf]; omega⟩
                  | true =>
                    go_upto_region 12 with fail
                    refine wp_region_qx (by kernel_rfl) (by kernel_rfl) ?_
                    repeat (go_big_quiet_step ((fail)))
                    refine wpQuiet_nil ?_
                    intro x
                    go_wp2_with fail
                    exact ⟨⟨s + 1, by go_num, .inl (by omega), Lib.hid ⟨HXX.out, HJ.out.2.step x.upd⟩⟩, by simp [intOf]; omega⟩
                · have HNE := Lib.hid (show a ≠ b from fun h => hxx (HGA.out h))
                  generalize a.acc.getD s false = xa at *
                  generalize b.acc.getD s false = xb at *
                  cases xa <;> cases xb
                  · exact absurd rfl hxx
                  · clear hxx
                    go_upto_region 12 with fail
                    refine wp_region_qx (by kernel_rfl) (by kernel_rfl) ?_
                    repeat (go_big_quiet_step ((fail)))
                    refine wpQuiet_nil ?_
                    intro x
                    go_wp2_with fail
                    go_ret
                    exact SameT.no HNE.out ((HB.out.2.2.step HJ.out.2).step x.upd)
                  · clear hxx
                    go_upto_region 12 with fail
                    refine wp_region_qx (by kernel_rfl) (by kernel_rfl) ?_
                    repeat (go_big_quiet_step ((fail)))
                    refine wpQuiet_nil ?_
                    intro x
                    go_wp2_with fail
                    go_ret
                    exact SameT.no HNE.out ((HB.out.2.2.step HJ.out.2).step x.upd)
                  · exact absurd rfl hxx
              · have haci : ¬ ((s : Int) < a.acc.length) := by omega
                have HAE := Lib.hid (show a = b from au_ext HC.out HNL.out HKL.out (fun j hj => (HI.out.1 j hj).1) (fun j hj => HJ.out.1 j (by omega) hj))
                go_wp2_with fail
                go_ret
                exact SameT.yes HAE.out (HB.out.2.2.step HJ.out.2)
      · have hkb : ((a.acc.length : Int) != (b.acc.length : Int)) = true := by simp; omega
        have HNE := Lib.hid (show a ≠ b from fun h => hk (by rw [h]))
        clear hk
        go_wp2_with ((with_reducible refine HSC.out.mono ?_); rintro e w2 ⟨rfl, u2⟩; obtain ⟨k0, k1, k2, l0, l1, l2⟩ := HCB.out w2 u2; have HU2 := Lib.hid u2; clear u2)
        go_ret
        exact SameT.no HNE.out (HB.out.2.2.step HU2.out)
    · have hnb : ((a.next.length : Int) != (b.next.length : Int)) = true := by simp; omega
      have HNE := Lib.hid (show a ≠ b from fun h => hn (by rw [h]))
      clear hn
      go_wp2_with ((with_reducible refine HSC.out.mono ?_); rintro e w2 ⟨rfl, u2⟩; obtain ⟨k0, k1, k2, l0, l1, l2⟩ := HCB.out w2 u2; have HU2 := Lib.hid u2; clear u2)
      go_ret
      exact SameT.no HNE.out (HB.out.2.2.step HU2.out)
  · rw [decide_eq_false hc] at HSC
    have HSC := Lib.hid HSC
    have HNE := Lib.hid (show a ≠ b from fun h => hc (by rw [h]))
    clear hc
    go_wp2_with ((with_reducible refine HSC.out.mono ?_); rintro e w2 ⟨rfl, u2⟩; have HU2 := Lib.hid u2; clear u2)
    go_ret
    exact SameT.no HNE.out (HB.out.2.2.step HU2.out)
end
end Aut
end Go.Proofs.YtjclbjdkkdijbaaGreat
end
section
open Go.RowKit
namespace Go.Proofs.YtjclbjdkkdijbaaGreat
open L
namespace Aut
open Auto
attribute [-go_sem] sliced
/-- What Complement returns. -/
def compA (a : Au) : Au := if vErr a ≠ 0 then noA else ⟨a.cuts, a.next, a.acc.map not⟩
/-- The result of Complement after so many states, in its box cb = w0.heap.size. -/
structure Cp (w0 : World) (a : Au) (cb i j : Nat) (cv nv av : Value) (F : List Nat) (w : World) : Prop where
  bx : Blk w cb [cv, nv, av] 31
  tb : OwnL 22 w0 nv (a.next.take i) F w
  ac : w.ownsRow 0 4 1 av j (bools ((a.acc.take j).map not))
  an : ∀ q, av.ownBlock = some q → w0.heap.size ≤ q ∧ q ≠ cb ∧ q ∉ F ∧ nv.ownBlock ≠ some q
  cn : cb ∉ F ∧ nv.ownBlock ≠ some cb ∧ w0.heap.size ≤ cb
  u : Upd [] w0 w
  fn : ∀ b ∈ F, w0.heap.size ≤ b
section
variable {w0 w w' : World} {a : Au} {cb i j : Nat} {cv nv av : Value} {F : List Nat}
theorem Cp.quiet (h : Cp w0 a cb i j cv nv av F w) (hu : Upd [] w w') : Cp w0 a cb i j cv nv av F w' :=
  ⟨h.bx.upd hu (by simp), h.tb.upd hu (by simp), ownsRow_updL h.ac hu (by simp), h.an, h.cn, h.u.step hu, h.fn⟩
end
section
variable {w w' : World} {v : Value}
set_option maxRecDepth 100000 in
set_option maxHeartbeats 16000000 in
theorem Complement_calls {a : Au} (h : AuV w a v) : Calls Tryz.prog 36 #[v] w fun e w' => ∃ v', e = .returned (.tuple #[v', .int .i64 (vErr a)]) ∧ AuV w' (compA a) v' ∧ Upd [] w w' := by
  obtain ⟨a1, c1, a2, c2, a3, c3, rfl, hF⟩ := h.shape
  have HF := Lib.hid hF
  clear h hF
  go_enter Tryz.func36, Tryz.ntmps36
  go_upto_region 1 with fail
  have b1 := (Blk.new w [.slice a1 a.cuts.length c1, .slice a2 a.next.length c2, .slice a3 a.acc.length c3] 31).alloc (.cells #[.slice none 0 0, .slice none 0 0, .slice none 0 0] 31)
  have b2 := Blk.new (w.alloc (.cells #[.slice a1 a.cuts.length c1, .slice a2 a.next.length c2, .slice a3 a.acc.length c3] 31)) [.slice none 0 0, .slice none 0 0, .slice none 0 0] 31
  have u1 := ((Upd.refl [] w).alloc (.cells #[.slice a1 a.cuts.length c1, .slice a2 a.next.length c2, .slice a3 a.acc.length c3] 31)).alloc (.cells #[.slice none 0 0, .slice none 0 0, .slice none 0 0] 31)
  have z1 : (w.alloc (.cells #[.slice a1 a.cuts.length c1, .slice a2 a.next.length c2, .slice a3 a.acc.length c3] 31)).heap.size = w.heap.size + 1 := by simp
  rw [z1] at b2
  change Blk ((w.alloc (.cells #[.slice a1 a.cuts.length c1, .slice a2 a.next.length c2, .slice a3 a.acc.length c3] 31)).alloc (.cells #[.slice none 0 0, .slice none 0 0, .slice none 0 0] 31)) _ _ _ at b1
  change Blk ((w.alloc (.cells #[.slice a1 a.cuts.length c1, .slice a2 a.next.length c2, .slice a3 a.acc.length c3] 31)).alloc (.cells #[.slice none 0 0, .slice none 0 0, .slice none 0 0] 31)) _ _ _ at b2
  generalize ((w.alloc (.cells #[.slice a1 a.cuts.length c1, .slice a2 a.next.length c2, .slice a3 a.acc.length c3] 31)).alloc (.cells #[.slice none 0 0, .slice none 0 0, .slice none 0 0] 31)) = w1 at *
  have k0 := b1.cell (i := 0) rfl
  have k1 := b1.cell (i := 1) rfl
  have k2 := b1.cell (i := 2) rfl
  have HB := Lib.hid (And.intro b2 u1)
  have HVC := Lib.hid (Valid_calls (v := .agg #[.slice a1 a.cuts.length c1, .slice a2 a.next.length c2, .slice a3 a.acc.length c3]) ⟨_, rfl, HF.out.ext u1⟩)
  clear b1 b2 u1 z1
  generalize hpa : w.heap.size = pa at *
  have HPA := Lib.hid hpa
  clear hpa
  by_cases he : vErr a = 0
  · have HOK := Lib.hid (And.intro (vErr_ok he) he)
    have HE := Lib.hid (show compA a = ⟨a.cuts, a.next, a.acc.map not⟩ by unfold compA; rw [if_neg (by simpa using he)])
    rw [he] at HVC
    clear he
    go_upto_region 4 with ((with_reducible refine HVC.out.mono ?_); rintro e w2 ⟨rfl, u2⟩)
    have HU2 := Lib.hid (HB.out.2.step u2)
    have g0 := u2.some k0 (by simp)
    have g1 := u2.some k1 (by simp)
    have g2 := u2.some k2 (by simp)
    have HB2 := Lib.hid (HB.out.1.upd u2 (by simp))
    clear k0 k1 k2 u2
    have hsl : SL w2 1 (.slice a1 a.cuts.length c1) a.cuts.length (ints a.cuts) := by
      obtain ⟨cv, nv, av, he, h3, _, _⟩ := HF.out
      cases he
      exact h3.upd HU2.out (by simp)
    have hle := hsl.elems
    have HCL := Lib.hid (CloneI_calls hsl (by have := cuts_len HOK.out.1; omega))
    clear hsl hle
    go_upto_region 5 with ((with_reducible refine HCL.out.mono ?_); rintro e w3 ⟨an, cn, rfl, o3⟩)
    have bC := Blk.new w3 [.slice an a.cuts.length cn, .slice none 0 0, .slice none 0 0] 31
    have uC := (Upd.refl [] w3).alloc (.cells #[.slice an a.cuts.length cn, .slice none 0 0, .slice none 0 0] 31)
    change Blk (w3.alloc (.cells #[.slice an a.cuts.length cn, .slice none 0 0, .slice none 0 0] 31)) _ _ _ at bC
    have j1 := (o3.fresh.step uC).some g1 (by simp)
    have H3 := Lib.hid (And.intro o3.sl (And.intro (HU2.out.step o3.fresh) (And.intro (HB2.out.upd o3.fresh (by simp)) o3.fresh)))
    have HCO := Lib.hid (show ∀ q, (Value.slice an a.cuts.length cn).ownBlock = some q → w2.heap.size ≤ q from fun q hq => by
      rcases o3.old q hq with h | h
      · simp [Value.ownBlock] at h
      · exact h)
    have HSZ := Lib.hid (And.intro HB2.out.lt o3.fresh.size)
    generalize (w3.alloc (.cells #[.slice an a.cuts.length cn, .slice none 0 0, .slice none 0 0] 31)) = w4 at *
    have HC := Lib.hid (And.intro bC uC)
    clear bC uC o3
    have HZ := Lib.hid (Nat.le_refl w3.heap.size)
    go_wp2_with fail
    have HCB : ∃ cb, w3.heap.size = cb := ⟨_, rfl⟩
    obtain ⟨cb, hcb⟩ := HCB
    rw [hcb] at HC ⊢
    have HLE := Lib.hid (Nat.le_of_eq hcb)
    clear hcb HZ
    go_loopw [21] (fun kv wr => ∃ (i : Nat) (nv av : Value) (F : List Nat), kv = .int .i64 i ∧ i ≤ a.next.length ∧ Hid (Cp w3 a cb i i (.slice an a.cuts.length cn) nv av F wr)) (fun kv _ => a.next.length - (intOf kv).toNat)
    case atStart => exact ⟨0, _, _, [], rfl, Nat.zero_le _, Lib.hid ⟨HC.out.1, OwnL.nil _ _ _, World.ownsRow_nil _ _ _ _, fun q hq => by simp [Value.ownBlock] at hq, ⟨by simp, by simp [Value.ownBlock], HLE.out⟩, HC.out.2, by simp⟩⟩
    case round =>
      obtain ⟨i, nv, av, F, rfl, hi, HI⟩ := hrel
      by_cases hlt : i < a.next.length
      · have hli : (i : Int) < a.next.length := by omega
        obtain ⟨g, off, ar, cr, he, hc, hrow⟩ := (HF.out.ext HU2.out).row hlt
        cases he
        have HROW := Lib.hid (And.intro (HOK.out.1.rows _ (gd_memA (d := []) hlt)).1 (And.intro (cuts_len HOK.out.1) (show a.next.take (i + 1) = a.next.take i ++ [a.next.getD i []] by rw [List.take_add_one, gd_some (d := []) hlt]; rfl)))
        generalize a.next.getD i [] = row at *
        have hc' := (H3.out.2.2.2.step HI.out.u)
        have HRO := Lib.hid (show SL wr 1 (.slice ar row.length cr) row.length (ints row) from hrow.upd hc' (by simp))
        have hcc : wr.cell? ⟨g, off + i, none⟩ = some (.slice ar row.length cr) := HI.out.u.some (H3.out.2.2.2.some hc (by simp)) (by simp)
        have q1 := HI.out.bx.cell (i := 1) rfl
        have q2 := HI.out.bx.cell (i := 2) rfl
        clear hc hrow hc'
        go_upto_region 8 with fail
        go_cut [] (fun w' => ∃ nv' F', Cp w3 a cb (i + 1) i (.slice an a.cuts.length cn) nv' av F' w')
        case first =>
          obtain ⟨vals, hv1, hv2⟩ := HI.out.tb.ex
          have HV := Lib.hid (And.intro hv1 hv2)
          have hfew := HOK.out.1.few
          have HTK := Lib.hid (show (a.next.take i).length ≤ 256 by rw [List.length_take]; omega)
          clear hv1 hv2 hfew
          have HCR := Lib.hid (fun (w5 : World) (u5 : Upd [] wr w5) => CloneI_calls (HRO.out.upd u5 (by simp)) (by have := HROW.out.1; have := HROW.out.2.1; omega))
          go_wp2_with fail
          refine wp_region_ord 5 1 [0, 1, 2, 6] [1] [0, 1, 2, 3, 4, 5, 6, 7] (fun w' => ∃ x : Ext wr, w' = x.val) (by kernel_rfl) (by kernel_rfl) (Ext.of (by iterate 25 (first | exact Upd.refl _ _ | assumption | refine Upd.alloc ?_ _ | refine Upd.drew ?_ | refine Upd.drewN ?_ _ | refine Upd.dl ?_ | refine Upd.step ?_ (Ext.upd _) | refine Upd.nil ?_ | skip))) ?_
          repeat (first | (refine wpOrd_load rfl rfl rfl rfl (fun K hK => ?_); go_big_quiet_step (fail); refine wpQuiet_nil ?_; refine hK _ ?_; clear hK K) | (refine wpOrd_free rfl rfl rfl (fun K hK => ?_); go_big_quiet_step (fail); refine wpQuiet_nil ?_; refine hK _ ?_; clear hK K))
          refine wpOrd_fix rfl rfl (fun K hK => ?_)
          go_wp2_with ((with_reducible refine (HCR.out _ (by iterate 25 (first | exact Upd.refl _ _ | assumption | refine Upd.alloc ?_ _ | refine Upd.drew ?_ | refine Upd.drewN ?_ _ | refine Upd.dl ?_ | refine Upd.step ?_ (Ext.upd _) | refine Upd.nil ?_ | skip))).mono ?_); rintro e w6 ⟨a6, c6, rfl, o6⟩)
          have HO6 := Lib.hid (And.intro o6 (show Upd [] wr w6 from Upd.step (by iterate 25 (first | exact Upd.refl _ _ | assumption | refine Upd.alloc ?_ _ | refine Upd.drew ?_ | refine Upd.drewN ?_ _ | refine Upd.dl ?_ | refine Upd.step ?_ (Ext.upd _) | refine Upd.nil ?_ | skip)) o6.fresh))
          clear o6
          refine ⟨fun _ => Ext.of HO6.out.2, ?_⟩
          repeat (first | (refine wpOrd_load rfl rfl rfl rfl (fun K hK => ?_); go_big_quiet_step (fail); refine wpQuiet_nil ?_; refine hK _ ?_; clear hK K) | (refine wpOrd_free rfl rfl rfl (fun K hK => ?_); go_big_quiet_step (fail); refine wpQuiet_nil ?_; refine hK _ ?_; clear hK K))
          refine wpOrd_fix rfl rfl (fun K hK => ?_)
          go_wp2_with fail
          have HNB2 := Lib.hid (show Blk (w6.alloc (.cells #[.slice a6 row.length c6] 22)) w6.heap.size [.slice a6 row.length c6] 22 ∧ Upd [] w6 (w6.alloc (.cells #[.slice a6 row.length c6] 22)) from ⟨Blk.new w6 _ _, (Upd.refl [] w6).alloc _⟩)
          generalize (w6.alloc (.cells #[.slice a6 row.length c6] 22)) = wB at *
          generalize w6.heap.size = gB at *
          have HUB := Lib.hid (HO6.out.2.step HNB2.out.2)
          refine ⟨fun _ => Ext.of HUB.out, ?_⟩
          repeat (first | (refine wpOrd_load rfl rfl rfl rfl (fun K hK => ?_); go_big_quiet_step (fail); refine wpQuiet_nil ?_; refine hK _ ?_; clear hK K) | (refine wpOrd_free rfl rfl rfl (fun K hK => ?_); go_big_quiet_step (fail); refine wpQuiet_nil ?_; refine hK _ ?_; clear hK K))
          refine wpOrd_fix rfl rfl (fun K hK => ?_)
          refine wpList_app rfl _ _ _ rfl 22 1 24 _ Tryz.underlying28 infoInts rfl (by decide) nv _ _ rfl (ownsRow_updL HV.out.1.row HUB.out (by simp)) gB 1 1 [.slice a6 row.length c6] 22 rfl rfl HNB2.out.1 (by simp [Value.oneCell']) (by omega) (by have := HTK.out; unfold maxLen; omega) (by have := HTK.out; omega) ?_
          intro g7 c7 w7 o7 u7 k7
          simp only [Act.put, List.setIfInBounds_toArray, List.set_cons_zero, List.set_cons_succ]
          have bx7 : Blk w7 cb [.slice an a.cuts.length cn, nv, av] 31 := (HI.out.bx.upd HUB.out (by simp)).upd u7 (fun hm => HI.out.cn.2.1 (by simpa using hm))
          have q1' := bx7.cell (i := 1) rfl
          have f1' : ∀ q, w7.frozen? ⟨cb, q, none⟩ = false := bx7.free
          have H7 := Lib.hid (And.intro o7 (And.intro u7 (And.intro k7 bx7)))
          clear o7 u7 k7 bx7 q1
          go_wp2_with fail
          refine ⟨fun hC => absurd hC (by decide), ?_⟩
          repeat (first | (refine wpOrd_load rfl rfl rfl rfl (fun K hK => ?_); go_big_quiet_step (fail); refine wpQuiet_nil ?_; refine hK _ ?_; clear hK K) | (refine wpOrd_free rfl rfl rfl (fun K hK => ?_); go_big_quiet_step (fail); refine wpQuiet_nil ?_; refine hK _ ?_; clear hK K))
          refine wpOrd_fix rfl rfl (fun K hK => ?_)
          go_wp2_with fail
          refine ⟨fun hC => absurd hC (by decide), ?_⟩
          refine wpOrd_nil ?_
          go_wp2_with fail
          go_meet
          case rel =>
            have hti : (a.next.take i).length = i := by rw [List.length_take]; omega
            have hyf : ∀ b, (Value.slice a6 row.length c6).ownBlock = some b → wr.heap.size ≤ b := fun b hb => by
              rcases HO6.out.1.old b hb with h | h
              · simp [Value.ownBlock] at h
              · exact Nat.le_trans (Nat.le_of_eq rfl) h
            have htb := (HI.out.tb.upd HUB.out (by simp)).push (HV.out.1.upd HUB.out (by simp)) (fun i c hc => by
              obtain ⟨y, h1, h2, h3⟩ := HV.out.2 i c hc
              exact ⟨y, h1, h2.upd HUB.out (by simp), h3⟩) (by have := HI.out.u.size; have := HUB.out.size; omega) (c := row) (y := .slice a6 row.length c6) (HO6.out.1.sl.upd HNB2.out.2 (by simp)) (fun b hb => ⟨fun hn => by have := HI.out.tb.own_lt b hn; have := hyf b hb; omega, by have := HO6.out.1.lt hb; have := HNB2.out.2.size; omega⟩) H7.out.1 H7.out.2.1 (H7.out.2.2.1.imp id fun h => Nat.le_of_eq h.symm)
            rw [← HROW.out.2.2, hti] at htb
            have us : Upd [cb] w7 (w7.setCell ⟨cb, 1, none⟩ (.slice (some ⟨g7, 0, none⟩) (i + 1) c7)) := (Upd.refl [cb] w7).set (p := ⟨cb, 1, none⟩) (by simp) _
            have hcl := HI.out.bx.lt
            have hcF : ∀ b ∈ (Value.slice a6 row.length c6).ownBlock.toList, wr.heap.size ≤ b := fun b hb => hyf b (by simpa using hb)
            have hg7 : nv.ownBlock = some g7 ∨ wr.heap.size ≤ g7 := H7.out.2.2.1.imp id fun h => by have := HUB.out.size; omega
            have hzz := HI.out.u.size
            have hgc : g7 ≠ cb := fun e => by
              rcases hg7 with h | h
              · exact HI.out.cn.2.1 (e ▸ h)
              · omega
            refine ⟨_, F ++ (Value.slice a6 row.length c6).ownBlock.toList, H7.out.2.2.2.set 1 _, htb.upd us (fun b hb => ?_), ?_, fun q hq => ?_, ⟨?_, ?_, HI.out.cn.2.2⟩, ?_, fun b hb => ?_⟩
            · simp at hb; subst hb
              refine ⟨fun hf => ?_, fun hv => hgc (by simpa [Value.ownBlock] using hv)⟩
              rcases List.mem_append.1 hf with h | h
              · exact HI.out.cn.1 h
              · have := hcF _ h; omega
            · exact ownsRow_updL (ownsRow_updL (ownsRow_updL HI.out.ac HUB.out (by simp)) H7.out.2.1 (fun b hb hv => (HI.out.an _ hv).2.2.2 (by simpa using hb))) us (fun b hb hv => (HI.out.an _ hv).2.1 (by simpa using hb))
            · obtain ⟨h1, h2, h3, h4⟩ := HI.out.an q hq
              have hql := (HI.out.ac.lt q hq).2
              refine ⟨h1, h2, fun hm => ?_, fun he => ?_⟩
              · rcases List.mem_append.1 hm with h | h
                · exact h3 h
                · have := hcF _ h; omega
              · simp [Value.ownBlock] at he; subst he
                rcases hg7 with h | h
                · exact h4 h
                · omega
            · intro hm
              rcases List.mem_append.1 hm with h | h
              · exact HI.out.cn.1 h
              · have := hcF _ h; omega
            · exact fun hv => hgc (by simpa [Value.ownBlock] using hv)
            · exact ((HI.out.u.step HUB.out).fresh H7.out.2.1 (fun b hb => .inr (HV.out.1.fresh _ (by simpa using hb)))).fresh us (fun b hb => .inr (by simp at hb; subst hb; exact HI.out.cn.2.2))
            · rcases List.mem_append.1 hb with h | h
              · exact HI.out.fn _ h
              · have := hcF _ h; omega
        case rest => 
          obtain ⟨nv', F', hC⟩ := hcut
          have HC2 := Lib.hid hC
          clear hC
          have hia : i < a.acc.length := by rw [HOK.out.1.acc]; exact hlt
          obtain ⟨g3, off3, he3, hacc⟩ := (HF.out.ext HU2.out).acc hia
          cases he3
          have hac' : wc.cell? ⟨g3, off3 + i, none⟩ = some (.bool (a.acc.getD i false)) := HC2.out.u.some (H3.out.2.2.2.some hacc (by simp)) (by simp)
          have hp2 : wc.cell? ⟨pa, 2, none⟩ = some (.slice (some ⟨g3, off3, none⟩) a.acc.length c3) := HC2.out.u.some (H3.out.2.2.2.some g2 (by simp)) (by simp)
          have q2 := HC2.out.bx.cell (i := 2) rfl
          have HBI := Lib.hid (show (a.acc.take (i + 1)).map not = (a.acc.take i).map not ++ [!a.acc.getD i false] by
            rw [List.take_add_one, gd_some (d := false) hia]; simp)
          clear hacc
          generalize a.acc.getD i false = bi at *
          go_wp2_with fail
          refine wp_region_ord 9 6 [0, 1, 2, 3, 4, 5, 6, 7, 10] [1, 3, 6] [0, 1, 2, 3, 4, 5, 6, 7, 8, 9, 10, 11] (fun w' => ∃ x : Ext wc, w' = x.val) (by kernel_rfl) (by kernel_rfl) (Ext.of (by iterate 25 (first | exact Upd.refl _ _ | assumption | refine Upd.alloc ?_ _ | refine Upd.drew ?_ | refine Upd.drewN ?_ _ | refine Upd.dl ?_ | refine Upd.step ?_ (Ext.upd _) | refine Upd.nil ?_ | skip))) ?_
          repeat (first | (refine wpOrd_load rfl rfl rfl rfl (fun K hK => ?_); go_big_quiet_step (fail); refine wpQuiet_nil ?_; refine hK _ ?_; clear hK K) | (refine wpOrd_free rfl rfl rfl (fun K hK => ?_); go_big_quiet_step (fail); refine wpQuiet_nil ?_; refine hK _ ?_; clear hK K))
          refine wpOrd_fix rfl rfl (fun K hK => ?_)
          go_wp2_with fail
          have HNB3 := Lib.hid (show Blk ((wc.alloc (.cells #[.bool !bi] 4)).drew) wc.heap.size [.bool !bi] 4 ∧ Upd [] wc ((wc.alloc (.cells #[.bool !bi] 4)).drew) from ⟨Blk.new wc [.bool !bi] 4, (by iterate 25 (first | exact Upd.refl _ _ | assumption | refine Upd.alloc ?_ _ | refine Upd.drew ?_ | refine Upd.drewN ?_ _ | refine Upd.dl ?_ | refine Upd.step ?_ (Ext.upd _) | refine Upd.nil ?_ | skip))⟩)
          have HGB := Lib.hid (Nat.le_refl wc.heap.size)
          generalize ((wc.alloc (.cells #[.bool !bi] 4)).drew) = wB at *
          generalize wc.heap.size = gB at HNB3 HGB ⊢
          have hi6 : i ≤ 256 := by have := HOK.out.1.few; omega
          refine ⟨fun _ => Ext.of HNB3.out.2, ?_⟩
          repeat (first | (refine wpOrd_load rfl rfl rfl rfl (fun K hK => ?_); go_big_quiet_step (fail); refine wpQuiet_nil ?_; refine hK _ ?_; clear hK K) | (refine wpOrd_free rfl rfl rfl (fun K hK => ?_); go_big_quiet_step (fail); refine wpQuiet_nil ?_; refine hK _ ?_; clear hK K))
          refine wpOrd_fix rfl rfl (fun K hK => ?_)
          refine wpList_app rfl _ _ _ rfl 4 1 1 _ Tryz.underlying29 infoBool rfl (by decide) av _ _ rfl (ownsRow_updL HC2.out.ac HNB3.out.2 (by simp)) gB 1 1 [.bool !bi] 4 rfl rfl HNB3.out.1 (by simp [Value.oneCell']) (by omega) (by unfold maxLen; omega) (by omega) ?_
          intro g7 c7 w7 o7 u7 k7
          simp only [Act.put, List.setIfInBounds_toArray, List.set_cons_zero, List.set_cons_succ]
          have bx7 := (HC2.out.bx.upd HNB3.out.2 (by simp)).upd u7 (fun hm => (HC2.out.an cb (by simpa using hm)).2.1 rfl)
          have q2' := bx7.cell (i := 2) rfl
          have f2' : ∀ q, w7.frozen? ⟨cb, q, none⟩ = false := bx7.free
          have H7 := Lib.hid (And.intro o7 (And.intro u7 (And.intro k7 bx7)))
          clear o7 u7 k7 bx7 q2
          go_wp2_with fail
          refine ⟨fun hC => absurd hC (by decide), ?_⟩
          repeat (first | (refine wpOrd_load rfl rfl rfl rfl (fun K hK => ?_); go_big_quiet_step (fail); refine wpQuiet_nil ?_; refine hK _ ?_; clear hK K) | (refine wpOrd_free rfl rfl rfl (fun K hK => ?_); go_big_quiet_step (fail); refine wpQuiet_nil ?_; refine hK _ ?_; clear hK K))
          refine wpOrd_fix rfl rfl (fun K hK => ?_)
          go_wp2_with fail
          refine ⟨fun hC => absurd hC (by decide), ?_⟩
          refine wpOrd_nil ?_
          go_wp2_with fail
          have us : Upd [cb] w7 (w7.setCell ⟨cb, 2, none⟩ (.slice (some ⟨g7, 0, none⟩) (i + 1) c7)) := (Upd.refl [cb] w7).set (p := ⟨cb, 2, none⟩) (by simp) _
          have hz1 := HNB3.out.2.size
          have hz2 := HC2.out.bx.lt
          have hz3 := HC2.out.u.size
          have hg7 : av.ownBlock = some g7 ∨ wc.heap.size ≤ g7 := H7.out.2.2.1.imp id fun h => by omega
          have hgc : g7 ≠ cb := fun e => by
            rcases hg7 with h | h
            · exact (HC2.out.an _ h).2.1 e
            · omega
          refine ⟨⟨i + 1, nv', _, F', by go_num, by omega, Lib.hid ⟨H7.out.2.2.2.set 2 _, ((HC2.out.tb.upd HNB3.out.2 (by simp)).upd H7.out.2.1 (fun b hb => ?_)).upd us (fun b hb => ?_), ?_, fun q hq => ?_, HC2.out.cn, ((HC2.out.u.step HNB3.out.2).fresh H7.out.2.1 (fun b hb => .inr (HC2.out.an b (by simpa using hb)).1)).fresh us (fun b hb => .inr (by simp at hb; subst hb; exact HC2.out.cn.2.2)), HC2.out.fn⟩⟩, by simp [intOf]; omega⟩
          · have := HC2.out.an b (by simpa using hb)
            exact ⟨this.2.2.1, this.2.2.2⟩
          · simp at hb; subst hb; exact ⟨HC2.out.cn.1, HC2.out.cn.2.1⟩
          · have h1 := ownsRow_updL H7.out.1 us (fun b hb hv => by simp at hb; subst hb; simp [Value.ownBlock] at hv; exact hgc hv)
            rw [HBI.out]
            simpa [bools] using h1
          · simp only [Value.ownBlock, Option.some.injEq] at hq
            subst hq
            rcases hg7 with h | h
            · exact HC2.out.an _ h
            · refine ⟨by omega, hgc, fun hf => ?_, fun hv => ?_⟩
              · have := HC2.out.tb.lt _ hf; omega
              · have := HC2.out.tb.own_lt _ hv; omega
      · have hie : i = a.next.length := by omega
        subst hie
        have hni : ¬ ((a.next.length : Int) < a.next.length) := by omega
        obtain ⟨vals, hv1, hv2⟩ := id HI.out.tb.ex
        obtain ⟨a2', c2', rfl, _⟩ := id HI.out.tb.cl.form
        obtain ⟨a3', c3', rfl, _⟩ := id (SL.of_owns HI.out.ac).elems
        have q0 := HI.out.bx.cell (i := 0) rfl
        have q1 := HI.out.bx.cell (i := 1) rfl
        have q2 := HI.out.bx.cell (i := 2) rfl
        have bR := H3.out.2.2.1.upd HI.out.u (by simp)
        have r0 := bR.cell (i := 0) rfl
        have r1 := bR.cell (i := 1) rfl
        have r2 := bR.cell (i := 2) rfl
        have rf : ∀ q, wr.frozen? ⟨pa + 1, q, none⟩ = false := bR.free
        have HBR := Lib.hid bR
        clear bR hv1 hv2
        go_wp2_with fail
        have hs := cell3_set (a := .slice an a.cuts.length cn) (b := .slice a2' a.next.length c2') (c := .slice a3' a.next.length c3') HBR.out
        have z1 := HSZ.out.1
        have z2 := HSZ.out.2
        rw [HE.out, HOK.out.2]
        refine ret_au2 rfl rfl rfl hs.1 rfl ⟨_, _, _, rfl, ?_, ?_, ?_⟩ ((H3.out.2.1.step HI.out.u).fresh hs.2 (fun b hb => .inr (by simp at hb; subst hb; have := HPA.out; omega)))
        · exact (H3.out.1.upd HI.out.u (by simp)).upd hs.2 (fun b hb hv => by simp at hb; subst hb; have := HCO.out _ hv; omega)
        · have h1 := (HI.out.tb.upd hs.2 (fun b hb => by
            simp at hb; subst hb
            refine ⟨fun hf => ?_, fun hv => ?_⟩
            · have := HI.out.fn _ hf; omega
            · obtain ⟨vals, h1, _⟩ := HI.out.tb.ex
              have := h1.fresh _ hv; omega)).cl
          rw [List.take_length] at h1
          simpa using h1
        · have h1 := SL.of_owns (ownsRow_updL HI.out.ac hs.2 (fun b hb hv => by simp at hb; subst hb; have := (HI.out.an _ hv).1; omega))
          rw [List.take_of_length_le (by rw [HOK.out.1.acc]; exact Nat.le_refl _)] at h1
          simpa [HOK.out.1.acc] using h1
  · have hb : (vErr a != 0) = true := by simpa using he
    have HE := Lib.hid (show compA a = noA by unfold compA; rw [if_pos he])
    clear he
    generalize her : vErr a = er at HVC hb
    have HER := Lib.hid her
    clear her
    go_wp2_with ((with_reducible refine HVC.out.mono ?_); rintro e w2 ⟨rfl, u2⟩; have bR := HB.out.1.upd u2 (by simp); have r0 := bR.cell (i := 0) rfl; have r1 := bR.cell (i := 1) rfl; have r2 := bR.cell (i := 2) rfl; have rf : ∀ q, w2.frozen? ⟨pa + 1, q, none⟩ = false := bR.free; have HBR := Lib.hid (And.intro bR u2); clear bR u2)
    have hs := cell3_set (a := .slice none 0 0) (b := .slice none 0 0) (c := .slice none 0 0) HBR.out.1
    rw [HE.out, HER.out]
    exact ret_au2 rfl rfl rfl hs.1 rfl noA_F ((HB.out.2.step HBR.out.2).fresh hs.2 (fun b hb => .inr (by simp at hb; subst hb; have := HPA.out; omega)))
end
end Aut
end Go.Proofs.YtjclbjdkkdijbaaGreat
end
section
open Go.RowKit
namespace Go.Proofs.YtjclbjdkkdijbaaGreat
open L
namespace Aut
open Auto R01
attribute [-go_sem] sliced
/-- The cuts of Made after so many classes. -/
def cutT : List Int := [1, 97, 98, 99, 255, 40]
def cutM (xs : List Int) : Nat → List Int
  | 0 => [0]
  | k + 1 => putC (cutM xs k) (cutT.getD (pick xs (2 + k) 6).toNat 0)
/-- A row of Made, and what is left of its number. -/
def rowM (m n : Int) : Nat → List Int × Int
  | 0 => ([], n)
  | k + 1 => ((rowM m n k).1 ++ [(rowM m n k).2 % m], (rowM m n k).2 / 7)
def manyM (xs : List Int) : Int := 1 + pick xs 0 6
def cutsM (xs : List Int) : List Int := cutM xs (pick xs 1 4).toNat
def nthM (xs : List Int) (s : Nat) : List Int × Int := rowM (manyM xs) (pick xs (5 + s) 1048576) (cutsM xs).length
def nextM (xs : List Int) (s : Nat) : List (List Int) := (List.range s).map fun s => (nthM xs s).1
def accM (xs : List Int) (s : Nat) : List Bool := (List.range s).map fun s => (nthM xs s).2 % 3 == 0
/-- What Made returns. -/
def madeA (xs : List Int) : Au := ⟨cutsM xs, nextM xs (manyM xs).toNat, accM xs (manyM xs).toNat⟩
theorem pick_lo (xs : List Int) (i : Int) {m : Int} (h : 0 < m) : 0 ≤ pick xs i m := by
  unfold pick
  split
  · omega
  · exact around_lo h
theorem pick_hi (xs : List Int) (i : Int) {m : Int} (h : 0 < m) : pick xs i m < m := by
  unfold pick
  split
  · omega
  · exact around_hi h
theorem cutT_rng (i : Nat) : 0 ≤ cutT.getD i 0 ∧ cutT.getD i 0 ≤ 255 := by
  unfold cutT
  rcases i with _ | _ | _ | _ | _ | _ | i <;> simp
theorem cutM_spec (xs : List Int) : ∀ k, (cutM xs k).Pairwise (· < ·) ∧ (∀ x ∈ cutM xs k, 0 ≤ x ∧ x ≤ 255) ∧ (0 : Int) ∈ cutM xs k ∧ (cutM xs k).length ≤ k + 1
  | 0 => by simp [cutM]
  | k + 1 => by
    obtain ⟨h1, h2, h3, h4⟩ := cutM_spec xs k
    have hr := cutT_rng (pick xs (2 + k) 6).toNat
    refine ⟨putC_inc _ h1, fun x hx => ?_, (putC_mem _ _ _).2 (.inl h3), ?_⟩
    · rcases (putC_mem _ _ _).1 hx with h | h
      · exact h2 x h
      · subst h; exact hr
    · have := putC_length (cutM xs k) (cutT.getD (pick xs (2 + k) 6).toNat 0)
      show (putC (cutM xs k) (cutT.getD (pick xs (2 + k) 6).toNat 0)).length ≤ _
      omega
theorem rowM_spec {m : Int} (hm : 0 < m) {n : Int} (hn : 0 ≤ n) : ∀ k, (rowM m n k).1.length = k ∧ (∀ x ∈ (rowM m n k).1, 0 ≤ x ∧ x < m) ∧ 0 ≤ (rowM m n k).2 ∧ (rowM m n k).2 ≤ n
  | 0 => by simp [rowM, hn]
  | k + 1 => by
    obtain ⟨h1, h2, h3, h4⟩ := rowM_spec hm hn k
    refine ⟨by simp [rowM, h1], fun x hx => ?_, ?_, ?_⟩
    · rcases List.mem_append.1 hx with h | h
      · exact h2 x h
      · simp at h; subst h
        exact ⟨Int.emod_nonneg _ (by omega), Int.emod_lt_of_pos _ hm⟩
    · show 0 ≤ (rowM m n k).2 / 7
      omega
    · show (rowM m n k).2 / 7 ≤ n
      omega
theorem manyM_rng (xs : List Int) : 1 ≤ manyM xs ∧ manyM xs ≤ 6 := by
  have h1 := pick_lo xs 0 (m := 6) (by omega)
  have h2 := pick_hi xs 0 (m := 6) (by omega)
  unfold manyM
  omega
theorem zero_head {cs : List Int} (hs : cs.Pairwise (· < ·)) (h0 : (0 : Int) ∈ cs) (hr : ∀ x ∈ cs, 0 ≤ x) : cs.getD 0 1 = 0 := by
  cases cs with
  | nil => simp at h0
  | cons x l =>
    have := hr x (by simp)
    rcases List.mem_cons.1 h0 with h | h
    · simp [h]
    · have := (List.pairwise_cons.1 hs).1 _ h
      omega
theorem madeA_few (xs : List Int) : (madeA xs).next.length ≤ 6 := by
  have := manyM_rng xs
  simp [madeA, nextM]
  omega
theorem madeA_ok (xs : List Int) : Ok (madeA xs) := by
  obtain ⟨h1, h2, h3, h4⟩ := cutM_spec xs (pick xs 1 4).toNat
  have hm := manyM_rng xs
  refine ⟨by have := madeA_few xs; omega, by simp [madeA, nextM]; omega, by simp [madeA, nextM, accM], zero_head h1 h3 (fun x hx => (h2 x hx).1), h1, fun x hx => (h2 x hx).2, fun l hl => ?_⟩
  simp only [madeA, nextM, List.mem_map, List.mem_range] at hl
  obtain ⟨s, _, rfl⟩ := hl
  obtain ⟨r1, r2, _, _⟩ := rowM_spec (m := manyM xs) (by omega) (pick_lo xs (5 + s) (m := 1048576) (by omega)) (cutsM xs).length
  refine ⟨r1, fun x hx => ?_⟩
  have := r2 x hx
  simp only [madeA, nextM, List.length_map, List.length_range]
  omega
theorem sl_lt {w : World} {v : Value} {n : Nat} {cs : List Value} (h : SL w 1 v n cs) (hn : 0 < n) {q : Nat} (hq : v.ownBlock = some q) : q < w.heap.size := by
  obtain ⟨hl, a, cap, rfl, h2, h3, h5, h4⟩ := h
  rcases h4 with h4 | ⟨b, off, rfl, h4⟩
  · omega
  · simp only [Value.ownBlock, Option.some.injEq] at hq
    subst hq
    have hc : cs[0]? = some (cs[0]'(by omega)) := List.getElem?_eq_getElem (by omega)
    exact World.block_lt_of_cell? _ _ (h4 0 _ hc)
section
variable {w w' : World} {v : Value}
set_option maxRecDepth 100000 in
set_option maxHeartbeats 16000000 in
theorem Made_calls {xs : List Int} (hx : ∀ x ∈ xs, IsI64 x) (h : SL w 1 v xs.length (ints xs)) : Calls Tryz.prog 40 #[v] w fun e w' => ∃ v', e = .returned v' ∧ AuV w' (madeA xs) v' ∧ Upd [] w w' := by
  have HX := Lib.hid (And.intro hx h)
  clear hx h
  go_enter Tryz.func40, Tryz.ntmps40
  go_upto_region 1 with fail
  have b1 := Blk.new w [.slice none 0 0, .slice none 0 0, .slice none 0 0] 39
  have u1 := (Upd.refl [] w).alloc (.cells #[.slice none 0 0, .slice none 0 0, .slice none 0 0] 39)
  change Blk (w.alloc (.cells #[.slice none 0 0, .slice none 0 0, .slice none 0 0] 39)) _ _ _ at b1
  generalize (w.alloc (.cells #[.slice none 0 0, .slice none 0 0, .slice none 0 0] 39)) = w1 at *
  have HB := Lib.hid (And.intro b1 u1)
  have HRB := Lib.hid (And.intro b1.lt (Nat.le_refl w.heap.size))
  clear b1 u1
  generalize hrb : w.heap.size = rb at *
  have HRQ := Lib.hid (Nat.le_of_eq hrb)
  clear hrb
  go_upto_region 2 with fail
  change Code.wp _ _ _ _ ((w1.alloc (.cells #[.int .i64 0] 3)).alloc (.cells #[.slice (some ⟨w1.heap.size, 0, none⟩) 1 1, .slice none 0 0, .slice none 0 0] 39))
  have HMS := Lib.hid (Mk.start w1)
  generalize ((w1.alloc (.cells #[.int .i64 0] 3)).alloc (.cells #[.slice (some ⟨w1.heap.size, 0, none⟩) 1 1, .slice none 0 0, .slice none 0 0] 39)) = wm at *
  generalize hab : w1.heap.size + 1 = ab at *
  generalize hcb : w1.heap.size = cb at HMS ⊢
  clear hab hcb
  have HPK := Lib.hid (show ∀ (w5 : World), Upd [] w1 w5 → ∀ i m : Int, 1 ≤ m → m ≤ 9223372036854775807 → Calls Tryz.prog 79 #[v, .int .i64 i, .int .i64 m] w5 fun e w' => e = .returned (.int .i64 (pick xs i m)) ∧ w5 = w' from fun w5 u5 i m h1 h2 => Pick_calls HX.out.1 ((HX.out.2.upd HB.out.2 (by simp)).upd u5 (by simp)) i m h1 h2)
  have HP0 := Lib.hid (HPK.out wm HMS.out.u 0 6 (by omega) (by omega))
  have HP1 := Lib.hid (HPK.out wm HMS.out.u 1 4 (by omega) (by omega))
  have a0 := pick_lo xs 0 (m := 6) (by omega)
  have a1 := pick_hi xs 0 (m := 6) (by omega)
  have c0 := pick_lo xs 1 (m := 4) (by omega)
  have c1 := pick_hi xs 1 (m := 4) (by omega)
  obtain ⟨n0, hn0⟩ : ∃ n0 : Nat, pick xs 0 6 = n0 := ⟨_, (Int.toNat_of_nonneg a0).symm⟩
  obtain ⟨n1, hn1⟩ : ∃ n1 : Nat, pick xs 1 4 = n1 := ⟨_, (Int.toNat_of_nonneg c0).symm⟩
  rw [hn0] at HP0 a1
  rw [hn1] at HP1 c1
  have HMM := Lib.hid (show manyM xs = ((1 + n0 : Nat) : Int) ∧ cutsM xs = cutM xs n1 by unfold manyM cutsM; rw [hn0, hn1]; exact ⟨by omega, by simp⟩)
  have b0 : n0 < 6 := by omega
  have d0 : n1 < 4 := by omega
  clear a0 a1 c0 c1 hn0 hn1
  go_upto_region 4 with (first | ((with_reducible refine HP0.out.mono ?_); rintro e _ ⟨rfl, rfl⟩) | ((with_reducible refine HP1.out.mono ?_); rintro e _ ⟨rfl, rfl⟩))
  clear HP0 HP1
  go_wp2_with fail
  go_loopw [6] (fun kv wr => ∃ (k : Nat) (cv : Value), kv = .int .i64 ((k + 1 : Nat) : Int) ∧ k ≤ n1 ∧ Hid (Mk 39 w1 ab cv (.slice none 0 0) (.slice none 0 0) (cutM xs k) [] [] [] wr)) (fun kv _ => n1 + 1 - (intOf kv).toNat)
  case atStart => exact ⟨0, _, rfl, Nat.zero_le _, Lib.hid HMS.out⟩
  case round =>
    obtain ⟨k, cv, rfl, hk, HI⟩ := hrel
    by_cases hlt : k < n1
    · have hli : ((k + 1 : Nat) : Int) < 1 + (n1 : Int) := by omega
      have a0 := pick_lo xs (2 + k) (m := 6) (by omega)
      have a1 := pick_hi xs (2 + k) (m := 6) (by omega)
      obtain ⟨n2, hn2⟩ : ∃ n2 : Nat, pick xs (2 + k) 6 = n2 := ⟨_, (Int.toNat_of_nonneg a0).symm⟩
      rw [hn2] at a1
      have b2 : n2 < 6 := by omega
      have HPQ := Lib.hid (show ∀ (w5 : World), Upd [] wr w5 → Calls Tryz.prog 79 #[v, .int .i64 (1 + ((k : Int) + 1)), .int .i64 6] w5 fun e w' => e = .returned (.int .i64 n2) ∧ w5 = w' from fun w5 u5 => by
        have := HPK.out w5 (HI.out.u.step u5) (1 + ((k : Int) + 1)) 6 (by omega) (by omega)
        rw [show (1 + ((k : Int) + 1)) = 2 + k by omega] at this ⊢
        rw [hn2] at this
        exact this)
      have HCM := Lib.hid (show cutM xs (k + 1) = putC (cutM xs k) (cutT.getD n2 0) by show putC _ _ = _; rw [hn2]; simp)
      have HPT := Lib.hid (show ∀ (w5 : World), Upd [] wr w5 → Calls Tryz.prog 78 #[cv, .int .i64 (cutT.getD n2 0)] w5 (SlF (cutM xs (k + 1)) cv w5) from fun w5 u5 => by
        rw [HCM.out]
        exact Put_callsF (HI.out.cu.upd u5 (by simp)) (by have := (cutM_spec xs k).2.2.2; omega) _)
      clear a0 a1 hn2 HCM
      have hct := cutT_rng n2
      have HT := Lib.hid (show (ints cutT)[n2]? = some (.int .i64 (cutT.getD n2 0)) from ints_gd (by simpa [cutT] using b2))
      generalize cutT.getD n2 0 = ct at *
      have q0 := HI.out.bx.cell (i := 0) rfl
      have qf : ∀ q, wr.frozen? ⟨ab, q, none⟩ = false := HI.out.bx.free
      go_upto_region 7 with fail
      refine wp_region_wa 12 11 (fun w' => ∃ x : Ext wr, w' = x.val) (by kernel_rfl) (by kernel_rfl) (Ext.of (by iterate 25 (first | exact Upd.refl _ _ | assumption | refine Upd.alloc ?_ _ | refine Upd.drew ?_ | refine Upd.drewN ?_ _ | refine Upd.dl ?_ | refine Upd.step ?_ (Ext.upd _) | refine Upd.nil ?_ | skip))) ?_
      (refine WA.free 0 rfl rfl (by kernel_rfl) (fun K hK => ?_); go_big_quiet_step (fail); refine wpQuiet_nil ?_; refine hK _ ?_; clear hK K)
      (refine WA.load 1 11 rfl rfl (by kernel_rfl) (by kernel_rfl) (fun K hK => ?_); go_big_quiet_step (fail); refine wpQuiet_nil ?_; refine hK _ ?_; clear hK K)
      (refine WA.free 3 rfl rfl (by kernel_rfl) (fun K hK => ?_); go_big_quiet_step (fail); refine wpQuiet_nil ?_; refine hK _ ?_; clear hK K); (refine WA.free 4 rfl rfl (by kernel_rfl) (fun K hK => ?_); go_big_quiet_step (fail); refine wpQuiet_nil ?_; refine hK _ ?_; clear hK K); (refine WA.free 5 rfl rfl (by kernel_rfl) (fun K hK => ?_); go_big_quiet_step (fail); refine wpQuiet_nil ?_; refine hK _ ?_; clear hK K)
      refine WA.two 2 6 (by kernel_rfl) (Do_.mk rfl (fun K hK => ?_)) (Do_.mk rfl (fun K hK => ?_))
      · go_wp2_with fail
        have HBT := Lib.hid (And.intro (show Blk ((wr.alloc (.cells #[.int .i64 1, .int .i64 97, .int .i64 98, .int .i64 99, .int .i64 255, .int .i64 40] 3)).drew) wr.heap.size (ints cutT) 3 from Blk.new wr (ints cutT) 3) (show Upd [] wr ((wr.alloc (.cells #[.int .i64 1, .int .i64 97, .int .i64 98, .int .i64 99, .int .i64 255, .int .i64 40] 3)).drew) from (by iterate 25 (first | exact Upd.refl _ _ | assumption | refine Upd.alloc ?_ _ | refine Upd.drew ?_ | refine Upd.drewN ?_ _ | refine Upd.dl ?_ | refine Upd.step ?_ (Ext.upd _) | refine Upd.nil ?_ | skip))))
        generalize ((wr.alloc (.cells #[.int .i64 1, .int .i64 97, .int .i64 98, .int .i64 99, .int .i64 255, .int .i64 40] 3)).drew) = w5 at *
        generalize wr.heap.size = tb at HBT ⊢
        refine WA.ext (fun x => Ext.of (HBT.out.2.step x.upd)) ?_
        refine WA.one 6 (by kernel_rfl) (Do_.mk rfl (fun K hK => ?_))
        go_wp2_with ((with_reducible refine (HPQ.out _ HBT.out.2).mono ?_); rintro e _ ⟨rfl, rfl⟩)
        refine WA.keep (Ext.of (by iterate 25 (first | exact Upd.refl _ _ | assumption | refine Upd.alloc ?_ _ | refine Upd.drew ?_ | refine Upd.drewN ?_ _ | refine Upd.dl ?_ | refine Upd.step ?_ (Ext.upd _) | refine Upd.nil ?_ | skip))) ?_
        (refine WA.free 7 rfl rfl (by kernel_rfl) (fun K hK => ?_); go_big_quiet_step (fail); refine wpQuiet_nil ?_; refine hK _ ?_; clear hK K)
        have hc8 := HBT.out.1.cell HT.out
        (refine WA.load 8 11 rfl rfl (by kernel_rfl) (by kernel_rfl) (fun K hK => ?_); go_big_quiet_step (fail); refine wpQuiet_nil ?_; refine hK _ ?_; clear hK K)
        refine WA.one 9 (by kernel_rfl) (Do_.mk rfl (fun K hK => ?_))
        go_wp2_with ((with_reducible refine (HPT.out _ HBT.out.2).mono ?_); rintro e w6 ⟨cv', rfl, s6, u6, k6⟩)
        obtain ⟨a6, c6, rfl, _⟩ := id s6.elems
        have H6 := Lib.hid (And.intro s6 (And.intro (HBT.out.2.step u6) k6))
        have q6 := H6.out.2.1.some q0 (by simp)
        have f6 : ∀ q, w6.frozen? ⟨ab, q, none⟩ = false := (HI.out.bx.upd H6.out.2.1 (by simp)).free
        refine WA.keep (Ext.of u6) ?_
        clear s6 k6
        refine WA.one 10 (by kernel_rfl) (Do_.mk rfl (fun K hK => ?_))
        go_wp2_with fail
        refine WA.keep (Ext.of (by iterate 25 (first | exact Upd.refl _ _ | assumption | refine Upd.alloc ?_ _ | refine Upd.drew ?_ | refine Upd.drewN ?_ _ | refine Upd.dl ?_ | refine Upd.step ?_ (Ext.upd _) | refine Upd.nil ?_ | skip))) ?_
        refine WA.one 11 (by kernel_rfl) (Do_.mk rfl (fun K hK => ?_))
        go_wp2_with fail
        refine WA.past (by kernel_rfl) ?_
        refine WA.nil (by kernel_rfl) ?_
        go_wp2_with fail
        refine ⟨⟨k + 1, _, by go_num, by omega, Lib.hid ((HI.out.quiet H6.out.2.1).cuts H6.out.1 (fun q hq => ?_))⟩, by simp [intOf]; omega⟩
        have hlt6 := sl_lt H6.out.1 (List.length_pos_of_mem (cutM_spec xs (k + 1)).2.2.1) hq
        rcases H6.out.2.2 q hq with h | h
        · obtain ⟨h1, h2, h3, h4⟩ := HI.out.cn q h
          exact ⟨h1, h2, h3, h4, hlt6⟩
        · have := HI.out.u.size
          have := HBT.out.2.size
          have := HI.out.bx.lt
          exact ⟨by omega, by omega, by simp [Value.ownBlock], by simp [Value.ownBlock], hlt6⟩
      · go_wp2_with ((with_reducible refine (HPQ.out _ (by iterate 25 (first | exact Upd.refl _ _ | assumption | refine Upd.alloc ?_ _ | refine Upd.drew ?_ | refine Upd.drewN ?_ _ | refine Upd.dl ?_ | refine Upd.step ?_ (Ext.upd _) | refine Upd.nil ?_ | skip))).mono ?_); rintro e _ ⟨rfl, rfl⟩)
        refine WA.keep (Ext.of (by iterate 25 (first | exact Upd.refl _ _ | assumption | refine Upd.alloc ?_ _ | refine Upd.drew ?_ | refine Upd.drewN ?_ _ | refine Upd.dl ?_ | refine Upd.step ?_ (Ext.upd _) | refine Upd.nil ?_ | skip))) ?_
        refine WA.one 2 (by kernel_rfl) (Do_.mk rfl (fun K hK => ?_))
        go_wp2_with fail
        have HBT := Lib.hid (And.intro (show Blk ((wr.alloc (.cells #[.int .i64 1, .int .i64 97, .int .i64 98, .int .i64 99, .int .i64 255, .int .i64 40] 3)).drew) wr.heap.size (ints cutT) 3 from Blk.new wr (ints cutT) 3) (show Upd [] wr ((wr.alloc (.cells #[.int .i64 1, .int .i64 97, .int .i64 98, .int .i64 99, .int .i64 255, .int .i64 40] 3)).drew) from (by iterate 25 (first | exact Upd.refl _ _ | assumption | refine Upd.alloc ?_ _ | refine Upd.drew ?_ | refine Upd.drewN ?_ _ | refine Upd.dl ?_ | refine Upd.step ?_ (Ext.upd _) | refine Upd.nil ?_ | skip))))
        generalize ((wr.alloc (.cells #[.int .i64 1, .int .i64 97, .int .i64 98, .int .i64 99, .int .i64 255, .int .i64 40] 3)).drew) = w5 at *
        generalize wr.heap.size = tb at HBT ⊢
        refine WA.ext (fun x => Ext.of (HBT.out.2.step x.upd)) ?_
        (refine WA.free 7 rfl rfl (by kernel_rfl) (fun K hK => ?_); go_big_quiet_step (fail); refine wpQuiet_nil ?_; refine hK _ ?_; clear hK K)
        have hc8 := HBT.out.1.cell HT.out
        (refine WA.load 8 11 rfl rfl (by kernel_rfl) (by kernel_rfl) (fun K hK => ?_); go_big_quiet_step (fail); refine wpQuiet_nil ?_; refine hK _ ?_; clear hK K)
        refine WA.one 9 (by kernel_rfl) (Do_.mk rfl (fun K hK => ?_))
        go_wp2_with ((with_reducible refine (HPT.out _ HBT.out.2).mono ?_); rintro e w6 ⟨cv', rfl, s6, u6, k6⟩)
        obtain ⟨a6, c6, rfl, _⟩ := id s6.elems
        have H6 := Lib.hid (And.intro s6 (And.intro (HBT.out.2.step u6) k6))
        have q6 := H6.out.2.1.some q0 (by simp)
        have f6 : ∀ q, w6.frozen? ⟨ab, q, none⟩ = false := (HI.out.bx.upd H6.out.2.1 (by simp)).free
        refine WA.keep (Ext.of u6) ?_
        clear s6 k6
        refine WA.one 10 (by kernel_rfl) (Do_.mk rfl (fun K hK => ?_))
        go_wp2_with fail
        refine WA.keep (Ext.of (by iterate 25 (first | exact Upd.refl _ _ | assumption | refine Upd.alloc ?_ _ | refine Upd.drew ?_ | refine Upd.drewN ?_ _ | refine Upd.dl ?_ | refine Upd.step ?_ (Ext.upd _) | refine Upd.nil ?_ | skip))) ?_
        refine WA.one 11 (by kernel_rfl) (Do_.mk rfl (fun K hK => ?_))
        go_wp2_with fail
        refine WA.past (by kernel_rfl) ?_
        refine WA.nil (by kernel_rfl) ?_
        go_wp2_with fail
        refine ⟨⟨k + 1, _, by go_num, by omega, Lib.hid ((HI.out.quiet H6.out.2.1).cuts H6.out.1 (fun q hq => ?_))⟩, by simp [intOf]; omega⟩
        have hlt6 := sl_lt H6.out.1 (List.length_pos_of_mem (cutM_spec xs (k + 1)).2.2.1) hq
        rcases H6.out.2.2 q hq with h | h
        · obtain ⟨h1, h2, h3, h4⟩ := HI.out.cn q h
          exact ⟨h1, h2, h3, h4, hlt6⟩
        · have := HI.out.u.size
          have := HBT.out.2.size
          have := HI.out.bx.lt
          exact ⟨by omega, by omega, by simp [Value.ownBlock], by simp [Value.ownBlock], hlt6⟩
    · have hke : k = n1 := by omega
      subst hke
      have hni : ¬ (((k + 1 : Nat) : Int) < 1 + (k : Int)) := by omega
      obtain ⟨cva, cvc, rfl, _⟩ := id HI.out.cu.elems
      have HI2 := Lib.hid (show Mk 39 w1 ab (.slice cva (cutsM xs).length cvc) (.slice none 0 0) (.slice none 0 0) (cutsM xs) [] [] [] wr by rw [HMM.out.2]; exact HI.out)
      have hcl : (cutsM xs).length ≤ 4 := by rw [HMM.out.2]; have := (cutM_spec xs k).2.2.2; omega
      go_wp2_with fail
      go_loopw [7] (fun kv wr2 => ∃ (s : Nat) (nv av : Value) (F : List Nat), kv = .int .i64 s ∧ s ≤ 1 + n0 ∧ Hid (Mk 39 w1 ab (.slice cva (cutsM xs).length cvc) nv av (cutsM xs) (nextM xs s) (accM xs s) F wr2)) (fun kv _ => 1 + n0 - (intOf kv).toNat)
      case atStart => exact ⟨0, _, _, [], rfl, Nat.zero_le _, Lib.hid HI2.out⟩
      case round =>
        obtain ⟨s, nv, av, F, rfl, hs, HJ⟩ := hrel
        by_cases hsl : s < 1 + n0
        · have hsli : (s : Int) < 1 + (n0 : Int) := by omega
          have e0 := pick_lo xs (5 + s) (m := 1048576) (by omega)
          have e1 := pick_hi xs (5 + s) (m := 1048576) (by omega)
          have HP5 := Lib.hid (HPK.out _ HJ.out.u (5 + s) 1048576 (by omega) (by omega))
          have HNT := Lib.hid (show nthM xs s = rowM ((1 + n0 : Nat) : Int) (pick xs (5 + s) 1048576) (cutsM xs).length by unfold nthM; rw [HMM.out.1])
          generalize pick xs (5 + s) 1048576 = n at *
          have HN := Lib.hid e0
          have hm0 : (0 : Int) < 1 + (n0 : Int) := by omega
          obtain ⟨wo, rfl⟩ : ∃ wo : World, wo = wr := ⟨_, rfl⟩
          clear HI HI2
          go_wp2_with ((with_reducible refine HP5.out.mono ?_); rintro e _ ⟨rfl, rfl⟩)
          go_loopw [8, 9, 10] (fun s8 s9 s10 wr3 => ∃ (k2 : Nat) (nn : Int), s9 = .int .i64 nn ∧ s10 = .int .i64 k2 ∧ k2 ≤ (cutsM xs).length ∧ 0 ≤ nn ∧ nn ≤ 1048576 ∧ Hid (nn = (rowM ((1 + n0 : Nat) : Int) n k2).2 ∧ OwW 3 1 k2 wo (.slice none 0 0) s8 (ints (rowM ((1 + n0 : Nat) : Int) n k2).1) wr3)) (fun _ _ s10 _ => (cutsM xs).length - (intOf s10).toNat)
          case atStart => exact ⟨0, n, rfl, rfl, Nat.zero_le _, e0, by omega, Lib.hid ⟨rfl, OwW.nil _ _ _⟩⟩
          case round =>
            obtain ⟨k2, nn, rfl, rfl, hk2, hn0, hn1, HR⟩ := hrel
            have HJ3 := Lib.hid (HJ.out.quiet HR.out.2.fresh)
            have q0 := HJ3.out.bx.cell (i := 0) rfl
            by_cases hk3 : k2 < (cutsM xs).length
            · have hk3i : (k2 : Int) < (cutsM xs).length := by omega
              have hd0 : 0 ≤ nn % (1 + (n0 : Int)) := Int.emod_nonneg _ (by omega)
              have hd1 : nn % (1 + (n0 : Int)) < 1 + (n0 : Int) := Int.emod_lt_of_pos _ hm0
              have HK2 := Lib.hid (show k2 ≤ 4 by omega)
              go_wp2_with (refine wpList_push rfl rfl _ _ _ _ rfl rfl rfl 3 1 8 _ Tryz.underlying22 infoInt rfl (by decide) (by decide) (.int .i64 (nn % (1 + (n0 : Int)))) [.int .i64 (nn % (1 + (n0 : Int)))] rfl rfl rfl (by simp [Value.oneCell']) u8 _ _ HR.out.2.row rfl rfl (by have := HK2.out; unfold maxLen; omega) (by have := HK2.out; omega) ?_; intro g7 c7 w7 o7 u7 k7; have HW := Lib.hid (HR.out.2.push o7 u7 k7); clear o7 u7 k7)
              refine ⟨⟨k2 + 1, nn / 7, by go_num, by go_num, by omega, by omega, by omega, Lib.hid ⟨?_, ?_⟩⟩, by simp [intOf]; omega⟩
              · show _ = (rowM ((1 + n0 : Nat) : Int) n k2).2 / 7
                rw [← HR.out.1]
              · have hw := HW.out
                rw [show rowM ((1 + n0 : Nat) : Int) n (k2 + 1) = ((rowM ((1 + n0 : Nat) : Int) n k2).1 ++ [(rowM ((1 + n0 : Nat) : Int) n k2).2 % ((1 + n0 : Nat) : Int)], (rowM ((1 + n0 : Nat) : Int) n k2).2 / 7) from rfl, ← HR.out.1]
                simpa [ints] using hw
            · have hke : k2 = (cutsM xs).length := by omega
              subst hke
              have hni3 : ¬ (((cutsM xs).length : Int) < (cutsM xs).length) := by omega
              have hrl := (rowM_spec (m := ((1 + n0 : Nat) : Int)) (by omega) HN.out (cutsM xs).length).1
              rw [← HNT.out] at hrl
              have HRW := Lib.hid (show nn = (nthM xs s).2 ∧ OwW 3 1 (nthM xs s).1.length wo (.slice none 0 0) u8 (ints (nthM xs s).1) wr by rw [hrl, HNT.out]; exact HR.out)
              have HNX := Lib.hid (show nextM xs (s + 1) = nextM xs s ++ [(nthM xs s).1] ∧ accM xs (s + 1) = accM xs s ++ [(nthM xs s).2 % 3 == 0] ∧ (nextM xs s).length = s ∧ (accM xs s).length = s by simp [nextM, accM, List.range_succ])
              obtain ⟨ra, rc, rfl, _⟩ := id HRW.out.2.form
              clear HR HNT hrl
              generalize nthM xs s = rw_ at *
              generalize nextM xs s = ns at *
              generalize accM xs s = bs at *
              obtain ⟨vals, hv1, hv2⟩ := id HJ3.out.tb.ex
              have HV := Lib.hid (And.intro hv1 hv2)
              clear hv1 hv2
              have q1 := HJ3.out.bx.cell (i := 1) rfl
              have HSL := Lib.hid (show s ≤ 6 by omega)
              go_upto_region 19 with (refine wpList_push rfl rfl _ _ _ _ rfl rfl rfl 22 1 24 _ Tryz.underlying28 infoInts rfl (by decide) (by decide) (.slice ra rw_.1.length rc) [.slice ra rw_.1.length rc] rfl rfl rfl (by simp [Value.oneCell']) nv _ _ HV.out.1.row rfl rfl (by have := HSL.out; have := HNX.out.2.2.1; unfold maxLen; omega) (by have := HSL.out; have := HNX.out.2.2.1; omega) ?_; intro g7 c7 w7 o7 u7 k7; have bx7 := HJ3.out.bx.upd u7 (fun hm => HJ3.out.nn.2.1 (by simpa using hm)); have p1 := bx7.cell (i := 1) rfl; have pf : ∀ q, w7.frozen? ⟨ab, q, none⟩ = false := bx7.free; have HO7 := Lib.hid (And.intro o7 (And.intro u7 k7)); clear o7 u7 k7 bx7)
              have HM2 := Lib.hid (HJ3.out.row HV.out.1 HV.out.2 HRW.out.2.sl (fun b hb => by
                have hz := HJ.out.u.size
                rcases HRW.out.2.old b hb with h | h
                · simp [Value.ownBlock] at h
                · refine ⟨by omega, fun e => ?_, fun e => ?_, fun e => ?_, HRW.out.2.lt hb⟩
                  · have := HJ.out.bx.lt; omega
                  · have := (HJ.out.nv_new _ e).2; omega
                  · have := (HJ.out.ac.lt _ e).2; omega) HO7.out.1 HO7.out.2.1 HO7.out.2.2)
              generalize (w7.setCell ⟨ab, 1, none⟩ (.slice (some ⟨g7, 0, none⟩) (ns.length + 1) c7)) = w8 at *
              clear p1 pf q1
              have q2 := HM2.out.bx.cell (i := 2) rfl
              go_upto_region 10 with (refine wpList_push rfl rfl _ _ _ _ rfl rfl rfl 4 1 1 _ Tryz.underlying29 infoBool rfl (by decide) (by decide) (.bool (nn % 3 == 0)) [.bool (nn % 3 == 0)] rfl rfl rfl (by simp [Value.oneCell']) av _ _ HM2.out.ac rfl rfl (by have := HSL.out; have := HNX.out.2.2.2; unfold maxLen; omega) (by have := HSL.out; have := HNX.out.2.2.2; omega) ?_; intro g9 c9 w9 o9 u9 k9; have bx9 := HM2.out.bx.upd u9 (fun hm => (HM2.out.an ab (by simpa using hm)).2.1 rfl); have p2 := bx9.cell (i := 2) rfl; have pf : ∀ q, w9.frozen? ⟨ab, q, none⟩ = false := bx9.free; have HO9 := Lib.hid (And.intro o9 (And.intro u9 k9)); clear o9 u9 k9 bx9)
              have HM3 := Lib.hid (HM2.out.flag HO9.out.1 HO9.out.2.1 HO9.out.2.2)
              clear p2 pf q2
              go_wp2_with fail
              refine ⟨⟨s + 1, .slice (some ⟨g7, 0, none⟩) (ns.length + 1) c7, .slice (some ⟨g9, 0, none⟩) (bs.length + 1) c9, F ++ (Value.slice ra rw_.1.length rc).ownBlock.toList, by go_num, by omega, Lib.hid (by rw [HNX.out.1, HNX.out.2.1, ← HRW.out.1]; exact HM3.out)⟩, by simp [intOf]; omega⟩
        · have hse : s = 1 + n0 := by omega
          subst hse
          have hni2 : ¬ (((1 + n0 : Nat) : Int) < 1 + (n0 : Int)) := by omega
          have HMA := Lib.hid (show madeA xs = ⟨cutsM xs, nextM xs (1 + n0), accM xs (1 + n0)⟩ by unfold madeA; rw [HMM.out.1]; rfl)
          obtain ⟨a2', c2', rfl, _⟩ := id HJ.out.tb.cl.form
          obtain ⟨a3', c3', rfl, _⟩ := id (SL.of_owns HJ.out.ac).elems
          have q0 := HJ.out.bx.cell (i := 0) rfl
          have q1 := HJ.out.bx.cell (i := 1) rfl
          have q2 := HJ.out.bx.cell (i := 2) rfl
          have bR := HB.out.1.upd HJ.out.u (by simp)
          have r0 := bR.cell (i := 0) rfl
          have r1 := bR.cell (i := 1) rfl
          have r2 := bR.cell (i := 2) rfl
          have rf : ∀ q, wr.frozen? ⟨rb, q, none⟩ = false := bR.free
          have HBR := Lib.hid bR
          clear bR
          go_wp2_with fail
          have hs3 := cell3_set (a := .slice cva (cutsM xs).length cvc) (b := .slice a2' (nextM xs (1 + n0)).length c2') (c := .slice a3' (accM xs (1 + n0)).length c3') HBR.out
          have hlt1 := HRB.out.1
          rw [HMA.out]
          refine ret_plain rfl rfl hs3.1 rfl ⟨_, _, _, rfl, ?_, ?_, ?_⟩ ((HB.out.2.step HJ.out.u).fresh hs3.2 (fun b hb => .inr (by simp at hb; subst hb; exact HRQ.out)))
          · exact HJ.out.cu.upd hs3.2 (fun b hb hv => by simp at hb; subst hb; have := (HJ.out.cn _ hv).1; omega)
          · exact (HJ.out.tb.upd hs3.2 (fun b hb => by
              simp at hb; subst hb
              refine ⟨fun hf => ?_, fun hv => ?_⟩
              · have := HJ.out.fn _ hf; omega
              · have := (HJ.out.nv_new _ hv).1; omega)).cl
          · exact SL.of_owns (ownsRow_updL HJ.out.ac hs3.2 (fun b hb hv => by simp at hb; subst hb; have := (HJ.out.an _ hv).1; omega))
end
end Aut
end Go.Proofs.YtjclbjdkkdijbaaGreat
end
section
open Go.RowKit
namespace Go.Proofs.YtjclbjdkkdijbaaGreat
open L
namespace Aut
open Auto R01 Rgx Rx
attribute [-go_sem] sliced
def rS : Rx := nd 7 0 0 [nd 2 97 97 []]
def aS : Au := ⟨[0, 97, 98], [[1, 0, 1], [1, 1, 1]], [true, false]⟩
theorem rS_err : nErr rS = 0 := by kernel_rfl
theorem rS_res : nRes rS = rS := by kernel_rfl
theorem rS_cuts : srtC (0 :: cutB (nRes rS)) = [0, 97, 98] := by rw [srtC_put, rS_res]; kernel_rfl
theorem rS_upTo : upTo (some rS) 3 (nxO (nxR [0, 97, 98])) 2 = ([rS, rNone].map some, [[1, 0, 1], [1, 1, 1]]) := by kernel_rfl
theorem rS_of : ofE rS = 0 ∧ ofA rS = aS := by
  have h := numO_done rS_upTo (by decide) (by decide)
  unfold ofE ofA
  rw [if_neg (by simp [rS_err]), if_neg (by simp [rS_err]), rS_cuts, rS_res]
  rw [show ([0, 97, 98] : List Int).length = 3 from rfl, h]
  exact ⟨rfl, by kernel_rfl⟩
theorem aS_v : vErr aS = 0 := by decide
theorem aS_least : lstS aS = ⟨#[]⟩ ∧ lstB aS = true := by
  have h := leastA_at (a := aS) (i := 0) (e := (0, [])) (by decide) rfl rfl (fun j e' hj => by omega)
  unfold lstS lstB
  rw [if_neg (by simp [aS_v]), if_neg (by simp [aS_v]), h]
  exact ⟨rfl, rfl⟩
theorem cS : compA aS = ⟨[0, 97, 98], [[1, 0, 1], [1, 1, 1]], [false, true]⟩ := by unfold compA; rw [if_neg (by simp [aS_v])]; rfl
theorem cS_v : vErr (compA aS) = 0 := by rw [cS]; decide
theorem cS_least : lstS (compA aS) = ⟨#[0]⟩ ∧ lstB (compA aS) = true := by
  have hq : bfsQ (compA aS) 1 = [(0, []), (1, [0])] := by rw [cS]; decide
  have h := leastA_at (a := compA aS) (i := 1) (e := (1, [0])) (by decide) (by rw [hq]; rfl) (by rw [cS]; rfl) (fun j e' hj he => by
    have : j = 0 := by omega
    subst this
    rw [hq] at he
    cases he
    rw [cS]; rfl)
  unfold lstS lstB
  rw [if_neg (by simp [cS_v]), if_neg (by simp [cS_v]), h]
  exact ⟨rfl, rfl⟩
theorem aS_left : leftE aS 0 5 = 0 ∧ leftR aS 0 5 = [true, true, true, true, true, true] := by decide
def cA : Au := ⟨[0, 97, 98], [[1, 0, 1], [1, 1, 1]], [false, true]⟩
theorem aS_shape {w : World} {v : Value} (h : AuV w aS v) : ∃ a1 c1 a2 c2 a3 c3, v = .agg #[.slice a1 3 c1, .slice a2 2 c2, .slice a3 2 c3] ∧ AuF w aS [.slice a1 3 c1, .slice a2 2 c2, .slice a3 2 c3] := h.shape
theorem cA_shape {w : World} {v : Value} (h : AuV w (compA aS) v) : ∃ a1 c1 a2 c2 a3 c3, v = .agg #[.slice a1 3 c1, .slice a2 2 c2, .slice a3 2 c3] ∧ AuF w cA [.slice a1 3 c1, .slice a2 2 c2, .slice a3 2 c3] := by
  rw [cS] at h
  exact AuV.shape (a := cA) h
theorem cA_least : vErr cA = 0 ∧ lstS cA = ⟨#[0]⟩ ∧ lstB cA = true := by
  have h1 := cS_v
  have h2 := cS_least
  rw [cS] at h1 h2
  exact ⟨h1, h2⟩
section
variable {w : World}
theorem rS_V {w : World} {g c : Nat} (h : Blk w g [.int .i64 2, .int .u8 97, .int .u8 97, .slice none 0 0] 37) (hc : 1 ≤ c) (hm : c ≤ maxLen) : RxV [] w rS (.agg #[.int .i64 7, .int .u8 0, .int .u8 0, .slice (some ⟨g, 0, none⟩) 1 c]) := by
  refine RxV.iff.2 ⟨_, rfl, ⟨⟨by decide, by decide⟩, by omega, by omega⟩, fun _ => rxC 2 97 97 (.slice none 0 0), ⟨rfl, _, c, rfl, hc, hm, by simp, .inr ⟨g, 0, rfl, fun j u hj => ?_⟩⟩, fun _ => rfl, fun g' _ _ => by simp, fun i r hi => ?_⟩
  · rw [Nat.zero_add]; exact h.cell hj
  · have : i = 0 := by
      have := (List.getElem?_eq_some_iff.1 hi).1
      simpa using this
    subst this
    simp at hi
    subst hi
    exact RxF.iff.2 ⟨_, rfl, ⟨⟨by decide, by decide⟩, by omega, by omega⟩, RxL.nil0⟩
set_option maxRecDepth 100000 in
set_option maxHeartbeats 16000000 in
theorem lives_calls : Calls Tryz.prog 18 #[] w fun e w' => e = .returned (.bool true) ∧ Upd [] w w' := by
  go_enter Tryz.func18, Tryz.ntmps18
  go_upto_region 2 with fail
  change Code.wp _ _ _ _ ((w.alloc (.cells #[.int .i64 2, .int .u8 97, .int .u8 97, .slice none 0 0] 37)).alloc (.cells #[.int .i64 7, .int .u8 0, .int .u8 0, .slice (some ⟨w.heap.size, 0, none⟩) 1 1] 37))
  have bK := (Blk.new w [.int .i64 2, .int .u8 97, .int .u8 97, .slice none 0 0] 37).alloc (.cells #[.int .i64 7, .int .u8 0, .int .u8 0, .slice (some ⟨w.heap.size, 0, none⟩) 1 1] 37)
  have bS := Blk.new (w.alloc (.cells #[.int .i64 2, .int .u8 97, .int .u8 97, .slice none 0 0] 37)) [.int .i64 7, .int .u8 0, .int .u8 0, .slice (some ⟨w.heap.size, 0, none⟩) 1 1] 37
  have u1 := ((Upd.refl [] w).alloc (.cells #[.int .i64 2, .int .u8 97, .int .u8 97, .slice none 0 0] 37)).alloc (.cells #[.int .i64 7, .int .u8 0, .int .u8 0, .slice (some ⟨w.heap.size, 0, none⟩) 1 1] 37)
  have z1 : (w.alloc (.cells #[.int .i64 2, .int .u8 97, .int .u8 97, .slice none 0 0] 37)).heap.size = w.heap.size + 1 := by simp
  rw [z1] at bS
  change Blk ((w.alloc (.cells #[.int .i64 2, .int .u8 97, .int .u8 97, .slice none 0 0] 37)).alloc (.cells #[.int .i64 7, .int .u8 0, .int .u8 0, .slice (some ⟨w.heap.size, 0, none⟩) 1 1] 37)) _ _ _ at bS
  generalize ((w.alloc (.cells #[.int .i64 2, .int .u8 97, .int .u8 97, .slice none 0 0] 37)).alloc (.cells #[.int .i64 7, .int .u8 0, .int .u8 0, .slice (some ⟨w.heap.size, 0, none⟩) 1 1] 37)) = w1 at *
  have HU1 := Lib.hid u1
  have HOF := Lib.hid (Of_calls (rS_V bK (Nat.le_refl _) (by decide)))
  rw [rS_of.1, rS_of.2] at HOF
  have s0 := bS.cell (i := 0) rfl
  have s1 := bS.cell (i := 1) rfl
  have s2 := bS.cell (i := 2) rfl
  have s3 := bS.cell (i := 3) rfl
  clear bK bS u1 z1
  generalize w.heap.size = sb at *
  go_upto_region 3 with ((with_reducible refine HOF.out.mono ?_); rintro e w2 ⟨v2, rfl, hA, u2⟩; obtain ⟨a1, c1, a2, c2, a3, c3, rfl, hF⟩ := aS_shape hA; have HF := Lib.hid (And.intro hF (HU1.out.step u2)); clear hA hF u2)
  change Code.wp _ _ _ _ (w2.alloc (.cells #[.slice a1 3 c1, .slice a2 2 c2, .slice a3 2 c3] 31))
  have b3 := Blk.new w2 [.slice a1 3 c1, .slice a2 2 c2, .slice a3 2 c3] 31
  have u3 := (Upd.refl [] w2).alloc (.cells #[.slice a1 3 c1, .slice a2 2 c2, .slice a3 2 c3] 31)
  change Blk (w2.alloc (.cells #[.slice a1 3 c1, .slice a2 2 c2, .slice a3 2 c3] 31)) _ _ _ at b3
  generalize (w2.alloc (.cells #[.slice a1 3 c1, .slice a2 2 c2, .slice a3 2 c3] 31)) = w3 at *
  generalize w2.heap.size = ab at *
  have HF3 := Lib.hid (And.intro (HF.out.1.ext u3) (HF.out.2.step u3))
  have k0 := b3.cell (i := 0) rfl
  have k1 := b3.cell (i := 1) rfl
  have k2 := b3.cell (i := 2) rfl
  have HL := Lib.hid (Least_calls (a := aS) ⟨_, rfl, HF3.out.1⟩)
  rw [aS_least.1, aS_least.2, aS_v] at HL
  clear b3 u3 s0 s1 s2 s3 HOF HF
  go_upto_region 4 with ((with_reducible refine HL.out.mono ?_); rintro e w4 ⟨rfl, u4⟩)
  have HF4 := Lib.hid (And.intro (HF3.out.1.ext u4) (HF3.out.2.step u4))
  have m0 := u4.some k0 (by simp)
  have m1 := u4.some k1 (by simp)
  have m2 := u4.some k2 (by simp)
  have HLN := Lib.hid (Lengths_calls (a := aS) (most := 5) ⟨_, rfl, HF4.out.1⟩)
  rw [aS_left.1, aS_left.2] at HLN
  clear u4 k0 k1 k2 HL HF3
  go_upto_region 5 with ((with_reducible refine HLN.out.mono ?_); rintro e w5 ⟨v5, rfl, hs5, u5⟩; obtain ⟨a5, c5, rfl, _⟩ := id hs5.elems; have HS5 := Lib.hid hs5; clear hs5)
  have HF5 := Lib.hid (And.intro (HF4.out.1.ext u5) (HF4.out.2.step u5))
  have n0 := u5.some m0 (by simp)
  have n1 := u5.some m1 (by simp)
  have n2 := u5.some m2 (by simp)
  have HCM := Lib.hid (Complement_calls (a := aS) ⟨_, rfl, HF5.out.1⟩)
  rw [aS_v] at HCM
  clear u5 m0 m1 m2 HLN HF4
  go_upto_region 6 with ((with_reducible refine HCM.out.mono ?_); rintro e w6 ⟨v6, rfl, hC, u6⟩; obtain ⟨d1, e1, d2, e2, d3, e3, rfl, hG⟩ := cA_shape hC; have HG := Lib.hid (And.intro hG u6); clear hC hG u6)
  change Code.wp _ _ _ _ (w6.alloc (.cells #[.slice d1 3 e1, .slice d2 2 e2, .slice d3 2 e3] 31))
  have b7 := Blk.new w6 [.slice d1 3 e1, .slice d2 2 e2, .slice d3 2 e3] 31
  have u7 := (Upd.refl [] w6).alloc (.cells #[.slice d1 3 e1, .slice d2 2 e2, .slice d3 2 e3] 31)
  change Blk (w6.alloc (.cells #[.slice d1 3 e1, .slice d2 2 e2, .slice d3 2 e3] 31)) _ _ _ at b7
  generalize (w6.alloc (.cells #[.slice d1 3 e1, .slice d2 2 e2, .slice d3 2 e3] 31)) = w7 at *
  generalize w6.heap.size = db at *
  have HU7 := Lib.hid (HG.out.2.step u7)
  have k0 := b7.cell (i := 0) rfl
  have k1 := b7.cell (i := 1) rfl
  have k2 := b7.cell (i := 2) rfl
  have HL2 := Lib.hid (Least_calls (a := cA) ⟨_, rfl, HG.out.1.ext u7⟩)
  rw [cA_least.1, cA_least.2.1, cA_least.2.2] at HL2
  clear b7 HCM
  go_upto_region 7 with ((with_reducible refine HL2.out.mono ?_); rintro e w8 ⟨rfl, u8⟩; have HU8 := Lib.hid (HU7.out.step u8); have HU9 := Lib.hid (u7.step u8); clear u8)
  have q0 := HU8.out.some n0 (by simp)
  have q1 := HU8.out.some n1 (by simp)
  have q2 := HU8.out.some n2 (by simp)
  have HF8 := Lib.hid (And.intro (HF5.out.1.ext HU8.out) (HF5.out.2.step HU8.out))
  have HS8 := Lib.hid (HS5.out.upd HU8.out (by simp))
  go_upto_region 9 with fail
  obtain ⟨g3, o3, he3, x0⟩ := HF8.out.1.acc (i := 0) (by decide)
  obtain ⟨g3', o3', he3', x1⟩ := HF8.out.1.acc (i := 1) (by decide)
  rw [he3] at he3'
  cases he3'
  cases he3
  obtain ⟨_, _, he5, _, _, hc5⟩ := HS8.out.elems
  cases he5
  obtain ⟨g5, o5, rfl, hc6⟩ := hc5 (by decide)
  have y0 := hc6 0 _ rfl
  have y5 := hc6 5 _ rfl
  have hs1 : SL w8 1 (.slice a1 3 c1) ([0, 97, 98] : List Int).length (ints [0, 97, 98]) := by
    obtain ⟨_, _, _, he, h, _, _⟩ := HF8.out.1
    cases he
    exact h
  have uB := (Upd.refl [] w8).alloc (.cells #[.int .i64 0, .int .i64 97, .int .i64 98] 3)
  have hs2 : SL (w8.alloc (.cells #[.int .i64 0, .int .i64 97, .int .i64 98] 3)) 1 (.slice (some ⟨w8.heap.size, 0, none⟩) 3 3) ([0, 97, 98] : List Int).length (ints [0, 97, 98]) := SL.of_blk (pad := []) (k := 1) (n := 3) (cap := 3) (xs := ints [0, 97, 98]) (Blk.new w8 (ints [0, 97, 98]) 3) rfl (Nat.le_refl _) (by decide)
  have HSI := Lib.hid (SameInts_calls (hs1.upd uB (by simp)) hs2)
  have x0 : w8.cell? ⟨g3, o3, none⟩ = some (.bool true) := x0
  have x1 : w8.cell? ⟨g3, o3 + 1, none⟩ = some (.bool false) := x1
  have y0 : w8.cell? ⟨g5, o5, none⟩ = some (.bool true) := y0
  have y5 : w8.cell? ⟨g5, o5 + 5, none⟩ = some (.bool true) := y5
  have z0 := uB.some x0 (by simp)
  have z1 := uB.some x1 (by simp)
  have z2 := uB.some q2 (by simp)
  have z3 := uB.some y0 (by simp)
  have z4 := uB.some y5 (by simp)
  go_wp2_with ((with_reducible refine HSI.out.mono ?_); rintro e w9 ⟨rfl, u9⟩; have j0 := u9.some z0 (by simp); have j1 := u9.some z1 (by simp); have j2 := u9.some z2 (by simp); have j3 := u9.some z3 (by simp); have j4 := u9.some z4 (by simp))
  go_ret
  exact ⟨by first | rfl | simp [aS], (HF8.out.2.step uB).step u9⟩
end
end Aut
end Go.Proofs.YtjclbjdkkdijbaaGreat
end
section
open Go.RowKit
namespace Go.Proofs.YtjclbjdkkdijbaaGreat
open L
namespace Auto
theorem Ok.v {a : Au} (h : Ok a) : vErr a = 0 := by
  have hl : 0 < a.cuts.length := by
    have := h.mem0
    exact List.length_pos_of_mem this
  have hz : a.cuts.getD 0 0 = 0 := by
    have := h.zero
    rw [List.getD_eq_getElem?_getD, List.getElem?_eq_getElem hl] at this ⊢
    simpa using this
  have h1 := h.few
  have h2 := h.some_
  have h3 := h.acc
  unfold vErr
  rw [if_neg (by omega), if_neg (by rw [hz]; omega), if_neg, if_neg]
  · exact fun hn => hn h.rows
  · intro hn
    refine hn fun i hi h1 => ?_
    have hg : ∀ j, (hj : j < a.cuts.length) → a.cuts.getD j 0 = a.cuts[j] := fun j hj => by rw [List.getD_eq_getElem?_getD, List.getElem?_eq_getElem hj]; rfl
    rw [hg (i - 1) (by omega), hg i hi]
    exact ⟨List.pairwise_iff_getElem.1 h.inc (i - 1) i (by omega) hi (by omega), h.top _ (List.getElem_mem hi)⟩
section
variable {α : Type} [DecidableEq α]
theorem upTo_rowlen (first : α) (m : Nat) (nx : α → Nat → α) : ∀ i, ∀ r ∈ (upTo first m nx i).2, r.length = m
  | 0, r, hr => by simp [upTo] at hr
  | i + 1, r, hr => by
    rw [upTo] at hr
    cases hs : (upTo first m nx i).1[i]? with
    | none => rw [hs] at hr; exact upTo_rowlen first m nx i r hr
    | some s =>
      rw [hs] at hr
      rcases List.mem_append.1 hr with h | h
      · exact upTo_rowlen first m nx i r h
      · simp at h; subst h; exact scan_len _ _ _
end
/-- Pairs of few states are few. -/
theorem pairs_few {l : List (Nat × Nat)} {m n : Nat} (hd : l.Nodup) (h : ∀ p ∈ l, p.1 < m ∧ p.2 < n) : l.length ≤ m * n := by
  have h1 : (l.map fun p => p.1 * n + p.2).Nodup := by
    refine List.pairwise_map.2 (hd.imp_of_mem fun {p q} hp hq hne he => hne ?_)
    obtain ⟨p1, p2⟩ := p
    obtain ⟨q1, q2⟩ := q
    have a1 := (h _ hp).2
    have a2 := (h _ hq).2
    simp only at he a1 a2
    have b1 : p1 = q1 := by
      have := congrArg (· / n) he
      rw [Nat.mul_comm, Nat.mul_add_div (by omega), Nat.div_eq_of_lt a1, Nat.mul_comm q1, Nat.mul_add_div (by omega), Nat.div_eq_of_lt a2] at this
      omega
    subst b1
    rw [Prod.mk.injEq]
    exact ⟨rfl, by omega⟩
  have h2 := nodup_lt (m * n) _ h1 fun x hx => by
    obtain ⟨p, hp, rfl⟩ := List.mem_map.1 hx
    have := h p hp
    have h3 : (p.1 + 1) * n ≤ m * n := Nat.mul_le_mul_right n this.1
    rw [Nat.add_mul] at h3
    omega
  simpa using h2
end Auto
namespace Aut
open Auto
attribute [-go_sem] sliced
section
variable {a b : Au}
theorem cutsB_inc (a b : Au) : (cutsB a b).Pairwise (· < ·) := srtC_inc _
theorem cutsB_mem (a b : Au) (x : Int) : x ∈ cutsB a b ↔ x ∈ a.cuts ∨ x ∈ b.cuts := by unfold cutsB; rw [srtC_mem, List.mem_append]
theorem cutsB_rng (oa : Ok a) (ob : Ok b) : ∀ c ∈ cutsB a b, 0 ≤ c ∧ c ≤ 255 := fun c hc => by
  rcases (cutsB_mem a b c).1 hc with h | h
  · exact ⟨oa.nonneg c h, oa.top c h⟩
  · exact ⟨ob.nonneg c h, ob.top c h⟩
theorem both_good (oa : Ok a) (ob : Ok b) (i : Nat) : ∀ p ∈ (upTo (0, 0) (cutsB a b).length (bothNx a b (cutsB a b)) i).1, p.1 < a.next.length ∧ p.2 < b.next.length :=
  upTo_all (P := fun p : Nat × Nat => p.1 < a.next.length ∧ p.2 < b.next.length) ⟨oa.some_, ob.some_⟩ (fun p hp j hj =>
    ⟨oa.step hp.1 (cutsB_rng oa ob _ (gd_memA (d := 0) hj)).1, ob.step hp.2 (cutsB_rng oa ob _ (gd_memA (d := 0) hj)).1⟩) i
theorem both_few (oa : Ok a) (ob : Ok b) (hf : a.next.length * b.next.length ≤ 256) : (upTo (0, 0) (cutsB a b).length (bothNx a b (cutsB a b)) 256).1.length ≤ 256 :=
  Nat.le_trans (pairs_few (upTo_nodup _ _ _ 256) (both_good oa ob 256)) hf
theorem bothA_eq (oa : Ok a) (ob : Ok b) (hf : a.next.length * b.next.length ≤ 256) (o : Bool) : bothE a b = 0 ∧ bothA a b o = numA (cutsB a b) (upTo (0, 0) (cutsB a b).length (bothNx a b (cutsB a b)) 256) (accB a b o) := by
  have h : numb (0, 0) (cutsB a b).length (bothNx a b (cutsB a b)) = some (upTo (0, 0) (cutsB a b).length (bothNx a b (cutsB a b)) 256) := by unfold numb; rw [if_pos (both_few oa ob hf)]
  unfold bothE bothA
  rw [h, if_neg (by simp [oa.v]), if_neg (by simp [ob.v]), if_neg (by simp [oa.v]), if_neg (by simp [ob.v])]
  exact ⟨rfl, rfl⟩
theorem bothA_ok (oa : Ok a) (ob : Ok b) (hf : a.next.length * b.next.length ≤ 256) (o : Bool) : Ok (bothA a b o) := by
  rw [(bothA_eq oa ob hf o).2]
  have h1 := both_few oa ob hf
  have h2 := upTo_full h1
  have h3 : 0 < (upTo (0, 0) (cutsB a b).length (bothNx a b (cutsB a b)) 256).1.length := (List.getElem?_eq_some_iff.1 (upTo_head (0, 0) (cutsB a b).length (bothNx a b (cutsB a b)) 256)).1
  have h0 : (0 : Int) ∈ cutsB a b := (cutsB_mem a b 0).2 (.inl oa.mem0)
  refine ⟨by simp [numA]; omega, by simp [numA]; omega, by simp [numA]; omega, zero_head (cutsB_inc a b) h0 (fun c hc => (cutsB_rng oa ob c hc).1), cutsB_inc a b, fun c hc => (cutsB_rng oa ob c hc).2, fun l hl => ?_⟩
  simp only [numA, List.mem_map] at hl
  obtain ⟨r, hr, rfl⟩ := hl
  have h4 := upTo_rowlen (0, 0) (cutsB a b).length (bothNx a b (cutsB a b)) 256 r hr
  refine ⟨by rw [List.length_map]; exact h4, fun s hs => ?_⟩
  obtain ⟨n, hn, rfl⟩ := List.mem_map.1 hs
  refine ⟨Int.natCast_nonneg n, ?_⟩
  obtain ⟨i, hi, rfl⟩ := List.getElem_of_mem hr
  obtain ⟨j, hj, rfl⟩ := List.getElem_of_mem hn
  obtain ⟨st, h5, h6⟩ := upTo_ok (0, 0) (cutsB a b).length (bothNx a b (cutsB a b)) 256 i j hi (by omega)
  have h7 := (List.getElem?_eq_some_iff.1 h6).1
  rw [List.getD_eq_getElem?_getD, List.getD_eq_getElem?_getD, List.getElem?_eq_getElem hi, Option.getD_some, List.getElem?_eq_getElem hj, Option.getD_some] at h7
  simp only [numA, List.length_map, Int.ofNat_eq_natCast]
  omega
theorem both_acc (oa : Ok a) (ob : Ok b) (hf : a.next.length * b.next.length ≤ 256) (o : Bool) (s : ByteArray) : accN (bothA a b o) s = ((accN a s && accN b s) || (o && (accN a s || accN b s))) := by
  have hv := (bothA_ok oa ob hf o).v
  unfold accN
  rw [if_neg (by simp [hv]), if_neg (by simp [oa.v]), if_neg (by simp [ob.v]), (bothA_eq oa ob hf o).2]
  have h0 : (0 : Int) ∈ cutsB a b := (cutsB_mem a b 0).2 (.inl oa.mem0)
  have h1 := both_run (cutsB_inc a b) h0 (fun x hx => (cutsB_mem a b x).2 (.inl hx)) (fun x hx => (cutsB_mem a b x).2 (.inr hx)) (accB a b o) (both_few oa ob hf) (byt s) 0 0 0 (fun c hc => (byt_rng c hc).1) (upTo_head _ _ _ _)
  generalize upTo (0, 0) (cutsB a b).length (bothNx a b (cutsB a b)) 256 = Q at *
  generalize runA (numA (cutsB a b) Q (accB a b o)) 0 (byt s) = r at *
  rw [show (numA (cutsB a b) Q (accB a b o)).acc = Q.1.map (accB a b o) from rfl, List.getD_eq_getElem?_getD, List.getElem?_map, h1]
  rfl
theorem compA_ok (oa : Ok a) : Ok (compA a) ∧ (compA a).next.length = a.next.length := by
  have e : compA a = ⟨a.cuts, a.next, a.acc.map not⟩ := by unfold compA; rw [if_neg (by simp [oa.v])]
  rw [e]
  exact ⟨⟨oa.few, oa.some_, by simpa using oa.acc, oa.zero, oa.inc, oa.top, oa.rows⟩, rfl⟩
theorem comp_acc (oa : Ok a) (s : ByteArray) : accN (compA a) s = !accN a s := by
  have e : compA a = ⟨a.cuts, a.next, a.acc.map not⟩ := by unfold compA; rw [if_neg (by simp [oa.v])]
  have hv := (compA_ok oa).1.v
  unfold accN
  rw [if_neg (by simp [hv]), if_neg (by simp [oa.v])]
  have hr : runA (compA a) 0 (byt s) = runA a 0 (byt s) := by rw [e]; rfl
  have hl : runA a 0 (byt s) < a.acc.length := by rw [oa.acc]; exact oa.run _ oa.some_ (fun c hc => (byt_rng c hc).1)
  rw [hr, e]
  show (List.map not a.acc).getD _ false = _
  rw [List.getD_eq_getElem?_getD, List.getD_eq_getElem?_getD, List.getElem?_map, List.getElem?_eq_getElem hl]
  rfl
/-- What Both returns is valid, or no automaton. -/
theorem both_cases (oa : Ok a) (ob : Ok b) (o : Bool) : bothA a b o = noA ∨ Ok (bothA a b o) := by
  cases h : numb (0, 0) (cutsB a b).length (bothNx a b (cutsB a b)) with
  | none =>
    left
    unfold bothA
    rw [h, if_neg (by simp [oa.v]), if_neg (by simp [ob.v])]
  | some q =>
    right
    have hq : (upTo (0, 0) (cutsB a b).length (bothNx a b (cutsB a b)) 256).1.length ≤ 256 ∧ q = upTo (0, 0) (cutsB a b).length (bothNx a b (cutsB a b)) 256 := by
      unfold numb at h
      split at h
      · rename_i h1
        exact ⟨h1, (Option.some.inj h).symm⟩
      · cases h
    have e : bothA a b o = numA (cutsB a b) (upTo (0, 0) (cutsB a b).length (bothNx a b (cutsB a b)) 256) (accB a b o) := by
      unfold bothA
      rw [h, if_neg (by simp [oa.v]), if_neg (by simp [ob.v]), ← hq.2]
      rfl
    rw [e]
    have h1 := hq.1
    have h2 := upTo_full h1
    have h3 : 0 < (upTo (0, 0) (cutsB a b).length (bothNx a b (cutsB a b)) 256).1.length := (List.getElem?_eq_some_iff.1 (upTo_head (0, 0) (cutsB a b).length (bothNx a b (cutsB a b)) 256)).1
    have h0 : (0 : Int) ∈ cutsB a b := (cutsB_mem a b 0).2 (.inl oa.mem0)
    refine ⟨by simp [numA]; omega, by simp [numA]; omega, by simp [numA]; omega, zero_head (cutsB_inc a b) h0 (fun c hc => (cutsB_rng oa ob c hc).1), cutsB_inc a b, fun c hc => (cutsB_rng oa ob c hc).2, fun l hl => ?_⟩
    simp only [numA, List.mem_map] at hl
    obtain ⟨r, hr, rfl⟩ := hl
    have h4 := upTo_rowlen (0, 0) (cutsB a b).length (bothNx a b (cutsB a b)) 256 r hr
    refine ⟨by rw [List.length_map]; exact h4, fun s hs => ?_⟩
    obtain ⟨n, hn, rfl⟩ := List.mem_map.1 hs
    refine ⟨Int.natCast_nonneg n, ?_⟩
    obtain ⟨i, hi, rfl⟩ := List.getElem_of_mem hr
    obtain ⟨j, hj, rfl⟩ := List.getElem_of_mem hn
    obtain ⟨st, h5, h6⟩ := upTo_ok (0, 0) (cutsB a b).length (bothNx a b (cutsB a b)) 256 i j hi (by omega)
    have h7 := (List.getElem?_eq_some_iff.1 h6).1
    rw [List.getD_eq_getElem?_getD, List.getD_eq_getElem?_getD, List.getElem?_eq_getElem hi, Option.getD_some, List.getElem?_eq_getElem hj, Option.getD_some] at h7
    simp only [numA, List.length_map, Int.ofNat_eq_natCast]
    omega
end
end Aut
end Go.Proofs.YtjclbjdkkdijbaaGreat
end
section
open Go.RowKit
namespace Go.Proofs.YtjclbjdkkdijbaaGreat
open L
namespace Aut
open Auto
attribute [-go_sem] sliced
section
variable {a b : Au}
def accW (a : Au) (w : List Int) : Bool := a.acc.getD (runA a 0 w) false
theorem bothA_accW (oa : Ok a) (ob : Ok b) (hf : a.next.length * b.next.length ≤ 256) (o : Bool) {w : List Int} (hw : ∀ c ∈ w, 0 ≤ c) : accW (bothA a b o) w = ((accW a w && accW b w) || (o && (accW a w || accW b w))) := by
  unfold accW
  rw [(bothA_eq oa ob hf o).2]
  have h0 : (0 : Int) ∈ cutsB a b := (cutsB_mem a b 0).2 (.inl oa.mem0)
  have h1 := both_run (cutsB_inc a b) h0 (fun x hx => (cutsB_mem a b x).2 (.inl hx)) (fun x hx => (cutsB_mem a b x).2 (.inr hx)) (accB a b o) (both_few oa ob hf) w 0 0 0 hw (upTo_head _ _ _ _)
  generalize upTo (0, 0) (cutsB a b).length (bothNx a b (cutsB a b)) 256 = Q at *
  generalize runA (numA (cutsB a b) Q (accB a b o)) 0 w = r at *
  rw [show (numA (cutsB a b) Q (accB a b o)).acc = Q.1.map (accB a b o) from rfl, List.getD_eq_getElem?_getD, List.getElem?_map, h1]
  rfl
theorem compA_accW (oa : Ok a) {w : List Int} (hw : ∀ c ∈ w, 0 ≤ c) : accW (compA a) w = !accW a w := by
  have e : compA a = ⟨a.cuts, a.next, a.acc.map not⟩ := by unfold compA; rw [if_neg (by simp [oa.v])]
  unfold accW
  have hr : runA (compA a) 0 w = runA a 0 w := by rw [e]; rfl
  have hl : runA a 0 w < a.acc.length := by rw [oa.acc]; exact oa.run _ oa.some_ hw
  rw [hr, e]
  show (List.map not a.acc).getD _ false = _
  rw [List.getD_eq_getElem?_getD, List.getD_eq_getElem?_getD, List.getElem?_map, List.getElem?_eq_getElem hl]
  rfl
theorem lstB_iff (oa : Ok a) : lstB a = true ↔ ∃ w, Byt w ∧ accW a w = true := by
  unfold lstB
  rw [if_neg (by simp [oa.v])]
  cases h : leastA a with
  | some w =>
    have h1 := least_some oa h
    simp only [Option.isSome_some, true_iff]
    exact ⟨w, fun c hc => ⟨oa.nonneg c (h1.2.1 c hc), oa.top c (h1.2.1 c hc)⟩, h1.1⟩
  | none =>
    simp only [Option.isSome_none, Bool.false_eq_true, false_iff]
    rintro ⟨w, hw, hacc⟩
    have h1 := least_none oa h
    have h2 := fwd_run oa 0 oa.some_ w [] (fun c hc => (hw c hc).1) (by simp) rfl
    have h3 := h1 _ _ h2
    unfold accW at hacc
    rw [List.nil_append] at h3
    rw [h3] at hacc
    cases hacc
/-- The law of least forms. -/
theorem form_law (oa : Ok a) (ob : Ok b) (hf : a.next.length * b.next.length ≤ 256) : minA a = minA b ↔ ¬ (lstB (bothA a (compA b) false) = true ∨ lstB (bothA (compA a) b false) = true) := by
  have ca := compA_ok oa
  have cb := compA_ok ob
  have f1 : a.next.length * (compA b).next.length ≤ 256 := by rw [cb.2]; exact hf
  have f2 : (compA a).next.length * b.next.length ≤ 256 := by rw [ca.2]; exact hf
  rw [lstB_iff (bothA_ok oa cb.1 f1 false), lstB_iff (bothA_ok ca.1 ob f2 false)]
  have e1 : ∀ w, Byt w → accW (bothA a (compA b) false) w = (accW a w && !accW b w) := fun w hw => by
    have hn : ∀ c ∈ w, 0 ≤ c := fun c hc => (hw c hc).1
    rw [bothA_accW oa cb.1 f1 false hn, compA_accW ob hn]
    simp
  have e2 : ∀ w, Byt w → accW (bothA (compA a) b false) w = (!accW a w && accW b w) := fun w hw => by
    have hn : ∀ c ∈ w, 0 ≤ c := fun c hc => (hw c hc).1
    rw [bothA_accW ca.1 ob f2 false hn, compA_accW oa hn]
    simp
  constructor
  · intro he
    have hl : ∀ w, Byt w → accW a w = accW b w := fun w hw => by
      have h1 := min_lang oa hw
      have h2 := min_lang ob hw
      rw [he] at h1
      exact h1.symm.trans h2
    rintro (⟨w, hw, h⟩ | ⟨w, hw, h⟩)
    · rw [e1 w hw, hl w hw] at h
      simp at h
    · rw [e2 w hw, hl w hw] at h
      simp at h
  · intro hn
    refine min_canon oa ob fun w hw => ?_
    show accW a w = accW b w
    have h1 : ¬ (accW a w && !accW b w) = true := fun h => hn (.inl ⟨w, hw, by rw [e1 w hw]; exact h⟩)
    have h2 : ¬ (!accW a w && accW b w) = true := fun h => hn (.inr ⟨w, hw, by rw [e2 w hw]; exact h⟩)
    cases ha : accW a w <;> cases hb : accW b w <;> simp [ha, hb] at h1 h2 ⊢
/-- A word in memory. -/
theorem min_accN (oa : Ok a) (s : ByteArray) : accN (minA a) s = accN a s := by
  have om := min_ok oa
  unfold accN
  rw [if_neg (by simp [om.v]), if_neg (by simp [oa.v])]
  exact min_lang oa (fun c hc => byt_rng c hc)
end
end Aut
end Go.Proofs.YtjclbjdkkdijbaaGreat
end
