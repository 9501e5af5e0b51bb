/- Walks through the reference of automata: Same. Conditions: none. -/
import Derived.Test.YtjclbjdkkdijbaaGreatAuZb
import Derived.Test.YtjclbjdkkdijbaaGreatSame
set_option linter.unusedVariables false
set_option linter.unusedSimpArgs false
set_option linter.unusedSectionVars false
open Go.RowKit
namespace Go.Proofs.YtjclbjdkkdijbaaGreat
open L
namespace Aut
open Auto R01
attribute [-go_sem] sliced
theorem two_rows3 (w : World) (a0 a1 a2 b0 b1 b2 : Value) (T : TypeId) : ∃ w1, w1 = ((w.alloc (.cells #[a0, a1, a2] T)).alloc (.cells #[b0, b1, b2] T)) ∧ Blk w1 w.heap.size [a0, a1, a2] T ∧ Blk w1 (w.heap.size + 1) [b0, b1, b2] T ∧ Upd [] w w1 := by
  have s1 : (w.alloc (.cells #[a0, a1, a2] T)).heap.size = w.heap.size + 1 := by simp
  have h2 := Blk.new (w.alloc (.cells #[a0, a1, a2] T)) [b0, b1, b2] T
  rw [s1] at h2
  exact ⟨_, rfl, (Blk.new w [a0, a1, a2] T).alloc _, h2, ((Upd.refl [] w).alloc _).alloc _⟩
/-- What Same says of two automata. -/
def SameT (a b : Au) (w : World) (e : Ending) (w' : World) : Prop := ∃ x : Bool, e = .returned (.bool x) ∧ (x = true ↔ a = b) ∧ Upd [] w w'
theorem SameT.no {a b : Au} {w w' : World} (h : a ≠ b) (u : Upd [] w w') : SameT a b w (.returned (.bool false)) w' := ⟨false, rfl, by simp [h], u⟩
theorem SameT.yes {a b : Au} {w w' : World} (h : a = b) (u : Upd [] w w') : SameT a b w (.returned (.bool true)) w' := ⟨true, rfl, by simp [h], u⟩
theorem step_rel {a b : Au} {s : Nat} (h : ∀ j, j < s → a.next.getD j [] = b.next.getD j [] ∧ (j < a.acc.length → a.acc.getD j false = b.acc.getD j false)) (h1 : a.next.getD s [] = b.next.getD s []) (h2 : s < a.acc.length → a.acc.getD s false = b.acc.getD s false) :
    ∀ j, j < s + 1 → a.next.getD j [] = b.next.getD j [] ∧ (j < a.acc.length → a.acc.getD j false = b.acc.getD j false) := fun j hj => by
  rcases Nat.lt_or_ge j s with h3 | h3
  · exact h j h3
  · have : j = s := by omega
    subst this
    exact ⟨h1, h2⟩
theorem au_ext {a b : Au} (h1 : a.cuts = b.cuts) (h2 : a.next.length = b.next.length) (h3 : a.acc.length = b.acc.length) (h4 : ∀ j, j < a.next.length → a.next.getD j [] = b.next.getD j []) (h5 : ∀ j, j < a.acc.length → a.acc.getD j false = b.acc.getD j false) : a = b := by
  have e1 : a.next = b.next := List.ext_getElem h2 fun i p q => by
    have := h4 i p
    rw [List.getD_eq_getElem?_getD, List.getD_eq_getElem?_getD, List.getElem?_eq_getElem p, List.getElem?_eq_getElem q] at this
    exact this
  have e2 : a.acc = b.acc := List.ext_getElem h3 fun i p q => by
    have := h5 i p
    rw [List.getD_eq_getElem?_getD, List.getD_eq_getElem?_getD, List.getElem?_eq_getElem p, List.getElem?_eq_getElem q] at this
    exact this
  cases a; cases b
  simp_all
section
variable {w w' : World} {v v2 : Value}
set_option maxRecDepth 100000 in
set_option maxHeartbeats 16000000 in
theorem SameA_calls {a b : Au} (ha : AuV w a v) (hb : AuV w b v2) : Calls Tryz.prog 16 #[v, v2] w (SameT a b w) := by
  obtain ⟨a1, c1, a2, c2, a3, c3, rfl, hF⟩ := ha.shape
  obtain ⟨b1, d1, b2, d2, b3, d3, rfl, hG⟩ := hb.shape
  have HF := Lib.hid hF
  have HG := Lib.hid hG
  obtain ⟨w1, hw1, e1, e2, u1⟩ := two_rows3 w (.slice a1 a.cuts.length c1) (.slice a2 a.next.length c2) (.slice a3 a.acc.length c3) (.slice b1 b.cuts.length d1) (.slice b2 b.next.length d2) (.slice b3 b.acc.length d3) 39
  have lims : a.next.length ≤ 9223372036854775807 ∧ a.acc.length ≤ 9223372036854775807 := by
    obtain ⟨_, _, _, he, _, h4, h5⟩ := hF
    cases he
    obtain ⟨_, _, he, q1, q2, _⟩ := h4.form
    cases he
    obtain ⟨_, _, he, q3, q4, _⟩ := h5.elems
    cases he
    omega
  have lim1 := lims.1
  have lim2 := lims.2
  clear ha hb hF hG lims
  go_enter Tryz.func16, Tryz.ntmps16
  go_upto_region 1 with fail
  rw [← hw1]
  clear hw1
  have HB := Lib.hid (And.intro e1 (And.intro e2 u1))
  have HCB := Lib.hid (show ∀ (w5 : World), Upd [] w1 w5 → w5.cell? ⟨w.heap.size, 0, none⟩ = some (.slice a1 a.cuts.length c1) ∧ w5.cell? ⟨w.heap.size, 1, none⟩ = some (.slice a2 a.next.length c2) ∧ w5.cell? ⟨w.heap.size, 2, none⟩ = some (.slice a3 a.acc.length c3) ∧ w5.cell? ⟨w.heap.size + 1, 0, none⟩ = some (.slice b1 b.cuts.length d1) ∧ w5.cell? ⟨w.heap.size + 1, 1, none⟩ = some (.slice b2 b.next.length d2) ∧ w5.cell? ⟨w.heap.size + 1, 2, none⟩ = some (.slice b3 b.acc.length d3) from fun w5 u5 => by
    have x1 := e1.upd u5 (by simp)
    have x2 := e2.upd u5 (by simp)
    exact ⟨x1.cell (i := 0) rfl, x1.cell (i := 1) rfl, x1.cell (i := 2) rfl, x2.cell (i := 0) rfl, x2.cell (i := 1) rfl, x2.cell (i := 2) rfl⟩)
  have HSC := SameInts_calls (w := w1) (v1 := .slice a1 a.cuts.length c1) (v2 := .slice b1 b.cuts.length d1) (xs := a.cuts) (ys := b.cuts) (by
    obtain ⟨_, _, _, he, h3, _, _⟩ := HF.out
    cases he
    exact h3.upd u1 (by simp)) (by
    obtain ⟨_, _, _, he, h3, _, _⟩ := HG.out
    cases he
    exact h3.upd u1 (by simp))
  clear e1 e2 u1
  generalize w.heap.size = pa at *
  obtain ⟨k0, k1, k2, l0, l1, l2⟩ := HCB.out w1 (Upd.refl _ _)
  by_cases hc : a.cuts = b.cuts
  · rw [decide_eq_true hc] at HSC
    have HSC := Lib.hid HSC
    have HC := Lib.hid hc
    clear hc
    by_cases hn : a.next.length = b.next.length
    · have hnb : ((a.next.length : Int) != (b.next.length : Int)) = false := by simp [hn]
      have HNL := Lib.hid hn
      clear hn
      by_cases hk : a.acc.length = b.acc.length
      · have hkb : ((a.acc.length : Int) != (b.acc.length : Int)) = false := by simp [hk]
        have HKL := Lib.hid hk
        clear hk
        go_upto_region 3 with ((with_reducible refine HSC.out.mono ?_); rintro e w2 ⟨rfl, u2⟩; obtain ⟨k0, k1, k2, l0, l1, l2⟩ := HCB.out w2 u2; have HU2 := Lib.hid u2; clear u2)
        go_wp2_with fail
        go_loopw [5] (fun s5 wr => ∃ s : Nat, s5 = .int .i64 s ∧ s ≤ a.next.length ∧ Hid ((∀ j, j < s → a.next.getD j [] = b.next.getD j [] ∧ (j < a.acc.length → a.acc.getD j false = b.acc.getD j false)) ∧ Upd [] w1 wr)) (fun s5 _ => a.next.length - (intOf s5).toNat)
        case atStart => exact ⟨0, rfl, Nat.zero_le _, Lib.hid ⟨fun j hj => absurd hj (Nat.not_lt_zero _), HU2.out⟩⟩
        case round =>
          obtain ⟨s, rfl, hs, HI⟩ := hrel
          obtain ⟨k0, k1, k2, l0, l1, l2⟩ := HCB.out wr HI.out.2
          by_cases hlt : s < a.next.length
          · have hli : (s : Int) < a.next.length := by omega
            have hlt2 : s < b.next.length := by have := HNL.out; omega
            have hli2 : (s : Int) < b.next.length := by omega
            obtain ⟨g, off, ar, cr, he, hrc, hrow⟩ := (HF.out.ext (HB.out.2.2.step HI.out.2)).row hlt
            cases he
            obtain ⟨g', off', br, dr, he, hrd, hrow2⟩ := (HG.out.ext (HB.out.2.2.step HI.out.2)).row hlt2
            cases he
            have HRR := Lib.hid (And.intro hrow hrow2)
            have HGR := Lib.hid (show a = b → a.next.getD s [] = b.next.getD s [] from fun h => by rw [h])
            clear hrow hrow2
            generalize hra : a.next.getD s [] = ra at *
            generalize hrb : b.next.getD s [] = rb at *
            have HRA := Lib.hid (And.intro hra hrb)
            clear hra hrb
            by_cases hr : ra = rb
            · have HSR := Lib.hid (show ∀ w5, Upd [] wr w5 → Calls Tryz.prog 58 #[.slice ar ra.length cr, .slice br rb.length dr] w5 fun e w' => e = .returned (.bool true) ∧ Upd [] w5 w' from fun w5 u5 => by
                have := SameInts_calls (HRR.out.1.upd u5 (by simp)) (HRR.out.2.upd u5 (by simp))
                rw [decide_eq_true hr] at this
                exact this)
              have HEQ := Lib.hid (show a.next.getD s [] = b.next.getD s [] by rw [HRA.out.1, HRA.out.2]; exact hr)
              clear hr
              go_upto_region 6 with fail
              refine wp_region_qx (by kernel_rfl) (by kernel_rfl) ?_
              repeat (go_big_quiet_step (((go_at_call 58; exact qx (HSR.out _ (Ext.upd _))))))
              refine wpQuiet_nil ?_
              intro x
              have hU3 := HI.out.2.step x.upd
              generalize x.val = w3 at *
              obtain ⟨k0, k1, k2, l0, l1, l2⟩ := HCB.out w3 hU3
              have HU3 := Lib.hid hU3
              clear hU3
              by_cases hac : s < a.acc.length
              · have haci : (s : Int) < a.acc.length := by omega
                have hac2 : s < b.acc.length := by have := HKL.out; omega
                have haci2 : (s : Int) < b.acc.length := by omega
                obtain ⟨ga, oa3, he3, hxa⟩ := (HF.out.ext (HB.out.2.2.step HU3.out)).acc hac
                cases he3
                obtain ⟨gb, ob3, he3, hxb⟩ := (HG.out.ext (HB.out.2.2.step HU3.out)).acc hac2
                cases he3
                have HGA := Lib.hid (show ∀ h : a = b, a.acc.getD s false = b.acc.getD s false from fun h => by rw [h])
                by_cases hxx : a.acc.getD s false = b.acc.getD s false
                · have HXX := Lib.hid (step_rel HI.out.1 HEQ.out (fun _ => hxx))
                  generalize a.acc.getD s false = xa at *
                  generalize b.acc.getD s false = xb at *
                  subst hxx
                  clear HGA
                  cases xa with
                  | false =>
                    go_upto_region 7 with fail
                    refine wp_region_qx (by kernel_rfl) (by kernel_rfl) ?_
                    repeat (go_big_quiet_step ((fail)))
                    refine wpQuiet_nil ?_
                    intro x
                    go_wp2_with fail
                    exact ⟨⟨s + 1, by go_num, by omega, Lib.hid ⟨HXX.out, HU3.out.step x.upd⟩⟩, by simp [intOf]; omega⟩
                  | true =>
                    go_upto_region 7 with fail
                    refine wp_region_qx (by kernel_rfl) (by kernel_rfl) ?_
                    repeat (go_big_quiet_step ((fail)))
                    refine wpQuiet_nil ?_
                    intro x
                    go_wp2_with fail
                    exact ⟨⟨s + 1, by go_num, by omega, Lib.hid ⟨HXX.out, HU3.out.step x.upd⟩⟩, by simp [intOf]; omega⟩
                · have HNE := Lib.hid (show a ≠ b from fun h => hxx (HGA.out h))
                  generalize a.acc.getD s false = xa at *
                  generalize b.acc.getD s false = xb at *
                  cases xa <;> cases xb
                  · exact absurd rfl hxx
                  · clear hxx
                    go_upto_region 7 with fail
                    refine wp_region_qx (by kernel_rfl) (by kernel_rfl) ?_
                    repeat (go_big_quiet_step ((fail)))
                    refine wpQuiet_nil ?_
                    intro x
                    go_wp2_with fail
                    go_ret
                    exact SameT.no HNE.out ((HB.out.2.2.step HU3.out).step x.upd)
                  · clear hxx
                    go_upto_region 7 with fail
                    refine wp_region_qx (by kernel_rfl) (by kernel_rfl) ?_
                    repeat (go_big_quiet_step ((fail)))
                    refine wpQuiet_nil ?_
                    intro x
                    go_wp2_with fail
                    go_ret
                    exact SameT.no HNE.out ((HB.out.2.2.step HU3.out).step x.upd)
                  · exact absurd rfl hxx
              · have haci : ¬ ((s : Int) < a.acc.length) := by omega
                go_upto_region 7 with fail
                refine wp_region_qx (by kernel_rfl) (by kernel_rfl) ?_
                repeat (go_big_quiet_step ((fail)))
                refine wpQuiet_nil ?_
                intro x
                go_wp2_with fail
                exact ⟨⟨s + 1, by go_num, by omega, Lib.hid ⟨step_rel HI.out.1 HEQ.out (fun h => absurd h hac), HU3.out.step x.upd⟩⟩, by simp [intOf]; omega⟩
            · have HSR := Lib.hid (show ∀ w5, Upd [] wr w5 → Calls Tryz.prog 58 #[.slice ar ra.length cr, .slice br rb.length dr] w5 fun e w' => e = .returned (.bool false) ∧ Upd [] w5 w' from fun w5 u5 => by
                have := SameInts_calls (HRR.out.1.upd u5 (by simp)) (HRR.out.2.upd u5 (by simp))
                rw [decide_eq_false hr] at this
                exact this)
              have HNE := Lib.hid (show a ≠ b from fun h => hr (HGR.out h))
              clear hr
              go_upto_region 6 with fail
              refine wp_region_qx (by kernel_rfl) (by kernel_rfl) ?_
              repeat (go_big_quiet_step (((go_at_call 58; exact qx (HSR.out _ (Ext.upd _))))))
              refine wpQuiet_nil ?_
              intro x
              have hU3 := HI.out.2.step x.upd
              generalize x.val = w3 at *
              obtain ⟨k0, k1, k2, l0, l1, l2⟩ := HCB.out w3 hU3
              have HU3 := Lib.hid hU3
              clear hU3
              go_upto_region 7 with fail
              refine wp_region_qx (by kernel_rfl) (by kernel_rfl) ?_
              repeat (go_big_quiet_step ((fail)))
              refine wpQuiet_nil ?_
              intro x
              go_wp2_with fail
              go_ret
              exact SameT.no HNE.out ((HB.out.2.2.step HU3.out).step x.upd)
          · have hse : s = a.next.length := by omega
            subst hse
            have hni : ¬ ((a.next.length : Int) < a.next.length) := by omega
            go_wp2_with fail
            go_loopw [7] (fun s7 wr2 => ∃ s : Nat, s7 = .int .i64 s ∧ (s ≤ a.acc.length ∨ s = a.next.length) ∧ Hid ((∀ j, j < s → j < a.acc.length → a.acc.getD j false = b.acc.getD j false) ∧ Upd [] w1 wr2)) (fun s7 _ => a.acc.length - (intOf s7).toNat)
            case atStart => exact ⟨a.next.length, rfl, .inr rfl, Lib.hid ⟨fun j hj hj2 => (HI.out.1 j hj).2 hj2, HI.out.2⟩⟩
            case round =>
              obtain ⟨s, rfl, hs, HJ⟩ := hrel
              obtain ⟨k0, k1, k2, l0, l1, l2⟩ := HCB.out wr HJ.out.2
              by_cases hac : s < a.acc.length
              · have haci : (s : Int) < a.acc.length := by omega
                have hac2 : s < b.acc.length := by have := HKL.out; omega
                have haci2 : (s : Int) < b.acc.length := by omega
                obtain ⟨ga, oa3, he3, hxa⟩ := (HF.out.ext (HB.out.2.2.step HJ.out.2)).acc hac
                cases he3
                obtain ⟨gb, ob3, he3, hxb⟩ := (HG.out.ext (HB.out.2.2.step HJ.out.2)).acc hac2
                cases he3
                have HGA := Lib.hid (show ∀ h : a = b, a.acc.getD s false = b.acc.getD s false from fun h => by rw [h])
                by_cases hxx : a.acc.getD s false = b.acc.getD s false
                · have HXX := Lib.hid (show ∀ j, j < s + 1 → j < a.acc.length → a.acc.getD j false = b.acc.getD j false from fun j hj hj2 => by
                    rcases Nat.lt_or_ge j s with h | h
                    · exact HJ.out.1 j h hj2
                    · have : j = s := by omega
                      subst this; exact hxx)
                  generalize a.acc.getD s false = xa at *
                  generalize b.acc.getD s false = xb at *
                  subst hxx
                  clear HGA
                  cases xa with
                  | false =>
                    go_upto_region 12 with fail
                    refine wp_region_qx (by kernel_rfl) (by kernel_rfl) ?_
                    repeat (go_big_quiet_step ((fail)))
                    refine wpQuiet_nil ?_
                    intro x
                    go_wp2_with fail
                    exact ⟨⟨s + 1, by go_num, .inl (by omega), Lib.hid ⟨HXX.out, HJ.out.2.step x.upd⟩⟩, by simp [intOf]; omega⟩
                  | true =>
                    go_upto_region 12 with fail
                    refine wp_region_qx (by kernel_rfl) (by kernel_rfl) ?_
                    repeat (go_big_quiet_step ((fail)))
                    refine wpQuiet_nil ?_
                    intro x
                    go_wp2_with fail
                    exact ⟨⟨s + 1, by go_num, .inl (by omega), Lib.hid ⟨HXX.out, HJ.out.2.step x.upd⟩⟩, by simp [intOf]; omega⟩
                · have HNE := Lib.hid (show a ≠ b from fun h => hxx (HGA.out h))
                  generalize a.acc.getD s false = xa at *
                  generalize b.acc.getD s false = xb at *
                  cases xa <;> cases xb
                  · exact absurd rfl hxx
                  · clear hxx
                    go_upto_region 12 with fail
                    refine wp_region_qx (by kernel_rfl) (by kernel_rfl) ?_
                    repeat (go_big_quiet_step ((fail)))
                    refine wpQuiet_nil ?_
                    intro x
                    go_wp2_with fail
                    go_ret
                    exact SameT.no HNE.out ((HB.out.2.2.step HJ.out.2).step x.upd)
                  · clear hxx
                    go_upto_region 12 with fail
                    refine wp_region_qx (by kernel_rfl) (by kernel_rfl) ?_
                    repeat (go_big_quiet_step ((fail)))
                    refine wpQuiet_nil ?_
                    intro x
                    go_wp2_with fail
                    go_ret
                    exact SameT.no HNE.out ((HB.out.2.2.step HJ.out.2).step x.upd)
                  · exact absurd rfl hxx
              · have haci : ¬ ((s : Int) < a.acc.length) := by omega
                have HAE := Lib.hid (show a = b from au_ext HC.out HNL.out HKL.out (fun j hj => (HI.out.1 j hj).1) (fun j hj => HJ.out.1 j (by omega) hj))
                go_wp2_with fail
                go_ret
                exact SameT.yes HAE.out (HB.out.2.2.step HJ.out.2)
      · have hkb : ((a.acc.length : Int) != (b.acc.length : Int)) = true := by simp; omega
        have HNE := Lib.hid (show a ≠ b from fun h => hk (by rw [h]))
        clear hk
        go_wp2_with ((with_reducible refine HSC.out.mono ?_); rintro e w2 ⟨rfl, u2⟩; obtain ⟨k0, k1, k2, l0, l1, l2⟩ := HCB.out w2 u2; have HU2 := Lib.hid u2; clear u2)
        go_ret
        exact SameT.no HNE.out (HB.out.2.2.step HU2.out)
    · have hnb : ((a.next.length : Int) != (b.next.length : Int)) = true := by simp; omega
      have HNE := Lib.hid (show a ≠ b from fun h => hn (by rw [h]))
      clear hn
      go_wp2_with ((with_reducible refine HSC.out.mono ?_); rintro e w2 ⟨rfl, u2⟩; obtain ⟨k0, k1, k2, l0, l1, l2⟩ := HCB.out w2 u2; have HU2 := Lib.hid u2; clear u2)
      go_ret
      exact SameT.no HNE.out (HB.out.2.2.step HU2.out)
  · rw [decide_eq_false hc] at HSC
    have HSC := Lib.hid HSC
    have HNE := Lib.hid (show a ≠ b from fun h => hc (by rw [h]))
    clear hc
    go_wp2_with ((with_reducible refine HSC.out.mono ?_); rintro e w2 ⟨rfl, u2⟩; have HU2 := Lib.hid u2; clear u2)
    go_ret
    exact SameT.no HNE.out (HB.out.2.2.step HU2.out)
end
end Aut
end Go.Proofs.YtjclbjdkkdijbaaGreat
