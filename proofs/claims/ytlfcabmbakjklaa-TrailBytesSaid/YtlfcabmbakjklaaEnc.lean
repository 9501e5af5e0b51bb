/- Walks through package trail: Encode. Conditions: none. -/
import Derived.Test.YtlfcabmbakjklaaWireW
import Derived.Test.YtlfcabmbakjklaaTrailF
set_option linter.unusedVariables false
set_option linter.unusedSimpArgs false
set_option linter.unusedSectionVars false
open Go.RowKit
namespace Go.Proofs.Ytlfcabmbakjklaa
open L
namespace Trail
open Wire
/-- The bytes of a trail. -/
def eb (vs : Nat) (es : Es) : List Int := ib vs ++ ib es.length ++ es.flatMap fun e => ib e.1 ++ ib e.2
theorem flat_len (es : Es) : (es.flatMap fun e => ib e.1 ++ ib e.2).length ≤ 20 * es.length := by
  induction es with
  | nil => simp
  | cons e es ih =>
    have h1 := ib_length e.1
    have h2 := ib_length e.2
    simp only [List.flatMap_cons, List.length_append, List.length_cons]
    omega
theorem eb_len (vs : Nat) (es : Es) : (eb vs es).length ≤ 20 + 20 * es.length := by
  have h1 := ib_length vs
  have h2 := ib_length es.length
  have h3 := flat_len es
  unfold eb
  simp only [List.length_append]
  omega
theorem list_form {w : World} {b vars : Nat} {es : Es} {now : Int} {S : List Nat} (h : Tr w b vars es now S) : ∃ a cap, w.cell? ⟨b, 1, none⟩ = some (.slice a es.length cap) ∧ es.length ≤ cap ∧ cap ≤ 9223372036854775807 ∧
    (0 < es.length → ∃ g, a = some ⟨g, 0, none⟩ ∧ ∀ i, i < es.length → w.cell? ⟨g, i * 3, none⟩ = some (.int .i64 (at_ es i).1) ∧ w.cell? ⟨g, i * 3 + 1, none⟩ = some (.int .i64 (lev es i)) ∧ w.cell? ⟨g, i * 3 + 2, none⟩ = some (.int .i64 (at_ es i).2)) := by
  obtain ⟨h0, pb, pcap, lv, pad, rfl, h1, h2, h3, h4, h5, h6, h7, h8⟩ := h
  have c1 := h1.cell (i := 1) rfl
  by_cases hz : 0 < es.length
  · obtain ⟨g, cap, rfl, q1, q2, hlc⟩ := list_cells h5 hz
    unfold maxLen at q2
    exact ⟨_, cap, c1, q1, by omega, fun _ => ⟨g, rfl, hlc⟩⟩
  · obtain ⟨a, cap, rfl, q1, q2, _⟩ := (SL.of_owns h5).val
    unfold maxLen at q2
    exact ⟨a, cap, c1, q1, by omega, fun h => absurd h hz⟩
section
variable {w : World} {b vars : Nat} {es : Es} {now : Int} {S : List Nat}
set_option maxRecDepth 100000 in
set_option maxHeartbeats 2000000 in
theorem Encode_calls (h : Tr w b vars es now S) : Calls Try.prog 33 #[.pointer (some ⟨b, 0, none⟩)] w (CloneT (eb vars es).length (eb vars es) w) := by
  have hv := h.wf.max
  have hlen := h.wf.len
  obtain ⟨a, cap, c1, q1, r1, hc⟩ := list_form h
  have W0 := WtF.start w
  have HH := Lib.hid (And.intro h.wf hc)
  have HT := Lib.hid h
  clear h hc
  go_enter Try.func33, Try.ntmps33
  go_wp2_with fail
  generalize w.alloc (.cells #[.slice none 0 0] 84) = w1 at *
  generalize w.heap.size = q at *
  have HW := Lib.hid W0
  clear W0
  refine (Vars_calls (HT.out.upd HW.out.u (by simp))).mono ?_
  rintro e _ ⟨rfl, rfl⟩
  go_wp2_with fail
  refine (Int_f HW.out vars (by unfold IsI64; omega) (by simp)).mono ?_
  rintro e w2 ⟨rfl, W2⟩
  have d1 := W2.u.some c1 (by simp)
  have HW2 := Lib.hid W2
  clear W2 HW
  go_wp2_with fail
  refine (Int_f HW2.out es.length (by unfold IsI64; omega) (by have := ib_length vars; simp; omega)).mono ?_
  rintro e w3 ⟨rfl, W3⟩
  have d2 := W3.u.some c1 (by simp)
  have HW3 := Lib.hid W3
  clear W3 HW2 d1
  go_wp2_with fail
  go_loopw [20] (fun i wr => ∃ k : Nat, i = .int .i64 k ∧ k ≤ es.length ∧ WtF w q ((ib vars ++ ib es.length) ++ (es.take k).flatMap fun e => ib e.1 ++ ib e.2) wr) (fun i _ => es.length - (intOf i).toNat)
  case atStart => exact ⟨0, rfl, Nat.zero_le _, by simpa using HW3.out⟩
  case round =>
    clear HW3
    obtain ⟨k, rfl, hk, W4⟩ := hrel
    have hpl : ((ib vars ++ ib es.length) ++ (es.take k).flatMap fun e => ib e.1 ++ ib e.2).length ≤ 20 + 20 * es.length := by
      have h1 := ib_length vars
      have h2 := ib_length es.length
      have h3 := flat_len (es.take k)
      have h4 : (es.take k).length ≤ es.length := by rw [List.length_take]; omega
      simp only [List.length_append]
      omega
    by_cases hlt : k < es.length
    · obtain ⟨g, rfl, hcc⟩ := HH.out.2 (by omega)
      obtain ⟨e0, e1, e2⟩ := hcc k hlt
      have hr := HH.out.1.rsn _ (at_mem hlt)
      have hl := HH.out.1.lit _ (at_mem hlt)
      have HS : Hid ((es.take (k + 1)).flatMap (fun e => ib e.1 ++ ib e.2) = (es.take k).flatMap (fun e => ib e.1 ++ ib e.2) ++ (ib (at_ es k).1 ++ ib (at_ es k).2)) := by
        unfold Hid
        rw [List.take_add_one, List.getElem?_eq_getElem hlt, List.flatMap_append]
        have : es[k] = at_ es k := by unfold at_; rw [List.getD_eq_getElem?_getD, List.getElem?_eq_getElem hlt]; rfl
        rw [this]
        simp
      clear hcc
      generalize (at_ es k).1 = x at *
      generalize (at_ es k).2 = r at *
      generalize lev es k = lv at *
      replace e0 := W4.u.some e0 (by simp)
      replace e1 := W4.u.some e1 (by simp)
      replace e2 := W4.u.some e2 (by simp)
      have uA := (Upd.refl [] wr).alloc (.cells #[.int .i64 x, .int .i64 lv, .int .i64 r] 79)
      have W5 := W4.quiet uA
      have NB := Blk.new wr [.int .i64 x, .int .i64 lv, .int .i64 r] 79
      have f0 := NB.cell (i := 0) rfl
      have f2 := NB.cell (i := 2) rfl
      generalize hpre : ((ib vars ++ ib es.length) ++ (es.take k).flatMap fun e => ib e.1 ++ ib e.2) = pre at *
      have HP := Lib.hid hpre
      have HW5 := Lib.hid (And.intro W4 uA)
      have HF := Lib.hid NB
      clear hpre W4 W5 uA NB f0 f2
      go_wp2_with fail
      refine (Int_f2 HW5.out.1 HW5.out.2 x (by unfold IsI64; omega) (by omega)).mono ?_
      rintro e w6 ⟨rfl, W6, K6⟩
      have N6 := K6 _ _ _ (Nat.le_refl _) HF.out
      have f2 := N6.cell (i := 2) rfl
      have HW6 := Lib.hid W6
      have hx10 := ib_length x
      clear K6 N6 HF HW5 W6
      go_wp2_with fail
      refine (Int_f HW6.out r (by unfold IsI64; omega) (by simp only [List.length_append]; omega)).mono ?_
      rintro e w7 ⟨rfl, W7⟩
      have HW7 := Lib.hid W7
      clear W7
      go_wp2_with fail
      refine ⟨⟨k + 1, by go_num, by omega, ?_⟩, by simp [intOf]; omega⟩
      rw [HS.out, ← List.append_assoc, HP.out, ← List.append_assoc]
      exact HW7.out
    · have hke : k = es.length := by omega
      have HP := Lib.hid (show ((ib vars ++ ib es.length) ++ (es.take k).flatMap fun e => ib e.1 ++ ib e.2) = eb vars es by rw [hke, List.take_length]; rfl)
      rw [HP.out] at W4 hpl
      have HW4 := Lib.hid W4
      clear W4 hke
      go_wp2_with fail
      obtain ⟨S4, t4, _⟩ := HW4.out.ex
      refine (Done_calls t4 (by omega)).mono ?_
      rintro e w5 ⟨a5, cap5, rfl, o5, u5⟩
      go_wp2_with fail
      go_ret
      refine ⟨a5, cap5, rfl, ⟨o5.row, fun g hg => ?_⟩, HW4.out.u.step u5⟩
      have := o5.fresh g hg
      have := HW4.out.u.size
      omega
end
end Trail
end Go.Proofs.Ytlfcabmbakjklaa
