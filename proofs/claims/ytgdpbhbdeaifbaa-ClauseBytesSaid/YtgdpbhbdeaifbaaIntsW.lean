/- Walks through package wire: writing a list of numbers, and the reference of it. Conditions: none. -/
import Derived.Test.YtgdpbhbdeaifbaaWireI
import Derived.Test.YtgdpbhbdeaifbaaRef02
import Derived.Test.YtgdpbhbdeaifbaaOwn
import Derived.Test.YtgdpbhbdeaifbaaLists
set_option linter.unusedVariables false
set_option linter.unusedSimpArgs false
set_option linter.unusedSectionVars false
open Go.RowKit
namespace Go.Proofs.Ytgdpbhbdeaifbaa
open L
namespace Wire
open R01 R14 R02
theorem lb_take {l : List Int} {k : Nat} (h : k = l.length) : ub l.length ++ (l.take k).flatMap ib = lb l := by subst h; rw [List.take_length]; rfl
theorem fl_take {l : List Int} {k : Nat} (h : k < l.length) : (l.take (k + 1)).flatMap ib = (l.take k).flatMap ib ++ ib l[k] := by
  rw [take_snoc h, List.flatMap_append]; simp
section
variable {w w0 : World} {q : Nat}
set_option maxRecDepth 100000 in
set_option maxHeartbeats 4000000 in
theorem Ints_w {v : Value} {l : List Int} (h : WtF w0 q [] w) (hs : SL w0 1 v l.length (ints l)) (hi : ∀ x ∈ l, IsI64 x) (hl : l.length ≤ 1000000) :
    Calls Try.prog 51 #[.pointer (some ⟨q, 0, none⟩), v] w fun e w' => e = .returned (.tuple #[]) ∧ WtF w0 q (lb l) w' := by
  obtain ⟨a, cap, rfl, q1, r1, hc⟩ := SL.elems hs
  obtain ⟨S, h1, h2⟩ := h.ex
  have HU := Lib.hid (Uint_calls h1 l.length (by omega) (by simp))
  have HH := Lib.hid (And.intro h.u (And.intro h2 (And.intro hi hc)))
  clear hs h1 h2 hi hc h
  go_enter Try.func51, Try.ntmps51
  go_wp2_with fail
  refine HU.out.mono ?_
  intro e w1 hr
  obtain ⟨rfl, W1⟩ := WtF.of HH.out.2.1 HH.out.1 hr
  have HW := Lib.hid W1
  clear hr W1 HU
  go_wp2_with fail
  go_loopw [13] (fun i wr => ∃ k : Nat, i = .int .i64 k ∧ k ≤ l.length ∧ WtF w0 q (ub l.length ++ (l.take k).flatMap ib) wr) (fun i _ => l.length - (intOf i).toNat)
  case atStart => exact ⟨0, rfl, Nat.zero_le _, by simpa using HW.out⟩
  case round =>
    clear HW
    obtain ⟨k, rfl, hk, W4⟩ := hrel
    have hpl : (ub l.length ++ (l.take k).flatMap ib).length ≤ 10 + 10 * l.length := by
      have h1 := ub_length l.length
      have h3 := (fl_length (l.take k)).2
      have h4 : (l.take k).length ≤ l.length := by rw [List.length_take]; omega
      simp only [List.length_append]
      omega
    by_cases hlt : k < l.length
    · obtain ⟨g, off, rfl, hcc⟩ := HH.out.2.2.2 (by omega)
      have e0 := W4.u.some (hcc k _ (ints_get (List.getElem?_eq_getElem hlt))) (by simp)
      have hx := HH.out.2.2.1 _ (List.getElem_mem hlt)
      have HS := Lib.hid (fl_take hlt)
      have HX := Lib.hid hx
      generalize l[k] = x at *
      have HW4 := Lib.hid W4
      clear hcc W4 hx
      go_wp2_with fail
      refine (Int_f HW4.out x HX.out (by omega)).mono ?_
      rintro e w7 ⟨rfl, W7⟩
      have HW7 := Lib.hid W7
      clear W7
      go_wp2_with fail
      refine ⟨⟨k + 1, by go_num, by omega, ?_⟩, by simp [intOf]; omega⟩
      rw [HS.out, ← List.append_assoc]
      exact HW7.out
    · have HP := Lib.hid (lb_take (l := l) (k := k) (by omega))
      rw [HP.out] at W4
      have HW4 := Lib.hid W4
      clear W4
      go_wp2_with fail
      go_end0
      exact ⟨rfl, HW4.out⟩
set_option maxRecDepth 100000 in
set_option maxHeartbeats 4000000 in
theorem RInts_calls {v : Value} {l : List Int} (hs : SL w 1 v l.length (ints l)) (hi : ∀ x ∈ l, IsI64 x) (hl : l.length ≤ 1000000) :
    Calls Try.prog 53 #[v] w (BytT (lb l) w) := by
  obtain ⟨a, cap, rfl, q1, r1, hc⟩ := SL.elems hs
  have HH := Lib.hid (And.intro hi hc)
  clear hs hi hc
  go_enter Try.func53, Try.ntmps53
  go_wp2_with fail
  refine (R02.Uint_calls l.length (by omega)).mono ?_
  rintro e w1 ⟨a1, c1, rfl, o1⟩
  have HW := Lib.hid o1
  clear o1
  go_wp2_with fail
  go_loopw [3, 4] (fun o i wr => ∃ k : Nat, i = .int .i64 k ∧ k ≤ l.length ∧ OwnB w o (ub l.length ++ (l.take k).flatMap ib) wr) (fun _ i _ => l.length - (intOf i).toNat)
  case atStart => exact ⟨0, rfl, Nat.zero_le _, by simpa using HW.out⟩
  case round =>
    clear HW
    obtain ⟨k, rfl, hk, W4⟩ := hrel
    have hpl : (ub l.length ++ (l.take k).flatMap ib).length ≤ 10 + 10 * l.length := by
      have h1 := ub_length l.length
      have h3 := (fl_length (l.take k)).2
      have h4 : (l.take k).length ≤ l.length := by rw [List.length_take]; omega
      simp only [List.length_append]
      omega
    obtain ⟨ao, co, rfl, _⟩ := W4.form
    by_cases hlt : k < l.length
    · obtain ⟨g, off, rfl, hcc⟩ := HH.out.2 (by omega)
      have e0 := W4.u.some (hcc k _ (ints_get (List.getElem?_eq_getElem hlt))) (by simp)
      have hx := HH.out.1 _ (List.getElem_mem hlt)
      have HS := Lib.hid (fl_take hlt)
      have HX := Lib.hid hx
      generalize l[k] = x at *
      generalize hpre : ub l.length ++ (l.take k).flatMap ib = pre at *
      have HP := Lib.hid hpre
      have HW4 := Lib.hid W4
      clear hcc W4 hx hpre
      have hx10 := ib_length x
      go_wp2_with (first | (go_at_call 69; refine (R02.Int_calls x HX.out).mono ?_; rintro e w5 ⟨a5, cp5, rfl, op5⟩; have H5 := Lib.hid (And.intro op5.sl (HW4.out.quiet op5.u)); clear op5) | (refine wpList_appS rfl _ _ _ rfl 5 1 1 _ Try.underlying49 infoByte rfl (by decide) _ _ _ rfl H5.out.2.row _ _ _ rfl H5.out.1 (byts_one _) (by unfold maxLen; omega) (by omega) ?_; intro a6 cap6 w6 o6 u6 k6))
      have H6 := Lib.hid (H5.out.2.app o6 u6 k6)
      refine ⟨⟨k + 1, by go_num, by omega, ?_⟩, by simp [intOf]; omega⟩
      rw [HS.out, ← List.append_assoc, HP.out]
      exact H6.out
    · have HP := Lib.hid (lb_take (l := l) (k := k) (by omega))
      rw [HP.out] at W4 ⊢
      have HW4 := Lib.hid W4
      clear W4
      go_wp2_with fail
      go_ret
      exact ⟨_, _, rfl, HW4.out⟩
end
end Wire
end Go.Proofs.Ytgdpbhbdeaifbaa
