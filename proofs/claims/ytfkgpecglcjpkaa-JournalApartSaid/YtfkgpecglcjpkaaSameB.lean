/- Walks through the references: SameBytes, Few. Conditions: none. -/
import Derived.Test.YtfkgpecglcjpkaaWireW
import Derived.Test.YtfkgpecglcjpkaaSame
set_option linter.unusedVariables false
set_option linter.unusedSimpArgs false
set_option linter.unusedSectionVars false
open Go.RowKit
namespace Go.Proofs.Ytfkgpecglcjpkaa
open L
namespace R01
theorem SameBytes_calls {w : World} {v1 v2 : Value} {xs ys : List Int} (h1 : SL w 1 v1 xs.length (byts xs)) (h2 : SL w 1 v2 ys.length (byts ys)) :
    Calls Try.prog 11 #[v1, v2] w fun e w' => e = .returned (.bool (decide (xs = ys))) ∧ Upd [] w w' := by
  obtain ⟨a1, cap1, rfl, q1, r1, hc1⟩ := SL.form h1
  obtain ⟨a2, cap2, rfl, q2, r2, hc2⟩ := SL.form h2
  have HC1 := Lib.hid hc1
  have HC2 := Lib.hid hc2
  clear h1 h2 hc1 hc2
  by_cases hl : xs.length = ys.length
  · have HL := Lib.hid hl
    have hb : ((xs.length : Int) != (ys.length : Int)) = false := by simp [hl]
    have hle : xs.length ≤ ys.length := by omega
    have hle2 : ys.length ≤ xs.length := by omega
    clear hl
    go_enter Try.func11, Try.ntmps11
    go_wp2_with fail
    go_loopw [5] (fun i wr => ∃ k : Nat, k ≤ xs.length ∧ i = .int .i64 k ∧ xs.take k = ys.take k ∧ Upd [] w wr) (fun i _ => xs.length - (intOf i).toNat)
    case atStart => exact ⟨0, Nat.zero_le _, rfl, rfl, Upd.refl _ _⟩
    case round =>
      obtain ⟨k, hk, rfl, ht, hu⟩ := hrel
      have HT := Lib.hid ht
      clear ht
      by_cases hlt : k < xs.length
      · obtain ⟨g1, o1, rfl, c1⟩ := HC1.out (by omega)
        obtain ⟨g2, o2, rfl, c2⟩ := HC2.out (by omega)
        have e1 := hu.some (c1 k _ (Wire.byts_get (List.getElem?_eq_getElem hlt))) (by simp)
        have e2 := hu.some (c2 k _ (Wire.byts_get (List.getElem?_eq_getElem (show k < ys.length by omega)))) (by simp)
        by_cases hxy : xs[k] = ys[k]
        · have HB : Hid (xs.take (k + 1) = ys.take (k + 1)) := by
            unfold Hid
            rw [List.take_add_one, List.take_add_one, HT.out, List.getElem?_eq_getElem hlt, List.getElem?_eq_getElem (show k < ys.length by omega), hxy]
          have hb : (xs[k] != ys[k]) = false := by simp [hxy]
          clear hxy c1 c2
          generalize xs[k] = x at *
          generalize ys[k]'(by omega) = y at *
          go_wp2_with fail
          refine wp_region_qx (by kernel_rfl) (by kernel_rfl) ?_
          repeat (go_big_quiet_step ((fail)))
          refine wpQuiet_nil ?_
          intro x
          go_wp2_with fail
          exact ⟨⟨k + 1, by omega, by go_num, HB.out, hu.step x.upd⟩, by simp [intOf]; omega⟩
        · have HB : Hid (xs ≠ ys) := fun h => hxy (by subst h; rfl)
          have hb : (xs[k] != ys[k]) = true := by simp [hxy]
          clear hxy c1 c2
          generalize xs[k] = x at *
          generalize ys[k]'(by omega) = y at *
          go_wp2_with fail
          refine wp_region_qx (by kernel_rfl) (by kernel_rfl) ?_
          repeat (go_big_quiet_step ((fail)))
          refine wpQuiet_nil ?_
          intro x
          go_wp2_with fail
          go_ret
          exact ⟨ret_bool (by simp [HB.out]), hu.step x.upd⟩
      · have HB : Hid (xs = ys) := by
          have := HT.out
          rw [List.take_of_length_le (by omega), List.take_of_length_le (by omega)] at this
          exact this
        go_wp2_with fail
        go_ret
        exact ⟨ret_bool (by simp [HB.out]), hu⟩
  · have hb : ((xs.length : Int) != (ys.length : Int)) = true := by simp; omega
    go_enter Try.func11, Try.ntmps11
    go_wp2_with fail
    go_ret
    exact ⟨ret_bool (by have : xs ≠ ys := fun h => hl (by rw [h])
                        simp [this]), Upd.refl _ _⟩

set_option maxRecDepth 100000 in
theorem Few_calls {v : Value} {xs : List Int} {w : World} (h : SL w 1 v xs.length (byts xs)) (n : Nat) (hn : n ≤ 70368744177664) :
    Calls Try.prog 10 #[v, .int .i64 n] w fun e w' => ∃ a cap, e = .returned (.slice a (xs.take n).length cap) ∧ OwnV w 5 1 (.slice a (xs.take n).length cap) (xs.take n).length (byts (xs.take n)) w' ∧ Upd [] w w' := by
  obtain ⟨hl, a, cap, rfl, hc, hm, hnil, hcell⟩ := h
  have H : SL w 1 (.slice a xs.length cap) xs.length (byts xs) := ⟨hl, a, cap, rfl, hc, hm, hnil, hcell⟩
  have hm2 := hm
  unfold maxLen at hm2
  obtain ⟨m, hmn, hmm⟩ : ∃ m : Nat, m = min n xs.length ∧ (n < xs.length ∧ m = n ∨ xs.length ≤ n ∧ m = xs.length) := ⟨_, rfl, by omega⟩
  have hlen : (xs.take n).length = m := by rw [List.length_take]; omega
  have H2 : SL w 1 (.slice a m cap) m (byts (xs.take n)) := by
    refine ⟨by rw [Wire.byts_length]; omega, a, cap, rfl, by omega, hm, hnil, ?_⟩
    rcases hcell with hz | ⟨b, off, rfl, hcc⟩
    · left; omega
    · refine .inr ⟨b, off, rfl, fun j u hj => hcc j u ?_⟩
      unfold byts at hj ⊢
      rw [List.map_take] at hj
      rw [List.getElem?_take] at hj
      split at hj
      · exact hj
      · cases hj
  have HH := Lib.hid (And.intro H2 hlen)
  have HLN := Lib.hid hlen
  have hm7 : m ≤ 70368744177664 := by omega
  have hmc : m ≤ cap := by omega
  clear hl hcell H H2 hlen hmn hnil
  rcases hmm with ⟨h1, h2⟩ | ⟨h1, h2⟩
  all_goals
    subst h2
    go_enter Try.func10, Try.ntmps10
    go_wp2_with (refine wpList_appS rfl _ _ _ rfl 5 1 1 _ Try.underlying23 Wire.infoByte rfl (by decide) (.slice none 0 0) 0 [] rfl (World.ownsRow_nil _ _ _ _) _ _ _ rfl HH.out.1 (Wire.byts_one _) (by unfold maxLen; omega) (by omega) ?_; intro a1 cap1 w1 o1 u1 k1; rw [Nat.zero_add, List.nil_append] at o1; rw [Nat.zero_add] at k1; clear HH)
    go_ret
    rw [HLN.out]
    refine ⟨a1, cap1, rfl, ⟨o1, fun g hg => ?_⟩, u1⟩
    rcases k1 with k1 | k1 <;> rw [hg] at k1 <;> simp [Value.ownBlock] at k1 <;> omega
end R01
end Go.Proofs.Ytfkgpecglcjpkaa
