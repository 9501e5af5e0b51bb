/- A frame with one byte changed is not accepted: plain facts. No program is named. Conditions: none. -/
import Derived.Test.YtfkgpecglcjpkaaGreatJourP
set_option linter.unusedVariables false
set_option linter.unusedSimpArgs false
set_option linter.unusedSectionVars false
open Go.RowKit
namespace Go.Proofs.YtfkgpecglcjpkaaGreat
open L
namespace Jour
open Wire Hash
theorem set_app_lt {a b : List Int} {i : Nat} {v : Int} (h : i < a.length) : (a ++ b).set i v = a.set i v ++ b := List.set_append_left i v h
theorem set_app_ge {a b : List Int} {i : Nat} {v : Int} (h : a.length ≤ i) : (a ++ b).set i v = a ++ b.set (i - a.length) v := List.set_append_right i v h
theorem detect {k : Int} {own x : List Int} {i : Nat} {v : Int} (hk : IsI64 k) (hu : ∀ y ∈ own, IsU8 y) (hl : own.length < 100000000000) (hi : (ub (coreB k own).length).length ≤ i) (hi2 : i < (frB k own).length) (hv : IsU8 v) (hne : (frB k own)[i] ≠ v) :
    ¬ frB k x <+: (frB k own).set i v := by
  intro h
  have c1 := coreB_length k own
  have c2 := coreB_length k x
  have x1 := frB_length k x
  have x2 := frB_length k own
  have hle := h.length_le
  rw [List.length_set] at hle
  obtain ⟨t, ht⟩ := pre_get h
  obtain ⟨j, rfl⟩ : ∃ j, i = (ub (coreB k own).length).length + j := ⟨i - (ub (coreB k own).length).length, by omega⟩
  have e1 : frB k own = ub (coreB k own).length ++ (coreB k own ++ ub (hF (coreB k own))) := by unfold frB rb; rw [List.append_assoc]
  have e2 : frB k x = ub (coreB k x).length ++ (coreB k x ++ ub (hF (coreB k x))) := by unfold frB rb; rw [List.append_assoc]
  have hlen := congrArg List.length e1
  simp only [List.length_append] at hlen
  have hne' : (coreB k own ++ ub (hF (coreB k own)))[j]? ≠ some v := by
    intro hh
    apply hne
    have : (frB k own)[(ub (coreB k own).length).length + j]? = some v := by
      rw [e1, List.getElem?_append_right (by omega), Nat.add_sub_cancel_left]; exact hh
    rw [List.getElem?_eq_getElem hi2] at this
    exact Option.some.inj this
  clear hne
  rw [e1, e2, set_app_ge (by omega), List.append_assoc, Nat.add_sub_cancel_left] at ht
  obtain ⟨hn, ht⟩ := ub_cut (by omega) (by omega) ht
  rcases Nat.lt_or_ge j (coreB k own).length with hj | hj
  · rw [set_app_lt hj, List.append_assoc] at ht
    obtain ⟨g1, g2⟩ := List.append_inj ht (by rw [List.length_set]; exact hn)
    have g3 := (ub_cut (n := hF (coreB k own)) (m := hF (coreB k x)) (s := []) (t := t) (hF_lt _) (hF_lt _) (by rw [List.append_nil]; exact g2)).1
    rw [← g1] at g3
    rw [List.getElem?_append_left hj, List.getElem?_eq_getElem hj] at hne'
    have hu' := coreB_u8 hk hu (by omega)
    refine bytesN_set (lw := frW) (ll := 5) (bs := coreB k own) (i := j) (v := v) ?_ (by omega) (by omega) hu' hv hj (fun hh => hne' (by rw [hh])) g3.symm
    intro w hw
    simp only [frW, List.mem_singleton] at hw
    subst hw
    decide
  · rw [set_app_ge hj, List.append_assoc] at ht
    obtain ⟨g1, g2⟩ := List.append_inj ht hn
    rw [← g1] at g2
    have g3 := congrArg List.length g2
    rw [List.length_set, List.length_append] at g3
    have ht0 : t = [] := List.eq_nil_of_length_eq_zero (by omega)
    subst ht0
    rw [List.append_nil] at g2
    have g4 := congrArg (fun l => l[j - (coreB k own).length]?) g2
    rw [List.getElem?_set_self (by omega)] at g4
    rw [List.getElem?_append_right hj] at hne'
    exact hne' g4.symm
theorem scn_turned {own : List Int} {i : Nat} {v : Int} (hu : ∀ y ∈ own, IsU8 y) (hl : own.length < 100000000000) (hi : (ub (coreB 0 own).length).length ≤ i) (hi2 : i < (frB 0 own).length) (hv : IsU8 v) (hne : (frB 0 own)[i] ≠ v) : Scn ((frB 0 own).set i v) [] :=
  ⟨by simp [cat], fun x => by
    simp only [cat, List.length_nil, List.drop_zero]
    exact detect ⟨by omega, by omega⟩ hu hl hi hi2 hv hne⟩
theorem scn_one (own : List Int) : Scn (frB 0 own) [own] := by
  refine ⟨by simp [cat], fun x h => ?_⟩
  have := h.length_le
  have h1 := frB_length (([own].length : Nat) : Int) x
  simp only [cat, List.append_nil, List.length_drop] at this
  rw [show ((0 : Nat) : Int) = 0 from rfl] at this
  omega
end Jour
end Go.Proofs.YtfkgpecglcjpkaaGreat
