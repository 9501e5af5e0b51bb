/- Gates: a run of gates one behind the other makes all their clauses true, in plain Lean. No program is named. Conditions: none. -/
import Derived.Test.YtobclpfpkpkocaaGateW
set_option linter.unusedVariables false
set_option linter.unusedSimpArgs false
set_option linter.unusedSectionVars false
open Go.RowKit
namespace Go.Proofs.Ytobclpfpkpkocaa
open L
namespace Gate
open Cla R14
/-- An assignment of n - 1 variables, all of them with a value. -/
structure Full (n : Nat) (B : List Int) : Prop where
  len : B.length = n
  val : ∀ j, 1 ≤ j → j < n → B.getD j 0 = 1 ∨ B.getD j 0 = -1
/-- A gate of a list: its output, and inputs that come before it. -/
def LG (o : Int) (g : G) : Prop := g.2.1 = o ∧ gOk g.1 o g.2.2 = true ∧ ∀ x ∈ g.2.2, 1 ≤ x.natAbs ∧ (x.natAbs : Int) ≤ o - 1
theorem Full.has {n : Nat} {B : List Int} (h : Full n B) {x : Int} (h1 : 1 ≤ x.natAbs) (h2 : x.natAbs < n) : Has1 B x ∧ x.natAbs < B.length ∧ B.getD x.natAbs 0 ≤ 1 ∧ -1 ≤ B.getD x.natAbs 0 := by
  have hv := h.val _ h1 h2
  have hl := h.len
  refine ⟨⟨by omega, ?_⟩, by omega, by omega, by omega⟩
  unfold lval
  split <;> omega
theorem set_gd {B : List Int} {i j : Nat} {v : Int} (h : i < B.length) : (B.set i v).getD j 0 = if i = j then v else B.getD j 0 := by
  rw [List.getD_eq_getElem?_getD, List.getD_eq_getElem?_getD, List.getElem?_set]
  split
  · rename_i e; subst e; simp [h]
  · rfl
theorem runVal_pm (k : Int) (xs A : List Int) : runVal k xs A = 1 ∨ runVal k xs A = -1 := by unfold runVal; split <;> simp
theorem Full.run {n : Nat} {B : List Int} (h : Full n B) {k o : Int} {xs : List Int} (h1 : 1 ≤ o) (h2 : o < n) : Full n (runSet k o xs B) := by
  have hl := h.len
  refine ⟨by unfold runSet; rw [List.length_set]; exact hl, fun j hj1 hj2 => ?_⟩
  unfold runSet
  rw [set_gd (by omega)]
  split
  · exact runVal_pm _ _ _
  · exact h.val j hj1 hj2
theorem isT_set {B : List Int} {i : Nat} {v x : Int} (hi : i < B.length) (h : x.natAbs ≠ i) : isT (B.set i v) x = isT B x := by
  have e : (B.set i v).getD x.natAbs 0 = B.getD x.natAbs 0 := by rw [set_gd hi, if_neg (fun e => h e.symm)]
  unfold isT lval
  rw [e]
theorem runErr_full {n : Nat} {B : List Int} (h : Full n B) {o : Int} {xs : List Int} (h2 : o < n) (hx : ∀ x ∈ xs, 1 ≤ x.natAbs ∧ x.natAbs < n) : runErr o xs B = 0 := by
  have hl := h.len
  refine runErr_ok (by omega) (fun x hm => ?_) (fun x hm => ?_)
  · obtain ⟨_, h3, h4, h5⟩ := h.has (hx x hm).1 (hx x hm).2
    unfold badV
    simp only [Bool.or_eq_false_iff, decide_eq_false_iff_not]
    exact ⟨⟨by omega, by omega⟩, by omega⟩
  · have hv := h.val _ (hx x hm).1 (hx x hm).2
    unfold opn
    rcases hv with e | e <;> rw [e] <;> rfl
/-- The gate has its value. -/
def Holds (B : List Int) (g : G) : Prop := gVal g.1 (g.2.2.map (isT B)) = isT B g.2.1
theorem Holds.keep {B : List Int} {g : G} {i : Nat} {v : Int} (h : Holds B g) (hi : i < B.length) (ho : g.2.1.natAbs ≠ i) (hx : ∀ x ∈ g.2.2, x.natAbs ≠ i) : Holds (B.set i v) g := by
  unfold Holds
  rw [isT_set hi ho, List.map_congr_left (g := isT B) (fun x hm => isT_set hi (hx x hm))]
  exact h
theorem Holds.set {B : List Int} {k o : Int} {xs : List Int} (h0 : 1 ≤ o) (hi : o.toNat < B.length) (hx : ∀ x ∈ xs, x.natAbs ≠ o.toNat) : Holds (runSet k o xs B) (k, o, xs) := by
  unfold Holds runSet
  show gVal k (xs.map _) = isT _ o
  rw [List.map_congr_left (g := isT B) (fun x hm => isT_set hi (hx x hm))]
  unfold isT lval
  rw [if_neg (by omega), set_gd hi, if_pos (by omega)]
  unfold runVal
  split
  · rename_i e; exact e
  · rename_i e; rw [Bool.not_eq_true] at e; exact e
theorem gd_drop (gs : List G) {j : Nat} (h : j < gs.length) : gs.drop j = gs.getD j (0, 0, []) :: gs.drop (j + 1) := by
  rw [List.drop_eq_getElem_cons h, List.getD_eq_getElem?_getD, List.getElem?_eq_getElem h]; rfl
/-- A run of such a list. -/
theorem runs_law {gs : List G} {A : List Int} (hg : ∀ i, i < gs.length → LG (5 + i) (gs.getD i (0, 0, []))) (hA : Full (5 + gs.length) A) :
    ∃ B, runAll gs A = (B, 0) ∧ Full (5 + gs.length) B ∧ ∀ i, i < gs.length → Holds B (gs.getD i (0, 0, [])) := by
  have key : ∀ j, j ≤ gs.length → ∃ B, runL gs A = runL (gs.drop j) B ∧ Full (5 + gs.length) B ∧ ∀ i, i < j → Holds B (gs.getD i (0, 0, [])) := by
    intro j
    induction j with
    | zero => exact fun _ => ⟨A, rfl, hA, fun i hi => by omega⟩
    | succ j ih =>
      intro hj
      obtain ⟨B, h1, h2, h3⟩ := ih (by omega)
      obtain ⟨ho, hok, hx⟩ := hg j (by omega)
      rw [gd_drop gs (show j < gs.length by omega)] at h1
      have hl := h2.len
      have hB3 : ∀ v : Int, ∀ i, i < j → Holds (B.set (5 + (j : Int)).toNat v) (gs.getD i (0, 0, [])) := fun v i hi => by
        obtain ⟨ho', _, hx'⟩ := hg i (by omega)
        refine (h3 i hi).keep (by omega) (by rw [ho']; omega) (fun x hm => ?_)
        have := hx' x hm
        omega
      have e : gs.getD j (0, 0, []) = ((gs.getD j (0, 0, [])).1, 5 + (j : Int), (gs.getD j (0, 0, [])).2.2) := by rw [← ho]
      generalize (gs.getD j (0, 0, [])).1 = k at *
      generalize (gs.getD j (0, 0, [])).2.2 = xs at *
      rw [e] at h1
      refine ⟨runSet k (5 + (j : Int)) xs B, ?_, h2.run (by omega) (by omega), fun i hi => ?_⟩
      · rw [h1]
        show (if runErr (5 + (j : Int)) xs B ≠ 0 then _ else _) = _
        rw [if_neg]
        rw [runErr_full h2 (by omega) (fun x hm => by have := hx x hm; omega)]
        simp
      · by_cases hij : i = j
        · subst hij
          rw [e]
          exact Holds.set (by omega) (by omega) (fun x hm => by have := hx x hm; omega)
        · exact hB3 _ i (by omega)
  obtain ⟨B, h1, h2, h3⟩ := key gs.length (Nat.le_refl _)
  refine ⟨B, ?_, h2, h3⟩
  rw [List.drop_length] at h1
  unfold runAll
  rw [if_neg, h1]
  · rfl
  · rw [Bool.not_eq_true, List.any_eq_false]
    intro g hm
    obtain ⟨i, hi, rfl⟩ := List.getElem_of_mem hm
    obtain ⟨ho, hok, _⟩ := hg i hi
    rw [List.getD_eq_getElem?_getD, List.getElem?_eq_getElem hi] at ho hok
    simp only [Option.getD_some] at ho hok
    unfold badG
    rw [ho, hok]; simp
/-- The clauses of a gate of the list, in an assignment in which it has its value. -/
theorem gate_states {n : Nat} {B : List Int} {k o : Int} {xs : List Int} (hB : Full n B) (hok : gOk k o xs = true) (hn : o < n) (hx : ∀ x ∈ xs, 1 ≤ x.natAbs ∧ (x.natAbs : Int) ≤ o - 1) (hh : Holds B (k, o, xs)) :
    ∀ c ∈ gCl k o xs, stateRes c B = (true, [], 0) := by
  obtain ⟨⟨k0, k6⟩, ⟨o1, o2⟩, hl, _⟩ := gOk_iff.1 hok
  have hlaw := gate_law (A := B) k0 k6 hl (hB.has (x := o) (by omega) (by omega)).1 (fun x hm => (hB.has (hx x hm).1 (by have := hx x hm; omega)).1)
  rw [show gVal k (xs.map (isT B)) = isT B o from hh] at hlaw
  simp only [beq_self_eq_true, List.all_eq_true] at hlaw
  intro c hc
  have ht := hlaw c hc
  unfold gCl keep at hc
  obtain ⟨d, hd, rfl⟩ := List.mem_map.1 hc
  have hd2 := (List.mem_filter.1 hd).1
  obtain ⟨h1, h2, h3, h4⟩ := (gRaw_ok hok).1 d hd2
  have hnl := norm_length d
  have hsm : ∀ x ∈ norm d, 1 ≤ x.natAbs ∧ (x.natAbs : Int) ≤ o := by
    intro x hxm
    rw [norm_mem] at hxm
    obtain ⟨r, hr, rfl⟩ := List.mem_map.1 hd2
    obtain ⟨m, hm, rfl⟩ := List.mem_map.1 hxm
    have hrow := ((rowsOf_ok k0 k6).1 r hr).2.2 m hm
    have h5 := ninp_le k
    have hv : 1 ≤ (litVar o xs m.natAbs).natAbs ∧ ((litVar o xs m.natAbs).natAbs : Int) ≤ o := by
      unfold litVar
      rcases hrow with h | ⟨ha, hb⟩
      · rw [if_neg (by omega)]; omega
      · rw [if_pos (by omega)]
        have := hx _ (gd_mem (c := xs) (k := m.natAbs - 1) (by omega))
        omega
    unfold litOf
    split <;> omega
  rw [state_has (listErr_lits (by omega) (fun x hm => by have := hsm x hm; omega)) (fun x hm => hB.has (hsm x hm).1 (by have := hsm x hm; omega)), ht]
end Gate
end Go.Proofs.Ytobclpfpkpkocaa
