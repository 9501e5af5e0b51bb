/- Walks through the laws of gates: GateDefines. Conditions: none. -/
import Derived.Test.YtjflbhkhnmodaaaGateL
import Derived.Test.YtjflbhkhnmodaaaGateN
set_option linter.unusedVariables false
set_option linter.unusedSimpArgs false
set_option linter.unusedSectionVars false
open Go.RowKit
namespace Go.Proofs.Ytjflbhkhnmodaaa
open L
namespace Gate
open Cla R14 R01
/-- An assignment: bit v of m as 1 or -1. -/
def sgn (m : Int) (v : Nat) : Int := 2 * (m / 2 ^ v % 2) - 1
def asg (m : Int) (n : Nat) : List Int := 0 :: (List.range n).map (sgn m)
theorem asg_snoc (m : Int) (n : Nat) : asg m (n + 1) = asg m n ++ [2 * (m / 2 ^ n % 2) - 1] := by simp [asg, List.range_succ, sgn]
theorem asg_len (m : Int) (n : Nat) : (asg m n).length = n + 1 := by simp [asg]
theorem sgn_pm (m : Int) (v : Nat) : sgn m v = 1 ∨ sgn m v = -1 := by unfold sgn; omega
theorem shr_lo {m : Int} (h : 0 ≤ m) (v : Nat) : 0 ≤ m / 2 ^ v := Int.ediv_nonneg h (Int.le_of_lt (Int.pow_pos (by omega)))
theorem shr_hi {m : Int} (h : 0 ≤ m) (v : Nat) : m / 2 ^ v ≤ m := Int.ediv_le_self _ h
theorem asg_get (m : Int) {n i : Nat} (h1 : 1 ≤ i) (h2 : i ≤ n) : (asg m n).getD i 0 = sgn m (i - 1) := by
  unfold asg
  obtain ⟨j, rfl⟩ : ∃ j, i = j + 1 := ⟨i - 1, by omega⟩
  rw [List.getD_eq_getElem?_getD, List.getElem?_cons_succ, List.getElem?_map, List.getElem?_range (by omega)]
  simp
theorem asg_i64 (m : Int) (n : Nat) : ∀ x ∈ asg m n, IsI64 x := by
  intro x hx
  unfold asg at hx
  rcases List.mem_cons.1 hx with rfl | hx
  · unfold IsI64; omega
  · obtain ⟨v, _, rfl⟩ := List.mem_map.1 hx
    have := sgn_pm m v
    unfold IsI64; omega
theorem some_ok {k : Int} {xs : List Int} (h0 : 0 ≤ k) (h6 : k ≤ 6) (hl : xs.length = ninp k) (hx : ∀ x ∈ xs, 1 ≤ x.natAbs ∧ (x.natAbs : Int) ≤ max 1 (4 - 1)) : gOk k 4 xs = true :=
  gOk_iff.2 ⟨⟨h0, h6⟩, by omega, hl, fun x hx' => by have := hx x hx'; omega⟩
theorem asg_has {m : Int} {n : Nat} {x : Int} (h1 : 1 ≤ x.natAbs) (h2 : x.natAbs ≤ n) : Has1 (asg m n) x ∧ x.natAbs < (asg m n).length ∧ (asg m n).getD x.natAbs 0 ≤ 1 ∧ -1 ≤ (asg m n).getD x.natAbs 0 := by
  have hg := asg_get m h1 h2
  have hs := sgn_pm m (x.natAbs - 1)
  rw [asg_len]
  refine ⟨⟨by omega, ?_⟩, by omega, by omega, by omega⟩
  unfold lval
  split <;> omega
theorem gCl_small {k : Int} {xs : List Int} (hok : gOk k 4 xs = true) (hx : ∀ x ∈ xs, 1 ≤ x.natAbs ∧ x.natAbs ≤ 4) : ∀ c ∈ gCl k 4 xs, listErr c = 0 ∧ c.length ≤ 4 ∧ ∀ x ∈ c, 1 ≤ x.natAbs ∧ x.natAbs ≤ 4 := by
  intro c hc
  unfold gCl keep at hc
  obtain ⟨d, hd, rfl⟩ := List.mem_map.1 hc
  have hd2 := (List.mem_filter.1 hd).1
  obtain ⟨h1, h2, h3, h4⟩ := (gRaw_ok hok).1 d hd2
  have hl := norm_length d
  have hsm : ∀ x ∈ norm d, 1 ≤ x.natAbs ∧ x.natAbs ≤ 4 := by
    intro x hxm
    rw [norm_mem] at hxm
    obtain ⟨r, hr, rfl⟩ := List.mem_map.1 hd2
    obtain ⟨n, hn, rfl⟩ := List.mem_map.1 hxm
    obtain ⟨⟨k0, k6⟩, _, hle, _⟩ := gOk_iff.1 hok
    have hrow := ((rowsOf_ok k0 k6).1 r hr).2.2 n hn
    have h5 := ninp_le k
    have hv : 1 ≤ (litVar 4 xs n.natAbs).natAbs ∧ (litVar 4 xs n.natAbs).natAbs ≤ 4 := by
      unfold litVar
      rcases hrow with h | ⟨ha, hb⟩
      · rw [if_neg (by omega)]; decide
      · rw [if_pos (by omega)]; exact hx _ (gd_mem (by omega))
    unfold litOf
    split <;> omega
  exact ⟨listErr_lits (by omega) (fun x hxm => by have := hsm x hxm; omega), by omega, hsm⟩
theorem SL_mid {w : World} {a : Option Addr} {n cap i : Nat} {xs : List Int} (h : SL w 1 (.slice a n cap) n (ints xs)) (hi : i < n) : SL w 1 (sliced a i (i + 1) cap 1) 1 (ints [xs.getD i 0]) := by
  unfold sliced
  rw [Nat.mul_one]
  obtain ⟨h1, a', cap', he, h2, h3, h5, h4⟩ := h
  cases he
  rw [ints_length, Nat.mul_one] at h1
  refine ⟨rfl, _, _, by rw [show i + 1 - i = 1 by omega], by omega, by omega, ?_, ?_⟩
  · intro hn
    split at hn
    · omega
    · cases a with
      | none => have := h5 rfl; omega
      | some x => cases hn
  · rcases h4 with h4 | ⟨b, off, rfl, h4⟩
    · omega
    · right
      rw [if_neg (by omega)]
      refine ⟨b, off + i, by simp [addr_add], fun j u hj => ?_⟩
      cases j with
      | zero =>
        simp [ints] at hj
        subst hj
        exact h4 i _ (ints_gd (by omega))
      | succ j => simp [ints] at hj
attribute [-go_sem] sliced
/-- Are all clauses true? -/
def allT (A : List Int) (L : List (List Int)) : Bool := L.all (tru A)
theorem allT_snoc (A : List Int) {L : List (List Int)} {j : Nat} (h : j < L.length) : allT A (L.take (j + 1)) = (allT A (L.take j) && tru A (L.getD j [])) := by
  unfold allT
  rw [List.take_add_one, gd_some (d := []) h, List.all_append]
  simp
theorem infoBool : (Try.prog.info? 4).map (fun i => (i.zero, i.size, i.bytes)) = some (some (.bool false), 1, 1) := by kernel_rfl
section
variable {w : World}
end
end Gate
end Go.Proofs.Ytjflbhkhnmodaaa
