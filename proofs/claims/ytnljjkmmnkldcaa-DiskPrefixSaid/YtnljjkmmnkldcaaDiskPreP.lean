/- The law DiskPrefix in plain words. No program is named. Conditions: none. -/
import Derived.Test.YtnljjkmmnkldcaaDiskDur
set_option linter.unusedVariables false
set_option linter.unusedSimpArgs false
set_option linter.unusedSectionVars false
open Go.RowKit
namespace Go.Proofs.Ytnljjkmmnkldcaa
open L
namespace Disk
/-- A disk with one file. -/
def preS (all : List Int) (firm : Nat) : DS := ⟨1000, fun i => if i = 9 then all else [], fun i => if i = 9 then firm else 0, false, -1⟩
theorem ds_eq {s t : DS} (h1 : s.room = t.room) (h2 : ∀ i, s.B i = t.B i) (h3 : ∀ i, s.F i = t.F i) (h4 : s.off = t.off) (h5 : s.plan = t.plan) : s = t := by
  obtain ⟨a, b, c, d, e⟩ := s
  obtain ⟨a', b', c', d', e'⟩ := t
  simp only at h1 h2 h3 h4 h5
  rw [h1, h4, h5, show b = b' from funext h2, show c = c' from funext h3]
theorem pre_used (all : List Int) (firm : Nat) : used (preS all firm) = all.length := by
  have h := tot_one (n := 64) (g := fun i => ((preS all firm).B i).length) (h := fun _ => 0) (i := 9) (by omega) (fun j _ hne => by simp [preS, hne])
  have h2 := tot_zero (g := fun _ => 0) (n := 64) (fun _ _ => rfl)
  unfold used
  simp only [preS, if_pos] at h ⊢
  omega
theorem pre_nil : preS [] 0 = newS 1000 := by
  refine ds_eq rfl (fun i => ?_) (fun i => ?_) rfl rfl
  · simp [preS, newS]
  · simp [preS, newS]
theorem pre_step (all : List Int) (firm : Nat) : stepS (preS all firm) = (false, preS all firm) := if_pos (show (-1 : Int) < 0 by omega)
theorem pre_append {all b : List Int} {firm : Nat} (h : all.length + b.length ≤ 1000) : appendS (preS all firm) 9 b = (0, preS (all ++ b) firm) := by
  unfold appendS
  rw [if_neg (by decide), if_neg (by simp [preS, newS]), if_neg (by rw [pre_used]; simp [preS, newS]; omega)]
  have e : ({ preS all firm with B := setB (preS all firm).B (Int.toNat 9) ((preS all firm).B (Int.toNat 9) ++ b) } : DS) = preS (all ++ b) firm := by
    refine ds_eq rfl (fun i => ?_) (fun i => rfl) rfl rfl
    simp only [setB, preS]
    by_cases e : i = 9
    · subst e; simp
    · have : ¬ i = Int.toNat 9 := e
      simp [e]
  simp only
  rw [e]
  rw [pre_step]
  rfl
theorem pre_sync (all : List Int) (firm : Nat) : syncS (preS all firm) = (0, preS all all.length) := by
  unfold syncS
  rw [pre_step, if_neg (by simp [preS]), if_neg (by simp)]
  refine congrArg (Prod.mk (0 : Int)) ?_
  refine ds_eq rfl (fun i => ?_) (fun i => ?_) rfl rfl
  · simp [preS]
  · simp only [preS]
    by_cases e : i = 9
    · subst e; simp
    · simp [e]
theorem pre_kept (all : List Int) (firm : Nat) (keep : Int) (i : Nat) : keptN (preS all firm) [keep] i = if i = 9 then min keep.toNat (all.length - firm) else 0 := by
  have e9 : (preS all firm).B 9 = all := by simp [preS]
  by_cases e : i = 9
  · subst e
    rw [if_pos rfl]
    unfold keptN
    rw [e9]
    by_cases h0 : all = []
    · subst h0; simp
    · rw [if_neg h0]
      have hr : rank (preS all firm).B 9 = 0 := tot_zero (fun j hj => by rw [if_pos]; simp only [preS]; rw [if_neg (by omega)])
      rw [hr]
      simp [preS]
  · rw [if_neg e]
    unfold keptN
    rw [if_pos (by simp only [preS]; rw [if_neg e])]
theorem pre_tot (all : List Int) (firm : Nat) (keep : Int) : tot (keptN (preS all firm) [keep]) 64 = min keep.toNat (all.length - firm) := by
  have h := tot_one (n := 64) (g := keptN (preS all firm) [keep]) (h := fun _ => 0) (i := 9) (by omega) (fun j _ hne => by rw [pre_kept, if_neg hne])
  have h2 := tot_zero (g := fun _ => 0) (n := 64) (fun _ _ => rfl)
  rw [pre_kept, if_pos rfl] at h
  omega
theorem pre_tot9 (all : List Int) (firm : Nat) (keep : Int) : tot (keptN (preS all firm) [keep]) 9 = 0 :=
  tot_zero (fun i hi => by rw [pre_kept, if_neg (by omega)])
/-- What the crash leaves. -/
theorem pre_crash (all : List Int) (firm : Nat) (keep flip : Int) (n : Nat) (hn : n = firm + min keep.toNat (all.length - firm)) :
    (crashS (preS all firm) [keep] flip).B 9 = if 0 ≤ flip ∧ firm < n then flipL (all.take n) (8 * firm + flip.toNat % (8 * (n - firm))) else all.take n := by
  have e9 : (preS all firm).B 9 = all := by simp [preS]
  have f9 : (preS all firm).F 9 = firm := by simp [preS]
  have k9 := pre_kept all firm keep 9
  rw [if_pos rfl] at k9
  show crashB (preS all firm) [keep] (crashAt (preS all firm) [keep] flip) 9 = _
  unfold crashAt
  rw [pre_tot]
  by_cases h : 0 ≤ flip ∧ firm < n
  · rw [if_pos h, if_pos ⟨h.1, by omega⟩]
    unfold crashB
    simp only [e9, f9, k9, pre_tot9]
    have e : min keep.toNat (all.length - firm) = n - firm := by omega
    rw [e]
    have hm := Nat.mod_lt flip.toNat (show 0 < 8 * (n - firm) by omega)
    rw [if_pos ⟨by omega, by omega⟩]
    congr 1
    congr 1
    omega
  · rw [if_neg h, if_neg (by omega)]
    unfold crashB
    simp only [e9, f9, k9]
    rw [hn]
/-- How many bits are set. -/
def pc (v : Nat) : Nat := if h : v = 0 then 0 else v % 2 + pc (v / 2)
theorem pc_zero : pc 0 = 0 := by unfold pc; simp
theorem pc_pos {v : Nat} (h : v ≠ 0) : pc v = v % 2 + pc (v / 2) := by rw [pc, dif_neg h]
theorem pc_le {v : Nat} (h : v ≤ 255) : pc v ≤ 8 := by
  have key : ∀ (n v : Nat), v < 2 ^ n → pc v ≤ n := by
    intro n
    induction n with
    | zero => intro v hv; have : v = 0 := by simpa using hv
              subst this; rw [pc_zero]; exact Nat.le_refl _
    | succ n ih =>
      intro v hv
      by_cases h0 : v = 0
      · subst h0; rw [pc_zero]; omega
      · rw [pc_pos h0]
        have := ih (v / 2) (by rw [Nat.pow_succ] at hv; omega)
        omega
  exact key 8 v (by omega)
def xr (a b : Int) : Nat := (bits .xor .u8 a b).toNat
theorem xr_u8 {a b : Int} (ha : 0 ≤ a ∧ a ≤ 255) (hb : 0 ≤ b ∧ b ≤ 255) : bits .xor .u8 a b = (xr a b : Int) ∧ xr a b ≤ 255 := by
  obtain ⟨m, rfl⟩ := Int.eq_ofNat_of_zero_le ha.1
  obtain ⟨n, rfl⟩ := Int.eq_ofNat_of_zero_le hb.1
  have key : ∀ (i j : Fin 256), 0 ≤ bits .xor .u8 ((i.val : Nat) : Int) ((j.val : Nat) : Int) ∧ bits .xor .u8 ((i.val : Nat) : Int) ((j.val : Nat) : Int) ≤ 255 := by decide +kernel
  have h := key ⟨m, by omega⟩ ⟨n, by omega⟩
  simp only at h
  unfold xr
  omega
theorem xr_self {a : Int} (ha : 0 ≤ a ∧ a ≤ 255) : pc (xr a a) = 0 := by
  obtain ⟨m, rfl⟩ := Int.eq_ofNat_of_zero_le ha.1
  have key : ∀ (i : Fin 256), xr ((i.val : Nat) : Int) ((i.val : Nat) : Int) = 0 := by decide +kernel
  have h := key ⟨m, by omega⟩
  simp only at h
  rw [h, pc_zero]
theorem pc_pow : ∀ k : Nat, pc (2 ^ k) = 1
  | 0 => by rw [pc_pos (by simp)]; simp [pc_zero]
  | k + 1 => by
    rw [pc_pos (Nat.pos_iff_ne_zero.1 (Nat.two_pow_pos _)), Nat.pow_succ, Nat.mul_mod_left, Nat.mul_div_cancel _ (by omega), pc_pow k]
theorem xr_flip {a : Int} (ha : 0 ≤ a ∧ a ≤ 255) (j : Nat) : pc (xr (flipB a j) a) = 1 := by
  obtain ⟨m, rfl⟩ := Int.eq_ofNat_of_zero_le ha.1
  have key : ∀ (i : Fin 256) (s : Fin 8), xr (bits .xor .u8 ((i.val : Nat) : Int) (128 / 2 ^ s.val)) ((i.val : Nat) : Int) = 2 ^ (7 - s.val) := by decide +kernel
  have h := key ⟨m, by omega⟩ ⟨j % 8, by omega⟩
  simp only at h
  unfold flipB
  rw [h, pc_pow]
/-- The bits in which two lists differ, up to n. -/
def diff (xs ys : List Int) (n : Nat) : Nat := tot (fun i => pc (xr (xs.getD i 0) (ys.getD i 0))) n
theorem diff_same {xs ys : List Int} {n : Nat} (hy : ∀ x ∈ ys, 0 ≤ x ∧ x ≤ 255) (hn : n ≤ ys.length) (h : ∀ i, i < n → xs.getD i 0 = ys.getD i 0) : diff xs ys n = 0 :=
  tot_zero fun i hi => by
    rw [h i hi]
    refine xr_self (hy _ ?_)
    rw [List.getD_eq_getElem?_getD, List.getElem?_eq_getElem (by omega)]
    exact List.getElem_mem _
theorem take_getD {l : List Int} {n i : Nat} (h : i < n) : (l.take n).getD i 0 = l.getD i 0 := by
  rw [List.getD_eq_getElem?_getD, List.getElem?_take_of_lt h, List.getD_eq_getElem?_getD]
theorem diff_none {all : List Int} {n : Nat} (hu : ∀ x ∈ all, 0 ≤ x ∧ x ≤ 255) (hn : n ≤ all.length) : diff (all.take n) all n = 0 :=
  diff_same hu hn (fun _ hi => take_getD hi)
theorem diff_flip {all : List Int} {n k : Nat} (hu : ∀ x ∈ all, 0 ≤ x ∧ x ≤ 255) (hn : n ≤ all.length) (hk : k < 8 * n) : diff (flipL (all.take n) k) all n = 1 := by
  have hk8 : k / 8 < n := by omega
  have key : ∀ i, i < n → (flipL (all.take n) k).getD i 0 = if k / 8 = i then flipB (all.getD i 0) k else all.getD i 0 := fun i hi => by
    unfold flipL
    rw [List.getD_eq_getElem?_getD, List.getElem?_modify, List.getElem?_take_of_lt hi, List.getD_eq_getElem?_getD, List.getElem?_eq_getElem (by omega)]
    by_cases e : k / 8 = i <;> simp [e]
  have hmem : ∀ i, i < n → 0 ≤ all.getD i 0 ∧ all.getD i 0 ≤ 255 := fun i hi => by
    refine hu _ ?_
    rw [List.getD_eq_getElem?_getD, List.getElem?_eq_getElem (by omega)]
    exact List.getElem_mem _
  have h := tot_one (n := n) (g := fun i => pc (xr ((flipL (all.take n) k).getD i 0) (all.getD i 0))) (h := fun _ => 0) (i := k / 8) hk8 (fun j hj hne => by
    show pc (xr ((flipL (all.take n) k).getD j 0) (all.getD j 0)) = 0
    rw [key j hj, if_neg (fun e => hne e.symm), xr_self (hmem j hj)])
  have h2 := tot_zero (g := fun _ => 0) (n := n) (fun _ _ => rfl)
  have h3 : pc (xr ((flipL (all.take n) k).getD (k / 8) 0) (all.getD (k / 8) 0)) = 1 := by rw [key _ hk8, if_pos rfl, xr_flip (hmem _ hk8)]
  unfold diff
  omega
theorem diff_succ (xs ys : List Int) (n : Nat) : diff xs ys (n + 1) = diff xs ys n + pc (xr (xs.getD n 0) (ys.getD n 0)) := rfl
end Disk
end Go.Proofs.Ytnljjkmmnkldcaa
