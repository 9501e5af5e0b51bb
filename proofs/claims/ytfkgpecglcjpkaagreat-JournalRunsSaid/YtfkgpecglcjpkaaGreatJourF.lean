/- Walks through the laws of journals: JournalFrames. Conditions: none. -/
import Derived.Test.YtfkgpecglcjpkaaGreatJourL
set_option linter.unusedVariables false
set_option linter.unusedSimpArgs false
set_option linter.unusedSectionVars false
open Go.RowKit
namespace Go.Proofs.YtfkgpecglcjpkaaGreat
open L
namespace Jour
open Wire Hash R01 R02
attribute [-go_sem] sliced
section
variable {w : World}
theorem u8_take {b : List Int} (h : ∀ x ∈ b, IsU8 x) (n : Nat) : ∀ x ∈ b.take n, IsU8 x := fun x hx => h x (List.mem_of_mem_take hx)
theorem cat_take {x : List (List Int)} {k : Nat} (h : k < x.length) : cat 0 (x.take (k + 1)) = cat 0 (x.take k) ++ frB (k : Nat) x[k] := by
  rw [take_snocL h, cat_snoc, Nat.zero_add, List.length_take, Nat.min_eq_left (by omega)]
theorem BO.base {w0 w1 w : World} {v : Value} {R : List (List Int)} (h : BO w1 v R w) (u : Upd [] w0 w1) : BO w0 v R w := by
  obtain ⟨vals, h1, h2⟩ := h.ex
  exact ⟨vals, ⟨h1.row, fun g hg => Nat.le_trans u.size (h1.fresh g hg)⟩, fun i c hi => by
    obtain ⟨y, h3, h4⟩ := h2 i c hi
    exact ⟨y, h3, h4.row, fun g hg => Nat.le_trans u.size (h4.fresh g hg)⟩⟩
theorem BO.at_ {w0 w : World} {v : Value} {l : List (List Int)} (h : BO w0 v l w) : ∃ a cap, v = .slice a l.length cap ∧ l.length ≤ cap ∧ cap ≤ 9223372036854775807 ∧ ∀ (k : Nat) (c : List Int), l[k]? = some c → ∃ g off ac cc, a = some ⟨g, off, none⟩ ∧ w.cell? ⟨g, off + k, none⟩ = some (.slice ac c.length cc) ∧ SL w 1 (.slice ac c.length cc) c.length (byts c) ∧ ∀ j, (Value.slice ac c.length cc).ownBlock = some j → j < w.heap.size := by
  obtain ⟨vals, h1, h2⟩ := h.ex
  obtain ⟨a, cap, rfl, q, r, hc⟩ := SL.form h1.sl
  refine ⟨a, cap, rfl, q, r, fun k c hk => ?_⟩
  have hkl := (List.getElem?_eq_some_iff.1 hk).1
  obtain ⟨g, off, rfl, hcc⟩ := hc (by omega)
  obtain ⟨y, h3, h4⟩ := h2 k c hk
  obtain ⟨ac, cc, rfl, _⟩ := h4.sl.val
  exact ⟨g, off, ac, cc, rfl, hcc k _ h3, h4.sl, h4.lt⟩
theorem BL.take_ {w : World} {a : Option Addr} {n cap m : Nat} {l : List (List Int)} (h : BL w (.slice a n cap) l) (hn : n = l.length) (hm : m ≤ n) : BL w (sliced a 0 m cap 1) (l.take m) := by
  subst hn
  obtain ⟨vals, h1, h2⟩ := h
  have hl : (l.take m).length = m := by rw [List.length_take]; omega
  refine ⟨vals.take m, by rw [hl]; exact SL.uptoV h1 hm, fun i c hi => ?_⟩
  rw [List.getElem?_take] at hi ⊢
  split at hi
  · obtain ⟨y, h3, h4⟩ := h2 i c hi
    rw [if_pos (by assumption)]
    exact ⟨y, h3, h4⟩
  · cases hi
theorem cat_mono {x l : List (List Int)} (h : x <+: l) : (cat 0 x).length ≤ (cat 0 l).length := by
  obtain ⟨t, rfl⟩ := h
  rw [cat_append, List.length_append]
  omega
theorem cat_bound {x : List (List Int)} (h : ∀ c ∈ x, c.length ≤ 200) : ∀ k, (cat k x).length ≤ 240 * x.length := by
  induction x with
  | nil => intro k; simp [cat]
  | cons c x ih =>
    intro k
    have h1 := ih (fun d hd => h d (List.mem_cons_of_mem _ hd)) (k + 1)
    have h2 := frB_length k c
    have h3 := h c (by simp)
    rw [cat, List.length_append, List.length_cons]
    omega
theorem cat_u8 {x : List (List Int)} (h : ∀ c ∈ x, (∀ y ∈ c, IsU8 y) ∧ c.length ≤ 200) : ∀ k, k + x.length ≤ 1000 → ∀ y ∈ cat k x, IsU8 y := by
  induction x with
  | nil => intro k _ y hy; simp [cat] at hy
  | cons c x ih =>
    intro k hk y hy
    simp only [List.length_cons] at hk
    rw [cat] at hy
    rcases List.mem_append.1 hy with hy | hy
    · exact frB_u8 ⟨by omega, by omega⟩ (h c (by simp)).1 (by have := (h c (by simp)).2; omega) y hy
    · exact ih (fun d hd => h d (List.mem_cons_of_mem _ hd)) (k + 1) (by omega) y hy
end
end Jour
end Go.Proofs.YtfkgpecglcjpkaaGreat
