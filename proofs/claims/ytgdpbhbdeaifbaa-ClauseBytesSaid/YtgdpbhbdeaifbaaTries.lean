/- Bytes that are tried at a decoder. No program is named. Conditions: none. -/
import Derived.Test.YtgdpbhbdeaifbaaSameB
import Derived.Test.YtgdpbhbdeaifbaaReg3
set_option linter.unusedVariables false
set_option linter.unusedSimpArgs false
set_option linter.unusedSectionVars false
open Go.RowKit
namespace Go.Proofs.Ytgdpbhbdeaifbaa
open L
namespace Law
open R01 Wire
/-- A world in which a cell holds what it held. -/
def One_ (p : Addr) (v : Value) : Type := { w : World // w.cell? p = some v }
theorem One_.c {p : Addr} {v : Value} (x : One_ p v) : x.val.cell? p = some v := x.property
attribute [go_sem] One_.c
theorem One_.of {p : Addr} {v : Value} {w : World} (h : w.cell? p = some v) : ∃ x : One_ p v, w = x.val := ⟨⟨w, h⟩, rfl⟩
theorem SL.takeB {w : World} {a : Option Addr} {n m cap : Nat} {xs : List Int} (h : SL w 1 (.slice a n cap) n (byts xs)) (hm : m ≤ n) : SL w 1 (.slice a m cap) m (byts (xs.take m)) := by
  obtain ⟨h1, a', cap', he, h2, h3, h5, h4⟩ := h
  cases he
  rw [byts_length] at h1
  refine ⟨by rw [byts_length, List.length_take]; omega, a, cap, rfl, by omega, h3, h5, ?_⟩
  rcases h4 with h4 | ⟨b, off, rfl, h4⟩
  · left; omega
  · refine .inr ⟨b, off, rfl, fun j u hj => h4 j u ?_⟩
    unfold byts at hj ⊢
    rw [List.map_take, List.getElem?_take] at hj
    split at hj
    · exact hj
    · cases hj
/-- The bytes that are tried. -/
def TriesT (ws : World) (Ls : List (List Int)) (t : Value) (w' : World) : Prop :=
  ∃ (g : Nat) (vals : List Value), t = .slice (some ⟨g, 0, none⟩) 4 4 ∧ Blk w' g vals 49 ∧ vals.length = 4 ∧ (∀ (i : Nat) (L : List Int), Ls[i]? = some L → ∃ v, vals[i]? = some v ∧ SL w' 1 v L.length (byts L)) ∧ Upd [] ws w'
theorem TriesT.mk {ws w w' : World} {L0 L1 L2 L3 : List Int} {v0 v1 v2 v3 : Value} (h0 : SL w 1 v0 L0.length (byts L0)) (h1 : SL w 1 v1 L1.length (byts L1)) (h2 : SL w 1 v2 L2.length (byts L2)) (h3 : SL w 1 v3 L3.length (byts L3)) (hu : Upd [] ws w)
    (hw : w' = w.alloc (.cells #[v0, v1, v2, v3] 49)) : TriesT ws [L0, L1, L2, L3] (.slice (some ⟨w.heap.size, 0, none⟩) 4 4) w' := by
  subst hw
  have u1 := (Upd.refl [] w).alloc (.cells #[v0, v1, v2, v3] 49)
  refine ⟨w.heap.size, [v0, v1, v2, v3], rfl, Blk.new w [v0, v1, v2, v3] 49, rfl, fun i L hL => ?_, hu.step u1⟩
  match i with
  | 0 => cases hL; exact ⟨_, rfl, h0.upd u1 (by simp)⟩
  | 1 => cases hL; exact ⟨_, rfl, h1.upd u1 (by simp)⟩
  | 2 => cases hL; exact ⟨_, rfl, h2.upd u1 (by simp)⟩
  | 3 => cases hL; exact ⟨_, rfl, h3.upd u1 (by simp)⟩
  | (i + 4) => simp at hL
end Law
end Go.Proofs.Ytgdpbhbdeaifbaa
