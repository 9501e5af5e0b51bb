/- Walks through the reference of package disk: a disk in memory, its small functions. Conditions: none. -/
import Derived.Test.YtnljjkmmnkldcaaDiskJ
import Derived.Test.YtnljjkmmnkldcaaReg3
set_option linter.unusedVariables false
set_option linter.unusedSimpArgs false
set_option linter.unusedSectionVars false
open Go.RowKit
namespace Go.Proofs.Ytnljjkmmnkldcaa
open L
namespace Disk
open Wire
/-- A list of the values of a function. -/
def vl {α : Type} (V : Nat → α) : List α := (List.range 64).map V
theorem vl_length {α : Type} (V : Nat → α) : (vl V).length = 64 := by simp [vl]
theorem vl_get {α : Type} (V : Nat → α) {i : Nat} (h : i < 64) : (vl V)[i]? = some (V i) := by simp [vl, h]
theorem vl_set {α : Type} (V : Nat → α) {i : Nat} (v : α) (h : i < 64) : (vl V).set i v = vl (fun j => if j = i then v else V j) := by
  apply List.ext_getElem?
  intro j
  unfold vl
  rw [List.getElem?_set, List.getElem?_map, List.getElem?_map]
  by_cases e : i = j
  · subst e; simp [h]
  · by_cases hj : j < 64
    · have e2 : ¬ j = i := fun h => e h.symm
      rw [if_neg e]; simp [hj, e2]
    · rw [if_neg e]; simp [hj]
/-- The model of a disk at p in memory; S: all its blocks. -/
structure RDk (w : World) (p : Nat) (s : DS) (S : List Nat) : Prop where
  ex : ∃ bB bF V, Blk w p [.int .i64 (s.room : Int), .slice (some ⟨bB, 0, none⟩) 64 64, .slice (some ⟨bF, 0, none⟩) 64 64, .bool s.off, .int .i64 s.plan] 58 ∧ Blk w bB (vl V) 27 ∧ Blk w bF (vl fun i => .int .i64 (s.F i : Int)) 3 ∧
    p ≠ bB ∧ p ≠ bF ∧ bB ≠ bF ∧ p ∈ S ∧ bB ∈ S ∧ bF ∈ S ∧
    (∀ i, i < 64 → w.ownsRow 0 5 1 (V i) (s.B i).length (byts (s.B i)) ∧ ∀ g, (V i).ownBlock = some g → g ∈ S ∧ g ≠ p ∧ g ≠ bB ∧ g ≠ bF) ∧
    (∀ i j, i < 64 → j < 64 → i ≠ j → ∀ g, (V i).ownBlock = some g → (V j).ownBlock ≠ some g)
  ok : s.Ok
  lt : ∀ k ∈ S, k < w.heap.size
section
variable {w w' : World} {p : Nat} {s : DS} {S : List Nat}
theorem RDk.upd {T : List Nat} (h : RDk w p s S) (hu : Upd T w w') (hT : ∀ k ∈ T, k ∉ S) : RDk w' p s S := by
  obtain ⟨⟨bB, bF, V, h1, h2, h3, h4, h5, h6, h7, h8, h9, h10, h11⟩, hok, hlt⟩ := h
  refine ⟨⟨bB, bF, V, h1.upd hu (fun hp => hT p hp h7), h2.upd hu (fun hp => hT _ hp h8), h3.upd hu (fun hp => hT _ hp h9), h4, h5, h6, h7, h8, h9, fun i hi => ?_, h11⟩, hok, fun k hk => Nat.lt_of_lt_of_le (hlt k hk) hu.size⟩
  obtain ⟨a1, a2⟩ := h10 i hi
  exact ⟨ownsRow_updL a1 hu (fun b hb e => hT b hb (a2 b e).1), a2⟩
theorem RDk.quiet (h : RDk w p s S) (hu : Upd [] w w') : RDk w' p s S := h.upd hu (by simp)
theorem RDk.p_mem (h : RDk w p s S) : p ∈ S := by obtain ⟨bB, bF, V, h1, h2, h3, h4, h5, h6, h7, _⟩ := h.ex; exact h7
/-- The room, the switch and the plan may change. -/
theorem RDk.head {s' : DS} (h : RDk w p s S) (hok : s'.Ok) (hB : s'.B = s.B) (hF : s'.F = s.F) (hu : Upd [p] w w')
    (hb : ∀ x y, Blk w p [.int .i64 (s.room : Int), x, y, .bool s.off, .int .i64 s.plan] 58 → Blk w' p [.int .i64 (s'.room : Int), x, y, .bool s'.off, .int .i64 s'.plan] 58) : RDk w' p s' S := by
  obtain ⟨⟨bB, bF, V, h1, h2, h3, h4, h5, h6, h7, h8, h9, h10, h11⟩, _, hlt⟩ := h
  refine ⟨⟨bB, bF, V, hb _ _ h1, h2.upd hu (by simp; exact fun e => h4 e.symm), by rw [hF]; exact h3.upd hu (by simp; exact fun e => h5 e.symm), h4, h5, h6, h7, h8, h9, fun i hi => ?_, h11⟩, hok, fun k hk => Nat.lt_of_lt_of_le (hlt k hk) hu.size⟩
  rw [hB]
  obtain ⟨a1, a2⟩ := h10 i hi
  exact ⟨ownsRow_updL a1 hu (fun b hb e => by simp at hb; exact (a2 b e).2.1 hb), a2⟩
theorem RDk.cells (h : RDk w p s S) : ∃ x y, Blk w p [.int .i64 (s.room : Int), x, y, .bool s.off, .int .i64 s.plan] 58 := by obtain ⟨_, _, _, h1, _⟩ := h.ex; exact ⟨_, _, h1⟩
theorem RFails_calls (h : RDk w p s S) (hoff : s.off = false) (hpl : 0 ≤ s.plan) : Calls Try.prog 60 #[.pointer (some ⟨p, 0, none⟩)] w fun e w' => e = .returned (.bool (stepS s).1) ∧ RDk w' p (stepS s).2 S ∧ Upd [p] w w' := by
  have hok := stepS_ok h.ok
  obtain ⟨x, y, h1⟩ := h.cells
  have c3 := h1.cell (i := 3) rfl
  have c4 := h1.cell (i := 4) rfl
  have f4 := h1.free 4
  have f3 := h1.free 3
  have hp := h.ok.plan
  have HH := Lib.hid h
  rw [hoff] at c3
  clear h
  by_cases h0 : s.plan = 0
  · have hr : stepS s = (true, { s with plan := -1, off := true }) := by unfold stepS; rw [if_neg (by omega), if_pos h0]
    have HR := Lib.hid hr
    rw [hr] at hok
    rw [h0] at c4
    have H0 := Lib.hid h0
    clear hr hp h0 hpl hoff
    go_enter Try.func60, Try.ntmps60
    go_wp2_with fail
    go_ret
    rw [HR.out]
    have hu : Upd [p] w ((w.setCell ⟨p, 4, none⟩ (.int .i64 (-1))).setCell ⟨p, 3, none⟩ (.bool true)) := ((Upd.refl _ w).set (.inl (by simp)) _).set (.inl (by simp)) _
    exact ⟨rfl, HH.out.head hok rfl rfl hu (fun x y hb => (hb.set 4 _).set 3 _), hu⟩
  · have hr : stepS s = (false, { s with plan := s.plan - 1 }) := by unfold stepS; rw [if_neg (by omega), if_neg h0]
    have HR := Lib.hid hr
    rw [hr] at hok
    have hq : 0 ≤ s.plan - 1 := by omega
    have hmx := Lib.hid (show max (s.plan - 1) (-2) = s.plan - 1 by omega)
    have HO := Lib.hid hoff
    clear hr h0 hoff
    go_enter Try.func60, Try.ntmps60
    go_wp2_with fail
    go_ret
    rw [HR.out, hmx.out]
    have hu : Upd [p] w (w.setCell ⟨p, 4, none⟩ (.int .i64 (s.plan - 1))) := (Upd.refl _ w).set (.inl (by simp)) _
    exact ⟨rfl, HH.out.head hok rfl rfl hu (fun x y hb => hb.set 4 _), hu⟩
theorem RStep_calls (h : RDk w p s S) (hoff : s.off = false) : Calls Try.prog 54 #[.pointer (some ⟨p, 0, none⟩)] w fun e w' => e = .returned (.bool (stepS s).1) ∧ RDk w' p (stepS s).2 S ∧ Upd [p] w w' := by
  obtain ⟨x, y, h1⟩ := h.cells
  have c4 := h1.cell (i := 4) rfl
  have HH := Lib.hid h
  by_cases hn : s.plan < 0
  · have HR := Lib.hid (show stepS s = (false, s) by unfold stepS; rw [if_pos hn])
    clear h
    go_enter Try.func54, Try.ntmps54
    go_wp2_with fail
    go_ret
    rw [HR.out]
    exact ⟨rfl, HH.out, Upd.refl _ _⟩
  · have hq : 0 ≤ s.plan := by omega
    have HF := Lib.hid (RFails_calls h hoff hq)
    clear h
    go_enter Try.func54, Try.ntmps54
    go_wp2_with (go_at_call 60; refine HF.out.mono ?_; rintro e w1 ⟨rfl, h6, u6⟩)
    go_ret
    exact ⟨rfl, h6, u6⟩
theorem RArm_calls (h : RDk w p s S) {n : Int} (hn : IsI64 n) : Calls Try.prog 45 #[.pointer (some ⟨p, 0, none⟩), .int .i64 n] w fun e w' => e = .returned (.tuple #[]) ∧ RDk w' p (armS s n) S ∧ Upd [p] w w' := by
  have hok := armS_ok h.ok hn
  obtain ⟨x, y, h1⟩ := h.cells
  have c3 := h1.cell (i := 3) rfl
  have c4 := h1.cell (i := 4) rfl
  have f4 := h1.free 4
  have HH := Lib.hid h
  clear h
  cases ho : s.off with
  | true =>
    have HR := Lib.hid (show armS s n = s by unfold armS; rw [if_pos ho])
    rw [ho] at c3
    go_enter Try.func45, Try.ntmps45
    go_wp2_with fail
    go_end0
    rw [HR.out]
    exact ⟨rfl, HH.out, Upd.refl _ _⟩
  | false =>
    have HR := Lib.hid (show armS s n = { s with plan := max n (-1) } by unfold armS; rw [if_neg (by rw [ho]; simp)])
    rw [HR.out] at hok
    rw [ho] at c3
    have HO := Lib.hid ho
    clear ho
    by_cases hm : n < -1
    · have hu : Upd [p] w (w.setCell ⟨p, 4, none⟩ (.int .i64 (-1))) := (Upd.refl _ w).set (.inl (by simp)) _
      have HM := Lib.hid (show max n (-1) = -1 by omega)
      go_enter Try.func45, Try.ntmps45
      go_wp2_with fail
      go_end0
      rw [HR.out]
      rw [HM.out] at hok ⊢
      exact ⟨rfl, HH.out.head hok rfl rfl hu (fun x y hb => hb.set 4 _), hu⟩
    · have hu : Upd [p] w (w.setCell ⟨p, 4, none⟩ (.int .i64 n)) := (Upd.refl _ w).set (.inl (by simp)) _
      have HM := Lib.hid (show max n (-1) = n by omega)
      go_enter Try.func45, Try.ntmps45
      go_wp2_with fail
      go_end0
      rw [HR.out]
      rw [HM.out] at hok ⊢
      exact ⟨rfl, HH.out.head hok rfl rfl hu (fun x y hb => hb.set 4 _), hu⟩
end
end Disk
end Go.Proofs.Ytnljjkmmnkldcaa
