/- Walks through package disk: a disk in memory, its small functions. Conditions: none. -/
import Derived.Test.YtfkgpecglcjpkaaGreatDiskP
import Derived.Test.YtfkgpecglcjpkaaGreatMapF
import Derived.Test.YtfkgpecglcjpkaaGreatOwnB
set_option linter.unusedVariables false
set_option linter.unusedSimpArgs false
set_option linter.unusedSectionVars false
open Go.RowKit
namespace Go.Proofs.YtfkgpecglcjpkaaGreat
open L
namespace Disk
open Wire
/-- A file as a value. -/
def fileV (g cap : Nat) (b : List Int) (n : Nat) : Value := .agg #[.slice (some ⟨g, 0, none⟩) b.length cap, .int .i64 (n : Int)]
/-- The files of a disk as a function. -/
def fileF (s : DS) (G C : Nat → Nat) (x : Int) : Option Value :=
  if 0 ≤ x ∧ x < 64 ∧ s.B x.toNat ≠ [] then some (fileV (G x.toNat) (C x.toNat) (s.B x.toNat) (s.F x.toNat)) else none
/-- The disk at p in memory; S: all its blocks. -/
structure Dk (w : World) (p : Nat) (s : DS) (S : List Nat) : Prop where
  ex : ∃ m G C, Blk w p [.int .i64 (s.room : Int), .map (some m), .bool s.off, .int .i64 s.plan] 62 ∧ MF Tryz.prog 3 w m 64 (fileF s G C) ∧ p ≠ m ∧ p ∈ S ∧ m ∈ S ∧
    (∀ i, i < 64 → s.B i ≠ [] → w.ownsRow 0 5 1 (.slice (some ⟨G i, 0, none⟩) (s.B i).length (C i)) (s.B i).length (byts (s.B i)) ∧ G i ∈ S ∧ G i ≠ p ∧ G i ≠ m) ∧
    (∀ i j, i < 64 → j < 64 → s.B i ≠ [] → s.B j ≠ [] → G i = G j → i = j)
  ok : s.Ok
  lt : ∀ k ∈ S, k < w.heap.size
section
variable {w w' : World} {p : Nat} {s : DS} {S : List Nat}
theorem Dk.upd {T : List Nat} (h : Dk w p s S) (hu : Upd T w w') (hT : ∀ k ∈ T, k ∉ S) : Dk w' p s S := by
  obtain ⟨⟨m, G, C, h1, h2, h3, h4, h5, h6, h7⟩, hok, hlt⟩ := h
  refine ⟨⟨m, G, C, h1.upd hu (fun hp => hT p hp h4), h2.upd hu (fun hm => hT m hm h5), h3, h4, h5, fun i hi hn => ?_, h7⟩, hok, fun k hk => Nat.lt_of_lt_of_le (hlt k hk) hu.size⟩
  obtain ⟨a1, a2, a3⟩ := h6 i hi hn
  exact ⟨ownsRow_updL a1 hu (fun b hb e => by simp [Value.ownBlock] at e; subst e; exact hT _ hb a2), a2, a3⟩
theorem Dk.p_mem (h : Dk w p s S) : p ∈ S := by obtain ⟨m, G, C, h1, h2, h3, h4, _⟩ := h.ex; exact h4
theorem Dk.quiet (h : Dk w p s S) (hu : Upd [] w w') : Dk w' p s S := h.upd hu (by simp)
theorem Dk.wide {T : List Nat} (h : Dk w p s S) (hT : ∀ k ∈ S, k ∈ T) (hl : ∀ k ∈ T, k < w.heap.size) : Dk w p s T := by
  obtain ⟨⟨m, G, C, h1, h2, h3, h4, h5, h6, h7⟩, hok, hlt⟩ := h
  exact ⟨⟨m, G, C, h1, h2, h3, hT _ h4, hT _ h5, fun i hi hn => ⟨(h6 i hi hn).1, hT _ (h6 i hi hn).2.1, (h6 i hi hn).2.2⟩, h7⟩, hok, hl⟩
/-- The room, the switch and the plan may change. -/
theorem Dk.head {s' : DS} (h : Dk w p s S) (hok : s'.Ok) (hB : s'.B = s.B) (hF : s'.F = s.F) (hu : Upd [p] w w')
    (hb : ∀ m, Blk w p [.int .i64 (s.room : Int), .map (some m), .bool s.off, .int .i64 s.plan] 62 → Blk w' p [.int .i64 (s'.room : Int), .map (some m), .bool s'.off, .int .i64 s'.plan] 62) : Dk w' p s' S := by
  obtain ⟨⟨m, G, C, h1, h2, h3, h4, h5, h6, h7⟩, _, hlt⟩ := h
  have hff : fileF s' G C = fileF s G C := by unfold fileF; rw [hB, hF]
  refine ⟨⟨m, G, C, hb m h1, by rw [hff]; exact h2.upd hu (by simp; exact fun e => h3 e.symm), h3, h4, h5, fun i hi hn => ?_, ?_⟩, hok, fun k hk => Nat.lt_of_lt_of_le (hlt k hk) hu.size⟩
  · rw [hB] at hn ⊢
    obtain ⟨a1, a2, a3, a4⟩ := h6 i hi hn
    exact ⟨ownsRow_updL a1 hu (fun b hb e => by simp [Value.ownBlock] at e hb; exact a3 (by omega)), a2, a3, a4⟩
  · rw [hB]; exact h7
theorem isFile_calls (x : Int) : Calls Tryz.prog 38 #[.int .i64 x] w fun e w' => e = .returned (.bool (isF x)) ∧ w = w' := by
  by_cases h1 : 0 ≤ x
  · by_cases h2 : x < 64
    · go_enter Tryz.func38, Tryz.ntmps38
      go_wp2_with fail
      go_ret
      exact ⟨by simp [isF, h1, h2], rfl⟩
    · go_enter Tryz.func38, Tryz.ntmps38
      go_wp2_with fail
      go_ret
      exact ⟨by simp [isF, h1, h2], rfl⟩
  · go_enter Tryz.func38, Tryz.ntmps38
    go_wp2_with fail
    go_ret
    exact ⟨by rw [show isF x = false from decide_eq_false (by omega)]; rfl, rfl⟩
theorem fails_calls (h : Dk w p s S) : Calls Tryz.prog 45 #[.pointer (some ⟨p, 0, none⟩)] w fun e w' => e = .returned (.bool (stepS s).1) ∧ Dk w' p (stepS s).2 S ∧ Upd [p] w w' := by
  have hok := stepS_ok h.ok
  have hB := stepS_B s
  obtain ⟨m, G, C, h1, _⟩ := h.ex
  have c2 := h1.cell (i := 2) rfl
  have c3 := h1.cell (i := 3) rfl
  have f3 := h1.free 3
  have f2 := h1.free 2
  have hp := h.ok.plan
  have HH := Lib.hid h
  clear h
  by_cases hn : s.plan < 0
  · have hr : stepS s = (false, s) := by unfold stepS; rw [if_pos hn]
    have HR := Lib.hid hr
    rw [hr] at hok hB
    clear hr
    go_enter Tryz.func45, Tryz.ntmps45
    go_wp2_with fail
    go_ret
    rw [HR.out]
    exact ⟨rfl, HH.out, Upd.refl _ _⟩
  · by_cases h0 : s.plan = 0
    · have hr : stepS s = (true, { s with plan := -1, off := true }) := by unfold stepS; rw [if_neg hn, if_pos h0]
      have HR := Lib.hid hr
      rw [hr] at hok hB
      rw [h0] at c3
      have H0 := Lib.hid h0
      clear hr hn hp h0
      go_enter Tryz.func45, Tryz.ntmps45
      go_wp2_with fail
      go_ret
      rw [HR.out]
      have hu : Upd [p] w ((w.setCell ⟨p, 3, none⟩ (.int .i64 (-1))).setCell ⟨p, 2, none⟩ (.bool true)) := ((Upd.refl _ w).set (.inl (by simp)) _).set (.inl (by simp)) _
      exact ⟨rfl, HH.out.head hok rfl rfl hu (fun m' hb => (hb.set 3 _).set 2 _), hu⟩
    · have hr : stepS s = (false, { s with plan := s.plan - 1 }) := by unfold stepS; rw [if_neg hn, if_neg h0]
      have HR := Lib.hid hr
      rw [hr] at hok hB
      have hq : 0 ≤ s.plan - 1 := by omega
      clear hr h0
      go_enter Tryz.func45, Tryz.ntmps45
      go_wp2_with fail
      go_ret
      rw [HR.out]
      have hu : Upd [p] w (w.setCell ⟨p, 3, none⟩ (.int .i64 (s.plan - 1))) := (Upd.refl _ w).set (.inl (by simp)) _
      exact ⟨rfl, HH.out.head hok rfl rfl hu (fun m' hb => hb.set 3 _), hu⟩
theorem Arm_calls (h : Dk w p s S) {n : Int} (hn : IsI64 n) : Calls Tryz.prog 9 #[.pointer (some ⟨p, 0, none⟩), .int .i64 n] w fun e w' => e = .returned (.tuple #[]) ∧ Dk w' p (armS s n) S ∧ Upd [p] w w' := by
  have hok := armS_ok h.ok hn
  obtain ⟨m, G, C, h1, _⟩ := h.ex
  have c2 := h1.cell (i := 2) rfl
  have f3 := h1.free 3
  have c3 := h1.cell (i := 3) rfl
  have HH := Lib.hid h
  clear h
  cases ho : s.off with
  | true =>
    have HR := Lib.hid (show armS s n = s by unfold armS; rw [if_pos ho])
    rw [ho] at c2
    go_enter Tryz.func9, Tryz.ntmps9
    go_wp2_with fail
    go_end0
    rw [HR.out]
    exact ⟨rfl, HH.out, Upd.refl _ _⟩
  | false =>
    have HR := Lib.hid (show armS s n = { s with plan := max n (-1) } by unfold armS; rw [if_neg (by rw [ho]; simp)])
    rw [HR.out] at hok
    rw [ho] at c2
    have HO := Lib.hid ho
    clear ho
    by_cases hm : n < -1
    · have hu : Upd [p] w (w.setCell ⟨p, 3, none⟩ (.int .i64 (-1))) := (Upd.refl _ w).set (.inl (by simp)) _
      have HM := Lib.hid (show max n (-1) = -1 by omega)
      go_enter Tryz.func9, Tryz.ntmps9
      go_wp2_with fail
      go_end0
      rw [HR.out]
      rw [HM.out] at hok ⊢
      exact ⟨rfl, HH.out.head hok rfl rfl hu (fun m' hb => hb.set 3 _), hu⟩
    · have hu : Upd [p] w (w.setCell ⟨p, 3, none⟩ (.int .i64 n)) := (Upd.refl _ w).set (.inl (by simp)) _
      have HM := Lib.hid (show max n (-1) = n by omega)
      go_enter Tryz.func9, Tryz.ntmps9
      go_wp2_with fail
      go_end0
      rw [HR.out]
      rw [HM.out] at hok ⊢
      exact ⟨rfl, HH.out.head hok rfl rfl hu (fun m' hb => hb.set 3 _), hu⟩
end
end Disk
end Go.Proofs.YtfkgpecglcjpkaaGreat
