/- Rot twice; a disk, its model and the model's twin. Conditions: none. -/
import Derived.Test.YtnljjkmmnkldcaaDiskOpE
import Derived.Test.YtnljjkmmnkldcaaDiskY
set_option linter.unusedVariables false
set_option linter.unusedSimpArgs false
set_option linter.unusedSectionVars false
open Go.RowKit
namespace Go.Proofs.Ytnljjkmmnkldcaa
open L
namespace Disk
open Wire R01
theorem flipL_twice {l : List Int} (h : ∀ x ∈ l, 0 ≤ x ∧ x ≤ 255) (k : Nat) : flipL (flipL l k) k = l := by
  apply List.ext_getElem?
  intro j
  unfold flipL
  rw [List.getElem?_modify, List.getElem?_modify]
  cases hj : l[j]? with
  | none => simp
  | some y =>
    by_cases e : k / 8 = j
    · simp only [e, if_true, Option.map_eq_map, Option.map_some]
      rw [(flipB_u8 (h y (List.mem_of_getElem? hj)) k).2.2]
    · simp [e]
theorem rot_twice {s : DS} (h : s.Ok) (f z : Int) : (rotS (rotS s f z).2 f z).1 = (rotS s f z).1 ∧ (rotS (rotS s f z).2 f z).2 = s := by
  by_cases hb : isF f = false ∨ z < 0 ∨ 8 * ((s.B f.toNat).length : Int) ≤ z
  · have hr : rotS s f z = (1, s) := by unfold rotS; rw [if_pos hb]
    rw [hr]; simp only; rw [hr]; exact ⟨rfl, rfl⟩
  · have hr : rotS s f z = (0, { s with B := setB s.B f.toNat (flipL (s.B f.toNat) z.toNat) }) := by unfold rotS; rw [if_neg hb]
    have hl : setB s.B f.toNat (flipL (s.B f.toNat) z.toNat) f.toNat = flipL (s.B f.toNat) z.toNat := by simp [setB]
    rw [hr]
    simp only
    have hr2 : rotS ({ s with B := setB s.B f.toNat (flipL (s.B f.toNat) z.toNat) } : DS) f z = (0, { s with B := setB (setB s.B f.toNat (flipL (s.B f.toNat) z.toNat)) f.toNat (flipL (setB s.B f.toNat (flipL (s.B f.toNat) z.toNat) f.toNat) z.toNat) }) := by
      unfold rotS
      rw [if_neg]
      simp only
      rw [hl, flipL_length]
      exact hb
    rw [hr2]
    refine ⟨rfl, ?_⟩
    simp only
    rw [hl, flipL_twice (h.u8 _)]
    have : setB (setB s.B f.toNat (flipL (s.B f.toNat) z.toNat)) f.toNat (s.B f.toNat) = s.B := by
      funext j
      unfold setB
      split
      · rename_i e; rw [e]
      · rfl
    rw [this]
/-- A part of a list of which one bit was turned, at its own place. -/
theorem flipL_part {l : List Int} {k m : Nat} (hk : k < 8 * l.length) : ((flipL l k).take m).drop (k / 8) = flipL ((l.take m).drop (k / 8)) (k % 8) := by
  apply List.ext_getElem?
  intro j
  unfold flipL
  rw [List.getElem?_drop, List.getElem?_take, List.getElem?_modify, List.getElem?_modify, List.getElem?_drop, List.getElem?_take]
  have h8 : k % 8 / 8 = 0 := by omega
  have h88 : ∀ y, flipB y k = flipB y (k % 8) := fun y => by unfold flipB; rw [Nat.mod_mod]
  rw [h8]
  by_cases hm : k / 8 + j < m
  · rw [if_pos hm, if_pos hm]
    by_cases e : 0 = j
    · subst e
      simp [h88]
    · have e2 : ¬ (k / 8 = k / 8 + j) := by omega
      have e3 : ¬ j = 0 := fun h => e h.symm
      simp [e, e2, e3]
  · rw [if_neg hm, if_neg hm]; simp
/-- A disk, its model, the model's twin, and a block of numbers apart from them. -/
structure Tw (w0 : World) (p q t g : Nat) (c : List Value) (s sq st : DS) (w : World) : Prop where
  ex : ∃ S T U, Dk w p s S ∧ RDk w q sq T ∧ RDk w t st U ∧ Apart S T ∧ Apart S U ∧ Apart T U ∧ (∀ k ∈ S, w0.heap.size ≤ k) ∧ (∀ k ∈ T, w0.heap.size ≤ k) ∧ (∀ k ∈ U, w0.heap.size ≤ k) ∧ g ∉ S ∧ g ∉ T ∧ g ∉ U
  b : Blk w g c 3
  u : Upd [] w0 w
/-- A disk and its model, and a block of numbers apart from them. -/
structure PairB (w0 : World) (p q g : Nat) (c : List Value) (s : DS) (w : World) : Prop where
  ex : ∃ S T, Dk w p s S ∧ RDk w q s T ∧ Apart S T ∧ (∀ k ∈ S, w0.heap.size ≤ k) ∧ (∀ k ∈ T, w0.heap.size ≤ k) ∧ g ∉ S ∧ g ∉ T
  b : Blk w g c 3
  u : Upd [] w0 w
section
variable {w w' w0 : World} {p q t g : Nat} {c : List Value} {s sq st : DS}
theorem Tw.quiet (h : Tw w0 p q t g c s sq st w) (hu : Upd [] w w') : Tw w0 p q t g c s sq st w' := by
  obtain ⟨S, T, U, h1, h2, h3, h4⟩ := h.ex
  exact ⟨⟨S, T, U, h1.quiet hu, h2.quiet hu, h3.quiet hu, h4⟩, h.b.upd hu (by simp), h.u.step hu⟩
theorem Tw.rotP (h : Tw w0 p q t g c s sq st w) {f z : Int} (hf : IsI64 f) (hz : IsI64 z) :
    Calls Try.prog 34 #[.pointer (some ⟨p, 0, none⟩), .int .i64 f, .int .i64 z] w fun e w' => e = .returned (.int .i64 (rotS s f z).1) ∧ Tw w0 p q t g c (rotS s f z).2 sq st w' := by
  obtain ⟨S, T, U, h1, h2, h3, a1, a2, a3, b1, b2, b3, g1, g2, g3⟩ := h.ex
  refine (Rot_calls h1 hf hz).mono ?_
  rintro e w' ⟨rfl, d1, d2⟩
  exact ⟨rfl, ⟨⟨S, T, U, d1, h2.upd d2 a1, h3.upd d2 a2, a1, a2, a3, b1, b2, b3, g1, g2, g3⟩, h.b.upd d2 g1, h.u.fresh d2 (fun k hk => .inr (b1 k hk))⟩⟩
theorem Tw.rotT (h : Tw w0 p q t g c s sq st w) {f z : Int} (hf : IsI64 f) (hz : IsI64 z) :
    Calls Try.prog 35 #[.pointer (some ⟨t, 0, none⟩), .int .i64 f, .int .i64 z] w fun e w' => e = .returned (.int .i64 (rotS st f z).1) ∧ Tw w0 p q t g c s sq (rotS st f z).2 w' := by
  obtain ⟨S, T, U, h1, h2, h3, a1, a2, a3, b1, b2, b3, g1, g2, g3⟩ := h.ex
  refine (RRot_calls h3 hf hz).mono ?_
  rintro e w' ⟨rfl, U', d1, d2, d3⟩
  have hz0 := h.u.size
  have hgl := h.b.lt
  exact ⟨rfl, ⟨⟨S, T, U', h1.upd d2 a2.symm, h2.upd d2 a3.symm, d1, a1, (a2.symm.next d3 h1.lt).symm, (a3.symm.next d3 h2.lt).symm, b1, b2, fun k hk => (d3 k hk).elim (b3 k) (fun h => Nat.le_trans hz0 h), g1, g2, fun hm => (d3 g hm).elim g3 (fun h => by omega)⟩, h.b.upd d2 g3, h.u.fresh d2 (fun k hk => .inr (b3 k hk))⟩⟩
theorem Tw.pairB (h : Tw w0 p q t g c s s st w) : PairB w0 p q g c s w := by
  obtain ⟨S, T, U, h1, h2, h3, a1, a2, a3, b1, b2, b3, g1, g2, g3⟩ := h.ex
  exact ⟨⟨S, T, h1, h2, a1, b1, b2, g1, g2⟩, h.b, h.u⟩
theorem PairB.pair (h : PairB w0 p q g c s w) : Pair w0 p q s w := by
  obtain ⟨S, T, h1, h2, a1, b1, b2, g1, g2⟩ := h.ex
  exact ⟨⟨S, T, h1, h2, a1, ⟨h.u, b1⟩, ⟨h.u, b2⟩⟩⟩
theorem Tw.pairT (h : Tw w0 p q t g c s sq s w) : Pair w0 p t s w := by
  obtain ⟨S, T, U, h1, h2, h3, a1, a2, a3, b1, b2, b3, _⟩ := h.ex
  exact ⟨⟨S, U, h1, h3, a2, ⟨h.u, b1⟩, ⟨h.u, b3⟩⟩⟩
theorem PairB.rcopy (h : PairB w0 p q g c s w) : Calls Try.prog 33 #[.pointer (some ⟨q, 0, none⟩)] w fun e w' => ∃ t, e = .returned (.pointer (some ⟨t, 0, none⟩)) ∧ Tw w0 p q t g c s s s w' := by
  obtain ⟨S, T, h1, h2, h3, h4, h5, g1, g2⟩ := h.ex
  refine (RCopy_calls h2).mono ?_
  rintro e w' ⟨t, U, rfl, hd, hu, hn⟩
  have hgl := h.b.lt
  exact ⟨t, rfl, ⟨⟨S, T, U, h1.quiet hu, h2.quiet hu, hd, h3, (Apart.new hn h1.lt).symm, (Apart.new hn h2.lt).symm, h4, h5, fun k hk => Nat.le_trans h.u.size (hn k hk), g1, g2, fun hm => by have := hn g hm; omega⟩, h.b.upd hu (by simp), h.u.step hu⟩⟩
theorem Pair.block (h : Pair w0 p q s w) (hu : Upd [] w w') (hb : Blk w' g c 3) (hg : w.heap.size ≤ g) : PairB w0 p q g c s w' := by
  obtain ⟨S, T, h1, h2, h3, h4, h5⟩ := h.ex
  exact ⟨⟨S, T, h1.quiet hu, h2.quiet hu, h3, h4.new, h5.new, fun hm => by have := h1.lt g hm; omega, fun hm => by have := h2.lt g hm; omega⟩, hb, h4.u.step hu⟩
theorem Pair.quiet (h : Pair w0 p q s w) (hu : Upd [] w w') : Pair w0 p q s w' := by
  obtain ⟨S, T, h1, h2, h3, h4, h5⟩ := h.ex
  exact ⟨⟨S, T, h1.quiet hu, h2.quiet hu, h3, h4.quiet hu, h5.quiet hu⟩⟩
end
end Disk
end Go.Proofs.Ytnljjkmmnkldcaa
