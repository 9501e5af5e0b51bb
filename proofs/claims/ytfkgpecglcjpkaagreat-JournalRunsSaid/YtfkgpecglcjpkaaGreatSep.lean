/- Several owned things in one world, each apart from the others: no program is named. Conditions: none. -/
import Derived.Test.YtfkgpecglcjpkaaGreatLib
set_option linter.unusedVariables false
set_option linter.unusedSimpArgs false
set_option linter.unusedSectionVars false
open Go.RowKit
namespace Go.Proofs.YtfkgpecglcjpkaaGreat
namespace L
/-- A thing in memory with the blocks it owns. -/
structure Pr where
  P : World → List Nat → Prop
  upd : ∀ {w w' : World} {S T : List Nat}, P w S → Upd T w w' → (∀ k ∈ T, k ∉ S) → P w' S
  lt : ∀ {w : World} {S : List Nat}, P w S → ∀ k ∈ S, k < w.heap.size
def Apt (S T : List Nat) : Prop := ∀ k ∈ S, k ∉ T
theorem Apt.symm {S T : List Nat} (h : Apt S T) : Apt T S := fun k hk hm => h k hm hk
/-- Things apart, all new since w0. -/
structure Sep (w0 : World) (ps : List Pr) (w : World) : Prop where
  ex : ∃ l : List (Pr × List Nat), l.map Prod.fst = ps ∧ l.Pairwise (fun x y => Apt x.2 y.2) ∧ ∀ x ∈ l, x.1.P w x.2 ∧ ∀ k ∈ x.2, w0.heap.size ≤ k
  u : Upd [] w0 w
section
variable {w0 w w' : World} {p q p' : Pr} {ps : List Pr}
theorem Sep.nil (h : Upd [] w0 w) : Sep w0 [] w := ⟨⟨[], rfl, .nil, by simp⟩, h⟩
theorem Sep.quiet (h : Sep w0 ps w) (hu : Upd [] w w') : Sep w0 ps w' := by
  obtain ⟨l, h1, h2, h3⟩ := h.ex
  exact ⟨⟨l, h1, h2, fun x hx => ⟨x.1.upd (h3 x hx).1 hu (by simp), (h3 x hx).2⟩⟩, h.u.step hu⟩
/-- The thing number n ahead of the others. -/
theorem Sep.pull (n : Nat) (h : Sep w0 ps w) (hn : ps[n]? = some p) : Sep w0 (p :: ps.eraseIdx n) w := by
  obtain ⟨l, h1, h2, h3⟩ := h.ex
  subst h1
  rw [List.getElem?_map] at hn
  obtain ⟨x, hx, rfl⟩ := Option.map_eq_some_iff.1 hn
  obtain ⟨hlt, hxe⟩ := List.getElem?_eq_some_iff.1 hx
  refine ⟨⟨x :: l.eraseIdx n, ?_, ?_, ?_⟩, h.u⟩
  · rw [List.map_cons]
    congr 1
    rw [List.eraseIdx_eq_take_drop_succ, List.eraseIdx_eq_take_drop_succ, List.map_append, List.map_take, List.map_drop]
  · have hp : l.Perm (x :: l.eraseIdx n) := by
      rw [List.eraseIdx_eq_take_drop_succ]
      have e : l = l.take n ++ x :: l.drop (n + 1) := by rw [← hxe, List.getElem_cons_drop, List.take_append_drop]
      exact (List.Perm.of_eq e).trans List.perm_middle
    exact (hp.pairwise_iff (fun h => Apt.symm h)).1 h2
  · intro y hy
    rcases List.mem_cons.1 hy with rfl | hy
    · exact h3 y (List.mem_of_getElem? hx)
    · exact h3 y (List.mem_of_mem_eraseIdx hy)
theorem Sep.drop (h : Sep w0 (p :: ps) w) : Sep w0 ps w := by
  obtain ⟨l, h1, h2, h3⟩ := h.ex
  obtain ⟨x, m, rfl, _, h5⟩ := List.map_eq_cons_iff.1 h1
  exact ⟨⟨m, h5, (List.pairwise_cons.1 h2).2, fun y hy => h3 y (List.mem_cons_of_mem _ hy)⟩, h.u⟩
theorem Sep.head (h : Sep w0 (p :: ps) w) : ∃ S, p.P w S ∧ ∀ k ∈ S, w0.heap.size ≤ k := by
  obtain ⟨l, h1, h2, h3⟩ := h.ex
  obtain ⟨x, m, rfl, rfl, h5⟩ := List.map_eq_cons_iff.1 h1
  exact ⟨x.2, h3 x (List.mem_cons_self ..)⟩
/-- The first two. -/
theorem Sep.two (h : Sep w0 (p :: q :: ps) w) : ∃ S T, p.P w S ∧ q.P w T ∧ Apt S T ∧ (∀ k ∈ S, w0.heap.size ≤ k) ∧ ∀ k ∈ T, w0.heap.size ≤ k := by
  obtain ⟨l, h1, h2, h3⟩ := h.ex
  obtain ⟨x, m, rfl, rfl, h5⟩ := List.map_eq_cons_iff.1 h1
  obtain ⟨y, n, rfl, rfl, h6⟩ := List.map_eq_cons_iff.1 h5
  exact ⟨x.2, y.2, (h3 x (by simp)).1, (h3 y (by simp)).1, (List.pairwise_cons.1 h2).1 y (by simp), (h3 x (by simp)).2, (h3 y (by simp)).2⟩
/-- The first thing becomes another one: what it may write are its own blocks, what it may own besides is new. -/
theorem Sep.next {S S' : List Nat} (h : Sep w0 (p :: ps) w) (hp : ∀ S, p.P w S → (∀ k ∈ S, w0.heap.size ≤ k) → ∃ S', p'.P w' S' ∧ Upd S w w' ∧ ∀ k ∈ S', k ∈ S ∨ w.heap.size ≤ k) : Sep w0 (p' :: ps) w' := by
  obtain ⟨l, h1, h2, h3⟩ := h.ex
  obtain ⟨x, m, rfl, rfl, h5⟩ := List.map_eq_cons_iff.1 h1
  obtain ⟨hx, hm⟩ := List.pairwise_cons.1 h2
  have hx0 := h3 x (List.mem_cons_self ..)
  obtain ⟨S', a1, a2, a3⟩ := hp x.2 hx0.1 hx0.2
  refine ⟨⟨(p', S') :: m, by rw [List.map_cons, h5], List.pairwise_cons.2 ⟨fun y hy k hk hk2 => ?_, hm⟩, fun y hy => ?_⟩, h.u.fresh a2 (fun k hk => .inr (hx0.2 k hk))⟩
  · rcases a3 k hk with h6 | h6
    · exact hx y hy k h6 hk2
    · have := y.1.lt (h3 y (List.mem_cons_of_mem _ hy)).1 k hk2
      omega
  · rcases List.mem_cons.1 hy with rfl | hy
    · exact ⟨a1, fun k hk => (a3 k hk).elim (hx0.2 k) (fun h6 => Nat.le_trans h.u.size h6)⟩
    · obtain ⟨b1, b2⟩ := h3 y (List.mem_cons_of_mem _ hy)
      exact ⟨y.1.upd b1 a2 (hx y hy), b2⟩
/-- A new thing. -/
theorem Sep.new {S : List Nat} (h : Sep w0 ps w) (hu : Upd [] w w') (hp : p.P w' S) (hS : ∀ k ∈ S, w.heap.size ≤ k) : Sep w0 (p :: ps) w' := by
  obtain ⟨l, h1, h2, h3⟩ := (h.quiet hu).ex
  obtain ⟨l', h1', _, h3'⟩ := h.ex
  obtain ⟨m, h4, h5, h6⟩ := h.ex
  refine ⟨⟨(p, S) :: m, by rw [List.map_cons, h4], List.pairwise_cons.2 ⟨fun y hy k hk hk2 => ?_, h5⟩, fun y hy => ?_⟩, h.u.step hu⟩
  · have := y.1.lt (h6 y hy).1 k hk2
    have := hS k hk
    omega
  · rcases List.mem_cons.1 hy with rfl | hy
    · exact ⟨hp, fun k hk => Nat.le_trans h.u.size (hS k hk)⟩
    · exact ⟨y.1.upd (h6 y hy).1 hu (by simp), (h6 y hy).2⟩
theorem Sep.base {w1 : World} (h : Sep w1 ps w) (hu : Upd [] w0 w1) : Sep w0 ps w := by
  obtain ⟨l, h1, h2, h3⟩ := h.ex
  exact ⟨⟨l, h1, h2, fun x hx => ⟨(h3 x hx).1, fun k hk => Nat.le_trans hu.size ((h3 x hx).2 k hk)⟩⟩, hu.step h.u⟩
/-- A call that works on the first thing. -/
theorem Sep.call {P : Program} {f : FuncId} {args : Array Value} {Q : Ending → World → Prop} (h : Sep w0 (p :: ps) w)
    (hc : ∀ S, p.P w S → Calls P f args w fun e w' => Q e w' ∧ ∃ S', p'.P w' S' ∧ Upd S w w' ∧ ∀ k ∈ S', k ∈ S ∨ w.heap.size ≤ k) :
    Calls P f args w fun e w' => Q e w' ∧ Sep w0 (p' :: ps) w' := by
  obtain ⟨l, h1, h2, h3⟩ := h.ex
  obtain ⟨x, m, rfl, rfl, h5⟩ := List.map_eq_cons_iff.1 h1
  obtain ⟨hx, hm⟩ := List.pairwise_cons.1 h2
  have hx0 := h3 x (List.mem_cons_self ..)
  refine (hc x.2 hx0.1).mono ?_
  rintro e w' ⟨hQ, S', a1, a2, a3⟩
  refine ⟨hQ, ⟨(p', S') :: m, by rw [List.map_cons, h5], List.pairwise_cons.2 ⟨fun y hy k hk hk2 => ?_, hm⟩, fun y hy => ?_⟩, h.u.fresh a2 (fun k hk => .inr (hx0.2 k hk))⟩
  · rcases a3 k hk with h6 | h6
    · exact hx y hy k h6 hk2
    · have := y.1.lt (h3 y (List.mem_cons_of_mem _ hy)).1 k hk2
      omega
  · rcases List.mem_cons.1 hy with rfl | hy
    · exact ⟨a1, fun k hk => (a3 k hk).elim (hx0.2 k) (fun h6 => Nat.le_trans h.u.size h6)⟩
    · obtain ⟨b1, b2⟩ := h3 y (List.mem_cons_of_mem _ hy)
      exact ⟨y.1.upd b1 a2 (hx y hy), b2⟩
/-- A call that works on the first thing and reads the second. -/
theorem Sep.call2 {P : Program} {f : FuncId} {args : Array Value} {Q : Ending → World → Prop} (h : Sep w0 (p :: q :: ps) w)
    (hc : ∀ S T, p.P w S → q.P w T → Apt S T → Calls P f args w fun e w' => Q e w' ∧ ∃ S', p'.P w' S' ∧ Upd S w w' ∧ ∀ k ∈ S', k ∈ S ∨ w.heap.size ≤ k) :
    Calls P f args w fun e w' => Q e w' ∧ Sep w0 (p' :: q :: ps) w' := by
  obtain ⟨l, h1, h2, h3⟩ := h.ex
  obtain ⟨x, m, rfl, rfl, h5⟩ := List.map_eq_cons_iff.1 h1
  obtain ⟨y, n, rfl, rfl, h6⟩ := List.map_eq_cons_iff.1 h5
  obtain ⟨hx, hm⟩ := List.pairwise_cons.1 h2
  have hx0 := h3 x (List.mem_cons_self ..)
  refine (hc x.2 y.2 hx0.1 (h3 y (by simp)).1 (hx y (by simp))).mono ?_
  rintro e w' ⟨hQ, S', a1, a2, a3⟩
  refine ⟨hQ, ⟨(p', S') :: y :: n, by rw [List.map_cons, h5], List.pairwise_cons.2 ⟨fun z hz k hk hk2 => ?_, hm⟩, fun z hz => ?_⟩, h.u.fresh a2 (fun k hk => .inr (hx0.2 k hk))⟩
  · rcases a3 k hk with h6 | h6
    · exact hx z hz k h6 hk2
    · have := z.1.lt (h3 z (List.mem_cons_of_mem _ hz)).1 k hk2
      omega
  · rcases List.mem_cons.1 hz with rfl | hz
    · exact ⟨a1, fun k hk => (a3 k hk).elim (hx0.2 k) (fun h6 => Nat.le_trans h.u.size h6)⟩
    · obtain ⟨b1, b2⟩ := h3 z (List.mem_cons_of_mem _ hz)
      exact ⟨z.1.upd b1 a2 (hx z hz), b2⟩
/-- A call that leaves all things and makes a new one. -/
theorem Sep.make {P : Program} {f : FuncId} {args : Array Value} {α : Type} {p' : α → Pr} {Q : α → Ending → World → Prop} (h : Sep w0 ps w)
    (hc : Calls P f args w fun e w' => ∃ a, Q a e w' ∧ ∃ S', (p' a).P w' S' ∧ Upd [] w w' ∧ ∀ k ∈ S', w.heap.size ≤ k) :
    Calls P f args w fun e w' => ∃ a, Q a e w' ∧ Sep w0 (p' a :: ps) w' :=
  hc.mono fun _ _ ⟨a, h1, _, h2, h3, h4⟩ => ⟨a, h1, h.new h3 h2 h4⟩
/-- A slice with the block it lies in. -/
def PSL (k : Nat) (v : Value) (n : Nat) (cs : List Value) : Pr where
  P w S := SL w k v n cs ∧ (∀ g, v.ownBlock = some g → g ∈ S) ∧ ∀ g ∈ S, g < w.heap.size
  upd h hu hT := ⟨h.1.upd hu (fun b hb e => hT b hb (h.2.1 b e)), h.2.1, fun g hg => Nat.lt_of_lt_of_le (h.2.2 g hg) hu.size⟩
  lt h := h.2.2
/-- A block. -/
def PBlk (g : Nat) (c : List Value) (e : TypeId) : Pr where
  P w S := Blk w g c e ∧ S = [g]
  upd h hu hT := ⟨h.1.upd hu (fun hm => hT g hm (by rw [h.2]; simp)), h.2⟩
  lt h k hk := by rw [h.2] at hk; simp at hk; rw [hk]; exact h.1.lt
end
end L
end Go.Proofs.YtfkgpecglcjpkaaGreat
