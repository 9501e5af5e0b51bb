/- The operations on disks as data: lists of them in memory. Conditions: none. -/
import Derived.Test.YtnljjkmmnkldcaaDiskM
set_option linter.unusedVariables false
set_option linter.unusedSimpArgs false
set_option linter.unusedSectionVars false
open Go.RowKit
namespace Go.Proofs.Ytnljjkmmnkldcaa
open L
namespace Disk
open Wire R01
/-- An operation. -/
structure OpD where
  kind : Int
  file : Int
  n : Int
  b : List Int
  keep : List Int
structure OpOk (o : OpD) : Prop where
  kind : IsI64 o.kind
  file : IsI64 o.file
  n : IsI64 o.n
  u8 : ∀ x ∈ o.b, 0 ≤ x ∧ x ≤ 255
  bl : o.b.length ≤ 100
  i64 : ∀ x ∈ o.keep, IsI64 x
  kl : o.keep.length ≤ 100
theorem infoOp : (Try.prog.info? 48).map (fun i => (i.zero, i.size, i.bytes)) = some (some (.agg #[.int .i64 0, .int .i64 0, .int .i64 0, .slice none 0 0, .slice none 0 0]), 5, 72) := by kernel_rfl
/-- The cells of an operation. -/
def opC (o : OpD) (vb vk : Value) : List Value := [.int .i64 o.kind, .int .i64 o.file, .int .i64 o.n, vb, vk]
/-- The two slices of an operation, new since w0. -/
structure OpS (w0 : World) (o : OpD) (vb vk : Value) (w : World) : Prop where
  b : SL w 1 vb o.b.length (byts o.b)
  k : SL w 1 vk o.keep.length (ints o.keep)
  bn : ∀ g, vb.ownBlock = some g → w0.heap.size ≤ g ∧ g < w.heap.size
  kn : ∀ g, vk.ownBlock = some g → w0.heap.size ≤ g ∧ g < w.heap.size
theorem OpS.upd {w0 w w' : World} {o : OpD} {vb vk : Value} {T : List Nat} (h : OpS w0 o vb vk w) (hu : Upd T w w') (hT : ∀ g ∈ T, vb.ownBlock ≠ some g ∧ vk.ownBlock ≠ some g) : OpS w0 o vb vk w' :=
  ⟨h.b.upd hu (fun g hg => (hT g hg).1), h.k.upd hu (fun g hg => (hT g hg).2), fun g hg => ⟨(h.bn g hg).1, Nat.lt_of_lt_of_le (h.bn g hg).2 hu.size⟩, fun g hg => ⟨(h.kn g hg).1, Nat.lt_of_lt_of_le (h.kn g hg).2 hu.size⟩⟩
theorem OpS.base {w0 w1 w : World} {o : OpD} {vb vk : Value} (h : OpS w1 o vb vk w) (hs : w0.heap.size ≤ w1.heap.size) : OpS w0 o vb vk w :=
  ⟨h.b, h.k, fun g hg => ⟨Nat.le_trans hs (h.bn g hg).1, (h.bn g hg).2⟩, fun g hg => ⟨Nat.le_trans hs (h.kn g hg).1, (h.kn g hg).2⟩⟩
/-- A list of operations of one's own. -/
structure OwnO (w0 : World) (v : Value) (ops : List OpD) (w : World) : Prop where
  ex : ∃ cs, OwnV w0 48 5 v ops.length cs w ∧ ∀ i o, ops[i]? = some o → ∃ vb vk, (∀ j u, (opC o vb vk)[j]? = some u → cs[i * 5 + j]? = some u) ∧ OpS w0 o vb vk w ∧ (∀ g, vb.ownBlock = some g → v.ownBlock ≠ some g) ∧ (∀ g, vk.ownBlock = some g → v.ownBlock ≠ some g)
  ok : ∀ o ∈ ops, OpOk o
  u : Upd [] w0 w
theorem OwnO.nil (w : World) : OwnO w (.slice none 0 0) [] w := ⟨⟨[], OwnV.nil _ _ _ _, by simp⟩, by simp, Upd.refl _ _⟩
theorem OwnO.quiet {w0 w w' : World} {v : Value} {ops : List OpD} (h : OwnO w0 v ops w) (hu : Upd [] w w') : OwnO w0 v ops w' := by
  obtain ⟨cs, h1, h2⟩ := h.ex
  refine ⟨⟨cs, h1.upd hu (by simp), fun i o hi => ?_⟩, h.ok, h.u.step hu⟩
  obtain ⟨vb, vk, h3, h4, h5, h6⟩ := h2 i o hi
  exact ⟨vb, vk, h3, h4.upd hu (by simp), h5, h6⟩
theorem OwnO.push {w0 w w' : World} {v vb vk : Value} {ops : List OpD} {cs : List Value} {g cap : Nat} {o : OpD} (h1 : OwnV w0 48 5 v ops.length cs w)
    (h2 : ∀ i o, ops[i]? = some o → ∃ vb vk, (∀ j u, (opC o vb vk)[j]? = some u → cs[i * 5 + j]? = some u) ∧ OpS w0 o vb vk w ∧ (∀ g, vb.ownBlock = some g → v.ownBlock ≠ some g) ∧ (∀ g, vk.ownBlock = some g → v.ownBlock ≠ some g))
    (hok : ∀ o ∈ ops, OpOk o) (hu0 : Upd [] w0 w) (ho : OpS w0 o vb vk w) (hoo : OpOk o) (hvb : ∀ g, vb.ownBlock = some g → v.ownBlock ≠ some g) (hvk : ∀ g, vk.ownBlock = some g → v.ownBlock ≠ some g)
    (O : w'.ownsRow 0 48 5 (.slice (some ⟨g, 0, none⟩) (ops.length + 1) cap) (ops.length + 1) (cs ++ opC o vb vk)) (u : Upd v.ownBlock.toList w w') (hk : v.ownBlock = some g ∨ w.heap.size ≤ g) :
    OwnO w0 (.slice (some ⟨g, 0, none⟩) (ops.length + 1) cap) (ops ++ [o]) w' := by
  have hl : cs.length = ops.length * 5 := h1.row.1
  have key : ∀ {x : Value}, (∀ b, x.ownBlock = some b → v.ownBlock ≠ some b) → (∀ b, x.ownBlock = some b → b < w.heap.size) → ∀ b, x.ownBlock = some b → (Value.slice (some ⟨g, 0, none⟩) (ops.length + 1) cap).ownBlock ≠ some b := fun hx hxl b hb e => by
    simp only [Value.ownBlock, Option.some.injEq] at e
    subst e
    rcases hk with hk | hk
    · exact hx _ hb hk
    · have := hxl _ hb; omega
  refine ⟨⟨_, by rw [List.length_append, List.length_singleton]; exact h1.push hu0.size O hk, fun i p hi => ?_⟩, fun p hp => ?_, hu0.fresh u (fun b hb => .inr (h1.fresh b (by simpa using hb)))⟩
  · by_cases hig : i < ops.length
    · rw [List.getElem?_append_left hig] at hi
      obtain ⟨yb, yk, q1, q2, q3, q4⟩ := h2 i p hi
      refine ⟨yb, yk, fun j u hj => ?_, q2.upd u (fun b hb => ⟨fun e => q3 b e (by simpa using hb), fun e => q4 b e (by simpa using hb)⟩), key q3 (fun b hb => (q2.bn b hb).2), key q4 (fun b hb => (q2.kn b hb).2)⟩
      have hj5 : j < 5 := by have := (List.getElem?_eq_some_iff.1 hj).1; simpa [opC] using this
      rw [List.getElem?_append_left (by omega)]
      exact q1 j u hj
    · rw [List.getElem?_append_right (by omega)] at hi
      have hi0 : i - ops.length = 0 := by
        have := (List.getElem?_eq_some_iff.1 hi).1
        simp at this
        omega
      rw [hi0] at hi
      have hpo : o = p := by simpa using hi
      subst hpo
      refine ⟨vb, vk, fun j u hj => ?_, ho.upd u (fun b hb => ⟨fun e => hvb b e (by simpa using hb), fun e => hvk b e (by simpa using hb)⟩), key hvb (fun b hb => (ho.bn b hb).2), key hvk (fun b hb => (ho.kn b hb).2)⟩
      rw [List.getElem?_append_right (by omega), show i * 5 + j - cs.length = j by omega]
      exact hj
  · rcases List.mem_append.1 hp with hp | hp
    · exact hok p hp
    · simp at hp; subst hp; exact hoo
/-- What Ops hands over: everything of it lies in blocks from lo on and below hi. -/
def OpsL (lo hi : Nat) (v : Value) (ops : List OpD) (w : World) : Prop :=
  hi ≤ w.heap.size ∧ (∃ a cap, v = .slice a ops.length cap) ∧ ∀ i o, ops[i]? = some o → OpOk o ∧ ∃ g cap ab cb ak ck, v = .slice (some ⟨g, 0, none⟩) ops.length cap ∧ lo ≤ g ∧ g < hi ∧
    (∀ j u, (opC o (.slice ab o.b.length cb) (.slice ak o.keep.length ck))[j]? = some u → w.cell? ⟨g, i * 5 + j, none⟩ = some u) ∧
    SL w 1 (.slice ab o.b.length cb) o.b.length (byts o.b) ∧ SL w 1 (.slice ak o.keep.length ck) o.keep.length (ints o.keep) ∧
    (∀ g, (Value.slice ab o.b.length cb).ownBlock = some g → lo ≤ g ∧ g < hi) ∧ (∀ g, (Value.slice ak o.keep.length ck).ownBlock = some g → lo ≤ g ∧ g < hi)
theorem OwnO.opsL {w0 w : World} {v : Value} {ops : List OpD} (h : OwnO w0 v ops w) : OpsL w0.heap.size w.heap.size v ops w := by
  obtain ⟨cs, h1, h2⟩ := h.ex
  obtain ⟨_, a, cap, rfl, _⟩ := h1.sl
  refine ⟨Nat.le_refl _, ⟨a, cap, rfl⟩, fun i o hi => ⟨h.ok o (List.mem_of_getElem? hi), ?_⟩⟩
  have hlt := (List.getElem?_eq_some_iff.1 hi).1
  obtain ⟨vb, vk, q1, q2, q3, q4⟩ := h2 i o hi
  obtain ⟨g, c', he, hg, _⟩ := owns_form h1.row (by omega)
  obtain ⟨_, ab, cb, rfl, _⟩ := q2.b
  obtain ⟨_, ak, ck, rfl, _⟩ := q2.k
  refine ⟨g, c', ab, cb, ak, ck, he, h1.fresh g (by rw [he]; rfl), hg, fun j u hj => ?_, q2.b, q2.k, q2.bn, q2.kn⟩
  rw [he] at h1
  have := h1.row.cells (g := g) rfl (i * 5 + j) u (q1 j u hj)
  rw [addr_add, Nat.zero_add] at this
  exact this
theorem OpsL.upd {lo hi : Nat} {v : Value} {ops : List OpD} {w w' : World} {T : List Nat} (h : OpsL lo hi v ops w) (hu : Upd T w w') (hT : ∀ k ∈ T, k < lo ∨ hi ≤ k) : OpsL lo hi v ops w' := by
  obtain ⟨h1, h2, h3⟩ := h
  refine ⟨Nat.le_trans h1 hu.size, h2, fun i o hio => ?_⟩
  obtain ⟨q0, g, cap, ab, cb, ak, ck, q1, q2, q3, q4, q5, q6, q7, q8⟩ := h3 i o hio
  have key : ∀ b, lo ≤ b ∧ b < hi → b ∉ T := fun b hb hm => by have := hT b hm; omega
  exact ⟨q0, g, cap, ab, cb, ak, ck, q1, q2, q3, fun j u hj => hu.some (q4 j u hj) (key g ⟨q2, q3⟩), q5.upd hu (fun b hb e => key b (q7 b e) hb), q6.upd hu (fun b hb e => key b (q8 b e) hb), q7, q8⟩
end Disk
end Go.Proofs.Ytnljjkmmnkldcaa
