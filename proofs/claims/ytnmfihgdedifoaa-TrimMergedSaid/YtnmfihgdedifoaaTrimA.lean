/- Proofs in memory: steps, lists of steps. Conditions: none. -/
import Derived.Test.YtnmfihgdedifoaaTrimP
import Derived.Test.YtnmfihgdedifoaaProg
import Derived.Test.YtnmfihgdedifoaaLib2
set_option linter.unusedVariables false
set_option linter.unusedSimpArgs false
set_option linter.unusedSectionVars false
open Go.RowKit
namespace Go.Proofs.Ytnmfihgdedifoaa
open L
namespace Trim
theorem infoStep : (Try.prog.info? 56).map (fun i => (i.zero, i.size, i.bytes)) = some (some (.agg #[.int .i64 0, .int .i64 0, .int .i64 0, .slice none 0 0, .string ⟨#[]⟩, .slice none 0 0, .slice none 0 0]), 7, 112) := by kernel_rfl
theorem infoInt : (Try.prog.info? 3).map (fun i => (i.zero, i.size, i.bytes)) = some (some (.int .i64 0), 1, 8) := by kernel_rfl
/-- A slice of ints whose block is known whole. -/
def RowI (w : World) (v : Value) (xs : List Int) : Prop := w.ownsRow 0 3 1 v xs.length (ints xs)
/-- The cells of a step. -/
def stC (s : StepD) (vp vl vh : Value) : List Value := [.int .i64 s.kind, .int .i64 s.node, .int .i64 s.rule, vp, .string s.name, vl, vh]
/-- The slices of a step, its numbers. -/
def StF (w : World) (s : StepD) (vp vl vh : Value) : Prop := RowI w vp s.params ∧ RowI w vl s.lits ∧ RowI w vh s.hints ∧ IsI64 s.kind ∧ IsI64 s.node ∧ IsI64 s.rule ∧ (∀ x ∈ s.params, IsI64 x) ∧ (∀ x ∈ s.lits, IsI64 x) ∧ (∀ x ∈ s.hints, IsI64 x) ∧ s.name.size ≤ 1000
/-- A step read from its cells. -/
def StR (w : World) (s : StepD) (cs : List Value) : Prop := ∃ vp vl vh, cs = stC s vp vl vh ∧ StF w s vp vl vh
/-- A list of steps whose block is known whole. -/
def StL (w : World) (v : Value) (l : List StepD) : Prop := ∃ f : Nat → List Value, w.ownsRow 0 56 7 v l.length (rows l.length f) ∧ (∀ i, (f i).length = 7) ∧ ∀ (i : Nat) (s : StepD), l[i]? = some s → StR w s (f i)
section
variable {w w' : World} {v : Value}
theorem RowI.upd {T : List Nat} {xs : List Int} (h : RowI w v xs) (u : Upd T w w') (hT : ∀ b ∈ T, v.ownBlock ≠ some b) : RowI w' v xs := ownsRow_updL h u hT
theorem RowI.ext {xs : List Int} (h : RowI w v xs) (u : Upd [] w w') : RowI w' v xs := ownsRow_updL h u (by simp)
theorem RowI.sl {xs : List Int} (h : RowI w v xs) : SL w 1 v xs.length (ints xs) := SL.of_owns h
theorem StF.ext {s : StepD} {vp vl vh : Value} (h : StF w s vp vl vh) (u : Upd [] w w') : StF w' s vp vl vh := ⟨h.1.ext u, h.2.1.ext u, h.2.2.1.ext u, h.2.2.2⟩
theorem StR.ext {s : StepD} {cs : List Value} (h : StR w s cs) (u : Upd [] w w') : StR w' s cs := by
  obtain ⟨vp, vl, vh, rfl, h1⟩ := h
  exact ⟨vp, vl, vh, rfl, h1.ext u⟩
theorem StL.ext {l : List StepD} (h : StL w v l) (u : Upd [] w w') : StL w' v l := by
  obtain ⟨f, h1, h2, h3⟩ := h
  exact ⟨f, ownsRow_updL h1 u (by simp), h2, fun i s hs => (h3 i s hs).ext u⟩
theorem kindsT {e1 e2 : TypeId} {k1 k2 n1 n2 : Nat} {v1 v2 : Value} {x1 x2 : List Value} (h1 : w.ownsRow 0 e1 k1 v1 n1 x1) (h2 : w.ownsRow 0 e2 k2 v2 n2 x2) (hne : e1 ≠ e2) {g : Nat} (hg : v1.ownBlock = some g) : v2.ownBlock ≠ some g := by
  intro hg2
  rcases h1.2 with ⟨rfl, _⟩ | ⟨a, cap, cur, rfl, _, ha, _⟩
  · simp [Value.ownBlock] at hg
  · rcases h2.2 with ⟨rfl, _⟩ | ⟨b, cap', cur', rfl, _, hb, _⟩
    · simp [Value.ownBlock] at hg2
    · simp only [Value.ownBlock, Option.some.injEq] at hg hg2
      subst hg hg2
      rw [ha] at hb
      simp at hb
      exact hne hb.2
/-- Steps stand where a block of steps alone is written. -/
theorem StR.other {T : List Nat} {s : StepD} {cs : List Value} {e : TypeId} {k n : Nat} {x : List Value} {y : Value} (h : StR w s cs) (hy : w.ownsRow 0 e k y n x) (he : e ≠ 3) (u : Upd T w w') (hT : ∀ b ∈ T, y.ownBlock = some b) : StR w' s cs := by
  obtain ⟨vp, vl, vh, rfl, h1, h2, h3, h4⟩ := h
  exact ⟨vp, vl, vh, rfl, h1.upd u (fun b hb => kindsT hy h1 he (hT b hb)), h2.upd u (fun b hb => kindsT hy h2 he (hT b hb)), h3.upd u (fun b hb => kindsT hy h3 he (hT b hb)), h4⟩
/-- The cells of a step of a list. -/
theorem StL.at_ {l : List StepD} (h : StL w v l) : ∃ a cap, v = .slice a l.length cap ∧ l.length ≤ cap ∧ cap ≤ 9223372036854775807 ∧ ∀ (i : Nat) (s : StepD), l[i]? = some s → ∃ g vp vl vh, a = some ⟨g, 0, none⟩ ∧ (∀ (j : Nat) (u : Value), (stC s vp vl vh)[j]? = some u → w.cell? ⟨g, i * 7 + j, none⟩ = some u) ∧ StF w s vp vl vh := by
  obtain ⟨f, h1, h2, h3⟩ := h
  obtain ⟨_, a, cap, rfl, q, r, _, hc⟩ := SL.of_owns h1
  unfold maxLen at r
  refine ⟨a, cap, rfl, q, by omega, fun i s hs => ?_⟩
  have hil := (List.getElem?_eq_some_iff.1 hs).1
  have hR := h3 i s hs
  obtain ⟨vp, vl, vh, e, hF⟩ := hR
  rcases h1.2 with ⟨h0, hn⟩ | ⟨g, cap', cur, hv, _, _⟩
  · omega
  · cases hv
    have hcc := (SL.of_owns h1).val
    obtain ⟨a', c', he, _, _, _, hcell⟩ := hcc
    cases he
    rcases hcell with hz | ⟨b, off, hb, hcell⟩
    · omega
    · cases hb
      refine ⟨g, vp, vl, vh, rfl, fun j u hj => ?_, hF⟩
      have hj7 : j < 7 := by have := (List.getElem?_eq_some_iff.1 hj).1; simpa [stC] using this
      have := hcell (i * 7 + j) u (by rw [rows_get h2 hj7 hil, e]; exact hj)
      rwa [Nat.zero_add] at this
end
theorem infoNode : (Try.prog.info? 88).map (fun i => (i.zero, i.size, i.bytes)) = some (some (.agg #[.int .i64 0, .slice none 0 0, .int .i64 0, .int .i64 0, .int .u64 0, .string ⟨#[]⟩, .int .i64 0, .int .i64 0, .int .i64 0]), 9, 96) := by kernel_rfl
theorem infoLemma : (Try.prog.info? 82).map (fun i => (i.zero, i.size, i.bytes)) = some (some (.agg #[.slice none 0 0, .slice none 0 0, .slice none 0 0, .slice none 0 0]), 4, 96) := by kernel_rfl
/-- The cells of a node. -/
def noC (d : NodeD) (vk : Value) : List Value := [.int .i64 d.op, vk, .int .i64 d.n, .int .i64 d.m, .int .u64 d.u, .string d.text, .int .i64 d.sk, .int .i64 d.sn, .int .i64 d.si]
def NoR (w : World) (d : NodeD) (cs : List Value) : Prop := ∃ vk, cs = noC d vk ∧ RowI w vk d.kids ∧ (∀ x ∈ d.kids, IsI64 x)
def NoL (w : World) (v : Value) (l : List NodeD) : Prop := ∃ f : Nat → List Value, w.ownsRow 0 88 9 v l.length (rows l.length f) ∧ (∀ i, (f i).length = 9) ∧ ∀ (i : Nat) (d : NodeD), l[i]? = some d → NoR w d (f i)
/-- The cells of a lemma. -/
def LmR (w : World) (d : LemD) (cs : List Value) : Prop := ∃ vg vh vc vs, cs = [vg, vh, vc, vs] ∧ NoL w vg d.graph ∧ RowI w vh d.hyps ∧ RowI w vc d.clause ∧ StL w vs d.steps
def LmL (w : World) (v : Value) (l : List LemD) : Prop := ∃ f : Nat → List Value, w.ownsRow 0 82 4 v l.length (rows l.length f) ∧ (∀ i, (f i).length = 4) ∧ ∀ (i : Nat) (d : LemD), l[i]? = some d → LmR w d (f i)
/-- A proof as a value. -/
def PrL (w : World) (v : Value) (p : PrfD) : Prop := ∃ vl vs, v = .agg #[vl, vs] ∧ LmL w vl p.lemmas ∧ StL w vs p.steps
section
variable {w w' : World} {v : Value}
theorem NoL.ext {l : List NodeD} (h : NoL w v l) (u : Upd [] w w') : NoL w' v l := by
  obtain ⟨f, h1, h2, h3⟩ := h
  exact ⟨f, ownsRow_updL h1 u (by simp), h2, fun i s hs => by obtain ⟨vk, e, a, b⟩ := h3 i s hs; exact ⟨vk, e, a.ext u, b⟩⟩
theorem LmL.ext {l : List LemD} (h : LmL w v l) (u : Upd [] w w') : LmL w' v l := by
  obtain ⟨f, h1, h2, h3⟩ := h
  exact ⟨f, ownsRow_updL h1 u (by simp), h2, fun i s hs => by obtain ⟨a, b, c, d, e, h4, h5, h6, h7⟩ := h3 i s hs; exact ⟨a, b, c, d, e, h4.ext u, h5.ext u, h6.ext u, h7.ext u⟩⟩
theorem PrL.ext {p : PrfD} (h : PrL w v p) (u : Upd [] w w') : PrL w' v p := by
  obtain ⟨vl, vs, e, h1, h2⟩ := h
  exact ⟨vl, vs, e, h1.ext u, h2.ext u⟩
theorem LmL.form {l : List LemD} (h : LmL w v l) : ∃ a cap, v = .slice a l.length cap ∧ l.length ≤ cap ∧ cap ≤ 9223372036854775807 := by
  obtain ⟨f, h1, h2, h3⟩ := h
  obtain ⟨_, a, cap, rfl, q, r, _⟩ := SL.of_owns h1
  unfold maxLen at r
  exact ⟨a, cap, rfl, q, by omega⟩
end
end Trim
end Go.Proofs.Ytnmfihgdedifoaa
