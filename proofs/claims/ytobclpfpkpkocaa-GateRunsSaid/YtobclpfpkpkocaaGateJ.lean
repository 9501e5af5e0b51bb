/- Rows of gates of one's own, for the law of runs. Conditions: none. -/
import Derived.Test.YtobclpfpkpkocaaGateLi
import Derived.Test.YtobclpfpkpkocaaGateK
set_option linter.unusedVariables false
set_option linter.unusedSimpArgs false
set_option linter.unusedSectionVars false
open Go.RowKit
namespace Go.Proofs.Ytobclpfpkpkocaa
open L
namespace Gate
open Cla R14 R01
theorem infoGateK : (Try.prog.info? 32).map (fun i => (i.zero, i.size, i.bytes)) = some (some (.agg #[.int .i64 0, .int .i64 0, .slice none 0 0]), 3, 40) := by kernel_rfl
/-- The cells of a gate whose inputs are old. -/
def RowK (w0 : World) (cs : List Value) (i : Nat) (x : G) : Prop :=
  ∃ av cv, cs[i * 3]? = some (.int .i64 x.1) ∧ cs[i * 3 + 1]? = some (.int .i64 x.2.1) ∧ cs[i * 3 + 2]? = some (.slice av x.2.2.length cv) ∧ SL w0 1 (.slice av x.2.2.length cv) x.2.2.length (ints x.2.2) ∧ ∀ y ∈ x.2.2, IsI64 y
structure OwnK (w0 : World) (v : Value) (gs : List G) (w : World) : Prop where
  ex : ∃ cs, OwnV w0 32 3 v gs.length cs w ∧ ∀ i, i < gs.length → RowK w0 cs i (gs.getD i (0, 0, []))
  u : Upd [] w0 w
theorem OwnK.gl {w0 w : World} {v : Value} {gs : List G} (h : OwnK w0 v gs w) : GL w v gs := by
  obtain ⟨cs, h1, h2⟩ := h.ex
  obtain ⟨hl, a, cap, rfl, q1, q2, q3, q4⟩ := h1.sl
  refine ⟨a, cap, rfl, q1, by unfold maxLen at q2; exact q2, fun i hi => ?_⟩
  rcases q4 with q4 | ⟨b, off, rfl, q4⟩
  · omega
  · obtain ⟨av, cv, r1, r2, r3, r4, r5⟩ := h2 i hi
    exact ⟨b, off, av, cv, rfl, q4 _ _ r1, by rw [Nat.add_assoc]; exact q4 _ _ r2, by rw [Nat.add_assoc]; exact q4 _ _ r3, r4.upd h.u (by simp), r5⟩
theorem OwnK.nil (w : World) : OwnK w (.slice none 0 0) [] w := ⟨⟨[], OwnV.nil _ _ _ _, fun i hi => by simp at hi⟩, Upd.refl _ _⟩
theorem OwnK.quiet {w0 w w' : World} {v : Value} {gs : List G} (h : OwnK w0 v gs w) (hu : Upd [] w w') : OwnK w0 v gs w' := by
  obtain ⟨cs, h1, h2⟩ := h.ex
  exact ⟨⟨cs, h1.upd hu (by simp), h2⟩, h.u.step hu⟩
theorem OwnK.push {w0 w w' : World} {v : Value} {gs : List G} {cs : List Value} {g cap : Nat} {x : G} {ay : Option Addr} {cy : Nat} (hw : Upd [] w0 w)
    (h1 : OwnV w0 32 3 v gs.length cs w) (h2 : ∀ i, i < gs.length → RowK w0 cs i (gs.getD i (0, 0, [])))
    (hy : SL w0 1 (.slice ay x.2.2.length cy) x.2.2.length (ints x.2.2)) (hyi : ∀ y ∈ x.2.2, IsI64 y)
    (O : w'.ownsRow 0 32 3 (.slice (some ⟨g, 0, none⟩) (gs.length + 1) cap) (gs.length + 1) (cs ++ [.int .i64 x.1, .int .i64 x.2.1, .slice ay x.2.2.length cy])) (u : Upd v.ownBlock.toList w w') (hk : v.ownBlock = some g ∨ w.heap.size ≤ g) :
    OwnK w0 (.slice (some ⟨g, 0, none⟩) (gs ++ [x]).length cap) (gs ++ [x]) w' := by
  have hl : cs.length = gs.length * 3 := h1.row.1
  have hz := hw.size
  rw [List.length_append, List.length_singleton]
  refine ⟨⟨_, by rw [List.length_append, List.length_singleton]; exact h1.push hz O hk, fun i hi => ?_⟩, ?_⟩
  · rw [List.length_append, List.length_singleton] at hi
    by_cases hig : i < gs.length
    · have e : (gs ++ [x]).getD i (0, 0, []) = gs.getD i (0, 0, []) := by rw [List.getD_eq_getElem?_getD, List.getD_eq_getElem?_getD, List.getElem?_append_left hig]
      rw [e]
      obtain ⟨av, cv, r1, r2, r3, r4, r5⟩ := h2 i hig
      have q : ∀ {n : Nat} {v : Value} {ds : List Value}, cs[n]? = some v → (cs ++ ds)[n]? = some v := fun h => by rw [List.getElem?_append_left (List.getElem?_eq_some_iff.1 h).1]; exact h
      exact ⟨av, cv, q r1, q r2, q r3, r4, r5⟩
    · have hie : i = gs.length := by omega
      subst hie
      have e : (gs ++ [x]).getD gs.length (0, 0, []) = x := by rw [List.getD_eq_getElem?_getD, List.getElem?_append_right (Nat.le_refl _)]; simp
      rw [e]
      refine ⟨ay, cy, ?_, ?_, ?_, hy, hyi⟩
      · rw [List.getElem?_append_right (by omega), hl, Nat.sub_self]; rfl
      · rw [List.getElem?_append_right (by omega), hl, show gs.length * 3 + 1 - gs.length * 3 = 1 by omega]; rfl
      · rw [List.getElem?_append_right (by omega), hl, show gs.length * 3 + 2 - gs.length * 3 = 2 by omega]; rfl
  · exact hw.fresh u (fun b hb => .inr (h1.fresh b (by simpa using hb)))
/-- Every cell of such a row is one cell. -/
theorem rows_one3 {w : World} {F : List Nat} {cs : List Value} {gs : List G} (hl : cs.length = gs.length * 3) (h : ∀ i, i < gs.length → RowAt w cs F i (gs.getD i (0, 0, []))) : ∀ u ∈ cs, u.oneCell' = true := by
  intro u hu
  obtain ⟨j, hj, rfl⟩ := List.getElem_of_mem hu
  obtain ⟨av, cv, r1, r2, r3, _⟩ := h (j / 3) (by omega)
  have hd : j = j / 3 * 3 ∨ j = j / 3 * 3 + 1 ∨ j = j / 3 * 3 + 2 := by omega
  have e : cs[j]? = some cs[j] := List.getElem?_eq_getElem hj
  rcases hd with hd | hd | hd
  · rw [← hd, e] at r1; rw [Option.some.inj r1]; rfl
  · rw [← hd, e] at r2; rw [Option.some.inj r2]; rfl
  · rw [← hd, e] at r3; rw [Option.some.inj r3]; rfl
/-- A row of gates in a block, one of whose rows is written. -/
theorem blk_gl {w : World} {b n cap : Nat} {cs : List Value} {e : TypeId} {gs : List G} (hB : Blk w b cs e) (hn : gs.length = n) (h1 : n ≤ cap) (h2 : cap ≤ 9223372036854775807)
    (h : ∀ i, i < n → ∃ av cv, cs[i * 3]? = some (.int .i64 (gs.getD i (0, 0, [])).1) ∧ cs[i * 3 + 1]? = some (.int .i64 (gs.getD i (0, 0, [])).2.1) ∧ cs[i * 3 + 2]? = some (.slice av (gs.getD i (0, 0, [])).2.2.length cv) ∧
      SL w 1 (.slice av (gs.getD i (0, 0, [])).2.2.length cv) (gs.getD i (0, 0, [])).2.2.length (ints (gs.getD i (0, 0, [])).2.2) ∧ ∀ y ∈ (gs.getD i (0, 0, [])).2.2, IsI64 y) : GL w (.slice (some ⟨b, 0, none⟩) n cap) gs := by
  subst hn
  refine ⟨_, cap, rfl, h1, h2, fun i hi => ?_⟩
  obtain ⟨av, cv, r1, r2, r3, r4, r5⟩ := h i hi
  exact ⟨b, 0, av, cv, rfl, by rw [Nat.zero_add]; exact hB.cell r1, by rw [Nat.zero_add]; exact hB.cell r2, by rw [Nat.zero_add]; exact hB.cell r3, r4, r5⟩
theorem gd_set (gs : List G) {k i : Nat} {x : G} (hk : k < gs.length) : (gs.set k x).getD i (0, 0, []) = if k = i then x else gs.getD i (0, 0, []) := by
  rw [List.getD_eq_getElem?_getD, List.getD_eq_getElem?_getD, List.getElem?_set]
  split
  · rename_i e; subst e; simp [hk]
  · rfl
/-- The row k is written anew. -/
theorem rows_set3 {w w' : World} {F : List Nat} {cs pad : List Value} {gs : List G} {k : Nat} {x : G} {av : Option Addr} {cv : Nat} (hl : cs.length = gs.length * 3) (hk : k < gs.length)
    (h : ∀ i, i < gs.length → RowAt w cs F i (gs.getD i (0, 0, []))) (hu : Upd [] w w') (hy : SL w' 1 (.slice av x.2.2.length cv) x.2.2.length (ints x.2.2)) (hyi : ∀ y ∈ x.2.2, IsI64 y) :
    ∀ i, i < gs.length → ∃ a c, ((((cs ++ pad).set (k * 3) (.int .i64 x.1)).set (k * 3 + 1) (.int .i64 x.2.1)).set (k * 3 + 2) (.slice av x.2.2.length cv))[i * 3]? = some (.int .i64 ((gs.set k x).getD i (0, 0, [])).1) ∧
      ((((cs ++ pad).set (k * 3) (.int .i64 x.1)).set (k * 3 + 1) (.int .i64 x.2.1)).set (k * 3 + 2) (.slice av x.2.2.length cv))[i * 3 + 1]? = some (.int .i64 ((gs.set k x).getD i (0, 0, [])).2.1) ∧
      ((((cs ++ pad).set (k * 3) (.int .i64 x.1)).set (k * 3 + 1) (.int .i64 x.2.1)).set (k * 3 + 2) (.slice av x.2.2.length cv))[i * 3 + 2]? = some (.slice a ((gs.set k x).getD i (0, 0, [])).2.2.length c) ∧
      SL w' 1 (.slice a ((gs.set k x).getD i (0, 0, [])).2.2.length c) ((gs.set k x).getD i (0, 0, [])).2.2.length (ints ((gs.set k x).getD i (0, 0, [])).2.2) ∧ ∀ y ∈ ((gs.set k x).getD i (0, 0, [])).2.2, IsI64 y := by
  intro i hi
  rw [gd_set gs hk]
  have q : ∀ {n : Nat}, n < cs.length → (cs ++ pad)[n]? = cs[n]? := fun h => List.getElem?_append_left h
  by_cases e : k = i
  · subst e
    rw [if_pos rfl]
    refine ⟨av, cv, ?_, ?_, ?_, hy, hyi⟩
    · rw [List.getElem?_set_ne (by omega), List.getElem?_set_ne (by omega), List.getElem?_set_self (by simp; omega)]
    · rw [List.getElem?_set_ne (by omega), List.getElem?_set_self (by simp; omega)]
    · rw [List.getElem?_set_self (by simp; omega)]
  · rw [if_neg e]
    obtain ⟨a, c, r1, r2, r3, r4, r5, _⟩ := h i hi
    refine ⟨a, c, ?_, ?_, ?_, r4.upd hu (by simp), r5⟩
    · rw [List.getElem?_set_ne (by omega), List.getElem?_set_ne (by omega), List.getElem?_set_ne (by omega), q (by omega)]; exact r1
    · rw [List.getElem?_set_ne (by omega), List.getElem?_set_ne (by omega), List.getElem?_set_ne (by omega), q (by omega)]; exact r2
    · rw [List.getElem?_set_ne (by omega), List.getElem?_set_ne (by omega), List.getElem?_set_ne (by omega), q (by omega)]; exact r3
/-- A gate by its place. -/
theorem GL.at {w : World} {a : Option Addr} {n cap : Nat} {gs : List G} (h : GL w (.slice a n cap) gs) {i : Nat} (hi : i < gs.length) : GA w a i (gs.getD i (0, 0, [])) := by
  obtain ⟨a', cap', he, _, _, h3⟩ := h
  cases he
  exact h3 i hi
/-- What a run gives, in one form. -/
theorem RunAT.uni {r : List Int × Int} {w w' : World} {e : Ending} (h : RunAT r w e w') (h0 : r.2 ≠ 0 → r.1 = []) : ∃ a cap, e = .returned (.tuple #[.slice a r.1.length cap, .int .i64 r.2]) ∧ SL w' 1 (.slice a r.1.length cap) r.1.length (ints r.1) ∧ Upd [] w w' := by
  by_cases he : r.2 = 0
  · obtain ⟨a, cap, h1, h2⟩ := h.2 he
    exact ⟨a, cap, by rw [he]; exact h1, h2.sl, h2.u⟩
  · obtain ⟨h1, h2⟩ := h.1 he
    rw [h0 he]
    exact ⟨none, 0, h1, ⟨rfl, none, 0, rfl, Nat.le_refl _, Nat.zero_le _, fun _ => rfl, .inl rfl⟩, h2⟩
theorem runL_err {gs : List G} : ∀ {A : List Int}, (runL gs A).2 ≠ 0 → (runL gs A).1 = [] := by
  induction gs with
  | nil => intro A h; exact absurd rfl h
  | cons g gs ih =>
    obtain ⟨k, o, xs⟩ := g
    intro A h
    unfold runL at h ⊢
    split
    · rfl
    · rename_i h0; rw [if_neg h0] at h; exact ih h
theorem runAll_err {gs : List G} {A : List Int} (h : (runAll gs A).2 ≠ 0) : (runAll gs A).1 = [] := by
  unfold runAll at h ⊢
  split
  · rfl
  · rename_i h0; rw [if_neg h0] at h; exact runL_err h
theorem runAll_len {gs : List G} {A : List Int} (h : (runAll gs A).2 = 0) : (runAll gs A).1.length = A.length := by
  unfold runAll at h ⊢
  split
  · rename_i h0; rw [if_pos h0] at h; simp at h
  · rename_i h0
    rw [if_neg h0] at h
    exact runL_len (A' := (runL gs A).1) (Prod.ext rfl h)
theorem runAll_i64 {gs : List G} {A : List Int} (hA : ∀ x ∈ A, IsI64 x) : ∀ x ∈ (runAll gs A).1, IsI64 x := by
  unfold runAll
  split
  · simp
  · have key : ∀ (gs : List G) (A : List Int), (∀ x ∈ A, IsI64 x) → ∀ x ∈ (runL gs A).1, IsI64 x := by
      intro gs
      induction gs with
      | nil => intro A hA; exact hA
      | cons g gs ih =>
        obtain ⟨k, o, xs⟩ := g
        intro A hA
        unfold runL
        split
        · simp
        · exact ih _ (runSet_i64 hA)
    exact key gs A hA
/-- Two lists of gates, three assignments. -/
def Pick2 (w : World) (b : Nat) (n : Nat) (i : Nat) (gs : List G) : Prop := ∃ a cap, w.cell? ⟨b, i, none⟩ = some (.slice a n cap) ∧ gs.length = n ∧ n ≤ cap ∧ cap ≤ 9223372036854775807 ∧ GL w (.slice a n cap) gs
def Pick3 (w : World) (b : Nat) (i : Nat) (X : List Int) : Prop := ∃ a cap, w.cell? ⟨b, i, none⟩ = some (.slice a X.length cap) ∧ X.length ≤ cap ∧ cap ≤ 9223372036854775807 ∧ X.length ≤ 14 ∧ SL w 1 (.slice a X.length cap) X.length (ints X) ∧ ∀ x ∈ X, IsI64 x
theorem Pick2.mk' {w : World} {b n i cap : Nat} {a : Option Addr} {gs : List G} (hc : w.cell? ⟨b, i, none⟩ = some (.slice a n cap)) (hn : gs.length = n) (hg : GL w (.slice a n cap) gs) : Pick2 w b n i gs := by
  obtain ⟨a', c', he, q1, q2, q3⟩ := id hg
  cases he
  exact ⟨a, cap, hc, hn, q1, q2, hg⟩
theorem Pick3.mk' {w : World} {b n i cap : Nat} {a : Option Addr} {X : List Int} (hc : w.cell? ⟨b, i, none⟩ = some (.slice a n cap)) (hn : X.length = n) (h14 : n ≤ 14) (hs : SL w 1 (.slice a n cap) n (ints X)) (hi : ∀ x ∈ X, IsI64 x) : Pick3 w b i X := by
  subst hn
  obtain ⟨_, _, he, q1, q2, _⟩ := SL.elems hs
  cases he
  exact ⟨a, cap, hc, q1, q2, h14, hs, hi⟩
theorem Pick2.upd {w w' : World} {b n i : Nat} {gs : List G} (h : Pick2 w b n i gs) (hu : Upd [] w w') : Pick2 w' b n i gs := by
  obtain ⟨a, cap, h1, h2, h3, h4, h5⟩ := h
  exact ⟨a, cap, hu.some h1 (by simp), h2, h3, h4, h5.upd hu⟩
theorem Pick3.upd {w w' : World} {b i : Nat} {X : List Int} (h : Pick3 w b i X) (hu : Upd [] w w') : Pick3 w' b i X := by
  obtain ⟨a, cap, h1, h2, h3, h4, h5, h6⟩ := h
  exact ⟨a, cap, hu.some h1 (by simp), h2, h3, h4, h5.upd hu (by simp), h6⟩
end Gate
end Go.Proofs.Ytobclpfpkpkocaa
