/- The reference's merging in memory. Conditions: none. -/
import Derived.Test.YtnmfihgdedifoaaTrimRC
import Derived.Test.YtnmfihgdedifoaaTrimMP
import Derived.Test.YtnmfihgdedifoaaTrimMH
set_option linter.unusedVariables false
set_option linter.unusedSimpArgs false
set_option linter.unusedSectionVars false
open Go.RowKit
namespace Go.Proofs.Ytnmfihgdedifoaa
open L R01
namespace Trim
theorem infoInts : (Try.prog.info? 22).map (fun i => (i.zero, i.size, i.bytes)) = some (some (.slice none 0 0), 1, 24) := by kernel_rfl
/-- What the reference's Merge has in memory. -/
structure RM (w : World) (ob : Nat) (vL vS vn : Value) (L : List LemD) (T : List StepD) (A : List Int) (fr : List (Value × List Int)) (v9 : Value) (rs : List Value) (bxs : List (Nat × List Value)) (W : World) : Prop where
  out : Blk W ob [vL, vS] 30
  lm : LmQ w vL L W
  st : StN w vn vS T W
  nn : OwnV w 3 1 vn A.length (ints A) W
  fx : ∀ r ∈ fr, RowI W r.1 r.2 ∧ ∀ g, vn.ownBlock = some g → r.1.ownBlock ≠ some g
  r9 : OwnV w 22 1 v9 rs.length rs W
  oz : w.heap.size ≤ ob
  bx : ∀ x ∈ bxs, Blk W x.1 x.2 30 ∧ x.1 ≠ ob
  u : Upd [] w W
theorem stN_nil (w W : World) (vn : Value) : StN w vn (.slice none 0 0) [] W := ⟨fun _ => [undef, undef, undef, undef, undef, undef, undef], World.ownsRow_nil _ _ _ _, fun _ => rfl, fun i d hd => by simp at hd, by simp [Value.ownBlock]⟩
section
variable {w W W' : World} {ob : Nat} {vL vS vn v9 : Value} {L : List LemD} {T : List StepD} {A : List Int} {fr : List (Value × List Int)} {rs : List Value} {bxs : List (Nat × List Value)}
/-- Blocks of none of the types. -/
theorem RM.nk (e : TypeId) {S : List Nat} (hS : ∀ b ∈ S, Kind W b e) {e' : TypeId} (hne : e ≠ e') {base k n : Nat} {v : Value} {x : List Value} (hr : W.ownsRow base e' k v n x) : ∀ b ∈ S, v.ownBlock ≠ some b := fun b hb hv => hne ((hS b hb).inj (row_kind hr hv))
theorem StN.kd {S : List Nat} (h : StN w vn vS T W) (hT : Off W S [3, 56]) (u : Upd S W W') : StN w vn vS T W' := by
  obtain ⟨fo, h1, h2, h3, h4⟩ := h
  exact ⟨fo, ownsRow_updL h1 u (hT.row h1 (by simp)), h2, fun i s hs => (h3 i s hs).kd (fun b hb => by obtain ⟨e, h1, h2⟩ := hT b hb; exact ⟨e, h1, fun hm => h2 (by simp at hm; simp [hm])⟩) u, h4⟩
theorem RM.ext (h : RM w ob vL vS vn L T A fr v9 rs bxs W) (u : Upd [] W W') : RM w ob vL vS vn L T A fr v9 rs bxs W' :=
  ⟨h.out.upd u (by simp), h.lm.upd (off_nil _ _) u, h.st.kd (off_nil _ _) u, h.nn.upd u (by simp), fun r hr => ⟨(h.fx r hr).1.ext u, (h.fx r hr).2⟩, h.r9.upd u (by simp), h.oz, fun x hx => ⟨(h.bx x hx).1.upd u (by simp), (h.bx x hx).2⟩, h.u.step u⟩
/-- One number more. -/
theorem RM.num {g7 c7 : Nat} {x : Int} (h : RM w ob vL vS vn L T A fr v9 rs bxs W)
    (o : W'.ownsRow 0 3 1 (.slice (some ⟨g7, 0, none⟩) (A.length + 1) c7) (A.length + 1) (ints A ++ [.int .i64 x])) (u : Upd vn.ownBlock.toList W W') (k : vn.ownBlock = some g7 ∨ W.heap.size ≤ g7) :
    RM w ob vL vS (.slice (some ⟨g7, 0, none⟩) (A.length + 1) c7) L T (A ++ [x]) fr v9 rs bxs W' := by
  have hk : ∀ g, (Value.slice (some ⟨g7, 0, none⟩) (A.length + 1) c7).ownBlock = some g → vn.ownBlock = some g ∨ W.heap.size ≤ g := fun g hg => by
    simp only [Value.ownBlock, Option.some.injEq] at hg
    subst hg; exact k
  have hz := h.u.size
  have hkn : ∀ b ∈ vn.ownBlock.toList, Kind W b 3 := fun b hb => row_kind h.nn.row (by simpa using hb)
  refine ⟨offrow h.out h.nn.row (by decide) u, h.lm.upd (off_row h.nn.row (by decide)) u, ?_, ⟨?_, fun g hg => ?_⟩, fun r hr => ⟨(h.fx r hr).1.upd u (fun b hb => (h.fx r hr).2 b (by simpa using hb)), fun g hg => ?_⟩, h.r9.upd u (RM.nk _ hkn (by decide) h.r9.row), h.oz, fun x hx => ⟨offrow (h.bx x hx).1 h.nn.row (by decide) u, (h.bx x hx).2⟩, h.u.fresh u (fun b hb => .inr (h.nn.fresh b (by simpa using hb)))⟩
  · obtain ⟨fo, h1, h2, h3, h4⟩ := h.st
    exact ⟨fo, ownsRow_updL h1 u (RM.nk _ hkn (by decide) h1), h2, fun i s hs => (h3 i s hs).num u hk, h4⟩
  · rw [List.length_append, List.length_singleton, ints_append]; exact o
  · rcases hk g hg with e | e
    · exact h.nn.fresh g e
    · omega
  · rcases hk g hg with e | e
    · exact (h.fx r hr).2 g e
    · intro hv
      have := (h.fx r hr).1.lt _ hv
      omega
/-- One lemma more. -/
theorem RM.lem {d : LemD} {cs : List Value} {vL' : Value} {f : Nat → List Value} {W1 : World} (h : RM w ob vL vS vn L T A fr v9 rs bxs W) (hf1 : W.ownsRow 0 82 4 vL L.length (rows L.length f)) (hf2 : ∀ i, (f i).length = 4) (hf3 : ∀ (i : Nat) (s : LemD), L[i]? = some s → LmR w s (f i)) (hd : LmR w d cs) (hcs : cs.length = 4)
    (o : W1.ownsRow 0 82 4 vL' (L.length + 1) (rows L.length f ++ cs)) (u7 : Upd vL.ownBlock.toList W W1) (k7 : ∀ g, vL'.ownBlock = some g → vL.ownBlock = some g ∨ W.heap.size ≤ g) :
    Blk W1 ob [vL, vS] 30 ∧ RM w ob vL' vS vn (L ++ [d]) T A fr v9 rs bxs (W1.setCell ⟨ob, 0, none⟩ vL') := by
  have hz := h.u.size
  have hfr : ∀ g, vL.ownBlock = some g → w.heap.size ≤ g := by obtain ⟨_, _, _, _, h4⟩ := h.lm; exact h4
  have hkn : ∀ b ∈ vL.ownBlock.toList, Kind W b 82 := fun b hb => row_kind hf1 (by simpa using hb)
  have B1 := offrow h.out hf1 (by decide) u7
  have us : Upd [ob] W1 (W1.setCell ⟨ob, 0, none⟩ vL') := (Upd.refl _ W1).set (.inl (by simp)) _
  have hko : ∀ b ∈ [ob], Kind W1 b 30 := fun b hb => by simp at hb; subst hb; exact blk_kind B1
  have n1 := h.nn.upd u7 (RM.nk _ hkn (by decide) h.nn.row)
  have r1 := h.r9.upd u7 (RM.nk _ hkn (by decide) h.r9.row)
  have l1 : LmQ w vL' (L ++ [d]) W1 := lmQ_push hf2 hf3 hd hcs o (fun g hg => by
    rcases k7 g hg with h1 | h1
    · exact hfr g h1
    · omega)
  have f1 : ∀ r ∈ fr, RowI W1 r.1 r.2 := fun r hr => (h.fx r hr).1.upd u7 (RM.nk _ hkn (by decide) (h.fx r hr).1)
  refine ⟨B1, B1.set 0 vL', l1.upd (off_blk B1 (by decide)) us, (h.st.kd (off_row hf1 (by decide)) u7).kd (off_blk B1 (by decide)) us, n1.upd us (RM.nk _ hko (by decide) n1.row), fun r hr => ⟨(f1 r hr).upd us (RM.nk _ hko (by decide) (f1 r hr)), (h.fx r hr).2⟩, r1.upd us (RM.nk _ hko (by decide) r1.row), h.oz, fun x hx => ⟨(offrow (h.bx x hx).1 hf1 (by decide) u7).upd us (by simp; exact (h.bx x hx).2), (h.bx x hx).2⟩, (h.u.fresh u7 (fun b hb => .inr (hfr b (by simpa using hb)))).fresh us (fun b hb => .inr (by simp at hb; have := h.oz; omega))⟩
/-- One step more. -/
theorem RM.stp {d : StepD} {cs : List Value} {vS' : Value} {f : Nat → List Value} {W1 : World} (h : RM w ob vL vS vn L T A fr v9 rs bxs W) (hf1 : W.ownsRow 0 56 7 vS T.length (rows T.length f)) (hf2 : ∀ i, (f i).length = 7) (hf3 : ∀ (i : Nat) (s : StepD), T[i]? = some s → SE2 vn W s (f i)) (hd : SE2 vn W d cs) (hcs : cs.length = 7)
    (o : W1.ownsRow 0 56 7 vS' (T.length + 1) (rows T.length f ++ cs)) (u7 : Upd vS.ownBlock.toList W W1) (k7 : ∀ g, vS'.ownBlock = some g → vS.ownBlock = some g ∨ W.heap.size ≤ g) :
    Blk W1 ob [vL, vS] 30 ∧ RM w ob vL vS' vn L (T ++ [d]) A fr v9 rs bxs (W1.setCell ⟨ob, 1, none⟩ vS') := by
  have hz := h.u.size
  have hfr : ∀ g, vS.ownBlock = some g → w.heap.size ≤ g := by obtain ⟨_, _, _, _, h4⟩ := h.st; exact h4
  have hkn : ∀ b ∈ vS.ownBlock.toList, Kind W b 56 := fun b hb => row_kind hf1 (by simpa using hb)
  have B1 := offrow h.out hf1 (by decide) u7
  have us : Upd [ob] W1 (W1.setCell ⟨ob, 1, none⟩ vS') := (Upd.refl _ W1).set (.inl (by simp)) _
  have hko : ∀ b ∈ [ob], Kind W1 b 30 := fun b hb => by simp at hb; subst hb; exact blk_kind B1
  have n1 := h.nn.upd u7 (RM.nk _ hkn (by decide) h.nn.row)
  have r1 := h.r9.upd u7 (RM.nk _ hkn (by decide) h.r9.row)
  have hoffI : Off W vS.ownBlock.toList [3] := off_row hf1 (by decide)
  have hoffBI : Off W1 [ob] [3] := off_blk B1 (by decide)
  have f1 : ∀ r ∈ fr, RowI W1 r.1 r.2 := fun r hr => (h.fx r hr).1.upd u7 (RM.nk _ hkn (by decide) (h.fx r hr).1)
  refine ⟨B1, B1.set 1 vS', (h.lm.upd (off_row hf1 (by decide)) u7).upd (off_blk B1 (by decide)) us, ?_, n1.upd us (RM.nk _ hko (by decide) n1.row), fun r hr => ⟨(f1 r hr).upd us (RM.nk _ hko (by decide) (f1 r hr)), (h.fx r hr).2⟩, r1.upd us (RM.nk _ hko (by decide) r1.row), h.oz, fun x hx => ⟨(offrow (h.bx x hx).1 hf1 (by decide) u7).upd us (by simp; exact (h.bx x hx).2), (h.bx x hx).2⟩, (h.u.fresh u7 (fun b hb => .inr (hfr b (by simpa using hb)))).fresh us (fun b hb => .inr (by simp at hb; have := h.oz; omega))⟩
  refine ⟨fun i => if i = T.length then cs else f i, ?_, fun i => ?_, fun i s hs => ?_, fun g hg => ?_⟩
  · rw [List.length_append, List.length_singleton, ← rows_ext]
    exact ownsRow_updL o us (RM.nk _ hko (by decide) o)
  · by_cases hi : i = T.length
    · simp [hi, hcs]
    · simp [hi, hf2]
  · by_cases hi : i = T.length
    · subst hi
      rw [List.getElem?_append_right (by omega)] at hs
      simp at hs
      subst hs
      show SE2 vn _ d (if T.length = T.length then cs else f T.length)
      rw [if_pos rfl]
      exact (hd.kd hoffI u7).kd hoffBI us
    · have hl := (List.getElem?_eq_some_iff.1 hs).1
      rw [List.length_append, List.length_singleton] at hl
      rw [List.getElem?_append_left (by omega)] at hs
      show SE2 vn _ s (if i = T.length then cs else f i)
      rw [if_neg hi]
      exact ((hf3 i s hs).kd hoffI u7).kd hoffBI us
  · rcases k7 g hg with h1 | h1
    · exact hfr g h1
    · omega
/-- The numbers are done: other ones begin. -/
theorem RM.turn (h : RM w ob vL vS vn L T A fr v9 rs bxs W) : RM w ob vL vS (.slice none 0 0) L T [] ((vn, A) :: fr) v9 rs bxs W := by
  refine ⟨h.out, h.lm, ?_, OwnV.nil _ _ _ _, fun r hr => ⟨?_, fun g hg => by simp [Value.ownBlock] at hg⟩, h.r9, h.oz, h.bx, h.u⟩
  · obtain ⟨fo, h1, h2, h3, h4⟩ := h.st
    exact ⟨fo, h1, h2, fun i s hs => by obtain ⟨vp, vl, vh, e, hF, _⟩ := h3 i s hs; exact ⟨vp, vl, vh, e, hF, fun g hg => by simp [Value.ownBlock] at hg⟩, h4⟩
  · rcases List.mem_cons.1 hr with rfl | hr
    · exact h.nn.row
    · exact (h.fx r hr).1
/-- A row of numbers is laid down. -/
theorem RM.lay {g7 c7 : Nat} {x : Value} (h : RM w ob vL vS vn L T A fr v9 rs bxs W)
    (o : W'.ownsRow 0 22 1 (.slice (some ⟨g7, 0, none⟩) (rs.length + 1) c7) (rs.length + 1) (rs ++ [x])) (u : Upd v9.ownBlock.toList W W') (k : v9.ownBlock = some g7 ∨ W.heap.size ≤ g7) :
    RM w ob vL vS vn L T A fr (.slice (some ⟨g7, 0, none⟩) (rs.length + 1) c7) (rs ++ [x]) bxs W' := by
  have hkn : ∀ b ∈ v9.ownBlock.toList, Kind W b 22 := fun b hb => row_kind h.r9.row (by simpa using hb)
  have hz := h.u.size
  refine ⟨offrow h.out h.r9.row (by decide) u, h.lm.upd (off_row h.r9.row (by decide)) u, h.st.kd (off_row h.r9.row (by decide)) u, h.nn.upd u (RM.nk _ hkn (by decide) h.nn.row), fun r hr => ⟨(h.fx r hr).1.upd u (RM.nk _ hkn (by decide) (h.fx r hr).1), (h.fx r hr).2⟩, ⟨?_, fun g hg => ?_⟩, h.oz, fun x hx => ⟨offrow (h.bx x hx).1 h.r9.row (by decide) u, (h.bx x hx).2⟩, h.u.fresh u (fun b hb => .inr (h.r9.fresh b (by simpa using hb)))⟩
  · rw [List.length_append, List.length_singleton]; exact o
  · simp only [Value.ownBlock, Option.some.injEq] at hg
    subst hg
    rcases k with k | k
    · exact h.r9.fresh _ k
    · omega
end
end Trim
end Go.Proofs.Ytnmfihgdedifoaa
