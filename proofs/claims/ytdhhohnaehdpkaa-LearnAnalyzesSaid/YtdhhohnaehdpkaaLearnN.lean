/- The laws of learning: slices of slices with their blocks; the values of learnt clauses. Conditions: none. -/
import Derived.Test.YtdhhohnaehdpkaaLearnL
import Derived.Test.YtdhhohnaehdpkaaLearnQ
set_option linter.unusedVariables false
set_option linter.unusedSimpArgs false
set_option linter.unusedSectionVars false
open Go.RowKit
namespace Go.Proofs.Ytdhhohnaehdpkaa
open L
namespace Learn
open Trail Cla R01 R14
/-- The elements of a slice of slices, with their blocks. -/
theorem OwnL.cells {e : TypeId} {w0 w : World} {v : Value} {cs : List (List Int)} {F : List Nat} (h : OwnL e w0 v cs F w) : ∃ a cap, v = .slice a cs.length cap ∧ cs.length ≤ cap ∧ cap ≤ 9223372036854775807 ∧
    ∀ k, k < cs.length → ∃ g off ay capy, a = some ⟨g, off, none⟩ ∧ w.cell? ⟨g, off + k, none⟩ = some (.slice ay (cs.getD k []).length capy) ∧ SL w 1 (.slice ay (cs.getD k []).length capy) (cs.getD k []).length (ints (cs.getD k [])) ∧ (cs.getD k []).length ≤ capy ∧ capy ≤ 9223372036854775807 ∧ ∀ b, (Value.slice ay (cs.getD k []).length capy).ownBlock = some b → b ∈ F := by
  obtain ⟨vals, h1, h2⟩ := h.ex
  obtain ⟨hl, a, cap, rfl, q1, q2, q3, q4⟩ := h1.sl
  refine ⟨a, cap, rfl, q1, q2, fun k hk => ?_⟩
  rcases q4 with q4 | ⟨b, off, rfl, q4⟩
  · omega
  · have hg : cs[k]? = some (cs.getD k []) := by rw [List.getD_eq_getElem?_getD, List.getElem?_eq_getElem hk]; rfl
    obtain ⟨v, hv, hs, hf⟩ := h2 k _ hg
    obtain ⟨l1, ay, capy, rfl, r1, r2, _, _⟩ := id hs
    exact ⟨b, off, ay, capy, rfl, q4 k _ hv, hs, r1, r2, hf⟩
theorem exam_ok {L : List (List Int)} : ∀ {hs : List Int}, (∀ r ∈ hs, validErr (cOf L r) = 0) → examErr (hs.map (cOf L)) = 0
  | [], _ => rfl
  | r :: hs, h => by
    rw [List.map_cons, examErr, if_neg (by rw [h r (by simp)]; simp)]
    exact exam_ok (fun q hq => h q (by simp [hq]))
theorem Lrn.chainRes {L : List (List Int)} {vars : Nat} {es : Es} {cf g : Int} {d hs : List Int} (h : Lrn L vars es cf g d hs) : chainRes d (hs.map (cOf L)) = 0 := by
  unfold Cla.chainRes
  rw [if_neg (by rw [h.good.ok]; simp), if_neg (by rw [exam_ok (fun r hr => (h.rng r hr).2.2)]; simp)]
  exact h.chain
theorem Made8_calls {w : World} {v : Value} {es : Es} (h : SL w 2 v es.length (rows es.length (mvs es))) (hw : TWf 8 es) :
    Calls Try.prog 11 #[.int .i64 8, v] w fun e w' => ∃ b, e = .returned (.pointer (some ⟨b, 0, none⟩)) ∧ ∃ S, Tr w' b 8 es (decs es) S ∧ (∀ k ∈ S, w.heap.size ≤ k) ∧ Upd [] w w' := MadeL_calls (n := 8) h hw
theorem RTrail8_calls {w : World} {v : Value} {es : Es} (h : SL w 2 v es.length (rows es.length (mvs es))) (hw : TWf 8 es) :
    Calls Try.prog 12 #[.int .i64 8, v] w fun e w' => ∃ b, e = .returned (.pointer (some ⟨b, 0, none⟩)) ∧ ∃ S, Ref.Rf w' b 8 es S ∧ (∀ k ∈ S, w.heap.size ≤ k) ∧ Upd [] w w' := RTrail_calls (n := 8) h hw
theorem Made11_calls {w : World} {v : Value} {es : Es} (h : SL w 2 v es.length (rows es.length (mvs es))) (hw : TWf 11 es) :
    Calls Try.prog 11 #[.int .i64 11, v] w fun e w' => ∃ b, e = .returned (.pointer (some ⟨b, 0, none⟩)) ∧ ∃ S, Tr w' b 11 es (decs es) S ∧ (∀ k ∈ S, w.heap.size ≤ k) ∧ Upd [] w w' := MadeL_calls (n := 11) h hw
end Learn
end Go.Proofs.Ytdhhohnaehdpkaa
