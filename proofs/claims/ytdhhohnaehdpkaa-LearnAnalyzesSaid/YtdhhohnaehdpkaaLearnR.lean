/- Walks through package learn: the library's Reverse. Conditions: none. -/
import Derived.Test.YtdhhohnaehdpkaaLearnG
import Derived.Test.YtdhhohnaehdpkaaLib2
set_option linter.unusedVariables false
set_option linter.unusedSimpArgs false
set_option linter.unusedSectionVars false
open Go.RowKit
namespace Go.Proofs.Ytdhhohnaehdpkaa
open L
namespace Learn
open Trail Cla R01 R14 Go.Sort
theorem Reverse_calls {w0 w : World} {v : Value} {hs : List Int} (h : OwnV w0 3 1 v hs.length (ints hs) w) (hl : hs.length ≤ 1000000) :
    Calls Try.prog 40 #[v] w fun e w' => e = .returned (.tuple #[]) ∧ OwnV w0 3 1 v hs.length (ints hs.reverse) w' ∧ Upd v.ownBlock.toList w w' := by
  obtain ⟨hlen, hrow⟩ := h.row
  rcases hrow with ⟨h1, h2⟩ | ⟨g, cap, cur, rfl, h0, hg, hnc, hcm, hcs, htake⟩
  · have h0 : hs = [] := List.eq_nil_of_length_eq_zero h2
    subst h0 h1
    refine (Try.slices_Reverse_int_empty none 0 w).mono ?_
    rintro e w' ⟨rfl, rfl⟩
    exact ⟨rfl, h, Upd.refl _ _⟩
  · have hB : Blk w g cur.toList 3 := by unfold Blk; rw [Array.toArray_toList]; exact hg
    have hcl : hs.length ≤ cur.toList.length := by have := Array.length_toList (xs := cur); omega
    have htk : cur.toList.take hs.length = ints hs := by simpa using htake
    have hH : Holds (Value.int .i64) w g 0 hs.toArray := fun j hj => by
      simp only [List.size_toArray] at hj
      refine ⟨?_, hB.free _⟩
      rw [Nat.zero_add]
      have e1 : (ints hs)[j]? = some (Value.int .i64 (hs.toArray[j]!)) := by
        unfold ints
        rw [List.getElem?_map, List.getElem?_eq_getElem hj]
        simp [hj]
      refine hB.cell ?_
      rw [← htk, List.getElem?_take, if_pos hj] at e1
      exact e1
    refine (Try.slices_Reverse_int g 0 cap hs w hH (by omega)).mono ?_
    rintro e w' ⟨rfl, n, rfl⟩
    have hbs := blk_sorted (Value.int .i64) hB hs.reverse (by simpa using hcl) n #[]
    rw [grow_nil] at hbs
    have hmap : hs.reverse.map (Value.int .i64) = ints hs.reverse := rfl
    rw [hmap, List.length_reverse] at hbs
    refine ⟨rfl, ⟨⟨by rw [ints_length, List.length_reverse]; simp, .inr ⟨g, cap, (ints hs.reverse ++ cur.toList.drop hs.length).toArray, rfl, Nat.zero_le _, hbs.1, hnc, hcm, ?_, ?_⟩⟩, h.fresh⟩, by simpa [Value.ownBlock] using hbs.2⟩
    · simp [ints_length]; omega
    · rw [List.take_left' (by rw [ints_length, List.length_reverse]; simp)]
end Learn
end Go.Proofs.Ytdhhohnaehdpkaa
