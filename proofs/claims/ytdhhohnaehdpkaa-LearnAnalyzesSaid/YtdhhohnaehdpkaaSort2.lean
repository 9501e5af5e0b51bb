/- Walks through package clause: the closure of the sort, collected, Normal. Conditions: none. -/
import Derived.Test.YtdhhohnaehdpkaaSort
set_option linter.unusedVariables false
set_option linter.unusedSimpArgs false
set_option linter.unusedSectionVars false
open Go.RowKit
namespace Go.Proofs.Ytdhhohnaehdpkaa
open L
namespace Cla
open R01 R14 Go.Sort
section
variable {α : Type} [Inhabited α] {w : World} {g : Nat} {cur : List Value} {e : TypeId}
theorem putCells_list (enc : α → Value) (d : List α) (hd : d.length ≤ cur.length) : putCells enc 0 d.toArray cur.toArray = (d.map enc ++ cur.drop d.length).toArray := by
  apply Array.ext_getElem?
  intro k
  simp only [putCells, Array.getElem?_mapIdx, List.getElem?_toArray, List.size_toArray, Nat.zero_add, Nat.zero_le, true_and, Nat.sub_zero]
  by_cases hk : k < d.length
  · rw [List.getElem?_append_left (by simpa using hk), List.getElem?_map, List.getElem?_eq_getElem hk, List.getElem?_eq_getElem (show k < cur.length by omega)]
    simp [hk]
  · rw [List.getElem?_append_right (by simpa using hk), List.length_map, List.getElem?_drop, show d.length + (k - d.length) = k by omega]
    cases cur[k]? with
    | none => rfl
    | some x => simp [hk]
theorem blk_sorted (enc : α → Value) (h : Blk w g cur e) (d : List α) (hd : d.length ≤ cur.length) (n : Nat) (os : Array Obj) :
    Blk (grow (putRow enc (Sort.ahead w n) g 0 d.toArray) os) g (d.map enc ++ cur.drop d.length) e ∧ Upd [g] w (grow (putRow enc (Sort.ahead w n) g 0 d.toArray) os) := by
  have hb : (putRow enc (Sort.ahead w n) g 0 d.toArray).heap[g]? = some (.cells (d.map enc ++ cur.drop d.length).toArray e (0, 0)) := by
    unfold putRow mapBlock
    simp only [Array.getElem?_modify, if_true]
    have h' : (Sort.ahead w n).heap[g]? = some (.cells cur.toArray e (0, 0)) := h
    rw [h']
    simp only [Option.map_some, onCells]
    rw [putCells_list enc d hd]
  refine ⟨?_, rfl, rfl, rfl, by simp, fun k hk hn => ?_⟩
  · unfold Blk
    rw [heap_grow_old _ _ (by simpa using h.lt)]
    exact hb
  · rw [heap_grow_old _ _ (by simpa using hk)]
    unfold putRow mapBlock
    simp only [Array.getElem?_modify]
    rw [if_neg (by simp at hn; exact fun h => hn h.symm)]
    rfl
end
section
variable {w : World}
theorem swoL : SWO (ltOf fun x y : LitN => cfL x.1 y.1) where
  irrefl x := by simp only [ltOf, decide_eq_false_iff_not, cf_lt]; exact lt3_irrefl _
  trans x y z h1 h2 := by simp only [ltOf, decide_eq_true_eq, cf_lt] at *; exact lt3_trans h1 h2
  ntrans x y z h1 h2 := by simp only [ltOf, decide_eq_false_iff_not, cf_lt] at *; exact lt3_ntrans h1 h2
theorem totL (x y : LitN) (h1 : ltOf (fun x y : LitN => cfL x.1 y.1) x y = false) (h2 : ltOf (fun x y : LitN => cfL x.1 y.1) y x = false) : x = y := by
  simp only [ltOf, decide_eq_false_iff_not, cf_lt] at *
  exact Subtype.ext (lt3_total h1 h2)
def toN (xs : List Int) (h : ∀ x ∈ xs, LitR x) : List LitN := xs.attach.map fun x => ⟨x.1, h x.1 x.2⟩
theorem toN_val (xs : List Int) (h : ∀ x ∈ xs, LitR x) : (toN xs h).map (·.1) = xs := by
  unfold toN
  rw [List.map_map]
  exact List.attach_map_subtype_val xs
theorem toN_enc (xs : List Int) (h : ∀ x ∈ xs, LitR x) : (toN xs h).map encL = ints xs := by
  have : (toN xs h).map encL = ((toN xs h).map (·.1)).map (Value.int .i64) := by rw [List.map_map]; rfl
  rw [this, toN_val]
  rfl
theorem toN_sort (xs : List Int) (h : ∀ x ∈ xs, LitR x) : ((toN xs h).mergeSort fun x y => !(ltOf (fun x y : LitN => cfL x.1 y.1)) y x).map encL = ints (srt xs) := by
  have e1 : ((toN xs h).mergeSort fun x y => !(ltOf (fun x y : LitN => cfL x.1 y.1)) y x).map (·.1) = srt xs := by
    have e0 := List.map_mergeSort (r := fun x y : LitN => !(ltOf (fun x y : LitN => cfL x.1 y.1)) y x) (s := leB) (f := fun x : LitN => x.1) (l := toN xs h) (fun a _ b _ => rfl)
    rw [e0, toN_val]
    rfl
  have : ∀ l : List LitN, l.map encL = (l.map (·.1)).map (Value.int .i64) := fun l => by rw [List.map_map]; rfl
  rw [this, e1]
  rfl
end
end Cla
end Go.Proofs.Ytdhhohnaehdpkaa
