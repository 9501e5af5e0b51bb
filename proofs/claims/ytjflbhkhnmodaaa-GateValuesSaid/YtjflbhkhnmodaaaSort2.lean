/- Walks through package clause: the closure of the sort, collected, Normal. Conditions: none. -/
import Derived.Test.YtjflbhkhnmodaaaSort
set_option linter.unusedVariables false
set_option linter.unusedSimpArgs false
set_option linter.unusedSectionVars false
open Go.RowKit
namespace Go.Proofs.Ytjflbhkhnmodaaa
open L
namespace Cla
open R01 R14 Go.Sort
section
variable {α : Type} [Inhabited α] {w : World} {g : Nat} {cur : List Value} {e : TypeId}
theorem putCells_list (enc : α → Value) (d : List α) (hd : d.length ≤ cur.length) : putCells enc 0 d.toArray cur.toArray = (d.map enc ++ cur.drop d.length).toArray := by
  apply Array.ext_getElem?
  intro k
  simp only [putCells, Array.getElem?_mapIdx, List.getElem?_toArray, List.size_toArray, Nat.zero_add, Nat.zero_le, true_and, Nat.sub_zero]
  by_cases hk : k < d.length
  · rw [List.getElem?_append_left (by simpa using hk), List.getElem?_map, List.getElem?_eq_getElem hk, List.getElem?_eq_getElem (show k < cur.length by omega)]
    simp [hk]
  · rw [List.getElem?_append_right (by simpa using hk), List.length_map, List.getElem?_drop, show d.length + (k - d.length) = k by omega]
    cases cur[k]? with
    | none => rfl
    | some x => simp [hk]
theorem blk_sorted (enc : α → Value) (h : Blk w g cur e) (d : List α) (hd : d.length ≤ cur.length) (n : Nat) (os : Array Obj) :
    Blk (grow (putRow enc (Sort.ahead w n) g 0 d.toArray) os) g (d.map enc ++ cur.drop d.length) e ∧ Upd [g] w (grow (putRow enc (Sort.ahead w n) g 0 d.toArray) os) := by
  have hb : (putRow enc (Sort.ahead w n) g 0 d.toArray).heap[g]? = some (.cells (d.map enc ++ cur.drop d.length).toArray e (0, 0)) := by
    unfold putRow mapBlock
    simp only [Array.getElem?_modify, if_true]
    have h' : (Sort.ahead w n).heap[g]? = some (.cells cur.toArray e (0, 0)) := h
    rw [h']
    simp only [Option.map_some, onCells]
    rw [putCells_list enc d hd]
  refine ⟨?_, rfl, rfl, rfl, by simp, fun k hk hn => ?_⟩
  · unfold Blk
    rw [heap_grow_old _ _ (by simpa using h.lt)]
    exact hb
  · rw [heap_grow_old _ _ (by simpa using hk)]
    unfold putRow mapBlock
    simp only [Array.getElem?_modify]
    rw [if_neg (by simp at hn; exact fun h => hn h.symm)]
    rfl
end
section
variable {w : World}
set_option maxHeartbeats 1000000 in
theorem Clo_calls (x y : Int) (hx : LitR x) (hy : LitR y) : Calls Try.prog 31 #[.int .i64 x, .int .i64 y] w fun e w' => e = .returned (.int .i64 (cfL x y)) ∧ ∃ o, w' = w.alloc o := by
  obtain ⟨hx1, hx2⟩ := hx
  obtain ⟨hy1, hy2⟩ := hy
  have HV := Lib.hid (show cfL x y = if Lib.compareInt (x.natAbs : Int) (y.natAbs : Int) ≠ 0 then Lib.compareInt (x.natAbs : Int) (y.natAbs : Int) else Lib.compareInt x y from rfl)
  have C1 := Lib.hid (fun w => Compare_calls (w := w) (x.natAbs : Int) (y.natAbs : Int))
  have C2 := Lib.hid (fun w => Compare_calls (w := w) x y)
  generalize Lib.compareInt (x.natAbs : Int) (y.natAbs : Int) = p at *
  generalize Lib.compareInt x y = q at *
  have B := Blk.new w [.int .i64 p, .int .i64 q] 3
  have O0 := Or_calls p q (SL.of_blk (pad := []) (k := 1) (n := 2) (cap := 2) (by simpa using B) rfl (Nat.le_refl _) (by unfold maxLen; omega))
  rw [← HV.out] at O0
  have O := Lib.hid O0
  clear B O0 HV
  generalize cfL x y = r at *
  go_enter Try.func31, Try.ntmps31
  go_wp2_with (first | (go_at_call 27; refine (var_calls _ (by omega) (by omega)).mono ?_; rintro e w' ⟨rfl, rfl⟩) | (go_at_call 33; (with_reducible refine (C1.out _).mono ?_); rintro e w' ⟨rfl, rfl⟩) | (go_at_call 33; (with_reducible refine (C2.out _).mono ?_); rintro e w' ⟨rfl, rfl⟩) | (go_at_call 32; refine O.out.mono ?_; rintro e w' ⟨rfl, rfl⟩))
  go_ret
  exact ⟨rfl, _, rfl⟩
theorem swoL : SWO (ltOf fun x y : LitN => cfL x.1 y.1) where
  irrefl x := by simp only [ltOf, decide_eq_false_iff_not, cf_lt]; exact lt3_irrefl _
  trans x y z h1 h2 := by simp only [ltOf, decide_eq_true_eq, cf_lt] at *; exact lt3_trans h1 h2
  ntrans x y z h1 h2 := by simp only [ltOf, decide_eq_false_iff_not, cf_lt] at *; exact lt3_ntrans h1 h2
theorem totL (x y : LitN) (h1 : ltOf (fun x y : LitN => cfL x.1 y.1) x y = false) (h2 : ltOf (fun x y : LitN => cfL x.1 y.1) y x = false) : x = y := by
  simp only [ltOf, decide_eq_false_iff_not, cf_lt] at *
  exact Subtype.ext (lt3_total h1 h2)
def toN (xs : List Int) (h : ∀ x ∈ xs, LitR x) : List LitN := xs.attach.map fun x => ⟨x.1, h x.1 x.2⟩
theorem toN_val (xs : List Int) (h : ∀ x ∈ xs, LitR x) : (toN xs h).map (·.1) = xs := by
  unfold toN
  rw [List.map_map]
  exact List.attach_map_subtype_val xs
theorem toN_enc (xs : List Int) (h : ∀ x ∈ xs, LitR x) : (toN xs h).map encL = ints xs := by
  have : (toN xs h).map encL = ((toN xs h).map (·.1)).map (Value.int .i64) := by rw [List.map_map]; rfl
  rw [this, toN_val]
  rfl
theorem toN_sort (xs : List Int) (h : ∀ x ∈ xs, LitR x) : ((toN xs h).mergeSort fun x y => !(ltOf (fun x y : LitN => cfL x.1 y.1)) y x).map encL = ints (srt xs) := by
  have e1 : ((toN xs h).mergeSort fun x y => !(ltOf (fun x y : LitN => cfL x.1 y.1)) y x).map (·.1) = srt xs := by
    have e0 := List.map_mergeSort (r := fun x y : LitN => !(ltOf (fun x y : LitN => cfL x.1 y.1)) y x) (s := leB) (f := fun x : LitN => x.1) (l := toN xs h) (fun a _ b _ => rfl)
    rw [e0, toN_val]
    rfl
  have : ∀ l : List LitN, l.map encL = (l.map (·.1)).map (Value.int .i64) := fun l => by rw [List.map_map]; rfl
  rw [this, e1]
  rfl
set_option maxRecDepth 100000 in
theorem Sort_calls {w0 : World} {a : Option Addr} {cap : Nat} {xs : List Int} (h : Own w0 (.slice a xs.length cap) xs w) (hr : ∀ x ∈ xs, LitR x) (hl : xs.length ≤ 1000000) :
    Calls Try.prog 30 #[.slice a xs.length cap, .func (.func 31) #[] #[]] w fun e w' => e = .returned (.tuple #[]) ∧ Own w0 (.slice a xs.length cap) (srt xs) w' := by
  have hsl := srt_length xs
  by_cases h0 : xs = []
  · subst h0
    have hS := Try.slices_SortFunc_none (α := Int) a cap (.func (.func 31) #[] #[]) w
    refine hS.mono ?_
    rintro e w' ⟨rfl, rfl⟩
    exact ⟨rfl, by rw [show srt [] = [] by simp [srt]]; exact h⟩
  · obtain ⟨hlen, hrow⟩ := h.row
    rcases hrow with ⟨_, h2⟩ | ⟨g, cap', cur, he, _, hg, hnc, hcm, hcs, htake⟩
    · exact absurd (List.eq_nil_of_length_eq_zero h2) h0
    · cases he
      have hB : Blk w g cur.toList 3 := by unfold Blk; rw [Array.toArray_toList]; exact hg
      have hcl : xs.length ≤ cur.toList.length := by have := Array.length_toList (xs := cur); omega
      have htk : cur.toList.take xs.length = ints xs := by simpa using htake
      have eg : ∀ args w, (callFunc 31 args).run Try.prog w = .ok (.enter 31 args) w := enters_of Try.func31 (by kernel_rfl) rfl
      have hNl : (toN xs hr).length = xs.length := by have := congrArg List.length (toN_val xs hr); simpa using this
      have hH : Holds encL w g 0 (toN xs hr).toArray := fun j hj => by
        simp only [List.size_toArray] at hj
        have hj' : j < xs.length := by omega
        refine ⟨?_, hB.free _⟩
        rw [Nat.zero_add]
        have e1 : (ints xs)[j]? = some (encL ((toN xs hr).toArray[j]!)) := by
          rw [← toN_enc xs hr, List.getElem?_map, List.getElem?_eq_getElem hj]
          simp [hj]
        refine hB.cell ?_
        rw [← htk, List.getElem?_take, if_pos hj'] at e1
        exact e1
      have hcmp : CmpLays1 Try.prog 31 #[] encL (fun x y : LitN => cfL x.1 y.1) g 0 (toN xs hr).toArray.size w := fun m os dk _ x y => by
        refine (Clo_calls (w := sortWorld encL w g 0 m dk os) x.1 y.1 x.2 y.2).mono ?_
        rintro e w' ⟨he, o, rfl⟩
        exact ⟨he, 0, #[o], by rw [alloc_eq_grow]; rfl⟩
      have hS := Try.slices_SortFunc_total encL (fun _ => rfl) (fun x y : LitN => cfL x.1 y.1) swoL 31 #[] g 0 cap (toN xs hr).toArray w eg hcmp hH hB.lt (by simp; omega) totL
      rw [show (toN xs hr).toArray.size = xs.length by simpa using hNl] at hS
      refine hS.mono ?_
      rintro e w' ⟨rfl, n, os, rfl⟩
      have hso := toN_sort xs hr
      generalize ((toN xs hr).toArray.toList.mergeSort fun x y => !(ltOf (fun x y : LitN => cfL x.1 y.1)) y x) = srtd at *
      have hsd : srtd.length = xs.length := by
        have := congrArg List.length hso
        simpa [ints, hsl] using this
      have hbs := blk_sorted encL hB srtd (by omega) n os
      rw [hso, hsd] at hbs
      refine ⟨rfl, ⟨by rw [ints_length, hsl]; simp, .inr ⟨g, cap, (ints (srt xs) ++ cur.toList.drop xs.length).toArray, by rw [hsl], Nat.zero_le _, hbs.1, by rw [hsl]; exact hnc, hcm, ?_, ?_⟩⟩, h.fresh, h.u.fresh hbs.2 (fun j hj => .inr (by simp at hj; subst hj; exact h.fresh _ rfl))⟩
      · simp [ints_length, hsl]; omega
      · rw [List.take_left' (by rw [ints_length]; simp)]
end
end Cla
end Go.Proofs.Ytjflbhkhnmodaaa
