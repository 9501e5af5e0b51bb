/- Walks through package wire: the writer. Conditions: none. -/
import Derived.Test.YtnljjkmmnkldcaaProg
import Derived.Test.YtnljjkmmnkldcaaWire
set_option linter.unusedVariables false
set_option linter.unusedSimpArgs false
set_option linter.unusedSectionVars false
open Go.RowKit
namespace Go.Proofs.Ytnljjkmmnkldcaa
open L
namespace Wire
theorem infoByte : (Try.prog.info? 5).map (fun i => (i.zero, i.size, i.bytes)) = some (some (.int .u8 0), 1, 1) := by kernel_rfl
theorem byts_append (xs ys : List Int) : byts (xs ++ ys) = byts xs ++ byts ys := by simp [byts]
theorem byts_length (xs : List Int) : (byts xs).length = xs.length := by simp [byts]
theorem byts_get {xs : List Int} {i : Nat} {x : Int} (h : xs[i]? = some x) : (byts xs)[i]? = some (.int .u8 x) := by simp [byts, h]
theorem byts_one (xs : List Int) : ∀ u ∈ byts xs, u.oneCell' = true := by
  intro u hu
  simp only [byts, List.mem_map] at hu
  obtain ⟨_, _, rfl⟩ := hu
  rfl
section
variable {w w' : World} {q : Nat} {bs : List Int} {S : List Nat}
/-- A copy of a slice of bytes: a new one. -/
def CloneT (n : Nat) (xs : List Int) (w : World) (e : Ending) (w' : World) : Prop :=
  ∃ a cap, e = .returned (.slice a n cap) ∧ OwnV w 5 1 (.slice a n cap) n (byts xs) w' ∧ Upd [] w w'
set_option maxRecDepth 100000 in
set_option maxHeartbeats 1000000 in
theorem Clone_calls {v : Value} {xs : List Int} (h : SL w 1 v xs.length (byts xs)) (hb : xs.length ≤ 70368744177664) : Calls Try.prog 41 #[v] w (CloneT xs.length xs w) := by
  obtain ⟨hl, a, cap, rfl, hc, hm, hnil, hcell⟩ := h
  have H : SL w 1 (.slice a xs.length cap) xs.length (byts xs) := ⟨hl, a, cap, rfl, hc, hm, hnil, hcell⟩
  have hnl := fun (w : World) (a : Option Addr) (n c : Nat) => Lib.run_eql_slice_nil (P := Try.prog) w 27 _ a n c 0 0 Try.underlying27
  cases a with
  | none =>
    have h0 : xs.length = 0 := by have := hnil rfl; omega
    have hx : xs = [] := List.eq_nil_of_length_eq_zero h0
    subst hx
    have hc0 : cap = 0 := hnil rfl
    subst hc0
    clear hl hcell H hnil h0
    go_enter Try.func41, Try.ntmps41
    go_wp2_with fail
    go_ret
    exact ⟨none, 0, rfl, OwnV.nil _ _ _ _, Upd.refl _ _⟩
  | some ad =>
    clear hl hcell hnil
    go_enter Try.func41, Try.ntmps41
    go_upto_region 3 with fail
    refine wp_region_lit ?_
    refine wpList_cutH 2 (fun K hK => ?_)
    simp only [List.take_succ_cons, List.take_zero]
    go_wp2_with fail
    refine Halt_.intro ?_; try simp only [List.drop_succ_cons, List.drop_zero]
    have g0 := owns_none (w := w) rfl 5
    have u0 := (Upd.refl [] w).alloc (.cells #[] 5)
    have H0 := H.upd u0 (by simp)
    have hs : (w.alloc (.cells #[] 5)).heap.size = w.heap.size + 1 := by simp
    generalize w.alloc (.cells #[] 5) = w0 at *
    refine wpList_appS rfl _ _ _ rfl 5 1 1 _ Try.underlying27 infoByte rfl (by decide) (.slice (some ⟨w.heap.size, 0, none⟩) 0 0) 0 [] rfl (owns_blk g0 rfl (by unfold maxLen; omega)) (.slice (some ad) xs.length cap) xs.length (byts xs) rfl H0 (byts_one _) (by unfold maxLen; omega) (by omega) ?_
    intro a1 cap1 w1 o1 u1 k1
    rw [Nat.zero_add, List.nil_append] at o1
    rw [Nat.zero_add] at k1 ⊢
    simp only [Act.put, List.setIfInBounds_toArray, List.set_cons_zero, List.set_cons_succ]
    have U1 : Upd [] w w1 := u0.fresh u1 (by simp [Value.ownBlock])
    go_wp2_with fail
    go_ret
    refine ⟨a1, cap1, rfl, ⟨o1, fun g hg => ?_⟩, U1⟩
    rcases k1 with k1 | k1 <;> rw [hg] at k1 <;> simp [Value.ownBlock] at k1 <;> omega
end
end Wire
end Go.Proofs.Ytnljjkmmnkldcaa
