/- Walks through package gate: Value. Conditions: none. -/
import Derived.Test.YtjflbhkhnmodaaaGateA
import Derived.Laws.EntriesVeiled
set_option linter.unusedVariables false
set_option linter.unusedSimpArgs false
set_option linter.unusedSectionVars false
open Go.RowKit
namespace Go.Proofs.Ytjflbhkhnmodaaa
open L
namespace Gate
def bt (bs : List Bool) (i : Nat) : Bool := bs.getD i false
/-- The value of a gate of a kind, by its inputs. -/
def gVal (k : Int) (bs : List Bool) : Bool :=
  if k = 0 then bt bs 0 else if k = 1 then bt bs 0 && bt bs 1 else if k = 2 then bt bs 0 || bt bs 1 else if k = 3 then bt bs 0 != bt bs 1
  else if k = 4 then (bt bs 0 && bt bs 1) || (!(bt bs 0) && bt bs 2) else if k = 5 then (bt bs 0 != bt bs 1) != bt bs 2
  else (bt bs 0 && bt bs 1) || (bt bs 0 && bt bs 2) || (bt bs 1 && bt bs 2)
def vOk (k : Int) (n : Nat) : Bool := kOk k && decide (n = ninp k)
def ValT (k : Int) (bs : List Bool) (w : World) (e : Ending) (w' : World) : Prop :=
  e = .returned (.tuple #[.bool (vOk k bs.length && gVal k bs), .int .i64 (if vOk k bs.length = true then 0 else 1)]) ∧ Upd [] w w'
section
variable {w : World}
set_option maxRecDepth 100000 in
set_option maxHeartbeats 4000000 in
theorem Clo0 {b0 cap g off : Nat} {a : Bool} (hb : w.cell? ⟨b0, 0, none⟩ = some (.slice (some ⟨g, off, none⟩) 1 cap)) (hq : 1 ≤ cap) (hr : cap ≤ 9223372036854775807) (h : ∀ j u, (bools [a])[j]? = some u → w.cell? ⟨g, off + j, none⟩ = some u) :
    Calls Try.prog 10 #[.pointer (some ⟨b0, 0, none⟩)] w fun e w' => e = .returned (.bool a) ∧ Upd [] w w' := by
  have e0 : w.cell? ⟨g, off, none⟩ = some (.bool a) := h 0 _ rfl
  clear h
  skip
  all_goals
    go_enter Try.func10, Try.ntmps10
    go_wp2_with fail
    go_ret
    exact ⟨rfl, Upd.refl _ _⟩
set_option maxRecDepth 100000 in
set_option maxHeartbeats 4000000 in
theorem Clo1 {b0 cap g off : Nat} {a b : Bool} (hb : w.cell? ⟨b0, 0, none⟩ = some (.slice (some ⟨g, off, none⟩) 2 cap)) (hq : 2 ≤ cap) (hr : cap ≤ 9223372036854775807) (h : ∀ j u, (bools [a, b])[j]? = some u → w.cell? ⟨g, off + j, none⟩ = some u) :
    Calls Try.prog 11 #[.pointer (some ⟨b0, 0, none⟩)] w fun e w' => e = .returned (.bool (a && b)) ∧ Upd [] w w' := by
  have e0 : w.cell? ⟨g, off, none⟩ = some (.bool a) := h 0 _ rfl
  have e1 := h 1 _ rfl
  clear h
  cases a <;> cases b
  all_goals
    go_enter Try.func11, Try.ntmps11
    go_wp2_with fail
    go_ret
    exact ⟨rfl, Upd.refl _ _⟩
set_option maxRecDepth 100000 in
set_option maxHeartbeats 4000000 in
theorem Clo2 {b0 cap g off : Nat} {a b : Bool} (hb : w.cell? ⟨b0, 0, none⟩ = some (.slice (some ⟨g, off, none⟩) 2 cap)) (hq : 2 ≤ cap) (hr : cap ≤ 9223372036854775807) (h : ∀ j u, (bools [a, b])[j]? = some u → w.cell? ⟨g, off + j, none⟩ = some u) :
    Calls Try.prog 12 #[.pointer (some ⟨b0, 0, none⟩)] w fun e w' => e = .returned (.bool (a || b)) ∧ Upd [] w w' := by
  have e0 : w.cell? ⟨g, off, none⟩ = some (.bool a) := h 0 _ rfl
  have e1 := h 1 _ rfl
  clear h
  cases a <;> cases b
  all_goals
    go_enter Try.func12, Try.ntmps12
    go_wp2_with fail
    go_ret
    exact ⟨rfl, Upd.refl _ _⟩
set_option maxRecDepth 100000 in
set_option maxHeartbeats 4000000 in
theorem Clo3 {b0 cap g off : Nat} {a b : Bool} (hb : w.cell? ⟨b0, 0, none⟩ = some (.slice (some ⟨g, off, none⟩) 2 cap)) (hq : 2 ≤ cap) (hr : cap ≤ 9223372036854775807) (h : ∀ j u, (bools [a, b])[j]? = some u → w.cell? ⟨g, off + j, none⟩ = some u) :
    Calls Try.prog 13 #[.pointer (some ⟨b0, 0, none⟩)] w fun e w' => e = .returned (.bool (a != b)) ∧ Upd [] w w' := by
  have e0 : w.cell? ⟨g, off, none⟩ = some (.bool a) := h 0 _ rfl
  have e1 := h 1 _ rfl
  clear h
  go_enter Try.func13, Try.ntmps13
  go_wp2_with fail
  refine wp_region_qx (by kernel_rfl) (by kernel_rfl) ?_
  repeat (go_big_quiet_step ((fail)))
  refine wpQuiet_nil ?_
  intro x
  go_wp2_with fail
  go_ret
  exact ⟨rfl, x.upd⟩
set_option maxRecDepth 100000 in
set_option maxHeartbeats 4000000 in
theorem Clo4 {b0 cap g off : Nat} {a b c : Bool} (hb : w.cell? ⟨b0, 0, none⟩ = some (.slice (some ⟨g, off, none⟩) 3 cap)) (hq : 3 ≤ cap) (hr : cap ≤ 9223372036854775807) (h : ∀ j u, (bools [a, b, c])[j]? = some u → w.cell? ⟨g, off + j, none⟩ = some u) :
    Calls Try.prog 14 #[.pointer (some ⟨b0, 0, none⟩)] w fun e w' => e = .returned (.bool ((a && b) || (!a && c))) ∧ Upd [] w w' := by
  have e0 : w.cell? ⟨g, off, none⟩ = some (.bool a) := h 0 _ rfl
  have e1 := h 1 _ rfl
  have e2 := h 2 _ rfl
  clear h
  cases a <;> cases b <;> cases c
  all_goals
    go_enter Try.func14, Try.ntmps14
    go_wp2_with fail
    go_ret
    exact ⟨rfl, Upd.refl _ _⟩
set_option maxRecDepth 100000 in
set_option maxHeartbeats 4000000 in
theorem Clo5 {b0 cap g off : Nat} {a b c : Bool} (hb : w.cell? ⟨b0, 0, none⟩ = some (.slice (some ⟨g, off, none⟩) 3 cap)) (hq : 3 ≤ cap) (hr : cap ≤ 9223372036854775807) (h : ∀ j u, (bools [a, b, c])[j]? = some u → w.cell? ⟨g, off + j, none⟩ = some u) :
    Calls Try.prog 15 #[.pointer (some ⟨b0, 0, none⟩)] w fun e w' => e = .returned (.bool ((a != b) != c)) ∧ Upd [] w w' := by
  have e0 : w.cell? ⟨g, off, none⟩ = some (.bool a) := h 0 _ rfl
  have e1 := h 1 _ rfl
  have e2 := h 2 _ rfl
  clear h
  go_enter Try.func15, Try.ntmps15
  go_wp2_with fail
  refine wp_region_qx (by kernel_rfl) (by kernel_rfl) ?_
  repeat (go_big_quiet_step ((fail)))
  refine wpQuiet_nil ?_
  intro x
  go_wp2_with fail
  go_ret
  exact ⟨rfl, x.upd⟩
set_option maxRecDepth 100000 in
set_option maxHeartbeats 4000000 in
theorem Clo6 {b0 cap g off : Nat} {a b c : Bool} (hb : w.cell? ⟨b0, 0, none⟩ = some (.slice (some ⟨g, off, none⟩) 3 cap)) (hq : 3 ≤ cap) (hr : cap ≤ 9223372036854775807) (h : ∀ j u, (bools [a, b, c])[j]? = some u → w.cell? ⟨g, off + j, none⟩ = some u) :
    Calls Try.prog 16 #[.pointer (some ⟨b0, 0, none⟩)] w fun e w' => e = .returned (.bool ((a && b) || (a && c) || (b && c))) ∧ Upd [] w w' := by
  have e0 : w.cell? ⟨g, off, none⟩ = some (.bool a) := h 0 _ rfl
  have e1 := h 1 _ rfl
  have e2 := h 2 _ rfl
  clear h
  cases a <;> cases b <;> cases c
  all_goals
    go_enter Try.func16, Try.ntmps16
    go_wp2_with fail
    go_ret
    exact ⟨rfl, Upd.refl _ _⟩
set_option maxRecDepth 100000 in
set_option maxHeartbeats 4000000 in
theorem Value0 {v : Value} {a : Bool} (h : SL w 1 v 1 (bools [a])) : Calls Try.prog 5 #[.int .i64 0, v] w (ValT 0 [a] w) := by
  obtain ⟨av, cap, rfl, q1, r1, hc⟩ := SL.elems h
  obtain ⟨g, off, rfl, k1⟩ := hc (by omega)
  have HC := Lib.hid k1
  clear h hc k1
  go_enter Try.func5, Try.ntmps5
  go_wp2_with (go_at_call 9; refine (inputs_calls 0).mono ?_; rintro e w' ⟨rfl, rfl⟩)
  have hU := (Upd.refl [] w).alloc (.cells #[.slice (some ⟨g, off, none⟩) 1 cap] 23)
  have hB := Blk.new w [.slice (some ⟨g, off, none⟩) 1 cap] 23
  refine (Clo0 ((hB.alloc _).cell rfl) q1 r1 (fun j u hj => (hU.alloc _).some (HC.out j u hj) (by simp))).mono ?_
  rintro e w3 ⟨rfl, u3⟩
  have HU := Lib.hid ((hU.alloc _).step u3)
  clear hU hB u3
  go_wp2_with fail
  go_ret2
  exact ⟨rfl, HU.out⟩
set_option maxRecDepth 100000 in
set_option maxHeartbeats 4000000 in
theorem Value1 {v : Value} {a b : Bool} (h : SL w 1 v 2 (bools [a, b])) : Calls Try.prog 5 #[.int .i64 1, v] w (ValT 1 [a, b] w) := by
  obtain ⟨av, cap, rfl, q1, r1, hc⟩ := SL.elems h
  obtain ⟨g, off, rfl, k1⟩ := hc (by omega)
  have HC := Lib.hid k1
  clear h hc k1
  go_enter Try.func5, Try.ntmps5
  go_wp2_with (go_at_call 9; refine (inputs_calls 1).mono ?_; rintro e w' ⟨rfl, rfl⟩)
  have hU := (Upd.refl [] w).alloc (.cells #[.slice (some ⟨g, off, none⟩) 2 cap] 23)
  have hB := Blk.new w [.slice (some ⟨g, off, none⟩) 2 cap] 23
  refine (Clo1 ((hB.alloc _).cell rfl) q1 r1 (fun j u hj => (hU.alloc _).some (HC.out j u hj) (by simp))).mono ?_
  rintro e w3 ⟨rfl, u3⟩
  have HU := Lib.hid ((hU.alloc _).step u3)
  clear hU hB u3
  go_wp2_with fail
  go_ret2
  exact ⟨rfl, HU.out⟩
set_option maxRecDepth 100000 in
set_option maxHeartbeats 4000000 in
theorem Value2 {v : Value} {a b : Bool} (h : SL w 1 v 2 (bools [a, b])) : Calls Try.prog 5 #[.int .i64 2, v] w (ValT 2 [a, b] w) := by
  obtain ⟨av, cap, rfl, q1, r1, hc⟩ := SL.elems h
  obtain ⟨g, off, rfl, k1⟩ := hc (by omega)
  have HC := Lib.hid k1
  clear h hc k1
  go_enter Try.func5, Try.ntmps5
  go_wp2_with (go_at_call 9; refine (inputs_calls 2).mono ?_; rintro e w' ⟨rfl, rfl⟩)
  have hU := (Upd.refl [] w).alloc (.cells #[.slice (some ⟨g, off, none⟩) 2 cap] 23)
  have hB := Blk.new w [.slice (some ⟨g, off, none⟩) 2 cap] 23
  refine (Clo2 ((hB.alloc _).cell rfl) q1 r1 (fun j u hj => (hU.alloc _).some (HC.out j u hj) (by simp))).mono ?_
  rintro e w3 ⟨rfl, u3⟩
  have HU := Lib.hid ((hU.alloc _).step u3)
  clear hU hB u3
  go_wp2_with fail
  go_ret2
  exact ⟨rfl, HU.out⟩
set_option maxRecDepth 100000 in
set_option maxHeartbeats 4000000 in
theorem Value3 {v : Value} {a b : Bool} (h : SL w 1 v 2 (bools [a, b])) : Calls Try.prog 5 #[.int .i64 3, v] w (ValT 3 [a, b] w) := by
  obtain ⟨av, cap, rfl, q1, r1, hc⟩ := SL.elems h
  obtain ⟨g, off, rfl, k1⟩ := hc (by omega)
  have HC := Lib.hid k1
  clear h hc k1
  go_enter Try.func5, Try.ntmps5
  go_wp2_with (go_at_call 9; refine (inputs_calls 3).mono ?_; rintro e w' ⟨rfl, rfl⟩)
  have hU := (Upd.refl [] w).alloc (.cells #[.slice (some ⟨g, off, none⟩) 2 cap] 23)
  have hB := Blk.new w [.slice (some ⟨g, off, none⟩) 2 cap] 23
  refine (Clo3 ((hB.alloc _).cell rfl) q1 r1 (fun j u hj => (hU.alloc _).some (HC.out j u hj) (by simp))).mono ?_
  rintro e w3 ⟨rfl, u3⟩
  have HU := Lib.hid ((hU.alloc _).step u3)
  clear hU hB u3
  go_wp2_with fail
  go_ret2
  exact ⟨rfl, HU.out⟩
set_option maxRecDepth 100000 in
set_option maxHeartbeats 4000000 in
theorem Value4 {v : Value} {a b c : Bool} (h : SL w 1 v 3 (bools [a, b, c])) : Calls Try.prog 5 #[.int .i64 4, v] w (ValT 4 [a, b, c] w) := by
  obtain ⟨av, cap, rfl, q1, r1, hc⟩ := SL.elems h
  obtain ⟨g, off, rfl, k1⟩ := hc (by omega)
  have HC := Lib.hid k1
  clear h hc k1
  go_enter Try.func5, Try.ntmps5
  go_wp2_with (go_at_call 9; refine (inputs_calls 4).mono ?_; rintro e w' ⟨rfl, rfl⟩)
  have hU := (Upd.refl [] w).alloc (.cells #[.slice (some ⟨g, off, none⟩) 3 cap] 23)
  have hB := Blk.new w [.slice (some ⟨g, off, none⟩) 3 cap] 23
  refine (Clo4 ((hB.alloc _).cell rfl) q1 r1 (fun j u hj => (hU.alloc _).some (HC.out j u hj) (by simp))).mono ?_
  rintro e w3 ⟨rfl, u3⟩
  have HU := Lib.hid ((hU.alloc _).step u3)
  clear hU hB u3
  go_wp2_with fail
  go_ret2
  exact ⟨rfl, HU.out⟩
set_option maxRecDepth 100000 in
set_option maxHeartbeats 4000000 in
theorem Value5 {v : Value} {a b c : Bool} (h : SL w 1 v 3 (bools [a, b, c])) : Calls Try.prog 5 #[.int .i64 5, v] w (ValT 5 [a, b, c] w) := by
  obtain ⟨av, cap, rfl, q1, r1, hc⟩ := SL.elems h
  obtain ⟨g, off, rfl, k1⟩ := hc (by omega)
  have HC := Lib.hid k1
  clear h hc k1
  go_enter Try.func5, Try.ntmps5
  go_wp2_with (go_at_call 9; refine (inputs_calls 5).mono ?_; rintro e w' ⟨rfl, rfl⟩)
  have hU := (Upd.refl [] w).alloc (.cells #[.slice (some ⟨g, off, none⟩) 3 cap] 23)
  have hB := Blk.new w [.slice (some ⟨g, off, none⟩) 3 cap] 23
  refine (Clo5 ((hB.alloc _).cell rfl) q1 r1 (fun j u hj => (hU.alloc _).some (HC.out j u hj) (by simp))).mono ?_
  rintro e w3 ⟨rfl, u3⟩
  have HU := Lib.hid ((hU.alloc _).step u3)
  clear hU hB u3
  go_wp2_with fail
  go_ret2
  exact ⟨by cases a <;> cases b <;> cases c <;> rfl, HU.out⟩
set_option maxRecDepth 100000 in
set_option maxHeartbeats 4000000 in
theorem Value6 {v : Value} {a b c : Bool} (h : SL w 1 v 3 (bools [a, b, c])) : Calls Try.prog 5 #[.int .i64 6, v] w (ValT 6 [a, b, c] w) := by
  obtain ⟨av, cap, rfl, q1, r1, hc⟩ := SL.elems h
  obtain ⟨g, off, rfl, k1⟩ := hc (by omega)
  have HC := Lib.hid k1
  clear h hc k1
  go_enter Try.func5, Try.ntmps5
  go_wp2_with (go_at_call 9; refine (inputs_calls 6).mono ?_; rintro e w' ⟨rfl, rfl⟩)
  have hU := (Upd.refl [] w).alloc (.cells #[.slice (some ⟨g, off, none⟩) 3 cap] 23)
  have hB := Blk.new w [.slice (some ⟨g, off, none⟩) 3 cap] 23
  refine (Clo6 ((hB.alloc _).cell rfl) q1 r1 (fun j u hj => (hU.alloc _).some (HC.out j u hj) (by simp))).mono ?_
  rintro e w3 ⟨rfl, u3⟩
  have HU := Lib.hid ((hU.alloc _).step u3)
  clear hU hB u3
  go_wp2_with fail
  go_ret2
  exact ⟨rfl, HU.out⟩
set_option maxRecDepth 100000 in
set_option maxHeartbeats 4000000 in
theorem Value_calls {v : Value} {k : Int} {bs : List Bool} (h : SL w 1 v bs.length (bools bs)) : Calls Try.prog 5 #[.int .i64 k, v] w (ValT k bs w) := by
  by_cases hk : 0 ≤ k ∧ k ≤ 6
  · by_cases hn : bs.length = ninp k
    · rcases (by omega : k = 0 ∨ k = 1 ∨ k = 2 ∨ k = 3 ∨ k = 4 ∨ k = 5 ∨ k = 6) with rfl | rfl | rfl | rfl | rfl | rfl | rfl
      · obtain ⟨a, rfl⟩ : ∃ a, bs = [a] := by
          match bs, hn with
          | [a], _ => exact ⟨a, rfl⟩
        exact Value0 h
      · obtain ⟨a, b, rfl⟩ : ∃ a b, bs = [a, b] := by
          match bs, hn with
          | [a, b], _ => exact ⟨a, b, rfl⟩
        exact Value1 h
      · obtain ⟨a, b, rfl⟩ : ∃ a b, bs = [a, b] := by
          match bs, hn with
          | [a, b], _ => exact ⟨a, b, rfl⟩
        exact Value2 h
      · obtain ⟨a, b, rfl⟩ : ∃ a b, bs = [a, b] := by
          match bs, hn with
          | [a, b], _ => exact ⟨a, b, rfl⟩
        exact Value3 h
      · obtain ⟨a, b, c, rfl⟩ : ∃ a b c, bs = [a, b, c] := by
          match bs, hn with
          | [a, b, c], _ => exact ⟨a, b, c, rfl⟩
        exact Value4 h
      · obtain ⟨a, b, c, rfl⟩ : ∃ a b c, bs = [a, b, c] := by
          match bs, hn with
          | [a, b, c], _ => exact ⟨a, b, c, rfl⟩
        exact Value5 h
      · obtain ⟨a, b, c, rfl⟩ : ∃ a b c, bs = [a, b, c] := by
          match bs, hn with
          | [a, b, c], _ => exact ⟨a, b, c, rfl⟩
        exact Value6 h
    · have hb : ((bs.length : Int) != (ninp k : Int)) = true := by simp; omega
      have HV := Lib.hid (show vOk k bs.length = false by unfold vOk; rw [decide_eq_false hn]; simp)
      have HK := Lib.hid (show kOk k = true by unfold kOk; rw [decide_eq_true_eq]; exact hk)
      obtain ⟨av, cap, rfl, q1, r1, _⟩ := SL.elems h
      clear h hn hk
      have HU := Lib.hid ((Upd.refl [] w).alloc (.cells #[.slice av bs.length cap] 23))
      go_enter Try.func5, Try.ntmps5
      go_wp2_with (go_at_call 9; refine (inputs_calls k).mono ?_; rintro e w' ⟨rfl, rfl⟩; rw [HK.out])
      go_ret2
      exact ⟨by rw [HV.out]; rfl, HU.out⟩
  · have HV := Lib.hid (show vOk k bs.length = false by unfold vOk kOk; rw [decide_eq_false hk]; rfl)
    have HK := Lib.hid (show kOk k = false by unfold kOk; rw [decide_eq_false_iff_not]; exact hk)
    obtain ⟨av, cap, rfl, q1, r1, _⟩ := SL.elems h
    clear h hk
    have HU := Lib.hid ((Upd.refl [] w).alloc (.cells #[.slice av bs.length cap] 23))
    go_enter Try.func5, Try.ntmps5
    go_wp2_with (go_at_call 9; refine (inputs_calls k).mono ?_; rintro e w' ⟨rfl, rfl⟩; rw [HK.out])
    go_ret2
    exact ⟨by rw [HV.out]; rfl, HU.out⟩
end
end Gate
end Go.Proofs.Ytjflbhkhnmodaaa
