/- Walks through package trail: New, Grow, Decide, Imply, Lits. Conditions: none. -/
import Derived.Test.YtdhhohnaehdpkaaTrailD
set_option linter.unusedVariables false
set_option linter.unusedSimpArgs false
set_option linter.unusedSectionVars false
open Go.RowKit
namespace Go.Proofs.Ytdhhohnaehdpkaa
open L
namespace Trail
section
variable {w : World} {b vars : Nat} {es : Es} {now : Int} {S : List Nat}

/-- The error of an assignment, and what is on the trail behind it. -/
def putErr (vars : Nat) (es : Es) (lit reason : Int) : Int := if isLit vars lit = true then (if reason < -1 then 1 else if pos es lit.natAbs = 0 then 0 else 8) else 1
def putEs (vars : Nat) (es : Es) (lit reason : Int) : Es := if putErr vars es lit reason = 0 then es ++ [(lit, reason)] else es

theorem tval_zero {lit : Int} (hl : isLit vars lit = true) : tval vars es lit = 0 ↔ pos es lit.natAbs = 0 := by
  unfold tval
  rw [if_pos hl]
  by_cases hp : pos es lit.natAbs = 0
  · simp [hp]
  · rw [if_neg hp]
    constructor
    · intro h; split at h <;> omega
    · intro h; exact absurd h hp
theorem decs_one (es : Es) (lit : Int) : decs (es ++ [(lit, -1)]) = decs es + 1 := by simp [decs_append, decs]
theorem decs_zero (es : Es) (lit : Int) {reason : Int} (h : 0 ≤ reason) : decs (es ++ [(lit, reason)]) = decs es := by
  have : ¬ reason < 0 := by omega
  simp [decs_append, decs, this]

theorem Decide_calls (h : Tr w b vars es (decs es) S) (lit : Int) :
    Calls Try.prog 20 #[.pointer (some ⟨b, 0, none⟩), .int .i64 lit] w fun e w' => e = .returned (.int .i64 (putErr vars es lit (-1))) ∧
      ∃ S', Tr w' b vars (putEs vars es lit (-1)) (decs (putEs vars es lit (-1))) S' ∧ Upd S w w' ∧ ∀ k ∈ S', k ∈ S ∨ w.heap.size ≤ k := by
  have hlen := h.wf.len
  have hv := h.wf.max
  have hd := decs_le es
  by_cases hl : isLit vars lit = true
  · have hz := tval_zero (es := es) hl
    by_cases hp : pos es lit.natAbs = 0
    · have HT := Lib.hid (hz.2 hp)
      have hE : putErr vars es lit (-1) = 0 := by simp [putErr, hl, hp]
      have hS : putEs vars es lit (-1) = es ++ [(lit, -1)] := by simp [putEs, hE]
      rw [hS, hE]
      obtain ⟨c2, f2⟩ := h.cell2
      clear hz hS hE
      go_enter Try.func20, Try.ntmps20
      go_wp2_with (go_at_call 48; refine (isLit_calls h lit).mono ?_; rintro e w' ⟨rfl, rfl⟩)
      refine (Value_calls h lit).mono ?_
      rintro e w1 ⟨rfl, hu⟩
      rw [HT.out]
      have h1 := h.upd hu (by simp)
      replace c2 := hu.some c2 (by simp)
      obtain ⟨_, f2⟩ := h1.cell2
      go_wp2_with fail
      have h2 := h1.setNow (decs es + 1)
      refine (assign_calls h2 lit (-1) hl hp (by omega) (by rw [decs_one]; omega)).mono ?_
      rintro e w2 ⟨rfl, S', hT, hU, hk⟩
      go_wp2_with fail
      go_ret
      have e1 : (decs es : Int) + 1 = decs (es ++ [(lit, -1)]) := by rw [decs_one]; omega
      rw [e1] at hT
      refine ⟨rfl, S', hT, ((hu.nil).set (.inl h.mem_b) _).trans hU, fun k hk' => ?_⟩
      have := hu.size
      rcases hk k hk' with h | h
      · exact .inl h
      · simp at h; right; omega
    · have HT := Lib.hid (fun h => hp (hz.1 h) : ¬ tval vars es lit = 0)
      have hE : putErr vars es lit (-1) = 8 := by simp [putErr, hl, hp]
      have hS : putEs vars es lit (-1) = es := by simp [putEs, hE]
      rw [hS, hE]
      clear hz hS hE
      go_enter Try.func20, Try.ntmps20
      go_wp2_with (go_at_call 48; refine (isLit_calls h lit).mono ?_; rintro e w' ⟨rfl, rfl⟩)
      refine (Value_calls h lit).mono ?_
      rintro e w1 ⟨rfl, hu⟩
      generalize tval vars es lit = q at *
      have hq : (q != 0) = true := by simpa using HT.out
      go_wp2_with fail
      go_ret
      exact ⟨rfl, S, h.upd hu (by simp), hu.nil, fun k hk => .inl hk⟩
  · have hE : putErr vars es lit (-1) = 1 := by simp [putErr, hl]
    have hS : putEs vars es lit (-1) = es := by simp [putEs, hE]
    rw [hS, hE]
    clear hS hE
    go_enter Try.func20, Try.ntmps20
    go_wp2_with (go_at_call 48; refine (isLit_calls h lit).mono ?_; rintro e w' ⟨rfl, rfl⟩)
    go_ret
    exact ⟨rfl, S, h, Upd.refl _ _, fun k hk => .inl hk⟩
theorem Imply_calls (h : Tr w b vars es (decs es) S) (lit reason : Int) (hr : reason ≤ 9223372036854775807) :
    Calls Try.prog 34 #[.pointer (some ⟨b, 0, none⟩), .int .i64 lit, .int .i64 reason] w fun e w' => e = .returned (.int .i64 (if reason < 0 then 1 else putErr vars es lit reason)) ∧
      ∃ S', Tr w' b vars (if reason < 0 then es else putEs vars es lit reason) (decs (if reason < 0 then es else putEs vars es lit reason)) S' ∧ Upd S w w' ∧ ∀ k ∈ S', k ∈ S ∨ w.heap.size ≤ k := by
  have hlen := h.wf.len
  have hv := h.wf.max
  have hd := decs_le es
  by_cases hr0 : reason < 0
  · simp only [hr0, if_true]
    by_cases hl : isLit vars lit = true
    all_goals
      go_enter Try.func34, Try.ntmps34
      go_wp2_with (go_at_call 48; refine (isLit_calls h lit).mono ?_; rintro e w' ⟨rfl, rfl⟩)
      go_ret
      exact ⟨rfl, S, h, Upd.refl _ _, fun k hk => .inl hk⟩
  · simp only [hr0, if_false]
    have hr1 : ¬ reason < -1 := by omega
    by_cases hl : isLit vars lit = true
    · have hz := tval_zero (es := es) hl
      by_cases hp : pos es lit.natAbs = 0
      · have HT := Lib.hid (hz.2 hp)
        have hE : putErr vars es lit reason = 0 := by simp [putErr, hl, hp, hr1]
        have hS : putEs vars es lit reason = es ++ [(lit, reason)] := by simp [putEs, hE]
        rw [hS, hE]
        clear hz hS hE
        go_enter Try.func34, Try.ntmps34
        go_wp2_with (go_at_call 48; refine (isLit_calls h lit).mono ?_; rintro e w' ⟨rfl, rfl⟩)
        refine (Value_calls h lit).mono ?_
        rintro e w1 ⟨rfl, hu⟩
        rw [HT.out]
        have h1 := h.upd hu (by simp)
        go_wp2_with fail
        refine (assign_calls h1 lit reason hl hp (by omega) (by rw [decs_zero _ _ (by omega)])).mono ?_
        rintro e w2 ⟨rfl, S', hT, hU, hk⟩
        go_wp2_with fail
        go_ret
        have e1 : decs es = decs (es ++ [(lit, reason)]) := by rw [decs_zero _ _ (by omega)]
        rw [e1] at hT
        refine ⟨rfl, S', hT, hu.nil.trans hU, fun k hk' => ?_⟩
        have := hu.size
        rcases hk k hk' with h | h
        · exact .inl h
        · right; omega
      · have HT := Lib.hid (fun h => hp (hz.1 h) : ¬ tval vars es lit = 0)
        have hE : putErr vars es lit reason = 8 := by simp [putErr, hl, hp, hr1]
        have hS : putEs vars es lit reason = es := by simp [putEs, hE]
        rw [hS, hE]
        clear hz hS hE
        go_enter Try.func34, Try.ntmps34
        go_wp2_with (go_at_call 48; refine (isLit_calls h lit).mono ?_; rintro e w' ⟨rfl, rfl⟩)
        refine (Value_calls h lit).mono ?_
        rintro e w1 ⟨rfl, hu⟩
        generalize tval vars es lit = q at *
        have hq : (q != 0) = true := by simpa using HT.out
        go_wp2_with fail
        go_ret
        exact ⟨rfl, S, h.upd hu (by simp), hu.nil, fun k hk => .inl hk⟩
    · have hE : putErr vars es lit reason = 1 := by simp [putErr, hl]
      have hS : putEs vars es lit reason = es := by simp [putEs, hE]
      rw [hS, hE]
      clear hS hE
      go_enter Try.func34, Try.ntmps34
      go_wp2_with (go_at_call 48; refine (isLit_calls h lit).mono ?_; rintro e w' ⟨rfl, rfl⟩)
      go_ret
      exact ⟨rfl, S, h, Upd.refl _ _, fun k hk => .inl hk⟩

theorem New_bad (n : Int) (w : World) (hn : n < 0 ∨ 4194304 < n) : Calls Try.prog 33 #[.int .i64 n] w fun e w' => e = .returned (.tuple #[.pointer none, .int .i64 5]) ∧ w = w' := by
  by_cases h0 : n < 0
  · go_enter Try.func33, Try.ntmps33
    go_wp2_with fail
    go_ret2
    exact ⟨rfl, rfl⟩
  · have h1 : 4194304 < n := by omega
    clear hn
    go_enter Try.func33, Try.ntmps33
    go_wp2_with fail
    go_ret2
    exact ⟨rfl, rfl⟩
theorem infoI32 : (Try.prog.info? 21).map (fun i => (i.zero, i.size, i.bytes)) = some (some (.int .i32 0), 1, 4) := by kernel_rfl
theorem New_calls (n : Nat) (w : World) (hn : n ≤ 4194304) : Calls Try.prog 33 #[.int .i64 n] w fun e w' => ∃ b S, e = .returned (.tuple #[.pointer (some ⟨b, 0, none⟩), .int .i64 0]) ∧ Tr w' b n [] 0 S ∧ Upd [] w w' ∧ ∀ k ∈ S, w.heap.size ≤ k := by
  go_enter Try.func33, Try.ntmps33
  go_wp2_with (at_make; refine wpList_mk rfl _ _ _ rfl 21 1 4 _ Try.underlying84 infoI32 rfl (by decide) .i64 .i64 (n + 1) (n + 1) (n + 1) rfl rfl (by omega) (by omega) (by omega) (by omega) ?_)
  have hz : rows (n + 1) (fun _ => [Value.int .i32 0]) = places n [] := by
    rw [rows_one]
    unfold places
    apply List.ext_getElem (by simp)
    intro i h1 h2
    simp [pos]
  rw [hz]
  go_ret2
  have P0 := (Blk.new w (places n []) 21).alloc (.cells #[.slice (some ⟨w.heap.size, 0, none⟩) (n + 1) (n + 1), .slice none 0 0, .int .i64 0] 87)
  have B0 := Blk.new (w.alloc (.cells (places n []).toArray 21)) [.slice (some ⟨w.heap.size, 0, none⟩) (n + 1) (n + 1), .slice none 0 0, .int .i64 0] 87
  rw [World.size_alloc] at B0
  refine ⟨w.heap.size + 1, [w.heap.size + 1, w.heap.size], rfl, ⟨⟨hn, by simp, by simp, by simp⟩, w.heap.size, n + 1, .slice none 0 0, [], rfl, B0, by simpa using P0, by simp, by unfold maxLen; omega, World.ownsRow_nil _ _ _ _, by omega, by simp [Value.ownBlock], by simp [Value.ownBlock]⟩, (by iterate 25 (first | exact Upd.refl _ _ | assumption | refine Upd.alloc ?_ _ | refine Upd.drew ?_ | refine Upd.drewN ?_ _ | refine Upd.dl ?_ | refine Upd.step ?_ (Ext.upd _) | refine Upd.nil ?_ | skip)), by intro k hk; simp at hk; omega⟩
theorem copy_pad {vars n : Nat} {es : Es} (h : vars ≤ n) (hw : ∀ e ∈ es, e.1.natAbs ≤ vars) : places n es = places vars es ++ (List.replicate (n - vars) (Value.int .i32 0)) := by
  apply List.ext_getElem?
  intro v
  by_cases hv : v ≤ vars
  · rw [places_get (by omega), List.getElem?_append_left (by rw [places_length]; omega), places_get hv]
  · rw [List.getElem?_append_right (by rw [places_length]; omega), places_length, List.getElem?_replicate]
    by_cases hn : v ≤ n
    · rw [places_get hn, if_pos (by omega), pos_zero.2 (fun e he => by have := hw e he; omega)]; rfl
    · rw [if_neg (by omega), List.getElem?_eq_none]; rw [places_length]; omega
end
end Trail
end Go.Proofs.Ytdhhohnaehdpkaa
