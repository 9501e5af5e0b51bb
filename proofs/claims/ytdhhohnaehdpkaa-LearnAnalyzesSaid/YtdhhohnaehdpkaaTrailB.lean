/- Walks through package trail: the functions that only read. Conditions: none. -/
import Derived.Test.YtdhhohnaehdpkaaProg
import Derived.Test.YtdhhohnaehdpkaaTrailA
import Derived.Test.YtdhhohnaehdpkaaReg
set_option linter.unusedVariables false
set_option linter.unusedSimpArgs false
set_option linter.unusedSectionVars false
open Go.RowKit
namespace Go.Proofs.Ytdhhohnaehdpkaa
open L
namespace Trail
section
variable {w : World} {b vars : Nat} {es : Es} {now : Int} {S : List Nat}

theorem Vars_calls (h : Tr w b vars es now S) : Calls Try.prog 53 #[.pointer (some ⟨b, 0, none⟩)] w fun e w' => e = .returned (.int .i64 vars) ∧ w = w' := by
  obtain ⟨h0, pb, pcap, lv, pad, rfl, h1, h2, h3, h4, h5, h6⟩ := h
  have hv := h0.max
  have c0 := h1.cell (i := 0) rfl
  clear h0 h1 h2 h3 h4 h5 h6
  go_enter Try.func53, Try.ntmps53
  go_wp2
  go_ret
  exact ⟨ret_int (by omega), rfl⟩
theorem variable_calls (n : Int) (w : World) (hn : -9223372036854775808 < n ∧ n ≤ 9223372036854775807) :
    Calls Try.prog 61 #[.int .i64 n] w fun e w' => e = .returned (.int .i64 (n.natAbs : Int)) ∧ w = w' := by
  go_enter Try.func61, Try.ntmps61
  go_wp2
  all_goals (go_ret; exact ⟨ret_int (by omega), rfl⟩)
theorem isLit_calls (h : Tr w b vars es now S) (lit : Int) : Calls Try.prog 48 #[.pointer (some ⟨b, 0, none⟩), .int .i64 lit] w fun e w' => e = .returned (.bool (isLit vars lit)) ∧ w = w' := by
  have hv := h.wf.max
  by_cases h0 : lit = 0
  · subst h0
    go_enter Try.func48, Try.ntmps48
    go_wp2_with (go_at_call 53; refine (Vars_calls h).mono ?_; rintro e w' ⟨rfl, rfl⟩)
    go_ret
    exact ⟨ret_bool (by simp [isLit]), rfl⟩
  · rcases (by omega : (-(vars : Int) ≤ lit ∧ lit ≤ vars) ∨ (-(vars : Int) ≤ lit ∧ ¬ lit ≤ vars) ∨ (¬ -(vars : Int) ≤ lit ∧ lit ≤ vars)) with ⟨h1, h2⟩ | ⟨h1, h2⟩ | ⟨h1, h2⟩
    all_goals
      go_enter Try.func48, Try.ntmps48
      go_wp2_with (go_at_call 53; refine (Vars_calls h).mono ?_; rintro e w' ⟨rfl, rfl⟩)
      go_ret
      exact ⟨ret_bool (by simp [isLit, h0, h1, h2]), rfl⟩
theorem Value_calls (h : Tr w b vars es now S) (lit : Int) : Calls Try.prog 29 #[.pointer (some ⟨b, 0, none⟩), .int .i64 lit] w fun e w' => e = .returned (.int .i64 (tval vars es lit)) ∧ Upd [] w w' := by
  have hv := h.wf.max
  by_cases hl : isLit vars lit = true
  · have hl2 := hl
    simp only [isLit, decide_eq_true_eq] at hl2
    obtain ⟨g0, g1, g2⟩ := hl2
    have H := h
    obtain ⟨h0, pb, pcap, lv, pad, rfl, h1, h2, h3, h4, h5, h6⟩ := h
    have c0 := h1.cell (i := 0) rfl
    have c1 := h1.cell (i := 1) rfl
    have q0 : w.cell? ⟨pb, lit.natAbs, none⟩ = some (.int .i32 (pos es lit.natAbs)) := h2.cell (by rw [List.getElem?_append_left (by rw [places_length]; omega)]; exact places_get (by omega))
    have hp := pos_le es lit.natAbs
    have hlen := h0.len
    have hpa := @pos_at es lit.natAbs
    by_cases hk : pos es lit.natAbs = 0
    · have HT := Lib.hid (show tval vars es lit = 0 by simp [tval, hl, hk])
      rw [hk] at q0
      clear h0 h1 h2 h3 h4 h5 h6 hk hp hpa
      go_enter Try.func29, Try.ntmps29
      go_wp2_with (go_at_call 48; refine (isLit_calls H _).mono ?_; rintro e w' ⟨rfl, rfl⟩)
      refine wp_region_qx (by kernel_rfl) (by kernel_rfl) ?_
      repeat (go_big_quiet_step (((go_at_call 61; exact qs (variable_calls _ _ (by omega))))))
      refine wpQuiet_nil ?_
      intro x
      go_wp2
      go_ret
      exact ⟨ret_int HT.out.symm, x.upd⟩
    · obtain ⟨p, hp1⟩ : ∃ p, pos es lit.natAbs = p + 1 := ⟨pos es lit.natAbs - 1, by omega⟩
      have HT := Lib.hid (show tval vars es lit = if (at_ es p).1 = lit then 1 else -1 by simp [tval, hl, hp1])
      rw [hp1] at q0 hp
      obtain ⟨g, cap, rfl, _, _, hlc⟩ := list_cells h5 (by omega)
      obtain ⟨l0, _, _⟩ := hlc p (by omega)
      clear h0 h1 h2 h3 h4 h5 h6 hk hpa hlc hp1
      generalize (at_ es p).1 = y at *
      generalize es.length = n at *
      by_cases hy : y = lit
      · have HY := Lib.hid hy
        have hy1 : ((y : Int) == lit) = true := by simpa using hy
        clear hy
        go_enter Try.func29, Try.ntmps29
        go_wp2_with (go_at_call 48; refine (isLit_calls H _).mono ?_; rintro e w' ⟨rfl, rfl⟩)
        refine wp_region_qx (by kernel_rfl) (by kernel_rfl) ?_
        repeat (go_big_quiet_step (((go_at_call 61; exact qs (variable_calls _ _ (by omega))))))
        refine wpQuiet_nil ?_
        intro x
        go_wp2
        go_ret
        exact ⟨ret_int (by rw [HT.out, if_pos HY.out]), x.upd⟩
      · have HY := Lib.hid hy
        have hy1 : ((y : Int) == lit) = false := by simpa using hy
        clear hy
        go_enter Try.func29, Try.ntmps29
        go_wp2_with (go_at_call 48; refine (isLit_calls H _).mono ?_; rintro e w' ⟨rfl, rfl⟩)
        refine wp_region_qx (by kernel_rfl) (by kernel_rfl) ?_
        repeat (go_big_quiet_step (((go_at_call 61; exact qs (variable_calls _ _ (by omega))))))
        refine wpQuiet_nil ?_
        intro x
        go_wp2
        go_ret
        exact ⟨ret_int (by rw [HT.out, if_neg HY.out]), x.upd⟩
  · go_enter Try.func29, Try.ntmps29
    go_wp2_with (go_at_call 48; refine (isLit_calls h _).mono ?_; rintro e w' ⟨rfl, rfl⟩)
    go_ret
    exact ⟨ret_int (by simp [tval, hl]), Upd.refl _ _⟩
def assigned (vars : Nat) (es : Es) (v : Int) : Bool := decide (0 < v) && tval vars es v != 0
theorem isAssigned_calls (h : Tr w b vars es now S) (v : Int) : Calls Try.prog 60 #[.pointer (some ⟨b, 0, none⟩), .int .i64 v] w fun e w' => e = .returned (.bool (assigned vars es v)) ∧ Upd [] w w' := by
  by_cases h0 : 0 < v
  · go_enter Try.func60, Try.ntmps60
    go_wp2_with (go_at_call 29; refine (Value_calls h _).mono ?_; rintro e w' ⟨rfl, hu⟩)
    go_ret
    exact ⟨ret_bool (by simp [assigned, h0]), ‹_›⟩
  · go_enter Try.func60, Try.ntmps60
    go_wp2_with (go_at_call 29; refine (Value_calls h _).mono ?_; rintro e w' ⟨rfl, hu⟩)
    go_ret
    exact ⟨ret_bool (by simp [assigned]; omega), Upd.refl _ _⟩
theorem assigned_pos {vars : Nat} {es : Es} {v : Int} (h : assigned vars es v = true) : ∃ p, pos es v.natAbs = p + 1 ∧ p < es.length ∧ 0 < v ∧ v ≤ vars ∧ p + 1 ≤ es.length := by
  simp only [assigned, Bool.and_eq_true, decide_eq_true_eq, bne_iff_ne, ne_eq, tval] at h
  obtain ⟨h1, h2⟩ := h
  by_cases hl : isLit vars v = true
  · rw [if_pos hl] at h2
    by_cases hp : pos es v.natAbs = 0
    · rw [if_pos hp] at h2; exact absurd rfl h2
    · have := pos_at hp
      simp only [isLit, decide_eq_true_eq] at hl
      exact ⟨pos es v.natAbs - 1, by omega, this.2, h1, by omega, by omega⟩
  · rw [if_neg hl] at h2; exact absurd rfl h2
def levelOf (vars : Nat) (es : Es) (v : Int) : Int := if assigned vars es v = true then lev es (pos es v.natAbs - 1) else 0
def reasonOf (vars : Nat) (es : Es) (v : Int) : Int := if assigned vars es v = true then (at_ es (pos es v.natAbs - 1)).2 else 0
def noneOf (vars : Nat) (es : Es) (v : Int) : Int := if assigned vars es v = true then 0 else 7
theorem Level_calls (h : Tr w b vars es now S) (v : Int) : Calls Try.prog 28 #[.pointer (some ⟨b, 0, none⟩), .int .i64 v] w fun e w' => e = .returned (.tuple #[.int .i64 (levelOf vars es v), .int .i64 (noneOf vars es v)]) ∧ Upd [] w w' := by
  have hv := h.wf.max
  have H := h
  by_cases ha : assigned vars es v = true
  · obtain ⟨p, hp, hpl, g1, g2, g3⟩ := assigned_pos ha
    have HT := Lib.hid (show levelOf vars es v = lev es p by simp [levelOf, ha, hp])
    have HN := Lib.hid (show noneOf vars es v = 0 by simp [noneOf, ha])
    obtain ⟨h0, pb, pcap, lv, pad, rfl, h1, h2, h3, h4, h5, h6⟩ := h
    have hlen := h0.len
    have hn : v.toNat = v.natAbs := by omega
    have c0 := h1.cell (i := 0) rfl
    have c1 := h1.cell (i := 1) rfl
    have q0 : w.cell? ⟨pb, v.toNat, none⟩ = some (.int .i32 (pos es v.natAbs)) := h2.cell (by rw [List.getElem?_append_left (by rw [places_length]; omega), hn]; exact places_get (by omega))
    obtain ⟨g, cap, rfl, _, _, hlc⟩ := list_cells h5 (by omega)
    obtain ⟨_, l0, _⟩ := hlc p (by omega)
    rw [hp] at q0
    clear h0 h1 h2 h3 h4 h5 h6 hlc hn hp
    generalize lev es p = y at *
    go_enter Try.func28, Try.ntmps28
    go_wp2_with (go_at_call 60; refine (isAssigned_calls H _).mono ?_; rintro e _ ⟨rfl, hu⟩; obtain ⟨x, rfl⟩ := Ext.of hu)
    refine wp_region_qx (by kernel_rfl) (by kernel_rfl) ?_
    repeat (go_big_quiet_step ((fail)))
    refine wpQuiet_nil ?_
    intro x
    go_wp2
    go_ret2
    exact ⟨ret_tup2 (by rw [HT.out]; rfl) (by rw [HN.out]; rfl), (by iterate 25 (first | exact Upd.refl _ _ | assumption | refine Upd.alloc ?_ _ | refine Upd.drew ?_ | refine Upd.drewN ?_ _ | refine Upd.dl ?_ | refine Upd.step ?_ (Ext.upd _) | refine Upd.nil ?_ | skip))⟩
  · go_enter Try.func28, Try.ntmps28
    go_wp2_with (go_at_call 60; refine (isAssigned_calls H _).mono ?_; rintro e _ ⟨rfl, hu⟩; obtain ⟨x, rfl⟩ := Ext.of hu)
    go_ret2
    exact ⟨by simp [levelOf, noneOf, ha], (by iterate 25 (first | exact Upd.refl _ _ | assumption | refine Upd.alloc ?_ _ | refine Upd.drew ?_ | refine Upd.drewN ?_ _ | refine Upd.dl ?_ | refine Upd.step ?_ (Ext.upd _) | refine Upd.nil ?_ | skip))⟩
theorem Reason_calls (h : Tr w b vars es now S) (v : Int) : Calls Try.prog 68 #[.pointer (some ⟨b, 0, none⟩), .int .i64 v] w fun e w' => e = .returned (.tuple #[.int .i64 (reasonOf vars es v), .int .i64 (noneOf vars es v)]) ∧ Upd [] w w' := by
  have hv := h.wf.max
  have H := h
  by_cases ha : assigned vars es v = true
  · obtain ⟨p, hp, hpl, g1, g2, g3⟩ := assigned_pos ha
    have HT := Lib.hid (show reasonOf vars es v = (at_ es p).2 by simp [reasonOf, ha, hp])
    have HN := Lib.hid (show noneOf vars es v = 0 by simp [noneOf, ha])
    obtain ⟨h0, pb, pcap, lv, pad, rfl, h1, h2, h3, h4, h5, h6⟩ := h
    have hlen := h0.len
    have hn : v.toNat = v.natAbs := by omega
    have c0 := h1.cell (i := 0) rfl
    have c1 := h1.cell (i := 1) rfl
    have q0 : w.cell? ⟨pb, v.toNat, none⟩ = some (.int .i32 (pos es v.natAbs)) := h2.cell (by rw [List.getElem?_append_left (by rw [places_length]; omega), hn]; exact places_get (by omega))
    obtain ⟨g, cap, rfl, _, _, hlc⟩ := list_cells h5 (by omega)
    obtain ⟨_, _, l0⟩ := hlc p (by omega)
    rw [hp] at q0
    clear h0 h1 h2 h3 h4 h5 h6 hlc hn hp
    generalize (at_ es p).2 = y at *
    go_enter Try.func68, Try.ntmps68
    go_wp2_with (go_at_call 60; refine (isAssigned_calls H _).mono ?_; rintro e _ ⟨rfl, hu⟩; obtain ⟨x, rfl⟩ := Ext.of hu)
    refine wp_region_qx (by kernel_rfl) (by kernel_rfl) ?_
    repeat (go_big_quiet_step ((fail)))
    refine wpQuiet_nil ?_
    intro x
    go_wp2
    go_ret2
    exact ⟨ret_tup2 (by rw [HT.out]; rfl) (by rw [HN.out]; rfl), (by iterate 25 (first | exact Upd.refl _ _ | assumption | refine Upd.alloc ?_ _ | refine Upd.drew ?_ | refine Upd.drewN ?_ _ | refine Upd.dl ?_ | refine Upd.step ?_ (Ext.upd _) | refine Upd.nil ?_ | skip))⟩
  · go_enter Try.func68, Try.ntmps68
    go_wp2_with (go_at_call 60; refine (isAssigned_calls H _).mono ?_; rintro e _ ⟨rfl, hu⟩; obtain ⟨x, rfl⟩ := Ext.of hu)
    go_ret2
    exact ⟨by simp [reasonOf, noneOf, ha], (by iterate 25 (first | exact Upd.refl _ _ | assumption | refine Upd.alloc ?_ _ | refine Upd.drew ?_ | refine Upd.drewN ?_ _ | refine Upd.dl ?_ | refine Upd.step ?_ (Ext.upd _) | refine Upd.nil ?_ | skip))⟩
end
end Trail
end Go.Proofs.Ytdhhohnaehdpkaa
