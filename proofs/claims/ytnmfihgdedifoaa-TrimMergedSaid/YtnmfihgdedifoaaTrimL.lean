/- Walks through package trim: Premises, errors. Conditions: none. -/
import Derived.Test.YtnmfihgdedifoaaTrimK
set_option linter.unusedVariables false
set_option linter.unusedSimpArgs false
set_option linter.unusedSectionVars false
open Go.RowKit Go.Shelf Go.Maps
namespace Go.Proofs.Ytnmfihgdedifoaa
open L
namespace Trim
set_option maxRecDepth 100000 in
set_option maxHeartbeats 4000000 in
theorem Prem_none {w : World} {v : Value} {p : PrfD} (h : PrL w v p) (hc : check p = 0) {s : Int} (hs : s < 0 ∨ (p.steps.length : Int) ≤ s) :
    Calls Try.prog 13 #[v, .int .i64 s] w fun e w' => e = .returned (.tuple #[.slice none 0 0, .int .i64 7]) ∧ Upd [] w w' := by
  obtain ⟨vl, vs, rfl, hL, hS⟩ := h
  obtain ⟨al, cl, rfl, ql, rl⟩ := hL.form
  obtain ⟨a2, c2, rfl, qs, rs, _⟩ := hS.at_
  have HV := Lib.hid (fun (w' : World) (u : Upd [] w w') => show Calls Try.prog 31 #[.agg #[.slice al p.lemmas.length cl, .slice a2 p.steps.length c2]] w' fun e w'' => e = .returned (.int .i64 0) ∧ Upd [] w' w'' from by
    have h := valid_calls (w := w') (p := p) ⟨_, _, rfl, hL.ext u, hS.ext u⟩
    rw [hc] at h; exact h)
  clear hL hS hc
  have b1 := Blk.new w [.slice al p.lemmas.length cl, .slice a2 p.steps.length c2] 30
  have u1 := (Upd.refl [] w).alloc (.cells #[.slice al p.lemmas.length cl, .slice a2 p.steps.length c2] 30)
  have c0 := b1.cell (i := 0) rfl
  have c1 := b1.cell (i := 1) rfl
  have hb : ((0 : Int) != 0) = false := rfl
  have hcs : s < 0 ∨ ((0 : Int) ≤ s ∧ (p.steps.length : Int) ≤ s) := by omega
  clear hs
  rcases hcs with hs | ⟨hs0, hs⟩
  all_goals
    go_enter Try.func13, Try.ntmps13
    go_wp2_with (first | (go_at_call 31; (with_reducible refine (HV.out _ u1).mono ?_); rintro e _ ⟨rfl, u3⟩; obtain ⟨x3, rfl⟩ := Ext.of u3))
    go_ret2
    exact ⟨rfl, u1.step x3.upd⟩
set_option maxRecDepth 100000 in
set_option maxHeartbeats 4000000 in
theorem Prem_bad {w : World} {v : Value} {p : PrfD} (h : PrL w v p) (hc : check p ≠ 0) {s : Int} :
    Calls Try.prog 13 #[v, .int .i64 s] w fun e w' => e = .returned (.tuple #[.slice none 0 0, .int .i64 (check p)]) ∧ Upd [] w w' := by
  obtain ⟨vl, vs, rfl, hL, hS⟩ := h
  obtain ⟨al, cl, rfl, ql, rl⟩ := hL.form
  obtain ⟨a2, c2, rfl, qs, rs, _⟩ := hS.at_
  have HV := Lib.hid (fun (w' : World) (u : Upd [] w w') => valid_calls (w := w') (p := p) ⟨_, _, rfl, hL.ext u, hS.ext u⟩)
  have hb : (check p != 0) = true := by simpa using hc
  generalize check p = z at *
  clear hL hS hc
  have b1 := Blk.new w [.slice al p.lemmas.length cl, .slice a2 p.steps.length c2] 30
  have u1 := (Upd.refl [] w).alloc (.cells #[.slice al p.lemmas.length cl, .slice a2 p.steps.length c2] 30)
  have c0 := b1.cell (i := 0) rfl
  have c1 := b1.cell (i := 1) rfl
  go_enter Try.func13, Try.ntmps13
  go_wp2_with (first | (go_at_call 31; (with_reducible refine (HV.out _ u1).mono ?_); rintro e _ ⟨rfl, u3⟩; obtain ⟨x3, rfl⟩ := Ext.of u3))
  go_ret2
  exact ⟨rfl, u1.step x3.upd⟩
end Trim
end Go.Proofs.Ytnmfihgdedifoaa
