/- The laws of learning in plain words: clauses that no hint names and later entries of the trail do not matter. No program is named. Conditions: none. -/
import Derived.Test.YtdhhohnaehdpkaaLearnQ
set_option linter.unusedVariables false
set_option linter.unusedSimpArgs false
set_option linter.unusedSectionVars false
open Go.RowKit
namespace Go.Proofs.Ytdhhohnaehdpkaa
open L R01 R14
namespace Learn
open Cla Trail
section
variable {vars : Nat} {es es' ys : Es} {L L' : List (List Int)} {g : Int}
theorem isLit_up {v v' : Nat} (h : v ≤ v') {y : Int} (hl : isLit v y = true) : isLit v' y = true := by
  unfold isLit at *
  simp only [decide_eq_true_eq] at *
  omega
theorem tval_up {v v' : Nat} (h : v ≤ v') {y : Int} (ht : tval v es y = -1) : tval v' es y = -1 := by
  have h1 := (tval_neg ht).1
  unfold tval at *
  rw [if_pos h1] at ht
  rw [if_pos (isLit_up h h1)]
  exact ht
theorem TWf.up {v v' : Nat} (h : v ≤ v') (hv : v' ≤ 4194304) (hw : TWf v es) : TWf v' es := ⟨hv, fun e he => by have := hw.lit e he; omega, hw.rsn, hw.nodup⟩
theorem Mv.up {v v' : Nat} (h : v ≤ v') (hv : v' ≤ 4194304) (hm : Mv L v es) : Mv L v' es :=
  ⟨TWf.up h hv hm.wf, fun k hk h0 => by
    obtain ⟨h1, h2, h3, h4, h5⟩ := hm.fits k hk h0
    exact ⟨h1, h2, h3, h4, fun y hy hn => ⟨tval_up h (h5 y hy hn).1, (h5 y hy hn).2⟩⟩⟩
theorem pos_app {v : Nat} (h : pos es v ≠ 0) : pos (es ++ ys) v = pos es v := by
  unfold pos at *
  cases hf : es.findIdx? (fun e => e.1.natAbs == v) with
  | none => rw [hf] at h; simp at h
  | some i =>
    rw [List.findIdx?_append, hf]
    rfl
theorem lvl_app {y : Int} (h : pos es y.natAbs ≠ 0) : lvl (es ++ ys) y = lvl es y := by
  unfold lvl
  rw [pos_app h, lev_append ys (pos_at h).2]
theorem tval_app {y : Int} (ht : tval vars es y = -1) : tval vars (es ++ ys) y = -1 := by
  obtain ⟨h1, h2, h3⟩ := tval_neg ht
  unfold tval
  rw [if_pos h1, pos_app h2, if_neg h2, at_append ys (pos_at h2).2, h3]
  unfold isLit at h1
  simp only [decide_eq_true_eq] at h1
  rw [if_neg (by omega)]
theorem many_app {c : List Int} (hc : ∀ y ∈ c, tval vars es y = -1) : many (es ++ ys) g c = many es g c := by
  unfold many
  congr 1
  refine List.filter_congr fun y hy => ?_
  rw [lvl_app (tval_neg (hc y hy)).2.1]
theorem top_app {c : List Int} (hc : ∀ y ∈ c, tval vars es y = -1) : top (es ++ ys) c = top es c := by
  unfold top
  suffices ∀ m : Int, c.foldl (fun m x => max m (lvl (es ++ ys) x)) m = c.foldl (fun m x => max m (lvl es x)) m from this 0
  induction c with
  | nil => exact fun m => rfl
  | cons x c ih =>
    intro m
    simp only [List.foldl_cons]
    rw [lvl_app (tval_neg (hc x (by simp))).2.1]
    exact ih (fun y hy => hc y (by simp [hy])) _
theorem second_app {c : List Int} (hc : ∀ y ∈ c, tval vars es y = -1) : second (es ++ ys) g c = second es g c := by
  unfold second
  suffices ∀ m : Int, c.foldl (fun m x => if lvl (es ++ ys) x ≠ g then max m (lvl (es ++ ys) x) else m) m = c.foldl (fun m x => if lvl es x ≠ g then max m (lvl es x) else m) m from this 0
  induction c with
  | nil => exact fun m => rfl
  | cons x c ih =>
    intro m
    simp only [List.foldl_cons]
    rw [lvl_app (tval_neg (hc x (by simp))).2.1]
    exact ih (fun y hy => hc y (by simp [hy])) _
theorem go_sub : ∀ (n : Nat) (c h : List Int) {d hs : List Int}, go L vars es g n c h = (0, d, hs) → ∀ r ∈ h, r ∈ hs
  | 0, c, h, d, hs, H, r, hr => by rw [go] at H; cases H; exact hr
  | n + 1, c, h, d, hs, H, r, hr => by
    rw [go] at H
    split at H
    · split at H
      · exact go_sub n _ _ H r (by simp [hr])
      · cases H
    · exact go_sub n _ _ H r hr
theorem go_same (hw : TWf vars es) (hv : vars ≤ 65536) {d hs : List Int} (hh : ∀ r ∈ hs, cOf L' r = cOf L r ∧ r < L'.length) : ∀ (n : Nat) (c h : List Int), n ≤ es.length → Good vars es c → go L vars es g n c h = (0, d, hs) → go L' vars (es ++ ys) g n c h = (0, d, hs)
  | 0, c, h, _, _, H => by rw [go] at H ⊢; exact H
  | n + 1, c, h, hn, hc, H => by
    have hk : n < es.length := by omega
    have ea : at_ (es ++ ys) n = at_ es n := at_append ys hk
    have el : lev (es ++ ys) n = lev es n := lev_append ys hk
    have eu : Used (es ++ ys) g c n ↔ Used es g c n := by
      unfold Used
      rw [ea, el, many_app hc.no]
    by_cases hu : Used es g c n
    · rw [go, if_pos hu] at H
      by_cases hf : Fits L vars es n
      · rw [if_pos hf] at H
        have hr := hh (at_ es n).2 (go_sub n _ _ H _ (by simp))
        have er : rsn L' (es ++ ys) n = rsn L es n := by unfold rsn; rw [ea]; exact hr.1
        have hf' : Fits L' vars (es ++ ys) n := by
          obtain ⟨h1, h2, h3, h4, h5⟩ := hf
          unfold Fits
          rw [er, ea]
          refine ⟨h1, hr.2, h3, h4, fun y hy hne => ?_⟩
          obtain ⟨h6, h7⟩ := h5 y hy hne
          exact ⟨tval_app h6, by rw [pos_app (tval_neg h6).2.1]; exact h7⟩
        rw [go, if_pos (eu.2 hu), if_pos hf', er, ea]
        exact go_same hw hv hh n _ _ (by omega) (res_ok hf.2.2.1 hf.2.2.2.1 hc hu.1 (fun y hy hne => (hf.2.2.2.2 y hy hne).1) hv).2.1 H
      · rw [if_neg hf] at H
        cases H
    · rw [go, if_neg hu] at H
      rw [go, if_neg (fun h => hu (eu.1 h))]
      exact go_same hw hv hh n _ _ (by omega) hc H
theorem go_past {c h : List Int} (hx : ∀ x ∈ ys, -x.1 ∉ c) : ∀ (m : Nat), m ≤ ys.length → go L vars (es ++ ys) g (es.length + m) c h = go L vars (es ++ ys) g es.length c h
  | 0, _ => rfl
  | m + 1, hm => by
    have hu : ¬ Used (es ++ ys) g c (es.length + m) := fun h => by
      refine hx (at_ (es ++ ys) (es.length + m)) ?_ h.1
      unfold at_
      rw [List.getD_eq_getElem?_getD, List.getElem?_append_right (by omega), Nat.add_sub_cancel_left, List.getElem?_eq_getElem (by omega)]
      exact List.getElem_mem _
    rw [show es.length + (m + 1) = (es.length + m) + 1 by omega, go, if_neg hu]
    exact go_past hx m (by omega)
/-- The result stays the same. -/
theorem anL_others {k : Nat} {d hs : List Int} {s : Int} (hw : TWf vars es) (hv : vars ≤ 65536) (hk : k < L.length) (hl : L'.length = L.length) (ha : anL L vars es k = (0, d, s, hs)) (hgd : ∀ y ∈ d, tval vars es y = -1)
    (hh : ∀ r ∈ hs, cOf L' r = cOf L r) (hr : ∀ r ∈ hs, r < L.length) (hx : ∀ x ∈ ys, pos es x.1.natAbs = 0) : anL L' vars (es ++ ys) k = (0, d, s, hs) := by
  have h1 := anL_in (L := L) (vars := vars) (es := es) hk
  have h2 := anL_in (L := L') (vars := vars) (es := es ++ ys) (k := k) (by omega)
  have e0 : ∀ M : List (List Int), M.getD k [] = cOf M k := fun M => by unfold cOf; rw [Int.toNat_natCast]
  rw [e0] at h1 h2
  rw [ha] at h1
  by_cases hva : validErr (cOf L k) ≠ 0
  · rw [if_pos hva] at h1
    simp only [Prod.mk.injEq] at h1
    exact absurd h1.1.symm hva
  rw [if_neg hva] at h1
  by_cases hno : ∃ x ∈ cOf L k, tval vars es x ≠ -1
  · rw [if_pos hno] at h1
    simp at h1
  rw [if_neg hno] at h1
  have hgc : Good vars es (cOf L k) := ⟨by simpa using hva, fun x hx => Classical.byContradiction fun h => hno ⟨x, hx, h⟩⟩
  generalize hgo : go L vars es (top es (cOf L k)) es.length (cOf L k) [(k : Int)] = q at h1
  obtain ⟨q1, q2, q3⟩ := q
  simp only at h1
  by_cases hq : q1 ≠ 0
  · rw [if_pos hq] at h1
    simp at h1
  rw [if_neg hq] at h1
  simp only [Prod.mk.injEq, true_and] at h1
  obtain ⟨rfl, rfl, rfl⟩ := h1
  obtain rfl : q1 = 0 := by simpa using hq
  have hc : cOf L' k = cOf L k := hh k (go_sub _ _ _ hgo _ (by simp))
  have hsame := go_same (ys := ys) (L' := L') hw hv (fun r hr' => ⟨hh r hr', by have := hr r hr'; omega⟩) es.length (cOf L k) [(k : Int)] (Nat.le_refl _) hgc hgo
  have hpast := go_past (L := L') (vars := vars) (es := es) (ys := ys) (g := top es (cOf L k)) (c := cOf L k) (h := [(k : Int)]) (fun x hx' hm => by
    have := (tval_neg (hgc.no _ hm)).2.1
    rw [Int.natAbs_neg] at this
    exact this (hx x hx')) ys.length (Nat.le_refl _)
  rw [h2, hc, if_neg hva, if_neg, top_app hgc.no, List.length_append, hpast, hsame, if_neg (by simp), second_app hgd]
  rintro ⟨x, hx', hn⟩
  exact hn (tval_app (hgc.no x hx'))
end
end Learn
end Go.Proofs.Ytdhhohnaehdpkaa
