/- Walks through package trim: valid; the reference's Check. Conditions: none. -/
import Derived.Test.YtnmfihgdedifoaaTrimA
set_option linter.unusedVariables false
set_option linter.unusedSimpArgs false
set_option linter.unusedSectionVars false
open Go.RowKit
namespace Go.Proofs.Ytnmfihgdedifoaa
open L
namespace Trim
section
variable {w w' : World} {v : Value}
theorem any_snoc {l : List Int} {f : Int → Bool} {k : Nat} {x : Int} (hx : l[k]? = some x) (h : (l.take k).any f = false) (hf : f x = false) : (l.take (k + 1)).any f = false := by
  obtain ⟨hk, rfl⟩ := List.getElem?_eq_some_iff.1 hx
  rw [List.take_add_one, List.getElem?_eq_getElem hk, List.any_append, h]
  simp [hf]
theorem any_hit {l : List Int} {f : Int → Bool} {k : Nat} {x : Int} (hx : l[k]? = some x) (hf : f x = true) : l.any f = true := List.any_eq_true.2 ⟨x, List.mem_of_getElem? hx, hf⟩
/-- A slice of ints, its cells. -/
theorem RowI.cells {xs : List Int} (h : RowI w v xs) : ∃ a cap, v = .slice a xs.length cap ∧ xs.length ≤ cap ∧ cap ≤ 9223372036854775807 ∧ ∀ (k : Nat) (x : Int), xs[k]? = some x → ∃ g, a = some ⟨g, 0, none⟩ ∧ w.cell? ⟨g, k, none⟩ = some (.int .i64 x) := by
  obtain ⟨_, a, cap, rfl, q, r, _, hc⟩ := SL.of_owns h
  unfold maxLen at r
  refine ⟨a, cap, rfl, q, by omega, fun k x hx => ?_⟩
  have hl := (List.getElem?_eq_some_iff.1 hx).1
  rcases h.2 with ⟨h0, hn⟩ | ⟨g, cap', cur, hv, _, _⟩
  · omega
  · cases hv
    rcases hc with hz | ⟨b, off, hb, hcell⟩
    · omega
    · cases hb
      have := hcell k _ (ints_get hx)
      rw [Nat.zero_add] at this
      exact ⟨g, rfl, this⟩
set_option maxRecDepth 100000 in
set_option maxHeartbeats 8000000 in
theorem valid_calls {p : PrfD} (h : PrL w v p) : Calls Try.prog 31 #[v] w fun e w' => e = .returned (.int .i64 (check p)) ∧ Upd [] w w' := by
  obtain ⟨vl, vs, rfl, hL, hS⟩ := h
  obtain ⟨al, cl, rfl, ql, rl⟩ := hL.form
  obtain ⟨a2, c2, rfl, qs, rs, hat⟩ := hS.at_
  have HS := Lib.hid hat
  clear hL hS hat
  by_cases hlen : 1048576 < p.steps.length
  · have hl' : (1048576 : Int) < p.steps.length := by omega
    have HC := Lib.hid (show check p = 4 by unfold check; rw [if_pos hlen])
    clear hlen
    go_enter Try.func31, Try.ntmps31
    go_wp2_with fail
    go_ret
    rw [HC.out]
    exact ⟨rfl, (by iterate 25 (first | exact Upd.refl _ _ | assumption | refine Upd.alloc ?_ _ | refine Upd.drew ?_ | refine Upd.drewN ?_ _ | refine Upd.dl ?_ | refine Upd.step ?_ (Ext.upd _) | refine Upd.nil ?_ | skip))⟩
  · have hl' : (p.steps.length : Int) ≤ 1048576 := by omega
    have HC := Lib.hid (show check p = chk p.lemmas.length 0 p.steps by unfold check; rw [if_neg hlen])
    clear hlen
    go_enter Try.func31, Try.ntmps31
    go_wp2_with fail
    have b1 := Blk.new w [.slice al p.lemmas.length cl, .slice a2 p.steps.length c2] 30
    have u1 := (Upd.refl [] w).alloc (.cells #[.slice al p.lemmas.length cl, .slice a2 p.steps.length c2] 30)
    generalize (w.alloc (.cells #[.slice al p.lemmas.length cl, .slice a2 p.steps.length c2] 30)) = w1 at *
    have c0 := b1.cell (i := 0) rfl
    have c1 := b1.cell (i := 1) rfl
    have HU1 := Lib.hid u1
    clear b1 u1
    generalize w.heap.size = pb at *
    go_loopw [14] (fun i wr => ∃ k : Nat, i = .int .i64 k ∧ k ≤ p.steps.length ∧ (∀ (j : Nat) (t : StepD), j < k → p.steps[j]? = some t → badS p.lemmas.length j t = 0) ∧ ∃ x : Ext w1, wr = x.val) (fun i _ => p.steps.length - (intOf i).toNat)
    case atStart => exact ⟨0, rfl, Nat.zero_le _, fun j t hj => absurd hj (by omega), Ext.of (by iterate 25 (first | exact Upd.refl _ _ | assumption | refine Upd.alloc ?_ _ | refine Upd.drew ?_ | refine Upd.drewN ?_ _ | refine Upd.dl ?_ | refine Upd.step ?_ (Ext.upd _) | refine Upd.nil ?_ | skip))⟩
    case round =>
      obtain ⟨k, rfl, hk, hP, x, rfl⟩ := hrel
      have HP := Lib.hid hP
      clear hP
      by_cases hlt : k < p.steps.length
      · have hli : (k : Int) < p.steps.length := by omega
        have hs := List.getElem?_eq_getElem hlt
        obtain ⟨g, vp, vl, vh, rfl, hcell, hR⟩ := HS.out k _ hs
        generalize p.steps[k] = s at *
        have hR2 := hR.ext (HU1.out.step x.upd)
        obtain ⟨ap, cp, rfl, _⟩ := hR2.1.cells
        obtain ⟨av, cv, rfl, _⟩ := hR2.2.1.cells
        obtain ⟨ah, ch, rfl, qh, rh, hh⟩ := hR2.2.2.1.cells
        have HX := Lib.hid (And.intro hs (And.intro hR2 hh))
        have e0 := HU1.out.some (hcell 0 _ rfl) (by simp)
        have e1 := HU1.out.some (hcell 1 _ rfl) (by simp)
        have e2 := HU1.out.some (hcell 2 _ rfl) (by simp)
        have e3 := HU1.out.some (hcell 3 _ rfl) (by simp)
        have e4 := HU1.out.some (hcell 4 _ rfl) (by simp)
        have e5 := HU1.out.some (hcell 5 _ rfl) (by simp)
        have e6 := HU1.out.some (hcell 6 _ rfl) (by simp)
        rw [Nat.add_zero] at e0
        clear hcell hR hs hR2 hh
        go_upto_region 6 with fail
        have b4 := Blk.new x.val (stC s (.slice ap s.params.length cp) (.slice av s.lits.length cv) (.slice ah s.hints.length ch)) 56
        have u4 : Upd [] x.val (x.val.alloc (.cells (stC s (.slice ap s.params.length cp) (.slice av s.lits.length cv) (.slice ah s.hints.length ch)).toArray 56)) := (Upd.refl [] x.val).alloc _
        have g1 := u4.some ((Ext.cell x _ (by rw [c1]; rfl)).trans c1) (by simp)
        have g0 := u4.some ((Ext.cell x _ (by rw [c0]; rfl)).trans c0) (by simp)
        have HU4 := Lib.hid (x.upd.step u4)
        change Code.wp _ _ _ _ (x.val.alloc (.cells (stC s (.slice ap s.params.length cp) (.slice av s.lits.length cv) (.slice ah s.hints.length ch)).toArray 56))
        generalize (x.val.alloc (.cells (stC s (.slice ap s.params.length cp) (.slice av s.lits.length cv) (.slice ah s.hints.length ch)).toArray 56)) = w4 at *
        generalize x.val.heap.size = sb at *
        have d0 := b4.cell (i := 0) rfl
        have d1 := b4.cell (i := 1) rfl
        have d6 := b4.cell (i := 6) rfl
        have HHC := Lib.hid (fun (m : Nat) (y : Int) (hm : s.hints[m]? = some y) => show ∃ gh, ah = some ⟨gh, 0, none⟩ ∧ w4.cell? ⟨gh, m, none⟩ = some (.int .i64 y) from by
          obtain ⟨gh, e, hc⟩ := HX.out.2.2 m y hm
          exact ⟨gh, e, u4.some hc (by simp)⟩)
        clear b4 u4 e0 e1 e2 e3 e4 e5 e6
        have HBAD := Lib.hid (fun (hb : badS p.lemmas.length k s ≠ 0) => show chk p.lemmas.length 0 p.steps = badS p.lemmas.length k s from by
          have h := chk_at (nl := p.lemmas.length) (i := 0) HX.out.1 (fun j t hj ht => by rw [Nat.zero_add]; exact HP.out j t hj ht) (by rw [Nat.zero_add]; exact hb)
          rw [Nat.zero_add] at h
          exact h)
        by_cases hkb : s.kind < 0 ∨ 5 < s.kind
        · have HE := Lib.hid (show badS p.lemmas.length k s = 1 by unfold badS; rw [if_pos hkb])
          rcases hkb with hkb | hkb
          · go_wp2_with fail
            go_ret
            rw [HC.out, HBAD.out (by rw [HE.out]; simp), HE.out]
            exact ⟨rfl, HU1.out.step HU4.out⟩
          · have hk0 : ¬ s.kind < 0 := by omega
            go_wp2_with fail
            go_ret
            rw [HC.out, HBAD.out (by rw [HE.out]; simp), HE.out]
            exact ⟨rfl, HU1.out.step HU4.out⟩
        · have hk0 : 0 ≤ s.kind := by omega
          have hk5 : s.kind ≤ 5 := by omega
          have HKB := Lib.hid hkb
          clear hkb
          go_wp2_with fail
          go_loopw [30] (fun i wr => ∃ m : Nat, i = .int .i64 m ∧ m ≤ s.hints.length ∧ (s.hints.take m).any (badH k) = false ∧ ∃ x : Ext w4, wr = x.val) (fun i _ => s.hints.length - (intOf i).toNat)
          case atStart => exact ⟨0, rfl, Nat.zero_le _, by simp, Ext.of (Upd.refl _ _)⟩
          case round =>
            obtain ⟨m, rfl, hm, hA, y, rfl⟩ := hrel
            have HA := Lib.hid hA
            clear hA
            by_cases hmt : m < s.hints.length
            · have hmi : (m : Int) < s.hints.length := by omega
              have hg := List.getElem?_eq_getElem hmt
              obtain ⟨gh, rfl, hc⟩ := HHC.out m _ hg
              have HG := Lib.hid hg
              generalize s.hints[m] = z at *
              clear hg
              by_cases hz : z < 0 ∨ (k : Int) ≤ z
              · have HE := Lib.hid (show badS p.lemmas.length k s = 14 by unfold badS; rw [if_neg HKB.out, if_pos (any_hit HG.out (decide_eq_true hz))])
                rcases hz with hz | hz
                · go_wp2_with fail
                  go_ret
                  rw [HC.out, HBAD.out (by rw [HE.out]; simp), HE.out]
                  exact ⟨rfl, HU1.out.step (HU4.out.step y.upd)⟩
                · have hz0 : 0 ≤ z := by omega
                  go_wp2_with fail
                  go_ret
                  rw [HC.out, HBAD.out (by rw [HE.out]; simp), HE.out]
                  exact ⟨rfl, HU1.out.step (HU4.out.step y.upd)⟩
              · have hz0 : 0 ≤ z := by omega
                have hz1 : z < k := by omega
                have HN := Lib.hid (any_snoc HG.out HA.out (decide_eq_false hz))
                clear hz
                go_wp2_with fail
                go_roundw
                case rel => exact ⟨m + 1, by go_num, by omega, HN.out, y, rfl⟩
                case measure => simp [intOf]; omega
            · have hml : m = s.hints.length := by omega
              subst hml
              have hany : s.hints.any (badH k) = false := by have := HA.out; rwa [List.take_of_length_le (Nat.le_refl _)] at this
              have HAN := Lib.hid hany
              clear hany hmt
              have HNX := Lib.hid (fun (h0 : badS p.lemmas.length k s = 0) => show ∀ (j : Nat) (t : StepD), j < k + 1 → p.steps[j]? = some t → badS p.lemmas.length j t = 0 from fun j t hj ht => by
                rcases Nat.lt_or_ge j k with h | h
                · exact HP.out j t h ht
                · obtain rfl : j = k := by omega
                  rw [HX.out.1] at ht
                  cases ht
                  exact h0)
              by_cases hk4 : s.kind = 4
              · have hb4 : (s.kind == 4) = true := by simpa using hk4
                by_cases hn : s.node < 0 ∨ (p.lemmas.length : Int) ≤ s.node
                · have HE := Lib.hid (show badS p.lemmas.length k s = 7 by unfold badS; rw [if_neg HKB.out, if_neg (by rw [HAN.out]; simp), if_pos ⟨hk4, hn⟩])
                  clear hk4
                  rcases hn with hn | hn
                  · go_wp2_with fail
                    go_ret
                    rw [HC.out, HBAD.out (by rw [HE.out]; simp), HE.out]
                    exact ⟨rfl, HU1.out.step (HU4.out.step y.upd)⟩
                  · have hn0 : 0 ≤ s.node := by omega
                    go_wp2_with fail
                    go_ret
                    rw [HC.out, HBAD.out (by rw [HE.out]; simp), HE.out]
                    exact ⟨rfl, HU1.out.step (HU4.out.step y.upd)⟩
                · have HE := Lib.hid (HNX.out (show badS p.lemmas.length k s = 0 by unfold badS; rw [if_neg HKB.out, if_neg (by rw [HAN.out]; simp), if_neg (fun h => hn h.2)]))
                  have hn0 : 0 ≤ s.node := by omega
                  have hn1 : s.node < p.lemmas.length := by omega
                  have HUY := Lib.hid (Ext.of (HU4.out.step y.upd))
                  clear hk4 hn
                  go_wp2_with fail
                  go_roundw
                  case rel => exact ⟨k + 1, by go_num, by omega, HE.out, HUY.out⟩
                  case measure => simp [intOf]; omega
              · have hb4 : (s.kind == 4) = false := by simpa using hk4
                have HE := Lib.hid (HNX.out (show badS p.lemmas.length k s = 0 by unfold badS; rw [if_neg HKB.out, if_neg (by rw [HAN.out]; simp), if_neg (fun h => hk4 h.1)]))
                have HUY := Lib.hid (Ext.of (HU4.out.step y.upd))
                clear hk4
                go_wp2_with fail
                go_roundw
                case rel => exact ⟨k + 1, by go_num, by omega, HE.out, HUY.out⟩
                case measure => simp [intOf]; omega
      · have hkl : k = p.steps.length := by omega
        subst hkl
        have HZ := Lib.hid (chk_zero.2 (fun j t hj => by rw [Nat.zero_add]; exact HP.out j t (List.getElem?_eq_some_iff.1 hj).1 hj))
        clear hlt
        go_wp2_with fail
        go_ret
        rw [HC.out, HZ.out]
        exact ⟨rfl, HU1.out.step x.upd⟩
set_option maxRecDepth 100000 in
set_option maxHeartbeats 8000000 in
theorem check_calls {p : PrfD} (h : PrL w v p) : Calls Try.prog 10 #[v] w fun e w' => e = .returned (.int .i64 (check p)) ∧ Upd [] w w' := by
  obtain ⟨vl, vs, rfl, hL, hS⟩ := h
  obtain ⟨al, cl, rfl, ql, rl⟩ := hL.form
  obtain ⟨a2, c2, rfl, qs, rs, hat⟩ := hS.at_
  have HS := Lib.hid hat
  clear hL hS hat
  by_cases hlen : 1048576 < p.steps.length
  · have hl' : (1048576 : Int) < p.steps.length := by omega
    have HC := Lib.hid (show check p = 4 by unfold check; rw [if_pos hlen])
    clear hlen
    go_enter Try.func10, Try.ntmps10
    go_wp2_with fail
    go_ret
    rw [HC.out]
    exact ⟨rfl, (by iterate 25 (first | exact Upd.refl _ _ | assumption | refine Upd.alloc ?_ _ | refine Upd.drew ?_ | refine Upd.drewN ?_ _ | refine Upd.dl ?_ | refine Upd.step ?_ (Ext.upd _) | refine Upd.nil ?_ | skip))⟩
  · have hl' : (p.steps.length : Int) ≤ 1048576 := by omega
    have HC := Lib.hid (show check p = chk p.lemmas.length 0 p.steps by unfold check; rw [if_neg hlen])
    clear hlen
    go_enter Try.func10, Try.ntmps10
    go_wp2_with fail
    have b1 := Blk.new w [.slice al p.lemmas.length cl, .slice a2 p.steps.length c2] 30
    have u1 := (Upd.refl [] w).alloc (.cells #[.slice al p.lemmas.length cl, .slice a2 p.steps.length c2] 30)
    generalize (w.alloc (.cells #[.slice al p.lemmas.length cl, .slice a2 p.steps.length c2] 30)) = w1 at *
    have c0 := b1.cell (i := 0) rfl
    have c1 := b1.cell (i := 1) rfl
    have HU1 := Lib.hid u1
    clear b1 u1
    generalize w.heap.size = pb at *
    go_loopw [3] (fun i wr => ∃ k : Nat, i = .int .i64 k ∧ k ≤ p.steps.length ∧ (∀ (j : Nat) (t : StepD), j < k → p.steps[j]? = some t → badS p.lemmas.length j t = 0) ∧ ∃ x : Ext w1, wr = x.val) (fun i _ => p.steps.length - (intOf i).toNat)
    case atStart => exact ⟨0, rfl, Nat.zero_le _, fun j t hj => absurd hj (by omega), Ext.of (by iterate 25 (first | exact Upd.refl _ _ | assumption | refine Upd.alloc ?_ _ | refine Upd.drew ?_ | refine Upd.drewN ?_ _ | refine Upd.dl ?_ | refine Upd.step ?_ (Ext.upd _) | refine Upd.nil ?_ | skip))⟩
    case round =>
      obtain ⟨k, rfl, hk, hP, x, rfl⟩ := hrel
      have HP := Lib.hid hP
      clear hP
      by_cases hlt : k < p.steps.length
      · have hli : (k : Int) < p.steps.length := by omega
        have hs := List.getElem?_eq_getElem hlt
        obtain ⟨g, vp, vl, vh, rfl, hcell, hR⟩ := HS.out k _ hs
        generalize p.steps[k] = s at *
        have hR2 := hR.ext (HU1.out.step x.upd)
        obtain ⟨ap, cp, rfl, _⟩ := hR2.1.cells
        obtain ⟨av, cv, rfl, _⟩ := hR2.2.1.cells
        obtain ⟨ah, ch, rfl, qh, rh, hh⟩ := hR2.2.2.1.cells
        have HX := Lib.hid (And.intro hs (And.intro hR2 hh))
        have e0 := HU1.out.some (hcell 0 _ rfl) (by simp)
        have e1 := HU1.out.some (hcell 1 _ rfl) (by simp)
        have e2 := HU1.out.some (hcell 2 _ rfl) (by simp)
        have e3 := HU1.out.some (hcell 3 _ rfl) (by simp)
        have e4 := HU1.out.some (hcell 4 _ rfl) (by simp)
        have e5 := HU1.out.some (hcell 5 _ rfl) (by simp)
        have e6 := HU1.out.some (hcell 6 _ rfl) (by simp)
        rw [Nat.add_zero] at e0
        clear hcell hR hs hR2 hh
        go_upto_region 7 with fail
        have b4 := Blk.new x.val (stC s (.slice ap s.params.length cp) (.slice av s.lits.length cv) (.slice ah s.hints.length ch)) 56
        have u4 : Upd [] x.val (x.val.alloc (.cells (stC s (.slice ap s.params.length cp) (.slice av s.lits.length cv) (.slice ah s.hints.length ch)).toArray 56)) := (Upd.refl [] x.val).alloc _
        have g1 := u4.some ((Ext.cell x _ (by rw [c1]; rfl)).trans c1) (by simp)
        have g0 := u4.some ((Ext.cell x _ (by rw [c0]; rfl)).trans c0) (by simp)
        have HU4 := Lib.hid (x.upd.step u4)
        change Code.wp _ _ _ _ (x.val.alloc (.cells (stC s (.slice ap s.params.length cp) (.slice av s.lits.length cv) (.slice ah s.hints.length ch)).toArray 56))
        generalize (x.val.alloc (.cells (stC s (.slice ap s.params.length cp) (.slice av s.lits.length cv) (.slice ah s.hints.length ch)).toArray 56)) = w4 at *
        generalize x.val.heap.size = sb at *
        have d0 := b4.cell (i := 0) rfl
        have d1 := b4.cell (i := 1) rfl
        have d6 := b4.cell (i := 6) rfl
        have HHC := Lib.hid (fun (m : Nat) (y : Int) (hm : s.hints[m]? = some y) => show ∃ gh, ah = some ⟨gh, 0, none⟩ ∧ w4.cell? ⟨gh, m, none⟩ = some (.int .i64 y) from by
          obtain ⟨gh, e, hc⟩ := HX.out.2.2 m y hm
          exact ⟨gh, e, u4.some hc (by simp)⟩)
        clear b4 u4 e0 e1 e2 e3 e4 e5 e6
        have HBAD := Lib.hid (fun (hb : badS p.lemmas.length k s ≠ 0) => show chk p.lemmas.length 0 p.steps = badS p.lemmas.length k s from by
          have h := chk_at (nl := p.lemmas.length) (i := 0) HX.out.1 (fun j t hj ht => by rw [Nat.zero_add]; exact HP.out j t hj ht) (by rw [Nat.zero_add]; exact hb)
          rw [Nat.zero_add] at h
          exact h)
        by_cases hkb : s.kind < 0 ∨ 5 < s.kind
        · have HE := Lib.hid (show badS p.lemmas.length k s = 1 by unfold badS; rw [if_pos hkb])
          rcases hkb with hkb | hkb
          · go_wp2_with fail
            go_ret
            rw [HC.out, HBAD.out (by rw [HE.out]; simp), HE.out]
            exact ⟨rfl, HU1.out.step HU4.out⟩
          · have hk0 : ¬ s.kind < 0 := by omega
            go_wp2_with fail
            go_ret
            rw [HC.out, HBAD.out (by rw [HE.out]; simp), HE.out]
            exact ⟨rfl, HU1.out.step HU4.out⟩
        · have hk0 : 0 ≤ s.kind := by omega
          have hk5 : s.kind ≤ 5 := by omega
          have HKB := Lib.hid hkb
          clear hkb
          go_wp2_with fail
          go_loopw [5] (fun i wr => ∃ m : Nat, i = .int .i64 m ∧ m ≤ s.hints.length ∧ (s.hints.take m).any (badH k) = false ∧ ∃ x : Ext w4, wr = x.val) (fun i _ => s.hints.length - (intOf i).toNat)
          case atStart => exact ⟨0, rfl, Nat.zero_le _, by simp, Ext.of (Upd.refl _ _)⟩
          case round =>
            obtain ⟨m, rfl, hm, hA, y, rfl⟩ := hrel
            have HA := Lib.hid hA
            clear hA
            by_cases hmt : m < s.hints.length
            · have hmi : (m : Int) < s.hints.length := by omega
              have hg := List.getElem?_eq_getElem hmt
              obtain ⟨gh, rfl, hc⟩ := HHC.out m _ hg
              have HG := Lib.hid hg
              generalize s.hints[m] = z at *
              clear hg
              by_cases hz : z < 0 ∨ (k : Int) ≤ z
              · have HE := Lib.hid (show badS p.lemmas.length k s = 14 by unfold badS; rw [if_neg HKB.out, if_pos (any_hit HG.out (decide_eq_true hz))])
                rcases hz with hz | hz
                · go_wp2_with fail
                  go_ret
                  rw [HC.out, HBAD.out (by rw [HE.out]; simp), HE.out]
                  exact ⟨rfl, HU1.out.step (HU4.out.step y.upd)⟩
                · have hz0 : 0 ≤ z := by omega
                  go_wp2_with fail
                  go_ret
                  rw [HC.out, HBAD.out (by rw [HE.out]; simp), HE.out]
                  exact ⟨rfl, HU1.out.step (HU4.out.step y.upd)⟩
              · have hz0 : 0 ≤ z := by omega
                have hz1 : z < k := by omega
                have HN := Lib.hid (any_snoc HG.out HA.out (decide_eq_false hz))
                clear hz
                go_wp2_with fail
                go_roundw
                case rel => exact ⟨m + 1, by go_num, by omega, HN.out, y, rfl⟩
                case measure => simp [intOf]; omega
            · have hml : m = s.hints.length := by omega
              subst hml
              have hany : s.hints.any (badH k) = false := by have := HA.out; rwa [List.take_of_length_le (Nat.le_refl _)] at this
              have HAN := Lib.hid hany
              clear hany hmt
              have HNX := Lib.hid (fun (h0 : badS p.lemmas.length k s = 0) => show ∀ (j : Nat) (t : StepD), j < k + 1 → p.steps[j]? = some t → badS p.lemmas.length j t = 0 from fun j t hj ht => by
                rcases Nat.lt_or_ge j k with h | h
                · exact HP.out j t h ht
                · obtain rfl : j = k := by omega
                  rw [HX.out.1] at ht
                  cases ht
                  exact h0)
              by_cases hk4 : s.kind = 4
              · have hb4 : (s.kind == 4) = true := by simpa using hk4
                by_cases hn : s.node < 0 ∨ (p.lemmas.length : Int) ≤ s.node
                · have HE := Lib.hid (show badS p.lemmas.length k s = 7 by unfold badS; rw [if_neg HKB.out, if_neg (by rw [HAN.out]; simp), if_pos ⟨hk4, hn⟩])
                  clear hk4
                  rcases hn with hn | hn
                  · go_wp2_with fail
                    go_ret
                    rw [HC.out, HBAD.out (by rw [HE.out]; simp), HE.out]
                    exact ⟨rfl, HU1.out.step (HU4.out.step y.upd)⟩
                  · have hn0 : 0 ≤ s.node := by omega
                    go_wp2_with fail
                    go_ret
                    rw [HC.out, HBAD.out (by rw [HE.out]; simp), HE.out]
                    exact ⟨rfl, HU1.out.step (HU4.out.step y.upd)⟩
                · have HE := Lib.hid (HNX.out (show badS p.lemmas.length k s = 0 by unfold badS; rw [if_neg HKB.out, if_neg (by rw [HAN.out]; simp), if_neg (fun h => hn h.2)]))
                  have hn0 : 0 ≤ s.node := by omega
                  have hn1 : s.node < p.lemmas.length := by omega
                  have HUY := Lib.hid (Ext.of (HU4.out.step y.upd))
                  clear hk4 hn
                  go_wp2_with fail
                  go_roundw
                  case rel => exact ⟨k + 1, by go_num, by omega, HE.out, HUY.out⟩
                  case measure => simp [intOf]; omega
              · have hb4 : (s.kind == 4) = false := by simpa using hk4
                have HE := Lib.hid (HNX.out (show badS p.lemmas.length k s = 0 by unfold badS; rw [if_neg HKB.out, if_neg (by rw [HAN.out]; simp), if_neg (fun h => hk4 h.1)]))
                have HUY := Lib.hid (Ext.of (HU4.out.step y.upd))
                clear hk4
                go_wp2_with fail
                go_roundw
                case rel => exact ⟨k + 1, by go_num, by omega, HE.out, HUY.out⟩
                case measure => simp [intOf]; omega
      · have hkl : k = p.steps.length := by omega
        subst hkl
        have HZ := Lib.hid (chk_zero.2 (fun j t hj => by rw [Nat.zero_add]; exact HP.out j t (List.getElem?_eq_some_iff.1 hj).1 hj))
        clear hlt
        go_wp2_with fail
        go_ret
        rw [HC.out, HZ.out]
        exact ⟨rfl, HU1.out.step x.upd⟩
end
end Trim
end Go.Proofs.Ytnmfihgdedifoaa
