/- Walks through the laws of learning: LearnFollows. Conditions: none. -/
import Derived.Test.YtdhhohnaehdpkaaLearnN
import Derived.Test.YtdhhohnaehdpkaaClause
set_option linter.unusedVariables false
set_option linter.unusedSimpArgs false
set_option linter.unusedSectionVars false
open Go.RowKit
namespace Go.Proofs.Ytdhhohnaehdpkaa
open L
namespace Learn
open Trail Cla R01 R14
/-- An assignment of eight variables. -/
structure Asg8 (A : List Int) (n : Nat) : Prop where
  len : A.length = n + 1
  rng : ∀ x ∈ A, -1 ≤ x ∧ x ≤ 1
  one : ∀ j, 1 ≤ j → j ≤ n → A.getD j 0 = 1 ∨ A.getD j 0 = -1
theorem Asg8.start : Asg8 [0] 0 := ⟨rfl, by simp, fun j h1 h2 => by omega⟩
theorem Asg8.push {A : List Int} {n : Nat} {x : Int} (h : Asg8 A n) (hx : x = 1 ∨ x = -1) : Asg8 (A ++ [x]) (n + 1) := by
  have hl := h.len
  refine ⟨by simp [h.len], fun y hy => ?_, fun j h1 h2 => ?_⟩
  · rcases List.mem_append.1 hy with hy | hy
    · exact h.rng y hy
    · rw [List.mem_singleton] at hy; omega
  · rcases Nat.lt_or_ge j (n + 1) with hj | hj
    · have := h.one j h1 (by omega)
      rw [List.getD_eq_getElem?_getD] at this ⊢
      rwa [List.getElem?_append_left (by omega)]
    · obtain rfl : j = n + 1 := by omega
      rw [List.getD_eq_getElem?_getD, List.getElem?_append_right (by omega), hl]
      simpa using hx
def tru (A : List Int) (x : Int) : Bool := lval A x == 1
def tot8 (A : List Int) (x : Int) : Bool := if x.natAbs ≤ 8 then tru A x else decide (0 < x)
theorem tot8_neg {A : List Int} (h : Asg8 A 8) (y : Int) (hy : y ≠ 0) : tot8 A (-y) = !tot8 A y := by
  unfold tot8
  rw [Int.natAbs_neg]
  by_cases h8 : y.natAbs ≤ 8
  · rw [if_pos h8, if_pos h8]
    unfold tru lval
    rw [Int.natAbs_neg]
    have h1 := h.one y.natAbs (by omega) h8
    generalize A.getD y.natAbs 0 = q at *
    by_cases hn : y < 0
    · rw [if_neg (by omega), if_pos hn]
      rcases h1 with rfl | rfl <;> decide
    · rw [if_pos (by omega), if_neg hn]
      rcases h1 with rfl | rfl <;> decide
  · rw [if_neg h8, if_neg h8]
    by_cases hn : 0 < y
    · rw [decide_eq_false (by omega), decide_eq_true hn]; rfl
    · rw [decide_eq_true (by omega), decide_eq_false hn]; rfl
theorem any_tot {A c : List Int} (h : ∀ x ∈ c, isLit 8 x = true) : c.any (tot8 A) = c.any (tru A) := by
  rw [Bool.eq_iff_iff, List.any_eq_true, List.any_eq_true]
  constructor
  all_goals
    rintro ⟨x, hx, h1⟩
    refine ⟨x, hx, ?_⟩
    have h2 := h x hx
    unfold isLit at h2
    simp only [decide_eq_true_eq] at h2
    unfold tot8 at *
    rw [if_pos (by omega)] at *
    exact h1
theorem state_ok {A c : List Int} (h : Asg8 A 8) (hv : validErr c = 0) (hl : ∀ x ∈ c, isLit 8 x = true) : stateRes c A = (c.any (tru A), c.filter (fun x => lval A x == 0), 0) := by
  unfold stateRes
  rw [if_neg (by rw [(validErr_ok.1 hv).1]; simp), if_neg]
  · rfl
  · rw [List.any_eq_true]
    rintro ⟨x, hx, hb⟩
    have h2 := hl x hx
    unfold isLit at h2
    simp only [decide_eq_true_eq] at h2
    have hlen := h.len
    have hr : -1 ≤ A.getD x.natAbs 0 ∧ A.getD x.natAbs 0 ≤ 1 := by
      rw [List.getD_eq_getElem?_getD, List.getElem?_eq_getElem (by omega)]
      exact h.rng _ (List.getElem_mem _)
    unfold badV at hb
    simp only [Bool.or_eq_true, decide_eq_true_eq] at hb
    omega
theorem bit_one (m j : Nat) : wrap64 (wrap64 (2 * ((m : Int) / 2 ^ j).tmod 2) - 1) = 1 ∨ wrap64 (wrap64 (2 * ((m : Int) / 2 ^ j).tmod 2) - 1) = -1 := by
  have h0 : 0 ≤ (m : Int) / 2 ^ j := Int.ediv_nonneg (by omega) (Int.pow_nonneg (by omega))
  rw [Int.tmod_eq_emod_of_nonneg h0]
  have h1 : ((m : Int) / 2 ^ j) % 2 = 0 ∨ ((m : Int) / 2 ^ j) % 2 = 1 := by omega
  rcases h1 with h1 | h1 <;> rw [h1]
  · right; unfold wrap64; omega
  · left; unfold wrap64; omega
/-- The value says whether all of the hints' clauses are true. -/
def allV (L : List (List Int)) (A rs : List Int) : Value := .bool (rs.all fun r => (cOf L r).any (tru A))
theorem allV_nil (L : List (List Int)) (A : List Int) : Value.bool true = allV L A [] := rfl
theorem all_snoc {α : Type} (p : α → Bool) (l : List α) (x : α) : (l ++ [x]).all p = (l.all p && p x) := by simp
section
variable {w : World}
set_option maxRecDepth 100000 in
set_option maxHeartbeats 8000000 in
theorem LearnFollows_calls {v : Value} {xs : List Int} (hx : ∀ x ∈ xs, IsI64 x) (hl : SL w 1 v xs.length (ints xs)) {ch : Int} (hch : IsI64 ch) :
    Calls Try.prog 5 #[v, .int .i64 ch] w fun e w' => e = .returned (.bool true) ∧ Upd [] w w' := by
  have HS := Lib.hid (Scene_calls hx hl hch)
  have HK := Lib.hid (fun c (h : c ∈ clsL xs) => clsL_ok h)
  have hln := clsL_length xs
  generalize clsL xs = L at *
  clear hx hl
  go_enter Try.func5, Try.ntmps5
  go_upto_region 2 with (go_at_call 9; (with_reducible refine HS.out.mono ?_); rintro e w1 ⟨ov, mv, cf, rfl, F, es, hO, hF, hm, hv, u1, hcf, hap⟩)
  have HM := Lib.hid (Made8_calls hv.sl hm.wf)
  have H1 := Lib.hid (And.intro hO (And.intro hF (And.intro hm (And.intro hv u1))))
  clear HS hO hF hm hv u1 hap
  go_upto_region 3 with (go_at_call 11; (with_reducible refine HM.out.mono ?_); rintro e w2 ⟨b, rfl, S, hT, hS, u2⟩)
  have H2 := Lib.hid (And.intro (H1.out.1.upd u2 (by simp)) (And.intro hT (H1.out.2.2.2.2.step u2)))
  clear hT hS u2 HM
  rcases hcf with rfl | ⟨hc0, hc1, hcn⟩
  · go_wp2_with (go_at_call 17; (with_reducible refine lives_calls.mono ?_); rintro e w3 ⟨rfl, u3⟩)
    go_ret
    exact ⟨rfl, H2.out.2.2.step u3⟩
  · have hcm : ∀ r : Int, 0 ≤ r → r < L.length → cOf L r ∈ L := fun r h0 h1 => by
      unfold cOf
      rw [List.getD_eq_getElem?_getD, List.getElem?_eq_getElem (by omega)]
      exact List.getElem_mem _
    obtain ⟨g, d, hs, hg0, hln2⟩ := learnt H1.out.2.2.1 (by omega) hc0 hc1 (HK.out _ (hcm cf hc0 hc1)).1 hcn
    have HL := Lib.hid hln2
    obtain ⟨aL, cL, rfl, ql1, ql2, hcl⟩ := OwnL.cells H2.out.1
    have HC := Lib.hid hcl
    have hAn := Analyze_calls H2.out.2.1 H2.out.1.cl (by omega) (cn := cf) ⟨by omega, by omega⟩
    rw [hln2.res] at hAn
    have HA := Lib.hid hAn
    have HCM := Lib.hid hcm
    have hcneg : ¬ cf < 0 := by omega
    have hs9 : hs.length ≤ 9 := by
      have := hln2.len
      have := H1.out.2.2.1.wf.len
      omega
    clear hAn hln2 hcl hcn hcm
    go_upto_region 10 with (go_at_call 13; (with_reducible refine HA.out.mono ?_); rintro e w3 ⟨v1, v3, rfl, o1, o3, hap⟩)
    obtain ⟨a3, cap3, rfl, q31, hc3⟩ := o3.form
    have H3 := Lib.hid (And.intro o1.sl (And.intro o3.sl (H2.out.2.2.step o1.u)))
    have HC3 := Lib.hid hc3
    have HU3 := Lib.hid o1.u
    clear o1 o3 hap hc3 HA
    go_wp2_with fail
    go_loopw [13] (fun iv wr => ∃ m : Nat, iv = .int .i64 m ∧ m ≤ 256 ∧ Upd [] w3 wr) (fun iv _ => 256 - (numOf iv).toNat)
    case atStart => exact ⟨0, rfl, by omega, Upd.refl _ _⟩
    case round =>
      obtain ⟨wo, rfl⟩ : ∃ wo : World, wo = wr := ⟨_, rfl⟩
      obtain ⟨m, rfl, hm, hU⟩ := hrel
      have HU := Lib.hid hU
      clear hU
      by_cases hm2 : m < 256
      · have hmi : (m : Int) < 256 := by omega
        go_upto_region 14 with fail
        have B := Blk.new wo [.int .i64 0] 3
        have uB := (Upd.refl [] wo).alloc (.cells #[.int .i64 0] 3)
        change Blk (wo.alloc (.cells #[.int .i64 0] 3)) _ _ _ at B
        generalize (wo.alloc (.cells #[.int .i64 0] 3)) = wa at *
        have HO0 := Lib.hid (show Own wo (.slice (some ⟨wo.heap.size, 0, none⟩) 1 1) [0] wa from ⟨owns_blk (n := 1) B rfl (by unfold maxLen; omega), fun q hq => by simp [Value.ownBlock] at hq; omega, uB⟩)
        clear B uB
        go_wp2_with fail
        go_loopw [14, 15] (fun cv jv wr => ∃ (j : Nat) (c' : Value) (A : List Int), jv = .int .i64 j ∧ c' = cv ∧ j ≤ 8 ∧ Asg8 A j ∧ Own wo c' A wr) (fun _ jv _ => 8 - (numOf jv).toNat)
        case atStart => exact ⟨0, _, [0], rfl, rfl, by omega, Asg8.start, HO0.out⟩
        case round =>
          obtain ⟨wp, rfl⟩ : ∃ wp : World, wp = wr := ⟨_, rfl⟩
          obtain ⟨j, cv, A, rfl, rfl, hj, hA, hO⟩ := hrel
          have HO := Lib.hid (And.intro hA hO)
          clear hA hO HO0
          by_cases hj8 : j < 8
          · have hji : (j : Int) < 8 := by omega
            have hrow := HO.out.2.row
            rw [HO.out.1.len] at hrow
            have HROW := Lib.hid hrow
            clear hrow
            go_upto_region 17 with fail
            refine wp_region_lit ?_
            refine wpList_cutH 8 (fun K hK => ?_)
            simp only [List.take_succ_cons, List.take_zero]
            go_wp2_with fail
            refine Halt_.intro ?_; try simp only [List.drop_succ_cons, List.drop_zero]
            refine wpList_push rfl rfl _ _ _ _ rfl rfl rfl 3 1 8 _ Try.underlying22 R14.infoInt rfl (by decide) (by decide) (.int .i64 _) [.int .i64 _] rfl rfl rfl (ints_one [_]) _ _ _ HROW.out rfl rfl (by unfold maxLen; omega) (by omega) ?_
            intro g4 cap4 w4 o4 u4 k4
            simp only [Act.put, List.setIfInBounds_toArray, List.set_cons_zero, List.set_cons_succ]
            have HNW := Lib.hid (And.intro (HO.out.1.push (bit_one m j)) (own_push HO.out.2 HO.out.1.len o4 u4 k4))
            clear o4 u4 k4 HROW HO
            go_wp2_with fail
            exact ⟨⟨j + 1, _, _, by go_num, rfl, by omega, HNW.out.1, HNW.out.2⟩, by simp [numOf]; omega⟩
          · have hji : ¬ (j : Int) < 8 := by omega
            have hj8e : j = 8 := by omega
            have HA8 : Hid (Asg8 A 8) := Lib.hid (by rw [← hj8e]; exact HO.out.1)
            clear hj8e
            have HOA := Lib.hid (And.intro (HU.out.step HO.out.2.u) HO.out.2)
            clear HO
            go_upto_region 18 with fail
            clear hji hj8 hj
            go_wp2_with fail
            go_loopw [16, 17] (fun bv iv wr => ∃ (k : Nat) (al : Bool), iv = .int .i64 k ∧ bv = .bool al ∧ k ≤ hs.length ∧ Hid (Value.bool al = allV L A (hs.take k)) ∧ Upd [] wp wr) (fun _ iv _ => hs.length - (numOf iv).toNat)
            case atStart => exact ⟨0, true, rfl, rfl, Nat.zero_le _, Lib.hid (allV_nil L A), Upd.refl _ _⟩
            case round =>
              obtain ⟨wq, rfl⟩ : ∃ wq : World, wq = wr := ⟨_, rfl⟩
              obtain ⟨k, al, rfl, rfl, hk, hal, hU⟩ := hrel
              have hal2 : al = (hs.take k).all fun r => (cOf L r).any (tru A) := by
                have := hal.out
                unfold allV at this
                injection this
              subst hal2
              clear hal
              have HOK := Lib.hid (And.intro hU (HOA.out.1.step hU))
              clear hU
              by_cases hlt : k < hs.length
              · have hki : (k : Int) < hs.length := by omega
                obtain ⟨g3, rfl, k3⟩ := HC3.out (by omega)
                have e1 := HOK.out.2.some (k3 k _ (List.getElem?_eq_getElem hlt)) (by simp)
                have HTK := Lib.hid (show hs.take (k + 1) = hs.take k ++ [hs[k]] by rw [List.take_add_one, List.getElem?_eq_getElem hlt]; rfl)
                have hrr := HL.out.rng _ (List.getElem_mem hlt)
                clear k3
                generalize hs[k] = r at *
                obtain ⟨rn, rfl⟩ := Int.eq_ofNat_of_zero_le hrr.1
                have hrn : rn < L.length := by omega
                have hrni : ¬ ((rn : Int) ≥ L.length) := by omega
                have hrn0 : ¬ ((rn : Int) < 0) := by omega
                obtain ⟨g6, off6, ay, capy, rfl, hcell, hsl, hq1, hq2, hown⟩ := HC.out rn hrn
                have ec : L.getD rn [] = cOf L rn := by unfold cOf; rw [Int.toNat_natCast]
                rw [ec] at hcell hsl hq1
                have UW : Upd [] w2 wq := HU3.out.step HOK.out.2
                have e2 := UW.some hcell (by simp)
                have hs2 := hsl.upd UW (by simp)
                have hok := state_ok (A := A) HA8.out hrr.2.2 (HK.out _ (HCM.out rn (by omega) hrr.2.1)).2.1
                have hSt := State_calls hs2 (HOA.out.2.sl.upd HOK.out.1 (by simp)) (fun x hx => by have := HA8.out.rng x hx; exact ⟨by omega, by omega⟩)
                rw [hok] at hSt
                have HST := Lib.hid hSt
                have HALL := Lib.hid (show (hs.take (k + 1)).all (fun r => (cOf L r).any (tru A)) = ((hs.take k).all (fun r => (cOf L r).any (tru A)) && (cOf L rn).any (tru A)) by rw [HTK.out, all_snoc])
                clear hcell hsl hown hrr ec hs2 hok hSt HTK UW
                generalize (hs.take k).all (fun r => (cOf L r).any (tru A)) = al at *
                generalize hcc : cOf L rn = c at *
                generalize c.any (tru A) = ab at *
                clear hcc
                go_upto_region 27 with (go_at_call 22; (with_reducible refine HST.out.mono ?_); rintro e w5 ⟨v5, rfl, o5⟩)
                have HW5 := Lib.hid (HOK.out.1.step o5.u)
                clear o5 HST
                have HAL := Lib.hid (show Value.bool (al && ab) = allV L A (hs.take (k + 1)) from by unfold allV; rw [HALL.out])
                cases al <;> cases ab
                all_goals
                  go_wp2_with fail
                  go_roundw
                  case rel => exact ⟨k + 1, _, by go_num, rfl, by omega, HAL, HW5.out⟩
                  case measure => simp [numOf]; omega
              · have hki : ¬ (k : Int) < hs.length := by omega
                have htk : hs.take k = hs := List.take_of_length_le (by omega)
                have hdl : ∀ x ∈ d, isLit 8 x = true := fun x hx => (tval_neg (HL.out.good.no x hx)).1
                have hok := state_ok (A := A) HA8.out HL.out.good.ok hdl
                have hSt := State_calls (H3.out.1.upd HOK.out.2 (by simp)) (HOA.out.2.sl.upd HOK.out.1 (by simp)) (fun x hx => by have := HA8.out.rng x hx; exact ⟨by omega, by omega⟩)
                rw [hok] at hSt
                have himp : hs.all (fun r => (cOf L r).any (tru A)) = true → d.any (tru A) = true := fun hall => by
                  rw [← any_tot hdl]
                  refine HL.out.sem (tot8 A) (fun y hy => tot8_neg HA8.out y hy) (fun r hr => ?_)
                  have h1 := HL.out.rng r hr
                  rw [any_tot (HK.out _ (HCM.out r h1.1 h1.2.1)).2.1]
                  rw [List.all_eq_true] at hall
                  exact hall r hr
                have HST := Lib.hid hSt
                have HIMP := Lib.hid himp
                rw [htk]
                clear hok hSt himp htk hdl
                generalize hs.all (fun r => (cOf L r).any (tru A)) = al at *
                generalize d.any (tru A) = ab at *
                cases al
                · cases ab
                  all_goals
                    go_wp2_with (go_at_call 22; (with_reducible refine HST.out.mono ?_); rintro e w5 ⟨v5, rfl, o5⟩)
                    exact ⟨⟨m + 1, by go_num, by omega, (HOA.out.1.step HOK.out.1).step o5.u⟩, by simp [numOf]; omega⟩
                · have hab := HIMP.out rfl
                  subst hab
                  go_wp2_with (go_at_call 22; (with_reducible refine HST.out.mono ?_); rintro e w5 ⟨v5, rfl, o5⟩)
                  exact ⟨⟨m + 1, by go_num, by omega, (HOA.out.1.step HOK.out.1).step o5.u⟩, by simp [numOf]; omega⟩
      · have hmi : ¬ (m : Int) < 256 := by omega
        go_wp2_with (go_at_call 17; (with_reducible refine lives_calls.mono ?_); rintro e w4 ⟨rfl, u4⟩)
        go_ret
        exact ⟨rfl, H3.out.2.2.step (HU.out.step u4)⟩
end
end Learn
end Go.Proofs.Ytdhhohnaehdpkaa
