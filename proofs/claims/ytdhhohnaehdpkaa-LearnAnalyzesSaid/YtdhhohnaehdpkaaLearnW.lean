/- Walks through the reference of learning: the clauses it makes from numbers. Conditions: none. -/
import Derived.Test.YtdhhohnaehdpkaaRef14b
import Derived.Test.YtdhhohnaehdpkaaLists
import Derived.Test.YtdhhohnaehdpkaaLrnA
set_option linter.unusedVariables false
set_option linter.unusedSimpArgs false
set_option linter.unusedSectionVars false
open Go.RowKit
namespace Go.Proofs.Ytdhhohnaehdpkaa
open L
namespace Learn
open Cla R01 R14
theorem infoInts : (Try.prog.info? 22).map (fun i => (i.zero, i.size, i.bytes)) = some (some (.slice none 0 0), 1, 24) := by kernel_rfl
/-- A literal out of a number. -/
def litN (n : Nat) : Int := if (n / 8) % 2 = 1 then -((1 + n % 8 : Nat) : Int) else ((1 + n % 8 : Nat) : Int)
def takeN : Nat → Nat → List Int
  | 0, _ => []
  | m + 1, n => litN n :: takeN m (n / 8 / 2)
def manyN (r : Nat) : Nat := [1, 2, 2, 2, 3, 3, 3, 3].getD r 0
def rawC (x : Int) : List Int := takeN (manyN ((around x 16777216).toNat % 8)) ((around x 16777216).toNat / 8)
def clsL (xs : List Int) : List (List Int) := (((xs.take 26).map rawC).filter fun c => !tautB c).map nrm
theorem litN_rng (n : Nat) : 1 ≤ (litN n).natAbs ∧ (litN n).natAbs ≤ 8 := by
  unfold litN
  split <;> omega
theorem takeN_length : ∀ (m n : Nat), (takeN m n).length = m
  | 0, _ => rfl
  | m + 1, n => by rw [takeN, List.length_cons, takeN_length m]
theorem takeN_rng : ∀ (m n : Nat), ∀ y ∈ takeN m n, 1 ≤ y.natAbs ∧ y.natAbs ≤ 8
  | 0, _, y, h => by simp [takeN] at h
  | m + 1, n, y, h => by
    rw [takeN] at h
    rcases List.mem_cons.1 h with rfl | h
    · exact litN_rng n
    · exact takeN_rng m _ y h
def itN : Nat → Nat → Nat
  | 0, n => n
  | k + 1, n => itN k n / 8 / 2
theorem itN_comm : ∀ (k n : Nat), itN k (n / 8 / 2) = itN (k + 1) n
  | 0, _ => rfl
  | k + 1, n => by
    have := itN_comm k n
    rw [itN, this]
    rfl
theorem takeN_at : ∀ (k n : Nat), takeN (k + 1) n = takeN k n ++ [litN (itN k n)]
  | 0, _ => rfl
  | k + 1, n => by
    rw [takeN, takeN_at k, itN_comm, takeN]
    rfl
theorem itN_le : ∀ (k n : Nat), itN k n ≤ n
  | 0, n => Nat.le_refl _
  | k + 1, n => by have := itN_le k n; rw [itN]; omega
theorem clsL_snoc {l : List Int} {x : Int} (h : l.length < 26) : clsL (l ++ [x]) = clsL l ++ if tautB (rawC x) = true then [] else [nrm (rawC x)] := by
  unfold clsL
  rw [List.take_of_length_le (by simp; omega), List.take_of_length_le (by omega), List.map_append, List.filter_append, List.map_append]
  clear h
  cases h : tautB (rawC x) <;> simp [h]
theorem manyN_get {r : Nat} (h : r < 8) : ([.int .i64 1, .int .i64 2, .int .i64 2, .int .i64 2, .int .i64 3, .int .i64 3, .int .i64 3, .int .i64 3] : List Value)[r]? = some (.int .i64 (manyN r : Nat)) := by
  rcases (by omega : r = 0 ∨ r = 1 ∨ r = 2 ∨ r = 3 ∨ r = 4 ∨ r = 5 ∨ r = 6 ∨ r = 7) with rfl | rfl | rfl | rfl | rfl | rfl | rfl | rfl <;> rfl
theorem manyN_rng {r : Nat} (h : r < 8) : 1 ≤ manyN r ∧ manyN r ≤ 3 := by
  have : ∀ r, r < 8 → 1 ≤ manyN r ∧ manyN r ≤ 3 := by decide
  exact this r h
theorem own_push {wa wp w2 : World} {cv : Value} {xs : List Int} {j g cap : Nat} {x : Int} (h : Own wa cv xs wp) (hl : xs.length = j) (o : w2.ownsRow 0 3 1 (.slice (some ⟨g, 0, none⟩) (j + 1) cap) (j + 1) (ints xs ++ [.int .i64 x])) (u : Upd cv.ownBlock.toList wp w2) (k : cv.ownBlock = some g ∨ wp.heap.size ≤ g) :
    Own wa (.slice (some ⟨g, 0, none⟩) (j + 1) cap) (xs ++ [x]) w2 := by
  subst hl
  exact h.push o u k
section
variable {w : World}
set_option maxRecDepth 100000 in
set_option maxHeartbeats 8000000 in
theorem LClauses_calls {v : Value} {xs : List Int} (hx : ∀ x ∈ xs, IsI64 x) (hl : SL w 1 v xs.length (ints xs)) :
    Calls Try.prog 18 #[v, .int .i64 8, .int .i64 26] w fun e w' => ∃ ov, e = .returned ov ∧ ∃ F, OwnL 22 w ov (clsL xs) F w' ∧ (∀ b ∈ F, w.heap.size ≤ b) ∧ Upd [] w w' := by
  obtain ⟨a, cap, rfl, q1, r1, hc⟩ := SL.form hl
  have HX := Lib.hid hx
  have HC := Lib.hid hc
  clear hx hl hc
  go_enter Try.func18, Try.ntmps18
  go_wp2_with fail
  go_loopw [7, 8] (fun o i wr => ∃ (k : Nat) (F : List Nat) (ov : Value), i = .int .i64 k ∧ ov = o ∧ k ≤ 26 ∧ k ≤ xs.length ∧ OwnL 22 w ov (clsL (xs.take k)) F wr ∧ (∀ b ∈ F, w.heap.size ≤ b) ∧ Upd [] w wr) (fun _ i _ => 27 - (numOf i).toNat)
  case atStart => exact ⟨0, [], _, rfl, rfl, by omega, by omega, OwnL.nil _ _ _, by simp, Upd.refl _ _⟩
  case round =>
    obtain ⟨wo, rfl⟩ : ∃ wo : World, wo = wr := ⟨_, rfl⟩
    obtain ⟨k, F, ov, rfl, rfl, hk26, hk, hO, hF, hU⟩ := hrel
    have HO := Lib.hid (And.intro hO (And.intro hF hU))
    clear hO hF hU
    by_cases hlt : k < xs.length
    · have hki : (k : Int) < xs.length := by omega
      by_cases hlt2 : k < 26
      · have hki2 : (k : Int) < 26 := by omega
        obtain ⟨gx, ox, rfl, k1⟩ := HC.out (by omega)
        have e0 := HO.out.2.2.some (k1 k _ (ints_get (List.getElem?_eq_getElem hlt))) (by simp)
        have hxi := HX.out _ (List.getElem_mem hlt)
        have HTK := Lib.hid (show xs.take (k + 1) = xs.take k ++ [xs[k]] by rw [List.take_add_one, List.getElem?_eq_getElem hlt]; rfl)
        generalize xs[k] = x at *
        clear k1
        have n0 := around_lo (n := x) (k := 16777216) (by omega)
        have n1 := around_hi (n := x) (k := 16777216) (by omega)
        have HA := Lib.hid (fun w : World => Around_calls x 16777216 w hxi (by omega) (by omega))
        obtain ⟨N, hN⟩ := Int.eq_ofNat_of_zero_le n0
        have HRC := Lib.hid (show rawC x = takeN (manyN (N % 8)) (N / 8) by unfold rawC; rw [hN, Int.toNat_natCast])
        rw [hN] at HA n1
        have hN24 : N < 16777216 := by omega
        clear hN n0 n1 hxi
        go_upto_region 7 with (go_at_call 10; (with_reducible refine (HA.out _).mono ?_); rintro e _ ⟨rfl, rfl⟩)
        refine wp_region_lit ?_
        refine wpList_cutH 1 (fun K hK => ?_)
        simp only [List.take_succ_cons, List.take_zero]
        go_wp2_with fail
        refine Halt_.intro ?_; try simp only [List.drop_succ_cons, List.drop_zero]
        have B := Blk.new wo [.int .i64 1, .int .i64 2, .int .i64 2, .int .i64 2, .int .i64 3, .int .i64 3, .int .i64 3, .int .i64 3] 3
        have uA := (Upd.refl [] wo).alloc (.cells #[.int .i64 1, .int .i64 2, .int .i64 2, .int .i64 2, .int .i64 3, .int .i64 3, .int .i64 3, .int .i64 3] 3)
        change Blk (wo.alloc (.cells #[.int .i64 1, .int .i64 2, .int .i64 2, .int .i64 2, .int .i64 3, .int .i64 3, .int .i64 3, .int .i64 3] 3)) _ _ _ at B
        generalize (wo.alloc (.cells #[.int .i64 1, .int .i64 2, .int .i64 2, .int .i64 2, .int .i64 3, .int .i64 3, .int .i64 3, .int .i64 3] 3)) = wa at *
        have hn8 : N % 8 < 8 := by omega
        have em := B.cell (i := N % 8) (manyN_get hn8)
        have hM := manyN_rng hn8
        have HUA := Lib.hid uA
        clear B uA hn8 e0
        generalize manyN (N % 8) = M at *
        go_upto_region 9 with fail
        have hN8 : ((N : Int) / 8) = ((N / 8 : Nat) : Int) := by omega
        have HN8 := Lib.hid hN8
        have hN8b : N / 8 ≤ 16777216 := by omega
        go_wp2_with fail
        go_loopw [9, 10, 12] (fun nv cv jv wr => ∃ (j : Nat) (c' : Value), jv = .int .i64 j ∧ c' = cv ∧ j ≤ M ∧ nv = .int .i64 (itN j (N / 8) : Nat) ∧ Own wa c' (takeN j (N / 8)) wr) (fun _ _ jv _ => M - (numOf jv).toNat)
        case atStart => exact ⟨0, _, rfl, rfl, Nat.zero_le _, by rw [HN8.out]; rfl, Own.nil _⟩
        case round =>
          obtain ⟨wp, rfl⟩ : ∃ wp : World, wp = wr := ⟨_, rfl⟩
          obtain ⟨j, cv, rfl, rfl, hj, rfl, hOc⟩ := hrel
          have HOC := Lib.hid hOc
          clear hOc em hN8
          have hit := itN_le j (N / 8)
          by_cases hlt3 : j < M
          · have hji : (j : Int) < M := by omega
            have HTA := Lib.hid (And.intro (takeN_at j (N / 8)) (show itN (j + 1) (N / 8) = itN j (N / 8) / 8 / 2 from rfl))
            have HTL := Lib.hid (takeN_length j (N / 8))
            have hrow := HOC.out.row
            rw [HTL.out] at hrow
            have HROW := Lib.hid hrow
            have hj3 : j ≤ 3 := by omega
            have hl0 : litN (itN j (N / 8)) = if (itN j (N / 8) / 8) % 2 = 1 then -((1 + itN j (N / 8) % 8 : Nat) : Int) else ((1 + itN j (N / 8) % 8 : Nat) : Int) := rfl
            have HL0 := Lib.hid hl0
            clear hrow hl0
            generalize itN j (N / 8) = n at *
            by_cases hodd : (n / 8) % 2 = 1
            · have e1 : (((n : Int) / 8) % 2 == 1) = true := by rw [beq_iff_eq]; omega
              have HLN := Lib.hid (show litN n = -(1 + (n : Int) % 8) by rw [HL0.out, if_pos hodd]; omega)
              clear HL0
              go_upto_region 17 with fail
              refine wp_region_lit ?_
              refine wpList_cutH 2 (fun K hK => ?_)
              simp only [List.take_succ_cons, List.take_zero]
              go_wp2_with fail
              refine Halt_.intro ?_; try simp only [List.drop_succ_cons, List.drop_zero]
              refine wpList_push rfl rfl _ _ _ _ rfl rfl rfl 3 1 8 _ Try.underlying22 R14.infoInt rfl (by decide) (by decide) (.int .i64 (-(1 + (n : Int) % 8))) [.int .i64 (-(1 + (n : Int) % 8))] rfl rfl rfl (ints_one [(-(1 + (n : Int) % 8))]) _ _ _ HROW.out rfl rfl (by unfold maxLen; omega) (by omega) ?_
              intro g3 cap3 w3 o3 u3 k3
              simp only [Act.put, List.setIfInBounds_toArray, List.set_cons_zero, List.set_cons_succ]
              have HNW := Lib.hid (show Own wa (.slice (some ⟨g3, 0, none⟩) (j + 1) cap3) (takeN (j + 1) (N / 8)) w3 by
                rw [HTA.out.1, HLN.out]
                exact own_push HOC.out HTL.out o3 u3 k3)
              clear o3 u3 k3 HROW HOC
              go_wp2_with fail
              exact ⟨⟨j + 1, _, by go_num, rfl, by omega, by rw [HTA.out.2]; exact congrArg (Value.int .i64) (by omega), HNW.out⟩, by simp [numOf]; omega⟩
            · have e1 : (((n : Int) / 8) % 2 == 1) = false := by rw [beq_eq_false_iff_ne]; omega
              have HLN := Lib.hid (show litN n = (1 + (n : Int) % 8) by rw [HL0.out, if_neg hodd]; omega)
              clear HL0
              go_upto_region 17 with fail
              refine wp_region_lit ?_
              refine wpList_cutH 2 (fun K hK => ?_)
              simp only [List.take_succ_cons, List.take_zero]
              go_wp2_with fail
              refine Halt_.intro ?_; try simp only [List.drop_succ_cons, List.drop_zero]
              refine wpList_push rfl rfl _ _ _ _ rfl rfl rfl 3 1 8 _ Try.underlying22 R14.infoInt rfl (by decide) (by decide) (.int .i64 (1 + (n : Int) % 8)) [.int .i64 (1 + (n : Int) % 8)] rfl rfl rfl (ints_one [(1 + (n : Int) % 8)]) _ _ _ HROW.out rfl rfl (by unfold maxLen; omega) (by omega) ?_
              intro g3 cap3 w3 o3 u3 k3
              simp only [Act.put, List.setIfInBounds_toArray, List.set_cons_zero, List.set_cons_succ]
              have HNW := Lib.hid (show Own wa (.slice (some ⟨g3, 0, none⟩) (j + 1) cap3) (takeN (j + 1) (N / 8)) w3 by
                rw [HTA.out.1, HLN.out]
                exact own_push HOC.out HTL.out o3 u3 k3)
              clear o3 u3 k3 HROW HOC
              go_wp2_with fail
              exact ⟨⟨j + 1, _, by go_num, rfl, by omega, by rw [HTA.out.2]; exact congrArg (Value.int .i64) (by omega), HNW.out⟩, by simp [numOf]; omega⟩
          · have hji : ¬ (j : Int) < M := by omega
            obtain rfl : j = M := by omega
            have HRX := Lib.hid HRC.out
            have hO2 := HOC.out
            rw [← HRC.out] at hO2
            have hrl : (rawC x).length = j := by rw [HRC.out, takeN_length]
            have hrr : ∀ y ∈ rawC x, 1 ≤ y.natAbs ∧ y.natAbs ≤ 8 := fun y hy => by rw [HRC.out] at hy; exact takeN_rng _ _ y hy
            have HRR := Lib.hid (And.intro hrl hrr)
            have HNm := Lib.hid (RNormal_callsF hO2.sl (by omega) (fun y hy => by
              have := hrr y hy
              unfold LitR
              constructor <;> omega))
            have HOX := Lib.hid hO2
            clear hO2 HOC HRX HRC hrl hrr hit
            go_upto_region 19 with (go_at_call 47; (with_reducible refine HNm.out.mono ?_); rintro e w5 ⟨dv, rfl, sd, ud, fd⟩)
            clear hlt3 hji
            have U5 : Upd [] wo w5 := HUA.out.step (HOX.out.u.step ud)
            have HSN := Lib.hid (clsL_snoc (l := xs.take k) (x := x) (by rw [List.length_take]; omega))
            have HO5 := Lib.hid (And.intro (HO.out.1.upd U5 (by simp)) (HO.out.2.2.step U5))
            have hsz5 : wo.heap.size ≤ wp.heap.size := (HUA.out.step HOX.out.u).size
            cases ht : tautB (rawC x) with
            | true =>
              have HN2 := Lib.hid (show clsL (xs.take (k + 1)) = clsL (xs.take k) by rw [HTK.out, HSN.out, if_pos ht]; simp)
              rw [ht] at HNm
              clear HSN sd ud fd U5 HNm
              go_wp2_with fail
              exact ⟨⟨k + 1, F, _, by go_num, rfl, by omega, by omega, by rw [HN2.out]; exact HO5.out.1, HO.out.2.1, HO5.out.2⟩, by simp [numOf]; omega⟩
            | false =>
              have HN2 := Lib.hid (show clsL (xs.take (k + 1)) = clsL (xs.take k) ++ [nrm (rawC x)] by rw [HTK.out, HSN.out, if_neg (by rw [ht]; simp)])
              have hne : 0 < (nrm (rawC x)).length := by
                have h1 : nrm (rawC x) = norm (rawC x) := by unfold nrm; unfold tautB at ht; rw [if_neg (by rw [ht]; simp)]
                rw [h1]
                have h2 : 0 < (rawC x).length := by rw [HRR.out.1]; omega
                exact List.length_pos_of_mem ((norm_mem (rawC x) _).2 (List.getElem_mem h2))
              obtain ⟨vals, hv, hvals⟩ := HO5.out.1.ex
              have hcl26 : (clsL (xs.take k)).length ≤ 26 := by
                unfold clsL
                rw [List.length_map]
                refine Nat.le_trans (List.length_filter_le _ _) ?_
                rw [List.length_map, List.length_take]
                omega
              obtain ⟨ad, capd, rfl, qd1, qd2, hcd⟩ := SL.form sd
              have hbd : ∀ q, (Value.slice ad (nrm (rawC x)).length capd).ownBlock = some q → ov.ownBlock ≠ some q ∧ q < w5.heap.size := fun q hq => by
                have h1 := fd q hq
                obtain ⟨g7, o7, rfl, k7⟩ := hcd hne
                simp only [Value.ownBlock, Option.some.injEq] at hq
                subst hq
                have h2 := World.block_lt_of_cell? _ _ (k7 0 _ (ints_get (List.getElem?_eq_getElem hne)))
                refine ⟨fun h => ?_, h2⟩
                have := HO.out.1.own_lt _ h
                omega
              have hfw : ∀ q ∈ F ++ (Value.slice ad (nrm (rawC x)).length capd).ownBlock.toList, w.heap.size ≤ q := fun q hq => by
                rcases List.mem_append.1 hq with hq | hq
                · exact HO.out.2.1 q hq
                · have := fd q (by simpa using hq)
                  have := HO.out.2.2.size
                  omega
              have HFW := Lib.hid hfw
              have HBD := Lib.hid (And.intro hbd (And.intro sd hvals))
              rw [ht] at HNm
              clear hcd sd ud fd U5 HNm hbd hvals HSN hfw
              generalize hcc : clsL (xs.take k) = cs at *
              generalize hdd : nrm (rawC x) = dd at *
              have HCD := Lib.hid (And.intro hcc hdd)
              clear hcc hdd
              go_upto_region 20 with fail
              refine wp_region_lit ?_
              refine wpList_cutH 2 (fun K hK => ?_)
              simp only [List.take_succ_cons, List.take_zero]
              go_wp2_with fail
              refine Halt_.intro ?_; try simp only [List.drop_succ_cons, List.drop_zero]
              refine wpList_push rfl rfl _ _ _ _ rfl rfl rfl 22 1 24 _ Try.underlying23 infoInts rfl (by decide) (by decide) (.slice ad dd.length capd) [.slice ad dd.length capd] rfl rfl rfl (by simp [Value.oneCell']) _ _ _ hv.row rfl rfl (by unfold maxLen; omega) (by omega) ?_
              intro g2 cap2 w2 o2 u2 k2
              simp only [Act.put, List.setIfInBounds_toArray, List.set_cons_zero, List.set_cons_succ]
              have L2 := HO5.out.1.push (y := .slice ad dd.length capd) (c := dd) hv HBD.out.2.2 HO5.out.2.size HBD.out.2.1 HBD.out.1 o2 u2 k2
              have HL2 := Lib.hid (show OwnL 22 w _ (clsL (xs.take (k + 1))) _ w2 by rw [HN2.out]; exact L2)
              have hF2 : ∀ q ∈ F ++ (Value.slice ad dd.length capd).ownBlock.toList, w.heap.size ≤ q := HFW.out
              have HF2 := Lib.hid hF2
              have HU2 := Lib.hid (show Upd [] w w2 from HO5.out.2.fresh u2 (fun q hq => .inr (hv.fresh q (by simpa using hq))))
              clear L2 o2 u2 k2 hv hF2
              go_wp2_with fail
              exact ⟨⟨k + 1, _, _, by go_num, rfl, by omega, by omega, HL2.out, HF2.out, HU2.out⟩, by simp [numOf]; omega⟩
      · have hki2 : ¬ (k : Int) < 26 := by omega
        have htk : clsL (xs.take k) = clsL xs := by
          obtain rfl : k = 26 := by omega
          unfold clsL
          rw [List.take_take]
          rfl
        rw [htk] at HO
        clear htk
        go_wp2_with fail
        go_ret
        exact ⟨_, rfl, F, HO.out.1, HO.out.2.1, HO.out.2.2⟩
    · have hki : ¬ (k : Int) < xs.length := by omega
      have htk : clsL (xs.take k) = clsL xs := by rw [List.take_of_length_le (by omega)]
      rw [htk] at HO
      clear htk
      go_wp2_with fail
      go_ret
      exact ⟨_, rfl, F, HO.out.1, HO.out.2.1, HO.out.2.2⟩
end
end Learn
end Go.Proofs.Ytdhhohnaehdpkaa
