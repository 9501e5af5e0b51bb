/- Walks through the laws of gates: GateDefines. Conditions: none. -/
import Derived.Test.YtobclpfpkpkocaaGateL
import Derived.Test.YtobclpfpkpkocaaGateN
set_option linter.unusedVariables false
set_option linter.unusedSimpArgs false
set_option linter.unusedSectionVars false
open Go.RowKit
namespace Go.Proofs.Ytobclpfpkpkocaa
open L
namespace Gate
open Cla R14 R01
/-- An assignment: bit v of m as 1 or -1. -/
def sgn (m : Int) (v : Nat) : Int := 2 * (m / 2 ^ v % 2) - 1
def asg (m : Int) (n : Nat) : List Int := 0 :: (List.range n).map (sgn m)
theorem asg_snoc (m : Int) (n : Nat) : asg m (n + 1) = asg m n ++ [2 * (m / 2 ^ n % 2) - 1] := by simp [asg, List.range_succ, sgn]
theorem asg_len (m : Int) (n : Nat) : (asg m n).length = n + 1 := by simp [asg]
theorem sgn_pm (m : Int) (v : Nat) : sgn m v = 1 ∨ sgn m v = -1 := by unfold sgn; omega
theorem shr_lo {m : Int} (h : 0 ≤ m) (v : Nat) : 0 ≤ m / 2 ^ v := Int.ediv_nonneg h (Int.le_of_lt (Int.pow_pos (by omega)))
theorem shr_hi {m : Int} (h : 0 ≤ m) (v : Nat) : m / 2 ^ v ≤ m := Int.ediv_le_self _ h
theorem asg_get (m : Int) {n i : Nat} (h1 : 1 ≤ i) (h2 : i ≤ n) : (asg m n).getD i 0 = sgn m (i - 1) := by
  unfold asg
  obtain ⟨j, rfl⟩ : ∃ j, i = j + 1 := ⟨i - 1, by omega⟩
  rw [List.getD_eq_getElem?_getD, List.getElem?_cons_succ, List.getElem?_map, List.getElem?_range (by omega)]
  simp
theorem asg_i64 (m : Int) (n : Nat) : ∀ x ∈ asg m n, IsI64 x := by
  intro x hx
  unfold asg at hx
  rcases List.mem_cons.1 hx with rfl | hx
  · unfold IsI64; omega
  · obtain ⟨v, _, rfl⟩ := List.mem_map.1 hx
    have := sgn_pm m v
    unfold IsI64; omega
theorem some_ok {k : Int} {xs : List Int} (h0 : 0 ≤ k) (h6 : k ≤ 6) (hl : xs.length = ninp k) (hx : ∀ x ∈ xs, 1 ≤ x.natAbs ∧ (x.natAbs : Int) ≤ max 1 (4 - 1)) : gOk k 4 xs = true :=
  gOk_iff.2 ⟨⟨h0, h6⟩, by omega, hl, fun x hx' => by have := hx x hx'; omega⟩
theorem asg_has {m : Int} {n : Nat} {x : Int} (h1 : 1 ≤ x.natAbs) (h2 : x.natAbs ≤ n) : Has1 (asg m n) x ∧ x.natAbs < (asg m n).length ∧ (asg m n).getD x.natAbs 0 ≤ 1 ∧ -1 ≤ (asg m n).getD x.natAbs 0 := by
  have hg := asg_get m h1 h2
  have hs := sgn_pm m (x.natAbs - 1)
  rw [asg_len]
  refine ⟨⟨by omega, ?_⟩, by omega, by omega, by omega⟩
  unfold lval
  split <;> omega
theorem gCl_small {k : Int} {xs : List Int} (hok : gOk k 4 xs = true) (hx : ∀ x ∈ xs, 1 ≤ x.natAbs ∧ x.natAbs ≤ 4) : ∀ c ∈ gCl k 4 xs, listErr c = 0 ∧ c.length ≤ 4 ∧ ∀ x ∈ c, 1 ≤ x.natAbs ∧ x.natAbs ≤ 4 := by
  intro c hc
  unfold gCl keep at hc
  obtain ⟨d, hd, rfl⟩ := List.mem_map.1 hc
  have hd2 := (List.mem_filter.1 hd).1
  obtain ⟨h1, h2, h3, h4⟩ := (gRaw_ok hok).1 d hd2
  have hl := norm_length d
  have hsm : ∀ x ∈ norm d, 1 ≤ x.natAbs ∧ x.natAbs ≤ 4 := by
    intro x hxm
    rw [norm_mem] at hxm
    obtain ⟨r, hr, rfl⟩ := List.mem_map.1 hd2
    obtain ⟨n, hn, rfl⟩ := List.mem_map.1 hxm
    obtain ⟨⟨k0, k6⟩, _, hle, _⟩ := gOk_iff.1 hok
    have hrow := ((rowsOf_ok k0 k6).1 r hr).2.2 n hn
    have h5 := ninp_le k
    have hv : 1 ≤ (litVar 4 xs n.natAbs).natAbs ∧ (litVar 4 xs n.natAbs).natAbs ≤ 4 := by
      unfold litVar
      rcases hrow with h | ⟨ha, hb⟩
      · rw [if_neg (by omega)]; decide
      · rw [if_pos (by omega)]; exact hx _ (gd_mem (by omega))
    unfold litOf
    split <;> omega
  exact ⟨listErr_lits (by omega) (fun x hxm => by have := hsm x hxm; omega), by omega, hsm⟩
theorem SL_mid {w : World} {a : Option Addr} {n cap i : Nat} {xs : List Int} (h : SL w 1 (.slice a n cap) n (ints xs)) (hi : i < n) : SL w 1 (sliced a i (i + 1) cap 1) 1 (ints [xs.getD i 0]) := by
  unfold sliced
  rw [Nat.mul_one]
  obtain ⟨h1, a', cap', he, h2, h3, h5, h4⟩ := h
  cases he
  rw [ints_length, Nat.mul_one] at h1
  refine ⟨rfl, _, _, by rw [show i + 1 - i = 1 by omega], by omega, by omega, ?_, ?_⟩
  · intro hn
    split at hn
    · omega
    · cases a with
      | none => have := h5 rfl; omega
      | some x => cases hn
  · rcases h4 with h4 | ⟨b, off, rfl, h4⟩
    · omega
    · right
      rw [if_neg (by omega)]
      refine ⟨b, off + i, by simp [addr_add], fun j u hj => ?_⟩
      cases j with
      | zero =>
        simp [ints] at hj
        subst hj
        exact h4 i _ (ints_gd (by omega))
      | succ j => simp [ints] at hj
attribute [-go_sem] sliced
/-- Are all clauses true? -/
def allT (A : List Int) (L : List (List Int)) : Bool := L.all (tru A)
theorem allT_snoc (A : List Int) {L : List (List Int)} {j : Nat} (h : j < L.length) : allT A (L.take (j + 1)) = (allT A (L.take j) && tru A (L.getD j [])) := by
  unfold allT
  rw [List.take_add_one, gd_some (d := []) h, List.all_append]
  simp
theorem infoBool : (Try.prog.info? 4).map (fun i => (i.zero, i.size, i.bytes)) = some (some (.bool false), 1, 1) := by kernel_rfl
section
variable {w : World}
set_option maxRecDepth 100000 in
set_option maxHeartbeats 8000000 in
theorem GateDefines_calls (n : Int) (hn : IsI64 n) : Calls Try.prog 5 #[.int .i64 n] w fun e w' => e = .returned (.bool true) ∧ Upd [] w w' := by
  go_enter Try.func5, Try.ntmps5
  go_upto_region 2 with (first | (go_at_call 8; refine (SomeG_calls n 4 hn (by omega) (by omega)).mono ?_; rintro e w2 ⟨kk, ys, v2, rfl, hk0, hk6, hyl, hys, hO⟩; have hok := some_ok hk0 hk6 hyl hys; have hyl1 : ys.length ≤ 3 := (by have := ninp_le kk; omega); obtain ⟨av, cv, rfl, hcv, _⟩ := hO.form; have HO := Lib.hid (And.intro hO (And.intro hys (And.intro hyl hok))); clear hO hys hyl hok) | (go_at_call 11; refine Own_calls.mono ?_; rintro e w3 ⟨rfl, u3⟩; have H3 := Lib.hid u3; clear u3))
  have NB := Blk.new w3 [.int .i64 kk, .int .i64 4, .slice av ys.length cv] 32
  have U4 := (Upd.refl [] w3).alloc (.cells #[.int .i64 kk, .int .i64 4, .slice av ys.length cv] 32)
  generalize w3.alloc (.cells #[.int .i64 kk, .int .i64 4, .slice av ys.length cv] 32) = w4 at *
  generalize w3.heap.size = b at *
  have c0 := NB.cell (i := 0) rfl
  have c1 := NB.cell (i := 1) rfl
  have c2 := NB.cell (i := 2) rfl
  have H4 := Lib.hid (And.intro NB (And.intro ((HO.out.1.u.step H3.out).step U4) ((HO.out.1.sl.upd H3.out (by simp)).upd U4 (by simp))))
  clear NB U4 H3
  go_wp2_with fail
  refine (GClauses_calls (k := kk) (o := 4) H4.out.2.2).mono ?_
  intro e w5 hc
  obtain ⟨v5, rfl, C5, u5⟩ := hc.2 HO.out.2.2.2
  obtain ⟨a5, cap5, rfl, hq5, hr5, hcells⟩ := C5.form
  have H5 := Lib.hid (And.intro hcells (And.intro (H4.out.1.upd u5 (by simp)) (And.intro (H4.out.2.1.step u5) (H4.out.2.2.upd u5 (by simp)))))
  have hll : (gCl kk 4 ys).length ≤ 8 := Nat.le_trans (keep_len _) (gRaw_ok HO.out.2.2.2).2
  clear hc C5 u5 hcells c0 c1 c2
  generalize hLL : gCl kk 4 ys = LL at *
  have HLL := Lib.hid hLL
  clear hLL
  go_wp2_with fail
  go_loopw [6] (fun i wr => ∃ m : Nat, i = .int .i64 m ∧ m ≤ 16 ∧ Upd [] w5 wr) (fun i _ => 16 - (intOf i).toNat)
  case atStart => exact ⟨0, rfl, Nat.zero_le _, Upd.refl _ _⟩
  case round =>
    obtain ⟨wo, rfl⟩ : ∃ wo : World, wo = wr := ⟨_, rfl⟩
    obtain ⟨m, rfl, hm, hu⟩ := hrel
    by_cases hlt : m < 16
    · have HU := Lib.hid (And.intro hu (H5.out.2.1.upd hu (by simp)))
      clear hu
      have hlt' : (m : Int) < 16 := by omega
      go_upto_region 9 with fail
      have NA := Blk.new wo (ints [0]) 3
      have UA := (Upd.refl [] wo).alloc (.cells (ints [0]).toArray 3)
      have OA : Own wo (.slice (some ⟨wo.heap.size, 0, none⟩) 1 1) (asg m 0) (wo.alloc (.cells (ints [0]).toArray 3)) := ⟨owns_blk NA rfl (by unfold maxLen; omega), fun g hg => by simp [Value.ownBlock] at hg; omega, UA⟩
      have HA := Lib.hid OA
      clear NA UA OA
      go_wp2_with fail
      go_loopw [7, 8] (fun o i wr => ∃ v : Nat, i = .int .i64 v ∧ v ≤ 4 ∧ Own wo o (asg m v) wr) (fun _ i _ => 4 - (intOf i).toNat)
      case atStart => exact ⟨0, rfl, Nat.zero_le _, HA.out⟩
      case round =>
        clear HA
        obtain ⟨v, rfl, hv, hO⟩ := hrel
        have hal := Lib.hid (asg_len m v)
        by_cases hlv : v < 4
        · obtain ⟨ao, co, rfl, _, _⟩ := hO.form
          have HO2 := Lib.hid hO
          clear hO
          have hq0 := shr_lo (show 0 ≤ (m : Int) by omega) v
          have hq1 := shr_hi (show 0 ≤ (m : Int) by omega) v
          have HS := Lib.hid (asg_snoc m v)
          have hal4 : (asg m v).length ≤ 5 := by have := hal.out; omega
          go_upto_region 12 with fail
          go_wp2_with (refine wpList_push rfl rfl _ _ _ _ rfl rfl rfl 3 1 8 _ Try.underlying22 infoInt rfl (by decide) (by decide) (.int .i64 _) [.int .i64 _] rfl rfl rfl (ints_one [_]) _ _ _ HO2.out.row rfl rfl (by unfold maxLen; omega) (by omega) ?_; intro g4 cap4 w4' o4 u4 k4)
          have N := HO2.out.push o4 u4 k4
          exact ⟨⟨v + 1, by go_num, by omega, by rw [HS.out]; exact N⟩, by simp [intOf]; omega⟩
        · have hv4 : v = 4 := by omega
          subst hv4
          rw [show ((4 : Nat) : Int) = 4 from rfl]
          obtain ⟨ao, co, rfl, _, _⟩ := hO.form
          have HA := Lib.hid hO
          clear hO
          have hl5 := hal.out
          have HAS := Lib.hid (fun (x : Int) (h1 : 1 ≤ x.natAbs) (h2 : x.natAbs ≤ 4) => asg_has (m := (m : Int)) h1 h2)
          have HI6 := Lib.hid (asg_i64 (m : Int) 4)
          generalize asg (m : Int) 4 = A at *
          clear hal
          have HY := Lib.hid (And.intro (HU.out.1.step HA.out.u) (And.intro (HU.out.2.upd HA.out.u (by simp)) (And.intro HA.out.sl ((H5.out.2.2.2.upd HU.out.1 (by simp)).upd HA.out.u (by simp)))))
          have HL5 := Lib.hid hl5
          clear hl5
          go_wp2_with fail
          obtain ⟨wa, hwa⟩ : ∃ wa : World, wa = wr := ⟨_, rfl⟩
          have HWA := Lib.hid hwa
          rw [← hwa] at HY ⊢
          clear hwa
          go_loopw [9, 10] (fun o i wr => ∃ j : Nat, i = .int .i64 j ∧ j ≤ ys.length ∧ OwnV wa 4 1 o j (bools ((ys.map (isT A)).take j)) wr ∧ Upd [] wa wr) (fun _ i _ => ys.length - (intOf i).toNat)
          case atStart => exact ⟨0, rfl, Nat.zero_le _, OwnV.nil _ _ _ _, Upd.refl _ _⟩
          case round =>
            obtain ⟨wi, rfl⟩ : ∃ wi : World, wi = wr := ⟨_, rfl⟩
            obtain ⟨j, rfl, hj, hOB, hui⟩ := hrel
            have hBi := HY.out.2.1.upd hui (by simp)
            have c0 := hBi.cell (i := 0) rfl
            have c2 := hBi.cell (i := 2) rfl
            have HB := Lib.hid (And.intro hOB hui)
            obtain ⟨ab, cb, rfl, _, _⟩ := hOB.sl.val
            clear hOB hui hBi
            by_cases hlj : j < ys.length
            · have hmid := SL_mid (HY.out.2.2.2.upd HB.out.2 (by simp)) hlj
              have hxs := HO.out.2.1 _ (gd_mem hlj)
              have hts : (ys.map (isT A)).take (j + 1) = (ys.map (isT A)).take j ++ [isT A (ys.getD j 0)] := by rw [List.take_add_one, List.getElem?_map, gd_some (d := 0) hlj]; rfl
              generalize ys.getD j 0 = x at *
              have hst : stateRes [x] A = (isT A x, [], 0) := by
                rw [state_has (listErr_lits (by simp) (fun y hy => by simp at hy; subst hy; omega)) (fun y hy => by simp at hy; subst hy; exact HAS.out y (by omega) (by omega))]
                simp [tru]
              have HST := Lib.hid (State_calls (c := [x]) hmid (HY.out.2.2.1.upd HB.out.2 (by simp)) HI6.out)
              have HTS := Lib.hid (And.intro hst hts)
              clear hmid hxs hst hts
              go_wp2_with fail
              refine HST.out.mono ?_
              rintro e w7 ⟨v7, rfl, o7⟩
              rw [HTS.out.1]
              have hv7 := o7.form
              rw [HTS.out.1] at hv7
              obtain ⟨a7, c7, rfl, _, _⟩ := hv7
              have u7 := o7.u
              have HB7 := Lib.hid (And.intro (HB.out.1.upd u7 (by simp)) (HB.out.2.step u7))
              clear o7 u7 HST
              simp only
              generalize isT A x = bx at *
              go_wp2_with (refine wpList_push rfl rfl _ _ _ _ rfl rfl rfl 4 1 1 _ Try.underlying41 infoBool rfl (by decide) (by decide) (.bool bx) [.bool bx] rfl rfl rfl (by simp [Value.oneCell']) _ _ _ HB7.out.1.row rfl rfl (by unfold maxLen; omega) (by omega) ?_; intro g8 cap8 w8 o8 u8 k8)
              have N8 := HB7.out.1.push HB7.out.2.size o8 k8
              have U8 := HB7.out.2.fresh u8 (fun b hb => .inr (HB7.out.1.fresh b (by simpa using hb)))
              exact ⟨⟨j + 1, by go_num, by omega, by rw [HTS.out.2]; simpa [bools] using N8, U8⟩, by simp [intOf]; omega⟩
            · have hje : j = ys.length := by omega
              subst hje
              have hbsl : (ys.map (isT A)).length = ys.length := List.length_map _
              have hsl : SL wi 1 (.slice ab ys.length cb) (ys.map (isT A)).length (bools (ys.map (isT A))) := by
                have := HB.out.1.sl
                rw [List.take_of_length_le (by omega)] at this
                rw [hbsl]; exact this
              have HV := Lib.hid (Value_calls (k := kk) hsl)
              have hvok : vOk kk (ys.map (isT A)).length = true := by
                unfold vOk kOk
                rw [hbsl, HO.out.2.2.1]
                simp [hk0, hk6]
              have HVO := Lib.hid hvok
              have hlaw := gate_law (A := A) hk0 hk6 HO.out.2.2.1 (HAS.out 4 (by decide) (by decide)).1 (fun x hx => (HAS.out x (HO.out.2.1 x hx).1 (by have := (HO.out.2.1 x hx).2; omega)).1)
              rw [HLL.out] at hlaw
              have HLAW := Lib.hid (show allT A LL = (gVal kk (ys.map (isT A)) == isT A 4) from hlaw)
              have hA4 := HAS.out 4 (by decide) (by decide)
              have HSM := Lib.hid (fun c (hc : c ∈ LL) => gCl_small HO.out.2.2.2 (fun x hx => ⟨(HO.out.2.1 x hx).1, by have := (HO.out.2.1 x hx).2; omega⟩) c (by rw [HLL.out]; exact hc))
              clear hsl hbsl hvok hlaw hA4
              generalize ys.map (isT A) = bs at *
              go_wp2_with fail
              refine HV.out.mono ?_
              rintro e w8 ⟨rfl, u8⟩
              rw [HVO.out, Bool.true_and, if_pos rfl]
              have H8 := Lib.hid (HB.out.2.step u8)
              generalize gVal kk bs = vb at *
              clear u8 HV HVO HB
              go_wp2_with fail
              go_loopw [16, 17] (fun o i wr => ∃ j : Nat, i = .int .i64 j ∧ j ≤ LL.length ∧ o = .bool (allT A (LL.take j)) ∧ Upd [] w8 wr) (fun _ i _ => LL.length - (intOf i).toNat)
              case atStart => exact ⟨0, rfl, Nat.zero_le _, rfl, Upd.refl _ _⟩
              case round =>
                obtain ⟨wi2, rfl⟩ : ∃ wi : World, wi = wr := ⟨_, rfl⟩
                obtain ⟨j, rfl, hj, rfl, hu2⟩ := hrel
                by_cases hlj : j < LL.length
                · obtain ⟨g, off, ac, capc, rfl, e1, hsc, _, _⟩ := (H5.out.1 j hlj).upd (((HU.out.1.step HA.out.u).step (by rw [← HWA.out]; exact H8.out)).step hu2)
                  have hsm := HSM.out _ (gd_memA (d := []) hlj)
                  have HTS := Lib.hid (allT_snoc A hlj)
                  generalize LL.getD j [] = c at *
                  have hst : stateRes c A = (tru A c, [], 0) := state_has hsm.1 (fun x hx => HAS.out x (hsm.2.2 x hx).1 (hsm.2.2 x hx).2)
                  have HST := Lib.hid (State_calls hsc ((HY.out.2.2.1.upd H8.out (by simp)).upd hu2 (by simp)) HI6.out)
                  have HU2 := Lib.hid (And.intro hu2 hst)
                  clear hsc hsm hst hu2
                  generalize allT A (LL.take j) = ob at *
                  go_wp2_with fail
                  refine HST.out.mono ?_
                  rintro e w9 ⟨v9, rfl, o9⟩
                  rw [HU2.out.2]
                  have hv9 := o9.form
                  rw [HU2.out.2] at hv9
                  obtain ⟨a9, c9, rfl, _, _⟩ := hv9
                  have H9 := Lib.hid (HU2.out.1.step o9.u)
                  clear o9 HST
                  simp only
                  generalize tru A c = tb at *
                  cases ob with
                  | true =>
                    go_wp2_with fail
                    exact ⟨⟨j + 1, by go_num, by omega, by rw [HTS.out, Bool.true_and], H9.out⟩, by simp [intOf]; omega⟩
                  | false =>
                    go_wp2_with fail
                    exact ⟨⟨j + 1, by go_num, by omega, by rw [HTS.out, Bool.false_and], H9.out⟩, by simp [intOf]; omega⟩
                · have hfull : allT A (LL.take j) = allT A LL := by rw [List.take_of_length_le (by omega)]
                  rw [hfull, HLAW.out]
                  have hA4 : isT A 4 = (A.getD 4 0 == 1) := by simp [isT, lval]
                  rw [hA4]
                  obtain ⟨_, _, he, _, _, kA⟩ := SL.elems ((HY.out.2.2.1.upd H8.out (by simp)).upd hu2 (by simp))
                  cases he
                  obtain ⟨ga, offa, rfl, kA2⟩ := kA (by have := HL5.out; omega)
                  have e4 := kA2 4 _ (ints_gd (by have := HL5.out; omega))
                  have hl5 := HL5.out
                  have HF := Lib.hid (((HU.out.1.step HA.out.u).step (by rw [← HWA.out]; exact H8.out)).step hu2)
                  clear hfull hA4 kA kA2 hu2
                  generalize A.getD 4 0 = y4 at *
                  have hl5' : (4 : Int) < A.length := by omega
                  have hl5'' : 4 < A.length := by omega
                  clear hl5
                  by_cases hy : y4 = 1
                  · have hb : (y4 == 1) = true := by simpa using hy
                    rw [hb]
                    clear hy
                    cases vb <;>
                    · go_wp2_with fail
                      exact ⟨⟨m + 1, by go_num, by omega, HF.out⟩, by simp [intOf]; omega⟩
                  · have hb : (y4 == 1) = false := by simpa using hy
                    rw [hb]
                    clear hy
                    cases vb <;>
                    · go_wp2_with fail
                      exact ⟨⟨m + 1, by go_num, by omega, HF.out⟩, by simp [intOf]; omega⟩
    · go_wp2_with fail
      refine (lives_calls).mono ?_
      rintro e w6 ⟨rfl, u6⟩
      go_wp2_with fail
      go_ret
      exact ⟨rfl, (H5.out.2.2.1.step hu).step u6⟩
end
end Gate
end Go.Proofs.Ytobclpfpkpkocaa
