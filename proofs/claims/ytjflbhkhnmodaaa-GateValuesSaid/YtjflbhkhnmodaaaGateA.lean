/- Walks through package gate: inputs, isLiteral, Valid. Conditions: none. -/
import Derived.Test.YtjflbhkhnmodaaaGateP
set_option linter.unusedVariables false
set_option linter.unusedSimpArgs false
set_option linter.unusedSectionVars false
open Go.RowKit
namespace Go.Proofs.Ytjflbhkhnmodaaa
open L
namespace Gate
open Cla R14
section
variable {w : World}
set_option maxRecDepth 100000 in
theorem inputs_calls (k : Int) : Calls Try.prog 9 #[.int .i64 k] w fun e w' => e = .returned (.tuple #[.int .i64 (ninp k), .bool (kOk k)]) ∧ w = w' := by
  by_cases h0 : k = 0
  · subst h0
    go_enter Try.func9, Try.ntmps9
    go_wp2_with fail
    go_ret2
    exact ⟨rfl, rfl⟩
  by_cases h1 : k = 1
  · subst h1
    go_enter Try.func9, Try.ntmps9
    go_wp2_with fail
    go_ret2
    exact ⟨rfl, rfl⟩
  by_cases h2 : k = 2
  · subst h2
    go_enter Try.func9, Try.ntmps9
    go_wp2_with fail
    go_ret2
    exact ⟨rfl, rfl⟩
  by_cases h3 : k = 3
  · subst h3
    go_enter Try.func9, Try.ntmps9
    go_wp2_with fail
    go_ret2
    exact ⟨rfl, rfl⟩
  by_cases h4 : k = 4
  · subst h4
    go_enter Try.func9, Try.ntmps9
    go_wp2_with fail
    go_ret2
    exact ⟨rfl, rfl⟩
  by_cases h5 : k = 5
  · subst h5
    go_enter Try.func9, Try.ntmps9
    go_wp2_with fail
    go_ret2
    exact ⟨rfl, rfl⟩
  by_cases h6 : k = 6
  · subst h6
    go_enter Try.func9, Try.ntmps9
    go_wp2_with fail
    go_ret2
    exact ⟨rfl, rfl⟩
  have HN := Lib.hid (show ninp k = 0 by unfold ninp; rw [if_neg h0, if_neg (by omega), if_neg (by omega)])
  have HK := Lib.hid (show kOk k = false by unfold kOk; rw [decide_eq_false_iff_not]; omega)
  have b0 : (k == 0) = false := by simpa using h0
  have b1 : (k == 1) = false := by simpa using h1
  have b2 : (k == 2) = false := by simpa using h2
  have b3 : (k == 3) = false := by simpa using h3
  have b4 : (k == 4) = false := by simpa using h4
  have b5 : (k == 5) = false := by simpa using h5
  have b6 : (k == 6) = false := by simpa using h6
  clear h0 h1 h2 h3 h4 h5 h6
  go_enter Try.func9, Try.ntmps9
  go_wp2_with fail
  go_ret2
  rw [HN.out, HK.out]
  exact ⟨rfl, rfl⟩
set_option maxRecDepth 100000 in
theorem isLiteral_calls (x : Int) : Calls Try.prog 22 #[.int .i64 x] w fun e w' => e = .returned (.bool (isL x)) ∧ Upd [] w w' := by
  have HB := Lib.hid (Blk.new w [.int .i64 x] 3)
  have HU := Lib.hid ((Upd.refl [] w).alloc (.cells #[.int .i64 x] 3))
  have HS := Lib.hid (SL.of_blk (xs := ints [x]) (pad := []) (n := 1) (cap := 1) (k := 1) HB.out rfl (Nat.le_refl _) (by unfold maxLen; omega))
  have HE := Lib.hid (isL_valid x)
  go_enter Try.func22, Try.ntmps22
  go_wp2_with fail
  refine (Valid_calls (c := [x]) HS.out).mono ?_
  rintro e w1 ⟨rfl, u1⟩
  have HU1 := Lib.hid (HU.out.step u1)
  clear u1
  generalize validErr [x] = er at *
  go_wp2_with fail
  go_ret
  refine ⟨ret_bool ?_, HU1.out⟩
  rw [← HE.out]
  exact (decide_eq_decide.2 Iff.rfl : _)
set_option maxRecDepth 100000 in
set_option maxHeartbeats 4000000 in
theorem GValid_calls {xv : Value} {k o : Int} {xs : List Int} (h : SL w 1 xv xs.length (ints xs)) :
    Calls Try.prog 19 #[.agg #[.int .i64 k, .int .i64 o, xv]] w fun e w' => e = .returned (.int .i64 (gErr k o xs)) ∧ Upd [] w w' := by
  obtain ⟨a, cap, rfl, q1, r1, hc⟩ := SL.elems h
  have HC := Lib.hid hc
  clear h hc
  go_enter Try.func19, Try.ntmps19
  go_upto_region 1 with fail
  have NB := Blk.new w [.int .i64 k, .int .i64 o, .slice a xs.length cap] 42
  have U1 := (Upd.refl [] w).alloc (.cells #[.int .i64 k, .int .i64 o, .slice a xs.length cap] 42)
  generalize w.alloc (.cells #[.int .i64 k, .int .i64 o, .slice a xs.length cap] 42) = w1 at *
  generalize w.heap.size = b at *
  have c0 := NB.cell (i := 0) rfl
  have c1 := NB.cell (i := 1) rfl
  have c2 := NB.cell (i := 2) rfl
  have H1 := Lib.hid (And.intro NB U1)
  clear NB U1
  cases hk : kOk k with
  | false =>
    have HE := Lib.hid (gErr_bad (show gOk k o xs = false by unfold gOk; rw [hk]; rfl))
    go_wp2_with (go_at_call 9; refine (inputs_calls k).mono ?_; rintro e w' ⟨rfl, rfl⟩; rw [hk])
    go_ret
    exact ⟨ret_int HE.out.symm, H1.out.2⟩
  | true =>
  by_cases ho : o < 1
  · have HE := Lib.hid (gErr_bad (show gOk k o xs = false by rw [Bool.eq_false_iff, ne_eq, gOk_iff]; intro h; omega))
    go_wp2_with (go_at_call 9; refine (inputs_calls k).mono ?_; rintro e w' ⟨rfl, rfl⟩; rw [hk])
    go_ret
    exact ⟨ret_int HE.out.symm, H1.out.2⟩
  cases hol : isL o with
  | false =>
    have HE := Lib.hid (gErr_bad (show gOk k o xs = false by rw [isL_no] at hol; rw [Bool.eq_false_iff, ne_eq, gOk_iff]; intro h; omega))
    go_wp2_with (first | (go_at_call 9; refine (inputs_calls k).mono ?_; rintro e w' ⟨rfl, rfl⟩; rw [hk]) | (go_at_call 22; refine (isLiteral_calls o).mono ?_; rintro e w2 ⟨rfl, u2⟩; rw [hol]; have H2 := Lib.hid (H1.out.2.step u2); clear u2))
    go_ret
    exact ⟨ret_int HE.out.symm, H2.out⟩
  | true =>
  by_cases hn : xs.length = ninp k
  · have hb : ((xs.length : Int) != (ninp k : Int)) = false := by simp [hn]
    have HN := Lib.hid hn
    have ho2 := (isL_iff.1 hol).2.2
    have HOK := Lib.hid (show (∀ x ∈ xs, inOk o x = true) → gErr k o xs = 0 from fun h => gErr_good (by unfold gOk; rw [hk, hn]; rw [isL_iff] at hol; simp only [Bool.true_and, Bool.and_eq_true, decide_eq_true_eq, List.all_eq_true]; exact ⟨by omega, trivial, h⟩))
    clear hn
    go_upto_region 2 with (go_at_call 9; refine (inputs_calls k).mono ?_; rintro e w' ⟨rfl, rfl⟩; rw [hk])
    go_upto_region 4 with (go_at_call 22; refine (isLiteral_calls o).mono ?_; rintro e w2 ⟨rfl, u2⟩; rw [hol]; have H2 := Lib.hid (And.intro (H1.out.2.step u2) (H1.out.1.upd u2 (by simp))); clear u2; have d2 := H2.out.2.cell (i := 2) rfl)
    have HBAD := Lib.hid (fun x (hx : x ∈ xs) (h : inOk o x = false) => gErr_bad (gOk_in (k := k) hx h))
    clear hb hk hol c0 c1 c2
    go_wp2_with fail
    go_loopw [36] (fun i wr => ∃ j : Nat, i = .int .i64 j ∧ j ≤ xs.length ∧ (∀ x ∈ xs.take j, inOk o x = true) ∧ Upd [] w2 wr) (fun i _ => xs.length - (intOf i).toNat)
    case atStart => exact ⟨0, rfl, Nat.zero_le _, by simp, Upd.refl _ _⟩
    case round =>
      obtain ⟨wo, rfl⟩ : ∃ wo : World, wo = wr := ⟨_, rfl⟩
      obtain ⟨j, rfl, hj, hlo, hu⟩ := hrel
      have HLO := Lib.hid (And.intro hlo hu)
      clear hlo hu
      by_cases hlt : j < xs.length
      · obtain ⟨g, off, rfl, k1⟩ := HC.out (by omega)
        have e0 := (H2.out.1.step HLO.out.2).some (k1 j _ (ints_gd hlt)) (by simp)
        have d1 := (H2.out.2.upd HLO.out.2 (by simp)).cell (i := 1) rfl
        have hm := gd_mem hlt
        have hts : xs.take (j + 1) = xs.take j ++ [xs.getD j 0] := by rw [List.take_add_one, gd_some (d := 0) hlt]; rfl
        clear k1
        generalize xs.getD j 0 = x at *
        have HX := Lib.hid (And.intro hm hts)
        clear hm hts
        cases hlx : isL x with
        | false =>
          have HE := Lib.hid (HBAD.out x HX.out.1 (by unfold inOk; rw [hlx]; rfl))
          go_wp2_with (go_at_call 22; refine (isLiteral_calls x).mono ?_; rintro e w3 ⟨rfl, u3⟩; rw [hlx]; have H3 := Lib.hid u3; clear u3)
          go_ret
          exact ⟨ret_int HE.out.symm, (H2.out.1.step HLO.out.2).step H3.out⟩
        | true =>
        by_cases hxo : x = o
        · have HE := Lib.hid (HBAD.out x HX.out.1 (by unfold inOk; rw [hxo]; simp))
          have hb : (x == o) = true := by simpa using hxo
          clear hxo
          go_wp2_with (go_at_call 22; refine (isLiteral_calls x).mono ?_; rintro e w3 ⟨rfl, u3⟩; rw [hlx]; have H3 := Lib.hid u3; have d1' := u3.some d1 (by simp); clear u3)
          go_ret
          exact ⟨ret_int HE.out.symm, (H2.out.1.step HLO.out.2).step H3.out⟩
        by_cases hxn : x = -o
        · have HE := Lib.hid (HBAD.out x HX.out.1 (by unfold inOk; rw [hxn]; simp))
          have hb : (x == o) = false := by simpa using hxo
          have hb2 : (x == -o) = true := by simpa using hxn
          clear hxo hxn
          go_wp2_with (go_at_call 22; refine (isLiteral_calls x).mono ?_; rintro e w3 ⟨rfl, u3⟩; rw [hlx]; have H3 := Lib.hid u3; have d1' := u3.some d1 (by simp); clear u3)
          go_ret
          exact ⟨ret_int HE.out.symm, (H2.out.1.step HLO.out.2).step H3.out⟩
        · have HI := Lib.hid (show inOk o x = true by unfold inOk; rw [hlx]; simp [hxo, hxn])
          have hb : (x == o) = false := by simpa using hxo
          have hb2 : (x == -o) = false := by simpa using hxn
          clear hxo hxn
          go_wp2_with (go_at_call 22; refine (isLiteral_calls x).mono ?_; rintro e w3 ⟨rfl, u3⟩; rw [hlx]; have H3 := Lib.hid u3; have d1' := u3.some d1 (by simp); clear u3)
          refine ⟨⟨j + 1, by go_num, by omega, fun y hy => ?_, HLO.out.2.step H3.out⟩, by simp [intOf]; omega⟩
          rw [HX.out.2] at hy
          rcases List.mem_append.1 hy with hy | hy
          · exact HLO.out.1 y hy
          · simp at hy; subst hy; exact HI.out
      · have HE := Lib.hid (HOK.out (by have := HLO.out.1; rwa [List.take_of_length_le (by omega)] at this))
        go_wp2_with fail
        go_ret
        exact ⟨ret_int HE.out.symm, H2.out.1.step HLO.out.2⟩
  · have hb : ((xs.length : Int) != (ninp k : Int)) = true := by simp; omega
    have HE := Lib.hid (gErr_bad (show gOk k o xs = false by rw [Bool.eq_false_iff, ne_eq, gOk_iff]; intro h; exact hn h.2.2.1))
    clear hn
    go_wp2_with (first | (go_at_call 9; refine (inputs_calls k).mono ?_; rintro e w' ⟨rfl, rfl⟩; rw [hk]) | (go_at_call 22; refine (isLiteral_calls o).mono ?_; rintro e w2 ⟨rfl, u2⟩; rw [hol]; have H2 := Lib.hid (And.intro (H1.out.2.step u2) (H1.out.1.upd u2 (by simp))); clear u2; have d2 := H2.out.2.cell (i := 2) rfl))
    go_ret
    exact ⟨ret_int HE.out.symm, H2.out.1⟩
end
end Gate
end Go.Proofs.Ytjflbhkhnmodaaa
