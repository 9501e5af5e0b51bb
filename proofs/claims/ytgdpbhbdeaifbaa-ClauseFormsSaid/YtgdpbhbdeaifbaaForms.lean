/- Walks through the laws of clauses: ClauseForms. Conditions: none. -/
import Derived.Test.YtgdpbhbdeaifbaaLives14
import Derived.Test.YtgdpbhbdeaifbaaRef14c
set_option linter.unusedVariables false
set_option linter.unusedSimpArgs false
set_option linter.unusedSectionVars false
open Go.RowKit
namespace Go.Proofs.Ytgdpbhbdeaifbaa
open L
namespace Law
open R01 R14 Cla
theorem nL_ok {c : List Int} (h : listErr c = 0) : (∀ x ∈ nL c, x ≠ 0 ∧ LitR x) ∧ (nL c).length ≤ 65536 ∧ Cla.Ord (nL c) := by
  have hl := listErr_lit h
  have e : nL c = nrm c := by unfold nL; rw [if_pos h]
  rw [e]
  unfold nrm
  cases ht : taut c with
  | true => simp [Cla.Ord]
  | false =>
    simp only [Bool.false_eq_true, if_false]
    refine ⟨fun x hx => ?_, Nat.le_trans (norm_length c) hl.1, norm_ord ht⟩
    have := hl.2 x ((norm_mem c x).1 hx)
    exact ⟨this.1, this.2⟩
theorem isL_of {x : Int} (h : x ≠ 0 ∧ LitR x) : isL x = true := by
  obtain ⟨h1, h2, h3⟩ := h
  simp [isL, h1, h2, h3]
theorem listErr_of {c : List Int} (h1 : c.length ≤ 65536) (h2 : ∀ x ∈ c, x ≠ 0 ∧ LitR x) : listErr c = 0 := by
  unfold listErr
  rw [if_neg (by omega), if_pos]
  rw [List.all_eq_true]
  exact fun x hx => isL_of (h2 x hx)
theorem nL_valid {c : List Int} (h : listErr c = 0) : validErr (nL c) = 0 ∧ listErr (nL c) = 0 ∧ nL (nL c) = nL c ∧ nB (nL c) = false := by
  obtain ⟨h1, h2, h3⟩ := nL_ok h
  have h4 := listErr_of h2 h1
  have h5 := norm_id h3 (fun x hx => (h1 x hx).1)
  refine ⟨validErr_ok.2 ⟨h4, h3⟩, h4, ?_, ?_⟩
  · have e : nL (nL c) = nrm (nL c) := by
      generalize nL c = d at *
      unfold nL
      rw [if_pos h4]
    rw [e]
    generalize nL c = d at *
    unfold nrm
    rw [h5.2, h5.1]
    rfl
  · unfold nB
    rw [h5.2]
    simp
def zer (n : Nat) : List Int := List.replicate n 0
theorem zer_length (n : Nat) : (zer n).length = n := List.length_replicate
theorem zer_rows (n : Nat) : (rows n fun _ => (Value.cells (.int .i64 0)).toList) = ints (zer n) := by
  rw [show (fun _ : Nat => (Value.cells (.int .i64 0)).toList) = fun _ => [Value.int .i64 0] from rfl, rows_one]
  simp [ints, zer]
theorem listErr_long (n : Nat) (h : 65536 < n) (c : List Int) (hc : c.length = n) : listErr c = 4 := by unfold listErr; rw [if_pos (by omega)]
section
variable {w : World}
set_option maxRecDepth 100000 in
set_option maxHeartbeats 8000000 in
theorem ClauseForms_calls {lv : Value} {xs : List Int} (hx : ∀ x ∈ xs, IsI64 x) (hl : SL w 1 lv xs.length (ints xs)) (n : Int) (hn : IsI64 n) :
    Calls Try.prog 4 #[lv, .int .i64 n] w fun e w' => e = .returned (.bool true) ∧ Upd [] w w' := by
  have HX := Lib.hid (And.intro hx hl)
  clear hx hl
  go_enter Try.func4, Try.ntmps4
  go_wp2_with fail
  refine (Lists_calls HX.out.1 HX.out.2 n hn).mono ?_
  rintro e w1 ⟨v1, Ls, rfl, hcl, hln, hel, hu1⟩
  obtain ⟨a, cap, rfl, hc1, hc2, hcc⟩ := hcl.form
  have HL := Lib.hid (And.intro hcc (And.intro hel hu1))
  have hLn : Ls.length ≤ 9 := by omega
  clear hcl hln hel hu1 hcc HX
  go_wp2_with fail
  go_loopw [6] (fun i wr => ∃ k : Nat, k ≤ Ls.length ∧ i = .int .i64 k ∧ Upd [] w1 wr) (fun i _ => Ls.length - (intOf i).toNat)
  case atStart => exact ⟨0, Nat.zero_le _, rfl, Upd.refl _ _⟩
  case round =>
    obtain ⟨k, hk, rfl, hu⟩ := hrel
    by_cases hlt : k < Ls.length
    · obtain ⟨g, off, ay, capy, rfl, e1, hsl, hq, hr⟩ := (HL.out.1 k hlt).upd hu
      have HU := Lib.hid hu
      have hcl2 := (HL.out.2.1 _ (gd_memA (d := []) hlt)).1
      generalize Ls.getD k [] = c at *
      clear hu
      go_wp2_with fail
      refine (Normal_calls hsl).mono ?_
      rintro e w2 ⟨v2, rfl, s2, u2⟩
      have e2 := u2.some e1 (by simp)
      have H2 := Lib.hid (And.intro s2 (And.intro (hsl.upd u2 (by simp)) (HU.out.step u2)))
      clear s2 u2 hsl e1 HU
      go_wp2_with fail
      refine (RList_calls H2.out.2.1).mono ?_
      rintro e _ ⟨rfl, rfl⟩
      go_wp2_with fail
      refine wp_region_qx (by kernel_rfl) (by kernel_rfl) ?_
      repeat (go_big_quiet_step (((first | (go_at_call 19; exact qx (Valid_calls (H2.out.2.1.upd (Ext.upd _) (by simp)))) | (go_at_call 20; exact qx (RValid_calls (H2.out.2.1.upd (Ext.upd _) (by simp))))))))
      refine wpQuiet_nil ?_
      intro x
      have e3 := x.upd.some e2 (by simp)
      have H3 := Lib.hid (And.intro (H2.out.1.upd x.upd (by simp)) (And.intro (H2.out.2.1.upd x.upd (by simp)) (H2.out.2.2.step x.upd)))
      clear e2 H2
      generalize x.val = w3 at *
      clear x
      by_cases hle : listErr c = 0
      · have HV := Lib.hid (And.intro (nL_valid hle) (And.intro (nL_ok hle) (And.intro (listErr_lit hle) hle)))
        have hnl : nL c = nrm c := by unfold nL; rw [if_pos hle]
        have hnb : nB c = tautB c := by unfold nB tautB; rw [hle]; simp
        have HN := Lib.hid (And.intro hnl hnb)
        rw [hle]
        clear hle hnl hnb
        obtain ⟨a2, c2, rfl, _, _, _⟩ := SL.elems H3.out.1
        go_wp2_with fail
        refine (RNormal_calls H3.out.2.1 (by omega) (fun x hx => by have := HV.out.2.2.1.2 x hx; exact ⟨this.1, this.2⟩)).mono ?_
        rintro e w4 ⟨v4, rfl, s4, u4⟩
        have H4 := Lib.hid (And.intro (H3.out.1.upd u4 (by simp)) (And.intro s4 (H3.out.2.2.step u4)))
        clear s4 u4 H3
        go_wp2_with fail
        refine (Normal_calls H4.out.1).mono ?_
        rintro e w5 ⟨v5, rfl, s5, u5⟩
        rw [HV.out.1.2.1, HV.out.1.2.2.2]
        rw [HV.out.1.2.2.1] at s5
        have H5 := Lib.hid (And.intro (H4.out.1.upd u5 (by simp)) (And.intro (H4.out.2.1.upd u5 (by simp)) (And.intro s5 (H4.out.2.2.step u5))))
        clear s5 u5 H4
        rw [HN.out.2]
        rw [HN.out.1] at H5 HV ⊢
        have hb1 : (tautB c != tautB c) = false := by simp
        generalize tautB c = tb at *
        go_wp2_with fail
        have hss := SameInts_calls H5.out.1 H5.out.2.1
        simp only [decide_true] at hss
        refine hss.mono ?_
        rintro e w6 ⟨rfl, u6⟩
        have H6 := Lib.hid (And.intro (H5.out.1.upd u6 (by simp)) (And.intro (H5.out.2.2.1.upd u6 (by simp)) (H5.out.2.2.2.step u6)))
        clear hss u6 H5
        go_wp2_with fail
        refine (Valid_calls H6.out.1).mono ?_
        rintro e w7 ⟨rfl, u7⟩
        rw [HV.out.1.1]
        have H7 := Lib.hid (And.intro (H6.out.1.upd u7 (by simp)) (And.intro (H6.out.2.1.upd u7 (by simp)) (H6.out.2.2.step u7)))
        clear u7 H6
        go_wp2_with fail
        have hss := SameInts_calls H7.out.2.1 H7.out.1
        simp only [decide_true] at hss
        refine hss.mono ?_
        rintro e w8 ⟨rfl, u8⟩
        go_wp2_with fail
        exact ⟨⟨k + 1, by omega, by go_num, H7.out.2.2.step u8⟩, by simp [intOf]; omega⟩
      · have hb : (listErr c != 0) = true := by simpa using hle
        have hnl : nL c = [] := by unfold nL; rw [if_neg hle]
        have hnb : nB c = false := by unfold nB; rw [decide_eq_false_iff_not]; rintro ⟨h, _⟩; exact hle h
        rw [hnb]
        have HS := H3.out.1
        rw [hnl] at HS
        obtain ⟨a2, c2, rfl, _, _, _⟩ := SL.elems HS
        clear HS hnb hle hnl
        generalize listErr c = er at *
        go_wp2_with fail
        exact ⟨⟨k + 1, by omega, by go_num, H3.out.2.2⟩, by simp [intOf]; omega⟩
    · have HU := Lib.hid (HL.out.2.2.step hu)
      clear hu
      go_upto_region 16 with fail
      refine wp_region_lit ?_
      refine wpList_mk rfl _ _ _ rfl 3 1 8 _ Try.underlying22 infoInt rfl (by decide) _ _ _ _ 65537 rfl rfl rfl rfl (by omega) (by omega) ?_
      simp only [Act.put, List.setIfInBounds_toArray, List.set_cons_zero, List.set_cons_succ]
      rw [zer_rows]
      have BZ := Blk.new wr (ints (zer 65537)) 3
      have UZ := (Upd.refl [] wr).alloc (.cells (ints (zer 65537)).toArray 3)
      generalize wr.alloc (.cells (ints (zer 65537)).toArray 3) = wz at *
      have hzl := zer_length 65537
      have hz4 := listErr_long 65537 (by omega) _ hzl
      have SZ : SL wz 1 (.slice (some ⟨wr.heap.size, 0, none⟩) (zer 65537).length 65537) (zer 65537).length (ints (zer 65537)) := SL.of_blk (pad := []) (by simpa using BZ) (by rw [ints_length]; omega) (by omega) (by unfold maxLen; omega)
      rw [show (Value.slice (some ⟨wr.heap.size, 0, none⟩) (zer 65537).length 65537) = .slice (some ⟨wr.heap.size, 0, none⟩) 65537 65537 by rw [hzl]] at SZ
      generalize zer 65537 = zs at *
      have HZ := Lib.hid (And.intro SZ (And.intro hz4 (HU.out.step UZ)))
      clear BZ UZ SZ hzl hz4 HU
      go_wp2_with fail
      refine (Normal_calls HZ.out.1).mono ?_
      rintro e w2 ⟨v2, rfl, s2, u2⟩
      rw [HZ.out.2.1]
      have H2 := Lib.hid (And.intro (HZ.out.1.upd u2 (by simp)) (HZ.out.2.2.step u2))
      clear s2 u2
      generalize nB zs = bz at *
      go_wp2_with fail
      have hv : validErr zs = 4 := by unfold validErr; rw [HZ.out.2.1]; rfl
      have hvc := Valid_calls H2.out.1
      rw [hv] at hvc
      have HV := Lib.hid hvc
      clear hv hvc
      refine HV.out.mono ?_
      rintro e w3 ⟨rfl, u3⟩
      have H3 := Lib.hid (H2.out.2.step u3)
      clear u3 H2 HV HZ
      go_wp2_with fail
      refine (lives_calls).mono ?_
      rintro e w4 ⟨rfl, u4⟩
      go_wp2_with fail
      go_ret
      exact ⟨rfl, H3.out.step u4⟩
end
end Law
end Go.Proofs.Ytgdpbhbdeaifbaa
