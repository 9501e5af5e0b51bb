/- Walks through package clause and its reference: Resolve. Conditions: none. -/
import Derived.Test.YtgdpbhbdeaifbaaColl
import Derived.Test.YtgdpbhbdeaifbaaChain
set_option linter.unusedVariables false
set_option linter.unusedSimpArgs false
set_option linter.unusedSectionVars false
open Go.RowKit
namespace Go.Proofs.Ytgdpbhbdeaifbaa
open L
namespace Cla
open R01 R14
def rest2 (a b : List Int) (x : Int) : List Int := wout a x ++ wout b (-x)
def resE (a b : List Int) (x : Int) : Int := if validErr a ≠ 0 then validErr a else if validErr b ≠ 0 then validErr b else if hasB a x = false ∨ hasB b (-x) = false then 7 else if taut (rest2 a b x) = true then 13 else 0
def resL (a b : List Int) (x : Int) : List Int := if resE a b x = 0 then norm (rest2 a b x) else []
def PairE (l : List Int) (r : Int) (w : World) (e : Ending) (w' : World) : Prop := ∃ v, e = .returned (.tuple #[v, .int .i64 r]) ∧ SL w' 1 v l.length (ints l) ∧ Upd [] w w'
theorem wout_mem {c : List Int} {n x : Int} : x ∈ wout c n ↔ x ∈ c ∧ x ≠ n := by simp [wout]
theorem wout_length (c : List Int) (n : Int) : (wout c n).length ≤ c.length := List.length_filter_le _ _
theorem wout_snoc (c : List Int) (n x : Int) : wout (c ++ [x]) n = wout c n ++ if x = n then [] else [x] := by
  unfold wout
  rw [List.filter_append]
  by_cases h : x = n <;> simp [h]
section
variable {w : World}
theorem resL_nil {a b : List Int} {x : Int} (h : resE a b x ≠ 0) : resL a b x = [] := by unfold resL; rw [if_neg h]
theorem ret_nil {a b : List Int} {x r : Int} {w w' : World} (h : resE a b x = r) (h0 : r ≠ 0) (hu : Upd [] w w') : PairE (resL a b x) (resE a b x) w (.returned (.tuple #[.slice none 0 0, .int .i64 r])) w' :=
  ⟨.slice none 0 0, by rw [h], by rw [resL_nil (by rw [h]; exact h0)]; exact (Own.nil w').sl, hu⟩
set_option maxRecDepth 100000 in
set_option maxHeartbeats 4000000 in
theorem Resolve_calls {v1 v2 : Value} {a b : List Int} (h1 : SL w 1 v1 a.length (ints a)) (h2 : SL w 1 v2 b.length (ints b)) (x : Int) :
    Calls Try.prog 25 #[v1, v2, .int .i64 x] w (PairE (resL a b x) (resE a b x) w) := by
  obtain ⟨aa, capa, rfl, _, _, ka⟩ := SL.elems h1
  obtain ⟨ab, capb, rfl, _, _, kb⟩ := SL.elems h2
  have B1 := Blk.new w [.slice aa a.length capa, .slice ab b.length capb] 22
  have ub := (Upd.refl [] w).alloc (.cells #[.slice aa a.length capa, .slice ab b.length capb] 22)
  have HEX := Lib.hid (Examine_calls (CL.of_blk (cs := [a, b]) B1 rfl (by simp) (fun i d hd => by
    match i with
    | 0 => simp at hd; subst hd; exact ⟨_, rfl, h1.upd ub (by simp)⟩
    | 1 => simp at hd; subst hd; exact ⟨_, rfl, h2.upd ub (by simp)⟩
    | (i + 2) => simp at hd)))
  have HB := Lib.hid (And.intro ub (And.intro h1 (And.intro h2 (And.intro ka kb))))
  clear h1 h2 B1 ub ka kb
  have he : examErr [a, b] = if validErr a ≠ 0 then validErr a else validErr b := by
    unfold examErr
    split
    · rfl
    · unfold examErr
      split
      · rfl
      · rename_i h; simp at h; rw [h]; rfl
  rw [he] at HEX
  clear he
  by_cases hv1 : validErr a = 0
  · rw [if_neg (by rw [hv1]; simp)] at HEX
    by_cases hv2 : validErr b = 0
    · have HV := Lib.hid (And.intro (valid_lit hv1) (And.intro (valid_lit hv2) hv2))
      have hal := (valid_lit hv1).1
      have hbl := (valid_lit hv2).1
      have hR : resE a b x = if hasB a x = false ∨ hasB b (-x) = false then 7 else if taut (rest2 a b x) = true then 13 else 0 := by
        unfold resE; rw [if_neg (by rw [hv1]; simp), if_neg (by rw [hv2]; simp)]
      have HR := Lib.hid hR
      clear hv1 hv2 hR
      cases hx1 : hasB a x with
      | false =>
        have HF := Lib.hid (show resE a b x = 7 by rw [HR.out, if_pos (.inl hx1)])
        have HX := Lib.hid hx1
        clear hx1
        go_enter Try.func25, Try.ntmps25
        go_wp2_with fail
        refine HEX.out.mono ?_
        rintro e w1 ⟨rfl, hu1⟩
        rw [HV.out.2.2]
        have HU := Lib.hid (HB.out.1.step hu1)
        have HC1 := Lib.hid (Contains_calls (HB.out.2.1.upd HU.out (by simp)) x)
        rw [HX.out] at HC1
        clear hu1
        go_wp2_with (go_at_call 48; refine HC1.out.mono ?_; rintro e w' ⟨rfl, rfl⟩)
        go_ret2
        exact ret_nil HF.out (by decide) HU.out
      | true =>
        obtain ⟨hxr0, hxr1, hxr2⟩ := HV.out.1.2 x (hasB_iff.1 hx1)
        have HX := Lib.hid (And.intro hx1 hxr0)
        clear hxr0
        cases hx2 : hasB b (-x) with
        | false =>
          have HF := Lib.hid (show resE a b x = 7 by rw [HR.out, if_pos (.inr hx2)])
          have HX2 := Lib.hid hx2
          clear hx1 hx2
          go_enter Try.func25, Try.ntmps25
          go_wp2_with fail
          refine HEX.out.mono ?_
          rintro e w1 ⟨rfl, hu1⟩
          rw [HV.out.2.2]
          have HU := Lib.hid (HB.out.1.step hu1)
          have HC1 := Lib.hid (Contains_calls (HB.out.2.1.upd HU.out (by simp)) x)
          have HC2 := Lib.hid (Contains_calls (HB.out.2.2.1.upd HU.out (by simp)) (-x))
          rw [HX.out.1] at HC1
          rw [HX2.out] at HC2
          clear hu1
          go_wp2_with (first | (go_at_call 48; (with_reducible refine HC1.out.mono ?_); rintro e w' ⟨rfl, rfl⟩) | (go_at_call 48; (with_reducible refine HC2.out.mono ?_); rintro e w' ⟨rfl, rfl⟩))
          go_ret2
          exact ret_nil HF.out (by decide) HU.out
        | true =>
          have HF := Lib.hid (show resE a b x = if taut (rest2 a b x) = true then 13 else 0 by rw [HR.out, if_neg (by rw [hx1, hx2]; simp)])
          have HX2 := Lib.hid hx2
          clear hx1 hx2 HR
          go_enter Try.func25, Try.ntmps25
          go_wp2_with fail
          refine HEX.out.mono ?_
          rintro e w1 ⟨rfl, hu1⟩
          rw [HV.out.2.2]
          have HU := Lib.hid (HB.out.1.step hu1)
          have HC1 := Lib.hid (Contains_calls (HB.out.2.1.upd HU.out (by simp)) x)
          have HC2 := Lib.hid (Contains_calls (HB.out.2.2.1.upd HU.out (by simp)) (-x))
          rw [HX.out.1] at HC1
          rw [HX2.out] at HC2
          clear hu1
          go_wp2_with (first | (go_at_call 48; (with_reducible refine HC1.out.mono ?_); rintro e w' ⟨rfl, rfl⟩) | (go_at_call 48; (with_reducible refine HC2.out.mono ?_); rintro e w' ⟨rfl, rfl⟩) | (refine wpList_mk0 rfl _ _ _ rfl 3 1 8 _ Try.underlying22 infoInt rfl (by decide) _ _ _ _ (a.length + b.length) rfl rfl rfl (by omega) (by omega) (by omega) ?_; simp only [Act.put, List.setIfInBounds_toArray, List.set_cons_zero, List.set_cons_succ]))
          have o0 : Own w (.slice (some ⟨w1.heap.size, 0, none⟩) 0 (a.length + b.length)) [] (w1.alloc (.cells (rows (a.length + b.length) fun _ => [Value.int .i64 0]).toArray 3)) :=
            ⟨owns_empty (Blk.new w1 _ _) (by rw [rows_length (k := 1) (fun _ => rfl)]) (by unfold maxLen; omega), fun g hg => by simp [Value.ownBlock] at hg; have := HU.out.size; omega, HU.out.alloc _⟩
          generalize w1.alloc (.cells (rows (a.length + b.length) fun _ => [Value.int .i64 0]).toArray 3) = w2 at *
          generalize hgg : w1.heap.size = gg at *
          have H0 := Lib.hid o0
          clear o0 hgg HC1 HC2 HU HEX
          go_loopw [9, 42] (fun o i wr => ∃ k : Nat, k ≤ a.length ∧ i = .int .i64 k ∧ Own w o (wout (a.take k) x) wr) (fun _ i _ => a.length - (intOf i).toNat)
          case atStart => exact ⟨0, Nat.zero_le _, rfl, by simpa [wout] using H0.out⟩
          case round =>
            obtain ⟨k, hk, rfl, ho⟩ := hrel
            have hol : (wout (a.take k) x).length ≤ a.length := Nat.le_trans (wout_length _ _) (by rw [List.length_take]; omega)
            have HO := Lib.hid ho
            by_cases hlt : k < a.length
            · clear ho
              obtain ⟨g, off, rfl, k1⟩ := HB.out.2.2.2.1 (by omega)
              have e1 := HO.out.u.some (k1 k _ (ints_gd hlt)) (by simp)
              have hts : a.take (k + 1) = a.take k ++ [a.getD k 0] := by rw [List.take_add_one, gd_some (d := 0) hlt]; rfl
              clear k1
              generalize a.getD k 0 = y at *
              have HT := Lib.hid (show wout (a.take (k + 1)) x = wout (a.take k) x ++ if y = x then [] else [y] by rw [hts, wout_snoc])
              clear hts
              by_cases hy : y = x
              · rw [if_pos hy, List.append_nil] at HT
                have hb : (y != x) = false := by simpa using hy
                clear hy
                go_wp2_with fail
                exact ⟨⟨k + 1, by omega, by go_num, by rw [HT.out]; exact HO.out⟩, by simp [intOf]; omega⟩
              · rw [if_neg hy] at HT
                have hb : (y != x) = true := by simpa using hy
                clear hy
                go_wp2_with (refine wpList_push rfl rfl _ _ _ _ rfl rfl rfl 3 1 8 _ Try.underlying22 infoInt rfl (by decide) (by decide) (.int .i64 y) [.int .i64 y] rfl rfl rfl (ints_one [y]) _ _ _ HO.out.row rfl rfl (by unfold maxLen; omega) (by omega) ?_; intro g4 cap4 w4 o4 u4 k4)
                have N4 := HO.out.push o4 u4 k4
                exact ⟨⟨k + 1, by omega, by go_num, by rw [HT.out]; simpa using N4⟩, by simp [intOf]; omega⟩
            · have htk : a.take k = a := List.take_of_length_le (by omega)
              rw [htk] at ho
              obtain ⟨ao, co, rfl, _, _⟩ := ho.form
              have HO2 := Lib.hid ho
              have hwl := wout_length a x
              clear ho HO hol htk H0
              go_wp2_with fail
              obtain ⟨wo, rfl⟩ : ∃ wo : World, wo = wr := ⟨_, rfl⟩
              go_loopw [9, 56] (fun o i wr => ∃ k : Nat, k ≤ b.length ∧ i = .int .i64 k ∧ Own w o (wout a x ++ wout (b.take k) (-x)) wr) (fun _ i _ => b.length - (intOf i).toNat)
              case atStart => exact ⟨0, Nat.zero_le _, rfl, by simpa [wout] using HO2.out⟩
              case round =>
                clear hk hlt HO2
                obtain ⟨k, hk, rfl, ho⟩ := hrel
                have hol : (wout a x ++ wout (b.take k) (-x)).length ≤ a.length + b.length := by
                  have := wout_length (b.take k) (-x)
                  rw [List.length_take] at this
                  rw [List.length_append]; omega
                have HO := Lib.hid ho
                by_cases hlt : k < b.length
                · clear ho
                  obtain ⟨g, off, rfl, k1⟩ := HB.out.2.2.2.2 (by omega)
                  have e1 := HO.out.u.some (k1 k _ (ints_gd hlt)) (by simp)
                  have hts : b.take (k + 1) = b.take k ++ [b.getD k 0] := by rw [List.take_add_one, gd_some (d := 0) hlt]; rfl
                  clear k1
                  generalize b.getD k 0 = y at *
                  have HT := Lib.hid (show wout a x ++ wout (b.take (k + 1)) (-x) = (wout a x ++ wout (b.take k) (-x)) ++ if y = -x then [] else [y] by rw [hts, wout_snoc, List.append_assoc])
                  clear hts
                  generalize wout a x ++ wout (b.take k) (-x) = rs at *
                  by_cases hy : y = -x
                  · rw [if_pos hy, List.append_nil] at HT
                    have hb : (y != -x) = false := by simpa using hy
                    clear hy
                    go_wp2_with fail
                    exact ⟨⟨k + 1, by omega, by go_num, by rw [HT.out]; exact HO.out⟩, by simp [intOf]; omega⟩
                  · rw [if_neg hy] at HT
                    have hb : (y != -x) = true := by simpa using hy
                    clear hy
                    go_wp2_with (refine wpList_push rfl rfl _ _ _ _ rfl rfl rfl 3 1 8 _ Try.underlying22 infoInt rfl (by decide) (by decide) (.int .i64 y) [.int .i64 y] rfl rfl rfl (ints_one [y]) _ _ _ HO.out.row rfl rfl (by unfold maxLen; omega) (by omega) ?_; intro g4 cap4 w4 o4 u4 k4)
                    have N4 := HO.out.push o4 u4 k4
                    exact ⟨⟨k + 1, by omega, by go_num, by rw [HT.out]; simpa using N4⟩, by simp [intOf]; omega⟩
                · have htk : b.take k = b := List.take_of_length_le (by omega)
                  rw [htk] at ho hol
                  clear HO htk
                  have hrl : ∀ y ∈ rest2 a b x, LitR y := fun y hy => by
                    rcases List.mem_append.1 hy with hy | hy
                    · exact (HV.out.1.2 y (wout_mem.1 hy).1).2
                    · exact (HV.out.2.1.2 y (wout_mem.1 hy).1).2
                  have hr0 : ∀ y ∈ rest2 a b x, y ≠ 0 := fun y hy => by
                    rcases List.mem_append.1 hy with hy | hy
                    · exact (HV.out.1.2 y (wout_mem.1 hy).1).1
                    · exact (HV.out.2.1.2 y (wout_mem.1 hy).1).1
                  have hop : oppB (rest2 a b x) = taut (rest2 a b x) := oppo_norm hr0
                  have hcc := Collected_calls ho.sl (by omega) hrl
                  rw [show wout a x ++ wout b (-x) = rest2 a b x from rfl] at *
                  rw [hop] at hcc
                  obtain ⟨ao, co, rfl, _, _⟩ := ho.form
                  have HO := Lib.hid (And.intro hcc ho.u)
                  clear hcc ho hop hr0 hrl
                  go_wp2_with fail
                  refine HO.out.1.mono ?_
                  rintro e w5 ⟨v5, rfl, hs5, hu5⟩
                  cases ht : taut (rest2 a b x) with
                  | true =>
                    rw [ht] at HF
                    have HF2 := Lib.hid (show resE a b x = 13 from HF.out)
                    clear ht
                    go_wp2_with fail
                    go_ret2
                    exact ret_nil HF2.out (by decide) (HO.out.2.step hu5)
                  | false =>
                    rw [ht] at HF
                    have HF2 := Lib.hid (show resE a b x = 0 from HF.out)
                    have HL := Lib.hid (show resL a b x = norm (rest2 a b x) by unfold resL; rw [if_pos HF2.out])
                    obtain ⟨a5, c5, rfl, _, _, _⟩ := SL.elems hs5
                    have HS := Lib.hid (And.intro hs5 hu5)
                    clear ht hs5 hu5
                    go_wp2_with fail
                    go_ret2
                    exact ⟨.slice a5 (norm (rest2 a b x)).length c5, by rw [HF2.out]; rfl, by rw [HL.out]; exact HS.out.1, HO.out.2.step HS.out.2⟩
    · have HF := Lib.hid (show resE a b x = validErr b by unfold resE; rw [if_neg (by rw [hv1]; simp), if_pos hv2])
      have hb : (validErr b != 0) = true := by simpa using hv2
      have HV2 := Lib.hid hv2
      clear hv1 hv2
      generalize validErr b = er at *
      go_enter Try.func25, Try.ntmps25
      go_wp2_with fail
      refine HEX.out.mono ?_
      rintro e w1 ⟨rfl, hu1⟩
      go_wp2_with fail
      go_ret2
      exact ret_nil HF.out HV2.out (HB.out.1.step hu1)
  · rw [if_pos hv1] at HEX
    have HF := Lib.hid (show resE a b x = validErr a by unfold resE; rw [if_pos hv1])
    have hb : (validErr a != 0) = true := by simpa using hv1
    have HV2 := Lib.hid hv1
    clear hv1
    generalize validErr a = er at *
    go_enter Try.func25, Try.ntmps25
    go_wp2_with fail
    refine HEX.out.mono ?_
    rintro e w1 ⟨rfl, hu1⟩
    go_wp2_with fail
    go_ret2
    exact ret_nil HF.out HV2.out (HB.out.1.step hu1)
end
end Cla
end Go.Proofs.Ytgdpbhbdeaifbaa
