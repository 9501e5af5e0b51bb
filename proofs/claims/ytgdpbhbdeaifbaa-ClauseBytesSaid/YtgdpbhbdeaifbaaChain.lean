/- Walks through chains of hints: examine, Chain, the reference's Chain and State. Conditions: none. -/
import Derived.Test.YtgdpbhbdeaifbaaRef14b
import Derived.Test.YtgdpbhbdeaifbaaMap
set_option linter.unusedVariables false
set_option linter.unusedSimpArgs false
set_option linter.unusedSectionVars false
open Go.RowKit
namespace Go.Proofs.Ytgdpbhbdeaifbaa
open L
namespace Cla
open R01 R14
theorem infoInts : (Try.prog.info? 22).map (fun i => (i.zero, i.size, i.bytes)) = some (some (.slice none 0 0), 1, 24) := by kernel_rfl
theorem infoBool : (Try.prog.info? 4).map (fun i => (i.zero, i.size, i.bytes)) = some (some (.bool false), 1, 1) := by kernel_rfl
/-- The first error of some clauses. -/
def examErr : List (List Int) → Int
  | [] => 0
  | c :: r => if validErr c ≠ 0 then validErr c else examErr r
theorem examErr_ok : ∀ {cs : List (List Int)}, examErr cs = 0 → ∀ c ∈ cs, validErr c = 0
  | [], _, c, hc => by simp at hc
  | d :: r, h, c, hc => by
    unfold examErr at h
    split at h
    · contradiction
    · rename_i h2
      simp only [List.mem_cons] at hc
      rcases hc with rfl | hc
      · exact Classical.not_not.1 h2
      · exact examErr_ok h c hc
theorem valid_lit {c : List Int} (h : validErr c = 0) : c.length ≤ 65536 ∧ ∀ x ∈ c, x ≠ 0 ∧ LitR x := by
  obtain ⟨h1, h2⟩ := listErr_lit (validErr_ok.1 h).1
  exact ⟨h1, fun x hx => ⟨(h2 x hx).1, (h2 x hx).2⟩⟩
def ChainT (r : Int) (w : World) (e : Ending) (w' : World) : Prop := e = .returned (.int .i64 r) ∧ Upd [] w w'
section
variable {w : World}
set_option maxRecDepth 100000 in
set_option maxHeartbeats 2000000 in
theorem Examine_calls {v : Value} {cs : List (List Int)} (h : CL w v cs) : Calls Try.prog 40 #[v] w (ChainT (examErr cs) w) := by
  obtain ⟨a, cap, rfl, q1, r1, hc⟩ := h.form
  have HC := Lib.hid hc
  clear h hc
  go_enter Try.func40, Try.ntmps40
  go_wp2_with fail
  go_loopw [8] (fun i wr => ∃ k : Nat, k ≤ cs.length ∧ i = .int .i64 k ∧ examErr cs = examErr (cs.drop k) ∧ Upd [] w wr) (fun i _ => cs.length - (intOf i).toNat)
  case atStart => exact ⟨0, Nat.zero_le _, rfl, by simp, Upd.refl _ _⟩
  case round =>
    obtain ⟨k, hk, rfl, he, hu⟩ := hrel
    have HE := Lib.hid he
    clear he
    by_cases hlt : k < cs.length
    · obtain ⟨g, off, ay, capy, rfl, e1, hs, _, _⟩ := (HC.out k hlt).upd hu
      have HV := Lib.hid (Valid_calls hs)
      have HD := Lib.hid (show examErr (cs.drop k) = if validErr (cs.getD k []) ≠ 0 then validErr (cs.getD k []) else examErr (cs.drop (k + 1)) by rw [gd_cons (d := []) hlt, examErr])
      clear hs
      generalize cs.getD k [] = c at *
      by_cases hv : validErr c = 0
      · have HZ := Lib.hid hv
        rw [if_neg (by rw [hv]; simp)] at HD
        clear hv
        go_wp2_with (go_at_call 19; refine HV.out.mono ?_; rintro e w2 ⟨rfl, hu2⟩; rw [HZ.out])
        exact ⟨⟨k + 1, by omega, by go_num, HE.out.trans HD.out, hu.step hu2⟩, by simp [intOf]; omega⟩
      · rw [if_pos hv] at HD
        have hb : (validErr c != 0) = true := by simpa using hv
        clear hv
        generalize validErr c = er at *
        go_wp2_with (go_at_call 19; refine HV.out.mono ?_; rintro e w2 ⟨rfl, hu2⟩)
        go_ret
        exact ⟨ret_int (HD.out.symm.trans HE.out.symm), hu.step hu2⟩
    · have HZ := Lib.hid (show examErr cs = 0 by rw [HE.out, List.drop_eq_nil_of_le (by omega)]; rfl)
      go_wp2_with fail
      go_ret
      exact ⟨ret_int HZ.out.symm, hu⟩
/-- What is left of a hint. -/
def left (no h : List Int) : List Int := h.filter fun x => !hasB no x
/-- Unit propagation of hints. -/
def chainLoop (no : List Int) : List (List Int) → Int
  | [] => 14
  | h :: r => match left no h with
    | [] => if r.length = 0 then 0 else 14
    | [x] => if hasB no (-x) = true then 14 else chainLoop (no ++ [-x]) r
    | _ => 14
def chainRes (c : List Int) (hs : List (List Int)) : Int := if validErr c ≠ 0 then validErr c else if examErr hs ≠ 0 then examErr hs else chainLoop c hs
set_option maxRecDepth 100000 in
set_option maxHeartbeats 4000000 in
theorem RChain_calls {v1 v2 : Value} {c : List Int} {hs : List (List Int)} (h1 : SL w 1 v1 c.length (ints c)) (h2 : CL w v2 hs) (hl : hs.length ≤ 100000) :
    Calls Try.prog 15 #[v1, v2] w (ChainT (chainRes c hs) w) := by
  have HV := Lib.hid (RValid_calls h1)
  obtain ⟨a1, cap1, rfl, p1, s1, hc1⟩ := SL.elems h1
  obtain ⟨a, cap, rfl, q1, r1, hc⟩ := h2.form
  have HC := Lib.hid (And.intro hc h1)
  clear h1 h2 hc hc1
  by_cases hv : validErr c = 0
  · have HZ := Lib.hid hv
    have hcl := (valid_lit hv).1
    have HR := Lib.hid (show chainRes c hs = if examErr hs ≠ 0 then examErr hs else chainLoop c hs by unfold chainRes; rw [if_neg (by rw [hv]; simp)])
    clear hv
    go_enter Try.func15, Try.ntmps15
    go_wp2_with fail
    refine HV.out.mono ?_
    rintro e w1 ⟨rfl, hu1⟩
    rw [HZ.out]
    go_wp2_with fail
    go_loopw [6] (fun i wr => ∃ k : Nat, k ≤ hs.length ∧ i = .int .i64 k ∧ examErr hs = examErr (hs.drop k) ∧ Upd [] w wr) (fun i _ => hs.length - (intOf i).toNat)
    case atStart => exact ⟨0, Nat.zero_le _, rfl, by simp, hu1⟩
    case round =>
      obtain ⟨k, hk, rfl, he, hu⟩ := hrel
      have HE := Lib.hid he
      clear he
      by_cases hlt : k < hs.length
      · obtain ⟨g, off, ay, capy, rfl, e1, hsl, _, _⟩ := (HC.out.1 k hlt).upd hu
        have HV := Lib.hid (RValid_calls hsl)
        have HD := Lib.hid (show examErr (hs.drop k) = if validErr (hs.getD k []) ≠ 0 then validErr (hs.getD k []) else examErr (hs.drop (k + 1)) by rw [gd_cons (d := []) hlt, examErr])
        clear hsl
        generalize hs.getD k [] = d at *
        by_cases hv : validErr d = 0
        · have HZ := Lib.hid hv
          rw [if_neg (by rw [hv]; simp)] at HD
          clear hv
          go_wp2_with (go_at_call 20; refine HV.out.mono ?_; rintro e w2 ⟨rfl, hu2⟩; rw [HZ.out])
          exact ⟨⟨k + 1, by omega, by go_num, HE.out.trans HD.out, hu.step hu2⟩, by simp [intOf]; omega⟩
        · rw [if_pos hv] at HD
          have hb : (validErr d != 0) = true := by simpa using hv
          have HRR := Lib.hid (show chainRes c hs = validErr d by rw [HR.out, HE.out, HD.out, if_pos hv])
          clear hv
          generalize validErr d = er at *
          go_wp2_with (go_at_call 20; refine HV.out.mono ?_; rintro e w2 ⟨rfl, hu2⟩)
          go_ret
          exact ⟨ret_int HRR.out.symm, hu.step hu2⟩
      · have hz : examErr hs = 0 := by rw [HE.out, List.drop_eq_nil_of_le (by omega)]; rfl
        have HLIT := Lib.hid (examErr_ok hz)
        have HRR := Lib.hid (show chainRes c hs = chainLoop c hs by rw [HR.out, if_neg (by rw [hz]; simp)])
        clear hz HE HR hk hu1
        go_upto_region 10 with fail
        refine wp_region_lit ?_
        refine wpList_cutH 2 (fun K hK => ?_)
        simp only [List.take_succ_cons, List.take_zero]
        go_wp2_with fail
        refine Halt_.intro ?_; try simp only [List.drop_succ_cons, List.drop_zero]
        have g0 := owns_none (w := wr) rfl 3
        have u0 := (Upd.refl [] wr).alloc (.cells #[] 3)
        have H0 := (HC.out.2.upd hu (by simp)).upd u0 (by simp)
        have hsz0 : (wr.alloc (.cells #[] 3)).heap.size = wr.heap.size + 1 := by simp
        generalize wr.alloc (.cells #[] 3) = w0 at *
        refine wpList_appS rfl _ _ _ rfl 3 1 8 _ Try.underlying22 infoInt rfl (by decide) (.slice (some ⟨wr.heap.size, 0, none⟩) 0 0) 0 [] rfl (owns_blk g0 rfl (by unfold maxLen; omega)) _ _ _ rfl H0 (ints_one _) (by unfold maxLen; omega) (by omega) ?_
        intro a3 cap3 w3 o3 u3 k3
        simp only [Act.put, List.setIfInBounds_toArray, List.set_cons_zero, List.set_cons_succ]
        rw [List.nil_append] at o3
        simp only [Nat.zero_add] at o3 u3 k3 ⊢
        have N0 : Own wr (.slice a3 c.length cap3) c w3 := ⟨o3, fun g hg => by
          rcases k3 with h | h <;> rw [hg] at h <;> simp [Value.ownBlock] at h <;> omega, u0.fresh u3 (fun j hj => .inr (by simp [Value.ownBlock] at hj; omega))⟩
        have HN0 := Lib.hid (And.intro N0 hu)
        clear o3 u3 k3 H0 g0 hsz0 u0 N0 hu
        go_wp2_with fail
        obtain ⟨wo, rfl⟩ : ∃ wo : World, wo = wr := ⟨_, rfl⟩
        go_loopw [8, 9] (fun o i wq => ∃ (k : Nat) (no : List Int), k ≤ hs.length ∧ i = .int .i64 k ∧ no.length ≤ 65536 + k ∧ Own wo o no wq ∧ chainRes c hs = chainLoop no (hs.drop k)) (fun _ i _ => hs.length - (intOf i).toNat)
        case atStart => exact ⟨0, c, Nat.zero_le _, rfl, by omega, HN0.out.1, by rw [HRR.out]; simp⟩
        case round =>
          obtain ⟨wq, rfl⟩ : ∃ wq : World, wq = wr := ⟨_, rfl⟩
          obtain ⟨k, no, hk, rfl, hnl, hno, hch⟩ := hrel
          have HCH := Lib.hid (And.intro hch (HN0.out.2.step hno.u))
          clear hch
          by_cases hlt : k < hs.length
          · obtain ⟨g, off, ay, capy, rfl, e1, hsl, hq, hr⟩ := (HC.out.1 k hlt).upd HCH.out.2
            have hvl := valid_lit (HLIT.out _ (gd_memA (d := []) hlt))
            have HDR := Lib.hid (show chainRes c hs = chainLoop no (hs.getD k [] :: hs.drop (k + 1)) by rw [HCH.out.1, gd_cons (d := []) hlt])
            generalize hs.getD k [] = h at *
            have hhl := hvl.1
            have HVL := Lib.hid hvl.2
            obtain ⟨ao, co, rfl, _, _⟩ := hno.form
            obtain ⟨_, _, he0, _, _, hin⟩ := SL.elems hsl
            cases he0
            have HH := Lib.hid (And.intro hno (And.intro hsl (And.intro hin e1)))
            clear hvl hsl hin hno e1
            go_wp2_with fail
            go_loopw [10, 11] (fun o i wz => ∃ m : Nat, m ≤ h.length ∧ i = .int .i64 m ∧ Own wq o (left no (h.take m)) wz) (fun _ i _ => h.length - (intOf i).toNat)
            case atStart => exact ⟨0, Nat.zero_le _, rfl, by simpa [left] using Own.nil wq⟩
            case round =>
              obtain ⟨m, hm, rfl, hol⟩ := hrel
              have hll : (left no (h.take m)).length ≤ h.length := Nat.le_trans (List.length_filter_le _ _) (by rw [List.length_take]; omega)
              have e1 := hol.u.some HH.out.2.2.2 (by simp)
              by_cases hltm : m < h.length
              · obtain ⟨g2, off2, rfl, k2⟩ := HH.out.2.2.1 (by omega)
                have e2 := hol.u.some (k2 m _ (ints_gd hltm)) (by simp)
                have hts : h.take (m + 1) = h.take m ++ [h.getD m 0] := by rw [List.take_add_one, gd_some (d := 0) hltm]; rfl
                have HA := Lib.hid (And.intro (Has_calls (HH.out.1.sl.upd hol.u (by simp)) (h.getD m 0)) (And.intro hts hol))
                clear k2 hts hol
                generalize h.getD m 0 = x at *
                cases hx : hasB no x with
                | true =>
                  have HX := Lib.hid hx
                  clear hx
                  go_wp2_with (go_at_call 41; refine HA.out.1.mono ?_; rintro e w' ⟨rfl, rfl⟩; rw [HX.out])
                  refine ⟨⟨m + 1, by omega, by go_num, ?_⟩, by simp [intOf]; omega⟩
                  rw [HA.out.2.1, show left no (h.take m ++ [x]) = left no (h.take m) by simp [left, List.filter_append, HX.out]]
                  exact HA.out.2.2
                | false =>
                  have HX := Lib.hid hx
                  clear hx
                  go_wp2_with (first | (go_at_call 41; refine HA.out.1.mono ?_; rintro e w' ⟨rfl, rfl⟩; rw [HX.out]) | (refine wpList_push rfl rfl _ _ _ _ rfl rfl rfl 3 1 8 _ Try.underlying22 infoInt rfl (by decide) (by decide) (.int .i64 x) [.int .i64 x] rfl rfl rfl (ints_one [x]) _ _ _ HA.out.2.2.row rfl rfl (by unfold maxLen; omega) (by omega) ?_; intro g4 cap4 w4 o4 u4 k4))
                  have N4 := HA.out.2.2.push o4 u4 k4
                  refine ⟨⟨m + 1, by omega, by go_num, ?_⟩, by simp [intOf]; omega⟩
                  rw [HA.out.2.1, show left no (h.take m ++ [x]) = left no (h.take m) ++ [x] by simp [left, List.filter_append, HX.out]]
                  simpa using N4
              · have htk : h.take m = h := List.take_of_length_le (by omega)
                rw [htk] at hol
                clear htk hll
                have hno2 := HH.out.1.quiet hol.u
                obtain ⟨al, cl, rfl, hlc, hform⟩ := hol.form
                rcases hL : left no h with _ | ⟨x, _ | ⟨y, r⟩⟩
                · rw [hL] at hol
                  have HO := Lib.hid (And.intro hL (And.intro hol hno2))
                  clear hL hol hno2 hform hlc
                  by_cases hlast : k + 1 = hs.length
                  · have hb : ((k : Int) == (hs.length : Int) - 1) = true := by rw [beq_iff_eq]; omega
                    have HF := Lib.hid (show chainRes c hs = 0 by rw [HDR.out, chainLoop, HO.out.1]; simp [List.length_drop]; omega)
                    clear hlast
                    go_wp2_with fail
                    go_ret
                    exact ⟨ret_int HF.out.symm, HCH.out.2.step HO.out.2.1.u⟩
                  · have hb : ((k : Int) == (hs.length : Int) - 1) = false := by rw [beq_eq_false_iff_ne]; omega
                    have HF := Lib.hid (show chainRes c hs = 14 by rw [HDR.out, chainLoop, HO.out.1]; simp [List.length_drop]; omega)
                    clear hlast
                    go_wp2_with fail
                    go_ret
                    exact ⟨ret_int HF.out.symm, HCH.out.2.step HO.out.2.1.u⟩
                · rw [hL] at hol hform
                  obtain ⟨gl, rfl, hcell⟩ := hform (by simp)
                  have e3 := hcell 0 x rfl
                  have hxm : x ∈ h := by
                    have : x ∈ left no h := by rw [hL]; simp
                    exact (List.mem_filter.1 this).1
                  obtain ⟨_, hx1, hx2⟩ := HVL.out x hxm
                  have HO := Lib.hid (And.intro hL (And.intro hol (And.intro hno2 (Has_calls hno2.sl (-x)))))
                  clear hL hol hno2 hform hlc hcell hxm
                  cases hnx : hasB no (-x) with
                  | true =>
                    have HF := Lib.hid (show chainRes c hs = 14 by rw [HDR.out, chainLoop, HO.out.1]; simp [hnx])
                    have HX := Lib.hid hnx
                    clear hnx
                    go_wp2_with (go_at_call 41; refine HO.out.2.2.2.mono ?_; rintro e w' ⟨rfl, rfl⟩; rw [HX.out])
                    go_ret
                    exact ⟨ret_int HF.out.symm, HCH.out.2.step HO.out.2.1.u⟩
                  | false =>
                    have HF := Lib.hid (show chainRes c hs = chainLoop (no ++ [-x]) (hs.drop (k + 1)) by rw [HDR.out, chainLoop, HO.out.1]; simp [hnx])
                    have HX := Lib.hid hnx
                    clear hnx
                    go_wp2_with (first | (go_at_call 41; refine HO.out.2.2.2.mono ?_; rintro e w' ⟨rfl, rfl⟩; rw [HX.out]) | (refine wpList_push rfl rfl _ _ _ _ rfl rfl rfl 3 1 8 _ Try.underlying22 infoInt rfl (by decide) (by decide) (.int .i64 (-x)) [.int .i64 (-x)] rfl rfl rfl (ints_one [-x]) _ _ _ HO.out.2.2.1.row rfl rfl (by unfold maxLen; omega) (by omega) ?_; intro g4 cap4 w4 o4 u4 k4))
                    have N4 := HO.out.2.2.1.push o4 u4 k4
                    exact ⟨⟨k + 1, no ++ [-x], by omega, by go_num, by simp; omega, by simpa using N4, HF.out⟩, by simp [intOf]; omega⟩
                · rw [hL] at hol
                  have HO := Lib.hid (And.intro hL (And.intro hol hno2))
                  have HF := Lib.hid (show chainRes c hs = 14 by rw [HDR.out, chainLoop, HO.out.1])
                  clear hL hol hno2 hform hlc
                  have hgt : (1 : Int) < ((x :: y :: r).length : Int) := by simp; omega
                  have hz : (((x :: y :: r).length : Int) == 0) = false := by rw [beq_eq_false_iff_ne]; simp; omega
                  generalize (x :: y :: r).length = ln at *
                  go_wp2_with fail
                  go_ret
                  exact ⟨ret_int HF.out.symm, HCH.out.2.step HO.out.2.1.u⟩
          · have HF := Lib.hid (show chainRes c hs = 14 by rw [HCH.out.1, List.drop_eq_nil_of_le (by omega)]; rfl)
            obtain ⟨ao, co, rfl, _, _⟩ := hno.form
            have HO := Lib.hid hno
            clear hno
            go_wp2_with fail
            go_ret
            exact ⟨ret_int HF.out.symm, HCH.out.2⟩
  · have HR := Lib.hid (show chainRes c hs = validErr c by unfold chainRes; rw [if_pos hv])
    have hb : (validErr c != 0) = true := by simpa using hv
    clear hv
    generalize validErr c = er at *
    go_enter Try.func15, Try.ntmps15
    go_wp2_with fail
    refine HV.out.mono ?_
    rintro e w1 ⟨rfl, hu1⟩
    go_wp2_with fail
    go_ret
    exact ⟨ret_int HR.out.symm, hu1⟩
end
end Cla
end Go.Proofs.Ytgdpbhbdeaifbaa
