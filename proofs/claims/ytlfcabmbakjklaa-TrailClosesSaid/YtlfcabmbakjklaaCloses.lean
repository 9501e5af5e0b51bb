/- Walks through the laws of trails: TrailCloses. Conditions: none. -/
import Derived.Test.YtlfcabmbakjklaaClosesA
import Derived.Test.YtlfcabmbakjklaaNextLaw
set_option linter.unusedVariables false
set_option linter.unusedSimpArgs false
set_option linter.unusedSectionVars false
open Go.RowKit
namespace Go.Proofs.Ytlfcabmbakjklaa
open L
namespace Law
open Trail Ref R01 R14 Cla
theorem OwnI.lit (w : World) (x : Int) : Own w (.slice (some ⟨w.heap.size, 0, none⟩) 1 1) [x] (w.alloc (.cells #[.int .i64 x] 3)) :=
  ⟨owns_blk (Blk.new w [.int .i64 x] 3) rfl (by unfold maxLen; omega), fun g hg => by simp [Value.ownBlock] at hg; omega, (Upd.refl [] w).alloc _⟩
/-- The trail, its model and the clauses. -/
structure Cs (w0 w1 : World) (b mb vs : Nat) (es es0 : Es) (cv av : Value) (cs : List (List Int)) (al : List Bool) (F S S2 : List Nat) (w : World) : Prop where
  t : Tr w b vs es (decs es) S
  m : Rf w mb vs es0 S2
  c : OwnL 22 w1 cv cs F w
  a : OwnV w1 4 1 av al.length (bools al) w
  s : ∀ j ∈ S, w0.heap.size ≤ j ∧ j ∉ S2 ∧ j ∉ F ∧ cv.ownBlock ≠ some j ∧ av.ownBlock ≠ some j
  u : Upd [] w0 w
section
variable {w0 w1 w w' : World} {b mb vs : Nat} {es es' es0 : Es} {cv av : Value} {cs : List (List Int)} {al : List Bool} {F S S' S2 : List Nat}
theorem Cs.quiet (h : Cs w0 w1 b mb vs es es0 cv av cs al F S S2 w) (hu : Upd [] w w') : Cs w0 w1 b mb vs es es0 cv av cs al F S S2 w' :=
  ⟨h.t.upd hu (by simp), h.m.upd hu (by simp), h.c.upd hu (by simp), h.a.upd hu (by simp), h.s, h.u.step hu⟩
theorem Cs.step (h : Cs w0 w1 b mb vs es es0 cv av cs al F S S2 w) (ht : Tr w' b vs es' (decs es') S') (ut : Upd S w w') (kt : ∀ j ∈ S', j ∈ S ∨ w.heap.size ≤ j) : Cs w0 w1 b mb vs es' es0 cv av cs al F S' S2 w' := by
  have hz := h.u.size
  refine ⟨ht, h.m.upd ut (fun j h2 hs => (h.s j hs).2.1 h2), h.c.upd ut (fun j hs => ⟨(h.s j hs).2.2.1, (h.s j hs).2.2.2.1⟩), h.a.upd ut (fun j hs => (h.s j hs).2.2.2.2), fun j hj => ?_, h.u.fresh ut (fun j hs => .inr (h.s j hs).1)⟩
  rcases kt j hj with hs | hs
  · exact h.s j hs
  · refine ⟨by omega, fun hm => ?_, fun hm => ?_, fun hm => ?_, fun hm => ?_⟩
    · have := h.m.lt j hm; omega
    · have := h.c.lt j hm; omega
    · have := h.c.own_lt j hm; omega
    · have := h.a.lt j hm; omega
end
section
variable {w : World}
set_option maxRecDepth 100000 in
set_option maxHeartbeats 8000000 in
theorem TrailCloses_calls {lv mv : Value} {xs ms : List Int} (hx : ∀ x ∈ xs, IsI64 x) (hl : SL w 1 lv xs.length (ints xs)) (hmx : ∀ x ∈ ms, IsI64 x) (hml : SL w 1 mv ms.length (ints ms)) (vars : Int) (hv : IsI64 vars) :
    Calls Try.prog 6 #[lv, .int .i64 vars, mv] w fun e w' => e = .returned (.bool true) ∧ Upd [] w w' := by
  have ha0 := around_lo (n := vars) (k := 6) (by omega)
  have ha1 := around_hi (n := vars) (k := 6) (by omega)
  obtain ⟨K, hK⟩ := Int.eq_ofNat_of_zero_le ha0
  have hK9 : K < 6 := by omega
  obtain ⟨am, capm, rfl, qm, rm, km⟩ := SL.form hml
  have HX := Lib.hid (And.intro hx (And.intro hl (And.intro hmx hml)))
  have HKM := Lib.hid km
  clear hx hl hmx hml km
  have HK1 := Lib.hid (show (1 : Int) + (K : Int) = ((K + 1 : Nat) : Int) by omega)
  go_enter Try.func6, Try.ntmps6
  go_wp2_with fail
  refine (Around_calls vars 6 _ hv (by omega) (by omega)).mono ?_
  rintro e _ ⟨rfl, rfl⟩
  rw [hK]
  go_wp2_with fail
  rw [HK1.out]
  refine (made_calls HX.out.1 HX.out.2.1 (K + 1) (by omega)).mono ?_
  rintro e w1 ⟨b, mb, vs, es0, S, S2, rfl, P, hvs20, hKv⟩
  have lt1 := P.t.lt
  have lt2 := P.m.lt
  have HP := Lib.hid (And.intro P (And.intro lt1 lt2))
  clear P lt1 lt2
  go_wp2_with fail
  go_loopw [10, 11, 12] (fun o al i wr => ∃ (k : Nat) (cs : List (List Int)) (als : List Bool) (F : List Nat), i = .int .i64 k ∧ k ≤ 9 ∧ k ≤ ms.length ∧ cs.length = k ∧ Cl w1 o al cs als F wr ∧ (∀ c ∈ cs, ∀ x ∈ c, 1 ≤ x.natAbs ∧ x.natAbs ≤ vs) ∧ ∀ a ∈ als, a = true) (fun _ _ i _ => 10 - (intOf i).toNat)
  case atStart => exact ⟨0, [], [], [], rfl, by omega, by omega, rfl, ⟨OwnL.nil _ _ _, OwnV.nil _ _ _ _, rfl, by simp, by simp, by simp [Value.ownBlock], by simp, Upd.refl _ _⟩, by simp, by simp⟩
  case round =>
    obtain ⟨k, cs, als, F, rfl, hk9, hk, hcl, hC, hlits, htru⟩ := hrel
    have HL := Lib.hid (And.intro hcl (And.intro hC (And.intro hlits htru)))
    clear hcl hC hlits htru
    go_upto_region 8 with fail
    go_cut [47] (fun t w' => BoolIs t w' wr (decide (k < ms.length ∧ k < 9)))
    case first =>
      by_cases h1 : k < ms.length
      · by_cases h2 : k < 9
        · go_wp2_with fail
          go_meet
          case rel => exact ⟨rfl, (by first | exact congrArg Value.bool (decide_eq_decide.2 (by omega)) | exact congrArg Value.bool (decide_eq_false (by omega)).symm | exact congrArg Value.bool (decide_eq_true (by omega)).symm)⟩
        · go_wp2_with fail
          go_meet
          case rel => exact ⟨rfl, (by first | exact congrArg Value.bool (decide_eq_decide.2 (by omega)) | exact congrArg Value.bool (decide_eq_false (by omega)).symm | exact congrArg Value.bool (decide_eq_true (by omega)).symm)⟩
      · go_wp2_with fail
        go_meet
        case rel => exact ⟨rfl, (by first | exact congrArg Value.bool (decide_eq_decide.2 (by omega)) | exact congrArg Value.bool (decide_eq_false (by omega)).symm | exact congrArg Value.bool (decide_eq_true (by omega)).symm)⟩
    case rest =>
    obtain ⟨rfl, rfl⟩ := hcut
    by_cases hlt : k < ms.length ∧ k < 9
    · rw [decide_eq_true hlt]
      obtain ⟨hlt, hlt9⟩ := hlt
      obtain ⟨g, off, rfl, k1⟩ := HKM.out (by omega)
      have e0 := k1 k _ (ints_get (List.getElem?_eq_getElem hlt))
      have hxi := HX.out.2.2.1 _ (List.getElem_mem hlt)
      generalize ms[k] = x at *
      replace e0 := HL.out.2.1.u.some (HP.out.1.u.some e0 (by simp)) (by simp)
      clear k1
      go_upto_region 10 with fail
      refine wp_region_lit ?_
      refine wpList_cutH 7 (fun K hK => ?_)
      simp only [List.take_succ_cons, List.take_zero]
      go_wp2_with (go_at_call 29; refine (Some_calls x _ hxi (by omega)).mono ?_; rintro e w2 ⟨v, c, rfl, ho, hx, hl⟩)
      refine Halt_.intro ?_; try simp only [List.drop_succ_cons, List.drop_zero]
      obtain ⟨ac, capc, rfl, _, _⟩ := ho.form
      have hlc : c.length ≤ 10 := by omega
      have C1 := HL.out.2.1.quiet ho.u
      obtain ⟨vals, hv, hvs⟩ := C1.c.ex
      have hfl := ho.row.lt
      have hff := ho.fresh
      have hov := HL.out.2.1.c.own_lt
      have hcle := HL.out.1
      have HQ := Lib.hid (And.intro hfl (And.intro hff hov))
      have HV := Lib.hid hvs
      clear hvs hfl hff hov
      refine wpList_push rfl rfl _ _ _ _ rfl rfl rfl 22 1 24 _ Try.underlying44 infoInts rfl (by decide) (by decide) (.slice ac c.length capc) [.slice ac c.length capc] rfl rfl rfl (by simp [Value.oneCell']) _ _ _ hv.row rfl rfl (by unfold maxLen; omega) (by omega) ?_
      intro g2 cap2 w3 o2 u2 k2
      simp only [Act.put, List.setIfInBounds_toArray, List.set_cons_zero, List.set_cons_succ]
      have L2 := C1.c.push (y := .slice ac c.length capc) (c := c) hv HV.out C1.u.size ho.sl (fun b hb => by
        have h1 := HQ.out.1 b hb
        have h2 := HQ.out.2.1 b hb
        refine ⟨fun h => ?_, h1.2⟩
        have := HQ.out.2.2 b h
        omega) o2 u2 k2
      have M2 := HL.out.2.1.mid ho L2 u2 k2 hlc (fun y hy => by have := hx y hy; unfold IsI64; omega)
      have HLX := Lib.hid hx
      have hal : als.length ≤ 8 := by
        have h1 := M2.len
        simp at h1
        omega
      have HM := Lib.hid M2
      clear M2 L2 o2 u2 k2 hv HV HQ C1 hcle ho hx
      generalize w2.heap.size = gg at *
      clear e0
      go_upto_region 11 with fail
      refine wp_region_lit ?_
      refine wpList_cutH 1 (fun K hK => ?_)
      simp only [List.take_succ_cons, List.take_zero]
      go_wp2_with fail
      refine Halt_.intro ?_; try simp only [List.drop_succ_cons, List.drop_zero]
      refine wpList_push rfl rfl _ _ _ _ rfl rfl rfl 4 1 1 _ Try.underlying45 infoBool rfl (by decide) (by decide) (.bool true) [.bool true] rfl rfl rfl (bools_one [true]) _ _ _ HM.out.a.row rfl rfl (by unfold maxLen; omega) (by omega) ?_
      intro g3 cap3 w4 o3 u3 k3
      simp only [Act.put, List.setIfInBounds_toArray, List.set_cons_zero, List.set_cons_succ]
      have C3 := HM.out.fin o3 u3 k3
      clear o3 u3 k3 HM
      go_wp2_with fail
      refine ⟨⟨k + 1, _, _, _, by go_num, by omega, by omega, by have := HL.out.1; simp; omega, C3, ?_, ?_⟩, by simp [intOf]; omega⟩
      · intro d hd
        rcases List.mem_append.1 hd with hd | hd
        · exact HL.out.2.2.1 d hd
        · simp at hd; subst hd
          intro y hy
          have := HLX.out y hy
          omega
      · intro q hq
        rcases List.mem_append.1 hq with hq | hq
        · exact HL.out.2.2.2 q hq
        · simpa using hq
    · rw [decide_eq_false hlt]
      have hcs9 : cs.length ≤ 9 := by have := HL.out.1; omega
      have hlen := HL.out.2.1.len
      have hP := HP.out.1.quiet HL.out.2.1.u
      have hz1 := HP.out.1.u.size
      have CS : Cs w w1 b mb vs es0 es0 u10 u11 cs als F S S2 wc := by
        refine ⟨hP.t, hP.m, HL.out.2.1.c, HL.out.2.1.a, fun j hj => ?_, hP.u⟩
        have l1 := HP.out.2.1 j hj
        refine ⟨hP.s j hj, hP.apart j hj, fun hm => ?_, fun hm => ?_, fun hm => ?_⟩
        · have := HL.out.2.1.ff j hm; omega
        · have := HL.out.2.1.c.ex.choose_spec.1.fresh j hm; omega
        · have := HL.out.2.1.a.fresh j hm; omega
      have hgood : ∀ c ∈ cs, ∀ x ∈ c, isLit vs x = true := fun c hc x hx => by have := HL.out.2.2.1 c hc x hx; simp [isLit]; omega
      have hsm := HL.out.2.1.small
      have hnr := fun es => next_res (es := es) hlen hgood
      have HCL := Lib.hid (And.intro hsm (And.intro HL.out.2.2.1 (And.intro HL.out.2.2.2 (And.intro hlen hnr))))
      obtain ⟨acs, ccs, rfl, qcs, rcs, hcc⟩ := SL.form_ (k := 1) HL.out.2.1.c.ex.choose_spec.1.sl
      have HCS := Lib.hid CS
      clear CS hP hgood hsm hnr hlen hlt hk9 hk HKM hcc HL
      generalize u11 = alv at *
      go_wp2_with fail
      clear rm qm
      go_loopw [13] (fun i wr => ∃ (k : Nat) (es : Es) (S : List Nat), i = .int .i64 k ∧ k ≤ es.length ∧ k ≤ vs ∧ Cs w w1 b mb vs es es0 (.slice acs cs.length ccs) alv cs als F S S2 wr) (fun i _ => vs + 1 - (intOf i).toNat)
      case atStart => exact ⟨0, es0, S, rfl, Nat.zero_le _, Nat.zero_le _, HCS.out⟩
      case round =>
        clear HCS
        obtain ⟨i, es, S1, rfl, hi, hivs, hC⟩ := hrel
        have hwf := hC.t.wf
        have HC := Lib.hid hC
        have HWF := Lib.hid hwf
        obtain ⟨x, at', hres, h1, h2, hspec⟩ : ∃ x at' : Int, nextRes vs es cs als = (x, at', 0) ∧ -1 ≤ at' ∧ at' < cs.length ∧ ((x = 0 ∧ at' = -1 ∧ ∀ c ∈ cs, clOf vs es c = none) ∨ ∃ (j : Nat) (c : List Int), cs[j]? = some c ∧ clOf vs es c = some x ∧ at' = j) := by
          have hr := HCL.out.2.2.2.2 es
          rcases next_spec (vs := vs) (es := es) cs als 0 HCL.out.2.2.2.1 HCL.out.2.2.1 with ⟨h1, h2⟩ | ⟨j, c, x, h1, h2, h3⟩
          · exact ⟨0, -1, by rw [hr, h1], by omega, by omega, .inl ⟨rfl, rfl, h2⟩⟩
          · have := (List.getElem?_eq_some_iff.1 h1).1
            exact ⟨x, j, by rw [hr, h3, Nat.zero_add], by omega, by omega, .inr ⟨j, c, h1, h2, rfl⟩⟩
        have HR := Lib.hid hres
        have HS := Lib.hid hspec
        clear hC hwf hres hspec
        go_wp2_with (go_at_call 27; refine (Vars_calls HC.out.t).mono ?_; rintro e w' ⟨rfl, rfl⟩)
        refine (Trail.Next_calls HC.out.t (OwnL.cl HC.out.c) HC.out.a.sl).mono ?_
        rintro e w2 ⟨rfl, u2⟩
        rw [HR.out]
        have HC2 := Lib.hid (HC.out.quiet u2)
        clear u2 HC
        go_wp2_with fail
        have HA := Lib.hid (OwnI.lit w2 0)
        have uA := (Upd.refl [] w2).alloc (.cells #[.int .i64 0] 3)
        have HC3 := Lib.hid (HC2.out.quiet uA)
        clear uA
        generalize hga : w2.alloc (.cells #[.int .i64 0] 3) = w3 at *
        generalize hgz : w2.heap.size = z2 at *
        have HGA := Lib.hid (And.intro hga hgz)
        clear hga hgz
        go_wp2_with fail
        go_loopw [17, 18] (fun av v wr => ∃ m : Nat, m ≤ vs ∧ v = .int .i64 (m + 1 : Nat) ∧ Own w2 av (asg vs es m) wr ∧ Upd [] w2 wr) (fun _ v _ => vs + 1 - (intOf v).toNat)
        case atStart => exact ⟨0, Nat.zero_le _, rfl, by simpa [asg] using HA.out, HA.out.u⟩
        case round =>
          clear HA HC3 HGA
          obtain ⟨m, hm, rfl, ho, hu⟩ := hrel
          have hC4 := HC2.out.quiet hu
          have c0 := (Rf.cell0 hC4.m).1
          have hal := asg_length vs es m
          obtain ⟨aa, ca, rfl, qa, ka⟩ := ho.form
          have HO := Lib.hid ho
          have HAL := Lib.hid hal
          have hal2 : (asg vs es m).length ≤ 21 := by omega
          have HC4 := Lib.hid hC4
          clear ho hal hC4 ka
          by_cases hml : m < vs
          · have HAS := Lib.hid (asg_succ vs es m)
            go_wp2_with (first | (go_at_call 16; refine (Trail.Value_calls HC4.out.t _).mono ?_; rintro e w' ⟨rfl, hq⟩; have HO5 := Lib.hid (HO.out.quiet hq); have HU5 := Lib.hid (hu.step hq)) | (refine wpList_push rfl rfl _ _ _ _ rfl rfl rfl 3 1 8 _ Try.underlying22 R14.infoInt rfl (by decide) (by decide) (.int .i64 _) [.int .i64 _] rfl rfl rfl (ints_one [_]) _ _ _ HO5.out.row rfl rfl (by unfold maxLen; omega) (by omega) ?_; intro g5 cap5 w5 o5 u5 k5))
            have N5 := HO5.out.push o5 u5 k5
            refine ⟨⟨m + 1, by omega, by go_num, by rw [HAS.out]; exact N5, N5.u⟩, by simp [intOf]; omega⟩
          · have hmv : m = vs := by omega
            have hav := HO.out
            rw [hmv] at hav
            have HAV := Lib.hid hav
            have HLE := Lib.hid (show (asg vs es m).length = (asg vs es vs).length by rw [hmv])
            rw [HLE.out] at qa hal2 ⊢
            clear hav hmv HO HAL HC2 hu hm
            generalize hzz : asg vs es vs = asn at *
            have HZZ := Lib.hid hzz
            clear hzz
            have hxi : ∀ y ∈ asn, IsI64 y := by
              rw [← HZZ.out]
              intro y hy
              unfold asg at hy
              rcases List.mem_cons.1 hy with rfl | hy
              · unfold IsI64; omega
              · obtain ⟨v, _, rfl⟩ := List.mem_map.1 hy
                rcases tval_cases vs es (v : Int) with h | h | h <;> rw [h] <;> unfold IsI64 <;> omega
            have HXI := Lib.hid hxi
            clear hxi
            rcases HS.out with ⟨rfl, rfl, hnone⟩ | ⟨j, c, hj, hcx, rfl⟩
            · have HNO := Lib.hid hnone
              clear hnone
              obtain ⟨wo, rfl⟩ : ∃ wo : World, wo = wr := ⟨_, rfl⟩
              go_wp2_with fail
              go_loopw [25] (fun i wr => ∃ q : Nat, q ≤ cs.length ∧ i = .int .i64 q ∧ Upd [] wo wr) (fun i _ => cs.length - (intOf i).toNat)
              case atStart => exact ⟨0, Nat.zero_le _, rfl, Upd.refl _ _⟩
              case round =>
                obtain ⟨j, hjl, rfl, hu⟩ := hrel
                by_cases hjc : j < cs.length
                · obtain ⟨y, ⟨g, off, he, hcy⟩, hys⟩ : ∃ y, (∃ g off, (Value.slice acs cs.length ccs) = .slice (some ⟨g, off, none⟩) cs.length ccs ∧ wo.cell? ⟨g, off + j, none⟩ = some y) ∧ SL wo 1 y cs[j].length (ints cs[j]) := by
                    obtain ⟨vals, h1, h2⟩ := HC4.out.c.ex
                    obtain ⟨y, hy, hs, _⟩ := h2 j cs[j] (List.getElem?_eq_getElem hjc)
                    obtain ⟨h0, a', cap', he, _, _, _, h4⟩ := h1.sl
                    rcases h4 with h4 | ⟨g, off, rfl, h4⟩
                    · omega
                    · cases he
                      exact ⟨y, ⟨g, off, rfl, h4 j y hy⟩, hs⟩
                  cases he
                  have hcm := List.getElem_mem hjc
                  have hno := HNO.out _ hcm
                  have hcl := HCL.out.1 _ hcm
                  have hlt2 := HCL.out.2.1 _ hcm
                  generalize cs[j] = c at *
                  have hst := state_asg (es := es) (c := c) (by omega) (by omega) hlt2
                  rw [HZZ.out] at hst
                  have hsc := State_calls (hys.upd hu (by simp)) (HAV.out.sl.upd hu (by simp)) HXI.out
                  rw [hst] at hsc
                  have hcy2 := hu.some hcy (by simp)
                  have hfl : (c.filter fun x => tval vs es x == 0).length ≤ c.length := List.length_filter_le _ _
                  have h2 := clOf_none hno
                  clear hst hys hno hlt2 hcy
                  generalize (c.filter fun x => tval vs es x == 0) = fs at *
                  generalize (c.any fun x => tval vs es x == 1) = tb at *
                  have HSC := Lib.hid hsc
                  clear hsc
                  rcases h2 with rfl | h2
                  · go_wp2_with (go_at_call 30; refine HSC.out.mono ?_; rintro e w5 ⟨v5, rfl, o5⟩; obtain ⟨a5, cap5, rfl, _, _⟩ := o5.form; have HO5 := Lib.hid o5; clear o5)
                    exact ⟨⟨j + 1, by omega, by go_num, hu.step HO5.out.u⟩, by simp [intOf]; omega⟩
                  · cases tb
                    all_goals
                      go_wp2_with (go_at_call 30; refine HSC.out.mono ?_; rintro e w5 ⟨v5, rfl, o5⟩; obtain ⟨a5, cap5, rfl, _, _⟩ := o5.form; have HO5 := Lib.hid o5; clear o5)
                      exact ⟨⟨j + 1, by omega, by go_num, hu.step HO5.out.u⟩, by simp [intOf]; omega⟩
                · go_wp2_with (go_at_call 18; refine (lives_calls).mono ?_; rintro e w6 ⟨rfl, u6⟩; have HU6 := Lib.hid u6; clear u6)
                  go_ret
                  exact ⟨rfl, (HC4.out.u.step hu).step HU6.out⟩
            · have hjl : j < cs.length := (List.getElem?_eq_some_iff.1 hj).1
              have hcm := List.mem_of_getElem? hj
              obtain ⟨y, hy, hys⟩ : ∃ y, (∃ g off, (Value.slice acs cs.length ccs) = .slice (some ⟨g, off, none⟩) cs.length ccs ∧ wr.cell? ⟨g, off + j, none⟩ = some y) ∧ SL wr 1 y c.length (ints c) := by
                obtain ⟨vals, h1, h2⟩ := HC4.out.c.ex
                obtain ⟨y, hy, hs, _⟩ := h2 j c hj
                obtain ⟨h0, a', cap', he, _, _, _, h4⟩ := h1.sl
                rcases h4 with h4 | ⟨g, off, rfl, h4⟩
                · omega
                · cases he
                  exact ⟨y, ⟨g, off, rfl, h4 j y hy⟩, hs⟩
              obtain ⟨g, off, he, hcy⟩ := hy
              cases he
              have hst := state_asg (es := es) (c := c) (by omega) (by have := HCL.out.1 c hcm; omega) (HCL.out.2.1 c hcm)
              rw [HZZ.out] at hst
              obtain ⟨hnt, hfx⟩ := clOf_some hcx
              rw [hnt] at hst
              by_cases hx0 : x = 0
              · subst hx0
                have hff : (c.filter fun x => tval vs es x == 0) = [] := by
                  rcases hfx with ⟨h, _⟩ | h
                  · exact h
                  · have : (0 : Int) ∈ c.filter fun x => tval vs es x == 0 := by rw [h]; simp
                    have := HCL.out.2.1 c hcm 0 (List.mem_filter.1 this).1
                    simp at this
                rw [hff] at hst
                have hsc := State_calls hys HAV.out.sl HXI.out
                rw [hst] at hsc
                have HSC := Lib.hid hsc
                clear hst hys hff hfx hnt hcx hj hsc
                go_wp2_with (first | (go_at_call 30; refine HSC.out.mono ?_; rintro e w5 ⟨v5, rfl, o5⟩; obtain ⟨a5, cap5, rfl, _, _⟩ := o5.form; have HO5 := Lib.hid o5; clear o5) | (go_at_call 18; refine (lives_calls).mono ?_; rintro e w6 ⟨rfl, u6⟩; have HU6 := Lib.hid u6; clear u6))
                go_ret
                exact ⟨rfl, (HC4.out.u.step HO5.out.u).step HU6.out⟩
              · have hff : (c.filter fun x => tval vs es x == 0) = [x] := by
                  rcases hfx with ⟨_, h⟩ | h
                  · exact absurd h hx0
                  · exact h
                rw [hff] at hst
                have hxc : x ∈ c ∧ tval vs es x = 0 := by
                  have : x ∈ c.filter fun x => tval vs es x == 0 := by rw [hff]; simp
                  rw [List.mem_filter] at this
                  exact ⟨this.1, by simpa using this.2⟩
                have hxl := HCL.out.2.1 c hcm x hxc.1
                have hsc := State_calls hys HAV.out.sl HXI.out
                rw [hst] at hsc
                have hIM := fun w' (hu : Upd [] wr w') => Imply_calls (HC4.out.quiet hu).t x j (by omega)
                have hpe : putErr vs es x j = 0 := by
                  unfold putErr
                  rw [if_pos (by simp [isLit]; omega), if_neg (by omega), if_pos]
                  exact (tval_zero (by simp [isLit]; omega)).1 hxc.2
                have hps : putEs vs es x j = es ++ [(x, (j : Int))] := by unfold putEs; rw [if_pos hpe]
                simp only [show ¬ ((j : Int) < 0) by omega, if_false, hpe, hps] at hIM
                have HST := Lib.hid (And.intro hsc hIM)
                have hb0 : (x != 0) = true := by simpa using hx0
                have hm0 : max (0 : Int) (j : Int) = j := by omega
                clear hst hys hxc hff hfx hnt hcx hx0 hj
                have hj0 : j = 0 ∨ 0 < j := by omega
                rcases hj0 with hj0 | hjp
                · rw [hj0, Nat.add_zero] at hcy
                  have hjz : (j : Int) ≤ 0 := by omega
                  clear hj0 hm0
                  go_wp2_with (first | (go_at_call 30; refine HST.out.1.mono ?_; rintro e w5 ⟨v5, rfl, o5⟩; obtain ⟨a5, cap5, rfl, _, _⟩ := o5.form; have HO5 := Lib.hid o5; clear o5) | (go_at_call 31; go_must (refine (SameInts_calls (xs := [x]) (ys := [x]) (HO5.out.quiet ((Upd.refl [] w5).alloc _)).sl (OwnI.lit w5 x).sl).mono ?_; rintro e w6 ⟨rfl, u6⟩; rw [decide_eq_true rfl]; have HU6 := Lib.hid ((HO5.out.u.alloc _).step u6)); clear u6) | (go_at_call 32; go_must (refine (HST.out.2 _ HU6.out).mono ?_); rintro e w7 ⟨rfl, S7, t7, u7, k7⟩))
                  have hlen7 := t7.wf.len
                  refine ⟨⟨i + 1, _, S7, by go_num, ?_, ?_, (HC4.out.quiet HU6.out).step t7 u7 k7⟩, by simp [intOf]; omega⟩
                  · simp; omega
                  · simp at hlen7; omega
                · clear hm0
                  go_wp2_with (first | (go_at_call 30; refine HST.out.1.mono ?_; rintro e w5 ⟨v5, rfl, o5⟩; obtain ⟨a5, cap5, rfl, _, _⟩ := o5.form; have HO5 := Lib.hid o5; clear o5) | (go_at_call 31; go_must (refine (SameInts_calls (xs := [x]) (ys := [x]) (HO5.out.quiet ((Upd.refl [] w5).alloc _)).sl (OwnI.lit w5 x).sl).mono ?_; rintro e w6 ⟨rfl, u6⟩; rw [decide_eq_true rfl]; have HU6 := Lib.hid ((HO5.out.u.alloc _).step u6)); clear u6) | (go_at_call 32; go_must (refine (HST.out.2 _ HU6.out).mono ?_); rintro e w7 ⟨rfl, S7, t7, u7, k7⟩))
                  have hlen7 := t7.wf.len
                  refine ⟨⟨i + 1, _, S7, by go_num, ?_, ?_, (HC4.out.quiet HU6.out).step t7 u7 k7⟩, by simp [intOf]; omega⟩
                  · simp; omega
                  · simp at hlen7; omega
end
end Law
end Go.Proofs.Ytlfcabmbakjklaa
