/- Walks through the reference of trails: Next. Conditions: none. -/
import Derived.Test.YtdhhohnaehdpkaaNextB
import Derived.Test.YtdhhohnaehdpkaaRefA
import Derived.Test.YtdhhohnaehdpkaaSome
set_option linter.unusedVariables false
set_option linter.unusedSimpArgs false
set_option linter.unusedSectionVars false
open Go.RowKit
namespace Go.Proofs.Ytdhhohnaehdpkaa
open L
namespace Ref
open Trail R01 R14
section
variable {w : World} {b vars : Nat} {es : Es} {S : List Nat}
theorem bad_false {cs : List (List Int)} {al : List Bool} (h : ∀ (j : Nat) (p : List Int × Bool), (cs.zip al)[j]? = some p → (p.2 && p.1.any fun x => !isLit vars x) = false) : badC vars cs al = false := by
  unfold badC
  rw [List.any_eq_false]
  intro p hp
  obtain ⟨j, hj, rfl⟩ := List.getElem_of_mem hp
  have := h j _ (List.getElem?_eq_getElem hj)
  simpa using this
theorem bad_true {cs : List (List Int)} {al : List Bool} {k : Nat} {p : List Int × Bool} (h : (cs.zip al)[k]? = some p) (hb : (p.2 && p.1.any fun x => !isLit vars x) = true) : badC vars cs al = true := by
  unfold badC
  rw [List.any_eq_true]
  exact ⟨_, List.mem_of_getElem? h, hb⟩
theorem notAny {c : List Int} {p : Int → Bool} {j : Nat} {x : Int} (h : (c.take j).any p = false) (hx : c[j]? = some x) (hp : p x = false) : (c.take (j + 1)).any p = false := by
  rw [List.take_add_one, hx, List.any_append, h]; simp [hp]
set_option maxRecDepth 100000 in
set_option maxHeartbeats 4000000 in
theorem Next_calls (h : Rf w b vars es S) {lv av : Value} {cs : List (List Int)} {al : List Bool} (hl : CL w lv cs) (ha : SL w 1 av al.length (bools al)) (hi : ∀ c ∈ cs, c.length ≤ 1000 ∧ ∀ x ∈ c, IsI64 x) :
    Calls Try.prog 65 #[.pointer (some ⟨b, 0, none⟩), lv, av] w fun e w' => e = .returned (.tuple #[.int .i64 (nextRes vars es cs al).1, .int .i64 (nextRes vars es cs al).2.1, .int .i64 (nextRes vars es cs al).2.2]) ∧ Upd [] w w' := by
  obtain ⟨vals, hvl, hls, hvals⟩ := hl.ex
  obtain ⟨a1, c1, rfl, q1, r1, k1⟩ := SL.form hls
  obtain ⟨a2, c2, rfl, q2, r2, k2⟩ := SL.form ha
  have HK1 := Lib.hid k1
  have HK2 := Lib.hid k2
  have HV := Lib.hid hvals
  have HI := Lib.hid hi
  clear k1 k2 hls ha hl hvals hi
  by_cases hlen : al.length = cs.length
  · have le1 : al.length ≤ cs.length := by omega
    have le2 : cs.length ≤ al.length := by omega
    have HL := Lib.hid hlen
    clear hlen
    have elem : ∀ k, (hlt : k < cs.length) → ∃ g1 o1 g2 o2 v, a1 = some ⟨g1, o1, none⟩ ∧ a2 = some ⟨g2, o2, none⟩ ∧ w.cell? ⟨g1, o1 + k, none⟩ = some v ∧ w.cell? ⟨g2, o2 + k, none⟩ = some (.bool (al[k]'(by omega))) ∧ SL w 1 v cs[k].length (ints cs[k]) ∧
        (cs.zip al)[k]? = some (cs[k], al[k]'(by omega)) := by
      intro k hlt
      obtain ⟨g1, o1, rfl, e1⟩ := HK1.out (by omega)
      obtain ⟨g2, o2, rfl, e2⟩ := HK2.out (by omega)
      obtain ⟨v, hv, hs⟩ := HV.out k _ (List.getElem?_eq_getElem hlt)
      exact ⟨g1, o1, g2, o2, v, rfl, rfl, e1 k v hv, e2 k _ (bools_get (List.getElem?_eq_getElem (show k < al.length by omega))), hs, by rw [List.getElem?_zip_eq_some]; exact ⟨List.getElem?_eq_getElem hlt, List.getElem?_eq_getElem (by omega)⟩⟩
    have EL := Lib.hid elem
    clear elem HK1 HK2 HV
    go_enter Try.func65, Try.ntmps65
    go_wp2_with fail
    go_loop [9] (fun i => ∃ k : Nat, k ≤ cs.length ∧ i = .int .i64 k ∧ ∀ j, j < k → ∀ p, (cs.zip al)[j]? = some p → (p.2 && p.1.any fun x => !isLit vars x) = false) (fun i => cs.length - (intOf i).toNat)
    case atStart => exact ⟨0, Nat.zero_le _, rfl, fun j hj => by omega⟩
    case round =>
      obtain ⟨k, hk, rfl, hlo⟩ := hrel
      have HLO := Lib.hid hlo
      clear hlo
      by_cases hlt : k < cs.length
      · obtain ⟨g1, o1, g2, o2, v, rfl, rfl, e1, e2, hs, hz⟩ := EL.out k hlt
        have HZ := Lib.hid hz
        clear hz
        generalize cs[k] = c at *
        generalize al[k]'(by omega) = ab at *
        obtain ⟨a3, c3, rfl, q3, r3, k3⟩ := SL.form hs
        have HK3 := Lib.hid k3
        clear k3 hs
        go_wp2_with fail
        go_loop [10] (fun i => ∃ j : Nat, j ≤ c.length ∧ i = .int .i64 j ∧ (ab && (c.take j).any fun x => !isLit vars x) = false) (fun i => c.length - (intOf i).toNat)
        case atStart => exact ⟨0, Nat.zero_le _, rfl, by simp⟩
        case round =>
          obtain ⟨j, hj, rfl, hno⟩ := hrel
          have HNO := Lib.hid hno
          clear hno
          by_cases hjl : j < c.length
          · obtain ⟨g3, o3, rfl, e3⟩ := HK3.out (by omega)
            have e4 := e3 j _ (ints_get (List.getElem?_eq_getElem hjl))
            have hg : c[j]? = some c[j] := List.getElem?_eq_getElem hjl
            have HG := Lib.hid hg
            clear e3 hg
            generalize c[j] = x at *
            by_cases hb : (ab && !isLit vars x) = true
            · have hab : ab = true := by simp at hb; exact hb.1
              have hlx : isLit vars x = false := by simp at hb; exact hb.2
              subst hab
              have HB := Lib.hid hlx
              have HR : Hid (nextRes vars es cs al = (0, 0, 1)) := by
                unfold Hid nextRes
                rw [if_neg (by simpa using HL.out), if_pos (bad_true HZ.out (by simp; exact ⟨x, List.mem_of_getElem? HG.out, hlx⟩))]
              clear hb hlx
              go_wp2_with (go_at_call 55; refine (Has_calls h x).mono ?_; rintro e w' ⟨rfl, rfl⟩; rw [HB.out])
              go_ret3
              exact ⟨ret_tup3 (by rw [HR.out]; rfl) (by rw [HR.out]; rfl) (by rw [HR.out]; rfl), Upd.refl _ _⟩
            · have hb' : (ab && !isLit vars x) = false := by simpa using hb
              have HB := Lib.hid hb'
              clear hb hb'
              cases hab : ab with
              | true =>
                subst hab
                have hlx : isLit vars x = true := by simpa using HB.out
                have HLX := Lib.hid hlx
                clear hlx
                go_wp2_with (go_at_call 55; refine (Has_calls h x).mono ?_; rintro e w' ⟨rfl, rfl⟩; rw [HLX.out])
                refine ⟨⟨j + 1, by omega, by go_num, ?_⟩, by simp [intOf]; omega⟩
                have := HNO.out
                simp only [Bool.true_and] at this ⊢
                exact notAny this HG.out (by simp [HLX.out])
              | false =>
                subst hab
                go_wp2_with (go_at_call 55; refine (Has_calls h x).mono ?_; rintro e w' ⟨rfl, rfl⟩)
                exact ⟨⟨j + 1, by omega, by go_num, by simp⟩, by simp [intOf]; omega⟩
          · have hjc : j = c.length := by omega
            have HD : Hid ((ab && c.any fun x => !isLit vars x) = false) := by
              unfold Hid
              have := HNO.out
              rwa [hjc, List.take_length] at this
            clear hjc
            go_wp2_with fail
            refine ⟨⟨k + 1, by omega, by go_num, fun j hj p hp => ?_⟩, by simp [intOf]; omega⟩
            rcases Nat.lt_or_ge j k with h | h
            · exact HLO.out j h p hp
            · obtain rfl : j = k := by omega
              rw [HZ.out] at hp
              cases hp
              exact HD.out
      · have HR : Hid (nextRes vars es cs al = ((nextFrom vars es (cs.zip al) 0).1, (nextFrom vars es (cs.zip al) 0).2, 0)) := by
          unfold Hid nextRes
          rw [if_neg (by simpa using HL.out), if_neg (by rw [bad_false (fun j p hp => HLO.out j (by have := (List.getElem?_eq_some_iff.1 hp).1; simp at this; omega) p hp)]; simp)]
        have hge : cs.length ≤ k := by omega
        go_wp2_with fail
        clear hk hge HLO hlt
        go_loopw [12] (fun i wr => ∃ k : Nat, k ≤ cs.length ∧ i = .int .i64 k ∧ nextFrom vars es (cs.zip al) 0 = nextFrom vars es ((cs.zip al).drop k) k ∧ Upd [] w wr) (fun i _ => cs.length - (intOf i).toNat)
        case atStart => exact ⟨0, Nat.zero_le _, rfl, by simp, Upd.refl _ _⟩
        case round =>
          obtain ⟨k, hk, rfl, hnx, hu⟩ := hrel
          have HN := Lib.hid hnx
          clear hnx
          obtain ⟨wo, rfl⟩ : ∃ wo : World, wo = wr := ⟨_, rfl⟩
          by_cases hlt : k < cs.length
          · obtain ⟨g1, o1, g2, o2, v, rfl, rfl, e1, e2, hs, hz⟩ := EL.out k hlt
            have hstep : nextFrom vars es (cs.zip al) 0 = nextFrom vars es ((cs[k], al[k]'(by omega)) :: (cs.zip al).drop (k + 1)) k := by
              rw [HN.out]
              congr 1
              rw [List.drop_eq_getElem_cons (show k < (cs.zip al).length by simp; omega)]
              congr 1
              rw [List.getElem?_eq_getElem (show k < (cs.zip al).length by simp; omega)] at hz
              exact Option.some.inj hz
            have HZ := Lib.hid hstep
            have hci := (HI.out _ (List.getElem_mem hlt)).2
            have hc1000 := (HI.out _ (List.getElem_mem hlt)).1
            clear hz hstep HN
            generalize cs[k] = c at *
            generalize al[k]'(by omega) = ab at *
            obtain ⟨a3, c3, rfl, q3, r3, k3⟩ := SL.form hs
            have HK3 := Lib.hid k3
            have HCI := Lib.hid hci
            have E1 := Lib.hid e1
            replace e1 := hu.some e1 (by simp)
            replace e2 := hu.some e2 (by simp)
            clear k3 hs hci
            go_wp2_with fail
            go_loopw [13, 14, 15] (fun is op i wr => ∃ (j : Nat) (bb : Bool), j ≤ c.length ∧ i = .int .i64 j ∧ is = .bool bb ∧ bb = (!ab || (c.take j).any fun x => tval vars es x == 1) ∧ Own wo op ((c.take j).filter fun x => tval vars es x == 0) wr) (fun _ _ i _ => c.length - (intOf i).toNat)
            case atStart => exact ⟨0, !ab, Nat.zero_le _, rfl, rfl, by simp, Own.nil wo⟩
            case round =>
              obtain ⟨j, bb, hj, rfl, rfl, hbb, ho⟩ := hrel
              have HBB := Lib.hid hbb
              have hu2 := hu.step ho.u
              clear hbb
              replace e1 := hu2.some E1.out (by simp)
              have hfl : ((c.take j).filter fun x => tval vars es x == 0).length ≤ c.length := Nat.le_trans (List.length_filter_le _ _) (by rw [List.length_take]; omega)
              obtain ⟨ao, co, rfl, qo, hof⟩ := ho.form
              have HO := Lib.hid ho
              clear ho
              by_cases hjl : j < c.length
              · obtain ⟨g3, o3, rfl, e3⟩ := HK3.out (by omega)
                have e4 := hu2.some (e3 j _ (ints_get (List.getElem?_eq_getElem hjl))) (by simp)
                have hm := h.upd hu2 (by simp)
                have hg : c[j]? = some c[j] := List.getElem?_eq_getElem hjl
                have HG := Lib.hid hg
                have hxi := HCI.out _ (List.getElem_mem hjl)
                clear e3 hg hof
                generalize c[j] = x at *
                have ht3 := tval_cases vars es x
                have HF : Hid (((c.take (j + 1)).filter fun x => tval vars es x == 0) = ((c.take j).filter fun x => tval vars es x == 0) ++ (if tval vars es x = 0 then [x] else [])) := by
                  unfold Hid
                  rw [List.take_add_one, HG.out, List.filter_append]
                  by_cases h0 : tval vars es x = 0 <;> simp [h0]
                have HA : Hid ((!ab || (c.take (j + 1)).any fun x => tval vars es x == 1) = (bb || tval vars es x == 1)) := by
                  unfold Hid
                  rw [HBB.out, List.take_add_one, HG.out, List.any_append]
                  simp [Bool.or_assoc]
                generalize hfe : ((c.take j).filter fun x => tval vars es x == 0) = fs at *
                have HFE := Lib.hid hfe
                clear hfe
                generalize htv : tval vars es x = tv at *
                have HTV := Lib.hid htv
                clear htv
                rcases ht3 with ht | ht | ht
                · subst ht
                  cases bb
                  all_goals
                    go_upto_region 23 with (go_at_call 43; refine (Ref.Value_calls hm x hxi).mono ?_; rintro e w' ⟨rfl, rfl⟩; rw [HTV.out])
                    refine wp_region_lit ?_
                    refine wpList_cutH 8 (fun K hK => ?_)
                    simp only [List.take_succ_cons, List.take_zero]
                    go_wp2_with fail
                    refine Halt_.intro ?_; try simp only [List.drop_succ_cons, List.drop_zero]
                    refine wpList_push rfl rfl _ _ _ _ rfl rfl rfl 3 1 8 _ Try.underlying22 R14.infoInt rfl (by decide) (by decide) (.int .i64 x) [.int .i64 x] rfl rfl rfl (ints_one [x]) _ _ _ HO.out.row rfl rfl (by unfold maxLen; omega) (by omega) ?_
                    intro g4 cap4 w4 o4 u4 k4
                    simp only [Act.put, List.setIfInBounds_toArray, List.set_cons_zero, List.set_cons_succ]
                    have N4 := HO.out.push o4 u4 k4
                    clear o4 u4 k4
                    go_wp2_with fail
                    refine ⟨⟨j + 1, _, by omega, by go_num, rfl, by rw [HA.out]; rfl, ?_⟩, by simp [intOf]; omega⟩
                    rw [HF.out]
                    simpa using N4
                · subst ht
                  cases bb
                  all_goals
                    go_wp2_with (go_at_call 43; refine (Ref.Value_calls hm x hxi).mono ?_; rintro e w' ⟨rfl, rfl⟩; rw [HTV.out])
                    refine ⟨⟨j + 1, _, by omega, by go_num, rfl, by rw [HA.out]; rfl, ?_⟩, by simp [intOf]; omega⟩
                    rw [HF.out]
                    simpa using HO.out
                · subst ht
                  cases bb
                  all_goals
                    go_wp2_with (go_at_call 43; refine (Ref.Value_calls hm x hxi).mono ?_; rintro e w' ⟨rfl, rfl⟩; rw [HTV.out])
                    refine ⟨⟨j + 1, _, by omega, by go_num, rfl, by rw [HA.out]; rfl, ?_⟩, by simp [intOf]; omega⟩
                    rw [HF.out]
                    simpa using HO.out
              · have hjc : j = c.length := by omega
                have HJ : Hid (bb = (!ab || c.any fun x => tval vars es x == 1) ∧ (c.take j).filter (fun x => tval vars es x == 0) = c.filter (fun x => tval vars es x == 0)) := by
                  unfold Hid
                  have := HBB.out
                  rw [hjc, List.take_length] at this
                  exact ⟨this, by rw [hjc, List.take_length]⟩
                clear hjc HBB
                generalize hfe : ((c.take j).filter fun x => tval vars es x == 0) = fs at *
                have HFE := Lib.hid hfe
                clear hfe
                cases bb with
                | true =>
                  clear hof
                  go_wp2_with fail
                  refine ⟨⟨k + 1, by omega, by go_num, ?_, hu2⟩, by simp [intOf]; omega⟩
                  rw [HZ.out]
                  refine next_skip ?_
                  have := HJ.out.1
                  cases ab with
                  | false => rfl
                  | true => rw [if_pos rfl]; exact clOf_true (by simpa using this.symm)
                | false =>
                  obtain ⟨hab, hnt⟩ : ab = true ∧ (c.any fun x => tval vars es x == 1) = false := by
                    have := HJ.out.1
                    cases ab with
                    | false => simp at this
                    | true => exact ⟨rfl, by simpa using this.symm⟩
                  have HAB := Lib.hid (And.intro hab hnt)
                  clear hab hnt
                  by_cases f0 : fs.length = 0
                  · have HX : Hid (nextFrom vars es (cs.zip al) 0 = (0, (k : Int))) := by
                      unfold Hid
                      rw [HZ.out, HAB.out.1]
                      exact next_take (clOf_end HAB.out.2 (.inl ⟨by rw [← HJ.out.2]; exact List.eq_nil_of_length_eq_zero f0, rfl⟩))
                    clear hof
                    go_wp2_with fail
                    go_ret3
                    exact ⟨ret_tup3 (by rw [HR.out, HX.out]; rfl) (by rw [HR.out, HX.out]; rfl) (by rw [HR.out]; rfl), hu2⟩
                  · by_cases f1 : fs.length = 1
                    · obtain ⟨go, rfl, hof2⟩ := hof (by omega)
                      have hf0 := hof2 0 _ (List.getElem?_eq_getElem (by omega))
                      have HX : Hid (nextFrom vars es (cs.zip al) 0 = (fs[0]'(by omega), (k : Int))) := by
                        unfold Hid
                        rw [HZ.out, HAB.out.1]
                        refine next_take (clOf_end HAB.out.2 (.inr ?_))
                        rw [← HJ.out.2]
                        apply List.ext_getElem (by simpa using f1)
                        intro i h1 h2
                        simp at h2
                        subst h2
                        rfl
                      clear hof hof2
                      generalize fs[0]'(by omega) = y at *
                      go_wp2_with fail
                      go_ret3
                      exact ⟨ret_tup3 (by rw [HR.out, HX.out]; rfl) (by rw [HR.out, HX.out]; rfl) (by rw [HR.out]; rfl), hu2⟩
                    · clear hof
                      go_wp2_with fail
                      refine ⟨⟨k + 1, by omega, by go_num, ?_, hu2⟩, by simp [intOf]; omega⟩
                      rw [HZ.out]
                      refine next_skip ?_
                      rw [HAB.out.1, if_pos rfl]
                      exact clOf_two (by rw [← HJ.out.2]; omega)
          · have hke : cs.length ≤ k := by omega
            have HE := Lib.hid (show nextFrom vars es (cs.zip al) 0 = (0, -1) by rw [HN.out, List.drop_eq_nil_of_le (by simp; omega), nextFrom])
            go_wp2_with fail
            go_ret3
            exact ⟨ret_tup3 (by rw [HR.out, HE.out]; rfl) (by rw [HR.out, HE.out]; rfl) (by rw [HR.out]; rfl), hu⟩
  · have hb : ((cs.length : Int) != (al.length : Int)) = true := by simp; omega
    have HR : Hid (nextRes vars es cs al = (0, 0, 1)) := by unfold Hid nextRes; rw [if_pos hlen]
    go_enter Try.func65, Try.ntmps65
    go_wp2_with fail
    go_ret3
    exact ⟨ret_tup3 (by rw [HR.out]; rfl) (by rw [HR.out]; rfl) (by rw [HR.out]; rfl), Upd.refl _ _⟩
end
end Ref
end Go.Proofs.Ytdhhohnaehdpkaa
