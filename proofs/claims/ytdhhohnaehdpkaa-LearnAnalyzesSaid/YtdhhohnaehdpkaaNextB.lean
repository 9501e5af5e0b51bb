/- Walks through package trail: Next. Conditions: none. -/
import Derived.Test.YtdhhohnaehdpkaaNextA
import Derived.Test.YtdhhohnaehdpkaaLib2
set_option linter.unusedVariables false
set_option linter.unusedSimpArgs false
set_option linter.unusedSectionVars false
open Go.RowKit
namespace Go.Proofs.Ytdhhohnaehdpkaa
open L
namespace Trail
open R01
/-- A slice of slices of ints that reads as cs. -/
structure CL (w : World) (lv : Value) (cs : List (List Int)) : Prop where
  ex : ∃ vals : List Value, vals.length = cs.length ∧ SL w 1 lv cs.length vals ∧ ∀ (i : Nat) (c : List Int), cs[i]? = some c → ∃ v, vals[i]? = some v ∧ SL w 1 v c.length (ints c)
theorem CL.upd {S : List Nat} {w w' : World} {lv : Value} {cs : List (List Int)} (h : CL w lv cs) (hu : Upd [] w w') : CL w' lv cs := by
  obtain ⟨vals, h1, h2, h3⟩ := h.ex
  refine ⟨vals, h1, h2.upd hu (by simp), fun i c hc => ?_⟩
  obtain ⟨v, hv, hs⟩ := h3 i c hc
  exact ⟨v, hv, hs.upd hu (by simp)⟩
def clOf (vars : Nat) (es : Es) (c : List Int) : Option Int :=
  if c.any (fun x => tval vars es x == 1) then none else match c.filter (fun x => tval vars es x == 0) with | [] => some 0 | [x] => some x | _ => none
def badC (vars : Nat) (cs : List (List Int)) (al : List Bool) : Bool := (cs.zip al).any fun p => p.2 && p.1.any fun x => !isLit vars x
def nextFrom (vars : Nat) (es : Es) : List (List Int × Bool) → Nat → Int × Int
  | [], _ => (0, -1)
  | (c, a) :: r, i => match (if a = true then clOf vars es c else none) with | some x => (x, i) | none => nextFrom vars es r (i + 1)
def nextRes (vars : Nat) (es : Es) (cs : List (List Int)) (al : List Bool) : Int × Int × Int :=
  if al.length ≠ cs.length then (0, 0, 1) else if badC vars cs al = true then (0, 0, 1) else ((nextFrom vars es (cs.zip al) 0).1, (nextFrom vars es (cs.zip al) 0).2, 0)
section
variable {w : World} {b vars bx : Nat} {es : Es} {now : Int} {S : List Nat}
theorem tval_cases (vars : Nat) (es : Es) (x : Int) : tval vars es x = 0 ∨ tval vars es x = 1 ∨ tval vars es x = -1 := by
  unfold tval
  split
  · split
    · exact .inl rfl
    · split
      · exact .inr (.inl rfl)
      · exact .inr (.inr rfl)
  · exact .inl rfl
theorem clOf_true {c : List Int} (h : (c.any fun x => tval vars es x == 1) = true) : clOf vars es c = none := by unfold clOf; rw [if_pos h]
theorem clOf_two {c : List Int} (h : 2 ≤ (c.filter fun x => tval vars es x == 0).length) : clOf vars es c = none := by
  unfold clOf
  split
  · rfl
  · split
    · rename_i hf; rw [hf] at h; simp at h
    · rename_i hf; rw [hf] at h; simp at h
    · rfl
theorem clOf_end {c : List Int} {op : Int} (h : (c.any fun x => tval vars es x == 1) = false) (h2 : (c.filter fun x => tval vars es x == 0) = [] ∧ op = 0 ∨ (c.filter fun x => tval vars es x == 0) = [op]) : clOf vars es c = some op := by
  unfold clOf
  rw [if_neg (by rw [h]; simp)]
  rcases h2 with ⟨h2, rfl⟩ | h2 <;> rw [h2]
theorem next_skip {c : List Int} {a : Bool} {r : List (List Int × Bool)} {k : Nat} (h : (if a = true then clOf vars es c else none) = none) : nextFrom vars es ((c, a) :: r) k = nextFrom vars es r (k + 1) := by
  rw [nextFrom, h]
theorem next_take {c : List Int} {r : List (List Int × Bool)} {k : Nat} {op : Int} (h : clOf vars es c = some op) : nextFrom vars es ((c, true) :: r) k = (op, (k : Int)) := by
  rw [nextFrom, if_pos rfl, h]
theorem filter_take_le {c : List Int} {n : Nat} (p : Int → Bool) : ((c.take n).filter p).length ≤ (c.filter p).length := ((List.take_sublist n c).filter p).length_le
set_option maxRecDepth 100000 in
set_option maxHeartbeats 4000000 in
theorem Next_calls (h : Tr w b vars es now S) {lv av : Value} {cs : List (List Int)} {al : List Bool} (hl : CL w lv cs) (ha : SL w 1 av al.length (bools al)) :
    Calls Try.prog 31 #[.pointer (some ⟨b, 0, none⟩), lv, av] w fun e w' => e = .returned (.tuple #[.int .i64 (nextRes vars es cs al).1, .int .i64 (nextRes vars es cs al).2.1, .int .i64 (nextRes vars es cs al).2.2]) ∧ Upd [] w w' := by
  obtain ⟨vals, hvl, hls, hvals⟩ := hl.ex
  obtain ⟨a1, c1, rfl, q1, r1, k1⟩ := SL.form hls
  obtain ⟨a2, c2, rfl, q2, r2, k2⟩ := SL.form ha
  have u0 := (Upd.refl [] w).alloc (.cells #[.pointer (some ⟨b, 0, none⟩)] 31)
  have N0 := (Blk.new w [.pointer (some ⟨b, 0, none⟩)] 31).cell (i := 0) rfl
  have HK1 := Lib.hid k1
  have HK2 := Lib.hid k2
  have HV := Lib.hid hvals
  have h1 := h.upd u0 (by simp)
  clear k1 k2 hls ha hl hvals
  by_cases hlen : al.length = cs.length
  · have hb : ((al.length : Int) != (cs.length : Int)) = false := by simp [hlen]
    have le1 : al.length ≤ cs.length := by omega
    have le2 : cs.length ≤ al.length := by omega
    have HL := Lib.hid hlen
    clear hlen
    go_enter Try.func31, Try.ntmps31
    go_wp2_with fail
    generalize w.alloc (.cells #[.pointer (some ⟨b, 0, none⟩)] 31) = w1 at *
    generalize w.heap.size = bx at *
    go_step3
    go_wp2_with fail
    go_loop [23] (fun i => ∃ k : Nat, k ≤ cs.length ∧ i = .int .i64 k ∧ ∀ j, j < k → ∀ p, (cs.zip al)[j]? = some p → (p.2 && p.1.any fun x => !isLit vars x) = false) (fun i => cs.length - (intOf i).toNat)
    case atStart => exact ⟨0, Nat.zero_le _, rfl, fun j hj => by omega⟩
    case round =>
      obtain ⟨k, hk, rfl, hlo⟩ := hrel
      have HLO := Lib.hid hlo
      clear hlo
      by_cases hlt : k < cs.length
      · obtain ⟨g1, o1, rfl, e1⟩ := HK1.out (by omega)
        obtain ⟨g2, o2, rfl, e2⟩ := HK2.out (by omega)
        obtain ⟨v, hv, hs⟩ := HV.out k _ (List.getElem?_eq_getElem hlt)
        replace e1 := u0.some (e1 k v hv) (by simp)
        replace e2 := u0.some (e2 k _ (bools_get (List.getElem?_eq_getElem (show k < al.length by omega)))) (by simp)
        have hz : (cs.zip al)[k]? = some (cs[k], al[k]'(by omega)) := by
          rw [List.getElem?_zip_eq_some]; exact ⟨List.getElem?_eq_getElem hlt, List.getElem?_eq_getElem (by omega)⟩
        have HZ := Lib.hid hz
        have hs1 := hs.upd u0 (by simp)
        clear hz hv hs
        generalize cs[k] = c at *
        generalize al[k]'(by omega) = ab at *
        by_cases hab : ab = true
        · subst hab
          by_cases hbad : (c.any fun x => !isLit vars x) = true
          · have HB := Lib.hid hbad
            have HR : Hid (nextRes vars es cs al = (0, 0, 1)) := by
              unfold Hid nextRes
              have : badC vars cs al = true := by
                unfold badC
                rw [List.any_eq_true]
                exact ⟨_, List.mem_of_getElem? HZ.out, by simp [hbad]⟩
              rw [if_neg (by simpa using HL.out), if_pos this]
            clear hbad
            go_wp2_with (go_at_call 63; refine (ContainsFunc_calls h1 N0 hs1).mono ?_; rintro e w' ⟨rfl, rfl⟩; rw [HB.out])
            try rw [Exit.noGoto_ret]
            go_ret3
            exact ⟨ret_tup3 (by rw [HR.out]; rfl) (by rw [HR.out]; rfl) (by rw [HR.out]; rfl), u0⟩
          · have hbad' : (c.any fun x => !isLit vars x) = false := by simpa using hbad
            have HB := Lib.hid hbad'
            clear hbad hbad'
            go_wp2_with (go_at_call 63; refine (ContainsFunc_calls h1 N0 hs1).mono ?_; rintro e w' ⟨rfl, rfl⟩; rw [HB.out])
            refine ⟨⟨k + 1, by omega, by go_num, fun j hj p hp => ?_⟩, by simp [intOf]; omega⟩
            rcases Nat.lt_or_ge j k with h | h
            · exact HLO.out j h p hp
            · obtain rfl : j = k := by omega
              rw [HZ.out] at hp
              cases hp
              simp [HB.out]
        · have hab' : ab = false := by simpa using hab
          subst hab'
          go_wp2_with fail
          refine ⟨⟨k + 1, by omega, by go_num, fun j hj p hp => ?_⟩, by simp [intOf]; omega⟩
          rcases Nat.lt_or_ge j k with h | h
          · exact HLO.out j h p hp
          · obtain rfl : j = k := by omega
            rw [HZ.out] at hp
            cases hp
            rfl
      · have HR : Hid (nextRes vars es cs al = ((nextFrom vars es (cs.zip al) 0).1, (nextFrom vars es (cs.zip al) 0).2, 0)) := by
          unfold Hid nextRes
          have : badC vars cs al = false := by
            unfold badC
            rw [List.any_eq_false]
            intro p hp
            obtain ⟨j, hj, rfl⟩ := List.getElem_of_mem hp
            have := HLO.out j (by simp at hj; omega) _ (List.getElem?_eq_getElem hj)
            simpa using this
          rw [if_neg (by simpa using HL.out), if_neg (by simp [this])]
        have hge : cs.length ≤ k := by omega
        go_wp2_with fail
        try go_step3
        go_wp2_with fail
        clear hk hge HLO
        go_loopw [40] (fun i wr => ∃ k : Nat, k ≤ cs.length ∧ i = .int .i64 k ∧ nextFrom vars es (cs.zip al) 0 = nextFrom vars es ((cs.zip al).drop k) k ∧ Upd [] w1 wr) (fun i _ => cs.length - (intOf i).toNat)
        case atStart => exact ⟨0, Nat.zero_le _, rfl, by simp, Upd.refl _ _⟩
        case round =>
          obtain ⟨k, hk, rfl, hnx, hu⟩ := hrel
          have HN := Lib.hid hnx
          clear hnx
          have hu0 := hu
          obtain ⟨wo, rfl⟩ : ∃ wo : World, wo = wr := ⟨_, rfl⟩
          by_cases hlt : k < cs.length
          · obtain ⟨g1, o1, rfl, e1⟩ := HK1.out (by omega)
            obtain ⟨g2, o2, rfl, e2⟩ := HK2.out (by omega)
            obtain ⟨v, hv, hs⟩ := HV.out k _ (List.getElem?_eq_getElem hlt)
            replace e1 := hu.some (u0.some (e1 k v hv) (by simp)) (by simp)
            replace e2 := hu.some (u0.some (e2 k _ (bools_get (List.getElem?_eq_getElem (show k < al.length by omega)))) (by simp)) (by simp)
            have hz : (cs.zip al)[k]? = some (cs[k], al[k]'(by omega)) := by
              rw [List.getElem?_zip_eq_some]; exact ⟨List.getElem?_eq_getElem hlt, List.getElem?_eq_getElem (by omega)⟩
            have hstep : nextFrom vars es (cs.zip al) 0 = nextFrom vars es ((cs[k], al[k]'(by omega)) :: (cs.zip al).drop (k + 1)) k := by
              rw [HN.out]
              congr 1
              rw [List.drop_eq_getElem_cons (show k < (cs.zip al).length by simp; omega)]
              congr 1
              rw [List.getElem?_eq_getElem (show k < (cs.zip al).length by simp; omega)] at hz
              exact Option.some.inj hz
            have HZ := Lib.hid hstep
            have hs1 := (hs.upd u0 (by simp)).upd hu (by simp)
            have hN := hu.some N0 (by simp)
            have h2 := h1.upd hu (by simp)
            clear hz hv hs hstep HN
            generalize cs[k] = c at *
            generalize al[k]'(by omega) = ab at *
            by_cases hab : ab = true
            · subst hab
              obtain ⟨a3, c3, rfl, q3, r3, k3⟩ := SL.form hs1
              have HK3 := Lib.hid k3
              clear k3 hs1
              go_wp2_with fail
              go_loopw [12, 13, 53] (fun o n i wr => ∃ (j : Nat) (op : Int), j ≤ c.length ∧ i = .int .i64 j ∧ o = .int .i64 op ∧ n = .int .i64 ((c.take j).filter fun x => tval vars es x == 0).length ∧ ((c.take j).filter fun x => tval vars es x == 0).length ≤ 1 ∧
                (((c.take j).filter fun x => tval vars es x == 0) = [] ∧ op = 0 ∨ ((c.take j).filter fun x => tval vars es x == 0) = [op]) ∧ ((c.take j).any fun x => tval vars es x == 1) = false ∧ Upd [] wo wr) (fun _ _ i _ => c.length - (intOf i).toNat)
              case atStart => exact ⟨0, 0, Nat.zero_le _, rfl, rfl, rfl, by simp, by simp, by simp, Upd.refl _ _⟩
              case round =>
                obtain ⟨j, op, hj, rfl, rfl, rfl, hc1, hc2, hc3, hu3⟩ := hrel
                have HC := Lib.hid (And.intro hc2 hc3)
                clear hc2 hc3
                by_cases hjl : j < c.length
                · obtain ⟨g3, o3, rfl, e3⟩ := HK3.out (by omega)
                  have e4 := hu3.some (e3 j _ (ints_get (List.getElem?_eq_getElem hjl))) (by simp)
                  have hN2 := hu3.some hN (by simp)
                  have h3 := h2.upd hu3 (by simp)
                  have hg : c[j]? = some c[j] := List.getElem?_eq_getElem hjl
                  have HG := Lib.hid hg
                  clear e3 hg
                  generalize c[j] = x at *
                  rcases tval_cases vars es x with ht | ht | ht
                  · have HT := Lib.hid ht
                    clear ht
                    have hf : ((c.take (j + 1)).filter fun x => tval vars es x == 0) = ((c.take j).filter fun x => tval vars es x == 0) ++ [x] := by
                      rw [List.take_add_one, HG.out, List.filter_append]; simp [HT.out]
                    have hf2 : ((c.take (j + 1)).any fun x => tval vars es x == 1) = false := by
                      rw [List.take_add_one, HG.out, List.any_append, HC.out.2]; simp [HT.out]
                    have HF := Lib.hid (And.intro hf hf2)
                    clear hf hf2
                    generalize hcnt : ((c.take j).filter fun x => tval vars es x == 0).length = cnt at *
                    have HCNT := Lib.hid hcnt
                    clear hcnt
                    rcases (by omega : cnt = 0 ∨ cnt = 1) with rfl | rfl
                    · go_wp2_with (go_at_call 29; refine (Value_calls h3 x).mono ?_; rintro e w' ⟨rfl, hu⟩; rw [HT.out]; obtain ⟨y, rfl⟩ := Ext.of hu)
                      have hnil : ((c.take j).filter fun x => tval vars es x == 0) = [] := List.eq_nil_of_length_eq_zero HCNT.out
                      refine ⟨⟨j + 1, x, by omega, by go_num, rfl, ?_, ?_, .inr ?_, HF.out.2, hu3.step y.upd⟩, by simp [intOf]; omega⟩
                      · rw [HF.out.1, hnil]; rfl
                      · rw [HF.out.1, hnil]; simp
                      · rw [HF.out.1, hnil]; rfl
                    · go_wp2_with (go_at_call 29; refine (Value_calls h3 x).mono ?_; rintro e w' ⟨rfl, hu⟩; rw [HT.out]; obtain ⟨y, rfl⟩ := Ext.of hu)
                      refine ⟨⟨k + 1, by omega, by go_num, by rw [HZ.out]; exact next_skip (by rw [if_pos rfl]; exact clOf_two (Nat.le_trans (by rw [HF.out.1, List.length_append, HCNT.out]; simp) (filter_take_le (n := j + 1) _))), (hu0.trans hu3).step y.upd⟩, by simp [intOf]; omega⟩
                  · have HT := Lib.hid ht
                    have hf2 : (c.any fun x => tval vars es x == 1) = true := by
                      rw [List.any_eq_true]; exact ⟨x, List.mem_of_getElem? HG.out, by simp [ht]⟩
                    have HF := Lib.hid hf2
                    clear ht hf2
                    go_wp2_with (go_at_call 29; refine (Value_calls h3 x).mono ?_; rintro e w' ⟨rfl, hu⟩; rw [HT.out]; obtain ⟨y, rfl⟩ := Ext.of hu)
                    refine ⟨⟨k + 1, by omega, by go_num, by rw [HZ.out]; exact next_skip (by rw [if_pos rfl]; exact clOf_true HF.out), (hu0.trans hu3).step y.upd⟩, by simp [intOf]; omega⟩
                  · have HT := Lib.hid ht
                    clear ht
                    have hf : ((c.take (j + 1)).filter fun x => tval vars es x == 0) = ((c.take j).filter fun x => tval vars es x == 0) := by
                      rw [List.take_add_one, HG.out, List.filter_append]; simp [HT.out]
                    have hf2 : ((c.take (j + 1)).any fun x => tval vars es x == 1) = false := by
                      rw [List.take_add_one, HG.out, List.any_append, HC.out.2]; simp [HT.out]
                    have HF := Lib.hid (And.intro hf hf2)
                    clear hf hf2
                    generalize hcnt : ((c.take j).filter fun x => tval vars es x == 0).length = cnt at *
                    have HCNT := Lib.hid hcnt
                    clear hcnt
                    go_wp2_with (go_at_call 29; refine (Value_calls h3 x).mono ?_; rintro e w' ⟨rfl, hu⟩; rw [HT.out]; obtain ⟨y, rfl⟩ := Ext.of hu)
                    refine ⟨⟨j + 1, op, by omega, by go_num, rfl, ?_, ?_, ?_, HF.out.2, hu3.step y.upd⟩, by simp [intOf]; omega⟩
                    · rw [HF.out.1, HCNT.out]
                    · rw [HF.out.1, HCNT.out]; exact hc1
                    · rw [HF.out.1]; exact HC.out.1
                · obtain rfl : j = c.length := by omega
                  have hcl : clOf vars es c = some op := clOf_end (by have := HC.out.2; rwa [List.take_length] at this) (by have := HC.out.1; rwa [List.take_length] at this)
                  have HCL := Lib.hid (show nextFrom vars es (cs.zip al) 0 = (op, (k : Int)) by rw [HZ.out]; exact next_take hcl)
                  clear hcl
                  go_wp2_with fail
                  try rw [Exit.noGoto_ret]
                  go_ret3
                  exact ⟨ret_tup3 (by rw [HR.out, HCL.out]; rfl) (by rw [HR.out, HCL.out]; rfl) (by rw [HR.out]; rfl), (u0.trans hu0).trans hu3⟩
            · have hab' : ab = false := by simpa using hab
              subst hab'
              go_wp2_with fail
              refine ⟨⟨k + 1, by omega, by go_num, by rw [HZ.out]; exact next_skip (by simp), hu0⟩, by simp [intOf]; omega⟩
          · have hke : cs.length ≤ k := by omega
            have HE := Lib.hid (show nextFrom vars es (cs.zip al) 0 = (0, -1) by rw [HN.out, List.drop_eq_nil_of_le (by simp; omega), nextFrom])
            go_wp2_with fail
            try rw [Exit.noGoto_ret]
            go_ret3
            exact ⟨ret_tup3 (by rw [HR.out, HE.out]; rfl) (by rw [HR.out, HE.out]; rfl) (by rw [HR.out]; rfl), u0.trans hu0⟩
  · have hb : ((al.length : Int) != (cs.length : Int)) = true := by simp; omega
    have HR : Hid (nextRes vars es cs al = (0, 0, 1)) := by unfold Hid nextRes; rw [if_pos hlen]
    go_enter Try.func31, Try.ntmps31
    go_wp2_with fail
    go_step3
    go_wp2_with fail
    try rw [Exit.noGoto_ret]
    go_ret3
    exact ⟨ret_tup3 (by rw [HR.out]; rfl) (by rw [HR.out]; rfl) (by rw [HR.out]; rfl), u0⟩
end
end Trail
end Go.Proofs.Ytdhhohnaehdpkaa
