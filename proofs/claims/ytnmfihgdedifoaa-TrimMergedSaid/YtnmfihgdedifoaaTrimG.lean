/- Walks through the reference of package trim: equal lists of steps. Conditions: none. -/
import Derived.Test.YtnmfihgdedifoaaTrimF
set_option linter.unusedVariables false
set_option linter.unusedSimpArgs false
set_option linter.unusedSectionVars false
open Go.RowKit
namespace Go.Proofs.Ytnmfihgdedifoaa
open L R01
namespace Trim
def sameSs : List StepD → List StepD → Bool
  | [], [] => true
  | x :: l, y :: m => sameSt x y && sameSs l m
  | _, _ => false
theorem sameSs_iff : ∀ {l m : List StepD}, sameSs l m = true ↔ l = m
  | [], [] => by simp [sameSs]
  | [], _ :: _ => by simp [sameSs]
  | _ :: _, [] => by simp [sameSs]
  | x :: l, y :: m => by
    unfold sameSs
    rw [Bool.and_eq_true, sameSs_iff, List.cons.injEq, sameSt_iff]
theorem sameSs_no {l m : List StepD} (h : l ≠ m) : sameSs l m = false := by
  cases e : sameSs l m with
  | false => rfl
  | true => exact absurd (sameSs_iff.1 e) h
theorem takeS {l : List StepD} {n : Nat} (hn : n < l.length) : l.take (n + 1) = l.take n ++ [l[n]] := by
  rw [List.take_add_one, List.getElem?_eq_getElem hn]; rfl
section
variable {w : World} {v v2 : Value}
set_option maxRecDepth 100000 in
set_option maxHeartbeats 4000000 in
theorem sameSs_calls {l m : List StepD} (h1 : StL w v l) (h2 : StL w v2 m) : Calls Try.prog 39 #[v, v2] w fun e w' => e = .returned (.bool (sameSs l m)) ∧ Upd [] w w' := by
  obtain ⟨a1, cap1, rfl, q1, r1, k1⟩ := h1.at_
  obtain ⟨a2, cap2, rfl, q2, r2, k2⟩ := h2.at_
  have HK := Lib.hid (And.intro k1 k2)
  clear h1 h2 k1 k2
  by_cases hlen : l.length = m.length
  · have hb : ((l.length : Int) != (m.length : Int)) = false := by simp [hlen]
    have hle1 : l.length ≤ m.length := by omega
    have hle2 : m.length ≤ l.length := by omega
    clear hlen
    go_enter Try.func39, Try.ntmps39
    go_wp2_with fail
    go_loopw [5] (fun i wr => ∃ k : Nat, i = .int .i64 k ∧ k ≤ l.length ∧ l.take k = m.take k ∧ Upd [] w wr) (fun i _ => l.length - (intOf i).toNat)
    case atStart => exact ⟨0, rfl, Nat.zero_le _, by simp, Upd.refl _ _⟩
    case round =>
      obtain ⟨wo, rfl⟩ : ∃ wo : World, wo = wr := ⟨_, rfl⟩
      obtain ⟨k, rfl, hk, htk, hu⟩ := hrel
      by_cases hlt : k < l.length
      · have hlt' : (k : Int) < l.length := by omega
        have hkm : k < m.length := by omega
        obtain ⟨g, p1, l1, h1, rfl, e1, f1⟩ := HK.out.1 k _ (List.getElem?_eq_getElem hlt)
        obtain ⟨g', p2, l2, h2, rfl, e2, f2⟩ := HK.out.2 k _ (List.getElem?_eq_getElem hkm)
        have HT := Lib.hid (And.intro htk (And.intro (takeS hlt) (And.intro (takeS hkm) (show l = m → l[k] = m[k] from fun h => by subst h; rfl))))
        generalize l[k] = x at *
        generalize m[k] = y at *
        obtain ⟨ap, cp, rfl, _⟩ := f1.1.cells
        obtain ⟨al, cl, rfl, _⟩ := f1.2.1.cells
        obtain ⟨ah, ch, rfl, _⟩ := f1.2.2.1.cells
        obtain ⟨bp, dp, rfl, _⟩ := f2.1.cells
        obtain ⟨bl, dl, rfl, _⟩ := f2.2.1.cells
        obtain ⟨bh, dh, rfl, _⟩ := f2.2.2.1.cells
        have d0 := hu.some (e1 0 _ rfl) (by simp)
        have d1 := hu.some (e1 1 _ rfl) (by simp)
        have d2 := hu.some (e1 2 _ rfl) (by simp)
        have d3 := hu.some (e1 3 _ rfl) (by simp)
        have d4 := hu.some (e1 4 _ rfl) (by simp)
        have d5 := hu.some (e1 5 _ rfl) (by simp)
        have d6 := hu.some (e1 6 _ rfl) (by simp)
        have c0 := hu.some (e2 0 _ rfl) (by simp)
        have c1 := hu.some (e2 1 _ rfl) (by simp)
        have c2 := hu.some (e2 2 _ rfl) (by simp)
        have c3 := hu.some (e2 3 _ rfl) (by simp)
        have c4 := hu.some (e2 4 _ rfl) (by simp)
        have c5 := hu.some (e2 5 _ rfl) (by simp)
        have c6 := hu.some (e2 6 _ rfl) (by simp)
        rw [Nat.add_zero] at d0 c0
        have HF := Lib.hid (And.intro (f1.ext hu) (And.intro (f2.ext hu) hu))
        clear hu e1 e2 f1 f2 htk
        by_cases hxy : x = y
        · have hs := sameSt_iff.2 hxy
          have HXY := Lib.hid hxy
          have HSS := Lib.hid (fun (z : Ext wo) => by have h := sameSt_calls (HF.out.1.ext z.upd) (HF.out.2.1.ext z.upd); rw [hs] at h; exact h)
          clear hxy hs
          go_wp2_with fail
          refine wp_region_qx (by kernel_rfl) (by kernel_rfl) ?_
          repeat (go_big_quiet_step (((go_at_call 29; exact qx (HSS.out _)))))
          refine wpQuiet_nil ?_
          intro x
          go_wp2_with fail
          exact ⟨⟨k + 1, by go_num, by omega, by rw [HT.out.2.1, HT.out.2.2.1, HT.out.1, HXY.out], HF.out.2.2.step (by assumption : Ext wo).upd⟩, by simp [intOf]; omega⟩
        · have HD := Lib.hid (show sameSs l m = false from sameSs_no (fun h => hxy (HT.out.2.2.2 h)))
          have hs : sameSt x y = false := by
            cases e : sameSt x y with
            | false => rfl
            | true => exact absurd (sameSt_iff.1 e) hxy
          have HSS := Lib.hid (fun (z : Ext wo) => by have h := sameSt_calls (HF.out.1.ext z.upd) (HF.out.2.1.ext z.upd); rw [hs] at h; exact h)
          clear hxy hs
          go_wp2_with fail
          refine wp_region_qx (by kernel_rfl) (by kernel_rfl) ?_
          repeat (go_big_quiet_step (((go_at_call 29; exact qx (HSS.out _)))))
          refine wpQuiet_nil ?_
          intro x
          go_wp2_with fail
          go_ret
          rw [HD.out]
          exact ⟨rfl, HF.out.2.2.step (by assumption : Ext wo).upd⟩
      · have hkl : k = l.length := by omega
        subst hkl
        rw [List.take_of_length_le (by omega), List.take_of_length_le (by omega)] at htk
        have HD := Lib.hid (show sameSs l m = true from sameSs_iff.2 htk)
        clear htk
        go_wp2_with fail
        go_ret
        rw [HD.out]
        exact ⟨rfl, hu⟩
  · have hb : ((l.length : Int) != (m.length : Int)) = true := by simp; omega
    have HD := Lib.hid (show sameSs l m = false from sameSs_no (fun h => hlen (by rw [h])))
    clear hlen
    go_enter Try.func39, Try.ntmps39
    go_wp2_with fail
    go_ret
    rw [HD.out]
    exact ⟨rfl, Upd.refl _ _⟩
end
end Trim
end Go.Proofs.Ytnmfihgdedifoaa
