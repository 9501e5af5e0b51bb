/- Walks through package clause and its reference: Valid, examine, List, Has, Contains, Clone. Conditions: none. -/
import Derived.Test.YtjflbhkhnmodaaaClause
import Derived.Test.YtjflbhkhnmodaaaSome
import Derived.Test.YtjflbhkhnmodaaaNorm
set_option linter.unusedVariables false
set_option linter.unusedSimpArgs false
set_option linter.unusedSectionVars false
open Go.RowKit
namespace Go.Proofs.Ytjflbhkhnmodaaa
open L
namespace Cla
open R01 R14
def validErr (c : List Int) : Int := if listErr c ≠ 0 then listErr c else if ordB c = true then 0 else 10
theorem validErr_ok {c : List Int} : validErr c = 0 ↔ listErr c = 0 ∧ Ord c := by
  unfold validErr
  by_cases h : listErr c = 0
  · by_cases h2 : ordB c = true
    · simp [h, h2, (ordB_iff c).1 h2]
    · have : ¬ Ord c := fun h3 => h2 ((ordB_iff c).2 h3)
      simp [h, h2, this]
  · simp [h]
theorem ordUp_false {c : List Int} {k : Nat} (hk : k < c.length) (h0 : 0 < k) (h : ¬ (c.getD (k - 1) 0).natAbs < (c.getD k 0).natAbs) : ordB c = false := by
  rw [Bool.eq_false_iff]
  intro h2
  unfold ordB at h2
  rw [List.all_eq_true] at h2
  have := h2 k (by simp [hk])
  simp only [Bool.or_eq_true, decide_eq_true_eq] at this
  omega
theorem ints_gd {c : List Int} {k : Nat} (h : k < c.length) : (ints c)[k]? = some (.int .i64 (c.getD k 0)) := ints_get (by rw [List.getD_eq_getElem?_getD, List.getElem?_eq_getElem h]; rfl)
theorem gd_mem {c : List Int} {k : Nat} (h : k < c.length) : c.getD k 0 ∈ c := by
  rw [List.getD_eq_getElem?_getD, List.getElem?_eq_getElem h]
  exact List.getElem_mem h
/-- Is a number in a list? -/
def hasB (c : List Int) (n : Int) : Bool := c.contains n
theorem hasB_iff {c : List Int} {n : Int} : hasB c n = true ↔ n ∈ c := by unfold hasB; exact List.contains_iff_mem
theorem hasB_no {c : List Int} {n : Int} : hasB c n = false ↔ n ∉ c := by rw [Bool.eq_false_iff, ne_eq, hasB_iff]
def IdxT (c : List Int) (n : Int) (w : World) (e : Ending) (w' : World) : Prop := (∃ i : Int, e = .returned (.int .i64 i) ∧ (0 ≤ i ↔ n ∈ c) ∧ -1 ≤ i) ∧ w = w'
section
variable {w : World}
set_option maxRecDepth 100000 in
set_option maxHeartbeats 2000000 in
theorem Valid_calls {v : Value} {c : List Int} (h : SL w 1 v c.length (ints c)) : Calls Try.prog 24 #[v] w fun e w' => e = .returned (.int .i64 (validErr c)) ∧ Upd [] w w' := by
  have HL := Lib.hid (listError_calls h)
  obtain ⟨a, cap, rfl, q1, r1, hc⟩ := SL.form h
  have HC := Lib.hid hc
  clear h hc
  by_cases hle : listErr c = 0
  · have HLIT := Lib.hid (listErr_lit hle).2
    have hcl := (listErr_lit hle).1
    have HR := Lib.hid (show validErr c = if ordB c = true then 0 else 10 by unfold validErr; rw [if_neg (by rw [hle]; simp)])
    have HLE := Lib.hid hle
    clear hle
    go_enter Try.func24, Try.ntmps24
    go_wp2_with fail
    refine HL.out.mono ?_
    rintro e _ ⟨rfl, rfl⟩
    rw [HLE.out]
    go_wp2_with fail
    go_loopw [4] (fun i wr => ∃ k : Nat, 1 ≤ k ∧ (k ≤ c.length ∨ k = 1) ∧ i = .int .i64 k ∧ ordUp c k = true ∧ Upd [] w wr) (fun i _ => c.length + 1 - (intOf i).toNat)
    case atStart => exact ⟨1, by omega, by omega, rfl, by simp [ordUp, List.range_succ], Upd.refl _ _⟩
    case round =>
      obtain ⟨k, hk1, hk, rfl, ho, hu⟩ := hrel
      have HO := Lib.hid (And.intro ho hu)
      clear ho hu
      by_cases hlt : k < c.length
      · obtain ⟨g, off, rfl, k1⟩ := HC.out (by omega)
        have e1 := HO.out.2.some (k1 k _ (ints_gd hlt)) (by simp)
        have e2 := HO.out.2.some (k1 (k - 1) _ (ints_gd (show k - 1 < c.length by omega))) (by simp)
        have i1 : ((k : Int) - 1).toNat = k - 1 := by omega
        obtain ⟨_, hx1, hx2⟩ := HLIT.out _ (gd_mem hlt)
        obtain ⟨_, hy1, hy2⟩ := HLIT.out _ (gd_mem (show k - 1 < c.length by omega))
        clear k1
        generalize hgx : c.getD k 0 = x at *
        generalize hgy : c.getD (k - 1) 0 = y at *
        have HG := Lib.hid (And.intro hgx hgy)
        clear hgx hgy
        by_cases hxy : y.natAbs < x.natAbs
        · have hb : ¬ ((x.natAbs : Int) ≤ y.natAbs) := by omega
          go_wp2_with fail
          refine wp_region_qx (by kernel_rfl) (by kernel_rfl) ?_
          repeat (go_big_quiet_step (((first | (go_at_call 27; exact qs (var_calls x (by omega) (by omega))) | (go_at_call 27; exact qs (var_calls y (by omega) (by omega)))))))
          refine wpQuiet_nil ?_
          intro x
          go_wp2_with fail
          refine ⟨⟨k + 1, by omega, by omega, by go_num, ?_, HO.out.2.step x.upd⟩, by simp [intOf]; omega⟩
          rw [ordUp_succ, HO.out.1, HG.out.1, HG.out.2]
          simp [hxy]
        · have hb : ((x.natAbs : Int) ≤ y.natAbs) := by omega
          go_wp2_with fail
          refine wp_region_qx (by kernel_rfl) (by kernel_rfl) ?_
          repeat (go_big_quiet_step (((first | (go_at_call 27; exact qs (var_calls x (by omega) (by omega))) | (go_at_call 27; exact qs (var_calls y (by omega) (by omega)))))))
          refine wpQuiet_nil ?_
          intro x
          go_wp2_with fail
          go_ret
          refine ⟨ret_int ?_, HO.out.2.step x.upd⟩
          rw [HR.out, ordUp_false hlt (by omega) (by rw [HG.out.1, HG.out.2]; exact hxy)]
          rfl
      · go_wp2_with fail
        go_ret
        refine ⟨ret_int ?_, HO.out.2⟩
        rw [HR.out, if_pos]
        rcases (by omega : k = c.length ∨ c.length = 0) with hk | hk
        · subst hk
          exact HO.out.1
        · have : c = [] := List.eq_nil_of_length_eq_zero (by omega)
          subst this; rfl
  · have HR := Lib.hid (show validErr c = listErr c by unfold validErr; rw [if_pos hle])
    generalize listErr c = er at *
    have hb : (er != 0) = true := by simpa using hle
    clear hle
    go_enter Try.func24, Try.ntmps24
    go_wp2_with fail
    refine HL.out.mono ?_
    rintro e _ ⟨rfl, rfl⟩
    go_wp2_with fail
    go_ret
    exact ⟨ret_int HR.out.symm, Upd.refl _ _⟩
set_option maxHeartbeats 1000000 in
theorem Clone_calls {v : Value} {xs : List Int} (h : SL w 1 v xs.length (ints xs)) (hb : xs.length ≤ 8796093022208) : Calls Try.prog 29 #[v] w fun e w' => ∃ a cap, e = .returned (.slice a xs.length cap) ∧ Own w (.slice a xs.length cap) xs w' := by
  obtain ⟨hl, a, cap, rfl, hc, hm, hnil, hcell⟩ := h
  have H : SL w 1 (.slice a xs.length cap) xs.length (ints xs) := ⟨hl, a, cap, rfl, hc, hm, hnil, hcell⟩
  have hnl := fun (w : World) (a : Option Addr) (n c : Nat) => Lib.run_eql_slice_nil (P := Try.prog) w 24 _ a n c 0 0 Try.underlying24
  cases a with
  | none =>
    have h0 : xs.length = 0 := by have := hnil rfl; omega
    have hx : xs = [] := List.eq_nil_of_length_eq_zero h0
    subst hx
    have hc0 : cap = 0 := hnil rfl
    subst hc0
    clear hl hcell H hnil h0
    go_enter Try.func29, Try.ntmps29
    go_wp2_with fail
    go_ret
    exact ⟨none, 0, rfl, Own.nil _⟩
  | some ad =>
    clear hl hcell hnil
    go_enter Try.func29, Try.ntmps29
    go_upto_region 3 with fail
    refine wp_region_lit ?_
    refine wpList_cutH 2 (fun K hK => ?_)
    simp only [List.take_succ_cons, List.take_zero]
    go_wp2_with fail
    refine Halt_.intro ?_; try simp only [List.drop_succ_cons, List.drop_zero]
    have g0 := owns_none (w := w) rfl 3
    have u0 := (Upd.refl [] w).alloc (.cells #[] 3)
    have H0 := H.upd u0 (by simp)
    have hs : (w.alloc (.cells #[] 3)).heap.size = w.heap.size + 1 := by simp
    generalize w.alloc (.cells #[] 3) = w0 at *
    refine wpList_appS rfl _ _ _ rfl 3 1 8 _ Try.underlying24 infoInt rfl (by decide) (.slice (some ⟨w.heap.size, 0, none⟩) 0 0) 0 [] rfl (owns_blk g0 rfl (by unfold maxLen; omega)) (.slice (some ad) xs.length cap) xs.length (ints xs) rfl H0 (ints_one _) (by unfold maxLen; omega) (by omega) ?_
    intro a1 cap1 w1 o1 u1 k1
    simp only [Act.put, List.setIfInBounds_toArray, List.set_cons_zero, List.set_cons_succ]
    rw [List.nil_append] at o1
    have HO := Lib.hid (And.intro o1 (And.intro u1 k1))
    clear o1 u1 k1 H H0 g0
    simp only [Nat.zero_add] at HO ⊢
    go_wp2_with fail
    go_ret
    refine ⟨a1, cap1, rfl, HO.out.1, fun g hg => ?_, u0.fresh HO.out.2.1 (fun j hj => .inr (by simp [Value.ownBlock] at hj; omega))⟩
    rcases HO.out.2.2 with h | h
    · rw [hg] at h; simp [Value.ownBlock] at h; omega
    · rw [hg] at h; simp at h; omega
end
end Cla
end Go.Proofs.Ytjflbhkhnmodaaa
