/- Walks through the reference of clauses: Put, Normal, without, Value, State, Subsumes, True. Conditions: none. -/
import Derived.Test.YtdhhohnaehdpkaaVal
import Derived.Test.YtdhhohnaehdpkaaLists
set_option linter.unusedVariables false
set_option linter.unusedSimpArgs false
set_option linter.unusedSectionVars false
open Go.RowKit
namespace Go.Proofs.Ytdhhohnaehdpkaa
open L
namespace Cla
open R01 R14
attribute [-go_sem] sliced
theorem putAt_le (l : List Int) (n : Int) : putAt l n ≤ l.length := (List.takeWhile_prefix _).length_le
theorem putAt_eq {l : List Int} {n : Int} {k : Nat} (hk : k ≤ l.length) (h1 : ∀ j, j < k → (l.getD j 0).natAbs < n.natAbs) (h2 : k < l.length → ¬ (l.getD k 0).natAbs < n.natAbs) : putAt l n = k := by
  unfold putAt
  induction k generalizing l with
  | zero =>
    cases l with
    | nil => rfl
    | cons x l => have := h2 (by simp); simp at this; simp [List.takeWhile_cons, this]
  | succ k ih =>
    cases l with
    | nil => simp at hk
    | cons x l =>
      have h0 := h1 0 (by omega)
      simp at h0
      simp only [List.takeWhile_cons, h0, decide_true, if_true, List.length_cons]
      rw [ih (by simpa using hk) (fun j hj => by simpa using h1 (j + 1) (by omega)) (fun hl => by simpa using h2 (by simpa using hl))]
section
variable {w : World}
def SlT (l : List Int) (w : World) (e : Ending) (w' : World) : Prop := ∃ v, e = .returned v ∧ SL w' 1 v l.length (ints l) ∧ Upd [] w w'
def SlF (l : List Int) (v0 : Value) (w : World) (e : Ending) (w' : World) : Prop := ∃ v, e = .returned v ∧ SL w' 1 v l.length (ints l) ∧ Upd [] w w' ∧ ∀ g, v.ownBlock = some g → v0.ownBlock = some g ∨ w.heap.size ≤ g
def LitR (x : Int) : Prop := -1073741824 ≤ x ∧ x ≤ 1073741824
set_option maxRecDepth 100000 in
set_option maxHeartbeats 4000000 in
theorem Put_callsF {v : Value} {l : List Int} (h : SL w 1 v l.length (ints l)) (hl : l.length ≤ 1000000) (hr : ∀ x ∈ l, LitR x) (n : Int) (hn : LitR n) : Calls Try.prog 76 #[v, .int .i64 n] w (SlF (put l n) v w) := by
  obtain ⟨a, cap, rfl, q1, r1, hc⟩ := SL.elems h
  have HC := Lib.hid (And.intro hc (And.intro h hr))
  have hn1 := hn.1
  have hn2 := hn.2
  clear hc h hr hn
  go_enter Try.func76, Try.ntmps76
  go_wp2_with fail
  go_loop [5] (fun i => ∃ k : Nat, k ≤ l.length ∧ i = .int .i64 k ∧ ∀ j, j < k → (l.getD j 0).natAbs < n.natAbs) (fun i => l.length - (intOf i).toNat)
  case atStart => exact ⟨0, Nat.zero_le _, rfl, by intro j hj; omega⟩
  case round =>
    obtain ⟨k, hk, rfl, hlo⟩ := hrel
    have HLO := Lib.hid hlo
    clear hlo
    by_cases hlt : k < l.length
    · obtain ⟨g, off, rfl, k1⟩ := HC.out.1 (by omega)
      have e1 := k1 k _ (ints_gd hlt)
      obtain ⟨hx1, hx2⟩ := HC.out.2.2 _ (gd_mem hlt)
      clear k1
      generalize hgx : l.getD k 0 = x at *
      have HG := Lib.hid hgx
      clear hgx
      by_cases hx : x.natAbs < n.natAbs
      · have hx' : (x.natAbs : Int) < n.natAbs := by omega
        go_wp2_with (first | (go_at_call 74; refine (Var_calls x _ (by omega) (by omega)).mono ?_; rintro e w' ⟨rfl, rfl⟩) | (go_at_call 74; refine (Var_calls n _ (by omega) (by omega)).mono ?_; rintro e w' ⟨rfl, rfl⟩))
        refine ⟨⟨k + 1, by omega, by go_num, fun j hj => ?_⟩, by simp [intOf]; omega⟩
        rcases Nat.lt_or_ge j k with h | h
        · exact HLO.out j h
        · obtain rfl : j = k := by omega
          rw [HG.out]; exact hx
      · have hx' : ¬ (x.natAbs : Int) < n.natAbs := by omega
        have HP := Lib.hid (putAt_eq hk HLO.out (fun _ => by rw [HG.out]; exact hx))
        by_cases hxn : x = n
        · subst hxn
          have HE := Lib.hid (show put l x = l by unfold put; rw [HP.out, gd_some (d := 0) hlt, HG.out]; simp)
          go_wp2_with (first | (go_at_call 74; refine (Var_calls x _ (by omega) (by omega)).mono ?_; rintro e w' ⟨rfl, rfl⟩))
          go_ret
          rw [HE.out]
          exact ⟨_, rfl, HC.out.2.1, Upd.refl _ _, fun g hg => .inl hg⟩
        · have HE := Lib.hid (show put l n = l.take k ++ n :: l.drop k by unfold put; rw [HP.out, gd_some (d := 0) hlt, HG.out, if_neg (by simpa using hxn)])
          have hb : (x == n) = false := by simpa using hxn
          clear hxn
          go_upto_region 7 with (first | (go_at_call 74; refine (Var_calls x _ (by omega) (by omega)).mono ?_; rintro e w' ⟨rfl, rfl⟩) | (go_at_call 74; refine (Var_calls n _ (by omega) (by omega)).mono ?_; rintro e w' ⟨rfl, rfl⟩))
          refine wp_region_lit ?_
          refine wpList_cutH 4 (fun K hK => ?_)
          simp only [List.take_succ_cons, List.take_zero]
          go_wp2_with fail
          refine Halt_.intro ?_; try simp only [List.drop_succ_cons, List.drop_zero]
          refine wpList_appS rfl _ _ _ rfl 3 1 8 _ Try.underlying22 infoInt rfl (by decide) (.slice none 0 0) 0 [] rfl (Own.nil w).row _ _ _ rfl (SL.upto HC.out.2.1 hk) (ints_one _) (by unfold maxLen; omega) (by omega) ?_
          intro a1 cap1 w1 o1 u1 k1
          simp only [Act.put, List.setIfInBounds_toArray, List.set_cons_zero, List.set_cons_succ]
          have N1 : Own w (.slice a1 (l.take k).length cap1) (l.take k) w1 := by
            have e : (l.take k).length = 0 + k := by rw [List.length_take]; omega
            rw [e]
            exact ⟨by rw [e]; exact o1, fun g hg => by rcases k1 with k1 | k1 <;> rw [hg] at k1 <;> simp [Value.ownBlock] at k1; omega, u1⟩
          have e1l : 0 + k = (l.take k).length := by rw [List.length_take]; omega
          rw [e1l]
          have HN1 := Lib.hid N1
          clear o1 u1 k1 N1 e1l
          refine wpList_cutH 1 (fun K hK => ?_)
          simp only [List.take_succ_cons, List.take_zero]
          go_wp2_with fail
          refine Halt_.intro ?_; try simp only [List.drop_succ_cons, List.drop_zero]
          refine wpList_push rfl rfl _ _ _ _ rfl rfl rfl 3 1 8 _ Try.underlying22 infoInt rfl (by decide) (by decide) (.int .i64 n) [.int .i64 n] rfl rfl rfl (ints_one [n]) _ _ _ HN1.out.row rfl rfl (by unfold maxLen; rw [List.length_take]; omega) (by rw [List.length_take]; omega) ?_
          intro g2 cap2 w2 o2 u2 k2
          simp only [Act.put, List.setIfInBounds_toArray, List.set_cons_zero, List.set_cons_succ]
          have HN2 := Lib.hid (HN1.out.push o2 u2 k2)
          clear o2 u2 k2
          go_upto_region 8 with fail
          refine wp_region_lit ?_
          refine wpList_cutH 4 (fun K hK => ?_)
          simp only [List.take_succ_cons, List.take_zero]
          go_wp2_with fail
          refine Halt_.intro ?_; try simp only [List.drop_succ_cons, List.drop_zero]
          have hsz : ((l.take k).length + 1) + (l.length - k) ≤ 1000001 := by rw [List.length_take]; omega
          have hrow := HN2.out.row
          rw [show (l.take k ++ [n]).length = (l.take k).length + 1 by simp] at hrow
          refine wpList_appS rfl _ _ _ rfl 3 1 8 _ Try.underlying22 infoInt rfl (by decide) (.slice (some ⟨g2, 0, none⟩) ((l.take k).length + 1) cap2) _ _ rfl hrow _ _ _ rfl ((SL.from_ HC.out.2.1 hk).upd HN2.out.u (by simp)) (fun u hu => ints_one _ u (List.mem_of_mem_drop hu)) (by unfold maxLen; omega) (by omega) ?_
          intro a3 cap3 w3 o3 u3 k3
          simp only [Act.put, List.setIfInBounds_toArray, List.set_cons_zero, List.set_cons_succ]
          have e3 : ints (l.take k ++ [n]) ++ (ints l).drop k = ints (put l n) := by rw [HE.out]; simp [ints, List.map_drop]
          have l3 : (l.take k).length + 1 + (l.length - k) = (put l n).length := by rw [HE.out]; simp; omega
          have S3 := SL.of_owns o3
          rw [e3, l3] at S3
          have U3 := HN2.out.u.fresh u3 (fun j hj => .inr (HN2.out.fresh j (by simpa using hj)))
          have K3 : ∀ g, (Value.slice a3 ((l.take k).length + 1 + (l.length - k)) cap3).ownBlock = some g → w.heap.size ≤ g := fun g hg => by
            rcases k3 with k3 | k3 <;> rw [hg] at k3
            · exact HN2.out.fresh g k3.symm
            · have := HN2.out.u.size; simp only [Option.some.injEq] at k3; omega
          rw [l3] at K3
          have HS := Lib.hid (And.intro S3 (And.intro U3 K3))
          rw [l3]
          clear o3 u3 k3 hrow S3 U3 e3 hsz l3 K3
          go_wp2_with fail
          go_ret
          exact ⟨_, rfl, HS.out.1, HS.out.2.1, fun g hg => .inr (HS.out.2.2 g hg)⟩
    · have HP := Lib.hid (putAt_eq hk HLO.out (fun h => absurd h hlt))
      have HE := Lib.hid (show put l n = l.take k ++ n :: l.drop k by unfold put; rw [HP.out, List.getElem?_eq_none (by omega), if_neg (by simp)])
      go_upto_region 7 with fail
      refine wp_region_lit ?_
      refine wpList_cutH 4 (fun K hK => ?_)
      simp only [List.take_succ_cons, List.take_zero]
      go_wp2_with fail
      refine Halt_.intro ?_; try simp only [List.drop_succ_cons, List.drop_zero]
      refine wpList_appS rfl _ _ _ rfl 3 1 8 _ Try.underlying22 infoInt rfl (by decide) (.slice none 0 0) 0 [] rfl (Own.nil w).row _ _ _ rfl (SL.upto HC.out.2.1 hk) (ints_one _) (by unfold maxLen; omega) (by omega) ?_
      intro a1 cap1 w1 o1 u1 k1
      simp only [Act.put, List.setIfInBounds_toArray, List.set_cons_zero, List.set_cons_succ]
      have N1 : Own w (.slice a1 (l.take k).length cap1) (l.take k) w1 := by
        have e : (l.take k).length = 0 + k := by rw [List.length_take]; omega
        rw [e]
        exact ⟨by rw [e]; exact o1, fun g hg => by rcases k1 with k1 | k1 <;> rw [hg] at k1 <;> simp [Value.ownBlock] at k1; omega, u1⟩
      have e1l : 0 + k = (l.take k).length := by rw [List.length_take]; omega
      rw [e1l]
      have HN1 := Lib.hid N1
      clear o1 u1 k1 N1 e1l
      refine wpList_cutH 1 (fun K hK => ?_)
      simp only [List.take_succ_cons, List.take_zero]
      go_wp2_with fail
      refine Halt_.intro ?_; try simp only [List.drop_succ_cons, List.drop_zero]
      refine wpList_push rfl rfl _ _ _ _ rfl rfl rfl 3 1 8 _ Try.underlying22 infoInt rfl (by decide) (by decide) (.int .i64 n) [.int .i64 n] rfl rfl rfl (ints_one [n]) _ _ _ HN1.out.row rfl rfl (by unfold maxLen; rw [List.length_take]; omega) (by rw [List.length_take]; omega) ?_
      intro g2 cap2 w2 o2 u2 k2
      simp only [Act.put, List.setIfInBounds_toArray, List.set_cons_zero, List.set_cons_succ]
      have HN2 := Lib.hid (HN1.out.push o2 u2 k2)
      clear o2 u2 k2
      go_upto_region 8 with fail
      refine wp_region_lit ?_
      refine wpList_cutH 4 (fun K hK => ?_)
      simp only [List.take_succ_cons, List.take_zero]
      go_wp2_with fail
      refine Halt_.intro ?_; try simp only [List.drop_succ_cons, List.drop_zero]
      have hsz : ((l.take k).length + 1) + (l.length - k) ≤ 1000001 := by rw [List.length_take]; omega
      have hrow := HN2.out.row
      rw [show (l.take k ++ [n]).length = (l.take k).length + 1 by simp] at hrow
      refine wpList_appS rfl _ _ _ rfl 3 1 8 _ Try.underlying22 infoInt rfl (by decide) (.slice (some ⟨g2, 0, none⟩) ((l.take k).length + 1) cap2) _ _ rfl hrow _ _ _ rfl ((SL.from_ HC.out.2.1 hk).upd HN2.out.u (by simp)) (fun u hu => ints_one _ u (List.mem_of_mem_drop hu)) (by unfold maxLen; omega) (by omega) ?_
      intro a3 cap3 w3 o3 u3 k3
      simp only [Act.put, List.setIfInBounds_toArray, List.set_cons_zero, List.set_cons_succ]
      have e3 : ints (l.take k ++ [n]) ++ (ints l).drop k = ints (put l n) := by rw [HE.out]; simp [ints, List.map_drop]
      have l3 : (l.take k).length + 1 + (l.length - k) = (put l n).length := by rw [HE.out]; simp; omega
      have S3 := SL.of_owns o3
      rw [e3, l3] at S3
      have U3 := HN2.out.u.fresh u3 (fun j hj => .inr (HN2.out.fresh j (by simpa using hj)))
      have K3 : ∀ g, (Value.slice a3 ((l.take k).length + 1 + (l.length - k)) cap3).ownBlock = some g → w.heap.size ≤ g := fun g hg => by
        rcases k3 with k3 | k3 <;> rw [hg] at k3
        · exact HN2.out.fresh g k3.symm
        · have := HN2.out.u.size; simp only [Option.some.injEq] at k3; omega
      rw [l3] at K3
      have HS := Lib.hid (And.intro S3 (And.intro U3 K3))
      rw [l3]
      clear o3 u3 k3 hrow S3 U3 e3 hsz l3 K3
      go_wp2_with fail
      go_ret
      exact ⟨_, rfl, HS.out.1, HS.out.2.1, fun g hg => .inr (HS.out.2.2 g hg)⟩
theorem Put_calls {v : Value} {l : List Int} (h : SL w 1 v l.length (ints l)) (hl : l.length ≤ 1000000) (hr : ∀ x ∈ l, LitR x) (n : Int) (hn : LitR n) : Calls Try.prog 76 #[v, .int .i64 n] w (SlT (put l n) w) :=
  (Put_callsF h hl hr n hn).mono fun _ _ ⟨v', h1, h2, h3, _⟩ => ⟨v', h1, h2, h3⟩
end
end Cla
end Go.Proofs.Ytdhhohnaehdpkaa
