/- Walks through the reference of package trim: Names. Conditions: none. -/
import Derived.Test.YtnmfihgdedifoaaTrimD
import Derived.Test.YtnmfihgdedifoaaSame
set_option linter.unusedVariables false
set_option linter.unusedSimpArgs false
set_option linter.unusedSectionVars false
open Go.RowKit
namespace Go.Proofs.Ytnmfihgdedifoaa
open L R01
namespace Trim
theorem strs_append (l m : List ByteArray) : strs (l ++ m) = strs l ++ strs m := by simp [strs]
theorem strs_snoc (l : List ByteArray) (s : ByteArray) : strs l ++ [.string s] = strs (l ++ [s]) := by simp [strs]
section
variable {w : World}
set_option maxRecDepth 100000 in
set_option maxHeartbeats 4000000 in
theorem names_calls {v : Value} {l : List Int} (hs : SL w 1 v l.length (ints l)) (hi : ∀ x ∈ l, IsI64 x) :
    Calls Try.prog 18 #[v] w fun e w' => ∃ (R : List ByteArray) (a : Option Addr) (cap : Nat), e = .returned (.slice a R.length cap) ∧ R.length ≤ 4 ∧ (∀ x ∈ R, x.size ≤ 2) ∧ OwnV w 9 1 (.slice a R.length cap) R.length (strs R) w' ∧ Upd [] w w' := by
  obtain ⟨_, a, cap, rfl, q1, r1, _, hc⟩ := hs
  have HC := Lib.hid (And.intro hc hi)
  unfold maxLen at r1
  clear hc hi
  go_enter Try.func18, Try.ntmps18
  go_wp2_with fail
  go_loopw [3, 4] (fun o i wr => ∃ (R : List ByteArray), i = .int .i64 (R.length : Nat) ∧ R.length ≤ 4 ∧ R.length ≤ l.length ∧ (∀ x ∈ R, x.size ≤ 2) ∧ OwnV w 9 1 o R.length (strs R) wr ∧ Upd [] w wr) (fun _ i _ => 4 - (intOf i).toNat)
  case atStart => exact ⟨[], rfl, by simp, by simp, by simp, OwnV.nil _ _ _ _, Upd.refl _ _⟩
  case round =>
    obtain ⟨wo, rfl⟩ : ∃ wo : World, wo = wr := ⟨_, rfl⟩
    obtain ⟨R, rfl, h4, hrl, hsm, hO, hU⟩ := hrel
    obtain ⟨ao, co, rfl, _, _⟩ := hO.sl.val
    have HR := Lib.hid (And.intro hsm (And.intro hO hU))
    clear hsm hO hU
    by_cases hlt : R.length < l.length ∧ R.length < 4
    · obtain ⟨hlt1, hlt2⟩ := hlt
      have hlt1' : (R.length : Int) < l.length := by omega
      have hlt2' : (R.length : Int) < 4 := by omega
      obtain ⟨g, off, rfl, hcc⟩ := HC.out.1.resolve_left (by omega)
      have hd := HR.out.2.2.some (hcc R.length _ (ints_get (List.getElem?_eq_getElem hlt1))) (by simp)
      have hx := HC.out.2 _ (List.getElem_mem hlt1)
      have hbl := World.block_lt_of_cell? _ _ hd
      generalize l[R.length] = x at *
      have n0 := around_lo (n := x) (k := 5) (by omega)
      have n1 := around_hi (n := x) (k := 5) (by omega)
      have HA := Lib.hid (fun w : World => Around_calls x 5 w hx (by omega) (by omega))
      generalize around x 5 = n at *
      clear hcc hx
      have hn : n = 0 ∨ n = 1 ∨ n = 2 ∨ n = 3 ∨ n = 4 := by omega
      go_upto_region 5 with fail
      rcases hn with rfl | rfl | rfl | rfl | rfl
      all_goals
        go_wp2_with (first | (go_at_call 12; refine (HA.out _).mono ?_; rintro e _ ⟨rfl, rfl⟩) | (refine wpList_push rfl rfl _ _ _ _ rfl rfl rfl 9 1 16 _ Try.underlying35 infoStr rfl (by decide) (by decide) (.string _) [.string _] rfl rfl rfl (by simp [Value.oneCell']) _ _ _ (HR.out.2.1.upd (S := []) (by iterate 25 (first | exact Upd.refl _ _ | assumption | refine Upd.alloc ?_ _ | refine Upd.drew ?_ | refine Upd.drewN ?_ _ | refine Upd.dl ?_ | refine Upd.step ?_ (Ext.upd _) | refine Upd.nil ?_ | skip)) (by simp)).row rfl rfl (by unfold maxLen; omega) (by omega) ?_; intro g7 cap7 w7 o7 u7 k7))
        have ua : Upd [] wo (wo.alloc (.cells #[.string ⟨#[97]⟩, .string ⟨#[98]⟩, .string ⟨#[99]⟩, .string ⟨#[100, 100]⟩, .string ⟨#[122, 122]⟩] 9)) := (Upd.refl _ _).alloc _
        have N := (HR.out.2.1.upd ua (by simp)).push (by have := HR.out.2.2.size; simp; omega) o7 k7
        have U7 := (HR.out.2.2.step ua).fresh u7 (fun k hk => .inr (HR.out.2.1.fresh k (by simpa using hk)))
        rw [strs_snoc] at N
        obtain ⟨s, hsz, N2⟩ : ∃ s : ByteArray, s.size ≤ 2 ∧ OwnV w 9 1 (.slice (some ⟨g7, 0, none⟩) (R.length + 1) cap7) (R.length + 1) (strs (R ++ [s])) w7 := by
          refine ⟨_, ?_, N⟩
          decide
        refine ⟨⟨R ++ [s], by rw [List.length_append, List.length_singleton]; go_num, by rw [List.length_append, List.length_singleton]; omega, by rw [List.length_append, List.length_singleton]; omega, ?_, by rw [List.length_append, List.length_singleton]; exact N2, U7⟩, by simp [intOf]; omega⟩
        intro x hx
        rcases List.mem_append.1 hx with hx | hx
        · exact HR.out.1 x hx
        · simp only [List.mem_singleton] at hx; subst hx; exact hsz
    · have hge : ¬ (R.length : Int) < l.length ∨ ((R.length : Int) < l.length ∧ ¬ (R.length : Int) < 4) := by omega
      rcases hge with hge | ⟨hge1, hge2⟩
      all_goals
        go_wp2_with fail
        go_ret
        exact ⟨R, ao, co, rfl, h4, HR.out.1, HR.out.2.1, HR.out.2.2⟩
end
end Trim
end Go.Proofs.Ytnmfihgdedifoaa
