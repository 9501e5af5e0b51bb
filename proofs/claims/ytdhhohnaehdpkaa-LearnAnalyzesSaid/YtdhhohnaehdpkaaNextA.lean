/- Walks through package trail: what Next calls. Conditions: none. -/
import Derived.Test.YtdhhohnaehdpkaaTrailF
import Derived.Test.YtdhhohnaehdpkaaSame
set_option linter.unusedVariables false
set_option linter.unusedSimpArgs false
set_option linter.unusedSectionVars false
open Go.RowKit
namespace Go.Proofs.Ytdhhohnaehdpkaa
open L
namespace Trail
open R01
section
variable {w : World} {b vars bx : Nat} {es : Es} {now : Int} {S : List Nat}
theorem Clos_calls (h : Tr w b vars es now S) (hb : w.cell? ⟨bx, 0, none⟩ = some (.pointer (some ⟨b, 0, none⟩))) (lit : Int) :
    Calls Try.prog 64 #[.int .i64 lit, .pointer (some ⟨bx, 0, none⟩)] w fun e w' => e = .returned (.bool (!isLit vars lit)) ∧ w = w' := by
  go_enter Try.func64, Try.ntmps64
  go_wp2_with (go_at_call 48; refine (isLit_calls h lit).mono ?_; rintro e w' ⟨rfl, rfl⟩)
  go_ret
  exact ⟨rfl, rfl⟩
def badAt (vars : Nat) (c : List Int) : Int := match c.findIdx? (fun x => !isLit vars x) with | some i => i | none => -1
theorem IndexFunc_calls (h : Tr w b vars es now S) (hb : w.cell? ⟨bx, 0, none⟩ = some (.pointer (some ⟨b, 0, none⟩))) {cv : Value} {c : List Int} (hc : SL w 1 cv c.length (ints c)) :
    Calls Try.prog 82 #[cv, .func (.func 64) #[] #[.pointer (some ⟨bx, 0, none⟩)]] w fun e w' => e = .returned (.int .i64 (badAt vars c)) ∧ w = w' := by
  obtain ⟨a, cap, rfl, q1, r1, hcc⟩ := SL.form hc
  have HC := Lib.hid hcc
  clear hcc hc
  go_enter Try.func82, Try.ntmps82
  go_wp2_with fail
  go_loop [8] (fun i => ∃ k : Nat, k ≤ c.length ∧ i = .int .i64 k ∧ ∀ j, j < k → ∀ x, c[j]? = some x → isLit vars x = true) (fun i => c.length - (intOf i).toNat)
  case atStart => exact ⟨0, Nat.zero_le _, rfl, fun j hj => by omega⟩
  case round =>
    obtain ⟨k, hk, rfl, hlo⟩ := hrel
    have HLO := Lib.hid hlo
    clear hlo
    by_cases hlt : k < c.length
    · obtain ⟨g, off, rfl, k1⟩ := HC.out (by omega)
      have e1 := k1 k _ (ints_get (List.getElem?_eq_getElem hlt))
      clear k1
      by_cases hl : isLit vars c[k] = true
      · have HL := Lib.hid (And.intro hl (List.getElem?_eq_getElem hlt))
        clear hl
        generalize c[k] = x at *
        go_wp2_with (go_at_call 64; refine (Clos_calls h hb x).mono ?_; rintro e w' ⟨rfl, rfl⟩; rw [HL.out.1])
        refine ⟨⟨k + 1, by omega, by go_num, fun j hj y hy => ?_⟩, by simp [intOf]; omega⟩
        rcases Nat.lt_or_ge j k with h | h
        · exact HLO.out j h y hy
        · obtain rfl : j = k := by omega
          rw [HL.out.2] at hy
          cases hy
          exact HL.out.1
      · have hl' : isLit vars c[k] = false := by simpa using hl
        have HR : Hid (badAt vars c = k) := by
          unfold Hid badAt
          have : c.findIdx? (fun x => !isLit vars x) = some k := by
            rw [List.findIdx?_eq_some_iff_getElem]
            refine ⟨hlt, by simp [hl'], fun j hj => ?_⟩
            simp [HLO.out j hj _ (List.getElem?_eq_getElem (by omega))]
          rw [this]
        have HL := Lib.hid hl'
        clear hl hl'
        generalize c[k] = x at *
        go_wp2_with (go_at_call 64; refine (Clos_calls h hb x).mono ?_; rintro e w' ⟨rfl, rfl⟩; rw [HL.out])
        go_ret
        exact ⟨ret_int HR.out.symm, rfl⟩
    · have HR : Hid (badAt vars c = -1) := by
        unfold Hid badAt
        have : c.findIdx? (fun x => !isLit vars x) = none := by
          rw [List.findIdx?_eq_none_iff]
          intro x hx
          obtain ⟨j, hj, rfl⟩ := List.getElem_of_mem hx
          simp [HLO.out j (by omega) _ (List.getElem?_eq_getElem hj)]
        rw [this]
      go_wp2_with fail
      go_ret
      exact ⟨ret_int HR.out.symm, rfl⟩
theorem ContainsFunc_calls (h : Tr w b vars es now S) (hb : w.cell? ⟨bx, 0, none⟩ = some (.pointer (some ⟨b, 0, none⟩))) {cv : Value} {c : List Int} (hc : SL w 1 cv c.length (ints c)) :
    Calls Try.prog 63 #[cv, .func (.func 64) #[] #[.pointer (some ⟨bx, 0, none⟩)]] w fun e w' => e = .returned (.bool (c.any fun x => !isLit vars x)) ∧ w = w' := by
  have HR : Hid (decide (0 ≤ badAt vars c) = c.any fun x => !isLit vars x) := by
    unfold Hid badAt
    cases hf : c.findIdx? (fun x => !isLit vars x) with
    | none =>
      rw [List.findIdx?_eq_none_iff] at hf
      have : c.any (fun x => !isLit vars x) = false := by rw [List.any_eq_false]; intro x hx; simp [hf x hx]
      rw [this]; rfl
    | some i =>
      obtain ⟨h1, h2, _⟩ := List.findIdx?_eq_some_iff_getElem.1 hf
      have : c.any (fun x => !isLit vars x) = true := by rw [List.any_eq_true]; exact ⟨_, List.getElem_mem h1, h2⟩
      rw [this]; simp
  go_enter Try.func63, Try.ntmps63
  go_wp2_with (go_at_call 82; refine (IndexFunc_calls h hb hc).mono ?_; rintro e w' ⟨rfl, rfl⟩)
  go_ret
  exact ⟨ret_bool HR.out, rfl⟩
end
end Trail
end Go.Proofs.Ytdhhohnaehdpkaa
