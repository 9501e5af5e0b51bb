/- Walks through the reference of trails: Put, Undo, Do. Conditions: none. -/
import Derived.Test.YtdhhohnaehdpkaaRefB
set_option linter.unusedVariables false
set_option linter.unusedSimpArgs false
set_option linter.unusedSectionVars false
open Go.RowKit
namespace Go.Proofs.Ytdhhohnaehdpkaa
open L
namespace Ref
open Trail
section
variable {w : World} {b vars : Nat} {es : Es} {S : List Nat}
theorem Put_calls (h : Rf w b vars es S) (lit reason : Int) (hr : reason ≤ 9223372036854775807) (hlI : IsI64 lit) :
    Calls Try.prog 24 #[.pointer (some ⟨b, 0, none⟩), .int .i64 lit, .int .i64 reason] w fun e w' => e = .returned (.int .i64 (putErr vars es lit reason)) ∧ ∃ S', Rf w' b vars (putEs vars es lit reason) S' ∧ Upd S w w' ∧ ∀ k ∈ S', k ∈ S ∨ w.heap.size ≤ k := by
  have H := h
  by_cases hl : isLit vars lit = true
  · by_cases hr1 : reason < -1
    · have hE : putErr vars es lit reason = 1 := by simp [putErr, hl, hr1]
      have hS : putEs vars es lit reason = es := by simp [putEs, hE]
      rw [hS, hE]
      clear hS hE
      go_enter Try.func24, Try.ntmps24
      go_wp2_with (go_at_call 55; refine (Has_calls H lit).mono ?_; rintro e w' ⟨rfl, rfl⟩)
      go_ret
      exact ⟨rfl, S, h, Upd.refl _ _, fun k hk => .inl hk⟩
    · by_cases hp : pos es lit.natAbs = 0
      · have hE : putErr vars es lit reason = 0 := by simp [putErr, hl, hp, hr1]
        have hS : putEs vars es lit reason = es ++ [(lit, reason)] := by simp [putEs, hE]
        rw [hS, hE]
        exact Put_good h lit reason hl hp (by omega) hlI
      · have hE : putErr vars es lit reason = 8 := by simp [putErr, hl, hp, hr1]
        have hS : putEs vars es lit reason = es := by simp [putEs, hE]
        rw [hS, hE]
        clear hS hE
        have hf : ¬ findI es lit < 0 := fun h => hp (pos_findI.1 h)
        go_enter Try.func24, Try.ntmps24
        go_wp2_with (first | (go_at_call 55; refine (Has_calls H lit).mono ?_; rintro e w' ⟨rfl, rfl⟩) | (go_at_call 56; refine (Find_calls H lit hlI).mono ?_; rintro e w' ⟨rfl, rfl⟩))
        go_ret
        exact ⟨rfl, S, h, Upd.refl _ _, fun k hk => .inl hk⟩
  · have hE : putErr vars es lit reason = 1 := by simp [putErr, hl]
    have hS : putEs vars es lit reason = es := by simp [putEs, hE]
    rw [hS, hE]
    clear hS hE
    go_enter Try.func24, Try.ntmps24
    go_wp2_with (go_at_call 55; refine (Has_calls H lit).mono ?_; rintro e w' ⟨rfl, rfl⟩)
    go_ret
    exact ⟨rfl, S, h, Upd.refl _ _, fun k hk => .inl hk⟩
theorem own_takeV {w : World} {base : Nat} {e : TypeId} {size : Nat} {a : Option Addr} {n m cap : Nat} {xs : List Value} (h : w.ownsRow base e size (.slice a n cap) n xs) (hm : m ≤ n) :
    w.ownsRow base e size (.slice a m cap) m (xs.take (m * size)) := by
  rcases h.2 with ⟨h1, h0⟩ | ⟨g', cap', cur, hv, _⟩
  · simp only [Value.slice.injEq] at h1
    obtain ⟨rfl, rfl, rfl⟩ := h1
    obtain rfl : m = 0 := by omega
    simpa using World.ownsRow_nil w base e size
  · simp only [Value.slice.injEq] at hv
    obtain ⟨rfl, _, rfl⟩ := hv
    exact own_take h hm
theorem ints_take (xs : List Int) (k : Nat) : (ints xs).take k = ints (xs.take k) := by simp [ints]
theorem levs_take {es : Es} {n : Nat} (h : n ≤ es.length) : levs (es.take n) = (levs es).take n := by
  unfold levs
  rw [List.length_take, Nat.min_eq_left h, ← List.map_take, List.take_range, Nat.min_eq_left h]
  apply List.map_congr_left
  intro i hi
  rw [lev_take (by simpa using hi)]
end
end Ref
end Go.Proofs.Ytdhhohnaehdpkaa
