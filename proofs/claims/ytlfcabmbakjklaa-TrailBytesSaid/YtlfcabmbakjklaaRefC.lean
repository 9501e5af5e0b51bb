/- Walks through the reference of trails: Put, Undo, Do. Conditions: none. -/
import Derived.Test.YtlfcabmbakjklaaRefB
set_option linter.unusedVariables false
set_option linter.unusedSimpArgs false
set_option linter.unusedSectionVars false
open Go.RowKit
namespace Go.Proofs.Ytlfcabmbakjklaa
open L
namespace Ref
open Trail
section
variable {w : World} {b vars : Nat} {es : Es} {S : List Nat}
theorem Put_calls (h : Rf w b vars es S) (lit reason : Int) (hr : reason ≤ 9223372036854775807) (hlI : IsI64 lit) :
    Calls Try.prog 44 #[.pointer (some ⟨b, 0, none⟩), .int .i64 lit, .int .i64 reason] w fun e w' => e = .returned (.int .i64 (putErr vars es lit reason)) ∧ ∃ S', Rf w' b vars (putEs vars es lit reason) S' ∧ Upd S w w' ∧ ∀ k ∈ S', k ∈ S ∨ w.heap.size ≤ k := by
  have H := h
  by_cases hl : isLit vars lit = true
  · by_cases hr1 : reason < -1
    · have hE : putErr vars es lit reason = 1 := by simp [putErr, hl, hr1]
      have hS : putEs vars es lit reason = es := by simp [putEs, hE]
      rw [hS, hE]
      clear hS hE
      go_enter Try.func44, Try.ntmps44
      go_wp2_with (go_at_call 52; refine (Has_calls H lit).mono ?_; rintro e w' ⟨rfl, rfl⟩)
      go_ret
      exact ⟨rfl, S, h, Upd.refl _ _, fun k hk => .inl hk⟩
    · by_cases hp : pos es lit.natAbs = 0
      · have hE : putErr vars es lit reason = 0 := by simp [putErr, hl, hp, hr1]
        have hS : putEs vars es lit reason = es ++ [(lit, reason)] := by simp [putEs, hE]
        rw [hS, hE]
        exact Put_good h lit reason hl hp (by omega) hlI
      · have hE : putErr vars es lit reason = 8 := by simp [putErr, hl, hp, hr1]
        have hS : putEs vars es lit reason = es := by simp [putEs, hE]
        rw [hS, hE]
        clear hS hE
        have hf : ¬ findI es lit < 0 := fun h => hp (pos_findI.1 h)
        go_enter Try.func44, Try.ntmps44
        go_wp2_with (first | (go_at_call 52; refine (Has_calls H lit).mono ?_; rintro e w' ⟨rfl, rfl⟩) | (go_at_call 47; refine (Find_calls H lit hlI).mono ?_; rintro e w' ⟨rfl, rfl⟩))
        go_ret
        exact ⟨rfl, S, h, Upd.refl _ _, fun k hk => .inl hk⟩
  · have hE : putErr vars es lit reason = 1 := by simp [putErr, hl]
    have hS : putEs vars es lit reason = es := by simp [putEs, hE]
    rw [hS, hE]
    clear hS hE
    go_enter Try.func44, Try.ntmps44
    go_wp2_with (go_at_call 52; refine (Has_calls H lit).mono ?_; rintro e w' ⟨rfl, rfl⟩)
    go_ret
    exact ⟨rfl, S, h, Upd.refl _ _, fun k hk => .inl hk⟩
theorem Undo_bad (h : Rf w b vars es S) (level : Int) (hr : level < 0 ∨ (decs es : Int) < level) :
    Calls Try.prog 45 #[.pointer (some ⟨b, 0, none⟩), .int .i64 level] w fun e w' => e = .returned (.int .i64 5) ∧ w = w' := by
  by_cases h0 : level < 0
  · go_enter Try.func45, Try.ntmps45
    go_wp2_with (go_at_call 46; refine (Now_calls h).mono ?_; rintro e w' ⟨rfl, rfl⟩)
    go_ret
    exact ⟨rfl, rfl⟩
  · have h1 : (decs es : Int) < level := by omega
    clear hr
    go_enter Try.func45, Try.ntmps45
    go_wp2_with (go_at_call 46; refine (Now_calls h).mono ?_; rintro e w' ⟨rfl, rfl⟩)
    go_ret
    exact ⟨rfl, rfl⟩
theorem own_takeV {w : World} {base : Nat} {e : TypeId} {size : Nat} {a : Option Addr} {n m cap : Nat} {xs : List Value} (h : w.ownsRow base e size (.slice a n cap) n xs) (hm : m ≤ n) :
    w.ownsRow base e size (.slice a m cap) m (xs.take (m * size)) := by
  rcases h.2 with ⟨h1, h0⟩ | ⟨g', cap', cur, hv, _⟩
  · simp only [Value.slice.injEq] at h1
    obtain ⟨rfl, rfl, rfl⟩ := h1
    obtain rfl : m = 0 := by omega
    simpa using World.ownsRow_nil w base e size
  · simp only [Value.slice.injEq] at hv
    obtain ⟨rfl, _, rfl⟩ := hv
    exact own_take h hm
theorem ints_take (xs : List Int) (k : Nat) : (ints xs).take k = ints (xs.take k) := by simp [ints]
theorem levs_take {es : Es} {n : Nat} (h : n ≤ es.length) : levs (es.take n) = (levs es).take n := by
  unfold levs
  rw [List.length_take, Nat.min_eq_left h, ← List.map_take, List.take_range, Nat.min_eq_left h]
  apply List.map_congr_left
  intro i hi
  rw [lev_take (by simpa using hi)]
set_option maxHeartbeats 800000 in
theorem Undo_good (h : Rf w b vars es S) (level : Int) (hr0 : 0 ≤ level) (hr1 : level ≤ decs es) :
    Calls Try.prog 45 #[.pointer (some ⟨b, 0, none⟩), .int .i64 level] w fun e w' => e = .returned (.int .i64 0) ∧ Rf w' b vars (es.take (undoN es level)) S ∧ Upd S w w' := by
  have H := h
  have hv := h.wf.max
  have hlen := h.wf.len
  obtain ⟨h0, lv, rv, vv, hS, B, O1, O2, O3, n1, n2, n3⟩ := h
  have hl1 : (lits es).length = es.length := by simp [lits]
  have hl2 : (rsns es).length = es.length := by simp [rsns]
  have hl3 : (levs es).length = es.length := by simp [levs]
  obtain ⟨a1, cap1, rfl, q1, r1, _⟩ := own_form (hl1 ▸ O1)
  obtain ⟨a2, cap2, rfl, q2, r2, _⟩ := own_form (hl2 ▸ O2)
  obtain ⟨a3, cap3, rfl, q3, r3, hc⟩ := own_form (hl3 ▸ O3)
  rw [hl1] at B O1 q1 n1 hS
  rw [hl2] at B O2 q2 n2 hS
  rw [hl3] at B O3 hc q3 n3 hS
  have HS := Lib.hid hS
  clear hS
  have c1 := B.cell (i := 1) rfl
  have c2 := B.cell (i := 2) rfl
  have c3 := B.cell (i := 3) rfl
  have f1 := B.free 1
  have f2 := B.free 2
  have f3 := B.free 3
  have HC := Lib.hid hc
  have HL := Lib.hid (And.intro hl1 (And.intro hl2 hl3))
  clear hc hl1 hl2 hl3
  go_enter Try.func45, Try.ntmps45
  go_wp2_with (go_at_call 46; refine (Now_calls H).mono ?_; rintro e w' ⟨rfl, rfl⟩)
  go_loop [5] (fun i => ∃ k : Nat, k ≤ es.length ∧ i = .int .i64 k ∧ ∀ j, j < k → (lev es j : Int) ≤ level) (fun i => es.length - (intOf i).toNat)
  case atStart => exact ⟨0, Nat.zero_le _, rfl, fun j hj => by omega⟩
  case round =>
    obtain ⟨k, hk, rfl, hlo⟩ := hrel
    have fin : (k < es.length → level < (lev es k : Int)) → undoN es level = k := fun hh => undoN_eq hk hlo hh
    have FIN := Lib.hid fin
    have HLO := Lib.hid hlo
    clear fin hlo
    have x1 : (Value.slice a1 k cap1).ownBlock = (Value.slice a1 es.length cap1).ownBlock := by cases a1 <;> rfl
    have x2 : (Value.slice a2 k cap2).ownBlock = (Value.slice a2 es.length cap2).ownBlock := by cases a2 <;> rfl
    have x3 : (Value.slice a3 k cap3).ownBlock = (Value.slice a3 es.length cap3).ownBlock := by cases a3 <;> rfl
    have stop : ∀ w', w' = ((w.setCell ⟨b, 1, none⟩ (.slice a1 k cap1)).setCell ⟨b, 2, none⟩ (.slice a2 k cap2)).setCell ⟨b, 3, none⟩ (.slice a3 k cap3) →
        Rf w' b vars (es.take k) S ∧ Upd S w w' := by
      rintro w' rfl
      have U : Upd [b] w (((w.setCell ⟨b, 1, none⟩ (.slice a1 k cap1)).setCell ⟨b, 2, none⟩ (.slice a2 k cap2)).setCell ⟨b, 3, none⟩ (.slice a3 k cap3)) :=
        (((Upd.refl [b] w).set (by simp) _).set (by simp) _).set (by simp) _
      refine ⟨⟨h0.take k, .slice a1 k cap1, .slice a2 k cap2, .slice a3 k cap3, ?_, ((B.set 1 _).set 2 _).set 3 _, ?_, ?_, ?_, x1 ▸ n1, x2 ▸ n2, x3 ▸ n3⟩, U.wide (by rw [HS.out]; simp)⟩
      · rw [HS.out, x1, x2, x3]
      · have := ownsRow_upd (own_takeV O1 hk) U (by intro q hq; simp at hq; subst hq; rw [x1]; exact n1)
        rw [Nat.mul_one, ints_take] at this
        rw [List.length_take, Nat.min_eq_left hk]
        unfold lits at this ⊢; rwa [List.map_take]
      · have := ownsRow_upd (own_takeV O2 hk) U (by intro q hq; simp at hq; subst hq; rw [x2]; exact n2)
        rw [Nat.mul_one, ints_take] at this
        rw [List.length_take, Nat.min_eq_left hk]
        unfold rsns at this ⊢; rwa [List.map_take]
      · have := ownsRow_upd (own_takeV O3 hk) U (by intro q hq; simp at hq; subst hq; rw [x3]; exact n3)
        rw [Nat.mul_one, ints_take] at this
        rw [List.length_take, Nat.min_eq_left hk, levs_take hk]
        exact this
    have STOP := Lib.hid stop
    clear stop x1 x2 x3
    by_cases hlt : k < es.length
    · obtain ⟨g, rfl, hcc⟩ := HC.out (by omega)
      have e0 := hcc k (lev es k : Int) (by unfold levs; rw [List.getElem?_map, List.getElem?_range hlt]; rfl)
      clear hcc
      by_cases hlv : (lev es k : Int) ≤ level
      · have HLV := Lib.hid hlv
        generalize hyy : lev es k = y at *
        have HYY := Lib.hid hyy
        clear hyy
        go_wp2_with fail
        refine ⟨⟨k + 1, by omega, by go_num, fun j hj => ?_⟩, by simp [intOf]; omega⟩
        rcases Nat.lt_or_ge j k with h | h
        · exact HLO.out j h
        · obtain rfl : j = k := by omega
          rw [HYY.out]; exact HLV.out
      · have HR := Lib.hid (FIN.out fun _ => by omega)
        generalize lev es k = y at *
        go_wp2_with fail
        go_ret
        rw [HR.out]
        exact ⟨rfl, STOP.out _ rfl⟩
    · have HR := Lib.hid (FIN.out fun h => absurd h hlt)
      go_wp2_with fail
      go_ret
      rw [HR.out]
      exact ⟨rfl, STOP.out _ rfl⟩
end
end Ref
end Go.Proofs.Ytlfcabmbakjklaa
