/- Walks through the reference of trails: Do. Conditions: none. -/
import Derived.Test.YtlfcabmbakjklaaRefC
set_option linter.unusedVariables false
set_option linter.unusedSimpArgs false
set_option linter.unusedSectionVars false
open Go.RowKit
namespace Go.Proofs.Ytlfcabmbakjklaa
open L
namespace Ref
open Trail
section
variable {w : World} {b vars : Nat} {es : Es} {S : List Nat}
/-- What an operation does to the variables and the trail. -/
def opErr (vars : Nat) (es : Es) (kind n m : Int) : Int :=
  if kind = 0 then putErr vars es n (-1) else if kind = 1 then (if m < 0 then 1 else putErr vars es n m) else if kind = 2 then (if n < 0 ∨ (decs es : Int) < n then 5 else 0) else if kind = 3 then 0 else if n < vars ∨ 4194304 < n then 5 else 0
def opEs (vars : Nat) (es : Es) (kind n m : Int) : Es :=
  if kind = 0 then putEs vars es n (-1) else if kind = 1 then (if m < 0 then es else putEs vars es n m) else if kind = 2 then (if n < 0 ∨ (decs es : Int) < n then es else es.take (undoN es n)) else if kind = 3 then [] else es
def opVars (vars : Nat) (kind n : Int) : Nat :=
  if kind = 0 ∨ kind = 1 ∨ kind = 2 ∨ kind = 3 then vars else if n < vars ∨ 4194304 < n then vars else n.toNat
theorem Rf.setVars (h : Rf w b vars es S) {n : Nat} (hn : vars ≤ n) (hn2 : n ≤ 4194304) : Rf (w.setCell ⟨b, 0, none⟩ (.int .i64 n)) b n es S := by
  obtain ⟨h0, lv, rv, vv, hS, B, O1, O2, O3, n1, n2, n3⟩ := h
  have U := (Upd.refl [b] w).set (p := ⟨b, 0, none⟩) (by simp) (.int .i64 n)
  exact ⟨⟨hn2, fun e he => by have := h0.lit e he; omega, h0.rsn, h0.nodup⟩, lv, rv, vv, hS, B.set 0 _, ownsRow_upd O1 U (by simpa using n1), ownsRow_upd O2 U (by simpa using n2), ownsRow_upd O3 U (by simpa using n3), n1, n2, n3⟩
theorem Rf.cell0 (h : Rf w b vars es S) : w.cell? ⟨b, 0, none⟩ = some (.int .i64 vars) ∧ w.frozen? ⟨b, 0, none⟩ = false := by
  obtain ⟨h0, lv, rv, vv, hS, B, _⟩ := h
  exact ⟨B.cell rfl, B.free 0⟩
theorem Rf.mem_b (h : Rf w b vars es S) : b ∈ S := by
  obtain ⟨h0, lv, rv, vv, hS, B, _⟩ := h
  rw [hS]; simp
def opRes (vars : Nat) (es : Es) (k n m : Int) (b : Nat) (S : List Nat) (w : World) (e : Ending) (w' : World) : Prop :=
  e = .returned (.int .i64 (opErr vars es k n m)) ∧ ∃ S', Rf w' b (opVars vars k n) (opEs vars es k n m) S' ∧ Upd S w w' ∧ ∀ j ∈ S', j ∈ S ∨ w.heap.size ≤ j
theorem Do_calls (h : Rf w b vars es S) (k n m : Int) (hn : IsI64 n) (hm : m ≤ 9223372036854775807) :
    Calls Try.prog 13 #[.pointer (some ⟨b, 0, none⟩), .agg #[.int .i64 k, .int .i64 n, .int .i64 m]] w (opRes vars es k n m b S w) := by
  have u0 := (Upd.refl [] w).alloc (.cells #[.int .i64 k, .int .i64 n, .int .i64 m] 35)
  have N0 := Blk.new w [.int .i64 k, .int .i64 n, .int .i64 m] 35
  have h1 := h.upd u0 (by simp)
  have p0 := N0.cell (i := 0) rfl
  have p1 := N0.cell (i := 1) rfl
  have p2 := N0.cell (i := 2) rfl
  have HN := Lib.hid hn
  have HH := Lib.hid h
  have fin : ∀ {e : Ending} {w' : World} {v' : Nat} {es' : Es} {S' : List Nat}, v' = opVars vars k n → es' = opEs vars es k n m → e = .returned (.int .i64 (opErr vars es k n m)) → Rf w' b v' es' S' → Upd S (w.alloc (.cells #[.int .i64 k, .int .i64 n, .int .i64 m] 35)) w' →
      (∀ j ∈ S', j ∈ S ∨ (w.alloc (.cells #[.int .i64 k, .int .i64 n, .int .i64 m] 35)).heap.size ≤ j) → opRes vars es k n m b S w e w' := by
    rintro e w' v' es' S' rfl rfl rfl hR hU hK
    refine ⟨rfl, S', hR, (u0.nil).trans hU, fun j hj => ?_⟩
    rcases hK j hj with h | h
    · exact .inl h
    · right; have := u0.size; omega
  have FIN := @fin
  clear hn h fin
  by_cases hk0 : k = 0
  · subst hk0
    go_enter Try.func13, Try.ntmps13
    go_wp2_with fail
    refine (Put_calls h1 n (-1) (by omega) HN.out).mono ?_
    rintro e w' ⟨rfl, S', hR, hU, hK⟩
    go_wp2_with fail
    go_ret
    exact FIN (by simp [opVars]) (by simp [opEs]) (by simp [opErr]) hR hU hK
  by_cases hk1 : k = 1
  · subst hk1
    by_cases hm0 : m < 0
    · go_enter Try.func13, Try.ntmps13
      go_wp2_with fail
      go_ret
      exact FIN (by simp [opVars]) (by simp [opEs, hm0]) (by simp [opErr, hm0]) h1 (Upd.refl _ _) (fun j hj => .inl hj)
    · go_enter Try.func13, Try.ntmps13
      go_wp2_with fail
      refine (Put_calls h1 n m hm HN.out).mono ?_
      rintro e w' ⟨rfl, S', hR, hU, hK⟩
      go_wp2_with fail
      go_ret
      exact FIN (by simp [opVars]) (by simp [opEs, show ¬ m < 0 by omega]) (by simp [opErr, show ¬ m < 0 by omega]) hR hU hK
  by_cases hk2 : k = 2
  · subst hk2
    by_cases hb : n < 0 ∨ (decs es : Int) < n
    · have HB := Lib.hid hb
      clear hb
      go_enter Try.func13, Try.ntmps13
      go_wp2_with fail
      refine (Undo_bad h1 n HB.out).mono ?_
      rintro e w' ⟨rfl, rfl⟩
      go_wp2_with fail
      go_ret
      exact FIN (by simp [opVars]) (by simp [opEs, HB.out]) (by simp [opErr, HB.out]) h1 (Upd.refl _ _) (fun j hj => .inl hj)
    · have HB := Lib.hid hb
      clear hb
      go_enter Try.func13, Try.ntmps13
      go_wp2_with fail
      refine (Undo_good h1 n (by have := HB.out; omega) (by have := HB.out; omega)).mono ?_
      rintro e w' ⟨rfl, hR, hU⟩
      go_wp2_with fail
      go_ret
      exact FIN (by simp [opVars]) (by simp [opEs, HB.out]) (by simp [opErr, HB.out]) hR hU (fun j hj => .inl hj)
  by_cases hk3 : k = 3
  · subst hk3
    have hlt := HH.out.lt b HH.out.mem_b
    obtain ⟨h0, lv, rv, vv, hS, B0, _⟩ := HH.out
    have b1 := B0.cell (i := 1) rfl
    have b2 := B0.cell (i := 2) rfl
    have b3 := B0.cell (i := 3) rfl
    have g1 := B0.free 1
    have g2 := B0.free 2
    have g3 := B0.free 3
    have HS := Lib.hid hS
    clear hS
    go_enter Try.func13, Try.ntmps13
    go_wp2_with fail
    go_ret
    refine ⟨by simp [opErr], [b], ?_, ?_, ?_⟩
    · rw [show opVars vars 3 n = vars by simp [opVars], show opEs vars es 3 n m = [] by simp [opEs]]
      exact ⟨⟨h0.max, by simp, by simp, by simp⟩, .slice none 0 0, .slice none 0 0, .slice none 0 0, rfl, (((B0.set 1 _).set 2 _).set 3 _).alloc _, World.ownsRow_nil _ _ _ _, World.ownsRow_nil _ _ _ _, World.ownsRow_nil _ _ _ _, by simp [Value.ownBlock], by simp [Value.ownBlock], by simp [Value.ownBlock]⟩
    · rw [HS.out]
      exact ((((Upd.refl _ _).set (by simp) _).set (by simp) _).set (by simp) _).alloc _
    · rw [HS.out]; simp
  obtain ⟨c0, f0⟩ := h1.cell0
  obtain ⟨d0, g0⟩ := HH.out.cell0
  have hlt := HH.out.lt b HH.out.mem_b
  have q1 := N0.cell (i := 1) rfl
  have hv := HH.out.wf.max
  by_cases hb : n < vars ∨ 4194304 < n
  · have HB := Lib.hid hb
    have hopV : opVars vars k n = vars := by simp only [opVars]; rw [if_neg (by omega), if_pos hb]
    have hopE : opEs vars es k n m = es := by simp [opEs, hk0, hk1, hk2, hk3]
    have hopR : opErr vars es k n m = 5 := by simp only [opErr]; rw [if_neg hk0, if_neg hk1, if_neg hk2, if_neg hk3, if_pos hb]
    have HO := Lib.hid (And.intro hopV (And.intro hopE hopR))
    clear hopV hopE hopR hb
    by_cases hb1 : n < vars
    · go_enter Try.func13, Try.ntmps13
      go_wp2_with fail
      refine wp_region_qx (by kernel_rfl) (by kernel_rfl) ?_
      repeat (go_big_quiet_step ((fail)))
      refine wpQuiet_nil ?_
      intro x
      go_wp2_with fail
      go_ret
      exact FIN HO.out.1.symm HO.out.2.1.symm (by rw [HO.out.2.2]; rfl) (h1.upd x.upd (by simp)) x.upd.nil (fun j hj => .inl hj)
    · have hb2 : 4194304 < n := by have := HB.out; omega
      have t1 : decide (n < (vars : Int)) = false := by simpa using hb1
      have t2 : decide ((4194304 : Int) < n) = true := by simpa using hb2
      go_enter Try.func13, Try.ntmps13
      go_wp2_with fail
      refine wp_region_qx (by kernel_rfl) (by kernel_rfl) ?_
      repeat (go_big_quiet_step ((fail)))
      refine wpQuiet_nil ?_
      intro x
      go_wp2_with fail
      go_ret
      exact FIN HO.out.1.symm HO.out.2.1.symm (by rw [HO.out.2.2]; rfl) (h1.upd x.upd (by simp)) x.upd.nil (fun j hj => .inl hj)
  · have hopV : opVars vars k n = n.toNat := by simp only [opVars]; rw [if_neg (by omega), if_neg hb]
    have hopE : opEs vars es k n m = es := by simp [opEs, hk0, hk1, hk2, hk3]
    have hopR : opErr vars es k n m = 0 := by simp only [opErr]; rw [if_neg hk0, if_neg hk1, if_neg hk2, if_neg hk3, if_neg hb]
    have HO := Lib.hid (And.intro hopV (And.intro hopE hopR))
    clear hopV hopE hopR
    have hb1 : vars ≤ n := by omega
    have hb2 : n ≤ 4194304 := by omega
    clear hb
    have t1 : decide (n < (vars : Int)) = false := by simpa using hb1
    have t2 : decide ((4194304 : Int) < n) = false := by simpa using hb2
    go_enter Try.func13, Try.ntmps13
    go_wp2_with fail
    refine wp_region_qx (by kernel_rfl) (by kernel_rfl) ?_
    repeat (go_big_quiet_step ((fail)))
    refine wpQuiet_nil ?_
    intro x
    have h2 := h1.upd x.upd (by simp)
    have c2 := h2.cell0
    have p2 := x.upd.some p1 (by simp)
    go_wp2_with fail
    go_ret
    obtain ⟨v, rfl⟩ := Int.eq_ofNat_of_zero_le (show 0 ≤ n by omega)
    exact FIN HO.out.1.symm HO.out.2.1.symm (by rw [HO.out.2.2]; rfl) (h2.setVars (by omega) (by omega)) ((x.upd.nil).set (.inl HH.out.mem_b) _) (fun j hj => .inl hj)
end
end Ref
end Go.Proofs.Ytlfcabmbakjklaa
