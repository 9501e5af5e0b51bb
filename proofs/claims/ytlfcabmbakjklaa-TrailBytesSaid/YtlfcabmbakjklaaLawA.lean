/- Walks through the laws of trails: do. Conditions: none. -/
import Derived.Test.YtlfcabmbakjklaaRefD
set_option linter.unusedVariables false
set_option linter.unusedSimpArgs false
set_option linter.unusedSectionVars false
open Go.RowKit
namespace Go.Proofs.Ytlfcabmbakjklaa
open L
namespace Law
open Trail Ref
section
variable {w : World} {b vars : Nat} {es : Es} {S : List Nat}
def opResT (vars : Nat) (es : Es) (k n m : Int) (b : Nat) (S : List Nat) (w : World) (e : Ending) (w' : World) : Prop :=
  e = .returned (.int .i64 (opErr vars es k n m)) ∧ ∃ S', Tr w' b (opVars vars k n) (opEs vars es k n m) (decs (opEs vars es k n m)) S' ∧ Upd S w w' ∧ ∀ j ∈ S', j ∈ S ∨ w.heap.size ≤ j
theorem do_calls (h : Tr w b vars es (decs es) S) (k n m : Int) (hm : m ≤ 9223372036854775807) :
    Calls Try.prog 12 #[.pointer (some ⟨b, 0, none⟩), .agg #[.int .i64 k, .int .i64 n, .int .i64 m]] w (opResT vars es k n m b S w) := by
  have u0 := (Upd.refl [] w).alloc (.cells #[.int .i64 k, .int .i64 n, .int .i64 m] 35)
  have N0 := Blk.new w [.int .i64 k, .int .i64 n, .int .i64 m] 35
  have h1 := h.upd u0 (by simp)
  have p0 := N0.cell (i := 0) rfl
  have p1 := N0.cell (i := 1) rfl
  have p2 := N0.cell (i := 2) rfl
  have HH := Lib.hid h
  have fin : ∀ {e : Ending} {w' : World} {v' : Nat} {es' : Es} {S' : List Nat} {now : Int}, v' = opVars vars k n → es' = opEs vars es k n m → e = .returned (.int .i64 (opErr vars es k n m)) → now = decs es' → Tr w' b v' es' now S' → Upd S (w.alloc (.cells #[.int .i64 k, .int .i64 n, .int .i64 m] 35)) w' →
      (∀ j ∈ S', j ∈ S ∨ (w.alloc (.cells #[.int .i64 k, .int .i64 n, .int .i64 m] 35)).heap.size ≤ j) → opResT vars es k n m b S w e w' := by
    rintro e w' v' es' S' now rfl rfl rfl rfl hR hU hK
    refine ⟨rfl, S', hR, (u0.nil).trans hU, fun j hj => ?_⟩
    rcases hK j hj with h | h
    · exact .inl h
    · right; have := u0.size; omega
  have FIN := @fin
  clear h fin
  by_cases hk0 : k = 0
  · subst hk0
    go_enter Try.func12, Try.ntmps12
    go_wp2_with fail
    refine (Decide_calls h1 n).mono ?_
    rintro e w' ⟨rfl, S', hR, hU, hK⟩
    go_wp2_with fail
    go_ret
    exact FIN (by simp [opVars]) (by simp [opEs]) (by simp [opErr]) rfl hR hU hK
  by_cases hk1 : k = 1
  · subst hk1
    have HI := Imply_calls h1 n m hm
    have hE : opErr vars es 1 n m = (if m < 0 then 1 else putErr vars es n m) := by simp [opErr]
    have hS : opEs vars es 1 n m = (if m < 0 then es else putEs vars es n m) := by simp [opEs]
    rw [← hE, ← hS] at HI
    clear hE hS
    generalize hq : opErr vars es 1 n m = q at HI
    generalize hq2 : opEs vars es 1 n m = es2 at HI
    have HQ := Lib.hid (And.intro hq hq2)
    clear hq hq2
    go_enter Try.func12, Try.ntmps12
    go_wp2_with fail
    refine HI.mono ?_
    rintro e w' ⟨rfl, S', hR, hU, hK⟩
    go_wp2_with fail
    go_ret
    exact FIN (by simp [opVars]) HQ.out.2.symm (by rw [HQ.out.1]; rfl) rfl hR hU hK
  by_cases hk2 : k = 2
  · subst hk2
    by_cases hb : n < 0 ∨ (decs es : Int) < n
    · have HB := Lib.hid hb
      clear hb
      go_enter Try.func12, Try.ntmps12
      go_wp2_with fail
      refine (Trail.Undo_bad h1 n HB.out).mono ?_
      rintro e w' ⟨rfl, rfl⟩
      go_wp2_with fail
      go_ret
      exact FIN (by simp [opVars]) (by simp [opEs, HB.out]) (by simp [opErr, HB.out]) rfl h1 (Upd.refl _ _) (fun j hj => .inl hj)
    · have HB := Lib.hid hb
      have hud := undo_decs (es := es) (level := n) (by omega) (by omega)
      have HD := Lib.hid hud
      clear hb hud
      go_enter Try.func12, Try.ntmps12
      go_wp2_with fail
      refine (Trail.Undo_good h1 n (by have := HB.out; omega) (by have := HB.out; omega)).mono ?_
      rintro e w' ⟨rfl, hR, hU⟩
      go_wp2_with fail
      go_ret
      exact FIN (by simp [opVars]) (by simp [opEs, HB.out]) (by simp [opErr, HB.out]) HD.out.symm hR hU (fun j hj => .inl hj)
  by_cases hk3 : k = 3
  · subst hk3
    go_enter Try.func12, Try.ntmps12
    go_wp2_with fail
    refine (Clear_calls h1).mono ?_
    rintro e w' ⟨rfl, hR, hU⟩
    go_wp2_with fail
    go_ret
    exact FIN (by simp [opVars]) (by simp [opEs]) (by simp [opErr]) (by simp [decs]) hR hU (fun j hj => .inl hj)
  by_cases hb : n < vars ∨ 4194304 < n
  · have HB := Lib.hid hb
    have hopV : opVars vars k n = vars := by simp only [opVars]; rw [if_neg (by omega), if_pos hb]
    have hopE : opEs vars es k n m = es := by simp [opEs, hk0, hk1, hk2, hk3]
    have hopR : opErr vars es k n m = 5 := by simp only [opErr]; rw [if_neg hk0, if_neg hk1, if_neg hk2, if_neg hk3, if_pos hb]
    have HO := Lib.hid (And.intro hopV (And.intro hopE hopR))
    clear hopV hopE hopR hb
    go_enter Try.func12, Try.ntmps12
    go_wp2_with fail
    refine (Grow_bad h1 n HB.out).mono ?_
    rintro e w' ⟨rfl, rfl⟩
    go_wp2_with fail
    go_ret
    exact FIN HO.out.1.symm HO.out.2.1.symm (by rw [HO.out.2.2]; rfl) rfl h1 (Upd.refl _ _) (fun j hj => .inl hj)
  · have hopV : opVars vars k n = n.toNat := by simp only [opVars]; rw [if_neg (by omega), if_neg hb]
    have hopE : opEs vars es k n m = es := by simp [opEs, hk0, hk1, hk2, hk3]
    have hopR : opErr vars es k n m = 0 := by simp only [opErr]; rw [if_neg hk0, if_neg hk1, if_neg hk2, if_neg hk3, if_neg hb]
    have HO := Lib.hid (And.intro hopV (And.intro hopE hopR))
    clear hopV hopE hopR
    obtain ⟨v, rfl⟩ := Int.eq_ofNat_of_zero_le (show 0 ≤ n by omega)
    have hb1 : vars ≤ v := by omega
    have hb2 : v ≤ 4194304 := by omega
    clear hb
    go_enter Try.func12, Try.ntmps12
    go_wp2_with fail
    refine (Grow_calls h1 v hb1 hb2).mono ?_
    rintro e w' ⟨rfl, S', hR, hU, hK⟩
    go_wp2_with fail
    go_ret
    exact FIN HO.out.1.symm HO.out.2.1.symm (by rw [HO.out.2.2]; rfl) rfl hR hU hK
end
end Law
end Go.Proofs.Ytlfcabmbakjklaa
