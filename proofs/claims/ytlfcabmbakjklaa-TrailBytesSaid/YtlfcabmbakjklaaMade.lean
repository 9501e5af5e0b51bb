/- Walks through the laws of trails: made. Conditions: none. -/
import Derived.Test.YtlfcabmbakjklaaRuns
set_option linter.unusedVariables false
set_option linter.unusedSimpArgs false
set_option linter.unusedSectionVars false
open Go.RowKit
namespace Go.Proofs.Ytlfcabmbakjklaa
open L
namespace Law
open Trail Ref R01 Script
/-- A trail and its model, new, apart from each other. -/
structure Pair (w0 : World) (b mb vs : Nat) (es : Es) (w : World) (S S2 : List Nat) : Prop where
  t : Tr w b vs es (decs es) S
  m : Rf w mb vs es S2
  apart : ∀ k ∈ S, k ∉ S2
  s : ∀ k ∈ S, w0.heap.size ≤ k
  s2 : ∀ k ∈ S2, w0.heap.size ≤ k
  u : Upd [] w0 w
theorem Two.pair {w0 w : World} {b mb vs n : Nat} {es : Es} {v : Value} {cs : List Value} {S S2 : List Nat} (T : Two w0 b mb vs es vs es v n cs w S S2) : Pair w0 b mb vs es w S S2 :=
  ⟨T.t, T.m, T.apart, fun k hk => (T.s k hk).1, fun k hk => (T.s2 k hk).1, T.u⟩
theorem Pair.quiet {w0 w w' : World} {b mb vs : Nat} {es : Es} {S S2 : List Nat} (T : Pair w0 b mb vs es w S S2) (hu : Upd [] w w') : Pair w0 b mb vs es w' S S2 :=
  ⟨T.t.upd hu (by simp), T.m.upd hu (by simp), T.apart, T.s, T.s2, T.u.step hu⟩
def MadeT (K : Nat) (w : World) (e : Ending) (w' : World) : Prop :=
  ∃ b mb vs es S S2, e = .returned (.tuple #[.pointer (some ⟨b, 0, none⟩), .pointer (some ⟨mb, 0, none⟩)]) ∧ Pair w b mb vs es w' S S2 ∧ vs ≤ 20 ∧ K ≤ vs
theorem opVars_le_ {vs m : Nat} {k n : Int} (h : vs ≤ m) (hn : n ≤ m) : opVars vs k n ≤ m := by
  unfold opVars
  split
  · exact h
  · split <;> omega
theorem opVars_ge (vs : Nat) (k n : Int) : vs ≤ opVars vs k n := by
  unfold opVars
  split
  · exact Nat.le_refl _
  · split <;> omega
section
variable {w : World}
set_option maxRecDepth 100000 in
set_option maxHeartbeats 2000000 in
theorem made_calls {lv : Value} {xs : List Int} (hx : ∀ x ∈ xs, IsI64 x) (hl : SL w 1 lv xs.length (ints xs)) (K : Nat) (hK9 : K ≤ 9) :
    Calls Try.prog 19 #[lv, .int .i64 K] w (MadeT K w) := by
  have HX := Lib.hid (And.intro hx hl)
  clear hx hl
  go_enter Try.func19, Try.ntmps19
  go_wp2_with fail
  refine (New_calls K _ (by omega)).mono ?_
  rintro e w1 ⟨b, S, rfl, h1, u1, k1⟩
  have m2 := Rf.start (w := w1) K (by omega)
  have u2 := (Upd.refl [] w1).alloc (.cells #[.int .i64 K, .slice none 0 0, .slice none 0 0, .slice none 0 0] 30)
  go_wp2_with fail
  generalize hw2 : w1.alloc (.cells #[.int .i64 K, .slice none 0 0, .slice none 0 0, .slice none 0 0] 30) = w2 at *
  have sw2 : w1.heap.size < w2.heap.size := by rw [← hw2]; simp
  have HW := Lib.hid hw2
  clear hw2
  have U2 := u1.step u2
  have SC := Script_callsN HX.out.1 (HX.out.2.upd U2 (by simp)) K 20 (by omega) (by omega)
  rw [show ((20 : Nat) : Int) = 20 from rfl] at SC
  refine SC.mono ?_
  rintro e w3 ⟨v, ops, rfl, s3, ok, h24, u3, vb⟩
  have lt1 := h1.lt
  have T3 : Two w b w1.heap.size K [] K [] v ops.length (opCells ops) w3 S [w1.heap.size] := by
    refine ⟨(h1.upd (T := []) (u2.step u3) (by simp)), m2.upd u3 (by simp), s3, ?_, ?_, ?_, U2.step u3⟩
    · intro k hk hk2
      have := lt1 k hk
      simp at hk2
      omega
    · intro k hk
      have l1 := lt1 k hk
      have l2 := k1 k hk
      refine ⟨l2, fun _ hs => ?_⟩
      have := vb k hs
      omega
    · intro k hk
      simp at hk
      subst hk
      refine ⟨by have := u1.size; omega, fun _ hs => ?_⟩
      have := vb _ hs
      omega
  clear vb lt1 h1 m2 u1 k1 u2 u3 U2 SC sw2 HW
  generalize w1.heap.size = mb at *
  obtain ⟨a, cap, rfl, q1, r1, hc⟩ := SL.form_ s3
  have HO := Lib.hid ok
  clear ok
  have HI := Lib.hid T3
  clear s3 T3
  go_wp2_with fail
  go_loopw [10] (fun i wr => ∃ (k : Nat) (vs : Nat) (es : Es) (S S2 : List Nat), i = .int .i64 k ∧ k ≤ ops.length ∧ vs ≤ 20 ∧ K ≤ vs ∧ Two w b mb vs es vs es (.slice a ops.length cap) ops.length (opCells ops) wr S S2) (fun i _ => ops.length - (intOf i).toNat)
  case atStart => exact ⟨0, K, [], S, _, rfl, Nat.zero_le _, by omega, Nat.le_refl _, HI.out⟩
  case round =>
    clear HI
    obtain ⟨k, vs, es, S, S2, rfl, hk, hvs, hKv, T⟩ := hrel
    by_cases hlt : k < ops.length
    · obtain ⟨g, off, rfl⟩ := hc (by omega)
      obtain ⟨c0, c1, c2⟩ := op_at T.sl hlt
      have oki := HO.out _ (List.getElem_mem hlt)
      obtain ⟨⟨kk, nn, mm⟩, hop⟩ : ∃ op, ops[k] = op := ⟨_, rfl⟩
      rw [hop] at c0 c1 c2 oki
      simp only at c0 c1 c2
      have hvs' : opVars vs kk nn ≤ 20 := opVars_le_ hvs (by have := oki.2.1; simp only at this; omega)
      have ne : Nonempty (Tri g (off + k * 3) (.int .i64 kk) (.int .i64 nn) (.int .i64 mm)) := ⟨⟨wr, c0, c1, c2⟩⟩
      have HT := Lib.hid T
      clear T
      go_upto_region 9 with fail
      refine wp_region_ord 11 2 [0, 1, 2, 3, 4, 6, 7, 8, 9, 10, 12] [4, 10] [0, 1, 2, 3, 4, 6, 7, 8, 9, 10, 5, 11, 12] (fun w' => ∃ x : Tri g (off + k * 3) (.int .i64 kk) (.int .i64 nn) (.int .i64 mm), w' = x.val) (by kernel_rfl) (by kernel_rfl) (Tri.of c0 c1 c2) ?_
      repeat (first | (refine wpOrd_load rfl rfl rfl rfl (fun K hK => ?_); go_big_quiet_step (fail); refine wpQuiet_nil ?_; refine hK _ ?_; clear hK K) | (refine wpOrd_free rfl rfl rfl (fun K hK => ?_); go_big_quiet_step (fail); refine wpQuiet_nil ?_; refine hK _ ?_; clear hK K))
      refine wpOrd_fix rfl rfl (fun K hK => ?_)
      go_wp2_with (go_at_call 12; refine (do_calls (HT.out.t.upd (T := []) (by iterate 25 (first | exact Upd.refl _ _ | assumption | refine Upd.alloc ?_ _ | refine Upd.drew ?_ | refine Upd.drewN ?_ _ | refine Upd.dl ?_ | refine Upd.step ?_ (Ext.upd _) | refine Upd.nil ?_ | skip)) (by simp)) kk nn mm oki.1.2).mono ?_; rintro e w4 ⟨rfl, S', ht, ut, kt⟩)
      have T4 := (HT.out.quiet (by iterate 25 (first | exact Upd.refl _ _ | assumption | refine Upd.alloc ?_ _ | refine Upd.drew ?_ | refine Upd.drewN ?_ _ | refine Upd.dl ?_ | refine Upd.step ?_ (Ext.upd _) | refine Upd.nil ?_ | skip))).trail ht ut kt
      clear ht ut kt HT
      obtain ⟨c0', c1', c2'⟩ := op_at T4.sl hlt
      rw [hop] at c0' c1' c2'
      refine ⟨fun _ => Tri.of c0' c1' c2', ?_⟩
      repeat (first | (refine wpOrd_load rfl rfl rfl rfl (fun K hK => ?_); go_big_quiet_step (fail); refine wpQuiet_nil ?_; refine hK _ ?_; clear hK K) | (refine wpOrd_free rfl rfl rfl (fun K hK => ?_); go_big_quiet_step (fail); refine wpQuiet_nil ?_; refine hK _ ?_; clear hK K))
      refine wpOrd_fix rfl rfl (fun K hK => ?_)
      go_wp2_with (go_at_call 13; refine (Do_calls T4.m kk nn mm oki.1.1 oki.1.2).mono ?_; rintro e w5 ⟨rfl, S2', hm, um, km⟩)
      have T5 := T4.model hm um km
      clear hm um km T4
      generalize opErr vs es kk nn mm = er at *
      have HT := Lib.hid T5
      clear T5
      refine ⟨fun hC => absurd hC (by decide), ?_⟩
      repeat (first | (refine wpOrd_load rfl rfl rfl rfl (fun K hK => ?_); go_big_quiet_step (fail); refine wpQuiet_nil ?_; refine hK _ ?_; clear hK K) | (refine wpOrd_free rfl rfl rfl (fun K hK => ?_); go_big_quiet_step (fail); refine wpQuiet_nil ?_; refine hK _ ?_; clear hK K))
      refine wpOrd_nil ?_
      have T6 := HT.out
      go_wp2_with fail
      refine ⟨⟨k + 1, _, _, _, _, by simp, by omega, hvs', Nat.le_trans hKv (opVars_ge _ _ _), T6⟩, by simp [intOf]; omega⟩
    · have HT := Lib.hid T
      clear T HO hc
      go_wp2_with fail
      go_ret2
      exact ⟨b, mb, vs, es, S, S2, rfl, HT.out.pair, hvs, hKv⟩
end
end Law
end Go.Proofs.Ytlfcabmbakjklaa
