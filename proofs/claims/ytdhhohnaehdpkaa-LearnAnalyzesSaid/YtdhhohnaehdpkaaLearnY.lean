/- Walks through the laws of learning: a trail and its model out of moves; a scene. Conditions: none. -/
import Derived.Test.YtdhhohnaehdpkaaLearnX
set_option linter.unusedVariables false
set_option linter.unusedSimpArgs false
set_option linter.unusedSectionVars false
open Go.RowKit
namespace Go.Proofs.Ytdhhohnaehdpkaa
open L
namespace Learn
open Trail Ref Cla R01 R14
theorem TWf.take {vars : Nat} {es : Es} (h : TWf vars es) (k : Nat) : TWf vars (es.take k) :=
  ⟨h.max, fun e he => h.lit e (List.mem_of_mem_take he), fun e he => h.rsn e (List.mem_of_mem_take he), by rw [List.map_take]; exact h.nodup.sublist (List.take_sublist _ _)⟩
theorem at_take {es : Es} {k : Nat} (h : k < es.length) : es.take (k + 1) = es.take k ++ [at_ es k] := by
  rw [List.take_add_one, List.getElem?_eq_getElem h, at_get h]
  rfl
theorem take_new {vars : Nat} {es : Es} (h : TWf vars es) {k : Nat} (hk : k < es.length) : pos (es.take k) (at_ es k).1.natAbs = 0 := by
  rw [pos_zero]
  intro e he hn
  obtain ⟨j, hj, rfl⟩ := List.getElem_of_mem he
  rw [List.length_take] at hj
  have hn2 := h.nodup
  rw [List.getElem_take, at_get hk] at hn
  have e1 : (es.map fun e => e.1.natAbs)[j]'(by simp; omega) = (es.map fun e => e.1.natAbs)[k]'(by simpa using hk) := by simpa using hn
  have := (List.getElem_inj hn2).1 e1
  omega
theorem put_take {vars : Nat} {es : Es} (h : TWf vars es) {k : Nat} (hk : k < es.length) : putEs vars (es.take k) (at_ es k).1 (at_ es k).2 = es.take (k + 1) ∧ putErr vars (es.take k) (at_ es k).1 (at_ es k).2 = 0 := by
  have hl := isLit_x h hk
  have hp := take_new h hk
  have hr := h.rsn _ (at_mem hk)
  refine ⟨?_, ?_⟩
  · rw [put_new hl hp hr.1, at_take hk]
  · unfold putErr; rw [if_pos hl, if_neg (by omega), if_pos hp]
/-- The cells of moves. -/
theorem mv_cells {w : World} {v : Value} {es : Es} (h : SL w 2 v es.length (rows es.length (mvs es))) : ∃ a cap, v = .slice a es.length cap ∧ es.length ≤ cap ∧ cap ≤ 9223372036854775807 ∧ ∀ k, k < es.length → ∃ g off, a = some ⟨g, off, none⟩ ∧ w.cell? ⟨g, off + k * 2, none⟩ = some (.int .i64 (at_ es k).1) ∧ w.cell? ⟨g, off + k * 2 + 1, none⟩ = some (.int .i64 (at_ es k).2) := by
  obtain ⟨hl, a, cap, rfl, q2, q3, q5, q4⟩ := h
  refine ⟨a, cap, rfl, q2, q3, fun k hk => ?_⟩
  rcases q4 with q4 | ⟨b, off, rfl, q4⟩
  · omega
  · have h0 := q4 (k * 2 + 0) (.int .i64 (at_ es k).1) (by rw [rows_get (k := 2) (f := mvs es) (fun _ => rfl) (by omega) hk]; rfl)
    have h1 := q4 (k * 2 + 1) (.int .i64 (at_ es k).2) (by rw [rows_get (k := 2) (f := mvs es) (fun _ => rfl) (by omega) hk]; rfl)
    exact ⟨b, off, rfl, by simpa using h0, by rw [Nat.add_assoc]; exact h1⟩
section
variable {w : World}
set_option maxRecDepth 100000 in
set_option maxHeartbeats 4000000 in
theorem RTrail_calls {v : Value} {n : Nat} {es : Es} (h : SL w 2 v es.length (rows es.length (mvs es))) (hw : TWf n es) :
    Calls Try.prog 12 #[.int .i64 n, v] w fun e w' => ∃ b, e = .returned (.pointer (some ⟨b, 0, none⟩)) ∧ ∃ S, Rf w' b n es S ∧ (∀ k ∈ S, w.heap.size ≤ k) ∧ Upd [] w w' := by
  obtain ⟨a, cap, rfl, q1, q2, hc⟩ := mv_cells h
  have hlen := hw.len
  have hmax := hw.max
  have HC := Lib.hid hc
  have HW := Lib.hid hw
  clear h hc hw
  go_enter Try.func12, Try.ntmps12
  go_upto_region 2 with fail
  have hR := Rf.start (w := w) n hmax
  have u0 := (Upd.refl [] w).alloc (.cells #[.int .i64 n, .slice none 0 0, .slice none 0 0, .slice none 0 0] 42)
  generalize hb : w.heap.size = b at *
  generalize (w.alloc (.cells #[.int .i64 n, .slice none 0 0, .slice none 0 0, .slice none 0 0] 42)) = w0 at *
  have H0 := Lib.hid (And.intro hR (And.intro u0 hb))
  clear hR u0
  go_wp2_with fail
  go_loopw [6] (fun i wr => ∃ (k : Nat) (S : List Nat), i = .int .i64 k ∧ k ≤ es.length ∧ Rf wr b n (es.take k) S ∧ (∀ q ∈ S, b ≤ q) ∧ Upd [] w wr) (fun i _ => es.length - (numOf i).toNat)
  case atStart => exact ⟨0, [b], rfl, Nat.zero_le _, H0.out.1, by simp, H0.out.2.1⟩
  case round =>
    obtain ⟨wo, rfl⟩ : ∃ wo : World, wo = wr := ⟨_, rfl⟩
    obtain ⟨k, S, rfl, hk, hR, hS, hU⟩ := hrel
    have HR := Lib.hid (And.intro hR (And.intro hS hU))
    clear hR hS hU
    by_cases hlt : k < es.length
    · have hki : (k : Int) < es.length := by omega
      obtain ⟨g, off, rfl, k1, k2⟩ := HC.out k hlt
      have e1 := HR.out.2.2.some k1 (by simp)
      have e2 := HR.out.2.2.some k2 (by simp)
      have hxl := HW.out.lit _ (at_mem hlt)
      have hrr := HW.out.rsn _ (at_mem hlt)
      have HPE := Lib.hid (put_take HW.out hlt)
      have HPT := Lib.hid (show ∀ W : World, Upd [] wo W → Calls Try.prog 24 #[.pointer (some ⟨b, 0, none⟩), .int .i64 (at_ es k).1, .int .i64 (at_ es k).2] W fun e w' => e = .returned (.int .i64 0) ∧ ∃ S', Rf w' b n (es.take (k + 1)) S' ∧ Upd S W w' ∧ ∀ q ∈ S', q ∈ S ∨ W.heap.size ≤ q from fun W u => by
        have h1 := Ref.Put_calls (HR.out.1.upd u (by simp)) (at_ es k).1 (at_ es k).2 (by omega) ⟨by omega, by omega⟩
        rwa [HPE.out.1, HPE.out.2] at h1)
      clear k1 k2 hxl hrr
      generalize (at_ es k).1 = y at *
      generalize (at_ es k).2 = r at *
      go_upto_region 5 with fail
      refine wp_region_ord 11 1 [0, 1, 2, 3, 4, 5, 6, 7, 8, 9, 10] [5, 10] [0, 1, 2, 3, 4, 5, 6, 7, 8, 9, 10, 11] (fun w' => ∃ x : Ext wo, w' = x.val) (by kernel_rfl) (by kernel_rfl) (Ext.of ((Upd.refl _ _).drew)) ?_
      repeat (first | (refine wpOrd_load rfl rfl rfl rfl (fun K hK => ?_); go_big_quiet_step (fail); refine wpQuiet_nil ?_; refine hK _ ?_; clear hK K) | (refine wpOrd_free rfl rfl rfl (fun K hK => ?_); go_big_quiet_step (fail); refine wpQuiet_nil ?_; refine hK _ ?_; clear hK K))
      refine wpOrd_fix rfl rfl (fun K hK => ?_)
      go_wp2_with (go_at_call 24; (with_reducible refine (HPT.out _ ((Upd.refl _ wo).drew)).mono ?_); rintro e w5 ⟨rfl, S5, hR5, u5, hS5⟩)
      have u5' : Upd S wo w5 := (show Upd S wo _ from (Upd.refl S wo).drew).trans u5
      have HX := Lib.hid (And.intro hR5 (And.intro (show ∀ q ∈ S5, b ≤ q from fun q hq => by
        rcases hS5 q hq with h1 | h1
        · exact HR.out.2.1 q h1
        · have := HR.out.2.2.size
          simp at h1
          omega) (show Upd [] w w5 from HR.out.2.2.fresh u5' (fun q hq => .inr (by have := HR.out.2.1 q hq; omega)))))
      clear hR5 u5 hS5 u5'
      refine ⟨fun hC => absurd hC (by decide), ?_⟩
      refine wpOrd_nil ?_
      go_wp2_with fail
      exact ⟨⟨k + 1, S5, by go_num, by omega, HX.out.1, HX.out.2.1, HX.out.2.2⟩, by simp [numOf]; omega⟩
    · have hki : ¬ (k : Int) < es.length := by omega
      have hR := HR.out.1
      rw [List.take_of_length_le (by omega)] at hR
      have HF := Lib.hid hR
      clear hR
      go_wp2_with fail
      go_ret
      exact ⟨_, rfl, S, HF.out, fun q hq => by have := HR.out.2.1 q hq; omega, HR.out.2.2⟩
set_option maxRecDepth 100000 in
set_option maxHeartbeats 4000000 in
theorem MadeL_calls {v : Value} {n : Nat} {es : Es} (h : SL w 2 v es.length (rows es.length (mvs es))) (hw : TWf n es) :
    Calls Try.prog 11 #[.int .i64 n, v] w fun e w' => ∃ b, e = .returned (.pointer (some ⟨b, 0, none⟩)) ∧ ∃ S, Tr w' b n es (decs es) S ∧ (∀ k ∈ S, w.heap.size ≤ k) ∧ Upd [] w w' := by
  obtain ⟨a, cap, rfl, q1, q2, hc⟩ := mv_cells h
  have hlen := hw.len
  have hmax := hw.max
  have HC := Lib.hid hc
  have HW := Lib.hid hw
  have HNW := Lib.hid (Trail.New_calls n w hmax)
  clear h hc hw
  go_enter Try.func11, Try.ntmps11
  go_upto_region 2 with (go_at_call 33; (with_reducible refine HNW.out.mono ?_); rintro e w1 ⟨b, S0, rfl, hT, u1, hS0⟩)
  have H1 := Lib.hid (And.intro hT (And.intro u1 hS0))
  clear hT u1 hS0 HNW
  go_wp2_with fail
  go_loopw [7] (fun i wr => ∃ (k : Nat) (S : List Nat), i = .int .i64 k ∧ k ≤ es.length ∧ Tr wr b n (es.take k) (decs (es.take k)) S ∧ (∀ q ∈ S, w.heap.size ≤ q) ∧ Upd [] w wr) (fun i _ => es.length - (numOf i).toNat)
  case atStart => exact ⟨0, S0, rfl, Nat.zero_le _, H1.out.1, H1.out.2.2, H1.out.2.1⟩
  case round =>
    obtain ⟨wo, rfl⟩ : ∃ wo : World, wo = wr := ⟨_, rfl⟩
    obtain ⟨k, S, rfl, hk, hR, hS, hU⟩ := hrel
    have HR := Lib.hid (And.intro hR (And.intro hS hU))
    clear hR hS hU
    by_cases hlt : k < es.length
    · have hki : (k : Int) < es.length := by omega
      obtain ⟨g, off, rfl, k1, k2⟩ := HC.out k hlt
      have e1 := HR.out.2.2.some k1 (by simp)
      have e2 := HR.out.2.2.some k2 (by simp)
      have hrr := HW.out.rsn _ (at_mem hlt)
      have HPE := Lib.hid (put_take HW.out hlt)
      by_cases hneg : (at_ es k).2 < 0
      · have HPT := Lib.hid (show Calls Try.prog 20 #[.pointer (some ⟨b, 0, none⟩), .int .i64 (at_ es k).1] wo fun e w' => e = .returned (.int .i64 0) ∧ ∃ S', Tr w' b n (es.take (k + 1)) (decs (es.take (k + 1))) S' ∧ Upd S wo w' ∧ ∀ q ∈ S', q ∈ S ∨ wo.heap.size ≤ q from by
          have h1 := Decide_calls HR.out.1 (at_ es k).1
          have h2 := HPE.out
          rw [show (at_ es k).2 = -1 by omega] at h2
          rwa [h2.1, h2.2] at h1)
        clear k1 k2
        generalize (at_ es k).1 = y at *
        generalize (at_ es k).2 = r at *
        go_upto_region 11 with (go_at_call 20; (with_reducible refine HPT.out.mono ?_); rintro e w5 ⟨rfl, S5, hR5, u5, hS5⟩)
        have HX := Lib.hid (And.intro hR5 (And.intro (show ∀ q ∈ S5, w.heap.size ≤ q from fun q hq => by
          rcases hS5 q hq with h1 | h1
          · exact HR.out.2.1 q h1
          · have := HR.out.2.2.size
            omega) (show Upd [] w w5 from HR.out.2.2.fresh u5 (fun q hq => .inr (HR.out.2.1 q hq)))))
        clear hR5 u5 hS5
        go_wp2_with fail
        exact ⟨⟨k + 1, S5, by go_num, by omega, HX.out.1, HX.out.2.1, HX.out.2.2⟩, by simp [numOf]; omega⟩
      · have HPT := Lib.hid (show ∀ W : World, Upd [] wo W → Calls Try.prog 34 #[.pointer (some ⟨b, 0, none⟩), .int .i64 (at_ es k).1, .int .i64 (at_ es k).2] W fun e w' => e = .returned (.int .i64 0) ∧ ∃ S', Tr w' b n (es.take (k + 1)) (decs (es.take (k + 1))) S' ∧ Upd S W w' ∧ ∀ q ∈ S', q ∈ S ∨ W.heap.size ≤ q from fun W u => by
          have h1 := Imply_calls (HR.out.1.upd u (by simp)) (at_ es k).1 (at_ es k).2 (by omega)
          rw [if_neg hneg, if_neg hneg] at h1
          rwa [HPE.out.1, HPE.out.2] at h1)
        clear k1 k2
        generalize (at_ es k).1 = y at *
        generalize (at_ es k).2 = r at *
        go_upto_region 10 with fail
        refine wp_region_ord 11 1 [0, 1, 2, 3, 4, 5, 6, 7, 8, 9, 10, 12] [5, 10] [0, 1, 2, 3, 4, 5, 6, 7, 8, 9, 10, 11, 12] (fun w' => ∃ x : Ext wo, w' = x.val) (by kernel_rfl) (by kernel_rfl) (Ext.of ((Upd.refl _ _).drew)) ?_
        repeat (first | (refine wpOrd_load rfl rfl rfl rfl (fun K hK => ?_); go_big_quiet_step (fail); refine wpQuiet_nil ?_; refine hK _ ?_; clear hK K) | (refine wpOrd_free rfl rfl rfl (fun K hK => ?_); go_big_quiet_step (fail); refine wpQuiet_nil ?_; refine hK _ ?_; clear hK K))
        refine wpOrd_fix rfl rfl (fun K hK => ?_)
        go_wp2_with (go_at_call 34; (with_reducible refine (HPT.out _ ((Upd.refl _ wo).drew)).mono ?_); rintro e w5 ⟨rfl, S5, hR5, u5, hS5⟩)
        have u5' : Upd S wo w5 := (show Upd S wo _ from (Upd.refl S wo).drew).trans u5
        have HX := Lib.hid (And.intro hR5 (And.intro (show ∀ q ∈ S5, w.heap.size ≤ q from fun q hq => by
          rcases hS5 q hq with h1 | h1
          · exact HR.out.2.1 q h1
          · have := HR.out.2.2.size
            simp at h1
            omega) (show Upd [] w w5 from HR.out.2.2.fresh u5' (fun q hq => .inr (HR.out.2.1 q hq)))))
        clear hR5 u5 hS5 u5'
        refine ⟨fun hC => absurd hC (by decide), ?_⟩
        repeat (first | (refine wpOrd_load rfl rfl rfl rfl (fun K hK => ?_); go_big_quiet_step (fail); refine wpQuiet_nil ?_; refine hK _ ?_; clear hK K) | (refine wpOrd_free rfl rfl rfl (fun K hK => ?_); go_big_quiet_step (fail); refine wpQuiet_nil ?_; refine hK _ ?_; clear hK K))
        refine wpOrd_nil ?_
        go_wp2_with fail
        exact ⟨⟨k + 1, S5, by go_num, by omega, HX.out.1, HX.out.2.1, HX.out.2.2⟩, by simp [numOf]; omega⟩
    · have hki : ¬ (k : Int) < es.length := by omega
      have hR := HR.out.1
      rw [List.take_of_length_le (by omega)] at hR
      have HF := Lib.hid hR
      clear hR
      go_wp2_with fail
      go_ret
      exact ⟨_, rfl, S, HF.out, HR.out.2.1, HR.out.2.2⟩
/-- A scene: clauses, moves up to a conflict. -/
def SceneT (L : List (List Int)) (w : World) (e : Ending) (w' : World) : Prop :=
  ∃ ov v cf, e = .returned (.tuple #[ov, v, .int .i64 cf]) ∧ ∃ (F : List Nat) (es : Es), OwnL 22 w ov L F w' ∧ (∀ b ∈ F, w.heap.size ≤ b) ∧ Mv L 8 es ∧ OwnV w 28 2 v es.length (rows es.length (mvs es)) w' ∧ Upd [] w w' ∧ (cf = -1 ∨ 0 ≤ cf ∧ cf < L.length ∧ ∀ x ∈ L.getD cf.toNat [], tval 8 es x = -1) ∧ ∀ q, ov.ownBlock = some q ∨ q ∈ F → v.ownBlock ≠ some q
set_option maxRecDepth 100000 in
theorem Scene_calls {v : Value} {xs : List Int} (hx : ∀ x ∈ xs, IsI64 x) (hl : SL w 1 v xs.length (ints xs)) {ch : Int} (hch : IsI64 ch) :
    Calls Try.prog 9 #[v, .int .i64 ch] w (SceneT (clsL xs) w) := by
  have HC := Lib.hid (LClauses_calls hx hl)
  have HM := Lib.hid (fun (W : World) (ov : Value) (h : Go.Proofs.Ytdhhohnaehdpkaa.L.CL W ov (clsL xs)) => Moves_calls h (clsL_length xs) (fun c hc => clsL_ok hc) hch)
  clear hx hl
  go_enter Try.func9, Try.ntmps9
  go_upto_region 2 with (go_at_call 18; (with_reducible refine HC.out.mono ?_); rintro e w1 ⟨ov, rfl, F, hO, hF, u1⟩)
  have HO := Lib.hid (And.intro hO (And.intro hF u1))
  have HM2 := Lib.hid (HM.out w1 ov hO.cl)
  clear hO hF u1 HC HM
  go_wp2_with (go_at_call 32; (with_reducible refine HM2.out.mono ?_); rintro e w2 ⟨mv, cf, rfl, es, hm, hv, u2, hcf⟩)
  go_ret3
  refine ⟨_, _, _, rfl, F, es, HO.out.1.upd u2 (by simp), HO.out.2.1, hm, ⟨hv.row, fun q hq => by have := hv.fresh q hq; have := HO.out.2.2.size; omega⟩, HO.out.2.2.step u2, hcf, fun q hq e => ?_⟩
  have h1 := hv.fresh q e
  rcases hq with hq | hq
  · have := HO.out.1.own_lt q hq; omega
  · have := HO.out.1.lt q hq; omega
end
end Learn
end Go.Proofs.Ytdhhohnaehdpkaa
