/- Walks through the reference of gates: List. Conditions: none. -/
import Derived.Test.YtobclpfpkpkocaaGateW
import Derived.Test.YtobclpfpkpkocaaGateG
set_option linter.unusedVariables false
set_option linter.unusedSimpArgs false
set_option linter.unusedSectionVars false
open Go.RowKit
namespace Go.Proofs.Ytobclpfpkpkocaa
open L
namespace Gate
open Cla R14 R01
theorem infoGate : (Try.prog.info? 24).map (fun i => (i.zero, i.size, i.bytes)) = some (some (.agg #[.int .i64 0, .int .i64 0, .slice none 0 0]), 3, 40) := by kernel_rfl
/-- The cells of a gate in a row. -/
def RowAt (w : World) (cs : List Value) (F : List Nat) (i : Nat) (x : G) : Prop :=
  ∃ av cv, cs[i * 3]? = some (.int .i64 x.1) ∧ cs[i * 3 + 1]? = some (.int .i64 x.2.1) ∧ cs[i * 3 + 2]? = some (.slice av x.2.2.length cv) ∧ SL w 1 (.slice av x.2.2.length cv) x.2.2.length (ints x.2.2) ∧ (∀ y ∈ x.2.2, IsI64 y) ∧ ∀ b, (Value.slice av x.2.2.length cv).ownBlock = some b → b ∈ F
theorem RowAt.upd {w w' : World} {cs : List Value} {F S : List Nat} {i : Nat} {x : G} (h : RowAt w cs F i x) (hu : Upd S w w') (hS : ∀ b ∈ S, b ∉ F) : RowAt w' cs F i x := by
  obtain ⟨av, cv, h1, h2, h3, h4, h5, h6⟩ := h
  exact ⟨av, cv, h1, h2, h3, h4.upd hu (fun b hb hv => hS b hb (h6 b hv)), h5, h6⟩
theorem RowAt.more {w : World} {cs cs' : List Value} {F F' : List Nat} {i : Nat} {x : G} (h : RowAt w cs F i x) (hF : ∀ b ∈ F, b ∈ F') : RowAt w (cs ++ cs') F' i x := by
  obtain ⟨av, cv, h1, h2, h3, h4, h5, h6⟩ := h
  have q : ∀ {n : Nat} {v : Value}, cs[n]? = some v → (cs ++ cs')[n]? = some v := fun h => by rw [List.getElem?_append_left (List.getElem?_eq_some_iff.1 h).1]; exact h
  exact ⟨av, cv, q h1, q h2, q h3, h4, h5, fun b hb => hF b (h6 b hb)⟩
/-- A row of gates of one's own. -/
structure OwnG (w0 : World) (v : Value) (gs : List G) (F : List Nat) (w : World) : Prop where
  ex : ∃ cs, OwnV w0 24 3 v gs.length cs w ∧ ∀ i, i < gs.length → RowAt w cs F i (gs.getD i (0, 0, []))
  apart : ∀ b, v.ownBlock = some b → b ∉ F
  lt : ∀ b ∈ F, b < w.heap.size
  new : ∀ b ∈ F, w0.heap.size ≤ b
  u : Upd [] w0 w
theorem OwnG.gl {w0 w : World} {v : Value} {gs : List G} {F : List Nat} (h : OwnG w0 v gs F w) : GL w v gs := by
  obtain ⟨cs, h1, h2⟩ := h.ex
  obtain ⟨hl, a, cap, rfl, q1, q2, q3, q4⟩ := h1.sl
  refine ⟨a, cap, rfl, q1, by unfold maxLen at q2; exact q2, fun i hi => ?_⟩
  rcases q4 with q4 | ⟨b, off, rfl, q4⟩
  · omega
  · obtain ⟨av, cv, r1, r2, r3, r4, r5, _⟩ := h2 i hi
    exact ⟨b, off, av, cv, rfl, q4 _ _ r1, by rw [Nat.add_assoc]; exact q4 _ _ r2, by rw [Nat.add_assoc]; exact q4 _ _ r3, r4, r5⟩
theorem OwnG.nil (w : World) : OwnG w (.slice none 0 0) [] [] w := ⟨⟨[], OwnV.nil _ _ _ _, fun i hi => by simp at hi⟩, by simp [Value.ownBlock], by simp, by simp, Upd.refl _ _⟩
theorem OwnG.quiet {w0 w w' : World} {v : Value} {gs : List G} {F : List Nat} (h : OwnG w0 v gs F w) (hu : Upd [] w w') : OwnG w0 v gs F w' := by
  obtain ⟨cs, h1, h2⟩ := h.ex
  exact ⟨⟨cs, h1.upd hu (by simp), fun i hi => (h2 i hi).upd hu (by simp)⟩, h.apart, fun b hb => Nat.lt_of_lt_of_le (h.lt b hb) hu.size, h.new, h.u.step hu⟩
theorem OwnG.push {w0 w w2 w' : World} {v : Value} {gs : List G} {F : List Nat} {cs : List Value} {g cap : Nat} {k o : Int} {ys : List Int} {ay : Option Addr} {cy : Nat} (h : OwnG w0 v gs F w) (u2 : Upd [] w w2)
    (h1 : OwnV w0 24 3 v gs.length cs w2) (h2 : ∀ i, i < gs.length → RowAt w2 cs F i (gs.getD i (0, 0, [])))
    (hy : Own w (.slice ay ys.length cy) ys w2) (hyi : ∀ y ∈ ys, IsI64 y)
    (O : w'.ownsRow 0 24 3 (.slice (some ⟨g, 0, none⟩) (gs.length + 1) cap) (gs.length + 1) (cs ++ [.int .i64 k, .int .i64 o, .slice ay ys.length cy])) (u : Upd v.ownBlock.toList w2 w') (hk : v.ownBlock = some g ∨ w2.heap.size ≤ g) :
    OwnG w0 (.slice (some ⟨g, 0, none⟩) (gs ++ [(k, o, ys)]).length cap) (gs ++ [(k, o, ys)]) (F ++ (Value.slice ay ys.length cy).ownBlock.toList) w' := by
  have hl : cs.length = gs.length * 3 := h1.row.1
  have hvF : ∀ b ∈ v.ownBlock.toList, b ∉ F := fun b hb => h.apart b (by simpa using hb)
  have hvy : ∀ b, (Value.slice ay ys.length cy).ownBlock = some b → v.ownBlock ≠ some b := fun b hb hv => by
    have := hy.fresh b hb
    obtain ⟨cs0, h10, _⟩ := h.ex
    have := h10.lt b hv
    omega
  have hy' := hy.sl.upd u (fun b hb hv => hvy b hv (by simpa using hb))
  have hz := h.u.size
  have hz2 := u2.size
  have hz3 := u.size
  rw [List.length_append, List.length_singleton]
  refine ⟨⟨_, by rw [List.length_append, List.length_singleton]; exact h1.push (by omega) O hk, fun i hi => ?_⟩, fun b hb hm => ?_, fun b hb => ?_, fun b hb => ?_, ?_⟩
  · rw [List.length_append, List.length_singleton] at hi
    by_cases hig : i < gs.length
    · have e : (gs ++ [(k, o, ys)]).getD i (0, 0, []) = gs.getD i (0, 0, []) := by rw [List.getD_eq_getElem?_getD, List.getD_eq_getElem?_getD, List.getElem?_append_left hig]
      rw [e]
      exact ((h2 i hig).upd u hvF).more (fun b hb => List.mem_append_left _ hb)
    · have hie : i = gs.length := by omega
      subst hie
      have e : (gs ++ [(k, o, ys)]).getD gs.length (0, 0, []) = (k, o, ys) := by rw [List.getD_eq_getElem?_getD, List.getElem?_append_right (Nat.le_refl _)]; simp
      rw [e]
      refine ⟨ay, cy, ?_, ?_, ?_, hy', hyi, fun b hb => List.mem_append_right _ (by simpa using hb)⟩
      · rw [List.getElem?_append_right (by omega), hl, Nat.sub_self]; rfl
      · rw [List.getElem?_append_right (by omega), hl, show gs.length * 3 + 1 - gs.length * 3 = 1 by omega]; rfl
      · rw [List.getElem?_append_right (by omega), hl, show gs.length * 3 + 2 - gs.length * 3 = 2 by omega]; rfl
  · simp only [Value.ownBlock, Option.some.injEq] at hb
    subst hb
    rcases List.mem_append.1 hm with hm | hm
    · rcases hk with hk | hk
      · exact h.apart _ hk hm
      · have := h.lt _ hm; omega
    · simp only [Option.mem_toList] at hm
      rcases hk with hk | hk
      · exact hvy _ hm hk
      · have := (hy.row.lt _ hm).2; omega
  · rcases List.mem_append.1 hb with hm | hm
    · have := h.lt _ hm; omega
    · simp only [Option.mem_toList] at hm
      have := (hy.row.lt _ hm).2; omega
  · rcases List.mem_append.1 hb with hm | hm
    · exact h.new b hm
    · simp only [Option.mem_toList] at hm
      have := hy.fresh b hm; omega
  · exact (h.u.step u2).fresh u (fun b hb => .inr (h1.fresh b (by simpa using hb)))
/-- What List gives. -/
def ListT (first : Int) (w : World) (e : Ending) (w' : World) : Prop :=
  ∃ v gs F, e = .returned v ∧ OwnG w v gs F w' ∧ gs.length ≤ 9 ∧ ∀ i, i < gs.length → ∃ k ys, gs.getD i (0, 0, []) = (k, first + i, ys) ∧ gOk k (first + i) ys = true ∧ ∀ x ∈ ys, 1 ≤ x.natAbs ∧ (x.natAbs : Int) ≤ first + i - 1
section
variable {w : World}
set_option maxRecDepth 100000 in
set_option maxHeartbeats 8000000 in
theorem GList_calls {lv : Value} {xs : List Int} (hx : ∀ x ∈ xs, IsI64 x) (hl : SL w 1 lv xs.length (ints xs)) : Calls Try.prog 22 #[lv, .int .i64 5, .int .i64 9] w (ListT 5 w) := by
  obtain ⟨a, cap, rfl, q1, r1, hc⟩ := SL.elems hl
  have HX := Lib.hid (And.intro hx hc)
  clear hx hl hc
  go_enter Try.func22, Try.ntmps22
  go_wp2_with fail
  go_loopw [7, 8] (fun o i wr => ∃ (j : Nat) (gs : List G) (F : List Nat), i = .int .i64 j ∧ j ≤ xs.length ∧ j ≤ 9 ∧ gs.length = j ∧ OwnG w o gs F wr ∧ ∀ i, i < gs.length → ∃ k ys, gs.getD i (0, 0, []) = (k, (5 : Int) + i, ys) ∧ gOk k (5 + i) ys = true ∧ ∀ x ∈ ys, 1 ≤ x.natAbs ∧ (x.natAbs : Int) ≤ 5 + i - 1) (fun _ i _ => 9 - (intOf i).toNat)
  case atStart => exact ⟨0, [], [], rfl, Nat.zero_le _, by omega, rfl, OwnG.nil w, fun i hi => by simp at hi⟩
  case round =>
    obtain ⟨wo, rfl⟩ : ∃ wo : World, wo = wr := ⟨_, rfl⟩
    obtain ⟨j, gs, F, rfl, hj, hj9, hgl, hO, hgs⟩ := hrel
    have HO := Lib.hid (And.intro hO (And.intro hgl hgs))
    have hgl9 : gs.length ≤ 9 := by omega
    obtain ⟨cs0, hv0, _⟩ := id hO.ex
    obtain ⟨ao, co, rfl, _⟩ := hv0.sl.val
    have e0' := hO.u
    clear hO hgl hgs hv0
    by_cases hlt : j < xs.length ∧ j < 9
    · obtain ⟨hlt, hlt9⟩ := hlt
      obtain ⟨g, off, rfl, k1⟩ := HX.out.2 (by omega)
      have e0 := e0'.some (k1 j _ (ints_gd hlt)) (by simp)
      have hx64 := HX.out.1 _ (gd_mem hlt)
      generalize xs.getD j 0 = x at *
      clear k1 e0'
      have ho1 : 1 ≤ 5 + (j : Int) := by omega
      have ho2 : 5 + (j : Int) ≤ 1000 := by omega
      have HSG := Lib.hid (SomeG_calls (w := wo) x (5 + (j : Int)) hx64 ho1 ho2)
      go_upto_region 5 with fail
      refine wp_region_lit ?_
      refine wpList_cutH 9 (fun K hK => ?_)
      simp only [List.take_succ_cons, List.take_zero]
      go_wp2_with fail
      refine HSG.out.mono ?_
      rintro e w2 ⟨kk, ys, v2, rfl, hk0, hk6, hyl, hys, hOy⟩
      obtain ⟨ay, cy, rfl, _, _⟩ := hOy.form
      have hok : gOk kk (5 + (j : Int)) ys = true := gOk_iff.2 ⟨⟨hk0, hk6⟩, by omega, hyl, fun y hy => by have := hys y hy; omega⟩
      have HY := Lib.hid (And.intro hOy (And.intro hok hys))
      clear hOy hok hys hyl HSG
      go_wp2_with fail
      refine Halt_.intro ?_; try simp only [List.drop_succ_cons, List.drop_zero]
      obtain ⟨cs, h1, h2⟩ := (HO.out.1.quiet HY.out.1.u).ex
      refine wpList_push rfl rfl _ _ _ _ rfl rfl rfl 24 3 40 _ Try.underlying27 infoGate rfl (by decide) (by decide) (.agg #[.int .i64 kk, .int .i64 (5 + (j : Int)), .slice ay ys.length cy]) [.int .i64 kk, .int .i64 (5 + (j : Int)), .slice ay ys.length cy] rfl rfl rfl (by simp [Value.oneCell']) _ _ _ h1.row rfl rfl (by unfold maxLen; omega) (by omega) ?_
      intro g4 cap4 w4 o4 u4 k4
      simp only [Act.put, List.setIfInBounds_toArray, List.set_cons_zero, List.set_cons_succ]
      have N := HO.out.1.push HY.out.1.u h1 h2 HY.out.1 (fun y hy => by have := HY.out.2.2 y hy; unfold IsI64; omega) o4 u4 k4
      have HN := Lib.hid N
      clear o4 u4 k4 h1 h2 N
      go_wp2_with fail
      refine ⟨⟨j + 1, gs ++ [(kk, 5 + (j : Int), ys)], _, by go_num, by omega, by omega, by rw [List.length_append, HO.out.2.1]; rfl, by simpa using HN.out, fun i hi => ?_⟩, by simp [intOf]; omega⟩
      rw [List.length_append, List.length_singleton] at hi
      by_cases hig : i < gs.length
      · have e : (gs ++ [(kk, 5 + (j : Int), ys)]).getD i (0, 0, []) = gs.getD i (0, 0, []) := by rw [List.getD_eq_getElem?_getD, List.getD_eq_getElem?_getD, List.getElem?_append_left hig]
        rw [e]
        exact HO.out.2.2 i hig
      · have hie : i = j := by have := HO.out.2.1; omega
        subst hie
        have hgl := HO.out.2.1
        have e : (gs ++ [(kk, 5 + (i : Int), ys)]).getD i (0, 0, []) = (kk, 5 + (i : Int), ys) := by rw [List.getD_eq_getElem?_getD, List.getElem?_append_right (by omega), hgl]; simp
        rw [e]
        exact ⟨kk, ys, rfl, HY.out.2.1, fun y hy => by have := HY.out.2.2 y hy; omega⟩
    · have HN : Hid (j < xs.length → 9 ≤ j) := by unfold Hid; omega
      by_cases h1 : j < xs.length
      · have h2 := HN.out h1
        clear hlt
        go_wp2_with fail
        go_ret
        exact ⟨_, gs, F, rfl, HO.out.1, hgl9, HO.out.2.2⟩
      · clear hlt
        go_wp2_with fail
        go_ret
        exact ⟨_, gs, F, rfl, HO.out.1, hgl9, HO.out.2.2⟩
end
end Gate
end Go.Proofs.Ytobclpfpkpkocaa
