/- Walks through the laws of trails: TrailRuns. Conditions: none. -/
import Derived.Test.YtlfcabmbakjklaaLawB
import Derived.Test.YtlfcabmbakjklaaScript
import Derived.Test.YtlfcabmbakjklaaLives
set_option linter.unusedVariables false
set_option linter.unusedSimpArgs false
set_option linter.unusedSectionVars false
open Go.RowKit
namespace Go.Proofs.Ytlfcabmbakjklaa
open L
namespace Law
open Trail Ref R01 Script
/-- A world in which three cells hold what they held. -/
def Tri (g o : Nat) (v0 v1 v2 : Value) : Type := { w : World // w.cell? ⟨g, o, none⟩ = some v0 ∧ w.cell? ⟨g, o + 1, none⟩ = some v1 ∧ w.cell? ⟨g, o + 2, none⟩ = some v2 }
section
variable {g o : Nat} {v0 v1 v2 : Value}
theorem Tri.c0 (x : Tri g o v0 v1 v2) : x.val.cell? ⟨g, o, none⟩ = some v0 := x.property.1
theorem Tri.c1 (x : Tri g o v0 v1 v2) : x.val.cell? ⟨g, o + 1, none⟩ = some v1 := x.property.2.1
theorem Tri.c2 (x : Tri g o v0 v1 v2) : x.val.cell? ⟨g, o + 2, none⟩ = some v2 := x.property.2.2
attribute [go_sem] Tri.c0 Tri.c1 Tri.c2
theorem Tri.of {w : World} (h0 : w.cell? ⟨g, o, none⟩ = some v0) (h1 : w.cell? ⟨g, o + 1, none⟩ = some v1) (h2 : w.cell? ⟨g, o + 2, none⟩ = some v2) : ∃ x : Tri g o v0 v1 v2, w = x.val := ⟨⟨w, h0, h1, h2⟩, rfl⟩
end
/-- The two of them, apart from each other, from the script and from what stood before. -/
structure Two (w0 : World) (b mb vs : Nat) (es : Es) (vm : Nat) (em : Es) (v : Value) (n : Nat) (cs : List Value) (w : World) (S S2 : List Nat) : Prop where
  t : Tr w b vs es (decs es) S
  m : Rf w mb vm em S2
  sl : SL w 3 v n cs
  apart : ∀ k ∈ S, k ∉ S2
  s : ∀ k ∈ S, w0.heap.size ≤ k ∧ (0 < n → v.ownBlock ≠ some k)
  s2 : ∀ k ∈ S2, w0.heap.size ≤ k ∧ (0 < n → v.ownBlock ≠ some k)
  u : Upd [] w0 w
theorem SL.own_lt {w : World} {v : Value} {n : Nat} {cs : List Value} (h : SL w 3 v n cs) (hn : 0 < n) {k : Nat} (hk : v.ownBlock = some k) : k < w.heap.size := by
  obtain ⟨h1, a, cap, rfl, h2, h3, _, h4⟩ := h
  rcases h4 with h4 | ⟨b, off, rfl, h4⟩
  · omega
  · cases hk
    have : 0 < cs.length := by omega
    exact World.block_lt_of_cell? w _ (h4 0 _ (List.getElem?_eq_getElem this))
theorem SL.zero {w w' : World} {v : Value} {n : Nat} {cs : List Value} (h : SL w 3 v n cs) (hn : ¬ 0 < n) : SL w' 3 v n cs := by
  obtain ⟨h1, a, cap, rfl, h2, h3, h5, h4⟩ := h
  exact ⟨h1, a, cap, rfl, h2, h3, h5, .inl (by omega)⟩
section
variable {w0 w wa w' : World} {b mb vs vm vs' vm' n : Nat} {es em es' em' : Es} {v : Value} {cs : List Value} {S S2 S' S2' : List Nat}
theorem Two.quiet (T : Two w0 b mb vs es vm em v n cs w S S2) (hu : Upd [] w w') : Two w0 b mb vs es vm em v n cs w' S S2 :=
  ⟨T.t.upd hu (by simp), T.m.upd hu (by simp), T.sl.upd hu (by simp), T.apart, T.s, T.s2, T.u.step hu⟩
theorem Two.trail (T : Two w0 b mb vs es vm em v n cs w S S2) (ht : Tr w' b vs' es' (decs es') S') (ut : Upd S w w') (kt : ∀ j ∈ S', j ∈ S ∨ w.heap.size ≤ j) : Two w0 b mb vs' es' vm em v n cs w' S' S2 := by
  have l2 := T.m.lt
  have hz := T.u.size
  refine ⟨ht, T.m.upd ut (fun k hk hk2 => T.apart k hk2 hk), ?_, fun k hk hk2 => ?_, fun k hk => ?_, T.s2, T.u.fresh ut (fun k hk => .inr (T.s k hk).1)⟩
  · by_cases hn : 0 < n
    · exact T.sl.upd ut (fun k hk => (T.s k hk).2 hn)
    · exact SL.zero T.sl hn
  · rcases kt k hk with h | h
    · exact T.apart k h hk2
    · have := l2 k hk2; omega
  · rcases kt k hk with h | h
    · exact T.s k h
    · refine ⟨by omega, fun hn hv => ?_⟩
      have := SL.own_lt T.sl hn hv
      omega
theorem Two.model (T : Two w0 b mb vs es vm em v n cs w S S2) (hm : Rf w' mb vm' em' S2') (ut : Upd S2 w w') (kt : ∀ j ∈ S2', j ∈ S2 ∨ w.heap.size ≤ j) : Two w0 b mb vs es vm' em' v n cs w' S S2' := by
  have l2 := T.t.lt
  have hz := T.u.size
  refine ⟨T.t.upd ut (fun k hk hk2 => T.apart k hk hk2), hm, ?_, fun k hk hk2 => ?_, T.s, fun k hk => ?_, T.u.fresh ut (fun k hk => .inr (T.s2 k hk).1)⟩
  · by_cases hn : 0 < n
    · exact T.sl.upd ut (fun k hk => (T.s2 k hk).2 hn)
    · exact SL.zero T.sl hn
  · rcases kt k hk2 with h | h
    · exact T.apart k hk h
    · have := l2 k hk; omega
  · rcases kt k hk with h | h
    · exact T.s2 k h
    · refine ⟨by omega, fun hn hv => ?_⟩
      have := SL.own_lt T.sl hn hv
      omega
end
theorem SL.form_ {w : World} {k : Nat} {v : Value} {n : Nat} {cs : List Value} (h : SL w k v n cs) :
    ∃ a cap, v = .slice a n cap ∧ n ≤ cap ∧ cap ≤ 9223372036854775807 ∧ (0 < n → ∃ g off, a = some ⟨g, off, none⟩) := by
  obtain ⟨h1, a, cap, rfl, h2, h3, _, h4⟩ := h
  refine ⟨a, cap, rfl, h2, h3, fun hn => ?_⟩
  rcases h4 with h4 | ⟨b, off, rfl, h4⟩
  · omega
  · exact ⟨b, off, rfl⟩
theorem SL.at_ {w : World} {k g off cap n : Nat} {cs : List Value} (h : SL w k (.slice (some ⟨g, off, none⟩) n cap) n cs) (hn : 0 < n) {j : Nat} {u : Value} (hj : cs[j]? = some u) : w.cell? ⟨g, off + j, none⟩ = some u := by
  obtain ⟨h1, a, cap, he, h2, h3, _, h4⟩ := h
  cases he
  rcases h4 with h4 | ⟨b, off, he, h4⟩
  · omega
  · cases he; exact h4 j u hj
theorem op_at {w : World} {g off cap : Nat} {ops : List Op3} (h : SL w 3 (.slice (some ⟨g, off, none⟩) ops.length cap) ops.length (opCells ops)) {i : Nat} (hi : i < ops.length) :
    w.cell? ⟨g, off + i * 3, none⟩ = some (.int .i64 ops[i].1) ∧ w.cell? ⟨g, off + i * 3 + 1, none⟩ = some (.int .i64 ops[i].2.1) ∧ w.cell? ⟨g, off + i * 3 + 2, none⟩ = some (.int .i64 ops[i].2.2) := by
  have hn : 0 < ops.length := by omega
  have e : ops.getD i (0, 0, 0) = ops[i] := by simp [hi]
  have h0 : (opCells ops)[i * 3 + 0]? = some (.int .i64 ops[i].1) := by unfold opCells; rw [rows_get (k := 3) (f := opRow ops) (j := 0) (fun _ => rfl) (by omega) hi]; simp [opRow, hi]
  have h1 : (opCells ops)[i * 3 + 1]? = some (.int .i64 ops[i].2.1) := by unfold opCells; rw [rows_get (k := 3) (f := opRow ops) (j := 1) (fun _ => rfl) (by omega) hi]; simp [opRow, hi]
  have h2 : (opCells ops)[i * 3 + 2]? = some (.int .i64 ops[i].2.2) := by unfold opCells; rw [rows_get (k := 3) (f := opRow ops) (j := 2) (fun _ => rfl) (by omega) hi]; simp [opRow, hi]
  exact ⟨SL.at_ h hn h0, SL.at_ h hn h1, SL.at_ h hn h2⟩
theorem Rf.start {w : World} (n : Nat) (hn : n ≤ 4194304) : Rf (w.alloc (.cells #[.int .i64 n, .slice none 0 0, .slice none 0 0, .slice none 0 0] 30)) w.heap.size n [] [w.heap.size] := by
  refine ⟨⟨hn, by simp, by simp, by simp⟩, _, _, _, ?_, Blk.new w [.int .i64 n, .slice none 0 0, .slice none 0 0, .slice none 0 0] 30, World.ownsRow_nil _ _ _ _, World.ownsRow_nil _ _ _ _, World.ownsRow_nil _ _ _ _, ?_, ?_, ?_⟩ <;> simp [Value.ownBlock]
section
variable {w : World}
set_option maxRecDepth 100000 in
set_option maxHeartbeats 2000000 in
theorem TrailRuns_calls {lv : Value} {xs : List Int} (hx : ∀ x ∈ xs, IsI64 x) (hl : SL w 1 lv xs.length (ints xs)) (vars n : Int) (hv : IsI64 vars) (hn : IsI64 n) :
    Calls Try.prog 3 #[lv, .int .i64 vars, .int .i64 n] w fun e w' => e = .returned (.bool true) ∧ Upd [] w w' := by
  have ha0 := around_lo (n := vars) (k := 9) (by omega)
  have ha1 := around_hi (n := vars) (k := 9) (by omega)
  have hb0 := around_lo (n := n) (k := 99) (by omega)
  have hb1 := around_hi (n := n) (k := 99) (by omega)
  obtain ⟨K, hK⟩ := Int.eq_ofNat_of_zero_le ha0
  have hK9 : K < 9 := by omega
  have HX := Lib.hid (And.intro hx hl)
  clear hx hl
  go_enter Try.func3, Try.ntmps3
  go_wp2_with fail
  refine (Around_calls vars 9 _ hv (by omega) (by omega)).mono ?_
  rintro e _ ⟨rfl, rfl⟩
  rw [hK]
  go_wp2_with fail
  refine (New_calls K _ (by omega)).mono ?_
  rintro e w1 ⟨b, S, rfl, h1, u1, k1⟩
  have m2 := Rf.start (w := w1) K (by omega)
  have u2 := (Upd.refl [] w1).alloc (.cells #[.int .i64 K, .slice none 0 0, .slice none 0 0, .slice none 0 0] 30)
  go_wp2_with fail
  generalize hw2 : w1.alloc (.cells #[.int .i64 K, .slice none 0 0, .slice none 0 0, .slice none 0 0] 30) = w2 at *
  have sw2 : w1.heap.size < w2.heap.size := by rw [← hw2]; simp
  have HW := Lib.hid hw2
  clear hw2
  have U2 := u1.step u2
  have SC := Script_calls HX.out.1 (HX.out.2.upd U2 (by simp)) K 24 (by omega) (by omega)
  rw [show ((24 : Nat) : Int) = 24 from rfl] at SC
  refine SC.mono ?_
  rintro e w3 ⟨v, ops, rfl, s3, ok, h24, u3, vb⟩
  have lt1 := h1.lt
  have T3 : Two w b w1.heap.size K [] K [] v ops.length (opCells ops) w3 S [w1.heap.size] := by
    refine ⟨(h1.upd (T := []) (u2.step u3) (by simp)), m2.upd u3 (by simp), s3, ?_, ?_, ?_, U2.step u3⟩
    · intro k hk hk2
      have := lt1 k hk
      simp at hk2
      omega
    · intro k hk
      have l1 := lt1 k hk
      have l2 := k1 k hk
      refine ⟨l2, fun _ hs => ?_⟩
      have := vb k hs
      omega
    · intro k hk
      simp at hk
      subst hk
      refine ⟨by have := u1.size; omega, fun _ hs => ?_⟩
      have := vb _ hs
      omega
  clear vb lt1 h1 m2 u1 k1 u2 u3 U2 SC sw2 HW
  generalize w1.heap.size = mb at *
  obtain ⟨a, cap, rfl, q1, r1, hc⟩ := SL.form_ s3
  have HO := Lib.hid ok
  clear ok
  have HI := Lib.hid T3
  clear s3 T3
  go_wp2_with fail
  go_loopw [12] (fun i wr => ∃ (k : Nat) (vs : Nat) (es : Es) (S S2 : List Nat), i = .int .i64 k ∧ k ≤ ops.length ∧ Two w b mb vs es vs es (.slice a ops.length cap) ops.length (opCells ops) wr S S2) (fun i _ => ops.length - (intOf i).toNat)
  case atStart => exact ⟨0, K, [], S, _, rfl, Nat.zero_le _, HI.out⟩
  case round =>
    clear HI
    obtain ⟨k, vs, es, S, S2, rfl, hk, T⟩ := hrel
    by_cases hlt : k < ops.length
    · obtain ⟨g, off, rfl⟩ := hc (by omega)
      obtain ⟨c0, c1, c2⟩ := op_at T.sl hlt
      have oki := HO.out _ (List.getElem_mem hlt)
      obtain ⟨⟨kk, nn, mm⟩, hop⟩ : ∃ op, ops[k] = op := ⟨_, rfl⟩
      rw [hop] at c0 c1 c2 oki
      simp only at c0 c1 c2
      have ne : Nonempty (Tri g (off + k * 3) (.int .i64 kk) (.int .i64 nn) (.int .i64 mm)) := ⟨⟨wr, c0, c1, c2⟩⟩
      have HT := Lib.hid T
      clear T
      go_upto_region 10 with fail
      refine wp_region_ord 11 2 [0,1,2,3,4,6,7,8,9,10,12,13,14,15,17,18] [4,10] [0,1,2,3,4,6,7,8,9,10,5,11,12,13,14,15,16,17,18] (fun w' => ∃ x : Tri g (off + k * 3) (.int .i64 kk) (.int .i64 nn) (.int .i64 mm), w' = x.val) (by kernel_rfl) (by kernel_rfl) (Tri.of c0 c1 c2) ?_
      repeat (first | (refine wpOrd_load rfl rfl rfl rfl (fun K hK => ?_); go_big_quiet_step (fail); refine wpQuiet_nil ?_; refine hK _ ?_; clear hK K) | (refine wpOrd_free rfl rfl rfl (fun K hK => ?_); go_big_quiet_step (fail); refine wpQuiet_nil ?_; refine hK _ ?_; clear hK K))
      refine wpOrd_fix rfl rfl (fun K hK => ?_)
      go_wp2_with (go_at_call 12; refine (do_calls (HT.out.t.upd (T := []) (by iterate 25 (first | exact Upd.refl _ _ | assumption | refine Upd.alloc ?_ _ | refine Upd.drew ?_ | refine Upd.drewN ?_ _ | refine Upd.dl ?_ | refine Upd.step ?_ (Ext.upd _) | refine Upd.nil ?_ | skip)) (by simp)) kk nn mm oki.2).mono ?_; rintro e w4 ⟨rfl, S', ht, ut, kt⟩)
      have T4 := (HT.out.quiet (by iterate 25 (first | exact Upd.refl _ _ | assumption | refine Upd.alloc ?_ _ | refine Upd.drew ?_ | refine Upd.drewN ?_ _ | refine Upd.dl ?_ | refine Upd.step ?_ (Ext.upd _) | refine Upd.nil ?_ | skip))).trail ht ut kt
      clear ht ut kt HT
      obtain ⟨c0', c1', c2'⟩ := op_at T4.sl hlt
      rw [hop] at c0' c1' c2'
      refine ⟨fun _ => Tri.of c0' c1' c2', ?_⟩
      repeat (first | (refine wpOrd_load rfl rfl rfl rfl (fun K hK => ?_); go_big_quiet_step (fail); refine wpQuiet_nil ?_; refine hK _ ?_; clear hK K) | (refine wpOrd_free rfl rfl rfl (fun K hK => ?_); go_big_quiet_step (fail); refine wpQuiet_nil ?_; refine hK _ ?_; clear hK K))
      refine wpOrd_fix rfl rfl (fun K hK => ?_)
      go_wp2_with (go_at_call 13; refine (Do_calls T4.m kk nn mm oki.1 oki.2).mono ?_; rintro e w5 ⟨rfl, S2', hm, um, km⟩)
      have T5 := T4.model hm um km
      clear hm um km T4
      generalize opErr vs es kk nn mm = er at *
      have HT := Lib.hid T5
      clear T5
      refine ⟨fun hC => absurd hC (by decide), ?_⟩
      repeat (first | (refine wpOrd_load rfl rfl rfl rfl (fun K hK => ?_); go_big_quiet_step (fail); refine wpQuiet_nil ?_; refine hK _ ?_; clear hK K) | (refine wpOrd_free rfl rfl rfl (fun K hK => ?_); go_big_quiet_step (fail); refine wpQuiet_nil ?_; refine hK _ ?_; clear hK K))
      refine wpOrd_fix rfl rfl (fun K hK => ?_)
      go_wp2_with (go_at_call 14; refine (like_calls HT.out.t HT.out.m).mono ?_; rintro e w6 ⟨rfl, u6⟩)
      refine ⟨fun hC => absurd hC (by decide), ?_⟩
      repeat (first | (refine wpOrd_load rfl rfl rfl rfl (fun K hK => ?_); go_big_quiet_step (fail); refine wpQuiet_nil ?_; refine hK _ ?_; clear hK K) | (refine wpOrd_free rfl rfl rfl (fun K hK => ?_); go_big_quiet_step (fail); refine wpQuiet_nil ?_; refine hK _ ?_; clear hK K))
      refine wpOrd_nil ?_
      have T6 := HT.out.quiet u6
      go_wp2_with fail
      refine ⟨⟨k + 1, _, _, _, _, by simp, by omega, T6⟩, by simp [intOf]; omega⟩
    · have HT := Lib.hid T
      clear T HO hc
      go_wp2_with fail
      refine (Around_calls n 99 _ hn (by omega) (by omega)).mono ?_
      rintro e _ ⟨rfl, rfl⟩
      generalize hq : around n 99 = q at *
      go_wp2_with fail
      refine (New_bad (-1 - q) _ (by omega)).mono ?_
      rintro e _ ⟨rfl, rfl⟩
      go_wp2_with fail
      refine (Around_calls n 99 _ hn (by omega) (by omega)).mono ?_
      rintro e _ ⟨rfl, rfl⟩
      rw [hq]
      go_wp2_with fail
      refine (New_bad (4194305 + q) _ (by omega)).mono ?_
      rintro e _ ⟨rfl, rfl⟩
      go_wp2_with fail
      refine (Grow_bad HT.out.t 4194305 (by omega)).mono ?_
      rintro e _ ⟨rfl, rfl⟩
      go_wp2_with fail
      refine (Trail.Value_calls HT.out.t n).mono ?_
      rintro e w4 ⟨rfl, u4⟩
      have T4 := HT.out.quiet u4
      have HT4 := Lib.hid T4
      clear T4 u4 HT
      go_wp2_with fail
      refine (Ref.Value_calls HT4.out.m n hn).mono ?_
      rintro e _ ⟨rfl, rfl⟩
      go_wp2_with fail
      refine (lives_calls).mono ?_
      rintro e w5 ⟨rfl, u5⟩
      go_wp2_with fail
      go_ret
      exact ⟨rfl, HT4.out.u.step u5⟩
end
end Law
end Go.Proofs.Ytlfcabmbakjklaa
