/- Walks through the laws of trails: TrailBack. Conditions: none. -/
import Derived.Test.YtlfcabmbakjklaaMade
import Derived.Test.YtlfcabmbakjklaaEnc
import Derived.Test.YtlfcabmbakjklaaSameB
import Derived.Test.YtlfcabmbakjklaaLevels
set_option linter.unusedVariables false
set_option linter.unusedSimpArgs false
set_option linter.unusedSectionVars false
open Go.RowKit
namespace Go.Proofs.Ytlfcabmbakjklaa
open L
namespace Law
open Trail Ref R01 Script Wire
/-- The trail es grown out of es0; beg: a decision came first. -/
def Grown (es0 : Es) (beg : Bool) (es : Es) : Prop := ∃ ext, es = es0 ++ ext ∧ (beg = true → ∃ x r, ext = x :: r ∧ x.2 = -1) ∧ (beg = false → ext = [])
theorem lev_pre {es0 ext : Es} {i : Nat} (hi : i < es0.length) : (lev (es0 ++ ext) i : Int) ≤ decs es0 := by
  rw [lev_append ext hi]
  have := lev_le es0 i
  omega
theorem lev_first {es0 r : Es} {x : Int × Int} (hx : x.2 = -1) : lev (es0 ++ x :: r) es0.length = decs es0 + 1 := by
  unfold lev
  rw [List.take_append, show es0.length + 1 - es0.length = 1 by omega, decs_append, List.take_of_length_le (by omega)]
  congr 1
  simp [decs, hx]
/-- Taking back to the old level leaves the old trail. -/
theorem grown_back {es0 es : Es} {beg : Bool} (h : Grown es0 beg es) : es.take (undoN es (decs es0)) = es0 ∧ (decs es0 : Int) ≤ decs es := by
  obtain ⟨ext, rfl, h1, h2⟩ := h
  have hd := decs_append es0 ext
  refine ⟨?_, by omega⟩
  have hn : undoN (es0 ++ ext) (decs es0) = es0.length := by
    refine undoN_eq (by simp) (fun i hi => lev_pre hi) (fun hlt => ?_)
    cases hb : beg with
    | false => rw [h2 hb] at hlt; simp at hlt
    | true =>
      obtain ⟨x, r, rfl, hx⟩ := h1 hb
      rw [lev_first hx]; omega
  rw [hn, List.take_left]
/-- What is passed over. -/
def skips (L : Int) (beg : Bool) (k n : Int) : Bool := (k == 2 && decide (n ≤ L)) || k == 3 || k == 4 || (k == 1 && !beg)
theorem undoN_ge {es : Es} {level : Int} {m : Nat} (hm : m ≤ es.length) (h : ∀ i, i < m → (lev es i : Int) ≤ level) : m ≤ undoN es level := by
  unfold undoN
  cases hf : (List.range es.length).find? fun i => decide (level < (lev es i : Int)) with
  | none => simpa using hm
  | some i =>
    have hp := List.find?_some hf
    simp at hp
    simp only [Option.getD_some]
    rcases Nat.lt_or_ge i m with hlt | hge
    · have := h i hlt; omega
    · exact hge
theorem grown_put {es0 es : Es} {beg : Bool} {vs : Nat} {n m : Int} (h : Grown es0 beg es) (hb : beg = true ∨ m = -1) : Grown es0 (beg || decide (m = -1 ∧ putErr vs es n m = 0)) (putEs vs es n m) := by
  obtain ⟨ext, rfl, h1, h2⟩ := h
  unfold putEs
  by_cases hp : putErr vs (es0 ++ ext) n m = 0
  · rw [if_pos hp]
    refine ⟨ext ++ [(n, m)], by simp, fun _ => ?_, fun hf => ?_⟩
    · cases hbe : beg with
      | true =>
        obtain ⟨x, r, rfl, hx⟩ := h1 hbe
        exact ⟨x, r ++ [(n, m)], by simp, hx⟩
      | false =>
        rw [h2 hbe]
        rcases hb with hb | hb
        · rw [hbe] at hb; cases hb
        · exact ⟨(n, m), [], rfl, hb⟩
    · rcases hb with hb | hb
      · rw [hb] at hf; cases hf
      · simp [hb] at hf
        rw [hb] at hp
        exact absurd hp hf.2
  · rw [if_neg hp]
    refine ⟨ext, rfl, fun hf => ?_, fun hf => ?_⟩
    · simp [hp] at hf; exact h1 hf
    · simp [hp] at hf; exact h2 hf
theorem grown_step {es0 es : Es} {beg : Bool} {vs : Nat} {k n m : Int} (h : Grown es0 beg es) (hk : 0 ≤ k ∧ k ≤ 4) (hs : skips (decs es0) beg k n = false) :
    Grown es0 (beg || decide (k = 0 ∧ opErr vs es k n m = 0)) (opEs vs es k n m) ∧ opVars vs k n = vs := by
  rcases (by omega : k = 0 ∨ k = 1 ∨ k = 2 ∨ k = 3 ∨ k = 4) with rfl | rfl | rfl | rfl | rfl
  · have := grown_put (vs := vs) (n := n) h (.inr (rfl : (-1 : Int) = -1))
    refine ⟨?_, by simp [opVars]⟩
    simp only [opErr, opEs, if_true]
    simpa using this
  · have hb : beg = true := by simpa [skips] using hs
    refine ⟨?_, by simp [opVars]⟩
    subst hb
    have hz : (true || decide ((1 : Int) = 0 ∧ opErr vs es 1 n m = 0)) = true := rfl
    rw [hz]
    simp only [opEs, Int.reduceEq, if_false, if_true]
    by_cases hm : m < 0
    · rw [if_pos hm]; exact h
    · rw [if_neg hm]
      have := grown_put (vs := vs) (n := n) (m := m) h (.inl rfl)
      simpa using this
  · refine ⟨?_, by simp [opVars]⟩
    have hn : (decs es0 : Int) < n := by simp [skips] at hs; exact hs
    have hz : (beg || decide ((2 : Int) = 0 ∧ opErr vs es 2 n m = 0)) = beg := by simp
    rw [hz]
    simp only [opEs, Int.reduceEq, if_false, if_true]
    split
    · exact h
    · rename_i hc
      obtain ⟨ext, rfl, h1, h2⟩ := h
      have hd := decs_append es0 ext
      cases hbe : beg with
      | false =>
        rw [h2 hbe] at hd hc
        simp [decs] at hd
        rw [List.append_nil] at hc
        omega
      | true =>
        obtain ⟨x, r, rfl, hx⟩ := h1 hbe
        have hge : es0.length + 1 ≤ undoN (es0 ++ x :: r) n := by
          refine undoN_ge (by simp) (fun i hi => ?_)
          rcases Nat.lt_or_ge i es0.length with h | h
          · have := lev_pre (ext := x :: r) h; omega
          · obtain rfl : i = es0.length := by omega
            rw [lev_first hx]; omega
        obtain ⟨d, hd⟩ : ∃ d, undoN (es0 ++ x :: r) n = es0.length + 1 + d := ⟨_, (Nat.add_sub_cancel' hge).symm⟩
        rw [hd]
        refine ⟨x :: r.take d, ?_, fun _ => ⟨x, _, rfl, hx⟩, fun hf => by cases hf⟩
        rw [List.take_append, List.take_of_length_le (by omega), show es0.length + 1 + d - es0.length = d + 1 by omega, List.take_succ_cons]
  · simp [skips] at hs
  · simp [skips] at hs
section
variable {w : World}
set_option maxRecDepth 100000 in
set_option maxHeartbeats 4000000 in
theorem TrailBack_calls {lv mv : Value} {xs ms : List Int} (hx : ∀ x ∈ xs, IsI64 x) (hl : SL w 1 lv xs.length (ints xs)) (hmx : ∀ x ∈ ms, IsI64 x) (hml : SL w 1 mv ms.length (ints ms)) (vars : Int) (hv : IsI64 vars) :
    Calls Try.prog 7 #[lv, mv, .int .i64 vars] w fun e w' => e = .returned (.bool true) ∧ Upd [] w w' := by
  have ha0 := around_lo (n := vars) (k := 9) (by omega)
  have ha1 := around_hi (n := vars) (k := 9) (by omega)
  obtain ⟨K, hK⟩ := Int.eq_ofNat_of_zero_le ha0
  have hK9 : K < 9 := by omega
  have HX := Lib.hid (And.intro hx (And.intro hl (And.intro hmx hml)))
  clear hx hl hmx hml
  have HK1 := Lib.hid (show (1 : Int) + (K : Int) = ((K + 1 : Nat) : Int) by omega)
  go_enter Try.func7, Try.ntmps7
  go_wp2_with fail
  refine (Around_calls vars 9 _ hv (by omega) (by omega)).mono ?_
  rintro e _ ⟨rfl, rfl⟩
  rw [hK]
  go_wp2_with fail
  rw [HK1.out]
  refine (made_calls HX.out.1 HX.out.2.1 (K + 1) (by omega)).mono ?_
  rintro e w1 ⟨b, mb, vs, es0, S, S2, rfl, P, hvs20⟩
  go_wp2_with fail
  refine (Encode_calls P.t).mono ?_
  rintro e w2 ⟨a2, cap2, rfl, o2, u2⟩
  have P2 := P.quiet u2
  have hvs := P.m.wf.max
  have c0 := (Rf.cell0 P2.m).1
  have lt1 := P.t.lt
  have HP := Lib.hid (And.intro P2 (And.intro o2 lt1))
  have HP1 := Lib.hid P.u.size
  clear P P2 o2 lt1
  have hd0 := HP.out.1.t.wf.len
  have hd1 := decs_le es0
  go_wp2_with fail
  refine (Now_calls HP.out.1.t).mono ?_
  rintro e _ ⟨rfl, rfl⟩
  go_wp2_with fail
  have SC := Script_callsN HX.out.2.2.1 (HX.out.2.2.2.upd HP.out.1.u (by simp)) vs 16 (by omega) (by omega)
  rw [show ((16 : Nat) : Int) = 16 from rfl] at SC
  refine SC.mono ?_
  rintro e w3 ⟨v, ops, rfl, s3, ok, h24, u3, vb⟩
  clear SC
  have T3 : One w b vs es0 v ops.length (opCells ops) w3 S := by
    refine ⟨(HP.out.1.t.upd u3 (by simp)), s3, ?_, HP.out.1.u.step u3⟩
    intro k hk
    refine ⟨HP.out.1.s k hk, fun _ hs => ?_⟩
    have h1 := vb k hs
    have h2 := HP.out.2.2 k hk
    have h3 := u2.size
    omega
  have oS : ∀ j ∈ S, (Value.slice a2 (eb vs es0).length cap2).ownBlock ≠ some j := by
    intro j hj hs
    have h1 := HP.out.2.1.fresh j hs
    have h2 := HP.out.2.2 j hj
    omega
  have o3 := HP.out.2.1.upd u3 (by simp)
  obtain ⟨a, cap, rfl, q1, r1, hc⟩ := SL.form_ s3
  have HO := Lib.hid ok
  have HI := Lib.hid (And.intro T3 (And.intro o3 oS))
  clear vb u3 s3 T3 o3 oS ok
  go_wp2_with fail
  go_loopw [11, 13] (fun bg i wr => ∃ (k : Nat) (es : Es) (beg : Bool) (S : List Nat), i = .int .i64 k ∧ bg = .bool beg ∧ k ≤ ops.length ∧ Grown es0 beg es ∧ One w b vs es (.slice a ops.length cap) ops.length (opCells ops) wr S ∧
    OwnV w1 5 1 (.slice a2 (eb vs es0).length cap2) (eb vs es0).length (byts (eb vs es0)) wr ∧ ∀ j ∈ S, (Value.slice a2 (eb vs es0).length cap2).ownBlock ≠ some j) (fun _ i _ => ops.length - (intOf i).toNat)
  case atStart => exact ⟨0, es0, false, S, rfl, rfl, Nat.zero_le _, ⟨[], by simp, by simp, by simp⟩, HI.out.1, HI.out.2.1, HI.out.2.2⟩
  case round =>
    clear HI
    obtain ⟨k, es, beg, S, rfl, rfl, hk, hG, T, hold, hS⟩ := hrel
    have HT := Lib.hid (And.intro T (And.intro hold (And.intro hS hG)))
    clear hold hS hG
    by_cases hlt : k < ops.length
    · obtain ⟨g, off, rfl⟩ := hc (by omega)
      obtain ⟨c0, c1, c2⟩ := op_at T.sl hlt
      have oki := HO.out _ (List.getElem_mem hlt)
      obtain ⟨⟨kk, nn, mm⟩, hop⟩ : ∃ op, ops[k] = op := ⟨_, rfl⟩
      rw [hop] at c0 c1 c2 oki
      simp only at c0 c1 c2
      obtain ⟨⟨_, hmm⟩, _, hk0, hk4⟩ := oki
      simp only at hmm hk0 hk4
      have uA := (Upd.refl [] wr).alloc (.cells #[.int .i64 kk, .int .i64 nn, .int .i64 mm] 35)
      have NB := Blk.new wr [.int .i64 kk, .int .i64 nn, .int .i64 mm] 35
      have f0 := NB.cell (i := 0) rfl
      have f1 := NB.cell (i := 1) rfl
      have f2 := NB.cell (i := 2) rfl
      have gs : wr.heap.size < (wr.alloc (.cells #[.int .i64 kk, .int .i64 nn, .int .i64 mm] 35)).heap.size := by simp
      clear T
      go_upto_region 12 with fail
      generalize wr.alloc (.cells #[.int .i64 kk, .int .i64 nn, .int .i64 mm] 35) = wA at *
      generalize hgq : wr.heap.size = q at *
      have HGQ := Lib.hid hgq
      clear hgq
      go_cut [73] (fun t w' => w' = wA ∧ t = .bool (skips (decs es0) beg kk nn))
      case first =>
        rcases (by omega : kk = 0 ∨ kk = 1 ∨ (kk = 2 ∧ nn ≤ decs es0) ∨ (kk = 2 ∧ ¬ nn ≤ decs es0) ∨ kk = 3 ∨ kk = 4) with rfl | rfl | ⟨rfl, hn⟩ | ⟨rfl, hn⟩ | rfl | rfl
        · go_wp2_with fail
          all_goals go_meet
          all_goals case rel => exact ⟨rfl, by simp [skips]⟩
        · cases beg
          all_goals
            go_wp2_with fail
            go_meet
            case rel => exact ⟨rfl, by simp [skips]⟩
        · go_wp2_with fail
          all_goals go_meet
          all_goals case rel => exact ⟨rfl, by simp [skips, hn]⟩
        · go_wp2_with fail
          all_goals go_meet
          all_goals case rel => exact ⟨rfl, by simp [skips, hn]⟩
        · go_wp2_with fail
          all_goals go_meet
          all_goals case rel => exact ⟨rfl, by simp [skips]⟩
        · go_wp2_with fail
          all_goals go_meet
          all_goals case rel => exact ⟨rfl, by simp [skips]⟩
      case rest =>
      obtain ⟨rfl, rfl⟩ := hcut
      have Tq := HT.out.1.quiet uA
      have hoq := HT.out.2.1.upd uA (by simp)
      have hqS : q ∉ S := fun hm => by have := HT.out.1.t.lt _ hm; have := HGQ.out; omega
      cases hsk : skips (decs es0) beg kk nn with
      | true =>
        have HQ := Lib.hid (And.intro Tq hoq)
        clear Tq hoq hsk uA
        go_wp2_with fail
        exact ⟨⟨k + 1, es, beg, S, by go_num, rfl, by omega, HT.out.2.2.2, HQ.out.1, HQ.out.2, HT.out.2.2.1⟩, by simp [intOf]; omega⟩
      | false =>
        obtain ⟨hG2, hV2⟩ := grown_step (vs := vs) (m := mm) HT.out.2.2.2 ⟨hk0, hk4⟩ hsk
        have HQ := Lib.hid (And.intro Tq (And.intro hoq (And.intro hG2 (And.intro hV2 hqS))))
        clear Tq hoq hsk uA hG2 hV2 hqS
        go_wp2_with (go_at_call 12; refine (do_calls HQ.out.1.t kk nn mm hmm).mono ?_; rintro e w4 ⟨rfl, S', ht, ut, kt⟩; rw [HQ.out.2.2.2.1] at ht; have T4 := HQ.out.1.trail ht ut kt; have f0' := ut.some f0 HQ.out.2.2.2.2; have ho4 := HQ.out.2.1.upd ut HT.out.2.2.1; have HK4 := Lib.hid (And.intro T4 (And.intro ho4 kt)); clear ht ut kt T4 ho4 f0 f1 f2 c0 c1 c2)
        all_goals
          refine ⟨⟨k + 1, _, _, S', by go_num, ?_, by omega, HQ.out.2.2.1, HK4.out.1, HK4.out.2.1, fun j hj hs => ?_⟩, by simp [intOf]; omega⟩
          · clear HQ HK4 HT HP HX
            congr 1
            first | (simp [*]; done) | (rename_i h1 h2; simp only [beq_iff_eq, beq_eq_false_iff_ne, ne_eq] at h2; simp [h1, h2])
          · rcases HK4.out.2.2 j hj with h | h
            · exact HT.out.2.2.1 j h hs
            · have := HQ.out.2.1.lt j hs; omega
    · have hb := grown_back HT.out.2.2.2
      have HB := Lib.hid hb
      have hb2 := hb.2
      have HT1 := Lib.hid T
      clear T HO hc hb
      go_wp2_with fail
      refine (Undo_good HT.out.1.t (decs es0) (by omega) hb2).mono ?_
      rintro e w4 ⟨rfl, t4, u4⟩
      rw [HB.out.1] at t4
      have o4 := HT.out.2.1.upd u4 HT.out.2.2.1
      have HH4 := Lib.hid (And.intro t4 o4)
      have hz : w.heap.size ≤ wr.heap.size := HT.out.1.u.size
      have U4 : Upd [] w w4 := HT.out.1.u.fresh u4 (fun j hj => .inr (HT.out.1.s j hj).1)
      clear t4 o4 u4
      go_wp2_with fail
      refine (Encode_calls HH4.out.1).mono ?_
      rintro e w5 ⟨a5, cap5, rfl, o5, u5⟩
      have HH5 := Lib.hid (And.intro (HH4.out.1.upd u5 (by simp)) (And.intro (HH4.out.2.upd u5 (by simp)) o5))
      have U5 := U4.step u5
      clear o5 u5
      go_wp2_with fail
      refine (SameBytes_calls HH5.out.2.2.sl HH5.out.2.1.sl).mono ?_
      rintro e w6 ⟨rfl, u6⟩
      rw [decide_eq_true rfl]
      have t6 := HH5.out.1.upd u6 (by simp)
      have U6 := U5.step u6
      have HH6 := Lib.hid t6
      clear t6 u6
      go_wp2_with fail
      refine (Clear_calls HH6.out).mono ?_
      rintro e w7 ⟨rfl, t7, u7⟩
      have U7 : Upd [] w w7 := U6.fresh u7 (fun j hj => .inr (HT.out.1.s j hj).1)
      have HH7 := Lib.hid t7
      clear t7 u7
      go_wp2_with fail
      refine (Lits_calls HH7.out).mono ?_
      rintro e w8 ⟨gl, rfl, _, _, u8⟩
      have HH8 := Lib.hid (HH7.out.upd u8 (by simp))
      have U8 := U7.step u8
      clear u8
      go_wp2_with fail
      refine (Now_calls HH8.out).mono ?_
      rintro e _ ⟨rfl, rfl⟩
      go_wp2_with fail
      refine (Undo_good (show Tr w8 b vs [] (decs []) S from HH8.out) 0 (by omega) (by simp [decs])).mono ?_
      rintro e w9 ⟨rfl, t9, u9⟩
      have U9 : Upd [] w w9 := U8.fresh u9 (fun j hj => .inr (HT.out.1.s j hj).1)
      have HH9 := Lib.hid (show Tr w9 b vs [] (decs []) S by rw [show ((decs [] : Nat) : Int) = 0 from rfl]; simpa using t9)
      clear t9 u9
      go_wp2_with fail
      refine (Undo_bad HH9.out 1 (by simp [decs])).mono ?_
      rintro e _ ⟨rfl, rfl⟩
      go_wp2_with fail
      refine (lives_calls).mono ?_
      rintro e w10 ⟨rfl, u10⟩
      go_wp2_with fail
      go_ret
      exact ⟨rfl, U9.step u10⟩
end
end Law
end Go.Proofs.Ytlfcabmbakjklaa
