/- Walks through the reference of learning: the moves of a search. Conditions: none. -/
import Derived.Test.YtdhhohnaehdpkaaLearnM
import Derived.Test.YtdhhohnaehdpkaaRefC
import Derived.Test.YtdhhohnaehdpkaaLearnT
import Derived.Test.YtdhhohnaehdpkaaRefNext
set_option linter.unusedVariables false
set_option linter.unusedSimpArgs false
set_option linter.unusedSectionVars false
open Go.RowKit
namespace Go.Proofs.Ytdhhohnaehdpkaa
open L
namespace Learn
open Trail Ref Cla R01 R14
theorem infoPair : (Try.prog.info? 28).map (fun i => (i.zero, i.size, i.bytes)) = some (some (.agg #[.int .i64 0, .int .i64 0]), 2, 16) := by kernel_rfl
theorem infoBool2 : (Try.prog.info? 4).map (fun i => (i.zero, i.size, i.bytes)) = some (some (.bool false), 1, 1) := by kernel_rfl
/-- A move as cells. -/
def mvs (es : Es) (i : Nat) : List Value := [.int .i64 (at_ es i).1, .int .i64 (at_ es i).2]
theorem mvs_snoc (es : Es) (x : Int × Int) : rows (es ++ [x]).length (mvs (es ++ [x])) = rows es.length (mvs es) ++ [.int .i64 x.1, .int .i64 x.2] := by
  rw [List.length_append, List.length_singleton, rows_succ, rows_congr (g := mvs es) (fun i hi => by unfold mvs; rw [at_append [x] hi])]
  unfold mvs
  rw [at_snoc]
def lenOf : Value → Nat
  | .slice _ n _ => n
  | _ => 0
theorem Rf.start {w : World} (n : Nat) (hn : n ≤ 4194304) : Rf (w.alloc (.cells #[.int .i64 n, .slice none 0 0, .slice none 0 0, .slice none 0 0] 42)) w.heap.size n [] [w.heap.size] := by
  refine ⟨⟨hn, by simp, by simp, by simp⟩, _, _, _, ?_, Blk.new w [.int .i64 n, .slice none 0 0, .slice none 0 0, .slice none 0 0] 42, World.ownsRow_nil _ _ _ _, World.ownsRow_nil _ _ _ _, World.ownsRow_nil _ _ _ _, ?_, ?_, ?_⟩ <;> simp [Value.ownBlock]
theorem fill_set (k m : Nat) : (bools (List.replicate k true ++ List.replicate (m + 1) false)).set k (.bool true) = bools (List.replicate (k + 1) true ++ List.replicate m false) := by
  unfold bools
  rw [List.map_append, List.map_append, List.map_replicate, List.map_replicate, List.map_replicate, List.map_replicate, List.set_append_right _ _ (by simp), List.replicate_succ (n := m), List.replicate_succ' (n := k)]
  simp
theorem fill_get (k m : Nat) : (bools (List.replicate k true ++ List.replicate (m + 1) false))[k]? = some (.bool false) := by
  unfold bools
  rw [List.map_append, List.getElem?_append_right (by simp)]
  simp
theorem put_new {vars : Nat} {es : Es} {x k : Int} (hl : isLit vars x = true) (hp : pos es x.natAbs = 0) (hk : -1 ≤ k) : putEs vars es x k = es ++ [(x, k)] := by
  have : putErr vars es x k = 0 := by unfold putErr; rw [if_pos hl, if_neg (by omega), if_pos hp]
  unfold putEs
  rw [if_pos this]
/-- What stands between two rounds of the search. -/
structure Sr (w : World) (L : List (List Int)) (b gA : Nat) (v : Value) (es : Es) (S : List Nat) (W : World) : Prop where
  mv : Mv L 8 es
  m : Rf W b 8 es S
  s : ∀ k ∈ S, w.heap.size ≤ k
  a : Blk W gA (bools (List.replicate L.length true)) 4
  na : gA ∉ S
  o : OwnV w 28 2 v es.length (rows es.length (mvs es)) W
  os : ∀ q, v.ownBlock = some q → q ∉ S ∧ q ≠ gA
  u : Upd [] w W
section
variable {w : World}
theorem Sr.ext {w W W' : World} {L : List (List Int)} {b gA : Nat} {v : Value} {es : Es} {S : List Nat} (h : Sr w L b gA v es S W) (u : Upd [] W W') : Sr w L b gA v es S W' :=
  ⟨h.mv, h.m.upd u (by simp), h.s, h.a.upd u (by simp), h.na, h.o.upd u (by simp), h.os, h.u.step u⟩
/-- One move more. -/
theorem Sr.move {w W W1 W2 : World} {L : List (List Int)} {b gA g cap : Nat} {v : Value} {es : Es} {S S' : List Nat} {x k : Int} (h : Sr w L b gA v es S W) (hm : Mv L 8 (es ++ [(x, k)]))
    (hR : Rf W1 b 8 (es ++ [(x, k)]) S') (u1 : Upd S W W1) (hS : ∀ q ∈ S', q ∈ S ∨ W.heap.size ≤ q)
    (o : W2.ownsRow 0 28 2 (.slice (some ⟨g, 0, none⟩) (es.length + 1) cap) (es.length + 1) (rows es.length (mvs es) ++ [.int .i64 x, .int .i64 k])) (u2 : Upd v.ownBlock.toList W1 W2) (hk : v.ownBlock = some g ∨ W1.heap.size ≤ g) :
    Sr w L b gA (.slice (some ⟨g, 0, none⟩) (es.length + 1) cap) (es ++ [(x, k)]) S' W2 := by
  have hvl := h.o.lt
  have hz := h.u.size
  have hz1 := u1.size
  have hal := h.a.lt
  have hvS' : ∀ q, v.ownBlock = some q → q ∉ S' := fun q hq hm => by
    rcases hS q hm with h1 | h1
    · exact (h.os q hq).1 h1
    · have := hvl q hq; omega
  have haS' : gA ∉ S' := fun hm => by
    rcases hS _ hm with h1 | h1
    · exact h.na h1
    · omega
  refine ⟨hm, hR.upd u2 (fun q hq hm => hvS' q (by simpa using hm) hq), fun q hq => ?_, (h.a.upd u1 h.na).upd u2 (fun hm => (h.os gA (by simpa using hm)).2 rfl), haS', ?_, fun q hq => ?_, ?_⟩
  · rcases hS q hq with h1 | h1
    · exact h.s q h1
    · omega
  · rw [mvs_snoc]
    have h1 := (h.o.upd u1 (fun q hq e => (h.os q e).1 hq)).push (w' := W2) (by omega) (show W2.ownsRow 0 28 2 _ _ (rows es.length (mvs es) ++ [.int .i64 x, .int .i64 k]) from o) hk
    rw [List.length_append, List.length_singleton]
    exact h1
  · simp only [Value.ownBlock, Option.some.injEq] at hq
    subst hq
    rcases hk with h1 | h1
    · exact ⟨hvS' _ h1, (h.os _ h1).2⟩
    · refine ⟨fun hm => ?_, by omega⟩
      have := hR.lt _ hm
      omega
  · exact (h.u.fresh u1 (fun q hq => .inr (h.s q hq))).fresh u2 (fun q hq => .inr (h.o.fresh q (by simpa using hq)))
def MovesT (L : List (List Int)) (w : World) (e : Ending) (w' : World) : Prop :=
  ∃ v cf, e = .returned (.tuple #[v, .int .i64 cf]) ∧ ∃ es : Es, Mv L 8 es ∧ OwnV w 28 2 v es.length (rows es.length (mvs es)) w' ∧ Upd [] w w' ∧ (cf = -1 ∨ 0 ≤ cf ∧ cf < L.length ∧ ∀ x ∈ L.getD cf.toNat [], tval 8 es x = -1)
set_option maxRecDepth 100000 in
set_option maxHeartbeats 8000000 in
theorem Moves_calls {lv : Value} {L : List (List Int)} (hL : Go.Proofs.Ytdhhohnaehdpkaa.L.CL w lv L) (hl : L.length ≤ 26) (hc : ∀ c ∈ L, validErr c = 0 ∧ (∀ x ∈ c, isLit 8 x = true) ∧ c.length ≤ 3) {ch : Int} (hch : IsI64 ch) :
    Calls Try.prog 32 #[lv, .int .i64 8, .int .i64 ch] w (MovesT L w) := by
  obtain ⟨aL, cL, rfl, q1, q2, _⟩ := hL.form
  have HL := Lib.hid (And.intro hL hc)
  have hL2 : ∀ W, Upd [] w W → Trail.CL W (.slice aL L.length cL) L := fun W u => ⟨(HL.out.1.upd u).ex⟩
  clear hL hc
  go_enter Try.func32, Try.ntmps32
  go_upto_region 2 with fail
  have hR := Rf.start (w := w) 8 (by omega)
  have hbs := hR.lt
  have u0 := (Upd.refl [] w).alloc (.cells #[.int .i64 8, .slice none 0 0, .slice none 0 0, .slice none 0 0] 42)
  have hz0 : (w.alloc (.cells #[.int .i64 8, .slice none 0 0, .slice none 0 0, .slice none 0 0] 42)).heap.size = w.heap.size + 1 := by simp
  generalize hb : w.heap.size = b at *
  generalize hw0 : (w.alloc (.cells #[.int .i64 8, .slice none 0 0, .slice none 0 0, .slice none 0 0] 42)) = w0 at *
  have H0 := Lib.hid (And.intro hR (And.intro u0 (And.intro hz0 hb)))
  clear hR u0 hz0 hw0 hbs
  have hli : (L.length : Int) = (L.length : Nat) := rfl
  refine wp_region_lit ?_
  refine wpList_cutH 2 (fun K hK => ?_)
  simp only [List.take_succ_cons, List.take_zero]
  go_wp2_with fail
  refine Halt_.intro ?_; try simp only [List.drop_succ_cons, List.drop_zero]
  refine wpList_mk rfl _ _ _ rfl 4 1 1 _ Try.underlying64 infoBool2 rfl (by decide) _ _ _ _ L.length rfl rfl rfl rfl (by omega) (by omega) ?_
  have hB := Blk.new w0 (rows L.length fun _ => (Value.bool false).cells.toList) 4
  have u1 := (Upd.refl [] w0).alloc (.cells (rows L.length fun _ => (Value.bool false).cells.toList).toArray 4)
  generalize hgA : w0.heap.size = gA at *
  generalize w0.alloc (.cells (rows L.length fun _ => (Value.bool false).cells.toList).toArray 4) = w1 at *
  have hB' : Blk w1 gA (bools (List.replicate 0 true ++ List.replicate L.length false)) 4 := by
    have e : (rows L.length fun _ => (Value.bool false).cells.toList) = bools (List.replicate 0 true ++ List.replicate L.length false) := by
      show rows L.length (fun _ => [.bool false]) = _
      rw [rows_one]
      unfold bools
      simp
    rwa [e] at hB
  have H1 := Lib.hid (And.intro hB' (And.intro u1 hgA))
  clear hB hB' u1 hli
  go_wp2_with fail
  go_loopw [10] (fun i wr => ∃ k : Nat, i = .int .i64 k ∧ k ≤ L.length ∧ Blk wr gA (bools (List.replicate k true ++ List.replicate (L.length - k) false)) 4 ∧ Upd [gA] w1 wr) (fun i _ => L.length - (numOf i).toNat)
  case atStart => exact ⟨0, rfl, Nat.zero_le _, H1.out.1, Upd.refl _ _⟩
  case round =>
    obtain ⟨wo, rfl⟩ : ∃ wo : World, wo = wr := ⟨_, rfl⟩
    obtain ⟨k, rfl, hk, hB, hU⟩ := hrel
    by_cases hlt : k < L.length
    · have hki : (k : Int) < L.length := by omega
      obtain ⟨m, hm⟩ : ∃ m, L.length - k = m + 1 := ⟨L.length - k - 1, by omega⟩
      rw [hm] at hB
      have e0 := hB.cell (i := k) (fill_get k m)
      have f0 := hB.free k
      have hB2 := hB.set k (.bool true)
      rw [fill_set] at hB2
      have us : Upd [gA] w1 (wo.setCell ⟨gA, k, none⟩ (.bool true)) := hU.set (.inl (by simp)) _
      have HX := Lib.hid (And.intro hB2 us)
      have HM := Lib.hid (show L.length - (k + 1) = m by omega)
      clear hB hB2 us hU hm
      go_wp2_with fail
      exact ⟨⟨k + 1, by go_num, by omega, by rw [HM.out]; exact HX.out.1, HX.out.2⟩, by simp [numOf]; omega⟩
    · have hki : ¬ (k : Int) < L.length := by omega
      have hS0 : Sr w L b gA (.slice none 0 0) [] [b] wo := by
        have hb0 : b < w0.heap.size := H0.out.1.lt b (by simp)
        have ux : Upd [gA] w0 wo := (H1.out.2.1.wide (by simp)).trans hU
        refine ⟨Mv.nil L (by omega), H0.out.1.upd ux (by simp; have := H1.out.2.2; omega), by simp; have := H0.out.2.2.2; omega, ?_, by simp; have := H1.out.2.2; omega, OwnV.nil _ _ _ _, by simp [Value.ownBlock], ?_⟩
        · rw [show L.length - k = 0 by omega, show k = L.length by omega, List.replicate_zero, List.append_nil] at hB
          exact hB
        · exact H0.out.2.1.fresh ux (fun q hq => .inr (by simp at hq; have := H1.out.2.2; have := H0.out.2.2.1; omega))
      have HS0 := Lib.hid hS0
      clear hS0 hB hU H0 H1
      go_upto_region 7 with fail
      clear hlt hki hk
      go_wp2_with fail
      go_loopw [11] (fun ov wr => ∃ (v : Value) (es : Es) (S : List Nat), v = ov ∧ Sr w L b gA v es S wr) (fun ov _ => 9 - lenOf ov)
      case atStart => exact ⟨_, [], _, rfl, HS0.out⟩
      case round =>
        obtain ⟨wz, rfl⟩ : ∃ wz : World, wz = wr := ⟨_, rfl⟩
        obtain ⟨ov, es, S, rfl, hS⟩ := hrel
        have HSZ := Lib.hid hS
        have hes8 := hS.mv.wf.len
        have hes8i : (es.length : Int) ≤ 8 := by omega
        have hlo : lenOf ov = es.length := by
          obtain ⟨_, _, _, rfl, _⟩ := hS.o.sl
          rfl
        obtain ⟨al, cl, _, _, _, _, c1, _, _, _⟩ := hS.m.rows
        have HCL := hL2 wz hS.u
        have hnr := next_res (vs := 8) (es := es) (cs := L) (al := List.replicate L.length true) (by simp) (fun c h => (HL.out.2 c h).2.1)
        have HNX0 := Ref.Next_calls hS.m (lv := .slice aL L.length cL) (av := .slice (some ⟨gA, 0, none⟩) L.length L.length) HCL (by
          have h1 := SL.of_blk (k := 1) (n := L.length) (cap := L.length) (xs := bools (List.replicate L.length true)) (pad := []) (by simpa using hS.a) (by simp [bools]) (Nat.le_refl _) (by unfold maxLen; omega)
          rw [show (List.replicate L.length true).length = L.length by simp]
          exact h1) (fun c h => ⟨by have := (HL.out.2 c h).2.2; omega, fun x hx => by
            have h1 := (HL.out.2 c h).2.1 x hx
            unfold isLit at h1
            simp only [decide_eq_true_eq] at h1
            exact ⟨by omega, by omega⟩⟩)
        rw [hnr] at HNX0
        clear hS hnr
        rcases next_spec (vs := 8) (es := es) L (List.replicate L.length true) 0 (by simp) (fun a ha => List.eq_of_mem_replicate ha) with ⟨hn, hno⟩ | ⟨j, c, x, hj, hcx, hn⟩
        · rw [hn] at HNX0
          have HNX := Lib.hid HNX0
          clear HNX0 hn hno
          have HCA := Lib.hid (fun W : World => Around_calls ch 1048576 W hch (by omega) (by omega))
          go_upto_block 4 with (go_at_call 65; (with_reducible refine HNX.out.mono ?_); rintro e w2 ⟨rfl, u2⟩)
          have HSY := Lib.hid (HSZ.out.ext u2)
          clear HNX u2 c1 HSZ HCL
          go_wp2_with fail
          go_loopw [15] (fun i wr => ∃ o : Nat, i = .int .i64 o ∧ 1 ≤ o ∧ o ≤ 9 ∧ wr = w2) (fun i _ => 10 - (numOf i).toNat)
          case atStart => exact ⟨1, rfl, by omega, by omega, rfl⟩
          case round =>
            obtain ⟨o, rfl, ho1, ho9, rfl⟩ := hrel
            by_cases ho8 : o ≤ 8
            · have hoi : (o : Int) ≤ 8 := by omega
              have hol : isLit 8 (o : Int) = true := by unfold isLit; simp; omega
              have HV := Lib.hid (Ref.Value_calls HSY.out.m (o : Int) ⟨by omega, by omega⟩)
              by_cases ht : tval 8 es (o : Int) = 0
              · have e1 : (tval 8 es (o : Int) != 0) = false := by rw [ht]; rfl
                have HP := Lib.hid (And.intro hol ((tval_zero hol).1 ht))
                clear hol
                generalize tval 8 es (o : Int) = tv at *
                clear ht
                go_upto_if 82 with (first | (go_at_call 43; (with_reducible refine HV.out.mono ?_); rintro e w3 ⟨rfl, rfl⟩) | (go_at_call 10; (with_reducible refine (HCA.out _).mono ?_); rintro e _ ⟨rfl, rfl⟩))
                go_cut [12] (fun t w' => (t = .int .i64 (o : Int) ∨ t = .int .i64 (-(o : Int))) ∧ w' = wr)
                case first =>
                  clear HSY HV HCA HP HL hL2
                  go_wp2_with fail
                  all_goals go_meet
                  all_goals first
                    | exact ⟨.inl rfl, rfl⟩
                    | exact ⟨.inr rfl, rfl⟩
                case rest =>
                  obtain ⟨hlit, rfl⟩ := hcut
                  rcases hlit with rfl | rfl
                  ·
                    have hml : Mv L 8 (es ++ [((o : Int), -1)]) ∧ isLit 8 ((o : Int)) = true ∧ pos es ((o : Int) : Int).natAbs = 0 := by
                      have h1 : isLit 8 ((o : Int)) = true := by unfold isLit; simp; omega
                      have h2 : pos es ((o : Int) : Int).natAbs = 0 := by simpa using HP.out.2
                      exact ⟨HSY.out.mv.decide h1 h2, h1, h2⟩
                    have HML := Lib.hid hml
                    have HSZ := HSY
                    clear hml HSY HV HCA
                    have HPT := Lib.hid (Put_calls HSZ.out.m ((o : Int)) (-1) (by omega) ⟨by omega, by omega⟩)
                    have HPN := Lib.hid (put_new (es := es) (x := (o : Int)) (k := -1) HML.out.2.1 HML.out.2.2 (by omega))
                    rw [HPN.out] at HPT
                    go_upto_region 24 with (go_at_call 24; (with_reducible refine HPT.out.mono ?_); rintro e w5 ⟨rfl, S5, hR5, u5, hS5⟩)
                    have hrow5 := HSZ.out.o.upd u5 (fun q hq e => (HSZ.out.os q e).1 hq)
                    refine wp_region_lit ?_
                    refine wpList_cutH 4 (fun K hK => ?_)
                    simp only [List.take_succ_cons, List.take_zero]
                    go_wp2_with fail
                    refine Halt_.intro ?_; try simp only [List.drop_succ_cons, List.drop_zero]
                    refine wpList_push rfl rfl _ _ _ _ rfl rfl rfl 28 2 16 _ Try.underlying24 infoPair rfl (by decide) (by decide) (.agg #[.int .i64 ((o : Int)), .int .i64 (-1)]) [.int .i64 ((o : Int)), .int .i64 (-1)] rfl rfl rfl (by simp [Value.oneCell']) _ _ _ hrow5.row rfl rfl (by unfold maxLen; omega) (by omega) ?_
                    intro g6 cap6 w6 o6 u6 k6
                    simp only [Act.put, List.setIfInBounds_toArray, List.set_cons_zero, List.set_cons_succ]
                    have HS6 := Lib.hid (HSZ.out.move HML.out.1 hR5 u5 hS5 o6 u6 k6)
                    clear hrow5 o6 u6 k6 hR5 u5 hS5 HPT HPN
                    go_wp2_with fail
                    exact ⟨⟨_, _, _, rfl, HS6.out⟩, by rw [hlo]; simp only [lenOf]; omega⟩
                  ·
                    have hml : Mv L 8 (es ++ [(-(o : Int), -1)]) ∧ isLit 8 (-(o : Int)) = true ∧ pos es (-(o : Int) : Int).natAbs = 0 := by
                      have h1 : isLit 8 (-(o : Int)) = true := by unfold isLit; simp; omega
                      have h2 : pos es (-(o : Int) : Int).natAbs = 0 := by simpa using HP.out.2
                      exact ⟨HSY.out.mv.decide h1 h2, h1, h2⟩
                    have HML := Lib.hid hml
                    have HSZ := HSY
                    clear hml HSY HV HCA
                    have HPT := Lib.hid (Put_calls HSZ.out.m (-(o : Int)) (-1) (by omega) ⟨by omega, by omega⟩)
                    have HPN := Lib.hid (put_new (es := es) (x := -(o : Int)) (k := -1) HML.out.2.1 HML.out.2.2 (by omega))
                    rw [HPN.out] at HPT
                    go_upto_region 24 with (go_at_call 24; (with_reducible refine HPT.out.mono ?_); rintro e w5 ⟨rfl, S5, hR5, u5, hS5⟩)
                    have hrow5 := HSZ.out.o.upd u5 (fun q hq e => (HSZ.out.os q e).1 hq)
                    refine wp_region_lit ?_
                    refine wpList_cutH 4 (fun K hK => ?_)
                    simp only [List.take_succ_cons, List.take_zero]
                    go_wp2_with fail
                    refine Halt_.intro ?_; try simp only [List.drop_succ_cons, List.drop_zero]
                    refine wpList_push rfl rfl _ _ _ _ rfl rfl rfl 28 2 16 _ Try.underlying24 infoPair rfl (by decide) (by decide) (.agg #[.int .i64 (-(o : Int)), .int .i64 (-1)]) [.int .i64 (-(o : Int)), .int .i64 (-1)] rfl rfl rfl (by simp [Value.oneCell']) _ _ _ hrow5.row rfl rfl (by unfold maxLen; omega) (by omega) ?_
                    intro g6 cap6 w6 o6 u6 k6
                    simp only [Act.put, List.setIfInBounds_toArray, List.set_cons_zero, List.set_cons_succ]
                    have HS6 := Lib.hid (HSZ.out.move HML.out.1 hR5 u5 hS5 o6 u6 k6)
                    clear hrow5 o6 u6 k6 hR5 u5 hS5 HPT HPN
                    go_wp2_with fail
                    exact ⟨⟨_, _, _, rfl, HS6.out⟩, by rw [hlo]; simp only [lenOf]; omega⟩
              · have e1 : (tval 8 es (o : Int) != 0) = true := by simpa using ht
                clear hol
                generalize tval 8 es (o : Int) = tv at *
                clear ht
                go_wp2_with (go_at_call 43; (with_reducible refine HV.out.mono ?_); rintro e w3 ⟨rfl, rfl⟩)
                exact ⟨⟨o + 1, by go_num, by omega, by omega, by first | rfl | trivial⟩, by simp [numOf]; omega⟩
            · have hoi : ¬ (o : Int) ≤ 8 := by omega
              have hoi2 : (o : Int) > 8 := by omega
              go_wp2_with fail
              go_ret2
              exact ⟨_, _, rfl, es, HSY.out.mv, HSY.out.o, HSY.out.u, .inl rfl⟩
        · rw [hn] at HNX0
          have HNX := Lib.hid HNX0
          have hjl : j < L.length := (List.getElem?_eq_some_iff.1 hj).1
          have hji : (0 : Int) ≤ ((0 + j : Nat) : Int) := by omega
          have hmem : c ∈ L := List.mem_of_getElem? hj
          have hok := HL.out.2 c hmem
          clear HNX0 hn
          by_cases hx0 : x = 0
          · subst hx0
            have HCF := Lib.hid (show ∀ y ∈ L.getD (((0 + j : Nat) : Int)).toNat [], tval 8 es y = -1 by
              rw [Int.toNat_natCast, Nat.zero_add, List.getD_eq_getElem?_getD, hj]
              exact conf_of hcx hok.2.1)
            clear hcx hok hj hmem
            have hjj : 0 + j < L.length := by omega
            generalize 0 + j = jj at *
            go_wp2_with (go_at_call 65; (with_reducible refine HNX.out.mono ?_); rintro e w2 ⟨rfl, u2⟩)
            have HSY := Lib.hid (HSZ.out.ext u2)
            go_ret2
            exact ⟨_, _, rfl, es, HSY.out.mv, HSY.out.o, HSY.out.u, .inr ⟨by omega, by omega, HCF.out⟩⟩
          · have hml := (HSZ.out.mv.imply hj hok.1 hcx hx0 hok.2.1 (by omega))
            rw [← Nat.zero_add j] at hml
            have HML := Lib.hid hml
            have hxl := hml.2.1
            unfold isLit at hxl
            simp only [decide_eq_true_eq] at hxl
            have e1 : (x == 0) = false := beq_eq_false_iff_ne.2 hx0
            have hjj : 0 + j < L.length := by omega
            clear hml hcx hok hj hmem hjl
            generalize 0 + j = jj at *
            have hjk : ¬ ((jj : Int) < 0) := by omega
            have HSO := HSZ.out
            clear HSZ
            go_upto_region 23 with (go_at_call 65; (with_reducible refine HNX.out.mono ?_); rintro e w2 ⟨rfl, u2⟩)
            have HSZ := Lib.hid (HSO.ext u2)
            clear HSO u2 HNX c1 HCL
            have HPT := Lib.hid (Put_calls HSZ.out.m (x) ((jj : Int)) (by omega) ⟨by omega, by omega⟩)
            have HPN := Lib.hid (put_new (es := es) (x := x) (k := (jj : Int)) HML.out.2.1 HML.out.2.2 (by omega))
            rw [HPN.out] at HPT
            go_upto_region 24 with (go_at_call 24; (with_reducible refine HPT.out.mono ?_); rintro e w5 ⟨rfl, S5, hR5, u5, hS5⟩)
            have hrow5 := HSZ.out.o.upd u5 (fun q hq e => (HSZ.out.os q e).1 hq)
            refine wp_region_lit ?_
            refine wpList_cutH 4 (fun K hK => ?_)
            simp only [List.take_succ_cons, List.take_zero]
            go_wp2_with fail
            refine Halt_.intro ?_; try simp only [List.drop_succ_cons, List.drop_zero]
            refine wpList_push rfl rfl _ _ _ _ rfl rfl rfl 28 2 16 _ Try.underlying24 infoPair rfl (by decide) (by decide) (.agg #[.int .i64 (x), .int .i64 ((jj : Int))]) [.int .i64 (x), .int .i64 ((jj : Int))] rfl rfl rfl (by simp [Value.oneCell']) _ _ _ hrow5.row rfl rfl (by unfold maxLen; omega) (by omega) ?_
            intro g6 cap6 w6 o6 u6 k6
            simp only [Act.put, List.setIfInBounds_toArray, List.set_cons_zero, List.set_cons_succ]
            have HS6 := Lib.hid (HSZ.out.move HML.out.1 hR5 u5 hS5 o6 u6 k6)
            clear hrow5 o6 u6 k6 hR5 u5 hS5 HPT HPN
            go_wp2_with fail
            exact ⟨⟨_, _, _, rfl, HS6.out⟩, by rw [hlo]; simp only [lenOf]; omega⟩
end
end Learn
end Go.Proofs.Ytdhhohnaehdpkaa
