/- Walks through the reference of trails: Script. Conditions: none. -/
import Derived.Test.YtlfcabmbakjklaaSame
import Derived.Test.YtlfcabmbakjklaaReg2
import Derived.Deep.CutBlock
set_option linter.unusedVariables false
set_option linter.unusedSimpArgs false
set_option linter.unusedSectionVars false
open Go.RowKit
namespace Go.Proofs.Ytlfcabmbakjklaa
open L
namespace Script
open R01
abbrev Op3 := Int × Int × Int
def okOp (o : Op3) : Prop := IsI64 o.2.1 ∧ o.2.2 ≤ 9223372036854775807
def okOpN (vars : Nat) (o : Op3) : Prop := okOp o ∧ o.2.1 ≤ vars + 6 ∧ 0 ≤ o.1 ∧ o.1 ≤ 4
def opRow (ops : List Op3) (i : Nat) : List Value := [.int .i64 (ops.getD i (0, 0, 0)).1, .int .i64 (ops.getD i (0, 0, 0)).2.1, .int .i64 (ops.getD i (0, 0, 0)).2.2]
def opCells (ops : List Op3) : List Value := rows ops.length (opRow ops)
theorem infoOp : (Try.prog.info? 35).map (fun i => (i.zero, i.size, i.bytes)) = some (some (.agg #[.int .i64 0, .int .i64 0, .int .i64 0]), 3, 24) := by kernel_rfl
/-- An operation in a block of its own. -/
def OpAt (vars : Nat) (w0 : World) (p : Value) (w : World) : Prop := ∃ (q : Nat) (k n m : Int), p = .pointer (some ⟨q, 0, none⟩) ∧ Blk w q [.int .i64 k, .int .i64 n, .int .i64 m] 35 ∧ w0.heap.size ≤ q ∧ Upd [] w0 w ∧ -(vars : Int) - 6 ≤ n ∧ n ≤ vars + 6 ∧ m ≤ 1000000000 ∧ 0 ≤ k ∧ k ≤ 4
section
variable {w : World}
theorem ownsRow_upd_ {w w' : World} {base : Nat} {e : TypeId} {size : Nat} {v : Value} {n : Nat} {xs : List Value} (h : w.ownsRow base e size v n xs) (hu : Upd [] w w') : w'.ownsRow base e size v n xs := by
  refine ⟨h.1, ?_⟩
  rcases h.2 with h2 | ⟨g, cap, cur, rfl, hb, hg, hr⟩
  · exact .inl h2
  · exact .inr ⟨g, cap, cur, rfl, hb, by rw [hu.block g (Array.getElem?_eq_some_iff.1 hg).1 (by simp)]; exact hg, hr⟩
theorem kinds (i : Nat) (h1 : i < 11) : ∃ k : Int, (#[Value.int .i64 0, .int .i64 0, .int .i64 0, .int .i64 1, .int .i64 1, .int .i64 1, .int .i64 1, .int .i64 2, .int .i64 2, .int .i64 3, .int .i64 4] : Array Value)[i]? = some (.int .i64 k) ∧ 0 ≤ k ∧ k ≤ 4 := by
  have : i = 0 ∨ i = 1 ∨ i = 2 ∨ i = 3 ∨ i = 4 ∨ i = 5 ∨ i = 6 ∨ i = 7 ∨ i = 8 ∨ i = 9 ∨ i = 10 := by omega
  rcases this with rfl | rfl | rfl | rfl | rfl | rfl | rfl | rfl | rfl | rfl | rfl <;> exact ⟨_, rfl, by omega, by omega⟩
set_option maxRecDepth 100000 in
set_option maxHeartbeats 2000000 in
theorem Script_callsN {lv : Value} {xs : List Int} (hx : ∀ x ∈ xs, IsI64 x) (hl : SL w 1 lv xs.length (ints xs)) (vars most : Nat) (hv : vars ≤ 1000) (hm : most ≤ 1000) :
    Calls Try.prog 11 #[lv, .int .i64 vars, .int .i64 most] w fun e w' => ∃ (v : Value) (ops : List Op3), e = .returned v ∧ SL w' 3 v ops.length (opCells ops) ∧ (∀ o ∈ ops, okOpN vars o) ∧ ops.length ≤ most ∧ Upd [] w w' ∧ (∀ j, v.ownBlock = some j → w.heap.size ≤ j) := by
  obtain ⟨a, cap, rfl, q1, r1, hc⟩ := SL.form hl
  have HC := Lib.hid hc
  have HX := Lib.hid hx
  clear hc hl hx
  go_enter Try.func11, Try.ntmps11
  go_wp2_with fail
  go_loopw [7, 8] (fun v i wr => ∃ (k : Nat) (ops : List Op3), k ≤ xs.length ∧ k ≤ most ∧ i = .int .i64 k ∧ ops.length = k ∧ wr.ownsRow 0 35 3 v k (opCells ops) ∧ (∀ o ∈ ops, okOpN vars o) ∧ Upd [] w wr ∧ (∀ j, v.ownBlock = some j → w.heap.size ≤ j)) (fun _ i _ => xs.length - (intOf i).toNat)
  case atStart => exact ⟨0, [], Nat.zero_le _, Nat.zero_le _, rfl, rfl, World.ownsRow_nil _ _ _ _, by simp, Upd.refl _ _, by simp [Value.ownBlock]⟩
  case round =>
    obtain ⟨k, ops, hk, hkm, rfl, hol, hown, hok, hu, hvb⟩ := hrel
    have HO := Lib.hid (And.intro hol (And.intro hok hvb))
    clear hol hok hvb
    by_cases hlt : k < xs.length
    · by_cases hlm : k < most
      · obtain ⟨g, off, rfl, hcc⟩ := HC.out (by omega)
        have e0 := hu.some (hcc k _ (ints_get (List.getElem?_eq_getElem hlt))) (by simp)
        have hxi := HX.out _ (List.getElem_mem hlt)
        clear hcc
        generalize xs[k] = x at *
        have ha0 := around_lo (n := x) (k := 1048576) (by omega)
        have ha1 := around_hi (n := x) (k := 1048576) (by omega)
        go_upto_region 6 with (go_at_call 9; refine (Around_calls x 1048576 _ hxi (by omega) (by omega)).mono ?_; rintro e w' ⟨rfl, rfl⟩)
        generalize around x 1048576 = n at *
        clear hxi e0
        have ha2 : (0 : Int) ≤ n % 11 := by omega
        have ha3 : n % 11 < 11 := by omega
        have hv0 : vars = 0 ∨ 1 ≤ vars := by omega
        have hq0 : 0 ≤ n / 11 % (vars : Int) ∧ (vars ≤ 1 ∨ n / 11 % (vars : Int) ≤ vars) := by
          rcases hv0 with rfl | h
          · simp; omega
          · have := Int.emod_nonneg (n / 11) (show (vars : Int) ≠ 0 by omega)
            have := Int.emod_lt_of_pos (n / 11) (show (0 : Int) < vars by omega)
            omega
        obtain ⟨kd, hkd, hkd0, hkd4⟩ := kinds (n % 11).toNat (by omega)
        have HK := Lib.hid hkd
        clear hkd
        go_cut [10] (fun p w' => OpAt vars wr p w')
        case first =>
          have hmv : vars ≤ 1 ∨ 1 < vars := by omega
          rcases hmv with hmv | hmv
          all_goals
            refine wp_region_ord2 16 1 [1, 2, 5, 6, 7, 8, 9, 10, 11, 12, 13, 3, 4, 14] [4] [1, 2, 5, 6, 7, 8, 9, 10, 11, 12, 13] 0 15 [3, 4, 14, 15, 16] [0, 3, 4, 14, 16] (fun w' => True) (by kernel_rfl) (by kernel_rfl) trivial ?_
            repeat (first | (refine wpMovs_load rfl rfl rfl (fun K hK => ?_); go_big_quiet_step (fail); refine wpQuiet_nil ?_; refine hK _ ?_; clear hK K) | (refine wpMovs_free rfl rfl (fun K hK => ?_); go_big_quiet_step (fail); refine wpQuiet_nil ?_; refine hK _ ?_; clear hK K))
            refine (show _ ∧ _ from ⟨?_, ?_⟩)
            · refine wpOrdC_fix rfl rfl (fun K hK => ?_)
              go_wp2_with fail
              have e1 : (wr.alloc (.cells #[Value.int .i64 0, .int .i64 0, .int .i64 0, .int .i64 1, .int .i64 1, .int .i64 1, .int .i64 1, .int .i64 2, .int .i64 2, .int .i64 3, .int .i64 4] 3)).cell? ⟨wr.heap.size, (n % 11).toNat, none⟩ = some (.int .i64 kd) := by rw [World.cell?_alloc_new]; exact HK.out
              have u1 := (Upd.refl [] wr).alloc (.cells #[Value.int .i64 0, .int .i64 0, .int .i64 0, .int .i64 1, .int .i64 1, .int .i64 1, .int .i64 1, .int .i64 2, .int .i64 2, .int .i64 3, .int .i64 4] 3)
              generalize wr.alloc (.cells #[Value.int .i64 0, .int .i64 0, .int .i64 0, .int .i64 1, .int .i64 1, .int .i64 1, .int .i64 1, .int .i64 2, .int .i64 2, .int .i64 3, .int .i64 4] 3) = w1 at *
              refine narrowExt (fun _ => trivial) ?_
              repeat (first | (refine wpOrdC_load rfl rfl rfl rfl (fun K hK => ?_); go_big_quiet_step (fail); refine wpQuiet_nil ?_; refine hK _ ?_; clear hK K) | (refine wpOrdC_free rfl rfl rfl (fun K hK => ?_); go_big_quiet_step (fail); refine wpQuiet_nil ?_; refine hK _ ?_; clear hK K))
              refine wpOrdC_fix rfl rfl (fun K hK => ?_)
              go_wp2_with fail
              refine narrowExt (fun x => Ext.of (Upd.step (by iterate 25 (first | exact Upd.refl _ _ | assumption | refine Upd.alloc ?_ _ | refine Upd.drew ?_ | refine Upd.drewN ?_ _ | refine Upd.dl ?_ | refine Upd.step ?_ (Ext.upd _) | refine Upd.nil ?_ | skip)) x.upd)) ?_
              repeat (first | (refine wpOrdC_load rfl rfl rfl rfl (fun K hK => ?_); go_big_quiet_step (fail); refine wpQuiet_nil ?_; refine hK _ ?_; clear hK K) | (refine wpOrdC_free rfl rfl rfl (fun K hK => ?_); go_big_quiet_step (fail); refine wpQuiet_nil ?_; refine hK _ ?_; clear hK K))
              refine wpOrdC_fix rfl rfl (fun K hK => ?_)
              go_wp2_with fail
              refine narrowEnd rfl ?_
              refine wpOrdC_nil ?_
              go_wp2_with fail
              go_meet
              case rel =>
                exact ⟨w1.heap.size, kd, _, _, rfl, (Blk.new w1 _ _).drew, u1.size, (u1.alloc _).drew, by omega, by omega, by omega⟩
            · refine wpOrdC_fix rfl rfl (fun K hK => ?_)
              go_wp2_with fail
              have u0 := (Upd.refl [] wr).alloc (.cells #[.int .i64 0, .int .i64 0, .int .i64 0] 35)
              have b0 := Blk.new wr [.int .i64 0, .int .i64 0, .int .i64 0] 35
              generalize wr.alloc (.cells #[.int .i64 0, .int .i64 0, .int .i64 0] 35) = w0 at *
              refine narrowExt (fun _ => trivial) ?_
              repeat (first | (refine wpOrdC_load rfl rfl rfl rfl (fun K hK => ?_); go_big_quiet_step (fail); refine wpQuiet_nil ?_; refine hK _ ?_; clear hK K) | (refine wpOrdC_free rfl rfl rfl (fun K hK => ?_); go_big_quiet_step (fail); refine wpQuiet_nil ?_; refine hK _ ?_; clear hK K))
              refine wpOrdC_fix rfl rfl (fun K hK => ?_)
              go_wp2_with fail
              have e1 : (w0.alloc (.cells #[Value.int .i64 0, .int .i64 0, .int .i64 0, .int .i64 1, .int .i64 1, .int .i64 1, .int .i64 1, .int .i64 2, .int .i64 2, .int .i64 3, .int .i64 4] 3)).cell? ⟨w0.heap.size, (n % 11).toNat, none⟩ = some (.int .i64 kd) := by rw [World.cell?_alloc_new]; exact HK.out
              have u1 := (Upd.refl [] w0).alloc (.cells #[Value.int .i64 0, .int .i64 0, .int .i64 0, .int .i64 1, .int .i64 1, .int .i64 1, .int .i64 1, .int .i64 2, .int .i64 2, .int .i64 3, .int .i64 4] 3)
              generalize w0.alloc (.cells #[Value.int .i64 0, .int .i64 0, .int .i64 0, .int .i64 1, .int .i64 1, .int .i64 1, .int .i64 1, .int .i64 2, .int .i64 2, .int .i64 3, .int .i64 4] 3) = w1 at *
              refine narrowExt (fun x => Ext.of (Upd.step (by iterate 25 (first | exact Upd.refl _ _ | assumption | refine Upd.alloc ?_ _ | refine Upd.drew ?_ | refine Upd.drewN ?_ _ | refine Upd.dl ?_ | refine Upd.step ?_ (Ext.upd _) | refine Upd.nil ?_ | skip)) x.upd)) ?_
              have b1 := b0.upd u1 (by simp)
              have z0 := b1.cell (i := 0) rfl
              have z1 := b1.cell (i := 1) rfl
              have z2 := b1.cell (i := 2) rfl
              have y0 := b1.free 0
              have y1 := b1.free 1
              have y2 := b1.free 2
              repeat (first | (refine wpOrdC_load rfl rfl rfl rfl (fun K hK => ?_); go_big_quiet_step (fail); refine wpQuiet_nil ?_; refine hK _ ?_; clear hK K) | (refine wpOrdC_free rfl rfl rfl (fun K hK => ?_); go_big_quiet_step (fail); refine wpQuiet_nil ?_; refine hK _ ?_; clear hK K))
              refine wpOrdC_fix rfl rfl (fun K hK => ?_)
              go_wp2_with fail
              refine narrowEnd rfl ?_
              refine wpOrdC_nil ?_
              go_wp2_with fail
              go_meet
              case rel =>
                exact ⟨wr.heap.size, kd, _, _, rfl, ((((b1.set 0 _).set 1 _).set 2 _)).drew, Nat.le_refl _, (((((u0.trans u1)).set (by simp) _).set (by simp) _).set (by simp) _).drew, by omega, by omega, by omega⟩
        case rest =>
          obtain ⟨q, kk, nn, mm, rfl, B, hq, U, b1, b2, b3⟩ := hcut
          have c0 := B.cell (i := 0) rfl
          have c1 := B.cell (i := 1) rfl
          have c2 := B.cell (i := 2) rfl
          have f0 := B.free 0
          have f1 := B.free 1
          have f2 := B.free 2
          have hql := B.lt
          go_upto_if 45 with (fail)
          go_cut [10] (fun p w' => OpAt vars wr p w')
          case first =>
            go_wp2_with fail
            all_goals go_meet
            all_goals case rel => first | exact ⟨q, _, _, _, rfl, B, hq, U, b1, b2, by omega⟩ | exact ⟨q, _, _, _, rfl, B.set 0 _, hq, U.set (.inr hq) _, b1, b2, by omega⟩ | exact ⟨q, _, _, _, rfl, B.set 1 _, hq, U.set (.inr hq) _, by omega, by omega, by omega⟩
          case rest =>
            clear U B c0 c1 c2 f0 f1 f2 hq b1 b2 b3 hql
            obtain ⟨q, kk, nn, mm, rfl, B, hq, U, b1, b2, b3⟩ := hcut
            have c0 := B.cell (i := 0) rfl
            have c1 := B.cell (i := 1) rfl
            have c2 := B.cell (i := 2) rfl
            have f0 := B.free 0
            have f1 := B.free 1
            have f2 := B.free 2
            have hql := B.lt
            go_upto_block 2 with (fail)
            go_cut [10] (fun p w' => OpAt vars wr p w')
            case first =>
              have m4 : 0 ≤ n / 11 % 4 ∧ n / 11 % 4 < 4 := by omega
              have m3 : 0 ≤ n / 11 % 3 ∧ n / 11 % 3 < 3 := by omega
              go_wp2_with fail
              all_goals go_meet
              all_goals case rel => first | exact ⟨q, _, _, _, rfl, B, hq, U, b1, b2, by omega⟩ | exact ⟨q, _, _, _, rfl, B.set 0 _, hq, U.set (.inr hq) _, b1, b2, by omega⟩ | exact ⟨q, _, _, _, rfl, B.set 1 _, hq, U.set (.inr hq) _, by omega, by omega, by omega⟩
            case rest =>
              clear U B c0 c1 c2 f0 f1 f2 hq b1 b2 b3 hql
              obtain ⟨q, kk, nn, mm, rfl, B, hq, U, b1, b2, b3⟩ := hcut
              have c0 := B.cell (i := 0) rfl
              have c1 := B.cell (i := 1) rfl
              have c2 := B.cell (i := 2) rfl
              have f0 := B.free 0
              have f1 := B.free 1
              have f2 := B.free 2
              have hql := B.lt
              go_upto_if 68 with (fail)
              go_cut [10] (fun p w' => OpAt vars wr p w')
              case first =>
                have m4 : (0 : Int) ≤ n / 23 % 4 := by omega
                have m5 : n / 23 % 4 < 4 := by omega
                obtain ⟨kd2, hkd2, hb5, hb6⟩ : ∃ k : Int, (#[Value.int .i64 0, .int .i64 (-1), .int .i64 (vars + 5), .int .i64 (-vars - 6)] : Array Value)[(n / 23 % 4).toNat]? = some (.int .i64 k) ∧ -(vars : Int) - 6 ≤ k ∧ k ≤ vars + 6 := by
                  have : n / 23 % 4 = 0 ∨ n / 23 % 4 = 1 ∨ n / 23 % 4 = 2 ∨ n / 23 % 4 = 3 := by omega
                  rcases this with h | h | h | h <;> rw [h] <;> exact ⟨_, rfl, by omega, by omega⟩
                have HK2 := Lib.hid hkd2
                clear hkd2
                by_cases h4 : n % 23 = 4
                · go_upto_region 15 with (fail)
                  refine wp_region_lit ?_
                  refine wpList_cutH 6 (fun K hK => ?_)
                  simp only [List.take_succ_cons, List.take_zero]
                  go_wp2_with fail
                  refine Halt_.intro ?_; try simp only [List.drop_succ_cons, List.drop_zero]
                  have e1 : (wc.alloc (.cells #[Value.int .i64 0, .int .i64 (-1), .int .i64 (vars + 5), .int .i64 (-vars - 6)] 3)).cell? ⟨wc.heap.size, (n / 23 % 4).toNat, none⟩ = some (.int .i64 kd2) := by rw [World.cell?_alloc_new]; exact HK2.out
                  have u1 := (Upd.refl [] wc).alloc (.cells #[Value.int .i64 0, .int .i64 (-1), .int .i64 (vars + 5), .int .i64 (-vars - 6)] 3)
                  generalize wc.alloc (.cells #[Value.int .i64 0, .int .i64 (-1), .int .i64 (vars + 5), .int .i64 (-vars - 6)] 3) = w1 at *
                  have B1 := B.upd u1 (by simp)
                  have c3 := B1.cell (i := 1) rfl
                  have c4 := B1.cell (i := 2) rfl
                  have f3 := B1.free 1
                  have f4 := B1.free 2
                  go_wp2_with fail
                  go_meet
                  case rel => exact ⟨q, _, _, _, rfl, (B1.set 1 _).set 2 _, hq, ((U.step u1).set (.inr hq) _).set (.inr hq) _, by omega, by omega, by omega⟩
                · go_wp2_with fail
                  go_meet
                  case rel => first | exact ⟨q, _, _, _, rfl, B, hq, U, b1, b2, by omega⟩ | exact ⟨q, _, _, _, rfl, B.set 0 _, hq, U.set (.inr hq) _, b1, b2, by omega⟩ | exact ⟨q, _, _, _, rfl, B.set 1 _, hq, U.set (.inr hq) _, by omega, by omega, by omega⟩
              case rest =>
                clear U B c0 c1 c2 f0 f1 f2 hq b1 b2 b3 hql
                obtain ⟨q, kk, nn, mm, rfl, B, hq, U, b1, b2, b3⟩ := hcut
                have c0 := B.cell (i := 0) rfl
                have c1 := B.cell (i := 1) rfl
                have c2 := B.cell (i := 2) rfl
                have f0 := B.free 0
                have f1 := B.free 1
                have f2 := B.free 2
                have hql := B.lt
                go_upto_region 17 with fail
                go_cut [10, 93] (fun p t w' => p = .pointer (some ⟨q, 0, none⟩) ∧ w' = wc ∧ ∃ s : Bool, t = .bool s)
                case first =>
                  by_cases hk3 : kk = 3
                  · have hk4 : (kk == 3) = true := by simpa using hk3
                    clear hk3
                    go_wp2_with fail
                    go_meet
                    case rel => exact ⟨rfl, rfl, _, rfl⟩
                  · have hk4 : (kk == 3) = false := by simpa using hk3
                    clear hk3
                    go_wp2_with fail
                    go_meet
                    case rel => exact ⟨rfl, rfl, _, rfl⟩
                case rest =>
                obtain ⟨rfl, rfl, s, rfl⟩ := hcut
                go_upto_if 93 with (fail)
                go_cut [10] (fun p w' => OpAt vars wr p w')
                case first =>
                  go_wp2_with fail
                  all_goals go_meet
                  all_goals case rel => first | exact ⟨q, _, _, _, rfl, B, hq, U, b1, b2, by omega⟩ | exact ⟨q, _, _, _, rfl, B.set 0 _, hq, U.set (.inr hq) _, b1, b2, by omega⟩ | exact ⟨q, _, _, _, rfl, B.set 1 _, hq, U.set (.inr hq) _, by omega, by omega, by omega⟩
                case rest =>
                  clear U B c0 c1 c2 f0 f1 f2 hq b1 b2 b3 hql
                  obtain ⟨q, kk, nn, mm, rfl, B, hq, U, b1, b2, b3⟩ := hcut
                  have c0 := B.cell (i := 0) rfl
                  have c1 := B.cell (i := 1) rfl
                  have c2 := B.cell (i := 2) rfl
                  have f0 := B.free 0
                  have f1 := B.free 1
                  have f2 := B.free 2
                  have hql := B.lt
                  go_upto_region 19 with fail
                  refine wp_region_lit ?_
                  refine wpList_cutH 3 (fun K hK => ?_)
                  simp only [List.take_succ_cons, List.take_zero]
                  go_wp2_with fail
                  refine Halt_.intro ?_; try simp only [List.drop_succ_cons, List.drop_zero]
                  have N1 := Blk.new wc [.int .i64 kk, .int .i64 nn, .int .i64 mm] 35
                  have u1 := U.alloc (.cells #[.int .i64 kk, .int .i64 nn, .int .i64 mm] 35)
                  have o1 := ownsRow_upd_ hown u1
                  generalize wc.alloc (.cells #[.int .i64 kk, .int .i64 nn, .int .i64 mm] 35) = w1 at *
                  generalize hgw : wc.heap.size = gw at *
                  refine wpList_app rfl _ _ _ rfl 35 3 24 _ Try.underlying31 infoOp rfl (by decide) u7 _ _ rfl o1 gw 1 1 [.int .i64 kk, .int .i64 nn, .int .i64 mm] 35 rfl rfl N1 ?_ (by omega) ?_ ?_ ?_
                  · intro v hv
                    simp only [List.mem_cons, List.not_mem_nil, or_false] at hv
                    rcases hv with rfl | rfl | rfl <;> rfl
                  · unfold maxLen; omega
                  · omega
                  intro g2 cap2 w2 o2 u2 k2
                  simp only [Act.put, List.setIfInBounds_toArray, List.set_cons_zero, List.set_cons_succ]
                  have hs1 := u1.size
                  have hs0 := hu.size
                  go_wp2_with fail
                  have hcell : opCells (ops ++ [(kk, nn, mm)]) = opCells ops ++ [.int .i64 kk, .int .i64 nn, .int .i64 mm] := by
                    unfold opCells
                    rw [List.length_append, List.length_singleton, rows_succ]
                    congr 1
                    · exact rows_congr fun i hi => by unfold opRow; rw [List.getD_eq_getElem?_getD, List.getD_eq_getElem?_getD, List.getElem?_append_left hi]
                    · unfold opRow; rw [List.getD_eq_getElem?_getD, List.getElem?_append_right (Nat.le_refl _)]; simp
                  refine ⟨⟨k + 1, ops ++ [(kk, nn, mm)], by omega, by omega, by go_num, by rw [List.length_append, HO.out.1]; rfl, ?_, ?_, ?_, ?_⟩, by simp [intOf]; omega⟩
                  · rw [hcell]; exact o2
                  · intro o ho
                    rcases List.mem_append.1 ho with ho | ho
                    · exact HO.out.2.1 o ho
                    · simp at ho; subst ho; exact ⟨⟨⟨by simp only; omega, by simp only; omega⟩, by simp only; omega⟩, by simp only; omega, by simp only; omega, by simp only; omega⟩
                  · exact (hu.step u1).fresh u2 (by intro j hj; right; exact HO.out.2.2 j (by simpa using hj))
                  · intro j hj
                    simp only [Value.ownBlock, Option.some.injEq] at hj
                    subst hj
                    rcases k2 with k2 | k2
                    · exact HO.out.2.2 _ k2
                    · omega
      · have hge : most ≤ k := by omega
        go_wp2_with fail
        go_ret
        have hol := HO.out.1
        subst hol
        exact ⟨_, ops, rfl, SL.of_owns hown, HO.out.2.1, hkm, hu, HO.out.2.2⟩
    · have hge : xs.length ≤ k := by omega
      go_wp2_with fail
      go_ret
      have hol := HO.out.1
      subst hol
      exact ⟨_, ops, rfl, SL.of_owns hown, HO.out.2.1, hkm, hu, HO.out.2.2⟩
theorem Script_calls {lv : Value} {xs : List Int} (hx : ∀ x ∈ xs, IsI64 x) (hl : SL w 1 lv xs.length (ints xs)) (vars most : Nat) (hv : vars ≤ 1000) (hm : most ≤ 1000) :
    Calls Try.prog 11 #[lv, .int .i64 vars, .int .i64 most] w fun e w' => ∃ (v : Value) (ops : List Op3), e = .returned v ∧ SL w' 3 v ops.length (opCells ops) ∧ (∀ o ∈ ops, okOp o) ∧ ops.length ≤ most ∧ Upd [] w w' ∧ (∀ j, v.ownBlock = some j → w.heap.size ≤ j) :=
  (Script_callsN hx hl vars most hv hm).mono fun _ _ ⟨v, ops, h1, h2, h3, h4⟩ => ⟨v, ops, h1, h2, fun o ho => (h3 o ho).1, h4⟩
end
end Script
end Go.Proofs.Ytlfcabmbakjklaa
