/- Walks through the reference of gates: the generators, and SameLists. Conditions: none. -/
import Derived.Test.YtobclpfpkpkocaaGateR
import Derived.Laws.Rows
set_option linter.unusedVariables false
set_option linter.unusedSimpArgs false
set_option linter.unusedSectionVars false
open Go.RowKit
namespace Go.Proofs.Ytobclpfpkpkocaa
open L
namespace Gate
open Cla R14 R01
theorem ret_row {fn : Func} {R : Ending → World → Prop} {a : Act} {w : World} {p : Tmp} {ty t : TypeId} {g : Nat} {cs : List Value} {fs : _} (h : fn.results = #[.cell p ty]) (hp : a.tmps.getD p undef = .pointer (some ⟨g, 0, none⟩)) (hB : Blk w g cs t)
    (hu : Try.prog.underlying ty = some (.struct fs)) (hi : (Try.prog.info? ty).map (·.size) = some cs.length) (hdf : a.defers = []) (hR : R (.returned (.agg cs.toArray)) w) :
    bodyPost Try.prog fn R .ret a w :=
  bodyPost_ret (results_cell_row h a.tmps w g t cs.toArray (0, 0) (.struct fs) hp hB hu rfl (by simpa using hi)) hdf hR
section
variable {w : World}
set_option maxRecDepth 100000 in
theorem Own_calls {a : Option Addr} {n cap : Nat} {k o : Int} : Calls Try.prog 11 #[.agg #[.int .i64 k, .int .i64 o, .slice a n cap]] w fun e w' => e = .returned (.agg #[.int .i64 k, .int .i64 o, .slice a n cap]) ∧ Upd [] w w' := by
  have U1 := (Upd.refl [] w).alloc (.cells #[.int .i64 k, .int .i64 o, .slice a n cap] 24)
  have hs : (w.alloc (.cells #[.int .i64 k, .int .i64 o, .slice a n cap] 24)).heap.size = w.heap.size + 1 := by simp
  have B2 := Blk.new (w.alloc (.cells #[.int .i64 k, .int .i64 o, .slice a n cap] 24)) [.int .i64 k, .int .i64 o, .slice a n cap] 32
  have U2 := U1.alloc (.cells #[.int .i64 k, .int .i64 o, .slice a n cap] 32)
  rw [hs] at B2
  have HH := Lib.hid (And.intro B2 U2)
  clear U1 hs B2 U2
  go_enter Try.func11, Try.ntmps11
  go_wp2_with fail
  exact ret_row rfl rfl HH.out.1 Try.underlying32 (by kernel_rfl) rfl ⟨rfl, HH.out.2⟩
set_option maxRecDepth 100000 in
set_option maxHeartbeats 4000000 in
theorem SameL_calls {v1 v2 : Value} {L : List (List Int)} (h1 : CL w v1 L) (h2 : CL w v2 L) : Calls Try.prog 15 #[v1, v2] w fun e w' => e = .returned (.bool true) ∧ Upd [] w w' := by
  obtain ⟨a1, cap1, rfl, q1, r1, k1⟩ := h1.form
  obtain ⟨a2, cap2, rfl, q2, r2, k2⟩ := h2.form
  have HC := Lib.hid (And.intro k1 k2)
  have hb : ((L.length : Int) != (L.length : Int)) = false := by simp
  clear h1 h2 k1 k2
  go_enter Try.func15, Try.ntmps15
  go_wp2_with fail
  go_loopw [5] (fun i wr => ∃ k : Nat, i = .int .i64 k ∧ k ≤ L.length ∧ Upd [] w wr) (fun i _ => L.length - (intOf i).toNat)
  case atStart => exact ⟨0, rfl, Nat.zero_le _, Upd.refl _ _⟩
  case round =>
    obtain ⟨wo, rfl⟩ : ∃ wo : World, wo = wr := ⟨_, rfl⟩
    obtain ⟨k, rfl, hk, hu⟩ := hrel
    by_cases hlt : k < L.length
    · obtain ⟨g, off, ay, capy, rfl, e1, s1, _, _⟩ := (HC.out.1 k hlt).upd hu
      obtain ⟨g', off', ay', capy', rfl, e2, s2, _, _⟩ := (HC.out.2 k hlt).upd hu
      generalize L.getD k [] = c at *
      have HS := Lib.hid (And.intro hu (SameInts_calls s1 s2))
      have HS2 := Lib.hid (And.intro s1 s2)
      clear hu s1 s2
      go_wp2_with fail
      refine wp_region_qx (by kernel_rfl) (by kernel_rfl) ?_
      repeat (go_big_quiet_step (((go_at_call 25; exact qx ((SameInts_calls (HS2.out.1.upd (Ext.upd _) (by simp)) (HS2.out.2.upd (Ext.upd _) (by simp))).mono (fun e w' h => by simpa using h))))))
      refine wpQuiet_nil ?_
      intro x
      go_wp2_with fail
      exact ⟨⟨k + 1, by go_num, by omega, HS.out.1.step x.upd⟩, by simp [intOf]; omega⟩
    · go_wp2_with fail
      go_ret
      exact ⟨rfl, hu⟩
/-- A gate that was made from a number. -/
def SomeT (out : Int) (w : World) (e : Ending) (w' : World) : Prop :=
  ∃ (k : Int) (xs : List Int) (v : Value), e = .returned (.agg #[.int .i64 k, .int .i64 out, v]) ∧ 0 ≤ k ∧ k ≤ 6 ∧ xs.length = ninp k ∧ (∀ x ∈ xs, 1 ≤ x.natAbs ∧ (x.natAbs : Int) ≤ max 1 (out - 1)) ∧ Own w v xs w'
set_option maxRecDepth 100000 in
set_option maxHeartbeats 8000000 in
theorem SomeG_calls (n out : Int) (hn : IsI64 n) (h1 : 1 ≤ out) (h2 : out ≤ 1000) : Calls Try.prog 8 #[.int .i64 n, .int .i64 out] w (SomeT out w) := by
  have ha0 := around_lo (n := n) (k := 16777216) (by omega)
  have ha1 := around_hi (n := n) (k := 16777216) (by omega)
  have HA := Lib.hid (fun (w : World) => Around_calls n 16777216 w hn (by omega) (by omega))
  generalize around n 16777216 = m at *
  obtain ⟨mo, hmo⟩ : ∃ mo : Int, mo = max 1 (out - 1) := ⟨_, rfl⟩
  have HM := Lib.hid hmo
  have hm1 : 1 ≤ mo := by omega
  have hm2 : mo ≤ 1000 := by omega
  go_enter Try.func8, Try.ntmps8
  go_upto_region 3 with (go_at_call 20; refine (HA.out _).mono ?_; rintro e w' ⟨rfl, rfl⟩)
  have hk0 : 0 ≤ m % 7 := by omega
  have hk6 : m % 7 ≤ 6 := by omega
  have U1 := (Upd.refl [] w).alloc (.cells #[.int .i64 0, .int .i64 0, .slice none 0 0] 24)
  have B1 := Blk.new w [.int .i64 0, .int .i64 0, .slice none 0 0] 24
  have hs1 : (w.alloc (.cells #[.int .i64 0, .int .i64 0, .slice none 0 0] 24)).heap.size = w.heap.size + 1 := by simp
  generalize w.alloc (.cells #[.int .i64 0, .int .i64 0, .slice none 0 0] 24) = w1 at *
  have U2 := U1.alloc (.cells #[.int .i64 (m % 7), .int .i64 out, .slice none 0 0] 24)
  have B2 := Blk.new w1 [.int .i64 (m % 7), .int .i64 out, .slice none 0 0] 24
  replace B1 := B1.alloc (.cells #[.int .i64 (m % 7), .int .i64 out, .slice none 0 0] 24)
  rw [hs1] at B2
  generalize hw2 : w1.alloc (.cells #[.int .i64 (m % 7), .int .i64 out, .slice none 0 0] 24) = w2 at *
  generalize m % 7 = kk at *
  have H2 := Lib.hid (And.intro B1 (And.intro B2 U2))
  clear B1 B2 U1 U2 hs1 hw2
  obtain ⟨sz, hsz⟩ : ∃ sz : Nat, sz = w.heap.size := ⟨_, rfl⟩
  have HZ := Lib.hid hsz
  rw [← hsz] at H2 ⊢
  clear hsz hmo
  have hn3 := ninp_le kk
  go_wp2_with fail
  go_loopw [5, 7] (fun kv i wr => ∃ (j : Nat) (q : Int) (xs : List Int) (v : Value), kv = .int .i64 q ∧ 0 ≤ q ∧ q < 16777216 ∧ i = .int .i64 j ∧ j ≤ ninp kk ∧ xs.length = j ∧ (∀ x ∈ xs, 1 ≤ x.natAbs ∧ (x.natAbs : Int) ≤ mo) ∧ Blk wr (sz + 1) [.int .i64 kk, .int .i64 out, v] 24 ∧ Blk wr sz [.int .i64 0, .int .i64 0, .slice none 0 0] 24 ∧ OwnV w 3 1 v j (ints xs) wr ∧ (∀ g, v.ownBlock = some g → sz + 1 < g) ∧ Upd [] w wr) (fun _ i _ => ninp kk - (intOf i).toNat)
  case atStart => exact ⟨0, _, [], .slice none 0 0, rfl, by omega, by omega, rfl, Nat.zero_le _, rfl, by simp, H2.out.2.1, H2.out.1, OwnV.nil _ _ _ _, by simp [Value.ownBlock], H2.out.2.2⟩
  case round =>
    clear H2
    obtain ⟨wo, rfl⟩ : ∃ wo : World, wo = wr := ⟨_, rfl⟩
    obtain ⟨j, q, xs, v, rfl, hq0, hq1, rfl, hj, hxl, hx, B2, B1, hO, hfr, hu⟩ := hrel
    have c0 := B2.cell (i := 0) rfl
    have HH := Lib.hid (And.intro hxl (And.intro hx (And.intro B2 (And.intro B1 (And.intro hO (And.intro hfr hu))))))
    clear hxl hx B2 B1 hO hfr hu
    by_cases hlt : j < ninp kk
    · go_upto_region 7 with (go_at_call 17; refine (InputsR_calls kk hk0 hk6).mono ?_; rintro e w3 ⟨rfl, u3⟩; have H3 := Lib.hid u3; clear u3)
      have hy0 : 0 ≤ q % max 1 (out - 1) := Int.emod_nonneg _ (by omega)
      have hy1 : q % max 1 (out - 1) < mo := by rw [HM.out]; exact Int.emod_lt_of_pos _ (by omega)
      have hz0 : 0 ≤ q / max 1 (out - 1) := Int.ediv_nonneg (by omega) (by omega)
      have hz1 : q / max 1 (out - 1) ≤ q := Int.ediv_le_self _ hq0
      go_upto_region 9 with fail
      generalize q % max 1 (out - 1) = y at *
      generalize q / max 1 (out - 1) = z at *
      go_upto_if 37 with fail
      go_cut [8] (fun t w' => w' = w3 ∧ ∃ x : Int, t = .int .i64 x ∧ 1 ≤ x.natAbs ∧ (x.natAbs : Int) ≤ mo)
      case first =>
        by_cases hodd : z % 2 = 1
        · have hb : (z % 2 == 1) = true := by simpa using hodd
          go_wp2_with fail
          go_meet
          case rel => exact ⟨rfl, _, rfl, by omega, by omega⟩
        · have hb : (z % 2 == 1) = false := by simpa using hodd
          go_wp2_with fail
          go_meet
          case rel => exact ⟨rfl, _, rfl, by omega, by omega⟩
      case rest =>
      obtain ⟨rfl, x, rfl, hx0, hx1⟩ := hcut
      go_upto_region 12 with fail
      have B2 := HH.out.2.2.1.upd H3.out (by simp)
      have c2 := B2.cell (i := 2) rfl
      have f2 := B2.free 2
      have hbl := B2.lt
      have HB := Lib.hid (And.intro B2 (And.intro (HH.out.2.2.2.1.upd H3.out (by simp)) (And.intro (HH.out.2.2.2.2.1.upd H3.out (by simp)) (HH.out.2.2.2.2.2.2.step H3.out))))
      have hxl := HH.out.1
      clear B2
      obtain ⟨av, cv, rfl, _, _⟩ := HB.out.2.2.1.sl.val
      go_wp2_with (refine wpList_push rfl rfl _ _ _ _ rfl rfl rfl 3 1 8 _ Try.underlying22 infoInt rfl (by decide) (by decide) (.int .i64 x) [.int .i64 x] rfl rfl rfl (ints_one [x]) _ _ _ HB.out.2.2.1.row rfl rfl (by unfold maxLen; omega) (by omega) ?_; intro g4 cap4 w4 o4 u4 k4; have hl4 := u4.size; have f2' := (HB.out.1.upd u4 (fun h => by have := HH.out.2.2.2.2.2.1 _ (by simpa using h); omega)).free 2; have c2' := (HB.out.1.upd u4 (fun h => by have := HH.out.2.2.2.2.2.1 _ (by simpa using h); omega)).cell (i := 2) rfl)
      have hns := HH.out.2.2.2.2.2.1
      have hg4 : sz + 1 < g4 := by
        rcases k4 with k4 | k4
        · exact hns _ k4
        · omega
      have us : Upd [sz + 1] w4 (w4.setCell ⟨sz + 1, 2, none⟩ (.slice (some ⟨g4, 0, none⟩) (j + 1) cap4)) := (Upd.refl [sz + 1] w4).set (by simp) _
      have B3 := (HB.out.1.upd u4 (fun h => by have := hns _ (by simpa using h); omega)).set 2 (.slice (some ⟨g4, 0, none⟩) (j + 1) cap4)
      have B4 := (HB.out.2.1.upd u4 (fun h => by have := hns _ (by simpa using h); omega)).setOther (p := ⟨sz + 1, 2, none⟩) (by simp) (.slice (some ⟨g4, 0, none⟩) (j + 1) cap4)
      have hwz := HB.out.2.2.2.size
      have N := HB.out.2.2.1.push hwz o4 k4
      have hz := HZ.out
      refine ⟨⟨j + 1, z / 2, xs ++ [x], _, rfl, by omega, by omega, by go_num, by omega, by simp [hxl], ?_, B3, B4, ?_, ?_, ?_⟩, by simp [intOf]; omega⟩
      · intro y hy
        rcases List.mem_append.1 hy with hy | hy
        · exact HH.out.2.1 y hy
        · simp at hy; subst hy; exact ⟨hx0, hx1⟩
      · rw [ints_append]
        exact N.upd us (fun b hb h => by simp only [Value.ownBlock, Option.some.injEq] at h; simp at hb; omega)
      · intro g hg; simp only [Value.ownBlock, Option.some.injEq] at hg; omega
      · exact (HB.out.2.2.2.fresh u4 (fun j hj => .inr (HB.out.2.2.1.fresh j (by simpa using hj)))).fresh us (fun j hj => .inr (by simp at hj; omega))
    · have hje : j = ninp kk := by omega
      subst hje
      have B2 := HH.out.2.2.1
      have B1 := HH.out.2.2.2.1
      go_upto_region 13 with (go_at_call 17; refine (InputsR_calls kk hk0 hk6).mono ?_; rintro e w3 ⟨rfl, u3⟩; have H3 := Lib.hid u3; have HB := Lib.hid (And.intro (B1.upd u3 (by simp)) (B2.upd u3 (by simp))); clear u3)
      clear B1 B2
      have d0 := HB.out.1.cell (i := 0) rfl
      have d1 := HB.out.1.cell (i := 1) rfl
      have d2 := HB.out.1.cell (i := 2) rfl
      have f0 := HB.out.1.free 0
      have f1 := HB.out.1.free 1
      have f2 := HB.out.1.free 2
      have e0 := HB.out.2.cell (i := 0) rfl
      have e1 := HB.out.2.cell (i := 1) rfl
      have e2 := HB.out.2.cell (i := 2) rfl
      have hbl := HB.out.1.lt
      obtain ⟨av, cv, rfl, _⟩ := HH.out.2.2.2.2.1.sl.val
      go_wp2_with fail
      have u1 := (((Upd.refl [sz] w3).set (p := ⟨sz, 0, none⟩) (by simp) (.int .i64 kk)).set (p := ⟨sz, 1, none⟩) (by simp) (.int .i64 out)).set (p := ⟨sz, 2, none⟩) (by simp) (.slice av (ninp kk) cv)
      have BF := ((HB.out.1.set 0 (.int .i64 kk)).set 1 (.int .i64 out)).set 2 (.slice av (ninp kk) cv)
      have hz := HZ.out
      refine ret_row rfl rfl BF Try.underlying24 (by kernel_rfl) rfl ⟨kk, xs, .slice av (ninp kk) cv, rfl, hk0, hk6, by have := HH.out.1; omega, by rw [← HM.out]; exact HH.out.2.1, ⟨?_, HH.out.2.2.2.2.1.fresh, ?_⟩⟩
      · rw [HH.out.1]
        exact ((HH.out.2.2.2.2.1.upd H3.out (by simp)).upd u1 (fun b hb h => by have := HH.out.2.2.2.2.2.1 _ h; simp at hb; omega)).row
      · exact (HH.out.2.2.2.2.2.2.step H3.out).fresh u1 (fun j hj => .inr (by simp at hj; omega))
end
end Gate
end Go.Proofs.Ytobclpfpkpkocaa
