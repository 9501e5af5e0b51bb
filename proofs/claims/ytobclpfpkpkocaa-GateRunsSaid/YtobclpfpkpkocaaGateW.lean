/- Walks through package gate: Run. Conditions: none. -/
import Derived.Test.YtobclpfpkpkocaaGateU
set_option linter.unusedVariables false
set_option linter.unusedSimpArgs false
set_option linter.unusedSectionVars false
open Go.RowKit
namespace Go.Proofs.Ytobclpfpkpkocaa
open L
namespace Gate
open Cla R14 R01
abbrev G := Int × Int × List Int
/-- The gates, one after the other. -/
def runL : List G → List Int → List Int × Int
  | [], A => (A, 0)
  | (k, o, xs) :: gs, A => if runErr o xs A ≠ 0 then ([], runErr o xs A) else runL gs (runSet k o xs A)
def badG (g : G) : Bool := !(gOk g.1 g.2.1 g.2.2)
def runAll (gs : List G) (A : List Int) : List Int × Int := if gs.any badG = true then ([], 1) else runL gs A
/-- A gate in a row of gates. -/
def GA (w : World) (a : Option Addr) (i : Nat) (x : G) : Prop :=
  ∃ g off av cv, a = some ⟨g, off, none⟩ ∧ w.cell? ⟨g, off + i * 3, none⟩ = some (.int .i64 x.1) ∧ w.cell? ⟨g, off + i * 3 + 1, none⟩ = some (.int .i64 x.2.1) ∧ w.cell? ⟨g, off + i * 3 + 2, none⟩ = some (.slice av x.2.2.length cv) ∧ SL w 1 (.slice av x.2.2.length cv) x.2.2.length (ints x.2.2) ∧ ∀ y ∈ x.2.2, IsI64 y
theorem GA.upd {w w' : World} {a : Option Addr} {i : Nat} {x : G} (h : GA w a i x) (hu : Upd [] w w') : GA w' a i x := by
  obtain ⟨g, off, av, cv, h0, h1, h2, h3, h4, h5⟩ := h
  exact ⟨g, off, av, cv, h0, hu.some h1 (by simp), hu.some h2 (by simp), hu.some h3 (by simp), h4.upd hu (by simp), h5⟩
/-- A slice of gates. -/
def GL (w : World) (lv : Value) (gs : List G) : Prop :=
  ∃ a cap, lv = .slice a gs.length cap ∧ gs.length ≤ cap ∧ cap ≤ 9223372036854775807 ∧ ∀ i, i < gs.length → GA w a i (gs.getD i (0, 0, []))
theorem GL.upd {w w' : World} {lv : Value} {gs : List G} (h : GL w lv gs) (hu : Upd [] w w') : GL w' lv gs := by
  obtain ⟨a, cap, h0, h1, h2, h3⟩ := h
  exact ⟨a, cap, h0, h1, h2, fun i hi => (h3 i hi).upd hu⟩
theorem runL_len {gs : List G} : ∀ {A A' : List Int}, runL gs A = (A', 0) → A'.length = A.length := by
  induction gs with
  | nil => intro A A' h; cases h; rfl
  | cons g gs ih =>
    obtain ⟨k, o, xs⟩ := g
    intro A A' h
    unfold runL at h
    split at h
    · rename_i h0; exact absurd (congrArg Prod.snd h) h0
    · rw [ih h]; unfold runSet; rw [List.length_set]
def RunAT (r : List Int × Int) (w : World) (e : Ending) (w' : World) : Prop :=
  (r.2 ≠ 0 → e = .returned (.tuple #[.slice none 0 0, .int .i64 r.2]) ∧ Upd [] w w') ∧ (r.2 = 0 → ∃ a cap, e = .returned (.tuple #[.slice a r.1.length cap, .int .i64 0]) ∧ Own w (.slice a r.1.length cap) r.1 w')
theorem runSet_i64 {k o : Int} {xs A : List Int} (h : ∀ x ∈ A, IsI64 x) : ∀ x ∈ runSet k o xs A, IsI64 x := by
  intro x hx
  unfold runSet at hx
  rcases List.mem_or_eq_of_mem_set hx with h1 | rfl
  · exact h x h1
  · unfold runVal IsI64; split <;> omega
section
variable {w : World}
set_option maxRecDepth 100000 in
set_option maxHeartbeats 8000000 in
theorem RunA_calls {lv av : Value} {gs : List G} {A : List Int} (h : GL w lv gs) (hA : SL w 1 av A.length (ints A)) (hAi : ∀ x ∈ A, IsI64 x) (hl : A.length ≤ 1000000) (hg : gs.length ≤ 1000) : Calls Try.prog 23 #[lv, av] w (RunAT (runAll gs A) w) := by
  obtain ⟨a, cap, rfl, q1, r1, hc⟩ := h
  have HH := Lib.hid (And.intro hc (And.intro hA hAi))
  obtain ⟨aa, capa, rfl, _, _, _⟩ := SL.elems hA
  clear hc hA hAi
  go_enter Try.func23, Try.ntmps23
  go_wp2_with fail
  go_loopw [14] (fun i wr => ∃ j : Nat, i = .int .i64 j ∧ j ≤ gs.length ∧ (∀ g ∈ gs.take j, badG g = false) ∧ Upd [] w wr) (fun i _ => gs.length - (intOf i).toNat)
  case atStart => exact ⟨0, rfl, Nat.zero_le _, by simp, Upd.refl _ _⟩
  case round =>
    obtain ⟨wo, rfl⟩ : ∃ wo : World, wo = wr := ⟨_, rfl⟩
    obtain ⟨j, rfl, hj, hlo, hu⟩ := hrel
    by_cases hlt : j < gs.length
    · obtain ⟨g, off, ax, cx, rfl, c0, c1, c2, hs, hi⟩ := (HH.out.1 j hlt).upd hu
      have hm := gd_memA (d := ((0, 0, []) : G)) hlt
      have hts : gs.take (j + 1) = gs.take j ++ [gs.getD j (0, 0, [])] := by rw [List.take_add_one, gd_some (d := (0, 0, [])) hlt]; rfl
      generalize gs.getD j (0, 0, []) = x at *
      obtain ⟨k, o, xs⟩ := x
      simp only at c0 c1 c2 hs hi
      have HL := Lib.hid (And.intro hlo (And.intro hu (And.intro hs (And.intro hm hts))))
      clear hlo hu hs hi hm hts
      go_upto_region 4 with fail
      have U1 := (Upd.refl [] wo).alloc (.cells #[.int .i64 k, .int .i64 o, .slice ax xs.length cx] 32)
      have NB := Blk.new wo [.int .i64 k, .int .i64 o, .slice ax xs.length cx] 32
      generalize wo.alloc (.cells #[.int .i64 k, .int .i64 o, .slice ax xs.length cx] 32) = w1 at *
      generalize wo.heap.size = b at *
      have d0 := NB.cell (i := 0) rfl
      have d1 := NB.cell (i := 1) rfl
      have d2 := NB.cell (i := 2) rfl
      have HV := Lib.hid (GValid_calls (k := k) (o := o) (HL.out.2.2.1.upd U1 (by simp)))
      have HU1 := Lib.hid U1
      clear U1 NB c0 c1 c2
      cases hg' : gOk k o xs with
      | true =>
        rw [gErr_good hg'] at HV
        have HG := Lib.hid (show badG (k, o, xs) = false by unfold badG; simp [hg'])
        clear hg'
        go_wp2_with fail
        refine HV.out.mono ?_
        rintro e w2 ⟨rfl, u2⟩
        have HU2 := Lib.hid u2
        clear u2 d0 d1 d2
        go_wp2_with fail
        refine ⟨⟨j + 1, by go_num, by omega, fun y hy => ?_, (HL.out.2.1.step HU1.out).step HU2.out⟩, by simp [intOf]; omega⟩
        rw [HL.out.2.2.2.2] at hy
        rcases List.mem_append.1 hy with hy | hy
        · exact HL.out.1 y hy
        · simp at hy; subst hy; exact HG.out
      | false =>
        rw [gErr_bad hg'] at HV
        have HE := Lib.hid (show runAll gs A = ([], 1) by unfold runAll; rw [if_pos (List.any_eq_true.2 ⟨(k, o, xs), HL.out.2.2.2.1, by unfold badG; simp [hg']⟩)])
        clear hg'
        go_wp2_with fail
        refine HV.out.mono ?_
        rintro e w2 ⟨rfl, u2⟩
        have HU2 := Lib.hid u2
        clear u2 d0 d1 d2
        go_wp2_with fail
        go_ret2
        rw [HE.out]
        exact ⟨fun _ => ⟨rfl, (HL.out.2.1.step HU1.out).step HU2.out⟩, fun h => by simp at h⟩
    · have hall := hlo
      rw [List.take_of_length_le (by omega)] at hall
      have HR := Lib.hid (show runAll gs A = runL gs A by
        unfold runAll
        rw [if_neg]
        rw [Bool.not_eq_true, List.any_eq_false]
        intro g hgm
        rw [hall g hgm]; simp)
      have HALL := Lib.hid hall
      have HU := Lib.hid hu
      clear hall hlo hu
      go_wp2_with fail
      refine (Clone_calls (HH.out.2.1.upd HU.out (by simp)) (by omega)).mono ?_
      rintro e w3 ⟨a3, cap3, rfl, hO⟩
      have H3 := Lib.hid hO
      clear hO
      go_wp2_with fail
      go_loopw [28] (fun i wr => ∃ (j : Nat) (B : List Int), i = .int .i64 j ∧ j ≤ gs.length ∧ B.length = A.length ∧ (∀ x ∈ B, IsI64 x) ∧ runL gs A = runL (gs.drop j) B ∧ Own wo (.slice a3 A.length cap3) B wr) (fun i _ => gs.length - (intOf i).toNat)
      case atStart => exact ⟨0, A, rfl, Nat.zero_le _, rfl, HH.out.2.2, rfl, H3.out⟩
      case round =>
        obtain ⟨wi, rfl⟩ : ∃ wo : World, wo = wr := ⟨_, rfl⟩
        obtain ⟨j2, B, rfl, hj2, hBl, hBi, hrun, hO⟩ := hrel
        by_cases hlt2 : j2 < gs.length
        · obtain ⟨g, off, ax, cx, rfl, c0, c1, c2, hs, hi⟩ := ((HH.out.1 j2 hlt2).upd HU.out).upd hO.u
          have hs0 : ∃ g' off' ax' cx', (some ⟨g, off, none⟩ : Option Addr) = some ⟨g', off', none⟩ ∧ wo.cell? ⟨g', off' + j2 * 3 + 2, none⟩ = some (.slice ax' (gs.getD j2 (0, 0, [])).2.2.length cx') ∧ SL wo 1 (.slice ax' (gs.getD j2 (0, 0, [])).2.2.length cx') (gs.getD j2 (0, 0, [])).2.2.length (ints (gs.getD j2 (0, 0, [])).2.2) := by
            obtain ⟨g', off', ax', cx', e1, _, _, e4, e5, _⟩ := (HH.out.1 j2 hlt2).upd HU.out
            exact ⟨g', off', ax', cx', e1, e4, e5⟩
          obtain ⟨g', off', ax', cx', he, e4, e5⟩ := hs0
          cases he
          have e4' := hO.u.some e4 (by simp)
          rw [c2] at e4'
          simp only [Option.some.injEq, Value.slice.injEq, true_and] at e4'
          obtain ⟨rfl, rfl⟩ := e4'
          have hbg := HALL.out _ (gd_memA (d := ((0, 0, []) : G)) hlt2)
          rw [gd_cons (d := ((0, 0, []) : G)) hlt2] at hrun
          generalize gs.getD j2 (0, 0, []) = x at *
          obtain ⟨k, o, xs⟩ := x
          simp only at c0 c1 c2 hs hi e5
          have hok : gOk k o xs = true := by unfold badG at hbg; simpa using hbg
          have HL := Lib.hid (And.intro hrun (And.intro hO (And.intro hBl (And.intro hBi (And.intro e5 hok)))))
          clear hrun hO hBi hs hi e4 e5 hok hbg
          go_upto_region 12 with fail
          have U1 := (Upd.refl [] wi).alloc (.cells #[.int .i64 k, .int .i64 o, .slice ax xs.length cx] 32)
          have NB := Blk.new wi [.int .i64 k, .int .i64 o, .slice ax xs.length cx] 32
          generalize wi.alloc (.cells #[.int .i64 k, .int .i64 o, .slice ax xs.length cx] 32) = w5 at *
          generalize wi.heap.size = b at *
          have d0 := NB.cell (i := 0) rfl
          have d1 := NB.cell (i := 1) rfl
          have d2 := NB.cell (i := 2) rfl
          have HRU := Lib.hid (show Calls Try.prog 46 #[.agg #[.int .i64 k, .int .i64 o, .slice ax xs.length cx], .slice a3 A.length cap3] w5 (RunT k o xs B wo a3 cap3) from by
            have hown := HL.out.2.1.quiet U1
            rw [← hBl] at hown ⊢
            exact RunG_calls HL.out.2.2.2.2.1 HL.out.2.2.2.2.2 hown HL.out.2.2.2.1)
          clear U1 NB c0 c1 c2 hBl
          go_wp2_with fail
          refine HRU.out.mono ?_
          rintro e w6 ⟨rfl, hO6⟩
          rw [HL.out.2.2.1] at hO6
          have HO6 := Lib.hid hO6
          clear hO6 d0 d1 d2 HRU
          have HS := Lib.hid (show runL gs A = if runErr o xs B ≠ 0 then ([], runErr o xs B) else runL (gs.drop (j2 + 1)) (runSet k o xs B) from HL.out.1)
          by_cases he : runErr o xs B = 0
          · have HE := Lib.hid he
            rw [he]
            clear he
            go_wp2_with fail
            refine ⟨⟨j2 + 1, runSet k o xs B, by go_num, by omega, by unfold runSet; rw [List.length_set]; exact HL.out.2.2.1, runSet_i64 HL.out.2.2.2.1, by rw [HS.out, HE.out]; simp, ?_⟩, by simp [intOf]; omega⟩
            have := HO6.out
            rw [HE.out, if_pos rfl] at this
            exact this
          · have hb : (runErr o xs B != 0) = true := by simpa using he
            have HE := Lib.hid (show runAll gs A = ([], runErr o xs B) by rw [HR.out, HS.out, if_pos he])
            have HNE := Lib.hid he
            have HU6 := Lib.hid HO6.out.u
            clear he HS HO6
            generalize runErr o xs B = er at *
            go_wp2_with fail
            go_ret2
            rw [HE.out]
            exact ⟨fun _ => ⟨rfl, HU.out.step HU6.out⟩, fun h => absurd h HNE.out⟩
        · have HE := Lib.hid (show runAll gs A = (B, 0) by rw [HR.out, hrun, List.drop_eq_nil_of_le (by omega)]; rfl)
          have HB := Lib.hid (And.intro hO hBl)
          clear hO hrun hBi hBl
          go_wp2_with fail
          go_ret2
          rw [HE.out]
          have hr := HB.out.1.row
          rw [HB.out.2] at hr
          refine ⟨fun h => absurd rfl h, fun _ => ⟨a3, cap3, ?_, ?_⟩⟩
          · show _ = Ending.returned (.tuple #[.slice a3 B.length cap3, .int .i64 0])
            rw [HB.out.2]; rfl
          · show Own w (.slice a3 B.length cap3) B wi
            refine ⟨?_, fun g hg => ?_, HU.out.step HB.out.1.u⟩
            · rw [HB.out.2]; exact hr
            · have := HB.out.1.fresh g (by cases a3 <;> exact hg)
              have := HU.out.size
              omega
end
end Gate
end Go.Proofs.Ytobclpfpkpkocaa
