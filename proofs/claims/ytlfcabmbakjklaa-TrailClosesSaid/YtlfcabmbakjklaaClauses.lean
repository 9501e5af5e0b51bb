/- Walks through the laws of trails: clauses. Conditions: none. -/
import Derived.Test.YtlfcabmbakjklaaSome
set_option linter.unusedVariables false
set_option linter.unusedSimpArgs false
set_option linter.unusedSectionVars false
open Go.RowKit
namespace Go.Proofs.Ytlfcabmbakjklaa
open L
namespace Law
open R01 R14
theorem infoInts : (Try.prog.info? 22).map (fun i => (i.zero, i.size, i.bytes)) = some (some (.slice none 0 0), 1, 24) := by kernel_rfl
theorem infoBool : (Try.prog.info? 4).map (fun i => (i.zero, i.size, i.bytes)) = some (some (.bool false), 1, 1) := by kernel_rfl
theorem bools_one (xs : List Bool) : ∀ u ∈ bools xs, u.oneCell' = true := by
  intro u hu
  simp only [bools, List.mem_map] at hu
  obtain ⟨_, _, rfl⟩ := hu
  rfl
/-- The lists as they are made. -/
structure Cl (w0 : World) (ov av : Value) (cs : List (List Int)) (al : List Bool) (F : List Nat) (w : World) : Prop where
  c : OwnL 22 w0 ov cs F w
  a : OwnV w0 4 1 av al.length (bools al) w
  len : al.length = cs.length
  small : ∀ c ∈ cs, c.length ≤ 10
  i64 : ∀ c ∈ cs, ∀ x ∈ c, IsI64 x
  ca : ∀ b, av.ownBlock = some b → b ∉ F ∧ ov.ownBlock ≠ some b
  ff : ∀ b ∈ F, w0.heap.size ≤ b
  u : Upd [] w0 w
theorem Cl.quiet {w0 w w' : World} {ov av : Value} {cs : List (List Int)} {al : List Bool} {F : List Nat} (h : Cl w0 ov av cs al F w) (hu : Upd [] w w') : Cl w0 ov av cs al F w' :=
  ⟨h.c.upd hu (by simp), h.a.upd hu (by simp), h.len, h.small, h.i64, h.ca, h.ff, h.u.step hu⟩
/-- Between the two appends of a round. -/
structure Mid (w0 : World) (ov av : Value) (cs : List (List Int)) (al : List Bool) (F : List Nat) (w : World) : Prop where
  c : OwnL 22 w0 ov cs F w
  a : OwnV w0 4 1 av al.length (bools al) w
  len : al.length + 1 = cs.length
  small : ∀ c ∈ cs, c.length ≤ 10
  i64 : ∀ c ∈ cs, ∀ x ∈ c, IsI64 x
  ca : ∀ b, av.ownBlock = some b → b ∉ F ∧ ov.ownBlock ≠ some b
  ff : ∀ b ∈ F, w0.heap.size ≤ b
  u : Upd [] w0 w
theorem Cl.mid {w0 w wc w2 : World} {ov av y : Value} {cs : List (List Int)} {al : List Bool} {F : List Nat} {c : List Int} {g cap : Nat} (h : Cl w0 ov av cs al F w) (ho : Own w y c wc)
    (L : OwnL 22 w0 (.slice (some ⟨g, 0, none⟩) (cs.length + 1) cap) (cs ++ [c]) (F ++ y.ownBlock.toList) w2) (u2 : Upd ov.ownBlock.toList wc w2) (k2 : ov.ownBlock = some g ∨ wc.heap.size ≤ g) (hs : c.length ≤ 10) (hi : ∀ x ∈ c, IsI64 x) :
    Mid w0 (.slice (some ⟨g, 0, none⟩) (cs.length + 1) cap) av (cs ++ [c]) al (F ++ y.ownBlock.toList) w2 := by
  have h1 := h.quiet ho.u
  have z1 := h.u.size
  have z2 := ho.u.size
  refine ⟨L, h1.a.upd u2 (fun b hb hab => (h1.ca b hab).2 (by simpa using hb)), by have := h.len; simp; omega, ?_, ?_, ?_, ?_, ?_⟩
  · intro d hd
    rcases List.mem_append.1 hd with hd | hd
    · exact h.small d hd
    · simp at hd; subst hd; exact hs
  · intro d hd
    rcases List.mem_append.1 hd with hd | hd
    · exact h.i64 d hd
    · simp at hd; subst hd; exact hi
  · intro b hb
    have hba := h.a.lt b hb
    refine ⟨fun hm => ?_, fun hg => ?_⟩
    · rcases List.mem_append.1 hm with hm | hm
      · exact (h.ca b hb).1 hm
      · have := ho.fresh b (by simpa using hm); omega
    · simp only [Value.ownBlock, Option.some.injEq] at hg
      subst hg
      rcases k2 with k2 | k2
      · exact (h.ca _ hb).2 k2
      · omega
  · intro b hb
    rcases List.mem_append.1 hb with hb | hb
    · exact h.ff b hb
    · have := ho.fresh b (by simpa using hb); omega
  · obtain ⟨vals, hv, _⟩ := h.c.ex
    exact h1.u.fresh u2 (fun b hb => .inr (hv.fresh b (by simpa using hb)))
theorem Mid.fin {w0 w w3 : World} {ov av : Value} {cs : List (List Int)} {al : List Bool} {F : List Nat} {q : Bool} {g cap : Nat} (h : Mid w0 ov av cs al F w)
    (o : w3.ownsRow 0 4 1 (.slice (some ⟨g, 0, none⟩) (al.length + 1) cap) (al.length + 1) (bools al ++ [.bool q])) (u : Upd av.ownBlock.toList w w3) (k : av.ownBlock = some g ∨ w.heap.size ≤ g) :
    Cl w0 ov (.slice (some ⟨g, 0, none⟩) (al.length + 1) cap) cs (al ++ [q]) F w3 := by
  have z := h.u.size
  have l := h.c.own_lt
  have lf := h.c.lt
  refine ⟨h.c.upd u (fun b hb => h.ca b (by simpa using hb)), ?_, by have := h.len; simp; omega, h.small, h.i64, fun b hb => ?_, h.ff, h.u.fresh u (fun b hb => .inr (h.a.fresh b (by simpa using hb)))⟩
  · have := h.a.push z o k
    simpa [bools] using this
  · simp only [Value.ownBlock, Option.some.injEq] at hb
    subst hb
    rcases k with k | k
    · exact h.ca _ k
    · exact ⟨fun hm => by have := lf _ hm; omega, fun hg => by have := l _ hg; omega⟩
def ClausesT (w : World) (e : Ending) (w' : World) : Prop := ∃ ov av cs al F, e = .returned (.tuple #[ov, av]) ∧ cs.length ≤ 7 ∧ Cl w ov av cs al F w'
section
variable {w : World}
set_option maxRecDepth 100000 in
set_option maxHeartbeats 2000000 in
theorem clauses_calls {lv : Value} {xs : List Int} (hx : ∀ x ∈ xs, IsI64 x) (hl : SL w 1 lv xs.length (ints xs)) (vars n : Int) (hn : IsI64 n) :
    Calls Try.prog 20 #[lv, .int .i64 vars, .int .i64 n] w (ClausesT w) := by
  obtain ⟨a, cap, rfl, q1, r1, hc⟩ := SL.form hl
  have HX := Lib.hid (And.intro hx hl)
  have HC := Lib.hid hc
  clear hx hl hc
  go_enter Try.func20, Try.ntmps20
  go_wp2_with fail
  go_loopw [8, 9, 10] (fun o al i wr => ∃ (k : Nat) (cs : List (List Int)) (als : List Bool) (F : List Nat), i = .int .i64 k ∧ k ≤ 7 ∧ k ≤ xs.length ∧ cs.length = k ∧ Cl w o al cs als F wr) (fun _ _ i _ => 8 - (intOf i).toNat)
  case atStart => exact ⟨0, [], [], [], rfl, by omega, by omega, rfl, OwnL.nil _ _ _, OwnV.nil _ _ _ _, rfl, by simp, by simp, by simp [Value.ownBlock], by simp, Upd.refl _ _⟩
  case round =>
    obtain ⟨k, cs, als, F, rfl, hk7, hk, hcl, hC⟩ := hrel
    have HL := Lib.hid (And.intro hcl hC)
    clear hcl hC
    by_cases hlt : k < xs.length ∧ k < 7
    · obtain ⟨hlt, hlt7⟩ := hlt
      obtain ⟨g, off, rfl, k1⟩ := HC.out (by omega)
      have e0 := k1 k _ (ints_get (List.getElem?_eq_getElem hlt))
      have hxi := HX.out.1 _ (List.getElem_mem hlt)
      generalize xs[k] = x at *
      have EW := Lib.hid e0
      replace e0 := HL.out.2.u.some e0 (by simp)
      clear k1
      have e00 := e0
      go_upto_region 6 with fail
      go_cut [11] (fun o w' => ∃ c, Own wr o c w' ∧ c.length ≤ 6 ∧ ∀ y ∈ c, IsI64 y)
      case first =>
        go_wp2_with (go_at_call 29; refine (Some_calls _ _ hxi (by omega)).mono ?_; rintro e w1 ⟨v, c, rfl, ho, hx, hl⟩; have HH := Lib.hid (And.intro hx (And.intro hl ho)); clear hx hl ho)
        all_goals go_meet
        all_goals case rel => exact ⟨c, HH.out.2.2, by have := HH.out.2.1; omega, fun y hy => by have := HH.out.1 y hy; unfold IsI64; omega⟩
      case rest =>
      obtain ⟨c, ho, hc7, hci⟩ := hcut
      obtain ⟨ac, capc, rfl, _, hf⟩ := ho.form
      replace e0 := ho.u.some e00 (by simp)
      have HH := Lib.hid (And.intro hci ho)
      clear hci ho hf
      go_upto_if 36 with (go_at_call 9; refine (Around_calls _ 29 _ (isI64_wrap _) (by omega) (by omega)).mono ?_; rintro e _ ⟨rfl, rfl⟩)
      go_cut [11] (fun o w' => ∃ c', Own wr o c' w' ∧ c'.length ≤ 7 ∧ ∀ y ∈ c', IsI64 y)
      case first =>
        by_cases hd : around (wrap64 (x + n)) 29 = 0
        · go_upto_region 8 with fail
          refine wp_region_lit ?_
          refine wpList_cutH 2 (fun K hK => ?_)
          simp only [List.take_succ_cons, List.take_zero]
          go_wp2_with fail
          refine Halt_.intro ?_; try simp only [List.drop_succ_cons, List.drop_zero]
          refine wpList_push rfl rfl _ _ _ _ rfl rfl rfl 3 1 8 _ Try.underlying22 infoInt rfl (by decide) (by decide) (.int .i64 n) [.int .i64 n] rfl rfl rfl (ints_one [n]) _ _ _ HH.out.2.row rfl rfl (by unfold maxLen; omega) (by omega) ?_
          intro g2 cap2 w2 o2 u2 k2
          simp only [Act.put, List.setIfInBounds_toArray, List.set_cons_zero, List.set_cons_succ]
          have N2 := HH.out.2.push o2 u2 k2
          clear o2 u2 k2
          go_wp2_with fail
          go_meet
          case rel =>
            refine ⟨c ++ [n], by simpa using N2, by simp; omega, fun y hy => ?_⟩
            rcases List.mem_append.1 hy with hy | hy
            · exact HH.out.1 y hy
            · simp at hy; subst hy; exact hn
        · go_wp2_with fail
          go_meet
          case rel => exact ⟨c, HH.out.2, by omega, HH.out.1⟩
      case rest =>
      clear HH hc7 e0
      obtain ⟨c, ho, hc7, hci⟩ := hcut
      obtain ⟨ac, capc, rfl, _, hf⟩ := ho.form
      replace e0 := ho.u.some e00 (by simp)
      have HH := Lib.hid (And.intro hci ho)
      clear hci ho
      go_upto_region 9 with fail
      have hcl9 : c.length ≤ 9223372036854775807 := by omega
      go_cut [51] (fun o w' => w' = wc ∧ ∃ b : Bool, o = .bool b ∧ (b = true → 0 < c.length))
      case first =>
        by_cases hd1 : around x 13 = 5
        · by_cases hp : 0 < c.length
          · go_wp2_with (go_at_call 9; refine (Around_calls _ 13 _ hxi (by omega) (by omega)).mono ?_; rintro e _ ⟨rfl, rfl⟩)
            go_meet
            case rel => exact ⟨rfl, true, rfl, fun _ => hp⟩
          · go_wp2_with (go_at_call 9; refine (Around_calls _ 13 _ hxi (by omega) (by omega)).mono ?_; rintro e _ ⟨rfl, rfl⟩)
            go_meet
            case rel => exact ⟨rfl, false, rfl, fun h => by cases h⟩
        · go_wp2_with (go_at_call 9; refine (Around_calls _ 13 _ hxi (by omega) (by omega)).mono ?_; rintro e _ ⟨rfl, rfl⟩)
          go_meet
          case rel => exact ⟨rfl, false, rfl, fun h => by cases h⟩
      case rest =>
      obtain ⟨rfl, b, rfl, hb⟩ := hcut
      have HB := Lib.hid hb
      clear hb
      go_upto_if 51 with fail
      go_cut [11] (fun o w' => ∃ c', Own wr o c' w' ∧ c'.length ≤ 8 ∧ ∀ y ∈ c', IsI64 y)
      case first =>
        cases b with
        | true =>
          have hp := HB.out rfl
          obtain ⟨gc, rfl, hf2⟩ := hf hp
          have f0 := hf2 0 _ (List.getElem?_eq_getElem hp)
          have hy0 := HH.out.1 _ (List.getElem_mem hp)
          generalize c[0] = y0 at *
          clear hf hf2
          go_upto_region 10 with fail
          refine wp_region_lit ?_
          refine wpList_cutH 4 (fun K hK => ?_)
          simp only [List.take_succ_cons, List.take_zero]
          go_wp2_with fail
          refine Halt_.intro ?_; try simp only [List.drop_succ_cons, List.drop_zero]
          refine wpList_push rfl rfl _ _ _ _ rfl rfl rfl 3 1 8 _ Try.underlying22 infoInt rfl (by decide) (by decide) (.int .i64 y0) [.int .i64 y0] rfl rfl rfl (ints_one [y0]) _ _ _ HH.out.2.row rfl rfl (by unfold maxLen; omega) (by omega) ?_
          intro g2 cap2 w2 o2 u2 k2
          simp only [Act.put, List.setIfInBounds_toArray, List.set_cons_zero, List.set_cons_succ]
          have N2 := HH.out.2.push o2 u2 k2
          clear o2 u2 k2
          go_wp2_with fail
          go_meet
          case rel =>
            refine ⟨c ++ [y0], by simpa using N2, by simp; omega, fun y hy => ?_⟩
            rcases List.mem_append.1 hy with hy | hy
            · exact HH.out.1 y hy
            · simp at hy; subst hy; exact hy0
        | false =>
          clear hf
          go_wp2_with fail
          go_meet
          case rel => exact ⟨c, HH.out.2, by omega, HH.out.1⟩
      case rest =>
      clear HH hc7 e0 hf HB hcl9
      obtain ⟨c, ho, hc7, hci⟩ := hcut
      obtain ⟨ac, capc, rfl, _, hf⟩ := ho.form
      clear hf
      replace e0 := ho.u.some e00 (by simp)
      have C1 := HL.out.2.quiet ho.u
      obtain ⟨vals, hv, hvs⟩ := C1.c.ex
      have HV := Lib.hid hvs
      clear hvs
      have hsz := HL.out.2.u.size
      have hfl := ho.row.lt
      have hff := ho.fresh
      have hov := HL.out.2.c.own_lt
      have hcle := HL.out.1
      have hal := HL.out.2.len
      have hav := HL.out.2.a.lt
      have HQ := Lib.hid (And.intro hfl (And.intro hff (And.intro hov hav)))
      clear hfl hff hov hav
      go_upto_region 11 with fail
      refine wp_region_lit ?_
      refine wpList_cutH 2 (fun K hK => ?_)
      simp only [List.take_succ_cons, List.take_zero]
      go_wp2_with fail
      refine Halt_.intro ?_; try simp only [List.drop_succ_cons, List.drop_zero]
      refine wpList_push rfl rfl _ _ _ _ rfl rfl rfl 22 1 24 _ Try.underlying44 infoInts rfl (by decide) (by decide) (.slice ac c.length capc) [.slice ac c.length capc] rfl rfl rfl (by simp [Value.oneCell']) _ _ _ hv.row rfl rfl (by unfold maxLen; omega) (by omega) ?_
      intro g2 cap2 w2 o2 u2 k2
      simp only [Act.put, List.setIfInBounds_toArray, List.set_cons_zero, List.set_cons_succ]
      have L2 := C1.c.push (y := .slice ac c.length capc) (c := c) hv HV.out C1.u.size ho.sl (fun b hb => by
        have h1 := HQ.out.1 b hb
        have h2 := HQ.out.2.1 b hb
        refine ⟨fun h => ?_, h1.2⟩
        have := HQ.out.2.2.1 b h
        omega) o2 u2 k2
      have M2 := HL.out.2.mid ho L2 u2 k2 (by omega) hci
      clear L2 o2 u2 k2 hv HV HQ C1 hcle hal hci ho
      have ew := M2.u.some EW.out (by simp)
      have hal : als.length ≤ 6 := by
        have h1 := M2.len
        have h2 := HL.out.1
        simp at h1
        omega
      have HM := Lib.hid M2
      clear M2
      generalize wc.heap.size = gg at *
      clear e0
      go_upto_region 12 with fail
      refine wp_region_lit ?_
      refine wpList_cutH 8 (fun K hK => ?_)
      simp only [List.take_succ_cons, List.take_zero]
      go_wp2_with (go_at_call 9; refine (Around_calls _ 4 _ (by first | exact isI64_wrap _ | exact isI64_tdiv hxi (by omega)) (by omega) (by omega)).mono ?_; rintro e _ ⟨rfl, rfl⟩)
      refine Halt_.intro ?_; try simp only [List.drop_succ_cons, List.drop_zero]
      refine wpList_push rfl rfl _ _ _ _ rfl rfl rfl 4 1 1 _ Try.underlying45 infoBool rfl (by decide) (by decide) (.bool _) [.bool _] rfl rfl rfl (bools_one [_]) _ _ _ HM.out.a.row rfl rfl (by unfold maxLen; omega) (by omega) ?_
      intro g3 cap3 w3 o3 u3 k3
      simp only [Act.put, List.setIfInBounds_toArray, List.set_cons_zero, List.set_cons_succ]
      have C3 := HM.out.fin o3 u3 k3
      clear o3 u3 k3 HM ew
      go_wp2_with fail
      refine ⟨⟨k + 1, _, _, _, by go_num, by omega, by omega, by have := HL.out.1; simp; omega, C3⟩, by simp [intOf]; omega⟩
    · have HN : Hid (k < xs.length → 7 ≤ k) := by unfold Hid; omega
      by_cases h1 : k < xs.length
      · have h2 := HN.out h1
        clear hlt
        go_wp2_with fail
        go_ret2
        exact ⟨_, _, cs, als, F, rfl, by have := HL.out.1; omega, HL.out.2⟩
      · clear hlt
        go_wp2_with fail
        go_ret2
        exact ⟨_, _, cs, als, F, rfl, by have := HL.out.1; omega, HL.out.2⟩
end
end Law
end Go.Proofs.Ytlfcabmbakjklaa
