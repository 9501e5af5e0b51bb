/- Walks through the laws of trails: TrailNext. Conditions: none. -/
import Derived.Test.YtlfcabmbakjklaaMade
import Derived.Test.YtlfcabmbakjklaaClauses
import Derived.Test.YtlfcabmbakjklaaRefNext
set_option linter.unusedVariables false
set_option linter.unusedSimpArgs false
set_option linter.unusedSectionVars false
open Go.RowKit
namespace Go.Proofs.Ytlfcabmbakjklaa
open L
namespace Law
open Trail Ref R01 R14
theorem SL.from_ {w : World} {a : Option Addr} {n cap i : Nat} {cs : List Value} (h : SL w 1 (.slice a n cap) n cs) (hi : i ≤ n) : SL w 1 (sliced a i n cap 1) (n - i) (cs.drop i) := by
  unfold sliced
  rw [Nat.mul_one]
  obtain ⟨h1, a', cap', he, h2, h3, h5, h4⟩ := h
  cases he
  refine ⟨by rw [List.length_drop]; omega, _, _, rfl, by omega, by omega, ?_, ?_⟩
  · intro hn
    split at hn
    · omega
    · cases a with
      | none => have := h5 rfl; omega
      | some x => cases hn
  · rcases h4 with h4 | ⟨b, off, rfl, h4⟩
    · left; omega
    · by_cases hc : cap = i
      · left; omega
      · right
        rw [if_neg hc]
        refine ⟨b, off + i, by simp [addr_add], fun j u hj => ?_⟩
        rw [List.getElem?_drop] at hj
        have := h4 (i + j) u hj
        rwa [Nat.add_assoc]
theorem CL.from_ {w : World} {a : Option Addr} {cap i : Nat} {cs : List (List Int)} (h : CL w (.slice a cs.length cap) cs) (hi : i ≤ cs.length) : CL w (sliced a i cs.length cap 1) (cs.drop i) := by
  obtain ⟨vals, h1, h2, h3⟩ := h.ex
  have e : (cs.drop i).length = cs.length - i := List.length_drop
  refine ⟨vals.drop i, by rw [List.length_drop, e, h1], by rw [e]; exact SL.from_ h2 hi, fun j c hj => ?_⟩
  rw [List.getElem?_drop] at hj ⊢
  exact h3 _ _ hj
theorem OwnL.cl {e : TypeId} {w0 w : World} {ov : Value} {cs : List (List Int)} {F : List Nat} (h : OwnL e w0 ov cs F w) : CL w ov cs := by
  obtain ⟨vals, h1, h2⟩ := h.ex
  refine ⟨vals, by have := h1.row.1; omega, h1.sl, fun i c hc => ?_⟩
  obtain ⟨y, hy, hs, _⟩ := h2 i c hc
  exact ⟨y, hy, hs⟩
theorem Cl.cl {w0 w : World} {ov av : Value} {cs : List (List Int)} {al : List Bool} {F : List Nat} (h : Cl w0 ov av cs al F w) : CL w ov cs := by
  obtain ⟨vals, h1, h2⟩ := h.c.ex
  refine ⟨vals, by have := h1.row.1; omega, h1.sl, fun i c hc => ?_⟩
  obtain ⟨y, hy, hs, _⟩ := h2 i c hc
  exact ⟨y, hy, hs⟩
attribute [-go_sem] sliced
section
variable {w : World}
set_option maxRecDepth 100000 in
set_option maxHeartbeats 4000000 in
theorem TrailNext_calls {lv mv : Value} {xs ms : List Int} (hx : ∀ x ∈ xs, IsI64 x) (hl : SL w 1 lv xs.length (ints xs)) (hmx : ∀ x ∈ ms, IsI64 x) (hml : SL w 1 mv ms.length (ints ms)) (vars n : Int) (hv : IsI64 vars) (hn : IsI64 n) :
    Calls Try.prog 4 #[lv, .int .i64 vars, mv, .int .i64 n] w fun e w' => e = .returned (.bool true) ∧ Upd [] w w' := by
  have ha0 := around_lo (n := vars) (k := 8) (by omega)
  have ha1 := around_hi (n := vars) (k := 8) (by omega)
  obtain ⟨K, hK⟩ := Int.eq_ofNat_of_zero_le ha0
  have hK9 : K ≤ 9 := by omega
  have HX := Lib.hid (And.intro hx (And.intro hl (And.intro hmx hml)))
  clear hx hl hmx hml
  go_enter Try.func4, Try.ntmps4
  go_wp2_with fail
  refine (Around_calls vars 8 _ hv (by omega) (by omega)).mono ?_
  rintro e _ ⟨rfl, rfl⟩
  rw [hK]
  go_wp2_with fail
  refine (made_calls HX.out.1 HX.out.2.1 K hK9).mono ?_
  rintro e w1 ⟨b, mb, vs, es, S, S2, rfl, P, hvs20, _⟩
  have c0 := (Rf.cell0 P.m).1
  go_wp2_with fail
  refine (clauses_calls HX.out.2.2.1 (HX.out.2.2.2.upd P.u (by simp)) vs n hn).mono ?_
  rintro e w2 ⟨ov, av, cs, al, F, rfl, hc7, C⟩
  have P2 := P.quiet C.u
  have hlt := P.t.lt
  have hlt2 := P.m.lt
  have HP := Lib.hid (And.intro P2 (And.intro C (And.intro hlt hlt2)))
  have HW1 := Lib.hid P.u.size
  have hlen : al.length = cs.length := C.len
  obtain ⟨ac, cc, rfl, qc, rc, _⟩ := SL.form_ (k := 1) C.c.ex.choose_spec.1.sl
  obtain ⟨aa, ca, rfl, qa, ra, _⟩ := SL.form_ (k := 1) C.a.sl
  clear P P2 C hlt hlt2 c0
  have HLEN := Lib.hid hlen
  have l1 : al.length ≤ cs.length := by omega
  have l2 : cs.length ≤ al.length := by omega
  clear hlen
  go_wp2_with fail
  go_loopw [13] (fun i wr => ∃ k : Nat, k ≤ cs.length + 1 ∧ i = .int .i64 k ∧ Upd [] w2 wr) (fun i _ => cs.length + 1 - (intOf i).toNat)
  case atStart => exact ⟨0, Nat.zero_le _, rfl, Upd.refl _ _⟩
  case round =>
    obtain ⟨k, hk, rfl, hu⟩ := hrel
    by_cases hlt : k ≤ cs.length
    · have P3 := HP.out.1.quiet hu
      have C3 := HP.out.2.1.quiet hu
      have A3 := SL.from_ C3.a.sl (show k ≤ al.length by omega)
      have L3 := CL.from_ C3.cl hlt
      rw [show bools al = L.bools al from rfl, show (L.bools al).drop k = L.bools (al.drop k) from by simp [L.bools, List.map_drop], show al.length - k = (al.drop k).length from by simp] at A3
      go_upto_region 8 with fail
      refine wp_region_ord 7 1 [0, 1, 2, 3, 4, 5, 6, 8, 9, 10, 11, 12, 13, 14] [] [0, 1, 2, 3, 4, 5, 6, 7, 8, 9, 10, 11, 12, 13, 14] (fun _ => True) (by kernel_rfl) (by kernel_rfl) trivial ?_
      repeat (first | (refine wpOrd_load rfl rfl rfl rfl (fun K hK => ?_); go_big_quiet_step (fail); refine wpQuiet_nil ?_; refine hK _ ?_; clear hK K) | (refine wpOrd_free rfl rfl rfl (fun K hK => ?_); go_big_quiet_step (fail); refine wpQuiet_nil ?_; refine hK _ ?_; clear hK K))
      refine wpOrd_fix rfl rfl (fun K hK => ?_)
      go_wp2_with (go_at_call 21; refine (Trail.Next_calls (P3.t.upd (T := []) (by iterate 25 (first | exact Upd.refl _ _ | assumption | refine Upd.alloc ?_ _ | refine Upd.drew ?_ | refine Upd.drewN ?_ _ | refine Upd.dl ?_ | refine Upd.step ?_ (Ext.upd _) | refine Upd.nil ?_ | skip)) (by simp)) (L3.upd (S := []) (by iterate 25 (first | exact Upd.refl _ _ | assumption | refine Upd.alloc ?_ _ | refine Upd.drew ?_ | refine Upd.drewN ?_ _ | refine Upd.dl ?_ | refine Upd.step ?_ (Ext.upd _) | refine Upd.nil ?_ | skip))) (A3.upd (S := []) (by iterate 25 (first | exact Upd.refl _ _ | assumption | refine Upd.alloc ?_ _ | refine Upd.drew ?_ | refine Upd.drewN ?_ _ | refine Upd.dl ?_ | refine Upd.step ?_ (Ext.upd _) | refine Upd.nil ?_ | skip)) (by simp))).mono ?_; rintro e w4 ⟨rfl, u4⟩)
      have U4 : Upd [] wr w4 := Upd.step (by iterate 25 (first | exact Upd.refl _ _ | assumption | refine Upd.alloc ?_ _ | refine Upd.drew ?_ | refine Upd.drewN ?_ _ | refine Upd.dl ?_ | refine Upd.step ?_ (Ext.upd _) | refine Upd.nil ?_ | skip)) u4
      have P4 := P3.quiet U4
      have L4 := L3.upd (S := []) U4
      have A4 := A3.upd U4 (by simp)
      have HI : ∀ c ∈ cs.drop k, c.length ≤ 1000 ∧ ∀ x ∈ c, IsI64 x := fun c hc => ⟨by have := C3.small c (List.mem_of_mem_drop hc); omega, C3.i64 c (List.mem_of_mem_drop hc)⟩
      have NR := Ref.Next_calls (P4.m) L4 A4 HI
      have NR2 : ∀ w', Upd [] w4 w' → Calls Try.prog 22 #[.pointer (some ⟨mb, 0, none⟩), sliced ac k cs.length cc 1, sliced aa k al.length ca 1] w' fun e w'' => e = .returned (.tuple #[.int .i64 (nextRes vs es (cs.drop k) (al.drop k)).1, .int .i64 (nextRes vs es (cs.drop k) (al.drop k)).2.1, .int .i64 (nextRes vs es (cs.drop k) (al.drop k)).2.2]) ∧ Upd [] w' w'' :=
        fun w' hw => Ref.Next_calls (P4.m.upd hw (by simp)) (L4.upd (S := []) hw) (A4.upd hw (by simp)) HI
      have HNR := Lib.hid NR2
      generalize nextRes vs es (cs.drop k) (al.drop k) = res at *
      obtain ⟨r1, r2, r3⟩ := res
      clear NR NR2 P3 C3 A3 L3 P4 L4 A4 HI u4
      refine ⟨fun _ => trivial, ?_⟩
      repeat (first | (refine wpOrd_load rfl rfl rfl rfl (fun K hK => ?_); go_big_quiet_step (fail); refine wpQuiet_nil ?_; refine hK _ ?_; clear hK K) | (refine wpOrd_free rfl rfl rfl (fun K hK => ?_); go_big_quiet_step (fail); refine wpQuiet_nil ?_; refine hK _ ?_; clear hK K))
      refine wpOrd_nil ?_
      go_upto_region 9 with fail
      refine wp_region_ord 7 1 [0, 1, 2, 3, 4, 5, 6, 8, 9, 10, 11, 12, 13, 14] [] [0, 1, 2, 3, 4, 5, 6, 7, 8, 9, 10, 11, 12, 13, 14] (fun _ => True) (by kernel_rfl) (by kernel_rfl) trivial ?_
      repeat (first | (refine wpOrd_load rfl rfl rfl rfl (fun K hK => ?_); go_big_quiet_step (fail); refine wpQuiet_nil ?_; refine hK _ ?_; clear hK K) | (refine wpOrd_free rfl rfl rfl (fun K hK => ?_); go_big_quiet_step (fail); refine wpQuiet_nil ?_; refine hK _ ?_; clear hK K))
      refine wpOrd_fix rfl rfl (fun K hK => ?_)
      go_wp2_with (go_at_call 22; refine (HNR.out _ (by iterate 25 (first | exact Upd.refl _ _ | assumption | refine Upd.alloc ?_ _ | refine Upd.drew ?_ | refine Upd.drewN ?_ _ | refine Upd.dl ?_ | refine Upd.step ?_ (Ext.upd _) | refine Upd.nil ?_ | skip))).mono ?_; rintro e w5 ⟨rfl, u5⟩)
      have U5 : Upd [] w4 w5 := Upd.step (by iterate 25 (first | exact Upd.refl _ _ | assumption | refine Upd.alloc ?_ _ | refine Upd.drew ?_ | refine Upd.drewN ?_ _ | refine Upd.dl ?_ | refine Upd.step ?_ (Ext.upd _) | refine Upd.nil ?_ | skip)) u5
      refine ⟨fun _ => trivial, ?_⟩
      repeat (first | (refine wpOrd_load rfl rfl rfl rfl (fun K hK => ?_); go_big_quiet_step (fail); refine wpQuiet_nil ?_; refine hK _ ?_; clear hK K) | (refine wpOrd_free rfl rfl rfl (fun K hK => ?_); go_big_quiet_step (fail); refine wpQuiet_nil ?_; refine hK _ ?_; clear hK K))
      refine wpOrd_nil ?_
      go_wp2_with fail
      refine ⟨⟨k + 1, by omega, by go_num, hu.step (U4.step U5)⟩, by simp [intOf]; omega⟩
    · go_upto_region 12 with fail
      refine wp_region_lit ?_
      refine wpList_cutH 3 (fun K hK => ?_)
      simp only [List.take_succ_cons, List.take_zero]
      go_wp2_with fail
      refine Halt_.intro ?_; try simp only [List.drop_succ_cons, List.drop_zero]
      have C3 := HP.out.2.1.quiet hu
      have P3 := HP.out.1.quiet hu
      refine wpList_push rfl rfl _ _ _ _ rfl rfl rfl 4 1 1 _ Try.underlying45 infoBool rfl (by decide) (by decide) (.bool true) [.bool true] rfl rfl rfl (bools_one [true]) _ _ _ C3.a.row rfl rfl (by unfold maxLen; omega) (by omega) ?_
      intro g4 cap4 w4 o4 u4 k4
      simp only [Act.put, List.setIfInBounds_toArray, List.set_cons_zero, List.set_cons_succ]
      have D1 : ∀ k ∈ S, k ∉ (Value.slice aa al.length ca).ownBlock.toList := fun j hj hm => by
        have h1 := HP.out.2.2.1 j hj
        have h2 := C3.a.fresh j (by simpa using hm)
        omega
      have D2 : ∀ k ∈ S2, k ∉ (Value.slice aa al.length ca).ownBlock.toList := fun j hj hm => by
        have h1 := HP.out.2.2.2 j hj
        have h2 := C3.a.fresh j (by simpa using hm)
        omega
      have t4 := P3.t.upd u4 D1
      have m4 := P3.m.upd u4 D2
      have L4 : CL w4 (.slice ac cs.length cc) cs := OwnL.cl (C3.c.upd u4 (fun b hb => C3.ca b (by simpa using hb)))
      have A4 : SL w4 1 (.slice (some ⟨g4, 0, none⟩) (al.length + 1) cap4) (al ++ [true]).length (L.bools (al ++ [true])) := by
        have := SL.of_owns o4
        simpa [L.bools] using this
      have hsz := C3.u.size
      have U4 : Upd [] w w4 := by
        refine P3.u.fresh u4 (fun b hb => .inr ?_)
        have h2 := C3.a.fresh b (by simpa using hb)
        have h3 := HP.out.1.u.size
        have h4 := HW1.out
        omega
      have HN : Hid (nextRes vs es cs (al ++ [true]) = (0, 0, 1)) := by
        unfold Hid nextRes
        rw [if_pos (by have := HLEN.out; simp; omega)]
      have HH := Lib.hid (And.intro t4 (And.intro m4 (And.intro L4 A4)))
      clear t4 m4 L4 A4 D1 D2 C3 P3 o4 k4 u4
      go_wp2_with fail
      refine (Trail.Next_calls HH.out.1 HH.out.2.2.1 HH.out.2.2.2).mono ?_
      rintro e w5 ⟨rfl, u5⟩
      rw [HN.out]
      go_wp2_with fail
      refine (like_calls (HH.out.1.upd u5 (by simp)) (HH.out.2.1.upd u5 (by simp))).mono ?_
      rintro e w6 ⟨rfl, u6⟩
      go_wp2_with fail
      refine (lives_calls).mono ?_
      rintro e w7 ⟨rfl, u7⟩
      go_wp2_with fail
      go_ret
      exact ⟨rfl, ((U4.step u5).step u6).step u7⟩
end
end Law
end Go.Proofs.Ytlfcabmbakjklaa
