/- Walks through the laws of trails: TrailBytes. Conditions: none. -/
import Derived.Test.YtlfcabmbakjklaaMade
import Derived.Test.YtlfcabmbakjklaaSameB
import Derived.Test.YtlfcabmbakjklaaDec
import Derived.Test.YtlfcabmbakjklaaCopy
import Derived.Test.YtlfcabmbakjklaaREnc
import Derived.Test.YtlfcabmbakjklaaReg3
set_option linter.unusedVariables false
set_option linter.unusedSimpArgs false
set_option linter.unusedSectionVars false
open Go.RowKit
namespace Go.Proofs.Ytlfcabmbakjklaa
open L
namespace Law
open Trail Ref R01 Script Wire R02
/-- A world in which a cell holds what it held. -/
def One_ (p : Addr) (v : Value) : Type := { w : World // w.cell? p = some v }
theorem One_.c {p : Addr} {v : Value} (x : One_ p v) : x.val.cell? p = some v := x.property
attribute [go_sem] One_.c
theorem One_.of {p : Addr} {v : Value} {w : World} (h : w.cell? p = some v) : ∃ x : One_ p v, w = x.val := ⟨⟨w, h⟩, rfl⟩
theorem dec_eq {vs : Nat} {es : Es} (h : TWf vs es) {w w' : World} {e : Ending} (hd : DecT (eb vs es) w e w') :
    Upd [] w w' ∧ ∃ b S, e = .returned (.tuple #[.pointer (some ⟨b, 0, none⟩), .int .i64 0]) ∧ Tr w' b vs es (decs es) S ∧ ∀ j ∈ S, w.heap.size ≤ j := by
  obtain ⟨hu, hc⟩ := hd
  have he := dec_eb h
  refine ⟨hu, ?_⟩
  rcases hc with ⟨h1, _⟩ | ⟨vs', es', b, S, h1, h2, h3, h4⟩
  · rw [he] at h1; cases h1
  · rw [he] at h1
    cases h1
    exact ⟨b, S, h2, h3, h4⟩
theorem SL.takeB {w : World} {a : Option Addr} {n m cap : Nat} {xs : List Int} (h : SL w 1 (.slice a n cap) n (byts xs)) (hm : m ≤ n) : SL w 1 (.slice a m cap) m (byts (xs.take m)) := by
  obtain ⟨h1, a', cap', he, h2, h3, h5, h4⟩ := h
  cases he
  rw [byts_length] at h1
  refine ⟨by rw [byts_length, List.length_take]; omega, a, cap, rfl, by omega, h3, h5, ?_⟩
  rcases h4 with h4 | ⟨b, off, rfl, h4⟩
  · left; omega
  · refine .inr ⟨b, off, rfl, fun j u hj => h4 j u ?_⟩
    unfold byts at hj ⊢
    rw [List.map_take, List.getElem?_take] at hj
    split at hj
    · exact hj
    · cases hj
/-- The bytes that are tried. -/
def TriesT (ws : World) (Ls : List (List Int)) (t : Value) (w' : World) : Prop :=
  ∃ (g : Nat) (vals : List Value), t = .slice (some ⟨g, 0, none⟩) 4 4 ∧ Blk w' g vals 62 ∧ vals.length = 4 ∧ (∀ (i : Nat) (L : List Int), Ls[i]? = some L → ∃ v, vals[i]? = some v ∧ SL w' 1 v L.length (byts L)) ∧ Upd [] ws w'
theorem TriesT.mk {ws w w' : World} {L0 L1 L2 L3 : List Int} {v0 v1 v2 v3 : Value} (h0 : SL w 1 v0 L0.length (byts L0)) (h1 : SL w 1 v1 L1.length (byts L1)) (h2 : SL w 1 v2 L2.length (byts L2)) (h3 : SL w 1 v3 L3.length (byts L3)) (hu : Upd [] ws w)
    (hw : w' = w.alloc (.cells #[v0, v1, v2, v3] 62)) : TriesT ws [L0, L1, L2, L3] (.slice (some ⟨w.heap.size, 0, none⟩) 4 4) w' := by
  subst hw
  have u1 := (Upd.refl [] w).alloc (.cells #[v0, v1, v2, v3] 62)
  refine ⟨w.heap.size, [v0, v1, v2, v3], rfl, Blk.new w [v0, v1, v2, v3] 62, rfl, fun i L hL => ?_, hu.step u1⟩
  match i with
  | 0 => cases hL; exact ⟨_, rfl, h0.upd u1 (by simp)⟩
  | 1 => cases hL; exact ⟨_, rfl, h1.upd u1 (by simp)⟩
  | 2 => cases hL; exact ⟨_, rfl, h2.upd u1 (by simp)⟩
  | 3 => cases hL; exact ⟨_, rfl, h3.upd u1 (by simp)⟩
  | (i + 4) => simp at hL
/-- Two trails, apart from each other, from the script and from what stood before. -/
structure Twin (w0 : World) (b vs : Nat) (es : Es) (b' vs' : Nat) (es' : Es) (v : Value) (n : Nat) (cs : List Value) (w : World) (S S' : List Nat) : Prop where
  t : Tr w b vs es (decs es) S
  t' : Tr w b' vs' es' (decs es') S'
  sl : SL w 3 v n cs
  apart : ∀ k ∈ S, k ∉ S'
  s : ∀ k ∈ S, w0.heap.size ≤ k ∧ (0 < n → v.ownBlock ≠ some k)
  s' : ∀ k ∈ S', w0.heap.size ≤ k ∧ (0 < n → v.ownBlock ≠ some k)
  u : Upd [] w0 w
section
variable {w0 w w' : World} {b b' vs vs' vsn n : Nat} {es es' esn : Es} {v : Value} {cs : List Value} {S S' Sn : List Nat}
theorem Twin.quiet (T : Twin w0 b vs es b' vs' es' v n cs w S S') (hu : Upd [] w w') : Twin w0 b vs es b' vs' es' v n cs w' S S' :=
  ⟨T.t.upd hu (by simp), T.t'.upd hu (by simp), T.sl.upd hu (by simp), T.apart, T.s, T.s', T.u.step hu⟩
theorem Twin.swap (T : Twin w0 b vs es b' vs' es' v n cs w S S') : Twin w0 b' vs' es' b vs es v n cs w S' S :=
  ⟨T.t', T.t, T.sl, fun k hk hk2 => T.apart k hk2 hk, T.s', T.s, T.u⟩
theorem Twin.step (T : Twin w0 b vs es b' vs' es' v n cs w S S') (ht : Tr w' b vsn esn (decs esn) Sn) (ut : Upd S w w') (kt : ∀ j ∈ Sn, j ∈ S ∨ w.heap.size ≤ j) : Twin w0 b vsn esn b' vs' es' v n cs w' Sn S' := by
  have l2 := T.t'.lt
  have hz := T.u.size
  refine ⟨ht, T.t'.upd ut (fun k hk hk2 => T.apart k hk2 hk), ?_, fun k hk hk2 => ?_, fun k hk => ?_, T.s', T.u.fresh ut (fun k hk => .inr (T.s k hk).1)⟩
  · by_cases hn : 0 < n
    · exact T.sl.upd ut (fun k hk => (T.s k hk).2 hn)
    · exact SL.zero T.sl hn
  · rcases kt k hk with h | h
    · exact T.apart k h hk2
    · have := l2 k hk2; omega
  · rcases kt k hk with h | h
    · exact T.s k h
    · refine ⟨by omega, fun hn hv => ?_⟩
      have := SL.own_lt T.sl hn hv
      omega
end
section
variable {w : World}
attribute [local irreducible] L.wpOrd L.mov
set_option maxRecDepth 100000 in
set_option maxHeartbeats 8000000 in
theorem TrailBytes_calls {lv rv mv : Value} {xs rs ms : List Int} (hx : ∀ x ∈ xs, IsI64 x) (hl : SL w 1 lv xs.length (ints xs)) (hr : ∀ x ∈ rs, IsU8 x) (hrl : SL w 1 rv rs.length (byts rs)) (hmx : ∀ x ∈ ms, IsI64 x) (hml : SL w 1 mv ms.length (ints ms))
    (vars at' c : Int) (hv : IsI64 vars) (hat : IsI64 at') (hc : IsU8 c) :
    Calls Try.prog 8 #[lv, .int .i64 vars, rv, .int .i64 at', .int .u8 c, mv] w fun e w' => e = .returned (.bool true) ∧ Upd [] w w' := by
  have ha0 := around_lo (n := vars) (k := 9) (by omega)
  have ha1 := around_hi (n := vars) (k := 9) (by omega)
  obtain ⟨K, hK⟩ := Int.eq_ofNat_of_zero_le ha0
  have hK9 : K ≤ 9 := by omega
  have HX := Lib.hid (And.intro hx (And.intro hl (And.intro hmx hml)))
  have HRW := Lib.hid (And.intro hr hrl)
  clear hx hl hmx hml hr hrl
  go_enter Try.func8, Try.ntmps8
  go_wp2_with fail
  refine (Around_calls vars 9 _ hv (by omega) (by omega)).mono ?_
  rintro e _ ⟨rfl, rfl⟩
  rw [hK]
  go_wp2_with fail
  refine (made_calls HX.out.1 HX.out.2.1 K hK9).mono ?_
  rintro e w1 ⟨b, mb, vs, es, S, S2, rfl, P, hvs20, _⟩
  go_wp2_with fail
  refine (Encode_calls P.t).mono ?_
  rintro e w2 ⟨a2, cap2, rfl, o2, u2⟩
  have P2 := P.quiet u2
  have hbl := eb_len vs es
  have hel := P.t.wf.len
  have hb1 : (eb vs es).length ≤ 420 := by omega
  have hb0 : 0 < (eb vs es).length := by
    have := ib_length vs
    unfold eb
    simp only [List.length_append]; omega
  have hbu : ∀ x ∈ eb vs es, IsU8 x := by
    intro x hx
    unfold eb at hx
    rcases List.mem_append.1 hx with hx | hx
    · rcases List.mem_append.1 hx with hx | hx
      · exact ib_u8 (by unfold IsI64; omega) x hx
      · exact ib_u8 (by unfold IsI64; omega) x hx
    · obtain ⟨e, he, hx⟩ := List.mem_flatMap.1 hx
      have h1 := P.t.wf.lit e he
      have h2 := P.t.wf.rsn e he
      rcases List.mem_append.1 hx with hx | hx
      · exact ib_u8 (by unfold IsI64; omega) x hx
      · exact ib_u8 (by unfold IsI64; omega) x hx
  have hcap2 : (eb vs es).length ≤ cap2 := by
    obtain ⟨_, _, he, h, _⟩ := o2.sl.val
    cases he; exact h
  have HB := Lib.hid (And.intro P2 (And.intro o2.sl (And.intro hbu P.t.wf)))
  have hw2 := P2.u.size
  have m0 := (Rf.cell0 P2.m).1
  clear P u2 P2 o2 hbu hel hbl
  go_wp2_with fail
  refine (Decode_calls HB.out.2.1 HB.out.2.2.1 (by omega)).mono ?_
  rintro e w3 hd
  obtain ⟨u3, bu, Su, rfl, tu, ku⟩ := dec_eq HB.out.2.2.2 hd
  have HU := Lib.hid (And.intro u3 (And.intro tu ku))
  clear hd u3 tu ku
  go_wp2_with fail
  refine (Copy_calls (HB.out.1.t.upd HU.out.1 (by simp))).mono ?_
  rintro e w4 ⟨b4, S4, rfl, ty, u4, ky⟩
  have HY := Lib.hid (And.intro (HU.out.1.step u4) (And.intro ty (And.intro (HU.out.2.1.upd u4 (by simp)) (And.intro (fun j hj => (show j ∉ Su from fun hm => by have := HU.out.2.1.lt j hm; have := ky j hj; omega)) (And.intro (fun j hj => (show w2.heap.size ≤ j by have := ky j hj; have := HU.out.1.size; omega)) HU.out.2.2)))))
  clear ty u4 ky HU
  go_wp2_with fail
  refine (Read_calls (HB.out.2.1.upd HY.out.1 (by simp)) HB.out.2.2.1 (by omega)).mono ?_
  rintro e w5 ⟨q, Sr, rfl, r5, u5, k5⟩
  go_wp2_with fail
  have hri := Int_r_calls r5 (rdU_lt HB.out.2.2.1)
  have r5lt := r5.lt
  have hqS : q ∈ Sr := by obtain ⟨sv, rfl, _⟩ := r5.ex; simp
  have hq4 := k5 q hqS
  have h24 := HY.out.1.size
  have y5 := HY.out.2.1.upd u5 (by simp)
  have t5 := HY.out.2.2.1.upd u5 (by simp)
  have HQY : ∀ j ∈ S4, j ≠ q := fun j hj => by have := HY.out.2.1.lt j hj; omega
  have HQU : ∀ j ∈ Su, j ≠ q := fun j hj => by have := HY.out.2.2.1.lt j hj; omega
  have HR5 := Lib.hid (And.intro r5 (And.intro y5 (And.intro t5 (And.intro HQY (And.intro HQU (HY.out.1.step u5))))))
  clear hri r5 u5 k5 y5 t5 HQY HQU r5lt
  have m5 := HR5.out.2.2.2.2.2.some m0 (by simp)
  have hbz : (((eb vs es).length : Int) == 0) = false := by rw [beq_eq_false_iff_ne]; omega
  have ne : Nonempty (One_ ⟨mb, 0, none⟩ (.int .i64 vs)) := ⟨⟨w5, m5⟩⟩
  refine wp_region_ord 31 4 [0, 1, 2, 3, 4, 5, 6, 7, 8, 9, 10, 11, 12, 13, 14, 15, 16, 17, 18, 19, 20, 22, 23, 24, 25, 26, 27, 28, 29, 30, 33, 34, 35, 36, 37, 39, 40, 41, 42, 43, 45, 46] [25] [0, 1, 2, 3, 4, 5, 6, 7, 8, 9, 10, 11, 12, 13, 14, 15, 16, 17, 18, 19, 20, 22, 23, 24, 25, 21, 26, 27, 28, 29, 30, 31, 32, 33, 34, 35, 36, 37, 38, 39, 40, 41, 42, 43, 44, 45, 46] (fun w' => ∃ x : One_ ⟨mb, 0, none⟩ (.int .i64 vs), w' = x.val) (by kernel_rfl) (by kernel_rfl) (One_.of m5) ?_
  repeat (first | (refine wpOrd_load rfl rfl rfl rfl (fun K hK => ?_); go_big_quiet_step (fail); refine wpQuiet_nil ?_; refine hK _ ?_; clear hK K) | (refine wpOrd_free rfl rfl rfl (fun K hK => ?_); go_big_quiet_step (fail); refine wpQuiet_nil ?_; refine hK _ ?_; clear hK K))
  refine wpOrd_fix rfl rfl (fun K hK => ?_)
  go_wp2_with (go_at_call 40; refine (Int_r_calls (HR5.out.1.upd (T := []) (by iterate 25 (first | exact Upd.refl _ _ | assumption | refine Upd.alloc ?_ _ | refine Upd.drew ?_ | refine Upd.drewN ?_ _ | refine Upd.dl ?_ | refine Upd.step ?_ (Ext.upd _) | refine Upd.nil ?_ | skip)) (by simp)) (rdU_lt HB.out.2.2.1)).mono ?_; rintro e w6 ⟨rfl, _, u6⟩; rw [decA_eb HB.out.2.2.2, uzz_zz])
  have H6 := Lib.hid (show Upd [] w2 w6 from Upd.fresh (show Upd [] w2 _ from Upd.step HR5.out.2.2.2.2.2 (by iterate 25 (first | exact Upd.refl _ _ | assumption | refine Upd.alloc ?_ _ | refine Upd.drew ?_ | refine Upd.drewN ?_ _ | refine Upd.dl ?_ | refine Upd.step ?_ (Ext.upd _) | refine Upd.nil ?_ | skip))) u6 (fun j hj => by simp at hj; subst hj; exact .inr (by omega)))
  have Y6 := Lib.hid (And.intro ((HR5.out.2.1.upd (T := []) (by iterate 25 (first | exact Upd.refl _ _ | assumption | refine Upd.alloc ?_ _ | refine Upd.drew ?_ | refine Upd.drewN ?_ _ | refine Upd.dl ?_ | refine Upd.step ?_ (Ext.upd _) | refine Upd.nil ?_ | skip)) (by simp)).upd u6 (fun j hj hm => HR5.out.2.2.2.1 j hj (by simpa using hm))) ((HR5.out.2.2.1.upd (T := []) (by iterate 25 (first | exact Upd.refl _ _ | assumption | refine Upd.alloc ?_ _ | refine Upd.drew ?_ | refine Upd.drewN ?_ _ | refine Upd.dl ?_ | refine Upd.step ?_ (Ext.upd _) | refine Upd.nil ?_ | skip)) (by simp)).upd u6 (fun j hj hm => HR5.out.2.2.2.2.1 j hj (by simpa using hm))))
  clear u6
  refine ⟨fun _ => One_.of (H6.out.some m0 (by simp)), ?_⟩
  repeat (first | (refine wpOrd_load rfl rfl rfl rfl (fun K hK => ?_); go_big_quiet_step (fail); refine wpQuiet_nil ?_; refine hK _ ?_; clear hK K) | (refine wpOrd_free rfl rfl rfl (fun K hK => ?_); go_big_quiet_step (fail); refine wpQuiet_nil ?_; refine hK _ ?_; clear hK K))
  refine wpOrd_fix rfl rfl (fun K hK => ?_)
  go_wp2_with (go_at_call 41; refine (Ref.Encode_calls (HB.out.1.m.upd (T := []) (Upd.step H6.out (by iterate 25 (first | exact Upd.refl _ _ | assumption | refine Upd.alloc ?_ _ | refine Upd.drew ?_ | refine Upd.drewN ?_ _ | refine Upd.dl ?_ | refine Upd.step ?_ (Ext.upd _) | refine Upd.nil ?_ | skip))) (by simp))).mono ?_; rintro e w7 ⟨a7, cap7, rfl, o7⟩)
  have H7 := Lib.hid (And.intro o7.sl (H6.out.step (show Upd [] w6 w7 from Upd.step (by iterate 25 (first | exact Upd.refl _ _ | assumption | refine Upd.alloc ?_ _ | refine Upd.drew ?_ | refine Upd.drewN ?_ _ | refine Upd.dl ?_ | refine Upd.step ?_ (Ext.upd _) | refine Upd.nil ?_ | skip)) o7.u)))
  have Y7 := Lib.hid (And.intro (Y6.out.1.upd (show Upd [] w6 w7 from Upd.step (by iterate 25 (first | exact Upd.refl _ _ | assumption | refine Upd.alloc ?_ _ | refine Upd.drew ?_ | refine Upd.drewN ?_ _ | refine Upd.dl ?_ | refine Upd.step ?_ (Ext.upd _) | refine Upd.nil ?_ | skip)) o7.u) (by simp)) (Y6.out.2.upd (show Upd [] w6 w7 from Upd.step (by iterate 25 (first | exact Upd.refl _ _ | assumption | refine Upd.alloc ?_ _ | refine Upd.drew ?_ | refine Upd.drewN ?_ _ | refine Upd.dl ?_ | refine Upd.step ?_ (Ext.upd _) | refine Upd.nil ?_ | skip)) o7.u) (by simp)))
  clear o7
  refine ⟨fun hC => absurd hC (by decide), ?_⟩
  repeat (first | (refine wpOrd_load rfl rfl rfl rfl (fun K hK => ?_); go_big_quiet_step (fail); refine wpQuiet_nil ?_; refine hK _ ?_; clear hK K) | (refine wpOrd_free rfl rfl rfl (fun K hK => ?_); go_big_quiet_step (fail); refine wpQuiet_nil ?_; refine hK _ ?_; clear hK K))
  refine wpOrd_fix rfl rfl (fun K hK => ?_)
  go_wp2_with (go_at_call 35; refine (SameBytes_calls ((HB.out.2.1.upd H7.out.2 (by simp)).upd (S := []) (by iterate 25 (first | exact Upd.refl _ _ | assumption | refine Upd.alloc ?_ _ | refine Upd.drew ?_ | refine Upd.drewN ?_ _ | refine Upd.dl ?_ | refine Upd.step ?_ (Ext.upd _) | refine Upd.nil ?_ | skip)) (by simp)) (H7.out.1.upd (S := []) (by iterate 25 (first | exact Upd.refl _ _ | assumption | refine Upd.alloc ?_ _ | refine Upd.drew ?_ | refine Upd.drewN ?_ _ | refine Upd.dl ?_ | refine Upd.step ?_ (Ext.upd _) | refine Upd.nil ?_ | skip)) (by simp))).mono ?_; rintro e w8 ⟨rfl, u8⟩; rw [decide_eq_true rfl])
  have H8 := Lib.hid (show Upd [] w7 w8 from Upd.step (by iterate 25 (first | exact Upd.refl _ _ | assumption | refine Upd.alloc ?_ _ | refine Upd.drew ?_ | refine Upd.drewN ?_ _ | refine Upd.dl ?_ | refine Upd.step ?_ (Ext.upd _) | refine Upd.nil ?_ | skip)) u8)
  clear u8
  refine ⟨fun hC => absurd hC (by decide), ?_⟩
  repeat (first | (refine wpOrd_load rfl rfl rfl rfl (fun K hK => ?_); go_big_quiet_step (fail); refine wpQuiet_nil ?_; refine hK _ ?_; clear hK K) | (refine wpOrd_free rfl rfl rfl (fun K hK => ?_); go_big_quiet_step (fail); refine wpQuiet_nil ?_; refine hK _ ?_; clear hK K))
  refine wpOrd_fix rfl rfl (fun K hK => ?_)
  go_wp2_with (go_at_call 14; refine (like_calls ((Y7.out.2.upd H8.out (by simp)).upd (T := []) (by iterate 25 (first | exact Upd.refl _ _ | assumption | refine Upd.alloc ?_ _ | refine Upd.drew ?_ | refine Upd.drewN ?_ _ | refine Upd.dl ?_ | refine Upd.step ?_ (Ext.upd _) | refine Upd.nil ?_ | skip)) (by simp)) (HB.out.1.m.upd (T := []) (Upd.step (H7.out.2.step H8.out) (by iterate 25 (first | exact Upd.refl _ _ | assumption | refine Upd.alloc ?_ _ | refine Upd.drew ?_ | refine Upd.drewN ?_ _ | refine Upd.dl ?_ | refine Upd.step ?_ (Ext.upd _) | refine Upd.nil ?_ | skip))) (by simp))).mono ?_; rintro e w9 ⟨rfl, u9⟩)
  have H9 := Lib.hid (show Upd [] w8 w9 from Upd.step (by iterate 25 (first | exact Upd.refl _ _ | assumption | refine Upd.alloc ?_ _ | refine Upd.drew ?_ | refine Upd.drewN ?_ _ | refine Upd.dl ?_ | refine Upd.step ?_ (Ext.upd _) | refine Upd.nil ?_ | skip)) u9)
  clear u9
  refine ⟨fun hC => absurd hC (by decide), ?_⟩
  repeat (first | (refine wpOrd_load rfl rfl rfl rfl (fun K hK => ?_); go_big_quiet_step (fail); refine wpQuiet_nil ?_; refine hK _ ?_; clear hK K) | (refine wpOrd_free rfl rfl rfl (fun K hK => ?_); go_big_quiet_step (fail); refine wpQuiet_nil ?_; refine hK _ ?_; clear hK K))
  refine wpOrd_fix rfl rfl (fun K hK => ?_)
  go_wp2_with (go_at_call 14; refine (like_calls (((Y7.out.1.upd H8.out (by simp)).upd H9.out (by simp)).upd (T := []) (by iterate 25 (first | exact Upd.refl _ _ | assumption | refine Upd.alloc ?_ _ | refine Upd.drew ?_ | refine Upd.drewN ?_ _ | refine Upd.dl ?_ | refine Upd.step ?_ (Ext.upd _) | refine Upd.nil ?_ | skip)) (by simp)) (HB.out.1.m.upd (T := []) (Upd.step ((H7.out.2.step H8.out).step H9.out) (by iterate 25 (first | exact Upd.refl _ _ | assumption | refine Upd.alloc ?_ _ | refine Upd.drew ?_ | refine Upd.drewN ?_ _ | refine Upd.dl ?_ | refine Upd.step ?_ (Ext.upd _) | refine Upd.nil ?_ | skip))) (by simp))).mono ?_; rintro e wa ⟨rfl, ua⟩)
  have HA := Lib.hid (show Upd [] w9 wa from Upd.step (by iterate 25 (first | exact Upd.refl _ _ | assumption | refine Upd.alloc ?_ _ | refine Upd.drew ?_ | refine Upd.drewN ?_ _ | refine Upd.dl ?_ | refine Upd.step ?_ (Ext.upd _) | refine Upd.nil ?_ | skip)) ua)
  clear ua
  refine ⟨fun hC => absurd hC (by decide), ?_⟩
  repeat (first | (refine wpOrd_load rfl rfl rfl rfl (fun K hK => ?_); go_big_quiet_step (fail); refine wpQuiet_nil ?_; refine hK _ ?_; clear hK K) | (refine wpOrd_free rfl rfl rfl (fun K hK => ?_); go_big_quiet_step (fail); refine wpQuiet_nil ?_; refine hK _ ?_; clear hK K))
  refine wpOrd_nil ?_
  have UA := ((H7.out.2.step H8.out).step H9.out).step HA.out
  have Y0 := Lib.hid (And.intro (((Y7.out.1.upd H8.out (by simp)).upd H9.out (by simp)).upd HA.out (by simp)) (((Y7.out.2.upd H8.out (by simp)).upd H9.out (by simp)).upd HA.out (by simp)))
  have KA := Lib.hid (And.intro HY.out.2.2.2.1 (And.intro HY.out.2.2.2.2.1 HY.out.2.2.2.2.2))
  have ma := UA.some m0 (by simp)
  have HUA := Lib.hid UA
  clear UA H6 Y6 H7 Y7 H8 H9 HA HR5 HY m5 ne hbz hq4 h24
  go_wp2_with fail
  have SC := Script_calls HX.out.2.2.1 (HX.out.2.2.2.upd (HB.out.1.u.step HUA.out) (by simp)) vs 6 (by omega) (by omega)
  rw [show ((6 : Nat) : Int) = 6 from rfl] at SC
  refine SC.mono ?_
  rintro e wb ⟨v, ops, rfl, sb, ok, h24, ub, vb⟩
  have hly := Y0.out.1.lt
  have hlu := Y0.out.2.lt
  have T0 : Twin w2 b4 vs es bu vs es v ops.length (opCells ops) wb S4 Su := by
    refine ⟨Y0.out.1.upd ub (by simp), Y0.out.2.upd ub (by simp), sb, KA.out.1, fun k hk => ⟨KA.out.2.1 k hk, fun _ hs => ?_⟩, fun k hk => ⟨KA.out.2.2 k hk, fun _ hs => ?_⟩, HUA.out.step ub⟩
    · have := vb k hs
      have := hly k hk
      omega
    · have := vb k hs
      have := hlu k hk
      omega
  clear vb SC ub ma hly hlu
  obtain ⟨a, cap, rfl, q1, r1, hcc⟩ := SL.form_ sb
  have HO := Lib.hid ok
  have HI := Lib.hid T0
  clear sb T0 ok Y0 KA HUA
  go_wp2_with fail
  go_loopw [21] (fun i wr => ∃ (k : Nat) (vs' : Nat) (es' : Es) (S4 Su : List Nat), i = .int .i64 k ∧ k ≤ ops.length ∧ Twin w2 b4 vs' es' bu vs' es' (.slice a ops.length cap) ops.length (opCells ops) wr S4 Su) (fun i _ => ops.length - (intOf i).toNat)
  case atStart => exact ⟨0, vs, es, S4, Su, rfl, Nat.zero_le _, HI.out⟩
  case round =>
    clear HI
    obtain ⟨k, vs', es', S4, Su, rfl, hk, T⟩ := hrel
    by_cases hlt : k < ops.length
    · obtain ⟨g, off, rfl⟩ := hcc (by omega)
      obtain ⟨c0, c1, c2⟩ := op_at T.sl hlt
      have oki := HO.out _ (List.getElem_mem hlt)
      obtain ⟨⟨kk, nn, mm⟩, hop⟩ : ∃ op, ops[k] = op := ⟨_, rfl⟩
      rw [hop] at c0 c1 c2 oki
      simp only at c0 c1 c2
      have ne : Nonempty (Tri g (off + k * 3) (.int .i64 kk) (.int .i64 nn) (.int .i64 mm)) := ⟨⟨wr, c0, c1, c2⟩⟩
      have HT := Lib.hid T
      clear T
      go_upto_region 14 with fail
      refine wp_region_ord 11 2 [0, 1, 2, 3, 4, 6, 7, 8, 9, 10, 12] [4, 10] [0, 1, 2, 3, 4, 6, 7, 8, 9, 10, 5, 11, 12] (fun w' => ∃ x : Tri g (off + k * 3) (.int .i64 kk) (.int .i64 nn) (.int .i64 mm), w' = x.val) (by kernel_rfl) (by kernel_rfl) (Tri.of c0 c1 c2) ?_
      repeat (first | (refine wpOrd_load rfl rfl rfl rfl (fun K hK => ?_); go_big_quiet_step (fail); refine wpQuiet_nil ?_; refine hK _ ?_; clear hK K) | (refine wpOrd_free rfl rfl rfl (fun K hK => ?_); go_big_quiet_step (fail); refine wpQuiet_nil ?_; refine hK _ ?_; clear hK K))
      refine wpOrd_fix rfl rfl (fun K hK => ?_)
      go_wp2_with (go_at_call 12; refine (do_calls (HT.out.t.upd (T := []) (by iterate 25 (first | exact Upd.refl _ _ | assumption | refine Upd.alloc ?_ _ | refine Upd.drew ?_ | refine Upd.drewN ?_ _ | refine Upd.dl ?_ | refine Upd.step ?_ (Ext.upd _) | refine Upd.nil ?_ | skip)) (by simp)) kk nn mm oki.2).mono ?_; rintro e w4 ⟨rfl, S', ht, ut, kt⟩)
      have T4 := (HT.out.quiet (by iterate 25 (first | exact Upd.refl _ _ | assumption | refine Upd.alloc ?_ _ | refine Upd.drew ?_ | refine Upd.drewN ?_ _ | refine Upd.dl ?_ | refine Upd.step ?_ (Ext.upd _) | refine Upd.nil ?_ | skip))).step ht ut kt
      clear ht ut kt HT
      obtain ⟨c0', c1', c2'⟩ := op_at T4.sl hlt
      rw [hop] at c0' c1' c2'
      refine ⟨fun _ => Tri.of c0' c1' c2', ?_⟩
      repeat (first | (refine wpOrd_load rfl rfl rfl rfl (fun K hK => ?_); go_big_quiet_step (fail); refine wpQuiet_nil ?_; refine hK _ ?_; clear hK K) | (refine wpOrd_free rfl rfl rfl (fun K hK => ?_); go_big_quiet_step (fail); refine wpQuiet_nil ?_; refine hK _ ?_; clear hK K))
      refine wpOrd_fix rfl rfl (fun K hK => ?_)
      go_wp2_with (go_at_call 12; refine (do_calls T4.t' kk nn mm oki.2).mono ?_; rintro e w5 ⟨rfl, S2', hm, um, km⟩)
      have T5 := (T4.swap.step hm um km).swap
      clear hm um km T4
      generalize opErr vs' es' kk nn mm = er at *
      have HT := Lib.hid T5
      clear T5
      refine ⟨fun hC => absurd hC (by decide), ?_⟩
      repeat (first | (refine wpOrd_load rfl rfl rfl rfl (fun K hK => ?_); go_big_quiet_step (fail); refine wpQuiet_nil ?_; refine hK _ ?_; clear hK K) | (refine wpOrd_free rfl rfl rfl (fun K hK => ?_); go_big_quiet_step (fail); refine wpQuiet_nil ?_; refine hK _ ?_; clear hK K))
      refine wpOrd_nil ?_
      have T6 := HT.out
      go_wp2_with fail
      refine ⟨⟨k + 1, _, _, _, _, by simp, by omega, T6⟩, by simp [intOf]; omega⟩
    · have HT := Lib.hid T
      clear T HO hcc
      go_wp2_with fail
      refine (Encode_calls HT.out.t).mono ?_
      rintro e w6 ⟨a6, cap6, rfl, o6, u6⟩
      have HT6 := Lib.hid (And.intro (HT.out.quiet u6) o6)
      clear u6 o6 HT
      go_wp2_with fail
      refine (Encode_calls HT6.out.1.t').mono ?_
      rintro e w7 ⟨a7, cap7, rfl, o7, u7⟩
      have HT7 := Lib.hid (And.intro (HT6.out.1.quiet u7) (And.intro (HT6.out.2.upd u7 (by simp)) o7))
      clear u7 o7 HT6
      go_wp2_with fail
      refine (SameBytes_calls HT7.out.2.1.sl HT7.out.2.2.sl).mono ?_
      rintro e w8 ⟨rfl, u8⟩
      rw [decide_eq_true rfl]
      have U8 := HT7.out.1.u.step u8
      have HU8 := Lib.hid U8
      clear u8 U8 HT7
      go_wp2_with fail
      refine (like_calls (HB.out.1.t.upd HU8.out (by simp)) (HB.out.1.m.upd HU8.out (by simp))).mono ?_
      rintro e w9 ⟨rfl, u9⟩
      have HU9 := Lib.hid (HU8.out.step u9)
      clear u9 HU8
      go_wp2_with fail
      refine (Few_calls (HB.out.2.1.upd HU9.out (by simp)) (eb vs es).length (by omega)).mono ?_
      rintro e wa ⟨aa, ca, rfl, oa, ua⟩
      rw [List.take_length] at oa ⊢
      have HA := Lib.hid (And.intro oa (HU9.out.step ua))
      have hfa := oa.fresh
      have hz9 := HU9.out.size
      have HFA := Lib.hid hfa
      clear oa ua HU9 hfa
      go_wp2_with fail
      have hat0 := around_lo (n := at') (k := (eb vs es).length) (by omega)
      have hat1 := around_hi (n := at') (k := (eb vs es).length) (by omega)
      obtain ⟨ix, hix⟩ := Int.eq_ofNat_of_zero_le hat0
      have hixl : ix < (eb vs es).length := by omega
      have HIX := Lib.hid hix
      obtain ⟨gb, cb, he, hgb, hcb⟩ := owns_form HA.out.1.row hb0
      cases he
      obtain ⟨_, hrow⟩ := HA.out.1.row
      rcases hrow with ⟨hr, _⟩ | ⟨g', cap', cur, he, _, hcur, hnc, hcm, hcs, htake⟩
      · cases hr
      cases he
      have BB : Blk wa gb (byts (eb vs es) ++ cur.toList.drop (eb vs es).length) 5 := by
        unfold Blk
        rw [hcur]
        congr 2
        apply Array.toList_inj.1
        simp only [List.toList_toArray]
        rw [← htake]
        conv => lhs; rw [← List.take_append_drop (eb vs es).length cur.toList]
        rw [Nat.mul_one]
      have cb0 := BB.cell (i := ix) (by rw [List.getElem?_append_left (by rw [byts_length]; exact hixl)]; exact byts_get (List.getElem?_eq_getElem hixl))
      have fb0 := BB.free ix
      have lb0 := BB.lt
      have hgb9 := HFA.out gb rfl
      generalize (eb vs es)[ix] = yold at *
      have HBB := Lib.hid BB
      clear hix hat0 hat1 BB hcur htake
      refine (Around_calls at' (eb vs es).length _ hat (by omega) (by omega)).mono ?_
      rintro e _ ⟨rfl, rfl⟩
      rw [HIX.out]
      go_wp2_with fail
      have US : Upd [gb] wa (wa.setCell ⟨gb, ix, none⟩ (.int .u8 c)) := (Upd.refl [gb] wa).set (by simp) _
      have UW : Upd [] w2 (wa.setCell ⟨gb, ix, none⟩ (.int .u8 c)) := HA.out.2.fresh US (fun j hj => by simp at hj; subst hj; exact .inr (by omega))
      have BS := HBB.out.set ix (.int .u8 c)
      rw [List.set_append_left _ _ (by rw [byts_length]; exact hixl), show (byts (eb vs es)).set ix (.int .u8 c) = byts ((eb vs es).set ix c) by simp [byts, List.map_set]] at BS
      have hel : ((eb vs es).set ix c).length = (eb vs es).length := List.length_set
      have s1 : SL (wa.setCell ⟨gb, ix, none⟩ (.int .u8 c)) 1 (.slice (some ⟨gb, 0, none⟩) (eb vs es).length ca) ((eb vs es).set ix c).length (byts ((eb vs es).set ix c)) := by
        rw [hel]
        exact SL.of_blk BS (by rw [byts_length, hel]; omega) hnc hcm
      have s2 := SL.takeB (m := (eb vs es).length - 1) (HB.out.2.1.upd UW (by simp)) (by omega)
      have sb := HB.out.2.1.upd UW (by simp)
      have sr := HRW.out.2.upd (HB.out.1.u.step UW) (by simp)
      have hset : ∀ x ∈ (eb vs es).set ix c, IsU8 x := fun x hx => by
        rcases List.mem_or_eq_of_mem_set hx with h | rfl
        · exact HB.out.2.2.1 x h
        · exact hc
      generalize wa.setCell ⟨gb, ix, none⟩ (.int .u8 c) = ws at *
      generalize (eb vs es).set ix c = e2 at *
      have HSS := Lib.hid (And.intro UW (And.intro s1 (And.intro s2 (And.intro sr (And.intro hset (And.intro hel sb))))))
      clear US UW BS s1 s2 sr hset HBB hel sb
      have htk : ((eb vs es).take ((eb vs es).length - 1)).length = (eb vs es).length - 1 := by rw [List.length_take]; omega
      have HTK := Lib.hid htk
      clear htk
      go_cut [23] (fun t w' => TriesT ws [rs.take 30, e2, (eb vs es).take ((eb vs es).length - 1), eb vs es ++ [c]] t w')
      case first =>
        have hi1 : (1 : Int) ≤ ((eb vs es).length : Int) := by omega
        have hi2 : ((eb vs es).length : Int) - 1 ≤ cap2 := by omega
        have e1 : (((eb vs es).length : Int) - 1).toNat = (eb vs es).length - 1 := by omega
        refine wp_region_wa 17 17 (fun _ => True) (by kernel_rfl) (by kernel_rfl) trivial ?_
        (refine WA.free 0 rfl rfl (by kernel_rfl) (fun K hK => ?_); go_big_quiet_step (fail); refine wpQuiet_nil ?_; refine hK _ ?_; clear hK K); (refine WA.free 2 rfl rfl (by kernel_rfl) (fun K hK => ?_); go_big_quiet_step (fail); refine wpQuiet_nil ?_; refine hK _ ?_; clear hK K); (refine WA.free 3 rfl rfl (by kernel_rfl) (fun K hK => ?_); go_big_quiet_step (fail); refine wpQuiet_nil ?_; refine hK _ ?_; clear hK K); (refine WA.free 4 rfl rfl (by kernel_rfl) (fun K hK => ?_); go_big_quiet_step (fail); refine wpQuiet_nil ?_; refine hK _ ?_; clear hK K); (refine WA.free 5 rfl rfl (by kernel_rfl) (fun K hK => ?_); go_big_quiet_step (fail); refine wpQuiet_nil ?_; refine hK _ ?_; clear hK K); (refine WA.free 6 rfl rfl (by kernel_rfl) (fun K hK => ?_); go_big_quiet_step (fail); refine wpQuiet_nil ?_; refine hK _ ?_; clear hK K); (refine WA.free 7 rfl rfl (by kernel_rfl) (fun K hK => ?_); go_big_quiet_step (fail); refine wpQuiet_nil ?_; refine hK _ ?_; clear hK K); (refine WA.free 8 rfl rfl (by kernel_rfl) (fun K hK => ?_); go_big_quiet_step (fail); refine wpQuiet_nil ?_; refine hK _ ?_; clear hK K); (refine WA.free 9 rfl rfl (by kernel_rfl) (fun K hK => ?_); go_big_quiet_step (fail); refine wpQuiet_nil ?_; refine hK _ ?_; clear hK K); (refine WA.free 10 rfl rfl (by kernel_rfl) (fun K hK => ?_); go_big_quiet_step (fail); refine wpQuiet_nil ?_; refine hK _ ?_; clear hK K); (refine WA.free 12 rfl rfl (by kernel_rfl) (fun K hK => ?_); go_big_quiet_step (fail); refine wpQuiet_nil ?_; refine hK _ ?_; clear hK K)
        refine WA.two 1 13 (by kernel_rfl) (Do_.mk rfl (fun K hK => ?_)) (Do_.mk rfl (fun K hK => ?_))
        · go_wp2_with (go_at_call 42; refine (Few_calls (HSS.out.2.2.2.1.upd (S := []) (show Upd [] ws _ from (by iterate 25 (first | exact Upd.refl _ _ | assumption | refine Upd.alloc ?_ _ | refine Upd.drew ?_ | refine Upd.drewN ?_ _ | refine Upd.dl ?_ | refine Upd.step ?_ (Ext.upd _) | refine Upd.nil ?_ | skip))) (by simp)) 30 (by omega)).mono ?_; rintro e wA ⟨aA, cA, rfl, oA, uA⟩)
          have HA1 := Lib.hid (And.intro (show Upd [] ws wA from Upd.step (by iterate 25 (first | exact Upd.refl _ _ | assumption | refine Upd.alloc ?_ _ | refine Upd.drew ?_ | refine Upd.drewN ?_ _ | refine Upd.dl ?_ | refine Upd.step ?_ (Ext.upd _) | refine Upd.nil ?_ | skip)) uA) oA)
          clear oA uA
          refine WA.keep trivial ?_
          refine WA.two 11 13 (by kernel_rfl) (Do_.mk rfl (fun K hK => ?_)) (Do_.mk rfl (fun K hK => ?_))
          · go_wp2_with (go_at_call 42; refine (Few_calls (HSS.out.2.2.2.2.2.2.upd (S := []) (show Upd [] ws _ from Upd.step HA1.out.1 (by iterate 25 (first | exact Upd.refl _ _ | assumption | refine Upd.alloc ?_ _ | refine Upd.drew ?_ | refine Upd.drewN ?_ _ | refine Upd.dl ?_ | refine Upd.step ?_ (Ext.upd _) | refine Upd.nil ?_ | skip))) (by simp)) (eb vs es).length (by omega)).mono ?_; rintro e wB ⟨aB, cB, rfl, oB, uB⟩; rw [List.take_length] at oB ⊢)
            have HB1 := Lib.hid (And.intro (show Upd [] ws wB from Upd.step HA1.out.1 uB) (And.intro oB uB))
            clear oB uB
            refine WA.keep trivial ?_
            refine WA.one 13 (by kernel_rfl) (Do_.mk rfl (fun K hK => ?_))
            go_wp2_with fail
            have BC := Blk.new (wB) [.int .u8 c] 5
            have uC := (Upd.refl [] (wB)).alloc (.cells #[.int .u8 c] 5)
            generalize World.alloc (wB) (.cells #[.int .u8 c] 5) = wC at *
            generalize hgC : Array.size (World.heap (wB)) = gC at *
            have HC := Lib.hid (And.intro (show Upd [] ws wC from HB1.out.1.step uC) (And.intro BC uC))
            clear uC BC hgC
            have HF := Lib.hid (And.intro (ownsRow_updL HB1.out.2.1.row HC.out.2.2 (by simp) : World.ownsRow wC 0 5 1 (.slice aB (eb vs es).length cB) (eb vs es).length (byts (eb vs es))) (And.intro (SL.of_blk (pad := []) (xs := byts [c]) (show Blk wC gC (byts [c] ++ []) 5 from HC.out.2.1) rfl (Nat.le_refl _) (by unfold maxLen; omega) : SL wC 1 (.slice (some ⟨gC, 0, none⟩) 1 1) [c].length (byts [c])) (And.intro ((HA1.out.2.sl.upd HB1.out.2.2 (by simp)).upd HC.out.2.2 (by simp) : SL wC 1 (.slice aA (rs.take 30).length cA) (rs.take 30).length (byts (rs.take 30))) (And.intro (HC.out.1 : Upd [] ws wC) (fun j hj => (show ws.heap.size ≤ j ∧ (Value.slice aA (rs.take 30).length cA).ownBlock ≠ some j from by have h1 := HB1.out.2.1.fresh j hj; have h2 := HA1.out.1.size; have h3 := HB1.out.2.2.size; exact ⟨by omega, fun h => by have := HA1.out.2.lt j h; omega⟩))))))
            refine WA.keep trivial ?_
            refine WA.one 14 (by kernel_rfl) (Do_.mk rfl (fun K hK => ?_))
            go_wp2_with (refine wpList_appS rfl _ _ _ rfl 5 1 1 _ Try.underlying62 infoByte rfl (by decide) (.slice aB (eb vs es).length cB) _ _ rfl HF.out.1 _ _ _ rfl HF.out.2.1 (byts_one _) (by unfold maxLen; omega) (by omega) ?_; intro a14 cap14 w14 o14 u14 k14; simp only [Act.put, List.setIfInBounds_toArray, List.set_cons_zero, List.set_cons_succ])
            have HG := Lib.hid (And.intro (HF.out.2.2.2.1.fresh u14 (fun j hj => .inr (HF.out.2.2.2.2 j (by simpa using hj)).1)) (And.intro (HF.out.2.2.1.upd u14 (fun j hj => (HF.out.2.2.2.2 j (by simpa using hj)).2)) (SL.of_owns o14)))
            clear o14 u14 k14
            refine WA.keep trivial ?_
            refine WA.one 15 (by kernel_rfl) (Do_.mk rfl (fun K hK => ?_))
            go_wp2_with fail
            refine WA.keep trivial ?_
            (refine WA.free 16 rfl rfl (by kernel_rfl) (fun K hK => ?_); go_big_quiet_step (fail); refine wpQuiet_nil ?_; refine hK _ ?_; clear hK K)
            refine WA.nil (by kernel_rfl) ?_
            go_wp2_with fail
            go_meet
            case rel => exact TriesT.mk (by rw [← List.length_take (i := 30) (l := rs)]; exact HG.out.2.1) (HSS.out.2.1.upd HG.out.1 (by simp)) (by rw [HTK.out]; exact HSS.out.2.2.1.upd HG.out.1 (by simp)) (by simpa [byts] using HG.out.2.2) HG.out.1 rfl
          · go_wp2_with fail
            have BC := Blk.new (wA) [.int .u8 c] 5
            have uC := (Upd.refl [] (wA)).alloc (.cells #[.int .u8 c] 5)
            generalize World.alloc (wA) (.cells #[.int .u8 c] 5) = wC at *
            generalize hgC : Array.size (World.heap (wA)) = gC at *
            have HC := Lib.hid (And.intro (show Upd [] ws wC from HA1.out.1.step uC) (And.intro BC uC))
            clear uC BC hgC
            refine WA.keep trivial ?_
            refine WA.one 11 (by kernel_rfl) (Do_.mk rfl (fun K hK => ?_))
            go_wp2_with (go_at_call 42; refine (Few_calls (HSS.out.2.2.2.2.2.2.upd (S := []) (show Upd [] ws _ from Upd.step HC.out.1 (by iterate 25 (first | exact Upd.refl _ _ | assumption | refine Upd.alloc ?_ _ | refine Upd.drew ?_ | refine Upd.drewN ?_ _ | refine Upd.dl ?_ | refine Upd.step ?_ (Ext.upd _) | refine Upd.nil ?_ | skip))) (by simp)) (eb vs es).length (by omega)).mono ?_; rintro e wB ⟨aB, cB, rfl, oB, uB⟩; rw [List.take_length] at oB ⊢)
            have HB1 := Lib.hid (And.intro (show Upd [] ws wB from Upd.step HC.out.1 uB) (And.intro oB uB))
            clear oB uB
            have HF := Lib.hid (And.intro (HB1.out.2.1.row : World.ownsRow wB 0 5 1 (.slice aB (eb vs es).length cB) (eb vs es).length (byts (eb vs es))) (And.intro (SL.of_blk (pad := []) (xs := byts [c]) (show Blk wB gC (byts [c] ++ []) 5 from HC.out.2.1.upd HB1.out.2.2 (by simp)) rfl (Nat.le_refl _) (by unfold maxLen; omega) : SL wB 1 (.slice (some ⟨gC, 0, none⟩) 1 1) [c].length (byts [c])) (And.intro ((HA1.out.2.sl.upd HC.out.2.2 (by simp)).upd HB1.out.2.2 (by simp) : SL wB 1 (.slice aA (rs.take 30).length cA) (rs.take 30).length (byts (rs.take 30))) (And.intro (HB1.out.1 : Upd [] ws wB) (fun j hj => (show ws.heap.size ≤ j ∧ (Value.slice aA (rs.take 30).length cA).ownBlock ≠ some j from by have h1 := HB1.out.2.1.fresh j hj; have h2 := HC.out.1.size; have h3 := HC.out.2.2.size; exact ⟨by omega, fun h => by have := HA1.out.2.lt j h; omega⟩))))))
            refine WA.keep trivial ?_
            refine WA.one 14 (by kernel_rfl) (Do_.mk rfl (fun K hK => ?_))
            go_wp2_with (refine wpList_appS rfl _ _ _ rfl 5 1 1 _ Try.underlying62 infoByte rfl (by decide) (.slice aB (eb vs es).length cB) _ _ rfl HF.out.1 _ _ _ rfl HF.out.2.1 (byts_one _) (by unfold maxLen; omega) (by omega) ?_; intro a14 cap14 w14 o14 u14 k14; simp only [Act.put, List.setIfInBounds_toArray, List.set_cons_zero, List.set_cons_succ])
            have HG := Lib.hid (And.intro (HF.out.2.2.2.1.fresh u14 (fun j hj => .inr (HF.out.2.2.2.2 j (by simpa using hj)).1)) (And.intro (HF.out.2.2.1.upd u14 (fun j hj => (HF.out.2.2.2.2 j (by simpa using hj)).2)) (SL.of_owns o14)))
            clear o14 u14 k14
            refine WA.keep trivial ?_
            refine WA.one 15 (by kernel_rfl) (Do_.mk rfl (fun K hK => ?_))
            go_wp2_with fail
            refine WA.keep trivial ?_
            (refine WA.free 16 rfl rfl (by kernel_rfl) (fun K hK => ?_); go_big_quiet_step (fail); refine wpQuiet_nil ?_; refine hK _ ?_; clear hK K)
            refine WA.nil (by kernel_rfl) ?_
            go_wp2_with fail
            go_meet
            case rel => exact TriesT.mk (by rw [← List.length_take (i := 30) (l := rs)]; exact HG.out.2.1) (HSS.out.2.1.upd HG.out.1 (by simp)) (by rw [HTK.out]; exact HSS.out.2.2.1.upd HG.out.1 (by simp)) (by simpa [byts] using HG.out.2.2) HG.out.1 rfl
        · go_wp2_with fail
          have BC := (Blk.new ws [.int .u8 c] 5).drew
          have uC := ((Upd.refl [] ws).alloc (.cells #[.int .u8 c] 5)).drew
          generalize World.drew (World.alloc ws (.cells #[.int .u8 c] 5)) = wC at *
          generalize hgC : Array.size (World.heap ws) = gC at *
          have HC := Lib.hid (And.intro (show Upd [] ws wC from uC) (And.intro BC uC))
          clear uC BC hgC
          refine WA.keep trivial ?_
          refine WA.one 1 (by kernel_rfl) (Do_.mk rfl (fun K hK => ?_))
          go_wp2_with (go_at_call 42; refine (Few_calls (HSS.out.2.2.2.1.upd (S := []) (show Upd [] ws _ from Upd.step HC.out.1 (by iterate 25 (first | exact Upd.refl _ _ | assumption | refine Upd.alloc ?_ _ | refine Upd.drew ?_ | refine Upd.drewN ?_ _ | refine Upd.dl ?_ | refine Upd.step ?_ (Ext.upd _) | refine Upd.nil ?_ | skip))) (by simp)) 30 (by omega)).mono ?_; rintro e wA ⟨aA, cA, rfl, oA, uA⟩)
          have HA1 := Lib.hid (And.intro (show Upd [] ws wA from Upd.step HC.out.1 uA) (And.intro oA uA))
          clear oA uA
          refine WA.keep trivial ?_
          refine WA.one 11 (by kernel_rfl) (Do_.mk rfl (fun K hK => ?_))
          go_wp2_with (go_at_call 42; refine (Few_calls (HSS.out.2.2.2.2.2.2.upd (S := []) (show Upd [] ws _ from Upd.step HA1.out.1 (by iterate 25 (first | exact Upd.refl _ _ | assumption | refine Upd.alloc ?_ _ | refine Upd.drew ?_ | refine Upd.drewN ?_ _ | refine Upd.dl ?_ | refine Upd.step ?_ (Ext.upd _) | refine Upd.nil ?_ | skip))) (by simp)) (eb vs es).length (by omega)).mono ?_; rintro e wB ⟨aB, cB, rfl, oB, uB⟩; rw [List.take_length] at oB ⊢)
          have HB1 := Lib.hid (And.intro (show Upd [] ws wB from Upd.step HA1.out.1 uB) (And.intro oB uB))
          clear oB uB
          have HF := Lib.hid (And.intro (HB1.out.2.1.row : World.ownsRow wB 0 5 1 (.slice aB (eb vs es).length cB) (eb vs es).length (byts (eb vs es))) (And.intro (SL.of_blk (pad := []) (xs := byts [c]) (show Blk wB gC (byts [c] ++ []) 5 from (HC.out.2.1.upd HA1.out.2.2 (by simp)).upd HB1.out.2.2 (by simp)) rfl (Nat.le_refl _) (by unfold maxLen; omega) : SL wB 1 (.slice (some ⟨gC, 0, none⟩) 1 1) [c].length (byts [c])) (And.intro (HA1.out.2.1.sl.upd HB1.out.2.2 (by simp) : SL wB 1 (.slice aA (rs.take 30).length cA) (rs.take 30).length (byts (rs.take 30))) (And.intro (HB1.out.1 : Upd [] ws wB) (fun j hj => (show ws.heap.size ≤ j ∧ (Value.slice aA (rs.take 30).length cA).ownBlock ≠ some j from by have h1 := HB1.out.2.1.fresh j hj; have h2 := HA1.out.1.size; have h3 := HA1.out.2.2.size; exact ⟨by omega, fun h => by have := HA1.out.2.1.lt j h; omega⟩))))))
          refine WA.keep trivial ?_
          refine WA.one 14 (by kernel_rfl) (Do_.mk rfl (fun K hK => ?_))
          go_wp2_with (refine wpList_appS rfl _ _ _ rfl 5 1 1 _ Try.underlying62 infoByte rfl (by decide) (.slice aB (eb vs es).length cB) _ _ rfl HF.out.1 _ _ _ rfl HF.out.2.1 (byts_one _) (by unfold maxLen; omega) (by omega) ?_; intro a14 cap14 w14 o14 u14 k14; simp only [Act.put, List.setIfInBounds_toArray, List.set_cons_zero, List.set_cons_succ])
          have HG := Lib.hid (And.intro (HF.out.2.2.2.1.fresh u14 (fun j hj => .inr (HF.out.2.2.2.2 j (by simpa using hj)).1)) (And.intro (HF.out.2.2.1.upd u14 (fun j hj => (HF.out.2.2.2.2 j (by simpa using hj)).2)) (SL.of_owns o14)))
          clear o14 u14 k14
          refine WA.keep trivial ?_
          refine WA.one 15 (by kernel_rfl) (Do_.mk rfl (fun K hK => ?_))
          go_wp2_with fail
          refine WA.keep trivial ?_
          (refine WA.free 16 rfl rfl (by kernel_rfl) (fun K hK => ?_); go_big_quiet_step (fail); refine wpQuiet_nil ?_; refine hK _ ?_; clear hK K)
          refine WA.nil (by kernel_rfl) ?_
          go_wp2_with fail
          go_meet
          case rel => exact TriesT.mk (by rw [← List.length_take (i := 30) (l := rs)]; exact HG.out.2.1) (HSS.out.2.1.upd HG.out.1 (by simp)) (by rw [HTK.out]; exact HSS.out.2.2.1.upd HG.out.1 (by simp)) (by simpa [byts] using HG.out.2.2) HG.out.1 rfl
      case rest =>
        have hLs : ∀ L ∈ [rs.take 30, e2, (eb vs es).take ((eb vs es).length - 1), eb vs es ++ [c]], (∀ x ∈ L, IsU8 x) ∧ L.length ≤ 1000 := by
          intro L hL
          simp only [List.mem_cons, List.not_mem_nil, or_false] at hL
          rcases hL with rfl | rfl | rfl | rfl
          · exact ⟨fun x hx => HRW.out.1 x (List.mem_of_mem_take hx), by rw [List.length_take]; omega⟩
          · exact ⟨HSS.out.2.2.2.2.1, by rw [HSS.out.2.2.2.2.2.1]; omega⟩
          · exact ⟨fun x hx => HB.out.2.2.1 x (List.mem_of_mem_take hx), by rw [List.length_take]; omega⟩
          · refine ⟨fun x hx => ?_, by simp; omega⟩
            rcases List.mem_append.1 hx with hx | hx
            · exact HB.out.2.2.1 x hx
            · simp at hx; subst hx; exact hc
        have UWS : Upd [] w wc := (HB.out.1.u.step HSS.out.1).step hcut.choose_spec.choose_spec.2.2.2.2
        obtain ⟨gt, vals, rfl, Bt, hvl, hvs, _⟩ := hcut
        generalize hLL : [rs.take 30, e2, (eb vs es).take ((eb vs es).length - 1), eb vs es ++ [c]] = Ls at *
        have hL4 : Ls.length = 4 := by rw [← hLL]; rfl
        have HT := Lib.hid (And.intro hLs (And.intro Bt (And.intro hvl (And.intro hvs (And.intro hL4 UWS)))))
        clear hLs Bt hvl hvs hL4 UWS hLL
        clear HSS HTK HFA HA hgb9 lb0 fb0 cb0 hnc hcm hcs hgb hcb
        go_wp2_with fail
        go_loopw [24] (fun i wr => ∃ k : Nat, k ≤ 4 ∧ i = .int .i64 k ∧ Upd [] wc wr) (fun i _ => 4 - (intOf i).toNat)
        case atStart => exact ⟨0, by omega, rfl, Upd.refl _ _⟩
        case round =>
          obtain ⟨k, hk, rfl, hu⟩ := hrel
          by_cases hlt : k < 4
          · have hkL : k < Ls.length := by rw [HT.out.2.2.2.2.1]; exact hlt
            obtain ⟨v, hv, hs⟩ := HT.out.2.2.2.1 k _ (List.getElem?_eq_getElem hkL)
            obtain ⟨hu8, hl1⟩ := HT.out.1 _ (List.getElem_mem hkL)
            generalize Ls[k] = L at *
            obtain ⟨al, cl, rfl, _, _, _⟩ := SL.form_ hs
            have ct := (HT.out.2.1.upd hu (by simp)).cell hv
            have hsr := hs.upd hu (by simp)
            have HD := Lib.hid (And.intro (Decode_calls hsr hu8 (by omega)) (And.intro hsr hu8))
            clear hv hs hu8 hkL hsr
            go_wp2_with fail
            refine HD.out.1.mono ?_
            rintro e w5 ⟨u5, hd⟩
            have ct5 := u5.some ct (by simp)
            rcases hd with ⟨_, rfl⟩ | ⟨vz, ez, bz, Sz, hd, rfl, tz, _⟩
            · go_wp2_with fail
              refine wp_region_ord 23 1 [0, 1, 2, 3, 4, 5, 6, 7, 8, 9, 10, 11, 12, 13, 14, 15, 16, 17, 19, 20, 21, 22, 24, 25, 26, 27] [22] [0, 1, 2, 3, 4, 5, 6, 7, 8, 9, 10, 11, 12, 13, 14, 15, 16, 17, 19, 20, 21, 22, 18, 23, 24, 25, 26, 27] (fun w' => ∃ x : Ext w5, w' = x.val) (by kernel_rfl) (by kernel_rfl) (Ext.of (by iterate 25 (first | exact Upd.refl _ _ | assumption | refine Upd.alloc ?_ _ | refine Upd.drew ?_ | refine Upd.drewN ?_ _ | refine Upd.dl ?_ | refine Upd.step ?_ (Ext.upd _) | refine Upd.nil ?_ | skip))) ?_
              repeat (first | (refine wpOrd_load rfl rfl rfl rfl (fun K hK => ?_); go_big_quiet_step (fail); refine wpQuiet_nil ?_; refine hK _ ?_; clear hK K) | (refine wpOrd_free rfl rfl rfl (fun K hK => ?_); go_big_quiet_step (fail); refine wpQuiet_nil ?_; refine hK _ ?_; clear hK K))
              refine wpOrd_fix rfl rfl (fun K hK => ?_)
              go_wp2_with fail
              refine ⟨fun _ => Ext.of (by iterate 25 (first | exact Upd.refl _ _ | assumption | refine Upd.alloc ?_ _ | refine Upd.drew ?_ | refine Upd.drewN ?_ _ | refine Upd.dl ?_ | refine Upd.step ?_ (Ext.upd _) | refine Upd.nil ?_ | skip)), ?_⟩
              repeat (first | (refine wpOrd_load rfl rfl rfl rfl (fun K hK => ?_); go_big_quiet_step (fail); refine wpQuiet_nil ?_; refine hK _ ?_; clear hK K) | (refine wpOrd_free rfl rfl rfl (fun K hK => ?_); go_big_quiet_step (fail); refine wpQuiet_nil ?_; refine hK _ ?_; clear hK K))
              refine wpOrd_fix rfl rfl (fun K hK => ?_)
              go_wp2_with fail
              refine ⟨fun hC => absurd hC (by decide), ?_⟩
              repeat (first | (refine wpOrd_load rfl rfl rfl rfl (fun K hK => ?_); go_big_quiet_step (fail); refine wpQuiet_nil ?_; refine hK _ ?_; clear hK K) | (refine wpOrd_free rfl rfl rfl (fun K hK => ?_); go_big_quiet_step (fail); refine wpQuiet_nil ?_; refine hK _ ?_; clear hK K))
              refine wpOrd_nil ?_
              go_wp2_with fail
              exact ⟨⟨k + 1, by omega, by go_num, Upd.step (hu.step u5) (by iterate 25 (first | exact Upd.refl _ _ | assumption | refine Upd.alloc ?_ _ | refine Upd.drew ?_ | refine Upd.drewN ?_ _ | refine Upd.dl ?_ | refine Upd.step ?_ (Ext.upd _) | refine Upd.nil ?_ | skip))⟩, by simp [intOf]; omega⟩
            · obtain ⟨hLe, _⟩ := dec_sound HD.out.2.2 hd
              have hsz := HD.out.2.1.upd u5 (by simp)
              have hsz2 : SL w5 1 (.slice al L.length cl) (eb vz ez).length (byts (eb vz ez)) := by rw [← hLe]; exact hsz
              have HZ := Lib.hid (And.intro tz hsz2)
              clear tz hsz hsz2 hLe hd
              go_wp2_with fail
              refine wp_region_ord 23 1 [0, 1, 2, 3, 4, 5, 6, 7, 8, 9, 10, 11, 12, 13, 14, 15, 16, 17, 19, 20, 21, 22, 24, 25, 26, 27] [22] [0, 1, 2, 3, 4, 5, 6, 7, 8, 9, 10, 11, 12, 13, 14, 15, 16, 17, 19, 20, 21, 22, 18, 23, 24, 25, 26, 27] (fun w' => ∃ x : Ext w5, w' = x.val) (by kernel_rfl) (by kernel_rfl) (Ext.of (by iterate 25 (first | exact Upd.refl _ _ | assumption | refine Upd.alloc ?_ _ | refine Upd.drew ?_ | refine Upd.drewN ?_ _ | refine Upd.dl ?_ | refine Upd.step ?_ (Ext.upd _) | refine Upd.nil ?_ | skip))) ?_
              repeat (first | (refine wpOrd_load rfl rfl rfl rfl (fun K hK => ?_); go_big_quiet_step (fail); refine wpQuiet_nil ?_; refine hK _ ?_; clear hK K) | (refine wpOrd_free rfl rfl rfl (fun K hK => ?_); go_big_quiet_step (fail); refine wpQuiet_nil ?_; refine hK _ ?_; clear hK K))
              refine wpOrd_fix rfl rfl (fun K hK => ?_)
              go_wp2_with (go_at_call 33; refine (Trail.Encode_calls (HZ.out.1.upd (T := []) (by iterate 25 (first | exact Upd.refl _ _ | assumption | refine Upd.alloc ?_ _ | refine Upd.drew ?_ | refine Upd.drewN ?_ _ | refine Upd.dl ?_ | refine Upd.step ?_ (Ext.upd _) | refine Upd.nil ?_ | skip)) (by simp))).mono ?_; rintro e w6 ⟨a6, cap6, rfl, o6, u6⟩)
              have H6 := Lib.hid (And.intro o6.sl (show Upd [] w5 w6 from Upd.step (by iterate 25 (first | exact Upd.refl _ _ | assumption | refine Upd.alloc ?_ _ | refine Upd.drew ?_ | refine Upd.drewN ?_ _ | refine Upd.dl ?_ | refine Upd.step ?_ (Ext.upd _) | refine Upd.nil ?_ | skip)) u6))
              clear o6 u6
              refine ⟨fun _ => Ext.of H6.out.2, ?_⟩
              repeat (first | (refine wpOrd_load rfl rfl rfl rfl (fun K hK => ?_); go_big_quiet_step (fail); refine wpQuiet_nil ?_; refine hK _ ?_; clear hK K) | (refine wpOrd_free rfl rfl rfl (fun K hK => ?_); go_big_quiet_step (fail); refine wpQuiet_nil ?_; refine hK _ ?_; clear hK K))
              refine wpOrd_fix rfl rfl (fun K hK => ?_)
              go_wp2_with (go_at_call 35; refine (SameBytes_calls (H6.out.1.upd (S := []) (by iterate 25 (first | exact Upd.refl _ _ | assumption | refine Upd.alloc ?_ _ | refine Upd.drew ?_ | refine Upd.drewN ?_ _ | refine Upd.dl ?_ | refine Upd.step ?_ (Ext.upd _) | refine Upd.nil ?_ | skip)) (by simp)) (HZ.out.2.upd (S := []) (Upd.step H6.out.2 (by iterate 25 (first | exact Upd.refl _ _ | assumption | refine Upd.alloc ?_ _ | refine Upd.drew ?_ | refine Upd.drewN ?_ _ | refine Upd.dl ?_ | refine Upd.step ?_ (Ext.upd _) | refine Upd.nil ?_ | skip))) (by simp))).mono ?_; rintro e w7 ⟨rfl, u7⟩; rw [decide_eq_true rfl])
              have H7 := Lib.hid (show Upd [] w6 w7 from Upd.step (by iterate 25 (first | exact Upd.refl _ _ | assumption | refine Upd.alloc ?_ _ | refine Upd.drew ?_ | refine Upd.drewN ?_ _ | refine Upd.dl ?_ | refine Upd.step ?_ (Ext.upd _) | refine Upd.nil ?_ | skip)) u7)
              clear u7
              refine ⟨fun hC => absurd hC (by decide), ?_⟩
              repeat (first | (refine wpOrd_load rfl rfl rfl rfl (fun K hK => ?_); go_big_quiet_step (fail); refine wpQuiet_nil ?_; refine hK _ ?_; clear hK K) | (refine wpOrd_free rfl rfl rfl (fun K hK => ?_); go_big_quiet_step (fail); refine wpQuiet_nil ?_; refine hK _ ?_; clear hK K))
              refine wpOrd_nil ?_
              go_wp2_with fail
              exact ⟨⟨k + 1, by omega, by go_num, ((hu.step u5).step H6.out.2).step H7.out⟩, by simp [intOf]; omega⟩
          · go_wp2_with fail
            refine (lives_calls).mono ?_
            rintro e w6 ⟨rfl, u6⟩
            go_wp2_with fail
            go_ret
            exact ⟨rfl, (HT.out.2.2.2.2.2.step hu).step u6⟩
end
end Law
end Go.Proofs.Ytlfcabmbakjklaa
