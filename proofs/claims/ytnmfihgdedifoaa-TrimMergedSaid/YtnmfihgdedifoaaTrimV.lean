/- Walks through the laws of package trim: the proofs that are tried. Conditions: none. -/
import Derived.Test.YtnmfihgdedifoaaTrimU
set_option linter.unusedVariables false
set_option linter.unusedSimpArgs false
set_option linter.unusedSectionVars false
open Go.RowKit
namespace Go.Proofs.Ytnmfihgdedifoaa
open L R01
namespace Trim
/-- Small proofs. -/
def Sm4 (p : PrfD) : Prop := SmB 4 p ∧ p.lemmas.length ≤ 2 ∧ ∀ d ∈ p.lemmas, d = lem0 0 ∨ d = lem0 1
theorem Sm4.few {p : PrfD} (h : Sm4 p) : Few p := ⟨by have := h.2.1; omega, fun k st hk => by have := h.1.2 k st hk; omega⟩
theorem MadeP.smB {p : PrfD} (h : MadeP p 14) : SmB 2 p := ⟨by have := h.len; omega, fun k st hk => by have h1 := h.good k st hk; exact ⟨by have := h1.params; omega, by have := h1.lits; omega, h1.hints, h1.name⟩⟩
theorem SmB.mono {B B' : Nat} {p : PrfD} (h : SmB B p) (hB : B ≤ B') : SmB B' p := ⟨h.1, fun k st hk => by have := h.2 k st hk; omega⟩
/-- The proofs that are tried, in memory. -/
def AllP (w : World) (v : Value) (ps : Nat → PrfD) : Prop := ∃ g, v = .slice (some ⟨g, 0, none⟩) 4 4 ∧ (∀ i, i < 4 → ∃ al cl a2 c2, w.cell? ⟨g, i * 2, none⟩ = some (.slice al (ps i).lemmas.length cl) ∧ w.cell? ⟨g, i * 2 + 1, none⟩ = some (.slice a2 (ps i).steps.length c2) ∧ PrL w (.agg #[.slice al (ps i).lemmas.length cl, .slice a2 (ps i).steps.length c2]) (ps i)) ∧ ∀ i, Sm4 (ps i)
theorem PrL.ext' {w w' : World} {v : Value} {p : PrfD} (h : PrL w v p) (u : Upd [] w w') : PrL w' v p := h.kd (es := [3, 88, 56, 82]) (off_nil _ _) (by simp) (by simp) (by simp) (by simp) u
theorem AllP.ext {w w' : World} {v : Value} {ps : Nat → PrfD} (h : AllP w v ps) (u : Upd [] w w') : AllP w' v ps := by
  obtain ⟨g, e, h1, h2⟩ := h
  refine ⟨g, e, fun i hi => ?_, h2⟩
  obtain ⟨al, cl, a2, c2, e1, e2, e3⟩ := h1 i hi
  exact ⟨al, cl, a2, c2, u.some e1 (by simp), u.some e2 (by simp), e3.ext' u⟩
theorem prL_nil (w : World) : PrL w (.agg #[.slice none 0 0, .slice none 0 0]) ⟨[], []⟩ :=
  ⟨_, _, rfl, ⟨fun _ => [undef, undef, undef, undef], World.ownsRow_nil _ _ _ _, fun _ => rfl, fun i d hd => by simp at hd⟩, ⟨fun _ => [undef, undef, undef, undef, undef, undef, undef], World.ownsRow_nil _ _ _ _, fun _ => rfl, fun i d hd => by simp at hd⟩⟩
theorem half64 {x : Int} (h0 : -9223372036854775808 ≤ x) (h1 : x ≤ 9223372036854775807) : IsI64 (x.tdiv 2) := by
  unfold IsI64
  rcases Int.le_total 0 x with h | h
  · rw [Int.tdiv_eq_ediv_of_nonneg h]; omega
  · obtain ⟨y, rfl⟩ : ∃ y, x = -y := ⟨-x, by omega⟩
    rw [Int.neg_tdiv, Int.tdiv_eq_ediv_of_nonneg (by omega)]; omega
section
variable {w : World}
set_option maxRecDepth 100000 in
set_option maxHeartbeats 8000000 in
theorem some_calls {v : Value} {l : List Int} {at_ how by_ : Int} (hx : ∀ x ∈ l, IsI64 x) (h : SL w 1 v l.length (ints l)) (ha : IsI64 at_) (hh : IsI64 how) (hb : IsI64 by_) :
    Calls Try.prog 9 #[v, .int .i64 at_, .int .i64 how, .int .i64 by_] w fun e w' => ∃ (v' : Value) (ps : Nat → PrfD), e = .returned v' ∧ AllP w' v' ps ∧ Upd [] w w' := by
  obtain ⟨a, cap, rfl, q1, r1, _⟩ := SL.form h
  have HS := Lib.hid (SomeP_calls (most := 14) hx h (by omega) (by omega))
  have HA := Lib.hid (And.intro ha (And.intro hh hb))
  have hb0 : -9223372036854775808 ≤ by_ := hb.1
  have hb1 : by_ ≤ 9223372036854775807 := hb.2
  clear hx h ha hh hb
  go_enter Try.func9, Try.ntmps9
  go_upto_region 2 with (go_at_call 25; (with_reducible refine HS.out.mono ?_); rintro e w1 ⟨v1, p1, rfl, hp1, hm1, u1⟩; obtain ⟨al1, cl1, as1, cs1, rfl⟩ := hp1.form; have H1 := Lib.hid (And.intro hp1 (And.intro hm1 u1)); clear hp1 hm1 u1)
  have b2 := Blk.new w1 [.slice al1 p1.lemmas.length cl1, .slice as1 p1.steps.length cs1] 30
  have u2 := (Upd.refl [] w1).alloc (.cells #[.slice al1 p1.lemmas.length cl1, .slice as1 p1.steps.length cs1] 30)
  have H2 := Lib.hid (And.intro (H1.out.1.ext' u2) (And.intro H1.out.2.1 (And.intro (H1.out.2.2.step u2) b2)))
  clear H1 b2 u2
  generalize hg2 : w1.heap.size = g2 at *
  generalize (w1.alloc (.cells #[.slice al1 p1.lemmas.length cl1, .slice as1 p1.steps.length cs1] 30)) = w2 at *
  clear hg2
  have c0 := H2.out.2.2.2.cell (i := 0) rfl
  have c1 := H2.out.2.2.2.cell (i := 1) rfl
  have HSP := Lib.hid (Spoilt_calls (B := 2) H2.out.1 H2.out.2.1.smB (by omega) HA.out.1 HA.out.2.1 HA.out.2.2)
  go_upto_region 3 with (go_at_call 30; (with_reducible refine HSP.out.mono ?_); rintro e w3 ⟨v3, p3, rfl, hp3, hm3, hl3, u3⟩; obtain ⟨al3, cl3, as3, cs3, rfl⟩ := hp3.form; have H3 := Lib.hid (And.intro hp3 (And.intro hm3 (And.intro hl3 u3))); clear hp3 hm3 hl3 u3)
  have b4 := Blk.new w3 [.slice al3 p3.lemmas.length cl3, .slice as3 p3.steps.length cs3] 30
  have u4 := (Upd.refl [] w3).alloc (.cells #[.slice al3 p3.lemmas.length cl3, .slice as3 p3.steps.length cs3] 30)
  have hU := H3.out.2.2.2.step u4
  have H4 := Lib.hid (And.intro (H3.out.1.ext' u4) (And.intro H3.out.2.1 (And.intro H3.out.2.2.1 (And.intro (H2.out.1.ext' hU) (And.intro H2.out.2.1 (And.intro (H2.out.2.2.1.step hU) (And.intro b4 (H2.out.2.2.2.upd hU (by simp)))))))))
  clear H3 H2 b4 u4 hU c0 c1 HSP HS
  generalize hg4 : w3.heap.size = g4 at *
  generalize (w3.alloc (.cells #[.slice al3 p3.lemmas.length cl3, .slice as3 p3.steps.length cs3] 30)) = w4 at *
  clear hg4
  have c0 := H4.out.2.2.2.2.2.2.2.cell (i := 0) rfl
  have c1 := H4.out.2.2.2.2.2.2.2.cell (i := 1) rfl
  have d0 := H4.out.2.2.2.2.2.2.1.cell (i := 0) rfl
  have d1 := H4.out.2.2.2.2.2.2.1.cell (i := 1) rfl
  have htd : IsI64 (by_.tdiv 2) := half64 hb0 hb1
  have HSQ := Lib.hid (fun (x : Ext w4) (b : Int) (hb : IsI64 b) => Spoilt_calls (B := 3) (H4.out.1.ext' x.upd) H4.out.2.1 (by omega) HA.out.2.1 HA.out.1 hb)
  refine wp_region_ord 9 2 [0, 1, 2, 3, 4, 5, 6, 8, 10] [0, 1, 2] [0, 1, 2, 3, 4, 5, 6, 8, 7, 9, 10] (fun w' => ∃ x : Ext w4, w' = x.val) (by kernel_rfl) (by kernel_rfl) (Ext.of ((Upd.refl _ _).drew)) ?_
  repeat (first | (refine wpOrd_load rfl rfl rfl rfl (fun K hK => ?_); go_big_quiet_step (fail); refine wpQuiet_nil ?_; refine hK _ ?_; clear hK K) | (refine wpOrd_free rfl rfl rfl (fun K hK => ?_); go_big_quiet_step (fail); refine wpQuiet_nil ?_; refine hK _ ?_; clear hK K))
  refine wpOrd_fix rfl rfl (fun K hK => ?_)
  have HD := HSQ.out ⟨w4.drew, (Upd.refl _ _).drew⟩ _ htd
  clear HSQ htd
  go_wp2_with (go_at_call 30; refine HD.mono ?_; rintro e w5 ⟨v5, p5, rfl, hp5, hm5, hl5, u5⟩)
  have U5 : Upd [] w4 w5 := ((Upd.refl _ w4).drew).step u5
  refine ⟨fun _ => Ext.of U5, ?_⟩
  obtain ⟨al5, cl5, as5, cs5, rfl⟩ := hp5.form
  have b6 := Blk.new w5 [.slice al1 p1.lemmas.length cl1, .slice as1 p1.steps.length cs1, .slice al3 p3.lemmas.length cl3, .slice as3 p3.steps.length cs3, .slice al5 p5.lemmas.length cl5, .slice as5 p5.steps.length cs5, .slice none 0 0, .slice none 0 0] 30
  have u6 := (Upd.refl [] w5).alloc (.cells #[.slice al1 p1.lemmas.length cl1, .slice as1 p1.steps.length cs1, .slice al3 p3.lemmas.length cl3, .slice as3 p3.steps.length cs3, .slice al5 p5.lemmas.length cl5, .slice as5 p5.steps.length cs5, .slice none 0 0, .slice none 0 0] 30)
  have U6 := U5.step u6
  have H6 := Lib.hid (And.intro b6 (And.intro (H4.out.2.2.2.1.ext' U6) (And.intro (H4.out.1.ext' U6) (And.intro (hp5.ext' u6) (And.intro hm5 (And.intro hl5 (H4.out.2.2.2.2.2.1.step U6)))))))
  clear b6 u6 U6 U5 hp5 hm5 hl5 u5 HD
  repeat (first | (refine wpOrd_load rfl rfl rfl rfl (fun K hK => ?_); go_big_quiet_step (fail); refine wpQuiet_nil ?_; refine hK _ ?_; clear hK K) | (refine wpOrd_free rfl rfl rfl (fun K hK => ?_); go_big_quiet_step (fail); refine wpQuiet_nil ?_; refine hK _ ?_; clear hK K))
  refine wpOrd_fix rfl rfl (fun K hK => ?_)
  go_wp2_with fail
  refine ⟨fun hC => absurd hC (by decide), ?_⟩
  repeat (first | (refine wpOrd_load rfl rfl rfl rfl (fun K hK => ?_); go_big_quiet_step (fail); refine wpQuiet_nil ?_; refine hK _ ?_; clear hK K) | (refine wpOrd_free rfl rfl rfl (fun K hK => ?_); go_big_quiet_step (fail); refine wpQuiet_nil ?_; refine hK _ ?_; clear hK K))
  refine wpOrd_nil ?_
  go_wp2_with fail
  go_ret
  have hl1 := And.intro H4.out.2.2.2.2.1.few H4.out.2.2.2.2.1.form
  refine ⟨_, fun i => match i with
    | 0 => p1
    | 1 => p3
    | 2 => p5
    | _ => ⟨[], []⟩, rfl, ⟨w5.heap.size, rfl, fun i hi => ?_, fun i => ?_⟩, H6.out.2.2.2.2.2.2⟩
  · match i with
    | 0 => exact ⟨al1, cl1, as1, cs1, H6.out.1.cell (i := 0) rfl, H6.out.1.cell (i := 1) rfl, H6.out.2.1⟩
    | 1 => exact ⟨al3, cl3, as3, cs3, H6.out.1.cell (i := 2) rfl, H6.out.1.cell (i := 3) rfl, H6.out.2.2.1⟩
    | 2 => exact ⟨al5, cl5, as5, cs5, H6.out.1.cell (i := 4) rfl, H6.out.1.cell (i := 5) rfl, H6.out.2.2.2.1⟩
    | 3 => exact ⟨none, 0, none, 0, H6.out.1.cell (i := 6) rfl, H6.out.1.cell (i := 7) rfl, prL_nil _⟩
    | (i + 4) => omega
  · have h3 : p3.lemmas.length ≤ 2 ∧ ∀ d ∈ p3.lemmas, d = lem0 0 ∨ d = lem0 1 := by
      rcases H4.out.2.2.1 with h | h
      · rw [h]; exact hl1
      · rw [h]; simp
    have h5 : p5.lemmas.length ≤ 2 ∧ ∀ d ∈ p5.lemmas, d = lem0 0 ∨ d = lem0 1 := by
      rcases H6.out.2.2.2.2.2.1 with h | h
      · rw [h]; exact h3
      · rw [h]; simp
    match i with
    | 0 => exact ⟨H4.out.2.2.2.2.1.smB.mono (by omega), hl1⟩
    | 1 => exact ⟨H4.out.2.1.mono (by omega), h3⟩
    | 2 => exact ⟨H6.out.2.2.2.2.1.mono (by omega), h5⟩
    | (i + 3) => exact ⟨⟨by simp, fun k st h => by simp at h⟩, by simp⟩
end
end Trim
end Go.Proofs.Ytnmfihgdedifoaa
