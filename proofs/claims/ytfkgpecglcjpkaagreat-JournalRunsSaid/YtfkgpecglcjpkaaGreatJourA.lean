/- Walks through package journal: HasPrefix, Frame, and the reference's Core and Frame. Conditions: none. -/
import Derived.Test.YtfkgpecglcjpkaaGreatShelf
import Derived.Test.YtfkgpecglcjpkaaGreatHashS
import Derived.Test.YtfkgpecglcjpkaaGreatWireB
import Derived.Test.YtfkgpecglcjpkaaGreatRef02B
set_option linter.unusedVariables false
set_option linter.unusedSimpArgs false
set_option linter.unusedSectionVars false
open Go.RowKit
namespace Go.Proofs.YtfkgpecglcjpkaaGreat
open L
namespace Jour
open Wire Hash R01
theorem bytesIn_of {w : World} {p : Option Addr} {cap : Nat} {xs : List Int} (h : SL w 1 (.slice p xs.length cap) xs.length (byts xs)) : Lib.BytesIn w p xs.length xs := by
  obtain ⟨a, c, he, _, _, hc⟩ := SL.form h
  cases he
  rcases Nat.eq_zero_or_pos xs.length with h0 | h0
  · have : xs = [] := List.eq_nil_of_length_eq_zero h0
    subst this
    exact Lib.BytesIn.nil _ _ _
  · obtain ⟨g, off, rfl, hcc⟩ := hc h0
    refine Lib.BytesIn.of_cells (fun i hi => ?_)
    rw [addr_add]
    have := hcc i _ (byts_get (List.getElem?_eq_getElem hi))
    rw [this]
    simp [List.getD, hi]
theorem bytesOf_pre : ∀ {xs ys : List Int}, (∀ x ∈ xs, IsU8 x) → (∀ y ∈ ys, IsU8 y) → Lib.hasPrefix (Lib.bytesOf xs) (Lib.bytesOf ys) = decide (ys <+: xs)
  | xs, [], _, _ => by simp [Lib.hasPrefix, Lib.bytesOf]
  | [], y :: ys, _, _ => by simp [Lib.hasPrefix, Lib.bytesOf]
  | x :: xs, y :: ys, hx, hy => by
    have ih := bytesOf_pre (xs := xs) (ys := ys) (fun z hz => hx z (List.mem_cons_of_mem _ hz)) (fun z hz => hy z (List.mem_cons_of_mem _ hz))
    unfold Lib.hasPrefix Lib.bytesOf at ih ⊢
    obtain ⟨hx0, hx1⟩ := hx x (by simp)
    obtain ⟨hy0, hy1⟩ := hy y (by simp)
    have e : (UInt8.ofNat y.toNat == UInt8.ofNat x.toNat) = decide (y = x) := by
      by_cases h : y = x
      · subst h; simp
      · rw [decide_eq_false h]
        simp only [beq_eq_false_iff_ne, ne_eq]
        intro h2
        have h3 := congrArg UInt8.toNat h2
        simp only [UInt8.toNat_ofNat'] at h3
        omega
    simp only [List.map_cons, List.isPrefixOf_cons_cons, ih, e]
    rw [← Bool.decide_and]
    congr 1
    simp [List.cons_prefix_cons]
section
variable {w : World}
theorem Has_calls {v1 v2 : Value} {xs ys : List Int} (h1 : SL w 1 v1 xs.length (byts xs)) (h2 : SL w 1 v2 ys.length (byts ys)) (hx : ∀ x ∈ xs, IsU8 x) (hy : ∀ y ∈ ys, IsU8 y) :
    Calls Tryz.prog 77 #[v1, v2] w fun e w' => e = .returned (.bool (decide (ys <+: xs))) ∧ w = w' := by
  obtain ⟨a1, c1, rfl, q1, _⟩ := SL.form h1
  obtain ⟨a2, c2, rfl, q2, _⟩ := SL.form h2
  refine (Tryz.bytes_HasPrefix_all a1 a2 xs.length c1 ys.length c2 xs ys w rfl rfl q1 (bytesIn_of h1) (bytesIn_of h2)).mono ?_
  rintro e w' ⟨rfl, rfl⟩
  exact ⟨by rw [bytesOf_pre hx hy], rfl⟩
def frS : ByteArray := { data := #[102, 114, 97, 109, 101] }
theorem frS_size : frS.size = 5 := rfl
theorem frS_W : labW frS = frW := by decide
theorem cl_toB {n : Nat} {xs : List Int} {e : Ending} {w' : World} (h : CloneT n xs w e w') (hn : n = xs.length) : ∃ a cap, e = .returned (.slice a xs.length cap) ∧ OwnB w (.slice a xs.length cap) xs w' := by
  subst hn
  obtain ⟨a, cap, he, ho, hu⟩ := h
  exact ⟨a, cap, he, ho.row, ho.fresh, hu⟩
theorem Wt.start (w : World) : Wt (w.alloc (.cells #[.slice none 0 0] 74)) w.heap.size [] [w.heap.size] :=
  ⟨.slice none 0 0, by simp [Value.ownBlock], Blk.new w [.slice none 0 0] 74, World.ownsRow_nil _ _ _ _, by simp [Value.ownBlock]⟩
set_option maxRecDepth 100000 in
set_option maxHeartbeats 4000000 in
theorem Frame_calls (k : Int) (hk : IsI64 k) {v : Value} {xs : List Int} (hs : SL w 1 v xs.length (byts xs)) (hx : ∀ x ∈ xs, IsU8 x) (hl : xs.length ≤ 100000000) (hv : ∀ b, v.ownBlock = some b → b < w.heap.size) :
    Calls Tryz.prog 35 #[.int .i64 k, v] w (R02.BytT (frB k xs) w) := by
  have HX := Lib.hid (And.intro hk (And.intro hx hs))
  have HV := Lib.hid hv
  obtain ⟨a, cap, rfl, q1, r1, _⟩ := SL.form hs
  have s1 := Wt.start w
  have u1 := (Upd.refl [] w).alloc (.cells #[.slice none 0 0] 74)
  have z1 : (w.alloc (.cells #[.slice none 0 0] 74)).heap.size = w.heap.size + 1 := by simp
  have s2 := Wt.start (w.alloc (.cells #[.slice none 0 0] 74))
  have u2' := (Upd.refl [] (w.alloc (.cells #[.slice none 0 0] 74))).alloc (.cells #[.slice none 0 0] 74)
  have s1' := s1.upd u2' (by simp)
  have u2 := u1.step u2'
  have z2 : ((w.alloc (.cells #[.slice none 0 0] 74)).alloc (.cells #[.slice none 0 0] 74)).heap.size = w.heap.size + 2 := by simp
  rw [z1] at s2
  have H2 := Lib.hid (And.intro s1' (And.intro s2 (And.intro u2 z2)))
  have hcl := coreB_length k xs
  have hil := ib_length k
  clear s1 s2 u1 u2' s1' u2 z2 hs hx hk hv
  go_enter Tryz.func35, Tryz.ntmps35
  go_upto_region 2 with fail
  clear z1
  generalize (w.alloc (.cells #[.slice none 0 0] 74)).alloc (.cells #[.slice none 0 0] 74) = w2 at *
  go_wp2_with (go_at_call 51; refine (Int_calls H2.out.1 k HX.out.1 (by simp)).mono ?_; rintro e w3 ⟨rfl, S3, s3, u3, k3⟩)
  have U3 := H2.out.2.2.1.fresh u3 (by simp)
  have t3 := H2.out.2.1.upd u3 (by simp)
  have sl3 := HX.out.2.2.upd U3 (by simp)
  have m3 : ∀ j ∈ S3, j = w.heap.size ∨ w.heap.size + 2 ≤ j := fun j hj => by
    rcases k3 j hj with h | h
    · left; simpa using h
    · right; have := H2.out.2.2.2; omega
  have hvs : ∀ b ∈ S3, (Value.slice a xs.length cap).ownBlock ≠ some b := fun b hb h => by
    have h1 := HV.out _ h
    have h2 := m3 b hb
    omega
  have hib : ib k = [] ++ ib k := rfl
  have z3 := u3.size
  have H3 := Lib.hid (And.intro s3 (And.intro t3 (And.intro U3 (And.intro m3 (And.intro sl3 hvs)))))
  clear s3 t3 u3 k3 m3 sl3 hvs U3 hib
  go_wp2_with (go_at_call 40; refine (Raw_calls H3.out.1 H3.out.2.2.2.2.1 H3.out.2.2.2.2.2 (by simp; omega) (by omega)).mono ?_; rintro e w4 ⟨rfl, S4, s4, u4, k4⟩)
  have hcb : [] ++ ib k ++ rb xs = coreB k xs := rfl
  rw [hcb] at s4
  have U4 := H3.out.2.2.1.fresh u4 (fun j hj => .inr (by have := H3.out.2.2.2.1 j hj; omega))
  have t4 := H3.out.2.1.upd u4 (by intro j hj hm; simp at hj; subst hj; have := H3.out.2.2.2.1 _ hm; omega)
  have z4 := u4.size
  have H4 := Lib.hid (And.intro s4 (And.intro t4 U4))
  clear s4 t4 u4 k4 U4 hcb
  have hc8 := coreB_u8 HX.out.1 HX.out.2.1 (by omega)
  generalize hcore : coreB k xs = c at *
  have HC := Lib.hid hcore
  clear hcore
  go_wp2_with (go_at_call 43; refine (Done_calls H4.out.1 (by omega)).mono ?_; rintro e w5 ⟨a5, c5, rfl, o5, u5⟩)
  have zw := H2.out.2.2.2
  have hv5 : ∀ b, (Value.slice a5 c.length c5).ownBlock = some b → w.heap.size + 2 ≤ b ∧ b < w5.heap.size := fun b hb => ⟨by have := o5.fresh b hb; omega, o5.lt b hb⟩
  have U5 := H4.out.2.2.step u5
  have t5 := H4.out.2.1.upd u5 (by simp)
  have H5 := Lib.hid (And.intro o5 (And.intro t5 (And.intro U5 hv5)))
  have z5 := u5.size
  clear o5 t5 u5 U5 hv5 H4 H3
  go_wp2_with (go_at_call 40; refine (Raw_calls H5.out.2.1 H5.out.1.sl (by intro b hb h; simp at hb; subst hb; have := H5.out.2.2.2 _ h; omega) (by simp) (by omega)).mono ?_; rintro e w6 ⟨rfl, S6, s6, u6, k6⟩)
  rw [List.nil_append] at s6
  have m6 : ∀ j ∈ S6, j = w.heap.size + 1 ∨ w5.heap.size ≤ j := fun j hj => by
    rcases k6 j hj with h | h
    · left; simpa using h
    · exact .inr h
  have U6 := H5.out.2.2.1.fresh u6 (fun j hj => .inr (by simp at hj; omega))
  have o6 := H5.out.1.upd u6 (fun b hb h => by simp at hb; subst hb; have := H5.out.2.2.2 _ h; omega)
  have z6 := u6.size
  have H6 := Lib.hid (And.intro s6 (And.intro o6 (And.intro U6 m6)))
  clear s6 u6 k6 U6 o6 m6
  go_wp2_with (go_at_call 42; refine (BytesP_calls frS (by rw [frS_size]; omega) H6.out.2.1.sl hc8 (by omega) (fun b hb => H6.out.2.1.lt b hb)).mono ?_; rintro e w7 ⟨rfl, u7⟩)
  rw [frS_W, frS_size]
  have s7 := H6.out.1.upd u7 (by simp)
  have U7 := H6.out.2.2.1.step u7
  have hrl := rb_length c
  have hF := Lib.hid (show bytesN frW 5 c = hF c from rfl)
  have hlt : bytesN frW 5 c < 18446744073709551616 := bytesN_lt _ _ _
  have H7 := Lib.hid (And.intro s7 U7)
  have z7 := u7.size
  clear s7 u7 U7
  generalize bytesN frW 5 c = h at *
  go_wp2_with (go_at_call 41; refine (Uint_calls H7.out.1 h hlt (by omega)).mono ?_; rintro e w8 ⟨rfl, S8, s8, u8, k8⟩)
  have hfr : rb c ++ ub h = frB k xs := by unfold frB; rw [HC.out, ← hF.out]
  rw [hfr] at s8
  have hfl := frB_length k xs
  have U8 := H7.out.2.fresh u8 (fun j hj => .inr (by have := H6.out.2.2.2 j hj; omega))
  have z8 := u8.size
  have H8 := Lib.hid (And.intro s8 U8)
  clear s8 u8 k8 U8 hfr
  generalize frB k xs = f at *
  go_wp2_with (go_at_call 43; refine (Done_calls H8.out.1 (by omega)).mono ?_; rintro e w9 ⟨a9, c9, rfl, o9, u9⟩)
  go_ret
  exact ⟨a9, c9, rfl, o9.row, fun g hg => by have := o9.fresh g hg; omega, H8.out.2.step u9⟩
theorem app_B {w0 w' : World} {xs ys : List Int} {a1 a2 : Option Addr} {c1 c2 : Nat} (h : OwnB w0 (.slice a1 xs.length c1) xs w) (o : w'.ownsRow 0 5 1 (.slice a2 (xs.length + ys.length) c2) (xs.length + ys.length) (byts xs ++ byts ys)) (u : Upd (Value.slice a1 xs.length c1).ownBlock.toList w w')
    (k : (Value.slice a2 (xs.length + ys.length) c2).ownBlock = (Value.slice a1 xs.length c1).ownBlock ∨ (Value.slice a2 (xs.length + ys.length) c2).ownBlock = some w.heap.size) : OwnB w0 (.slice a2 (xs ++ ys).length c2) (xs ++ ys) w' := by
  rw [List.length_append]
  exact h.app o u k
set_option maxRecDepth 100000 in
set_option maxHeartbeats 4000000 in
theorem CoreR_calls (k : Int) (hk : IsI64 k) {v : Value} {xs : List Int} (hs : SL w 1 v xs.length (byts xs)) (hl : xs.length ≤ 1000000000) : Calls Tryz.prog 53 #[.int .i64 k, v] w (R02.BytT (coreB k xs) w) := by
  have HX := Lib.hid (And.intro hk hs)
  obtain ⟨a, cap, rfl, q1, r1, _⟩ := SL.form hs
  have hil := ib_length k
  have hrl := rb_length xs
  have HC := Lib.hid (show coreB k xs = ib k ++ rb xs from rfl)
  generalize coreB k xs = c at *
  clear hs hk
  go_enter Tryz.func53, Tryz.ntmps53
  go_wp2_with (go_at_call 67; refine (R02.Int_calls k HX.out.1).mono ?_; rintro e w1 ⟨a1, c1, rfl, o1⟩)
  have H1 := Lib.hid (And.intro o1 (HX.out.2.upd o1.u (by simp)))
  clear o1
  have HRW := Lib.hid (R02.Raw_calls H1.out.2 (by omega))
  generalize ib k = x at *
  generalize rb xs = y at *
  go_wp2_with (first | (go_at_call 54; refine HRW.out.mono ?_; rintro e w2 ⟨a2, c2, rfl, o2⟩) | (refine wpList_appS rfl _ _ _ rfl 5 1 1 _ Tryz.underlying39 infoByte rfl (by decide) (.slice a1 x.length c1) x.length (byts x) rfl (H1.out.1.quiet o2.u).row (.slice a2 y.length c2) y.length (byts y) rfl o2.sl (byts_one _) (by unfold maxLen; omega) (by omega) ?_; intro a6 cap6 w6 o6 u6 k6))
  go_ret
  rw [HC.out]
  exact ⟨a6, cap6, by rw [List.length_append]; rfl, app_B (H1.out.1.quiet o2.u) o6 u6 k6⟩
set_option maxRecDepth 100000 in
set_option maxHeartbeats 4000000 in
theorem FrameR_calls (k : Int) (hk : IsI64 k) {v : Value} {xs : List Int} (hs : SL w 1 v xs.length (byts xs)) (hx : ∀ x ∈ xs, IsU8 x) (hl : xs.length ≤ 100000000) : Calls Tryz.prog 37 #[.int .i64 k, v] w (R02.BytT (frB k xs) w) := by
  have HX := Lib.hid (And.intro hk hs)
  obtain ⟨a, cap, rfl, q1, r1, _⟩ := SL.form hs
  have hcl := coreB_length k xs
  have hc8 := coreB_u8 hk hx (by omega)
  have HCR := Lib.hid (CoreR_calls k hk hs (by omega))
  have HF := Lib.hid (show frB k xs = rb (coreB k xs) ++ ub (bytesN frW 5 (coreB k xs)) from rfl)
  generalize frB k xs = f at *
  generalize coreB k xs = c at *
  clear hs hk hx
  go_enter Tryz.func37, Tryz.ntmps37
  go_wp2_with (go_at_call 53; refine HCR.out.mono ?_; rintro e w1 ⟨a1, c1, rfl, o1⟩)
  have HRW := Lib.hid (R02.Raw_calls (w := w1) o1.sl (by omega))
  have hrl := rb_length c
  have H1 := Lib.hid o1
  clear o1
  generalize hrb : rb c = x at *
  clear hrb
  go_wp2_with (go_at_call 54; refine HRW.out.mono ?_; rintro e w2 ⟨a2, c2, rfl, o2⟩)
  have HBY := Lib.hid (Bytes_calls (w := w2) frS (by rw [frS_size]; omega) (H1.out.quiet o2.u).sl hc8 (by omega))
  rw [frS_W, frS_size] at HBY
  have hlt : bytesN frW 5 c < 18446744073709551616 := bytesN_lt _ _ _
  generalize bytesN frW 5 c = h at *
  have hul := ub_length h
  have HU := Lib.hid (fun w : World => R02.Uint_calls (w := w) h hlt)
  generalize ub h = y at *
  have H2 := Lib.hid o2
  clear o2
  go_wp2_with (first | (go_at_call 56; refine HBY.out.mono ?_; rintro e w3 ⟨rfl, u3⟩) | (go_at_call 55; refine (HU.out _).mono ?_; rintro e w4 ⟨a4, c4, rfl, o4⟩) | (refine wpList_appS rfl _ _ _ rfl 5 1 1 _ Tryz.underlying39 infoByte rfl (by decide) (.slice a2 x.length c2) x.length (byts x) rfl ((H2.out.quiet u3).quiet o4.u).row (.slice a4 y.length c4) y.length (byts y) rfl o4.sl (byts_one _) (by unfold maxLen; omega) (by omega) ?_; intro a6 cap6 w6 o6 u6 k6))
  go_ret
  rw [HF.out]
  have hb := app_B ((H2.out.quiet u3).quiet o4.u) o6 u6 k6
  exact ⟨a6, cap6, by rw [List.length_append]; rfl, hb.base H1.out.u⟩
end
end Jour
end Go.Proofs.YtfkgpecglcjpkaaGreat
