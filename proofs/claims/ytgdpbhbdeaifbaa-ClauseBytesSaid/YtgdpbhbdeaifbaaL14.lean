/- Walks through the laws of clauses: lists, hints, lives. Conditions: none. -/
import Derived.Test.YtgdpbhbdeaifbaaSomeO
import Derived.Test.YtgdpbhbdeaifbaaChain3
import Derived.Test.YtgdpbhbdeaifbaaResolve
set_option linter.unusedVariables false
set_option linter.unusedSimpArgs false
set_option linter.unusedSectionVars false
open Go.RowKit
namespace Go.Proofs.Ytgdpbhbdeaifbaa
open L
namespace Law
open R01 R14 Cla
def pick (xs : List Int) (i m : Int) : Int := if i < 0 ∨ xs.length ≤ i then 0 else around (xs.getD i.toNat 0) m
/-- What lists returns. -/
def ListsT (w : World) (e : Ending) (w' : World) : Prop := ∃ v L, e = .returned v ∧ CL w' v L ∧ L.length = 9 ∧ (∀ c ∈ L, c.length ≤ 100 ∧ ∀ x ∈ c, IsI64 x) ∧ Upd [] w w'
def HintsT (vars : Int) (w : World) (e : Ending) (w' : World) : Prop :=
  ∃ v H, e = .returned v ∧ CL w' v H ∧ H.length ≤ 6 ∧ (∀ c ∈ H, (∀ x ∈ c, 1 ≤ x.natAbs ∧ (x.natAbs : Int) ≤ vars) ∧ c.length ≤ vars.toNat ∧ Ord c) ∧ Upd [] w w'
section
variable {w : World}
theorem Pick_calls {v : Value} {xs : List Int} (hx : ∀ x ∈ xs, IsI64 x) (h : SL w 1 v xs.length (ints xs)) (i m : Int) (hm : 1 ≤ m) (hm2 : m ≤ 9223372036854775807) :
    Calls Try.prog 27 #[v, .int .i64 i, .int .i64 m] w fun e w' => e = .returned (.int .i64 (pick xs i m)) ∧ w = w' := by
  obtain ⟨a, cap, rfl, q1, r1, hc⟩ := SL.elems h
  have HC := Lib.hid (And.intro hc hx)
  clear hc h hx
  by_cases h0 : i < 0
  · have HP := Lib.hid (show pick xs i m = 0 by unfold pick; rw [if_pos (.inl h0)])
    go_enter Try.func27, Try.ntmps27
    go_wp2_with fail
    go_ret
    exact ⟨ret_int HP.out.symm, rfl⟩
  · by_cases h1 : (xs.length : Int) ≤ i
    · have HP := Lib.hid (show pick xs i m = 0 by unfold pick; rw [if_pos (.inr h1)])
      go_enter Try.func27, Try.ntmps27
      go_wp2_with fail
      go_ret
      exact ⟨ret_int HP.out.symm, rfl⟩
    · have hlt : i.toNat < xs.length := by omega
      obtain ⟨g, off, rfl, k1⟩ := HC.out.1 (by omega)
      have e1 := k1 _ _ (ints_gd hlt)
      have hxi := HC.out.2 _ (gd_mem hlt)
      have HP := Lib.hid (show pick xs i m = around (xs.getD i.toNat 0) m by unfold pick; rw [if_neg (by omega)])
      clear k1
      generalize xs.getD i.toNat 0 = x at *
      go_enter Try.func27, Try.ntmps27
      go_wp2_with (go_at_call 13; refine (Around_calls x m _ hxi hm hm2).mono ?_; rintro e w' ⟨rfl, rfl⟩)
      go_ret
      exact ⟨ret_int HP.out.symm, rfl⟩
set_option maxRecDepth 100000 in
set_option maxHeartbeats 4000000 in
theorem Hints_calls {lv : Value} {xs : List Int} (hx : ∀ x ∈ xs, IsI64 x) (hl : SL w 1 lv xs.length (ints xs)) (vars : Int) (hv : 0 ≤ vars) (hv2 : vars ≤ 100) :
    Calls Try.prog 12 #[lv, .int .i64 vars] w (HintsT vars w) := by
  obtain ⟨a, cap, rfl, q1, r1, hc⟩ := SL.elems hl
  have HC := Lib.hid (And.intro hc hx)
  clear hc hl hx
  go_enter Try.func12, Try.ntmps12
  go_wp2_with fail
  go_loopw [5, 6] (fun o i wr => ∃ (k : Nat) (H : List (List Int)) (F : List Nat), k ≤ 6 ∧ k ≤ xs.length ∧ i = .int .i64 k ∧ H.length = k ∧ OwnL 22 w o H F wr ∧ (∀ b ∈ F, w.heap.size ≤ b) ∧ (∀ c ∈ H, (∀ x ∈ c, 1 ≤ x.natAbs ∧ (x.natAbs : Int) ≤ vars) ∧ c.length ≤ vars.toNat ∧ Ord c) ∧ Upd [] w wr) (fun _ i _ => 6 - (intOf i).toNat)
  case atStart => exact ⟨0, [], [], by omega, by omega, rfl, rfl, OwnL.nil _ _ _, by simp, by simp, Upd.refl _ _⟩
  case round =>
    obtain ⟨k, H, F, hk6, hk, rfl, hHl, hO, hF, hH, hu⟩ := hrel
    have HL := Lib.hid (And.intro hHl (And.intro hO (And.intro hF (And.intro hH hu))))
    clear hHl hO hF hH hu
    by_cases hlt : k < xs.length ∧ k < 6
    · obtain ⟨hlt, hlt6⟩ := hlt
      obtain ⟨g, off, rfl, k1⟩ := HC.out.1 (by omega)
      have e0 := HL.out.2.2.2.2.some (k1 k _ (ints_gd hlt)) (by simp)
      have hxi := HC.out.2 _ (gd_mem hlt)
      clear k1
      generalize xs.getD k 0 = x at *
      go_upto_region 5 with fail
      refine wp_region_lit ?_
      refine wpList_cutH 7 (fun K hK => ?_)
      simp only [List.take_succ_cons, List.take_zero]
      go_wp2_with fail
      refine (SomeO_calls x vars hxi (by omega)).mono ?_
      rintro e w2 ⟨v2, c, rfl, ho, hcx, hcl, hco⟩
      obtain ⟨ac, capc, rfl, _, _⟩ := ho.form
      have HO := Lib.hid (And.intro ho (And.intro hcx (And.intro hcl hco)))
      clear ho hcx hcl hco
      go_wp2_with fail
      refine Halt_.intro ?_; try simp only [List.drop_succ_cons, List.drop_zero]
      have C1 := HL.out.2.1.upd HO.out.1.u (by simp)
      obtain ⟨vals, hv, hvs⟩ := C1.ex
      have hcle := HL.out.1
      refine wpList_push rfl rfl _ _ _ _ rfl rfl rfl 22 1 24 _ Try.underlying23 infoInts rfl (by decide) (by decide) (.slice ac c.length capc) [.slice ac c.length capc] rfl rfl rfl (by simp [Value.oneCell']) _ _ _ hv.row rfl rfl (by unfold maxLen; omega) (by omega) ?_
      intro g2 cap2 w3 o3 u3 k3
      simp only [Act.put, List.setIfInBounds_toArray, List.set_cons_zero, List.set_cons_succ]
      have hsz := HL.out.2.2.2.2.size
      have L2 := C1.push (y := .slice ac c.length capc) (c := c) hv hvs (by have := HO.out.1.u.size; omega) HO.out.1.sl (fun b hb => by
        have h1 := HO.out.1.row.lt b hb
        have h2 := HO.out.1.fresh b hb
        refine ⟨fun h => ?_, h1.2⟩
        have := HL.out.2.1.own_lt b h
        omega) o3 u3 k3
      have U3 : Upd [] w w3 := (HL.out.2.2.2.2.step HO.out.1.u).fresh u3 (fun b hb => .inr (hv.fresh b (by simpa using hb)))
      have hff := HO.out.1.fresh
      have HQ := Lib.hid (And.intro L2 (And.intro U3 hff))
      clear L2 U3 o3 u3 k3 hv hvs C1 hff
      go_wp2_with fail
      refine ⟨⟨k + 1, H ++ [c], F ++ (Value.slice ac c.length capc).ownBlock.toList, by omega, by omega, by go_num, by simp [hcle], HQ.out.1, fun b hb => ?_, fun d hd => ?_, HQ.out.2.1⟩, by simp [intOf]; omega⟩
      · rcases List.mem_append.1 hb with hb | hb
        · exact HL.out.2.2.1 b hb
        · have := HQ.out.2.2 b (by simpa using hb); omega
      · rcases List.mem_append.1 hd with hd | hd
        · exact HL.out.2.2.2.1 d hd
        · simp at hd; subst hd; exact HO.out.2
    · have hcl := HL.out.2.1.cl
      obtain ⟨ah, ch, rfl, _, _, _⟩ := hcl.form
      have HN : Hid (k < xs.length → 6 ≤ k) := by unfold Hid; omega
      have HQ := Lib.hid hcl
      have hlen := HL.out.1
      clear hcl
      by_cases h1 : k < xs.length
      · have h2 := HN.out h1
        clear hlt
        go_wp2_with fail
        go_ret
        exact ⟨_, H, rfl, HQ.out, by omega, HL.out.2.2.2⟩
      · clear hlt
        go_wp2_with fail
        go_ret
        exact ⟨_, H, rfl, HQ.out, by omega, HL.out.2.2.2⟩
theorem sl_lit {w0 w : World} (cs : List Int) (h : Blk w w0.heap.size (ints cs) 3) (hl : cs.length ≤ 1000) : SL w 1 (.slice (some ⟨w0.heap.size, 0, none⟩) cs.length cs.length) cs.length (ints cs) :=
  SL.of_blk (pad := []) (by simpa using h) (by simp [ints]) (Nat.le_refl _) (by unfold maxLen; omega)
set_option maxRecDepth 100000 in
set_option maxHeartbeats 8000000 in
theorem Lists_calls {lv : Value} {xs : List Int} (hx : ∀ x ∈ xs, IsI64 x) (hl : SL w 1 lv xs.length (ints xs)) (n : Int) (hn : IsI64 n) :
    Calls Try.prog 11 #[lv, .int .i64 n] w (ListsT w) := by
  obtain ⟨a, cap, rfl, q1, r1, hc⟩ := SL.elems hl
  have HC := Lib.hid (And.intro hc hx)
  clear hc hl hx
  go_enter Try.func11, Try.ntmps11
  go_wp2_with fail
  go_loopw [5, 6] (fun o i wr => ∃ (k : Nat) (raw : List Int), k ≤ 7 ∧ k ≤ xs.length ∧ i = .int .i64 k ∧ raw.length = k ∧ Own w o raw wr ∧ ∀ x ∈ raw, -4 ≤ x ∧ x ≤ 4) (fun _ i _ => 7 - (intOf i).toNat)
  case atStart => exact ⟨0, [], by omega, by omega, rfl, rfl, Own.nil w, by simp⟩
  case round =>
    obtain ⟨k, raw, hk7, hk, rfl, hrl, ho, hr⟩ := hrel
    have HO := Lib.hid (And.intro hrl (And.intro ho hr))
    have hrl2 : raw.length ≤ 7 := by omega
    clear hrl hr
    by_cases hlt : k < xs.length ∧ k < 7
    · clear ho
      obtain ⟨hlt, hlt7⟩ := hlt
      obtain ⟨g, off, rfl, k1⟩ := HC.out.1 (by omega)
      have e0 := HO.out.2.1.u.some (k1 k _ (ints_gd hlt)) (by simp)
      have hxi := HC.out.2 _ (gd_mem hlt)
      clear k1
      generalize xs.getD k 0 = x at *
      have ha0 := around_lo (n := x) (k := 9) (by omega)
      have ha1 := around_hi (n := x) (k := 9) (by omega)
      have HA2 := Lib.hid (fun w => Around_calls x 9 w hxi (by omega) (by omega))
      generalize around x 9 = y at *
      go_wp2_with (first | (go_at_call 13; refine (HA2.out _).mono ?_; rintro e w' ⟨rfl, rfl⟩) | (refine wpList_push rfl rfl _ _ _ _ rfl rfl rfl 3 1 8 _ Try.underlying22 infoInt rfl (by decide) (by decide) (.int .i64 (y - 4)) [.int .i64 (y - 4)] rfl rfl rfl (ints_one [y - 4]) _ _ _ HO.out.2.1.row rfl rfl (by unfold maxLen; omega) (by omega) ?_; intro g4 cap4 w4 o4 u4 k4))
      have N4 := HO.out.2.1.push o4 u4 k4
      refine ⟨⟨k + 1, raw ++ [y - 4], by omega, by omega, by go_num, by have := HO.out.1; simp; omega, by simpa using N4, fun z hz => ?_⟩, by simp [intOf]; omega⟩
      rcases List.mem_append.1 hz with hz | hz
      · exact HO.out.2.2 z hz
      · simp at hz; omega
    · have HN : Hid (k < xs.length → 7 ≤ k) := by unfold Hid; omega
      obtain ⟨ar, cr, rfl, _, hform⟩ := ho.form
      have HF := Lib.hid hform
      clear ho hform
      have key : ∀ (Q : Prop), (k < xs.length → 7 ≤ k → Q) → (¬ k < xs.length → Q) → Q := fun Q h1 h2 => if h : k < xs.length then h1 h (HN.out h) else h2 h
      refine key _ (fun h1 h2 => ?_) (fun h1 => ?_)
      all_goals
        clear hlt key
        go_wp2_with fail
        obtain ⟨wo, rfl⟩ : ∃ wo : World, wo = wr := ⟨_, rfl⟩
        go_loopw [7, 8] (fun o i wq => ∃ (m : Nat) (sm : List Int), m ≤ raw.length ∧ i = .int .i64 m ∧ sm.length ≤ m ∧ Own wo o sm wq ∧ ∀ x ∈ sm, -4 ≤ x ∧ x ≤ 4) (fun _ i _ => raw.length - (intOf i).toNat)
        case atStart => exact ⟨0, [], by omega, rfl, by simp, Own.nil _, by simp⟩
        case round =>
          obtain ⟨m, sm, hm, rfl, hsl, hs, hsr⟩ := hrel
          have HS := Lib.hid (And.intro hs hsr)
          clear hsr
          by_cases hltm : m < raw.length
          · clear hs
            obtain ⟨g2, rfl, k2⟩ := HF.out (by omega)
            have e2 := HS.out.1.u.some (k2 m _ (gd_some (d := 0) hltm)) (by simp)
            have hyr := HO.out.2.2 _ (gd_mem hltm)
            clear k2
            generalize raw.getD m 0 = y at *
            by_cases hy : y = 0
            · subst hy
              go_wp2_with fail
              exact ⟨⟨m + 1, sm, by omega, by go_num, by omega, HS.out.1, HS.out.2⟩, by simp [intOf]; omega⟩
            · have hb : (y != 0) = true := by simpa using hy
              clear hy
              go_wp2_with (refine wpList_push rfl rfl _ _ _ _ rfl rfl rfl 3 1 8 _ Try.underlying22 infoInt rfl (by decide) (by decide) (.int .i64 y) [.int .i64 y] rfl rfl rfl (ints_one [y]) _ _ _ HS.out.1.row rfl rfl (by unfold maxLen; omega) (by omega) ?_; intro g4 cap4 w4 o4 u4 k4)
              have N4 := HS.out.1.push o4 u4 k4
              refine ⟨⟨m + 1, sm ++ [y], by omega, by go_num, by simp; omega, by simpa using N4, fun z hz => ?_⟩, by simp [intOf]; omega⟩
              rcases List.mem_append.1 hz with hz | hz
              · exact HS.out.2 z hz
              · simp at hz; omega
          · obtain ⟨asm, csm, rfl, _, _⟩ := hs.form
            have H2 := Lib.hid (And.intro (HO.out.2.1.quiet hs.u) (And.intro hs.sl (HO.out.2.1.u.step hs.u)))
            clear hs
            go_upto_region 12 with fail
            refine wp_region_lit ?_
            refine wpList_cutH 9 (fun K hK => ?_)
            simp only [List.take_succ_cons, List.take_zero]
            go_wp2_with fail
            refine (SomeO_calls n 5 hn (by omega)).mono ?_
            rintro e w1 ⟨v1, c1, rfl, o1, x1, l1, _⟩
            obtain ⟨a1, p1, rfl, _, _⟩ := o1.form
            have H1 := Lib.hid (And.intro (H2.out.1.sl.upd o1.u (by simp)) (And.intro (H2.out.2.1.upd o1.u (by simp)) (And.intro o1.sl (And.intro (H2.out.2.2.step o1.u) (And.intro x1 l1)))))
            clear o1 x1 l1 H2
            go_wp2_with fail
            refine (SomeO_calls _ 4 (isI64_wrap _) (by omega)).mono ?_
            rintro e w2 ⟨v2, c2, rfl, o2, x2, l2, _⟩
            obtain ⟨a2, p2, rfl, _, _⟩ := o2.form
            have H3 := Lib.hid (And.intro (H1.out.1.upd o2.u (by simp)) (And.intro (H1.out.2.1.upd o2.u (by simp)) (And.intro (H1.out.2.2.1.upd o2.u (by simp)) (And.intro o2.sl (And.intro (H1.out.2.2.2.1.step o2.u) (And.intro x2 l2))))))
            have HX1 := Lib.hid H1.out.2.2.2.2
            clear o2 x2 l2 H1
            go_wp2_with fail
            refine Halt_.intro ?_; try simp only [List.drop_succ_cons, List.drop_zero]
            have g0 := owns_none (w := w2) rfl 3
            have u0 := (Upd.refl [] w2).alloc (.cells #[] 3)
            have S0 := H3.out.2.1.upd u0 (by simp)
            generalize hw3 : w2.alloc (.cells #[] 3) = w3 at *
            refine wpList_appS rfl _ _ _ rfl 3 1 8 _ Try.underlying22 infoInt rfl (by decide) (.slice (some ⟨w2.heap.size, 0, none⟩) 0 0) 0 [] rfl (owns_blk g0 rfl (by unfold maxLen; omega)) (.slice asm sm.length csm) sm.length (ints sm) rfl S0 (ints_one _) (by unfold maxLen; omega) (by omega) ?_
            intro a4 cap4 w4 o4 u4 k4
            simp only [Act.put, List.setIfInBounds_toArray, List.set_cons_zero, List.set_cons_succ]
            rw [List.nil_append] at o4
            simp only [Nat.zero_add] at o4 u4 k4 ⊢
            have hs3 : w2.heap.size < w3.heap.size := by rw [← hw3]; simp
            have N4 : Own w2 (.slice a4 sm.length cap4) sm w4 := ⟨o4, fun g hg => by rcases k4 with h | h <;> rw [hg] at h <;> simp [Value.ownBlock] at h <;> omega, u0.fresh u4 (fun j hj => .inr (by simp [Value.ownBlock] at hj; omega))⟩
            have H4 := Lib.hid N4
            clear N4 o4 u4 k4 g0 u0 S0 hw3 hs3
            refine wpList_cutH 1 (fun K hK => ?_)
            simp only [List.take_succ_cons, List.take_zero]
            go_wp2_with fail
            refine Halt_.intro ?_; try simp only [List.drop_succ_cons, List.drop_zero]
            refine wpList_push rfl rfl _ _ _ _ rfl rfl rfl 3 1 8 _ Try.underlying22 infoInt rfl (by decide) (by decide) (.int .i64 n) [.int .i64 n] rfl rfl rfl (ints_one [n]) _ _ _ H4.out.row rfl rfl (by unfold maxLen; omega) (by omega) ?_
            intro g5 cap5 w5 o5 u5 k5
            simp only [Act.put, List.setIfInBounds_toArray, List.set_cons_zero, List.set_cons_succ]
            have N5 := H4.out.push o5 u5 k5
            have H5 := Lib.hid N5
            clear N5 o5 u5 k5 H4
            refine wpList_cutH 1 (fun K hK => ?_)
            simp only [List.take_succ_cons, List.take_zero]
            go_wp2_with fail
            refine Halt_.intro ?_; try simp only [List.drop_succ_cons, List.drop_zero]
            have B6 := Blk.new w5 [.int .i64 1073741824] 3
            have U6 := H5.out.u.alloc (.cells #[.int .i64 1073741824] 3)
            have V6 := (Upd.refl [] w5).alloc (.cells #[.int .i64 1073741824] 3)
            generalize w5.alloc (.cells #[.int .i64 1073741824] 3) = w6 at *
            have H6 := Lib.hid (And.intro (sl_lit [1073741824] B6 (by simp)) (And.intro U6 (H5.out.sl.upd V6 (by simp))))
            clear B6 U6 V6
            refine wpList_cutH 1 (fun K hK => ?_)
            simp only [List.take_succ_cons, List.take_zero]
            go_wp2_with fail
            refine Halt_.intro ?_; try simp only [List.drop_succ_cons, List.drop_zero]
            have B7 := Blk.new w6 [.int .i64 (-1073741824), .int .i64 1] 3
            have U7 := H6.out.2.1.alloc (.cells #[.int .i64 (-1073741824), .int .i64 1] 3)
            have V7 := (Upd.refl [] w6).alloc (.cells #[.int .i64 (-1073741824), .int .i64 1] 3)
            generalize w6.alloc (.cells #[.int .i64 (-1073741824), .int .i64 1] 3) = w7 at *
            have H7 := Lib.hid (And.intro (sl_lit [-1073741824, 1] B7 (by simp)) (And.intro (H6.out.1.upd V7 (by simp)) (And.intro U7 (H6.out.2.2.upd V7 (by simp)))))
            clear B7 U7 V7 H6
            refine wpList_cutH 1 (fun K hK => ?_)
            simp only [List.take_succ_cons, List.take_zero]
            go_wp2_with fail
            refine Halt_.intro ?_; try simp only [List.drop_succ_cons, List.drop_zero]
            have B8 := Blk.new w7 [.int .i64 1073741825] 3
            have U8 := H7.out.2.2.1.alloc (.cells #[.int .i64 1073741825] 3)
            have V8 := (Upd.refl [] w7).alloc (.cells #[.int .i64 1073741825] 3)
            generalize w7.alloc (.cells #[.int .i64 1073741825] 3) = w8 at *
            have H8 := Lib.hid (And.intro (sl_lit [1073741825] B8 (by simp)) (And.intro (H7.out.1.upd V8 (by simp)) (And.intro (H7.out.2.1.upd V8 (by simp)) (And.intro U8 (H7.out.2.2.2.upd V8 (by simp))))))
            clear B8 U8 V8 H7
            go_wp2_with fail
            go_ret
            have BR := Blk.new w8 [.slice a1 c1.length p1, .slice a2 c2.length p2, .slice asm sm.length csm, .slice ar raw.length cr, .slice (some ⟨g5, 0, none⟩) (sm.length + 1) cap5, .slice (some ⟨w5.heap.size, 0, none⟩) 1 1, .slice (some ⟨w6.heap.size, 0, none⟩) 2 2, .slice (some ⟨w7.heap.size, 0, none⟩) 1 1, .slice none 0 0] 22
            have UR := (Upd.refl [] w8).alloc (.cells #[.slice a1 c1.length p1, .slice a2 c2.length p2, .slice asm sm.length csm, .slice ar raw.length cr, .slice (some ⟨g5, 0, none⟩) (sm.length + 1) cap5, .slice (some ⟨w5.heap.size, 0, none⟩) 1 1, .slice (some ⟨w6.heap.size, 0, none⟩) 2 2, .slice (some ⟨w7.heap.size, 0, none⟩) 1 1, .slice none 0 0] 22)
            have U28 := H8.out.2.2.2.1
            refine ⟨.slice (some ⟨w8.heap.size, 0, none⟩) 9 9, [c1, c2, sm, raw, sm ++ [n], [1073741824], [-1073741824, 1], [1073741825], []], rfl, CL.of_blk (cs := [c1, c2, sm, raw, sm ++ [n], [1073741824], [-1073741824, 1], [1073741825], []]) BR rfl (by simp) (fun i d hd => ?_), rfl, fun d hd => ?_, (H3.out.2.2.2.2.1.step U28).step UR⟩
            · match i with
              | 0 => cases hd; exact ⟨_, rfl, (H3.out.2.2.1.upd U28 (by simp)).upd UR (by simp)⟩
              | 1 => cases hd; exact ⟨_, rfl, (H3.out.2.2.2.1.upd U28 (by simp)).upd UR (by simp)⟩
              | 2 => cases hd; exact ⟨_, rfl, (H3.out.2.1.upd U28 (by simp)).upd UR (by simp)⟩
              | 3 => cases hd; exact ⟨_, rfl, (H3.out.1.upd U28 (by simp)).upd UR (by simp)⟩
              | 4 => cases hd; exact ⟨_, rfl, H8.out.2.2.2.2.upd UR (by simp)⟩
              | 5 => cases hd; exact ⟨_, rfl, H8.out.2.2.1.upd UR (by simp)⟩
              | 6 => cases hd; exact ⟨_, rfl, H8.out.2.1.upd UR (by simp)⟩
              | 7 => cases hd; exact ⟨_, rfl, H8.out.1.upd UR (by simp)⟩
              | 8 => cases hd; exact ⟨_, rfl, (Own.nil _).sl⟩
              | (i + 9) => simp at hd
            · have hx1 := HX1.out
              have hx2 := H3.out.2.2.2.2.2
              have hx3 := HS.out.2
              have hx4 := HO.out.2.2
              have hn' := hn
              unfold IsI64 at hn'
              simp only [List.mem_cons, List.not_mem_nil, or_false] at hd
              rcases hd with rfl | rfl | rfl | rfl | rfl | rfl | rfl | rfl | rfl
              · exact ⟨by have := hx1.2; simp at this; omega, fun x hx => by have := hx1.1 x hx; unfold IsI64; omega⟩
              · exact ⟨by have := hx2.2; simp at this; omega, fun x hx => by have := hx2.1 x hx; unfold IsI64; omega⟩
              · exact ⟨by omega, fun x hx => by have := hx3 x hx; unfold IsI64; omega⟩
              · exact ⟨by omega, fun x hx => by have := hx4 x hx; unfold IsI64; omega⟩
              · refine ⟨by simp; omega, fun x hx => ?_⟩
                rcases List.mem_append.1 hx with hx | hx
                · have := hx3 x hx; unfold IsI64; omega
                · simp at hx; subst hx; exact hn
              · exact ⟨by simp, fun x hx => by simp at hx; unfold IsI64; omega⟩
              · exact ⟨by simp, fun x hx => by simp at hx; unfold IsI64; omega⟩
              · exact ⟨by simp, fun x hx => by simp at hx; unfold IsI64; omega⟩
              · exact ⟨by simp, fun x hx => by simp at hx⟩
end
end Law
end Go.Proofs.Ytgdpbhbdeaifbaa
