/- Walks through the reference of package trim: Pick. Conditions: none. -/
import Derived.Test.YtnmfihgdedifoaaTrimRC
set_option linter.unusedVariables false
set_option linter.unusedSimpArgs false
set_option linter.unusedSectionVars false
open Go.RowKit
namespace Go.Proofs.Ytnmfihgdedifoaa
open L R01
namespace Trim
structure RK1 (w : World) (nl : Nat) (pc : List Value) (vl : Value) (L : List LemD) (f : Nat → Int) (W : World) : Prop where
  pb : Blk W w.heap.size pc 30
  rb : Blk W (w.heap.size + 1) [.slice none 0 0, .slice none 0 0] 30
  ob_ : Blk W (w.heap.size + 2) [vl, .slice none 0 0] 30
  gN_ : Blk W (w.heap.size + 3) (ints (tabI nl f)) 3
  lq : LmQ w vl L W
  u_ : Upd [] w W
theorem RK1.ext {w : World} {nl : Nat} {pc : List Value} {vl : Value} {L : List LemD} {f : Nat → Int} {W W' : World} (h : RK1 w nl pc vl L f W) (e : Upd [] W W') : RK1 w nl pc vl L f W' :=
  ⟨h.pb.upd e (by simp), h.rb.upd e (by simp), h.ob_.upd e (by simp), h.gN_.upd e (by simp), h.lq.upd (off_nil _ _) e, h.u_.step e⟩
theorem RK1.setN {w : World} {nl : Nat} {pc : List Value} {vl : Value} {L : List LemD} {f : Nat → Int} {W : World} (h : RK1 w nl pc vl L f W) (k : Nat) (x : Int) : RK1 w nl pc vl L (fun j => if j = k then x else f j) (W.setCell ⟨w.heap.size + 3, k, none⟩ (.int .i64 x)) := by
  have us : Upd [w.heap.size + 3] W (W.setCell ⟨w.heap.size + 3, k, none⟩ (.int .i64 x)) := (Upd.refl _ W).set (.inl (by simp)) _
  have hB := h.gN_.set k (.int .i64 x)
  rw [tabI_set] at hB
  exact ⟨h.pb.upd us (by simp), h.rb.upd us (by simp), h.ob_.upd us (by simp), hB, h.lq.upd (off_blk h.gN_ (by decide)) us, h.u_.fresh us (fun b hb => .inr (by simp at hb; omega))⟩
theorem RK1.congr {w : World} {nl : Nat} {pc : List Value} {vl : Value} {L : List LemD} {f f' : Nat → Int} {W : World} (h : RK1 w nl pc vl L f W) (he : ∀ j, j < nl → f j = f' j) : RK1 w nl pc vl L f' W := by
  have hB := h.gN_
  rw [tabI_congr he] at hB
  exact ⟨h.pb, h.rb, h.ob_, hB, h.lq, h.u_⟩
/-- One lemma more. -/
theorem RK1.push {w : World} {nl : Nat} {pc : List Value} {a : Option Addr} {m c g7 c7 : Nat} {L : List LemD} {f : Nat → Int} {W W' : World} {d : LemD} {fo : Nat → List Value} {cs : List Value} (h : RK1 w nl pc (.slice a m c) L f W) (hm : m = L.length)
    (h1 : W.ownsRow 0 82 4 (.slice a m c) m (rows m fo)) (h2 : ∀ i, (fo i).length = 4) (h3 : ∀ (i : Nat) (s : LemD), L[i]? = some s → LmR w s (fo i)) (h4 : ∀ g, (Value.slice a m c).ownBlock = some g → w.heap.size ≤ g) (hd : LmR w d cs) (hcs : cs.length = 4)
    (o : W'.ownsRow 0 82 4 (.slice (some ⟨g7, 0, none⟩) (m + 1) c7) (m + 1) (rows m fo ++ cs)) (u7 : Upd (Value.slice a m c).ownBlock.toList W W') (k7 : (Value.slice a m c).ownBlock = some g7 ∨ W.heap.size ≤ g7) :
    Blk W' (w.heap.size + 2) [.slice a m c, .slice none 0 0] 30 ∧ RK1 w nl pc (.slice (some ⟨g7, 0, none⟩) (m + 1) c7) (L ++ [d]) f (W'.setCell ⟨w.heap.size + 2, 0, none⟩ (.slice (some ⟨g7, 0, none⟩) (m + 1) c7)) := by
  subst hm
  have B7 := offrow h.ob_ h1 (by decide) u7
  have us : Upd [w.heap.size + 2] W' (W'.setCell ⟨w.heap.size + 2, 0, none⟩ (.slice (some ⟨g7, 0, none⟩) (L.length + 1) c7)) := (Upd.refl _ W').set (.inl (by simp)) _
  have hz := h.u_.size
  have lq7 : LmQ w (.slice (some ⟨g7, 0, none⟩) (L.length + 1) c7) (L ++ [d]) W' := lmQ_push h2 h3 hd hcs o (fun g hg => by
    simp only [Value.ownBlock, Option.some.injEq] at hg
    subst hg
    rcases k7 with k7 | k7
    · exact h4 _ k7
    · omega)
  exact ⟨B7, (offrow h.pb h1 (by decide) u7).upd us (by simp), (offrow h.rb h1 (by decide) u7).upd us (by simp), B7.set 0 _, (offrow h.gN_ h1 (by decide) u7).upd us (by simp), lq7.upd (off_blk B7 (by decide)) us, (h.u_.fresh u7 (fun b hb => .inr (h4 b (by simpa using hb)))).fresh us (fun b hb => .inr (by simp at hb; omega))⟩
section
variable {w : World}
set_option maxRecDepth 100000 in
set_option maxHeartbeats 8000000 in
theorem rpick_calls {v vk : Value} {p : PrfD} {u : Nat → Bool} (h : PrL w v p) (hwf : Wf p) (hnl : p.lemmas.length ≤ 1000000) (hhl : ∀ (k : Nat) (st : StepD), p.steps[k]? = some st → st.hints.length ≤ 1000000) (hu : SL w 1 vk p.steps.length (bools (tab p.steps.length u))) :
    Calls Try.prog 38 #[v, vk] w fun e w' => ∃ (vl vs : Value) (a : Option Addr) (c : Nat), e = .returned (.tuple #[.agg #[vl, vs], .slice a p.steps.length c]) ∧ PrL w' (.agg #[vl, vs]) (pickP p u) ∧ RowI w' (.slice a p.steps.length c) (tabI p.steps.length (stepNo u)) ∧ Upd [] w w' := by
  obtain ⟨vl, vs, rfl, hL, hS⟩ := h
  obtain ⟨al, cl, rfl, ql, rl⟩ := hL.form
  obtain ⟨a2, c2, rfl, qs, rs, hat⟩ := hS.at_
  obtain ⟨_, ak, ck, rfl, qk, rk, _, hkc⟩ := hu
  unfold maxLen at rk
  have hlen := hwf.len
  have HW := Lib.hid (And.intro hat (And.intro hL (And.intro hwf (And.intro hhl hkc))))
  clear hat hL hS hwf hhl hkc
  have z1 : (w.alloc (.cells #[.slice al p.lemmas.length cl, .slice a2 p.steps.length c2] 30)).heap.size = w.heap.size + 1 := by simp
  have b1 := ((Blk.new w [.slice al p.lemmas.length cl, .slice a2 p.steps.length c2] 30).alloc (.cells #[.slice none 0 0, .slice none 0 0] 30)).alloc (.cells #[.slice none 0 0, .slice none 0 0] 30)
  have b2 := (Blk.new (w.alloc (.cells #[.slice al p.lemmas.length cl, .slice a2 p.steps.length c2] 30)) [.slice none 0 0, .slice none 0 0] 30).alloc (.cells #[.slice none 0 0, .slice none 0 0] 30)
  have b3 := Blk.new ((w.alloc (.cells #[.slice al p.lemmas.length cl, .slice a2 p.steps.length c2] 30)).alloc (.cells #[.slice none 0 0, .slice none 0 0] 30)) [.slice none 0 0, .slice none 0 0] 30
  rw [z1] at b2
  rw [show ((w.alloc (.cells #[.slice al p.lemmas.length cl, .slice a2 p.steps.length c2] 30)).alloc (.cells #[.slice none 0 0, .slice none 0 0] 30)).heap.size = w.heap.size + 2 by simp] at b3
  have u3 := (((Upd.refl [] w).alloc (.cells #[.slice al p.lemmas.length cl, .slice a2 p.steps.length c2] 30)).alloc (.cells #[.slice none 0 0, .slice none 0 0] 30)).alloc (.cells #[.slice none 0 0, .slice none 0 0] 30)
  have hz3 : (((w.alloc (.cells #[.slice al p.lemmas.length cl, .slice a2 p.steps.length c2] 30)).alloc (.cells #[.slice none 0 0, .slice none 0 0] 30)).alloc (.cells #[.slice none 0 0, .slice none 0 0] 30)).heap.size = w.heap.size + 3 := by simp
  go_enter Try.func38, Try.ntmps38
  go_upto_region 3 with fail
  generalize (((w.alloc (.cells #[.slice al p.lemmas.length cl, .slice a2 p.steps.length c2] 30)).alloc (.cells #[.slice none 0 0, .slice none 0 0] 30)).alloc (.cells #[.slice none 0 0, .slice none 0 0] 30)) = w3 at *
  clear z1
  have c0 := b1.cell (i := 0) rfl
  have B4 := Blk.new w3 (ints (tabI p.lemmas.length fun _ => 0)) 3
  rw [hz3] at B4
  have u4 := (Upd.refl [] w3).alloc (.cells (ints (tabI p.lemmas.length fun _ => 0)).toArray 3)
  have H4 := Lib.hid (show RK1 w p.lemmas.length [.slice al p.lemmas.length cl, .slice a2 p.steps.length c2] (.slice none 0 0) [] (fun _ => 0) _ from ⟨b1.upd u4 (by simp), b2.upd u4 (by simp), b3.upd u4 (by simp), B4, ⟨fun _ => [undef, undef, undef, undef], World.ownsRow_nil _ _ _ _, fun _ => rfl, fun i d hd => by simp at hd, by simp [Value.ownBlock]⟩, u3.step u4⟩)
  clear b1 b2 b3 u3 B4 u4
  go_upto_region 4 with (refine wpList_mk rfl _ _ _ rfl 3 1 8 _ Try.underlying22 infoInt rfl (by decide) _ _ _ _ p.lemmas.length rfl rfl rfl rfl (by omega) (by omega) ?_; change wpList _ _ _ _ _ (w3.alloc (.cells (rows p.lemmas.length fun _ => [.int .i64 0]).toArray 3)); rw [← tabI_zero])
  generalize (w3.alloc (.cells (ints (tabI p.lemmas.length fun _ => 0)).toArray 3)) = w4 at *
  clear c0
  obtain ⟨q, hq⟩ : ∃ q, q = refTo p.steps u p.steps.length := ⟨_, rfl⟩
  have HQ := Lib.hid hq
  clear hq
  go_wp2_with fail
  go_loopw [9] (fun i wr => ∃ (n : Nat) (vl' : Value), i = .int .i64 n ∧ n ≤ p.lemmas.length ∧ RK1 w p.lemmas.length [.slice al p.lemmas.length cl, .slice a2 p.steps.length c2] vl' (keepTo q p.lemmas n) (fun j => if j < n then lemNo' q j else 0) wr) (fun i _ => p.lemmas.length - (intOf i).toNat)
  case atStart => exact ⟨0, .slice none 0 0, rfl, Nat.zero_le _, H4.out.congr (fun j _ => by simp)⟩
  case round =>
    obtain ⟨wo, rfl⟩ : ∃ wo : World, wo = wr := ⟨_, rfl⟩
    obtain ⟨n, vl', rfl, hn, hI⟩ := hrel
    have c0 := hI.pb.cell (i := 0) rfl
    have HI := Lib.hid hI
    clear H4
    by_cases hlt : n < p.lemmas.length
    · have hni : (n : Int) < p.lemmas.length := by omega
      have dn := hI.gN_.cell (i := n) (ints_get (tabI_get (f := fun j => if j < n then lemNo' q j else 0) hlt))
      have fn := hI.gN_.free n
      have H5 := Lib.hid (hI.setN n (-1))
      clear hI
      go_upto_region 8 with fail
      generalize (wo.setCell ⟨w.heap.size + 3, n, none⟩ (.int .i64 (-1))) = w5 at *
      clear c0 dn fn
      go_wp2_with fail
      go_loopw [10] (fun i wr => ∃ (k : Nat) (vl' : Value), i = .int .i64 k ∧ k ≤ p.steps.length ∧ RK1 w p.lemmas.length [.slice al p.lemmas.length cl, .slice a2 p.steps.length c2] vl' (keepTo q p.lemmas n ++ (if refTo p.steps u k n then (p.lemmas[n]?).toList else [])) (fun j => if j = n then (if refTo p.steps u k n then (cnt q n : Int) else -1) else if j < n then lemNo' q j else 0) wr) (fun i _ => p.steps.length - (intOf i).toNat)
      case atStart => exact ⟨0, vl', rfl, Nat.zero_le _, by simpa [refTo] using H5.out⟩
      case round =>
        obtain ⟨wi, rfl⟩ : ∃ wi : World, wi = wr := ⟨_, rfl⟩
        obtain ⟨k, vl2, rfl, hk, hJ⟩ := hrel
        have HJ := Lib.hid hJ
        have c1 := hJ.pb.cell (i := 1) rfl
        clear H5 HI
        by_cases hlt2 : k < p.steps.length
        · have hki : (k : Int) < p.steps.length := by omega
          have hs' := List.getElem?_eq_getElem hlt2
          obtain ⟨g, vp, vl3, vh, rfl, hcell, hF⟩ := HW.out.1 k _ hs'
          have hrf : refTo p.steps u (k + 1) n = (refTo p.steps u k n || (u k && ((p.steps[k]).kind == 4 && (p.steps[k]).node == (n : Int)))) := by rw [refTo, hs']
          generalize p.steps[k] = s at *
          have e0 := hJ.u_.some (hcell 0 _ rfl) (by simp)
          have e1 := hJ.u_.some (hcell 1 _ rfl) (by simp)
          rw [Nat.add_zero] at e0
          obtain ⟨gk, offk, rfl, hkcell⟩ := HW.out.2.2.2.2.resolve_left (by omega)
          have du := hJ.u_.some (hkcell k _ (bools_get (tab_get hlt2))) (by simp)
          have dn := hJ.gN_.cell (i := n) (ints_get (tabI_get (f := fun j => if j = n then (if refTo p.steps u k n then (cnt q n : Int) else -1) else if j < n then lemNo' q j else 0) hlt))
          rw [if_pos rfl] at dn
          clear hcell hF hkcell hs' hJ
          by_cases hcond : u k = true ∧ s.kind = 4 ∧ s.node = (n : Int)
          · obtain ⟨h1, h2, h3⟩ := hcond
            rw [h1] at du
            have hb4 : (s.kind == 4) = true := by simp [h2]
            have hbn : (s.node == (n : Int)) = true := by simp [h3]
            rw [h1, hb4, hbn] at hrf
            cases hr : refTo p.steps u k n with
            | true =>
              rw [hr] at hrf HJ dn
              have HR := Lib.hid hrf
              clear h1 h2 h3 hrf hr
              have hnl : ¬ ((cnt q n : Nat) : Int) < 0 := by omega
              simp only [if_true] at dn
              go_wp2_with fail
              exact ⟨⟨k + 1, vl2, by go_num, by omega, by rw [HR.out]; exact HJ.out⟩, by simp [intOf]; omega⟩
            | false =>
              rw [hr] at hrf HJ dn
              have HR := Lib.hid hrf
              clear h1 h2 h3 hrf hr
              simp only [Bool.false_eq_true, if_false] at dn
              have hd' := List.getElem?_eq_getElem hlt
              obtain ⟨gl, cs, rfl, hLR, hlc⟩ := HW.out.2.1.at_ n _ hd'
              have HLN := Lib.hid (show (p.lemmas[n]?).toList = [p.lemmas[n]] by rw [hd']; rfl)
              generalize p.lemmas[n] = d at *
              obtain ⟨a1, n1, a2', n2, a3, n3, a4, n4, rfl⟩ := hLR.cells
              have hml : (keepTo q p.lemmas n).length = cnt q n := keepTo_length (by omega)
              have hcl := cnt_le q n
              have HJ2 := Lib.hid (show RK1 w p.lemmas.length _ vl2 (keepTo q p.lemmas n) (fun j => if j = n then (-1 : Int) else if j < n then lemNo' q j else 0) wi by have h := HJ.out; simpa using h)
              clear HJ
              obtain ⟨fo, o1, o2, o3, o4⟩ := HJ2.out.lq
              obtain ⟨av, cv, rfl⟩ := ownsRow_slice o1
              have hK := HJ2.out
              rw [hml] at o1 o4 hK
              have c0 := hK.ob_.cell (i := 0) rfl
              have fn := hK.gN_.free n
              have H6 := Lib.hid ((hK.setN n (cnt q n : Nat)).congr (f' := fun j => if j = n then ((cnt q n : Nat) : Int) else if j < n then lemNo' q j else 0) (fun j _ => by
                by_cases e : j = n
                · rw [if_pos e, if_pos e]
                · rw [if_neg e, if_neg e, if_neg e]))
              have HO := Lib.hid (And.intro o2 (And.intro o3 (And.intro o4 (And.intro hLR hml))))
              have us : Upd [w.heap.size + 3] wi (wi.setCell ⟨w.heap.size + 3, n, none⟩ (.int .i64 (cnt q n : Nat))) := (Upd.refl _ wi).set (.inl (by simp)) _
              have hrow6 := ownsRow_updL o1 us ((off_blk hK.gN_ (by decide : 3 ∉ [82])).row o1 (by simp))
              have HRW := Lib.hid hrow6
              have hlc0 := hlc 0 _ rfl
              have hlc1 := hlc 1 _ rfl
              have hlc2 := hlc 2 _ rfl
              have hlc3 := hlc 3 _ rfl
              rw [Nat.add_zero] at hlc0
              clear o1 o2 o3 o4 hK us hrow6 hLR hlc hml hd' HJ2
              go_upto_region 13 with fail
              generalize (wi.setCell ⟨w.heap.size + 3, n, none⟩ (.int .i64 (cnt q n : Nat))) = w6 at *
              clear c0 c1 fn dn du e0 e1
              have c0 := H6.out.ob_.cell (i := 0) rfl
              have p0 := H6.out.pb.cell (i := 0) rfl
              have l0 := H6.out.u_.some hlc0 (by simp)
              have l1 := H6.out.u_.some hlc1 (by simp)
              have l2 := H6.out.u_.some hlc2 (by simp)
              have l3 := H6.out.u_.some hlc3 (by simp)
              clear hlc0 hlc1 hlc2 hlc3
              refine wp_region_ord 8 4 [0, 1, 2, 3, 4, 5, 6, 9] [1, 3, 6] [0, 1, 2, 3, 4, 5, 6, 7, 8, 9, 10] (fun w' => ∃ x : Ext w6, w' = x.val) (by kernel_rfl) (by kernel_rfl) (Ext.of ((Upd.refl _ _).drew)) ?_
              repeat (first | (refine wpOrd_load rfl rfl rfl rfl (fun K hK => ?_); go_big_quiet_step (fail); refine wpQuiet_nil ?_; refine hK _ ?_; clear hK K) | (refine wpOrd_free rfl rfl rfl (fun K hK => ?_); go_big_quiet_step (fail); refine wpQuiet_nil ?_; refine hK _ ?_; clear hK K))
              refine wpOrd_fix rfl rfl (fun K hK => ?_)
              go_wp2_with fail
              refine ⟨fun _ => Ext.of (((Upd.refl _ _).alloc _).drew), ?_⟩
              have B7 := Blk.new w6 [.slice a1 d.graph.length n1, .slice a2' d.hyps.length n2, .slice a3 d.clause.length n3, .slice a4 d.steps.length n4] 82
              have u7 := (Upd.refl [] w6).alloc (.cells #[.slice a1 d.graph.length n1, .slice a2' d.hyps.length n2, .slice a3 d.clause.length n3, .slice a4 d.steps.length n4] 82)
              have H7 := Lib.hid (And.intro (H6.out.ext (u7.drew)) (And.intro (show Blk (w6.alloc (.cells #[.slice a1 d.graph.length n1, .slice a2' d.hyps.length n2, .slice a3 d.clause.length n3, .slice a4 d.steps.length n4] 82)).drew w6.heap.size _ 82 from B7) (ownsRow_updL HRW.out (u7.drew) (by simp))))
              clear B7 u7
              repeat (first | (refine wpOrd_load rfl rfl rfl rfl (fun K hK => ?_); go_big_quiet_step (fail); refine wpQuiet_nil ?_; refine hK _ ?_; clear hK K) | (refine wpOrd_free rfl rfl rfl (fun K hK => ?_); go_big_quiet_step (fail); refine wpQuiet_nil ?_; refine hK _ ?_; clear hK K))
              refine wpOrd_fix rfl rfl (fun K hK => ?_)
              refine wpList_app rfl _ _ _ rfl 82 4 96 _ Try.underlying27 infoLemma rfl (by decide) (.slice av (cnt q n) cv) (cnt q n) (rows (cnt q n) fo) rfl H7.out.2.2 w6.heap.size 1 1 [.slice a1 d.graph.length n1, .slice a2' d.hyps.length n2, .slice a3 d.clause.length n3, .slice a4 d.steps.length n4] 82 rfl rfl H7.out.2.1 (by simp [Value.oneCell']) (by omega) (by unfold maxLen; omega) (by omega) ?_
              intro g9 c9 w9 o9 u9 k9
              simp only [Act.put, List.setIfInBounds_toArray, List.set_cons_zero, List.set_cons_succ]
              have hPP := RK1.push H7.out.1 HO.out.2.2.2.2.symm H7.out.2.2 HO.out.1 HO.out.2.1 HO.out.2.2.1 HO.out.2.2.2.1 rfl o9 u9 (k9.imp_right (fun h => by omega))
              have c9' := hPP.1.cell (i := 0) rfl
              have f9 := hPP.1.free 0
              have HPP := Lib.hid hPP.2
              clear hPP o9 u9 k9
              go_wp2_with fail
              refine ⟨fun hC => absurd hC (by decide), ?_⟩
              repeat (first | (refine wpOrd_load rfl rfl rfl rfl (fun K hK => ?_); go_big_quiet_step (fail); refine wpQuiet_nil ?_; refine hK _ ?_; clear hK K) | (refine wpOrd_free rfl rfl rfl (fun K hK => ?_); go_big_quiet_step (fail); refine wpQuiet_nil ?_; refine hK _ ?_; clear hK K))
              refine wpOrd_fix rfl rfl (fun K hK => ?_)
              go_wp2_with fail
              refine ⟨fun hC => absurd hC (by decide), ?_⟩
              refine wpOrd_nil ?_
              go_wp2_with fail
              exact ⟨⟨k + 1, _, by go_num, by omega, by rw [HR.out, HLN.out]; simpa using HPP.out⟩, by simp [intOf]; omega⟩
          · have HN := Lib.hid (show refTo p.steps u (k + 1) n = refTo p.steps u k n by
              rw [hrf]
              cases h1 : u k with
              | false => simp
              | true =>
                by_cases h2 : s.kind = 4
                · by_cases h3 : s.node = (n : Int)
                  · exact absurd ⟨h1, h2, h3⟩ hcond
                  · have : (s.node == (n : Int)) = false := by simpa using h3
                    rw [this]; simp
                · have : (s.kind == 4) = false := by simpa using h2
                  rw [this]; simp)
            have HE := Lib.hid (show RK1 w p.lemmas.length _ vl2 (keepTo q p.lemmas n ++ (if refTo p.steps u (k + 1) n then (p.lemmas[n]?).toList else [])) (fun j => if j = n then (if refTo p.steps u (k + 1) n then (cnt q n : Int) else -1) else if j < n then lemNo' q j else 0) wi by rw [HN.out]; exact HJ.out)
            clear hrf
            cases h1 : u k with
            | false =>
              rw [h1] at du
              clear h1 hcond
              go_wp2_with fail
              exact ⟨⟨k + 1, vl2, by go_num, by omega, HE.out⟩, by simp [intOf]; omega⟩
            | true =>
              rw [h1] at du
              by_cases h2 : s.kind = 4
              · have hb4 : (s.kind == 4) = true := by simp [h2]
                have hbn : (s.node == (n : Int)) = false := by
                  have : s.node ≠ (n : Int) := fun h3 => hcond ⟨h1, h2, h3⟩
                  simpa using this
                clear h1 h2 hcond
                go_wp2_with fail
                exact ⟨⟨k + 1, vl2, by go_num, by omega, HE.out⟩, by simp [intOf]; omega⟩
              · have hb4 : (s.kind == 4) = false := by simpa using h2
                clear h1 h2 hcond
                go_wp2_with fail
                exact ⟨⟨k + 1, vl2, by go_num, by omega, HE.out⟩, by simp [intOf]; omega⟩
        · have hki : ¬ (k : Int) < p.steps.length := by omega
          have hkn : k = p.steps.length := by omega
          have HE := Lib.hid (show RK1 w p.lemmas.length _ vl2 (keepTo q p.lemmas (n + 1)) (fun j => if j < n + 1 then lemNo' q j else 0) wi by
            have h := HJ.out
            rw [hkn, ← HQ.out] at h
            have h2 := h.congr (f' := fun j => if j < n + 1 then lemNo' q j else 0) (fun j _ => by
              by_cases e : j = n
              · subst e; rw [if_pos (show j < j + 1 by omega), if_pos rfl]; rfl
              · rw [if_neg e]; exact ite_lt_succ e)
            rw [keepTo]
            exact h2)
          clear hkn hJ
          go_wp2_with fail
          exact ⟨⟨n + 1, vl2, by go_num, by omega, HE.out⟩, by simp [intOf]; omega⟩
    · have hni : ¬ (n : Int) < p.lemmas.length := by omega
      have hnn : n = p.lemmas.length := by omega
      subst hnn
      clear hlt hn hI
      obtain ⟨wB, rfl⟩ : ∃ wB : World, wB = wo := ⟨_, rfl⟩
      have hzB := HI.out.gN_.lt
      obtain ⟨Lk, hLk⟩ : ∃ Lk, Lk = keepTo q p.lemmas p.lemmas.length := ⟨_, rfl⟩
      have H5 := Lib.hid (show RK2 w p.lemmas.length wB.heap.size [.slice al p.lemmas.length cl, .slice a2 p.steps.length c2] vl' (.slice none 0 0) (.slice none 0 0) Lk [] (fun j => if j < p.lemmas.length then lemNo' q j else 0) [] wB from
        ⟨HI.out.pb, HI.out.rb, HI.out.ob_, HI.out.gN_, by rw [hLk]; exact HI.out.lq, World.ownsRow_nil _ _ _ _, by simp [Value.ownBlock], ⟨fun _ => [undef, undef, undef, undef, undef, undef, undef], World.ownsRow_nil _ _ _ _, fun _ => rfl, fun i d hd => by simp at hd, by simp [Value.ownBlock]⟩, HI.out.u_, hzB⟩)
      have HLk := Lib.hid hLk
      clear HI hLk
      go_wp2_with fail
      go_loopw [7, 11] (fun o i wr => ∃ (k : Nat) (vs' : Value), i = .int .i64 k ∧ k ≤ p.steps.length ∧ wB.heap.size ≤ wr.heap.size ∧ RK2 w p.lemmas.length wB.heap.size [.slice al p.lemmas.length cl, .slice a2 p.steps.length c2] vl' vs' o Lk (keepTo u (p.steps.map (renS (stepNo u) (lemNo q))) k) (fun j => if j < p.lemmas.length then lemNo' q j else 0) (tabI k (stepNo u)) wr) (fun _ i _ => p.steps.length - (intOf i).toNat)
      case atStart => exact ⟨0, .slice none 0 0, rfl, Nat.zero_le _, Nat.le_refl _, H5.out⟩
      case round =>
        obtain ⟨wo, rfl⟩ : ∃ wo : World, wo = wr := ⟨_, rfl⟩
        obtain ⟨k, vs', rfl, hk, hzw, hI⟩ := hrel
        obtain ⟨an, cn, rfl⟩ := ownsRow_slice hI.nr
        have HI := Lib.hid hI
        have c1 := hI.pb.cell (i := 1) rfl
        have hal : (tabI k (stepNo u)).length = k := tabI_length _ _
        clear H5
        by_cases hlt : k < p.steps.length
        · have hki : (k : Int) < p.steps.length := by omega
          have hs' := List.getElem?_eq_getElem hlt
          obtain ⟨g, vp, vl3, vh, rfl, hcell, hF⟩ := HW.out.1 k _ hs'
          have hlm := HW.out.2.2.1.lem k _ hs'
          have hhk := HW.out.2.2.1.hint k _ hs'
          have hhl := HW.out.2.2.2.1 k _ hs'
          have hrm : u k = true → (p.steps[k]).kind = 4 → ∀ m : Nat, (p.steps[k]).node = (m : Int) → q m = true := fun h1 h2 m h3 => by rw [HQ.out]; exact refTo_mem hs' h1 h2 h3 hlt
          have hkt : keepTo u (p.steps.map (renS (stepNo u) (lemNo q))) (k + 1) = keepTo u (p.steps.map (renS (stepNo u) (lemNo q))) k ++ (if u k then [renS (stepNo u) (lemNo q) p.steps[k]] else []) := by rw [keepTo, List.getElem?_map, hs']; rfl
          generalize p.steps[k] = s at *
          obtain ⟨gk, offk, rfl, hkcell⟩ := HW.out.2.2.2.2.resolve_left (by omega)
          have du := hI.u_.some (hkcell k _ (bools_get (tab_get hlt))) (by simp)
          have HS := Lib.hid (And.intro hF (And.intro hlm (And.intro hhk (And.intro hkt (And.intro hhl (And.intro hcell hrm))))))
          clear hcell hs' hF hlm hhk hkt hhl hkcell hrm hI
          cases huk : u k with
          | false =>
            rw [huk] at du
            have HN := Lib.hid (And.intro (show tabI (k + 1) (stepNo u) = tabI k (stepNo u) ++ [-1] by rw [tabI_snoc]; unfold stepNo; rw [huk]; rfl) (show keepTo u (p.steps.map (renS (stepNo u) (lemNo q))) (k + 1) = keepTo u (p.steps.map (renS (stepNo u) (lemNo q))) k by rw [HS.out.2.2.2.1, huk]; simp))
            clear huk
            have hrow := Lib.hid HI.out.nr
            rw [hal] at hrow ⊢
            go_wp2_with (refine wpList_push rfl rfl _ _ _ _ rfl rfl rfl 3 1 8 _ Try.underlying22 infoInt rfl (by decide) (by decide) (.int .i64 (-1)) [.int .i64 (-1)] rfl rfl rfl (by simp [Value.oneCell']) _ _ _ hrow.out rfl rfl (by unfold maxLen; omega) (by omega) ?_; intro g7 c7 w7 o7 u7 k7)
            have hz7 := u7.size
            have HR := HI.out.num (x := -1) hzw (by rw [hal]; exact o7) (by rw [hal]; exact u7) (by rw [hal]; exact k7)
            rw [hal, ← HN.out.1] at HR
            exact ⟨⟨k + 1, vs', by go_num, by omega, by omega, by rw [HN.out.2]; exact HR⟩, by simp [intOf]; omega⟩
          | true =>
            rw [huk] at du
            obtain ⟨as', cs', rfl⟩ : ∃ a c, vs' = .slice a (cnt u k) c := by
              obtain ⟨f, o1, _⟩ := HI.out.sq
              have hml : (keepTo u (p.steps.map (renS (stepNo u) (lemNo q))) k).length = cnt u k := keepTo_length (by rw [List.length_map]; omega)
              rw [hml] at o1
              exact ownsRow_slice o1
            have hcl := cnt_le u k
            have hml : (keepTo u (p.steps.map (renS (stepNo u) (lemNo q))) k).length = cnt u k := keepTo_length (by rw [List.length_map]; omega)
            have hsn : stepNo u k = (cnt u k : Nat) := by unfold stepNo; rw [huk]; rfl
            have HN := Lib.hid (And.intro (show tabI (k + 1) (stepNo u) = tabI k (stepNo u) ++ [((cnt u k : Nat) : Int)] by rw [tabI_snoc, hsn]) (And.intro (show keepTo u (p.steps.map (renS (stepNo u) (lemNo q))) (k + 1) = keepTo u (p.steps.map (renS (stepNo u) (lemNo q))) k ++ [renS (stepNo u) (lemNo q) s] by rw [HS.out.2.2.2.1, huk]; simp) (And.intro hml huk)))
            clear huk hsn hml
            have y1 := HI.out.ob_.cell (i := 1) rfl
            have hrow := Lib.hid HI.out.nr
            rw [hal] at hrow ⊢
            go_upto_region 20 with (refine wpList_push rfl rfl _ _ _ _ rfl rfl rfl 3 1 8 _ Try.underlying22 infoInt rfl (by decide) (by decide) (.int .i64 (cnt u k : Nat)) [.int .i64 (cnt u k : Nat)] rfl rfl rfl (by simp [Value.oneCell']) _ _ _ hrow.out rfl rfl (by unfold maxLen; omega) (by omega) ?_; intro g7 c7 w7 o7 u7 k7)
            have hz7 := u7.size
            have HR0 := HI.out.num (x := (cnt u k : Nat)) hzw (by rw [hal]; exact o7) (by rw [hal]; exact u7) (by rw [hal]; exact k7)
            rw [hal, ← HN.out.1] at HR0
            have HR := Lib.hid HR0
            clear o7 u7 k7 HR0 HI c1 y1 hrow du hal
            have c1 := HR.out.pb.cell (i := 1) rfl
            have y1 := HR.out.ob_.cell (i := 1) rfl
            obtain ⟨ap, cp, rfl, _⟩ := HS.out.1.1.cells
            obtain ⟨av, cv, rfl, _⟩ := HS.out.1.2.1.cells
            obtain ⟨ah, ch, rfl, _⟩ := HS.out.1.2.2.1.cells
            have e0 := HR.out.u_.some (HS.out.2.2.2.2.2.1 0 _ rfl) (by simp)
            have e1 := HR.out.u_.some (HS.out.2.2.2.2.2.1 1 _ rfl) (by simp)
            have e2 := HR.out.u_.some (HS.out.2.2.2.2.2.1 2 _ rfl) (by simp)
            have e3 := HR.out.u_.some (HS.out.2.2.2.2.2.1 3 _ rfl) (by simp)
            have e4 := HR.out.u_.some (HS.out.2.2.2.2.2.1 4 _ rfl) (by simp)
            have e5 := HR.out.u_.some (HS.out.2.2.2.2.2.1 5 _ rfl) (by simp)
            have e6 := HR.out.u_.some (HS.out.2.2.2.2.2.1 6 _ rfl) (by simp)
            rw [Nat.add_zero] at e0
            have ud : Upd [] w7 w7.drew := (Upd.refl _ w7).drew
            have hA : SL w7.drew 1 (.slice (some ⟨g7, 0, none⟩) (k + 1) c7) (tabI (k + 1) (stepNo u)).length (ints (tabI (k + 1) (stepNo u))) := SL.of_owns (ownsRow_updL HR.out.nr ud (by simp))
            have hB : SL w7.drew 1 (.slice (some ⟨w.heap.size + 3, 0, none⟩) p.lemmas.length p.lemmas.length) (tabI p.lemmas.length fun j => if j < p.lemmas.length then lemNo' q j else 0).length (ints (tabI p.lemmas.length fun j => if j < p.lemmas.length then lemNo' q j else 0)) := by
              have h := rowI_fresh (HR.out.gN_.upd ud (by simp)) (by rw [tabI_length]; omega)
              rw [tabI_length] at h
              have h2 := h.sl
              rwa [tabI_length] at h2 ⊢
            have HRN := Lib.hid (rn_calls (HS.out.1.ext (HR.out.u_.step ud)) hA hB (fun h hh => by rw [tabI_length]; have := HS.out.2.2.1 h hh; omega) (fun h4 => by rw [tabI_length]; exact HS.out.2.1 h4) HS.out.2.2.2.2.1)
            have HEQ := Lib.hid (show renS (atI (tabI (k + 1) (stepNo u))) (atI (tabI p.lemmas.length fun j => if j < p.lemmas.length then lemNo' q j else 0)) s = renS (stepNo u) (lemNo q) s from
              renS_congr (fun h hh => by have := HS.out.2.2.1 h hh; rw [atI_tab (by omega)]) (fun h4 => by
                obtain ⟨n0, n1⟩ := HS.out.2.1 h4
                obtain ⟨m, hm⟩ := Int.eq_ofNat_of_zero_le n0
                have hq := HS.out.2.2.2.2.2.2 HN.out.2.2.2 h4 m hm
                rw [hm, Int.toNat_natCast, atI_tab (by omega), if_pos (by omega)]
                unfold lemNo' lemNo
                rw [hq]; rfl))
            rw [HEQ.out] at HRN
            clear hA hB ud
            dsimp only [stC] at HRN
            refine wp_region_ord 11 4 [0, 1, 2, 3, 4, 5, 6, 7, 8, 12] [1, 3, 6] [0, 1, 2, 3, 4, 5, 6, 7, 8, 9, 10, 11, 12, 13] (fun w' => ∃ x : Ext w7, w' = x.val) (by kernel_rfl) (by kernel_rfl) (Ext.of ((Upd.refl _ _).drew)) ?_
            repeat (first | (refine wpOrd_load rfl rfl rfl rfl (fun K hK => ?_); go_big_quiet_step (fail); refine wpQuiet_nil ?_; refine hK _ ?_; clear hK K) | (refine wpOrd_free rfl rfl rfl (fun K hK => ?_); go_big_quiet_step (fail); refine wpQuiet_nil ?_; refine hK _ ?_; clear hK K))
            refine wpOrd_fix rfl rfl (fun K hK => ?_)
            go_wp2_with (go_at_call 45; refine HRN.out.mono ?_; rintro e w8 ⟨ah8, ch8, rfl, hrow8, hfr8, u8⟩)
            have U8 : Upd [] w7 w8 := ((Upd.refl _ w7).drew).step u8
            refine ⟨fun _ => Ext.of U8, ?_⟩
            have hints64 : ∀ x ∈ (renS (stepNo u) (lemNo q) s).hints, IsI64 x := fun x hx => by
              obtain ⟨h, hh, rfl⟩ := List.mem_map.1 hx
              show IsI64 (stepNo u h.toNat)
              have h1 := HS.out.2.2.1 h hh
              have h2 := cnt_le u h.toNat
              unfold stepNo IsI64
              split <;> omega
            have hnode64 : IsI64 (renS (stepNo u) (lemNo q) s).node := by
              show IsI64 (if s.kind = 4 then lemNo q s.node.toNat else s.node)
              by_cases hk4 : s.kind = 4
              · rw [if_pos hk4]
                have h1 := HS.out.2.1 hk4
                have h2 := cnt_le q s.node.toNat
                unfold lemNo IsI64
                split <;> omega
              · rw [if_neg hk4]; exact HS.out.1.2.2.2.2.1
            have P8 := HR.out.ext U8
            have hSE : SE2 (.slice (some ⟨g7, 0, none⟩) (k + 1) c7) w8 (renS (stepNo u) (lemNo q) s) (stC (renS (stepNo u) (lemNo q) s) (.slice ap s.params.length cp) (.slice av s.lits.length cv) (.slice ah8 s.hints.length ch8)) := by
              obtain ⟨f1, f2, f3, f4, f5, f6, f7, f8, f9, f10⟩ := HS.out.1
              refine ⟨_, _, _, rfl, ⟨f1.ext P8.u_, f2.ext P8.u_, hrow8, f4, hnode64, f6, f7, f8, hints64, f10⟩, fun g' hg' => ?_⟩
              have hz := P8.nf g' hg'
              have hzz := P8.z_
              have hlt8 := (HR.out.nr.lt g' hg').2
              refine ⟨fun e => ?_, fun e => ?_, fun e => ?_⟩
              · have := f1.lt _ e; omega
              · have := f2.lt _ e; omega
              · have h9 := hfr8 _ e
                have : w7.drew.heap.size = w7.heap.size := rfl
                omega
            generalize hD : renS (stepNo u) (lemNo q) s = D at *
            have B9 := Blk.new w8 (stC D (.slice ap s.params.length cp) (.slice av s.lits.length cv) (.slice ah8 s.hints.length ch8)) 56
            have u9 : Upd [] w8 (w8.alloc (.cells (stC D (.slice ap s.params.length cp) (.slice av s.lits.length cv) (.slice ah8 s.hints.length ch8)).toArray 56)) := (Upd.refl _ w8).alloc _
            have P9 := P8.ext u9
            have hSE9 := hSE.kd (off_nil _ _) u9
            obtain ⟨f, o1, o2, o3, o4⟩ := P9.sq
            rw [HN.out.2.2.1] at o1
            have H9 := Lib.hid (And.intro P9 (And.intro hSE9 (And.intro o2 (And.intro o3 (And.intro o4 o1)))))
            have HB9 := Lib.hid (And.intro B9 (And.intro (U8.step u9) hD))
            clear B9 u9 P9 P8 hSE9 o1 o2 o3 o4 hSE hints64 hnode64 hD hrow8 hfr8 u8 U8 HRN HEQ
            repeat (first | (refine wpOrd_load rfl rfl rfl rfl (fun K hK => ?_); go_big_quiet_step (fail); refine wpQuiet_nil ?_; refine hK _ ?_; clear hK K) | (refine wpOrd_free rfl rfl rfl (fun K hK => ?_); go_big_quiet_step (fail); refine wpQuiet_nil ?_; refine hK _ ?_; clear hK K))
            refine wpOrd_fix rfl rfl (fun K hK => ?_)
            go_wp2_with fail
            refine ⟨fun _ => Ext.of HB9.out.2.1, ?_⟩
            change wpOrd _ _ _ _ _ _ _ _ _ _ (w8.alloc (.cells (stC D (.slice ap s.params.length cp) (.slice av s.lits.length cv) (.slice ah8 s.hints.length ch8)).toArray 56))
            generalize (w8.alloc (.cells (stC D (.slice ap s.params.length cp) (.slice av s.lits.length cv) (.slice ah8 s.hints.length ch8)).toArray 56)) = w9 at *
            repeat (first | (refine wpOrd_load rfl rfl rfl rfl (fun K hK => ?_); go_big_quiet_step (fail); refine wpQuiet_nil ?_; refine hK _ ?_; clear hK K) | (refine wpOrd_free rfl rfl rfl (fun K hK => ?_); go_big_quiet_step (fail); refine wpQuiet_nil ?_; refine hK _ ?_; clear hK K))
            refine wpOrd_fix rfl rfl (fun K hK => ?_)
            refine wpList_app rfl _ _ _ rfl 56 7 112 _ Try.underlying28 infoStep rfl (by decide) (.slice as' (cnt u k) cs') (cnt u k) (rows (cnt u k) f) rfl H9.out.2.2.2.2.2 w8.heap.size 1 1 (stC D (.slice ap s.params.length cp) (.slice av s.lits.length cv) (.slice ah8 s.hints.length ch8)) 56 rfl rfl HB9.out.1 (stC_one _ _ _ _ rfl rfl rfl) (by omega) (by unfold maxLen; omega) (by omega) ?_
            intro gA cA wA oA uA kA
            simp only [Act.put, List.setIfInBounds_toArray, List.set_cons_zero, List.set_cons_succ]
            have hzA := uA.size
            have hz9 := HB9.out.2.1.size
            have hPP := RK2.push H9.out.1 HN.out.2.2.1.symm H9.out.2.2.2.2.2 H9.out.2.2.1 H9.out.2.2.2.1 H9.out.2.2.2.2.1 H9.out.2.1 oA uA (kA.imp_right (fun h => by omega))
            have c9' := hPP.1.cell (i := 1) rfl
            have f9 := hPP.1.free 1
            have HPP := Lib.hid hPP.2
            clear hPP oA uA kA
            go_wp2_with fail
            refine ⟨fun hC => absurd hC (by decide), ?_⟩
            repeat (first | (refine wpOrd_load rfl rfl rfl rfl (fun K hK => ?_); go_big_quiet_step (fail); refine wpQuiet_nil ?_; refine hK _ ?_; clear hK K) | (refine wpOrd_free rfl rfl rfl (fun K hK => ?_); go_big_quiet_step (fail); refine wpQuiet_nil ?_; refine hK _ ?_; clear hK K))
            refine wpOrd_fix rfl rfl (fun K hK => ?_)
            go_wp2_with fail
            refine ⟨fun hC => absurd hC (by decide), ?_⟩
            refine wpOrd_nil ?_
            go_wp2_with fail
            exact ⟨⟨k + 1, _, by go_num, by omega, by simp; omega, by rw [HN.out.2.1]; exact HPP.out⟩, by simp [intOf]; omega⟩
        · have hki : ¬ (k : Int) < p.steps.length := by omega
          have hkn : k = p.steps.length := by omega
          subst hkn
          clear hlt hk hI
          obtain ⟨as', cs', rfl⟩ : ∃ a c, vs' = .slice a (keepTo u (p.steps.map (renS (stepNo u) (lemNo q))) p.steps.length).length c := by
            obtain ⟨f, o1, _⟩ := HI.out.sq
            exact ownsRow_slice o1
          obtain ⟨al', cl', rfl⟩ : ∃ a c, vl' = .slice a Lk.length c := by
            obtain ⟨f, o1, _⟩ := HI.out.lq
            exact ownsRow_slice o1
          have b0 := HI.out.ob_.cell (i := 0) rfl
          have b1 := HI.out.ob_.cell (i := 1) rfl
          have r0 := HI.out.rb.cell (i := 0) rfl
          have r1 := HI.out.rb.cell (i := 1) rfl
          have fr0 := HI.out.rb.free 0
          have fr1 := HI.out.rb.free 1
          have us : Upd [w.heap.size + 1] wo ((wo.setCell ⟨w.heap.size + 1, 0, none⟩ (.slice al' Lk.length cl')).setCell ⟨w.heap.size + 1, 1, none⟩ (.slice as' (keepTo u (p.steps.map (renS (stepNo u) (lemNo q))) p.steps.length).length cs')) := ((Upd.refl _ wo).set (.inl (by simp)) _).set (.inl (by simp)) _
          have BR : Blk _ (w.heap.size + 1) [.slice al' Lk.length cl', .slice as' (keepTo u (p.steps.map (renS (stepNo u) (lemNo q))) p.steps.length).length cs'] 30 := (HI.out.rb.set 0 (.slice al' Lk.length cl')).set 1 (.slice as' (keepTo u (p.steps.map (renS (stepNo u) (lemNo q))) p.steps.length).length cs')
          have hor : Off wo [w.heap.size + 1] [3, 88, 56, 82] := off_blk HI.out.rb (by decide)
          have hRow : RowI wo (.slice an p.steps.length cn) (tabI p.steps.length (stepNo u)) := by
            have h := HI.out.nr
            rw [hal] at h
            unfold RowI
            rw [hal]
            exact h
          have hpk : pickP p u = ⟨Lk, keepTo u (p.steps.map (renS (stepNo u) (lemNo q))) p.steps.length⟩ := by unfold pickP; rw [← HQ.out, ← HLk.out]
          have HX := Lib.hid (And.intro BR (And.intro ((HI.out.lq.lml HI.out.u_).kd hor (by simp) (by simp) (by simp) (by simp) us) (And.intro (HI.out.sq.stl.kd hor (by simp) (by simp) us) (And.intro (hRow.kd hor (by simp) us) (And.intro (HI.out.u_.fresh us (fun b hb => .inr (by simp at hb; omega))) hpk)))))
          clear us BR hor hRow hpk
          rw [hal]
          clear hal HI
          generalize keepTo u (p.steps.map (renS (stepNo u) (lemNo q))) p.steps.length = Sk at *
          go_wp2_with fail
          exact ret_row_tmp rfl rfl HX.out.1 Try.underlying30 (by kernel_rfl) rfl rfl ⟨_, _, an, cn, rfl, by rw [HX.out.2.2.2.2.2]; exact ⟨_, _, rfl, HX.out.2.1, HX.out.2.2.1⟩, HX.out.2.2.2.1, HX.out.2.2.2.2.1⟩
end
end Trim
end Go.Proofs.Ytnmfihgdedifoaa
