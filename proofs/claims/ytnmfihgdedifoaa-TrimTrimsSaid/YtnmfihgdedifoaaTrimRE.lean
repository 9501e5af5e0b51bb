/- Walks through the reference of package trim: Kept. Conditions: none. -/
import Derived.Test.YtnmfihgdedifoaaTrimRD
import Derived.Test.YtnmfihgdedifoaaTrimBa
import Derived.Test.YtnmfihgdedifoaaTrimM
set_option linter.unusedVariables false
set_option linter.unusedSimpArgs false
set_option linter.unusedSectionVars false
open Go.RowKit
namespace Go.Proofs.Ytnmfihgdedifoaa
open L R01
namespace Trim
theorem infoBoolT : (Try.prog.info? 4).map (fun i => (i.zero, i.size, i.bytes)) = some (some (.bool false), 1, 1) := by kernel_rfl
theorem tab_snoc (n : Nat) (f : Nat → Bool) : bools (tab (n + 1) f) = bools (tab n f) ++ [.bool (f n)] := by simp [bools, tab, List.range_succ]
structure RKI (w : World) (pc : List Value) (u : Nat → Bool) (o : Value) (k : Nat) (W : World) : Prop where
  pb : Blk W w.heap.size pc 30
  rb : Blk W (w.heap.size + 1) [.slice none 0 0, .slice none 0 0] 30
  row : W.ownsRow 0 4 1 o k (bools (tab k u))
  nr : ∀ g, o.ownBlock = some g → w.heap.size + 2 ≤ g
  u_ : Upd [] w W
theorem RKI.ext {w : World} {pc : List Value} {u : Nat → Bool} {o : Value} {k : Nat} {W W' : World} (h : RKI w pc u o k W) (e : Upd [] W W') : RKI w pc u o k W' :=
  ⟨h.pb.upd e (by simp), h.rb.upd e (by simp), ownsRow_updL h.row e (by simp), h.nr, h.u_.step e⟩
theorem RKI.push {w : World} {pc : List Value} {u : Nat → Bool} {o : Value} {k : Nat} {W W' : World} {g7 c7 : Nat} (h : RKI w pc u o k W)
    (o7 : W'.ownsRow 0 4 1 (.slice (some ⟨g7, 0, none⟩) (k + 1) c7) (k + 1) (bools (tab k u) ++ [.bool (u k)])) (u7 : Upd o.ownBlock.toList W W') (k7 : o.ownBlock = some g7 ∨ W.heap.size ≤ g7) : RKI w pc u (.slice (some ⟨g7, 0, none⟩) (k + 1) c7) (k + 1) W' := by
  have hz := h.rb.lt
  refine ⟨offrow h.pb h.row (by decide) u7, offrow h.rb h.row (by decide) u7, by rw [tab_snoc]; exact o7, fun g hg => ?_, h.u_.fresh u7 (fun b hb => .inr ?_)⟩
  · simp only [Value.ownBlock, Option.some.injEq] at hg
    subst hg
    rcases k7 with k7 | k7
    · exact h.nr _ k7
    · omega
  · have := h.nr b (by simpa using hb)
    omega
section
variable {w : World}
set_option maxRecDepth 100000 in
set_option maxHeartbeats 8000000 in
theorem RKept_calls {v vg : Value} {p : PrfD} {gone : List ByteArray} (h : PrL w v p) (hwf : Wf p) (hf : Few p) (hg : NmL w vg gone) :
    Calls Try.prog 21 #[v, vg] w fun e w' => ∃ (v' : Value) (a : Option Addr) (c : Nat), e = .returned (.tuple #[v', .slice a p.steps.length c]) ∧ PrL w' v' (pickP p (keptTo gone p.steps p.steps.length)) ∧ RowI w' (.slice a p.steps.length c) (tabI p.steps.length (stepNo (keptTo gone p.steps p.steps.length))) ∧ Upd [] w w' := by
  obtain ⟨vl, vs, rfl, hL, hS⟩ := h
  obtain ⟨al, cl, rfl, ql, rl⟩ := hL.form
  obtain ⟨a2, c2, rfl, qs, rs, _⟩ := hS.at_
  have hlen := hwf.len
  obtain ⟨ag, cg, rfl, qg, rg, _⟩ := hg.cells
  obtain ⟨u, hu⟩ : ∃ u, u = keptTo gone p.steps p.steps.length := ⟨_, rfl⟩
  have HK := Lib.hid (fun (j : Nat) (hj : j < p.steps.length) (R : List ByteArray) (hR : PremOf p.steps (down p.steps p.steps.length (fun m => decide ((m : Int) = (j : Int)))) R) => show R.all (fun x => !hasN gone x) = u j from by
    have h1 := free_of (gone := gone) hwf.ok hj hR
    have h2 := kept_iff (gone := gone) hwf.ok (j := j) (Nat.le_refl _)
    rw [Bool.eq_iff_iff, hu, h2, ← h1]
    simp [hj])
  have HP := Lib.hid (fun (w' : World) (U : Upd [] w w') (j : Nat) (hj : j < p.steps.length) => RPrem_calls (w := w') (p := p) (v := .agg #[.slice al p.lemmas.length cl, .slice a2 p.steps.length c2]) ⟨_, _, rfl, hL.ext U, hS.ext U⟩ hwf (s := (j : Int)) (by unfold IsI64; omega))
  have HPK := Lib.hid (fun (w' : World) (U : Upd [] w w') (vk : Value) (hk : SL w' 1 vk p.steps.length (bools (tab p.steps.length u))) => rpick_calls (w := w') (p := p) (v := .agg #[.slice al p.lemmas.length cl, .slice a2 p.steps.length c2]) ⟨_, _, rfl, hL.ext U, hS.ext U⟩ hwf hf.nl hf.hints hk)
  have HG := Lib.hid (fun (w' : World) (U : Upd [] w w') (s : ByteArray) => has_calls (hg.ext U) s)
  rw [← hu]
  clear hL hS hwf hg hu
  have b1 := (Blk.new w [.slice al p.lemmas.length cl, .slice a2 p.steps.length c2] 30).alloc (.cells #[.slice none 0 0, .slice none 0 0] 30)
  have b2 := Blk.new (w.alloc (.cells #[.slice al p.lemmas.length cl, .slice a2 p.steps.length c2] 30)) [.slice none 0 0, .slice none 0 0] 30
  have u2 := ((Upd.refl [] w).alloc (.cells #[.slice al p.lemmas.length cl, .slice a2 p.steps.length c2] 30)).alloc (.cells #[.slice none 0 0, .slice none 0 0] 30)
  rw [show (w.alloc (.cells #[.slice al p.lemmas.length cl, .slice a2 p.steps.length c2] 30)).heap.size = w.heap.size + 1 by simp] at b2
  go_enter Try.func21, Try.ntmps21
  go_upto_region 2 with fail
  have H3 := Lib.hid (show RKI w [.slice al p.lemmas.length cl, .slice a2 p.steps.length c2] u (.slice none 0 0) 0 _ from ⟨b1, b2, World.ownsRow_nil _ _ _ _, by simp [Value.ownBlock], u2⟩)
  clear b1 b2 u2
  generalize ((w.alloc (.cells #[.slice al p.lemmas.length cl, .slice a2 p.steps.length c2] 30)).alloc (.cells #[.slice none 0 0, .slice none 0 0] 30)) = w3 at *
  go_wp2_with fail
  go_loopw [6, 7] (fun o i wr => ∃ k : Nat, i = .int .i64 k ∧ k ≤ p.steps.length ∧ RKI w [.slice al p.lemmas.length cl, .slice a2 p.steps.length c2] u o k wr) (fun _ i _ => p.steps.length - (intOf i).toNat)
  case atStart => exact ⟨0, rfl, Nat.zero_le _, H3.out⟩
  case round =>
    obtain ⟨wo, rfl⟩ : ∃ wo : World, wo = wr := ⟨_, rfl⟩
    obtain ⟨k, rfl, hk, hI⟩ := hrel
    obtain ⟨an, cn, rfl⟩ := ownsRow_slice hI.row
    have HI := Lib.hid hI
    have c0 := hI.pb.cell (i := 0) rfl
    have c1 := hI.pb.cell (i := 1) rfl
    clear H3
    by_cases hlt : k < p.steps.length
    · have hki : (k : Int) < p.steps.length := by omega
      have HPR := Lib.hid (HP.out wo hI.u_ k hlt)
      clear hI
      go_upto_block 2 with (go_at_call 15; (with_reducible refine HPR.out.mono ?_); rintro e w5 ⟨v5, R5, rfl, hN5, hP5, u5⟩)
      obtain ⟨a5, c5, rfl, q5, r5, hc5⟩ := hN5.cells
      have HN5 := Lib.hid (And.intro hc5 (And.intro (HK.out k hlt R5 hP5) (HI.out.ext u5)))
      clear hN5 hP5 u5 hc5 HPR c0 c1 HI
      go_wp2_with fail
      go_loopw [9, 10] (fun b i wr => ∃ m : Nat, i = .int .i64 m ∧ m ≤ R5.length ∧ b = .bool ((R5.take m).all fun x => !hasN gone x) ∧ wr = w5) (fun _ i _ => R5.length - (intOf i).toNat)
      case atStart => exact ⟨0, rfl, Nat.zero_le _, rfl, rfl⟩
      case round =>
        obtain ⟨m, rfl, hm, rfl, rfl⟩ := hrel
        by_cases hlt2 : m < R5.length
        · have hmi : (m : Int) < R5.length := by omega
          have hg5 := List.getElem?_eq_getElem hlt2
          obtain ⟨g5, rfl, d5⟩ := HN5.out.1 m _ hg5
          have htk : ((R5.take (m + 1)).all fun x => !hasN gone x) = (((R5.take m).all fun x => !hasN gone x) && !hasN gone R5[m]) := by
            rw [List.take_add_one, hg5, List.all_append]; simp
          generalize R5[m] = nm at *
          have HHS := Lib.hid (HG.out _ HN5.out.2.2.u_ nm)
          have HTK := Lib.hid htk
          clear hg5 htk
          cases hb1 : (R5.take m).all (fun x => !hasN gone x) <;> cases hb2 : hasN gone nm
          all_goals
            rw [hb1, hb2] at HTK
            rw [hb2] at HHS
            clear hb1 hb2
            go_wp2_with (go_at_call 26; (with_reducible refine HHS.out.mono ?_); rintro e _ ⟨rfl, rfl⟩)
            exact ⟨⟨m + 1, by go_num, by omega, by rw [HTK.out]; rfl, by first | trivial | rfl⟩, by simp [intOf]; omega⟩
        · have hmi : ¬ (m : Int) < R5.length := by omega
          have hal : ((R5.take m).all fun x => !hasN gone x) = u k := by
            rw [List.take_of_length_le (by omega)]; exact HN5.out.2.1
          rw [hal]
          have hrow := Lib.hid HN5.out.2.2.row
          clear hal hlt2 hm
          go_wp2_with (refine wpList_push rfl rfl _ _ _ _ rfl rfl rfl 4 1 1 _ Try.underlying31 infoBoolT rfl (by decide) (by decide) (.bool (u k)) [.bool (u k)] rfl rfl rfl (by simp [Value.oneCell']) _ _ _ hrow.out rfl rfl (by unfold maxLen; omega) (by omega) ?_; intro g7 c7 w7 o7 u7 k7)
          exact ⟨⟨k + 1, by go_num, by omega, HN5.out.2.2.push o7 u7 k7⟩, by simp [intOf]; omega⟩
    · have hki : ¬ (k : Int) < p.steps.length := by omega
      have hkn : k = p.steps.length := by omega
      subst hkn
      clear hlt hk hki
      have HPR := Lib.hid (HPK.out wo hI.u_ _ (SL.of_owns hI.row))
      clear hI
      go_wp2_with fail
      refine HPR.out.mono ?_
      rintro e w6 ⟨vl', vs', an', cn', rfl, hPr, hRow, uP⟩
      obtain ⟨al', cl', as', cs', he⟩ := hPr.form
      simp only [Value.agg.injEq, Array.mk.injEq, List.cons.injEq, and_true] at he
      obtain ⟨rfl, rfl⟩ := he
      have r0 := (HI.out.rb.upd uP (by simp)).cell (i := 0) rfl
      have r1 := (HI.out.rb.upd uP (by simp)).cell (i := 1) rfl
      have fr0 := (HI.out.rb.upd uP (by simp)).free 0
      have fr1 := (HI.out.rb.upd uP (by simp)).free 1
      have HR := HI.out.rb.upd uP (by simp)
      generalize hpk : pickP p u = pk at *
      have HPQ := Lib.hid hpk
      have uR : Upd [w.heap.size + 1] w6 ((w6.setCell ⟨w.heap.size + 1, 0, none⟩ (.slice al' pk.lemmas.length cl')).setCell ⟨w.heap.size + 1, 1, none⟩ (.slice as' pk.steps.length cs')) := ((Upd.refl _ w6).set (.inl (by simp)) _).set (.inl (by simp)) _
      have BR : Blk ((w6.setCell ⟨w.heap.size + 1, 0, none⟩ (.slice al' pk.lemmas.length cl')).setCell ⟨w.heap.size + 1, 1, none⟩ (.slice as' pk.steps.length cs')) (w.heap.size + 1) [.slice al' pk.lemmas.length cl', .slice as' pk.steps.length cs'] 30 := (HR.set 0 _).set 1 _
      have hoff : Off w6 [w.heap.size + 1] [3, 88, 56, 82] := off_blk HR (by decide)
      have HX := Lib.hid (And.intro BR (And.intro (hPr.kd hoff (by simp) (by simp) (by simp) (by simp) uR) (And.intro (hRow.kd hoff (by simp) uR) ((HI.out.u_.step uP).fresh uR (fun b hb => .inr (by simp at hb; omega))))))
      clear uR BR hoff HR hPr hRow uP hpk HPR HI
      go_wp2_with fail
      exact ret_row_tmp rfl rfl HX.out.1 Try.underlying30 (by kernel_rfl) rfl rfl ⟨_, _, _, rfl, by rw [HPQ.out]; exact HX.out.2.1, HX.out.2.2.1, HX.out.2.2.2⟩
end
end Trim
end Go.Proofs.Ytnmfihgdedifoaa
