/- Walks through package trim: lemmaBytes. Conditions: none. -/
import Derived.Test.YtnmfihgdedifoaaTrimMB
import Derived.Test.YtnmfihgdedifoaaTrimY
set_option linter.unusedVariables false
set_option linter.unusedSimpArgs false
set_option linter.unusedSectionVars false
open Go.RowKit
namespace Go.Proofs.Ytnmfihgdedifoaa
open L R01
namespace Trim
/-- The bytes of a node. -/
def noE (d : NodeD) : List UInt8 := n8s [d.op, d.n, d.m, wrap64 d.u, d.sk, d.sn, d.si] ++ lsE d.kids ++ txE d.text
/-- The bytes of a lemma. -/
def lmE (d : LemD) : List UInt8 := n8 d.graph.length ++ d.graph.flatMap noE ++ lsE d.hyps ++ lsE d.clause ++ n8 d.steps.length ++ d.steps.flatMap stE
theorem noE_length (d : NodeD) : (noE d).length = 72 + 8 * d.kids.length + d.text.size := by
  unfold noE
  simp only [List.length_append, lsE_length, txE_length, n8s_length, List.length_cons, List.length_nil]
  omega
/-- Small nodes. -/
structure NoOk (d : NodeD) : Prop where
  op : IsI64 d.op
  n : IsI64 d.n
  m : IsI64 d.m
  sk : IsI64 d.sk
  sn : IsI64 d.sn
  si : IsI64 d.si
  kids : d.kids.length ≤ 100 ∧ ∀ x ∈ d.kids, IsI64 x
  text : d.text.size ≤ 100
/-- Small lemmas. -/
structure LmOk (d : LemD) : Prop where
  graph : d.graph.length ≤ 100 ∧ ∀ x ∈ d.graph, NoOk x
  hyps : d.hyps.length ≤ 100 ∧ ∀ x ∈ d.hyps, IsI64 x
  clause : d.clause.length ≤ 100 ∧ ∀ x ∈ d.clause, IsI64 x
  steps : d.steps.length ≤ 100 ∧ ∀ x ∈ d.steps, (stE x).length ≤ 10000
theorem flat_le {α : Type} {f : α → List UInt8} {B : Nat} : ∀ {l : List α}, (∀ x ∈ l, (f x).length ≤ B) → (l.flatMap f).length ≤ B * l.length
  | [], _ => by simp
  | x :: l, h => by
    rw [List.flatMap_cons, List.length_append, List.length_cons, Nat.mul_add]
    have h1 := h x (by simp)
    have h2 := flat_le (l := l) (fun y hy => h y (by simp [hy]))
    omega
theorem flat_take {α : Type} {f : α → List UInt8} {l : List α} {k : Nat} {x : α} (h : l[k]? = some x) : (l.take (k + 1)).flatMap f = (l.take k).flatMap f ++ f x := by
  rw [List.take_add_one, h, List.flatMap_append]; simp
theorem i64_wrap_ok (x : Int) : IsI64 (wrap64 x) := isI64_wrap x
theorem KB.noL {w w' : World} {v : Value} {l : List NodeD} (k : KB w w') (h : NoL w v l) : NoL w' v l := by
  obtain ⟨T, hT, u⟩ := k
  exact h.kd hT (by simp) (by simp) u
theorem KB.stL {w w' : World} {v : Value} {l : List StepD} (k : KB w w') (h : StL w v l) : StL w' v l := by
  obtain ⟨T, hT, u⟩ := k
  exact h.kd hT (by simp) (by simp) u
section
variable {w : World}
set_option maxRecDepth 100000 in
set_option maxHeartbeats 8000000 in
theorem lmB_calls {cs : List Value} {d : LemD} (h : LmR w d cs) (hd : LmOk d) :
    Calls Try.prog 53 #[.agg cs.toArray] w fun e w' => ∃ v', e = .returned v' ∧ Buf w v' (lmE d) w' ∧ KB w w' := by
  obtain ⟨vg, vh, vc, vs, rfl, hG, hH, hC, hS⟩ := h
  obtain ⟨ag, cg, rfl, qg, rg, hga⟩ := hG.at_
  obtain ⟨ah, ch, rfl, qh, rh, _⟩ := hH.cells
  obtain ⟨ac, cc, rfl, qc, rc, _⟩ := hC.cells
  obtain ⟨a2, c2, rfl, q2, r2, hsa⟩ := hS.at_
  have u1 := (Upd.refl [] w).alloc (.cells #[.slice ag d.graph.length cg, .slice ah d.hyps.length ch, .slice ac d.clause.length cc, .slice a2 d.steps.length c2] 82)
  have B1 := Blk.new w [.slice ag d.graph.length cg, .slice ah d.hyps.length ch, .slice ac d.clause.length cc, .slice a2 d.steps.length c2] 82
  have HN := Lib.hid (numO (g := w.heap.size + 1) (by simp) ((Buf.nil w).ext u1) (show IsI64 (d.graph.length : Int) by unfold IsI64; omega) (by simp))
  have HQ := Lib.hid (And.intro hG (And.intro hH (And.intro hC (And.intro hS hd))))
  have hl1 := hd.graph.1
  have hl2 := hd.hyps.1
  have hl3 := hd.clause.1
  have hl4 := hd.steps.1
  clear hG hH hC hS hga hsa hd
  have d0 := B1.cell (i := 0) rfl
  go_enter Try.func53, Try.ntmps53
  go_upto_region 2 with (go_at_call 58; (with_reducible refine HN.out.mono ?_); rintro e w2 ⟨v2, rfl, hb2, hk2⟩)
  have hK2 := (KB.ext u1).trans hk2
  have d0' := (hk2.blk B1 (by decide)).cell (i := 0) rfl
  have H2 := Lib.hid (And.intro hb2 (And.intro hK2 (hk2.blk B1 (by decide))))
  clear d0 u1 B1 HN hb2 hk2 hK2
  go_wp2_with fail
  go_loopw [3, 16] (fun b i wr => ∃ k : Nat, i = .int .i64 k ∧ k ≤ d.graph.length ∧ Buf w b (n8 d.graph.length ++ (d.graph.take k).flatMap noE) wr ∧ KB w wr ∧ Blk wr w.heap.size [.slice ag d.graph.length cg, .slice ah d.hyps.length ch, .slice ac d.clause.length cc, .slice a2 d.steps.length c2] 82) (fun _ i _ => d.graph.length - (intOf i).toNat)
  case atStart => exact ⟨0, rfl, Nat.zero_le _, by simpa using H2.out.1, H2.out.2⟩
  case round =>
    obtain ⟨wo, rfl⟩ : ∃ wo : World, wo = wr := ⟨_, rfl⟩
    obtain ⟨k, rfl, hk, hb, hkb, hbx⟩ := hrel
    have hfl : ((d.graph.take k).flatMap noE).length ≤ 1000 * k := by
      have := flat_le (f := noE) (B := 1000) (l := d.graph.take k) (fun x hx => by
        have := HQ.out.2.2.2.2.graph.2 x (List.mem_of_mem_take hx)
        have h1 := this.kids.1
        have h2 := this.text
        rw [noE_length]; omega)
      rw [List.length_take] at this
      have h3 : min k d.graph.length = k := by omega
      rwa [h3] at this
    have HK := Lib.hid (And.intro hb (And.intro hkb hbx))
    clear hb hkb hbx H2 d0'
    by_cases hlt : k < d.graph.length
    · have hki : (k : Int) < d.graph.length := by omega
      have hg := List.getElem?_eq_getElem hlt
      obtain ⟨_, _, he, _, _, hga⟩ := (HK.out.2.1.noL HQ.out.1).at_
      cases he
      obtain ⟨gg, vk, rfl, hcell, hkids⟩ := hga k _ hg
      have HG := Lib.hid (And.intro hg (HQ.out.2.2.2.2.graph.2 _ (List.getElem_mem hlt)))
      have HC := Lib.hid hkids
      generalize d.graph[k] = x at *
      obtain ⟨ax, cx, rfl, qx, rx, _⟩ := hkids.cells
      have e0 := hcell 0 _ rfl
      rw [Nat.add_zero] at e0
      have e1 := hcell 1 _ rfl
      have e2 := hcell 2 _ rfl
      have e3 := hcell 3 _ rfl
      have e4 := hcell 4 _ rfl
      have e5 := hcell 5 _ rfl
      have e6 := hcell 6 _ rfl
      have e7 := hcell 7 _ rfl
      have e8 := hcell 8 _ rfl
      clear hcell hkids hga hg
      go_upto_region 5 with fail
      have ua := (Upd.refl [] wo).alloc (.cells (noC x (.slice ax x.kids.length cx)).toArray 88)
      have BA := Blk.new wo (noC x (.slice ax x.kids.length cx)) 88
      have HA := Lib.hid (And.intro (HK.out.1.ext ua) (And.intro (HK.out.2.1.trans (KB.ext ua)) (And.intro (HK.out.2.2.upd ua (by simp)) (And.intro BA (KB.ext ua)))))
      change Code.wp _ _ _ _ (wo.alloc (.cells (noC x (.slice ax x.kids.length cx)).toArray 88))
      clear ua BA e0 e1 e2 e3 e4 e5 e6 e7 e8
      generalize hga : Array.size (World.heap wo) = ga at *
      clear hga
      generalize wo.alloc (.cells (noC x (.slice ax x.kids.length cx)).toArray 88) = wa at *
      have y0 := HA.out.2.2.2.1.cell (i := 0) rfl
      have y2 := HA.out.2.2.2.1.cell (i := 2) rfl
      have y3 := HA.out.2.2.2.1.cell (i := 3) rfl
      have y4 := HA.out.2.2.2.1.cell (i := 4) rfl
      have y6 := HA.out.2.2.2.1.cell (i := 6) rfl
      have y7 := HA.out.2.2.2.1.cell (i := 7) rfl
      have y8 := HA.out.2.2.2.1.cell (i := 8) rfl
      have hN := HG.out.2
      have HN := Lib.hid (num7 rfl HA.out.1 hN.op hN.n hN.m (i64_wrap_ok x.u) hN.sk hN.sn hN.si (by rw [List.length_append, n8_length]; omega))
      go_upto_region 6 with (go_at_call 58; (with_reducible refine HN.out.mono ?_); rintro e w5 ⟨v5, rfl, hb5, hk5⟩)
      have H5 := Lib.hid (And.intro hb5 (And.intro (HA.out.2.1.trans hk5) (And.intro (hk5.blk HA.out.2.2.1 (by decide)) (And.intro (hk5.blk HA.out.2.2.2.1 (by decide)) (HA.out.2.2.2.2.trans hk5)))))
      clear hb5 hk5 HN HA y0 y2 y3 y4 y6 y7 y8
      have y1 := H5.out.2.2.2.1.cell (i := 1) rfl
      have hlk := hN.kids.1
      have hlt' := hN.text
      have HL := Lib.hid (list_calls H5.out.1 (H5.out.2.2.2.2.row HC.out) hN.kids.2 (by simp only [List.length_append, n8_length, n8s_length, List.length_cons, List.length_nil]; omega))
      go_upto_region 7 with (go_at_call 59; (with_reducible refine HL.out.mono ?_); rintro e w6 ⟨v6, rfl, hb6, hk6⟩)
      have H6 := Lib.hid (And.intro hb6 (And.intro (H5.out.2.1.trans hk6) (And.intro (hk6.blk H5.out.2.2.1 (by decide)) (hk6.blk H5.out.2.2.2.1 (by decide)))))
      clear hb6 hk6 HL H5 y1
      have y5 := H6.out.2.2.2.cell (i := 5) rfl
      have HT := Lib.hid (text_calls H6.out.1 (s := x.text) (by omega) (by simp only [List.length_append, n8_length, n8s_length, lsE_length, List.length_cons, List.length_nil]; omega))
      clear hN
      go_wp2_with (go_at_call 60; (with_reducible refine HT.out.mono ?_); rintro e w7 ⟨v7, rfl, hb7, hk7⟩)
      refine ⟨⟨k + 1, by go_num, by omega, ?_, H6.out.2.1.trans hk7, hk7.blk H6.out.2.2.1 (by decide)⟩, by simp [intOf]; omega⟩
      rw [flat_take HG.out.1]
      simpa [noE, List.append_assoc] using hb7
    · have hki : ¬ (k : Int) < d.graph.length := by omega
      have hkn : k = d.graph.length := by omega
      have HF := Lib.hid (show Buf w u3 (n8 d.graph.length ++ d.graph.flatMap noE) wo by
        have := HK.out.1
        rwa [hkn, List.take_length] at this)
      have hfl2 : (d.graph.flatMap noE).length ≤ 100000 := by
        rw [hkn, List.take_length] at hfl; omega
      have e1 := HK.out.2.2.cell (i := 1) rfl
      have HL := Lib.hid (list_calls HF.out (HK.out.2.1.row HQ.out.2.1) HQ.out.2.2.2.2.hyps.2 (by rw [List.length_append, n8_length]; omega))
      clear hkn hfl hlt
      go_upto_region 10 with (go_at_call 59; (with_reducible refine HL.out.mono ?_); rintro e w5 ⟨v5, rfl, hb5, hk5⟩)
      have H5 := Lib.hid (And.intro hb5 (And.intro (HK.out.2.1.trans hk5) (hk5.blk HK.out.2.2 (by decide))))
      clear hb5 hk5 HK HL e1 HF
      have e2 := H5.out.2.2.cell (i := 2) rfl
      have HL := Lib.hid (list_calls H5.out.1 (H5.out.2.1.row HQ.out.2.2.1) HQ.out.2.2.2.2.clause.2 (by simp only [List.length_append, n8_length, lsE_length]; omega))
      go_upto_region 11 with (go_at_call 59; (with_reducible refine HL.out.mono ?_); rintro e w6 ⟨v6, rfl, hb6, hk6⟩)
      have H6 := Lib.hid (And.intro hb6 (And.intro (H5.out.2.1.trans hk6) (hk6.blk H5.out.2.2 (by decide))))
      clear hb6 hk6 HL e2 H5
      have e3 := H6.out.2.2.cell (i := 3) rfl
      have HN := Lib.hid (numO rfl H6.out.1 (show IsI64 (d.steps.length : Int) by unfold IsI64; omega) (by simp only [List.length_append, n8_length, lsE_length]; omega))
      go_upto_region 12 with (go_at_call 58; (with_reducible refine HN.out.mono ?_); rintro e w7 ⟨v7, rfl, hb7, hk7⟩)
      have H7 := Lib.hid (And.intro hb7 (And.intro (H6.out.2.1.trans hk7) (hk7.blk H6.out.2.2 (by decide))))
      clear hb7 hk7 HN e3 H6
      have e3 := H7.out.2.2.cell (i := 3) rfl
      go_wp2_with fail
      go_loopw [3, 67] (fun b i wr => ∃ k : Nat, i = .int .i64 k ∧ k ≤ d.steps.length ∧ Buf w b (n8 d.graph.length ++ d.graph.flatMap noE ++ lsE d.hyps ++ lsE d.clause ++ n8 d.steps.length ++ (d.steps.take k).flatMap stE) wr ∧ KB w wr) (fun _ i _ => d.steps.length - (intOf i).toNat)
      case atStart => exact ⟨0, rfl, Nat.zero_le _, by simpa using H7.out.1, H7.out.2.1⟩
      case round =>
        obtain ⟨wz, rfl⟩ : ∃ wz : World, wz = wr := ⟨_, rfl⟩
        obtain ⟨k, rfl, hk, hb, hkb⟩ := hrel
        have hfl : ((d.steps.take k).flatMap stE).length ≤ 10000 * k := by
          have := flat_le (f := stE) (B := 10000) (l := d.steps.take k) (fun x hx => HQ.out.2.2.2.2.steps.2 x (List.mem_of_mem_take hx))
          rw [List.length_take] at this
          have h3 : min k d.steps.length = k := by omega
          rwa [h3] at this
        have HK := Lib.hid (And.intro hb hkb)
        clear hb hkb H7 e3
        by_cases hlt : k < d.steps.length
        · have hki : (k : Int) < d.steps.length := by omega
          have hg := List.getElem?_eq_getElem hlt
          obtain ⟨_, _, he, _, _, hsa⟩ := (HK.out.2.stL HQ.out.2.2.2.1).at_
          cases he
          obtain ⟨gg, vp, vl, vh, rfl, hcell, hF⟩ := hsa k _ hg
          have HG := Lib.hid (And.intro hg (HQ.out.2.2.2.2.steps.2 _ (List.getElem_mem hlt)))
          generalize d.steps[k] = x at *
          obtain ⟨ap, cp, rfl, _⟩ := hF.1.cells
          obtain ⟨al, cl, rfl, _⟩ := hF.2.1.cells
          obtain ⟨ah', ch', rfl, _⟩ := hF.2.2.1.cells
          have e0 := hcell 0 _ rfl
          rw [Nat.add_zero] at e0
          have e1 := hcell 1 _ rfl
          have e2 := hcell 2 _ rfl
          have e3 := hcell 3 _ rfl
          have e4 := hcell 4 _ rfl
          have e5 := hcell 5 _ rfl
          have e6 := hcell 6 _ rfl
          have HF := Lib.hid hF
          clear hcell hF hsa hg
          go_upto_region 15 with fail
          have ua := (Upd.refl [] wz).alloc (.cells (stC x (.slice ap x.params.length cp) (.slice al x.lits.length cl) (.slice ah' x.hints.length ch')).toArray 56)
          have BA := Blk.new wz (stC x (.slice ap x.params.length cp) (.slice al x.lits.length cl) (.slice ah' x.hints.length ch')) 56
          have HA := Lib.hid (And.intro (HK.out.1.ext ua) (And.intro (HK.out.2.trans (KB.ext ua)) (And.intro BA ((KB.ext ua).stF HF.out))))
          change Code.wp _ _ _ _ (wz.alloc (.cells (stC x (.slice ap x.params.length cp) (.slice al x.lits.length cl) (.slice ah' x.hints.length ch')).toArray 56))
          clear ua BA e0 e1 e2 e3 e4 e5 e6
          generalize hga : Array.size (World.heap wz) = ga at *
          clear hga
          generalize wz.alloc (.cells (stC x (.slice ap x.params.length cp) (.slice al x.lits.length cl) (.slice ah' x.hints.length ch')).toArray 56) = wa at *
          have y0 := HA.out.2.2.1.cell (i := 0) rfl
          have y1 := HA.out.2.2.1.cell (i := 1) rfl
          have y2 := HA.out.2.2.1.cell (i := 2) rfl
          have y3 := HA.out.2.2.1.cell (i := 3) rfl
          have y4 := HA.out.2.2.1.cell (i := 4) rfl
          have y5 := HA.out.2.2.1.cell (i := 5) rfl
          have y6 := HA.out.2.2.1.cell (i := 6) rfl
          have hxl := HG.out.2
          have HS := Lib.hid (show Calls Try.prog 54 #[u3, .agg #[.int .i64 x.kind, .int .i64 x.node, .int .i64 x.rule, .slice ap x.params.length cp, .string x.name, .slice al x.lits.length cl, .slice ah' x.hints.length ch']] wa fun e w' => ∃ v', e = .returned v' ∧ Buf w v' (n8 d.graph.length ++ d.graph.flatMap noE ++ lsE d.hyps ++ lsE d.clause ++ n8 d.steps.length ++ (d.steps.take k).flatMap stE ++ stE x) w' ∧ KB wa w' from stB_calls HA.out.1 HA.out.2.2.2 (by simp only [List.length_append, n8_length, lsE_length]; omega))
          go_wp2_with (go_at_call 54; (with_reducible refine HS.out.mono ?_); rintro e w8 ⟨v8, rfl, hb8, hk8⟩)
          refine ⟨⟨k + 1, by go_num, by omega, ?_, HA.out.2.1.trans hk8⟩, by simp [intOf]; omega⟩
          rw [flat_take HG.out.1]
          simpa [List.append_assoc] using hb8
        · have hki : ¬ (k : Int) < d.steps.length := by omega
          have hkn : k = d.steps.length := by omega
          have HF := Lib.hid (show Buf w u3 (lmE d) wz by
            have := HK.out.1
            rwa [hkn, List.take_length] at this)
          clear hkn hlt hfl
          go_wp2_with fail
          go_ret
          exact ⟨_, rfl, HF.out, HK.out.2⟩
end
end Trim
end Go.Proofs.Ytnmfihgdedifoaa
