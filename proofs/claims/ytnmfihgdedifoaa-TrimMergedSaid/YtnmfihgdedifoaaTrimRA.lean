/- Walks through the reference of package trim: Renamed. Conditions: none. -/
import Derived.Test.YtnmfihgdedifoaaTrimR
set_option linter.unusedVariables false
set_option linter.unusedSimpArgs false
set_option linter.unusedSectionVars false
open Go.RowKit
namespace Go.Proofs.Ytnmfihgdedifoaa
open L R01
namespace Trim
def atI (A : List Int) (j : Nat) : Int := A.getD j 0
section
variable {w : World}
set_option maxRecDepth 100000 in
set_option maxHeartbeats 8000000 in
theorem rn_calls {s : StepD} {vp vl vh va vb : Value} {A B : List Int} (hF : StF w s vp vl vh) (hA : SL w 1 va A.length (ints A)) (hB : SL w 1 vb B.length (ints B)) (hh : ∀ h ∈ s.hints, 0 ≤ h ∧ h < (A.length : Int)) (hk : s.kind = 4 → 0 ≤ s.node ∧ s.node < (B.length : Int)) (hlen : s.hints.length ≤ 1000000) :
    Calls Try.prog 45 #[.agg (stC s vp vl vh).toArray, va, vb] w fun e w' => ∃ a c, e = .returned (.agg (stC (renS (atI A) (atI B) s) vp vl (.slice a s.hints.length c)).toArray) ∧ RowI w' (.slice a s.hints.length c) (renS (atI A) (atI B) s).hints ∧ (∀ g, (Value.slice a s.hints.length c).ownBlock = some g → w.heap.size ≤ g) ∧ Upd [] w w' := by
  obtain ⟨ap, cp, rfl, _⟩ := hF.1.cells
  obtain ⟨al, cl, rfl, _⟩ := hF.2.1.cells
  obtain ⟨ah, ch, rfl, qh, rh, hc⟩ := hF.2.2.1.cells
  obtain ⟨_, aa, ca, rfl, qa, ra, _, hca⟩ := hA
  obtain ⟨_, ab, cb, rfl, qb, rb_, _, hcb⟩ := hB
  unfold maxLen at ra rb_
  have HH := Lib.hid (And.intro hca (And.intro hcb (And.intro hc hh)))
  clear hca hcb hc hh hF
  have Bs := (Blk.new w (stC s (.slice ap s.params.length cp) (.slice al s.lits.length cl) (.slice ah s.hints.length ch)) 56).alloc (.cells #[.int .i64 0, .int .i64 0, .int .i64 0, .slice none 0 0, .string ⟨#[]⟩, .slice none 0 0, .slice none 0 0] 56)
  have Br := Blk.new (w.alloc (.cells (stC s (.slice ap s.params.length cp) (.slice al s.lits.length cl) (.slice ah s.hints.length ch)).toArray 56)) [.int .i64 0, .int .i64 0, .int .i64 0, .slice none 0 0, .string ⟨#[]⟩, .slice none 0 0, .slice none 0 0] 56
  have U2 := ((Upd.refl [] w).alloc (.cells (stC s (.slice ap s.params.length cp) (.slice al s.lits.length cl) (.slice ah s.hints.length ch)).toArray 56)).alloc (.cells #[.int .i64 0, .int .i64 0, .int .i64 0, .slice none 0 0, .string ⟨#[]⟩, .slice none 0 0, .slice none 0 0] 56)
  rw [show (w.alloc (.cells (stC s (.slice ap s.params.length cp) (.slice al s.lits.length cl) (.slice ah s.hints.length ch)).toArray 56)).heap.size = w.heap.size + 1 by simp] at Br
  unfold stC
  go_enter Try.func45, Try.ntmps45
  go_upto_region 1 with fail
  change Code.wp _ _ _ _ ((w.alloc (.cells (stC s (.slice ap s.params.length cp) (.slice al s.lits.length cl) (.slice ah s.hints.length ch)).toArray 56)).alloc (.cells #[.int .i64 0, .int .i64 0, .int .i64 0, .slice none 0 0, .string ⟨#[]⟩, .slice none 0 0, .slice none 0 0] 56))
  generalize ((w.alloc (.cells (stC s (.slice ap s.params.length cp) (.slice al s.lits.length cl) (.slice ah s.hints.length ch)).toArray 56)).alloc (.cells #[.int .i64 0, .int .i64 0, .int .i64 0, .slice none 0 0, .string ⟨#[]⟩, .slice none 0 0, .slice none 0 0] 56)) = w2 at *
  have hrlt := Br.lt
  have H2 := Lib.hid (And.intro Bs (And.intro Br U2))
  clear Bs Br U2
  go_wp2_with fail
  go_loopw [7, 8] (fun o i wr => ∃ k : Nat, i = .int .i64 k ∧ k ≤ s.hints.length ∧ OwnV w2 3 1 o k (ints ((s.hints.take k).map fun h => A.getD h.toNat 0)) wr ∧ Upd [] w2 wr) (fun _ i _ => s.hints.length - (intOf i).toNat)
  case atStart => exact ⟨0, rfl, Nat.zero_le _, OwnV.nil _ _ _ _, Upd.refl _ _⟩
  case round =>
    obtain ⟨wo, rfl⟩ : ∃ wo : World, wo = wr := ⟨_, rfl⟩
    obtain ⟨k, rfl, hkn, hO, hU⟩ := hrel
    obtain ⟨ao, co, rfl⟩ := ownsRow_slice hO.row
    have HI := Lib.hid (And.intro hO hU)
    have Bs := H2.out.1.upd hU (by simp)
    have Br := H2.out.2.1.upd hU (by simp)
    have d6 := Bs.cell (i := 6) rfl
    have HBB := Lib.hid (And.intro Bs (And.intro Br (H2.out.2.2.step hU)))
    clear Bs Br hO
    by_cases hlt : k < s.hints.length
    · have hki : (k : Int) < s.hints.length := by omega
      have hg := List.getElem?_eq_getElem hlt
      obtain ⟨z0, z1⟩ := HH.out.2.2.2 _ (List.getElem_mem hlt)
      obtain ⟨gh, rfl, hcx⟩ := HH.out.2.2.1 k _ hg
      have htk : (s.hints.take (k + 1)).map (fun h => A.getD h.toNat 0) = (s.hints.take k).map (fun h => A.getD h.toNat 0) ++ [A.getD (s.hints[k]).toNat 0] := by rw [List.take_add_one, hg, Option.toList_some, List.map_append]; rfl
      generalize s.hints[k] = y at *
      obtain ⟨yn, rfl⟩ := Int.eq_ofNat_of_zero_le z0
      have hyn : yn < A.length := by omega
      obtain ⟨ga, offa, rfl, hcell⟩ := HH.out.1.resolve_left (by omega)
      have da := HBB.out.2.2.some (hcell yn _ (ints_get (List.getElem?_eq_getElem hyn))) (by simp)
      have dh := HBB.out.2.2.some hcx (by simp)
      have hgd : A.getD yn 0 = A[yn] := by rw [List.getD_eq_getElem?_getD, List.getElem?_eq_getElem hyn]; rfl
      have HT := Lib.hid (And.intro htk hgd)
      clear hcx hg htk z0 hcell hU hgd
      go_wp2_with (refine wpList_push rfl rfl _ _ _ _ rfl rfl rfl 3 1 8 _ Try.underlying22 infoInt rfl (by decide) (by decide) (.int .i64 A[yn]) [.int .i64 A[yn]] rfl rfl rfl (by simp [Value.oneCell']) _ _ _ HI.out.1.row rfl rfl (by unfold maxLen; omega) (by omega) ?_; intro g7 cap7 w7 o7 u7 k7)
      have N := HI.out.1.push (by have := HI.out.2.size; omega) o7 k7
      have U7 := HI.out.2.fresh u7 (fun b hb => .inr (HI.out.1.fresh b (by simpa using hb)))
      refine ⟨⟨k + 1, by go_num, by omega, ?_, U7⟩, by simp [intOf]; omega⟩
      rw [HT.out.1, ints_append]
      show OwnV w2 3 1 _ (k + 1) (_ ++ ints [A.getD yn 0]) w7
      rw [HT.out.2]
      exact N
    · have hki : ¬ (k : Int) < s.hints.length := by omega
      have hkl : k = s.hints.length := by omega
      subst hkl
      clear hlt hkn hU
      have hz2 := HBB.out.2.1.lt
      have hrow : RowI wo (.slice ao s.hints.length co) (s.hints.map fun h => A.getD h.toNat 0) := by
        have h := HI.out.1.row
        rw [List.take_of_length_le (Nat.le_refl _)] at h
        unfold RowI
        rw [List.length_map]
        exact h
      have HFR := Lib.hid (show ∀ g, (Value.slice ao s.hints.length co).ownBlock = some g → w.heap.size ≤ g from fun g hg => by have h := HI.out.1.fresh g hg; have := H2.out.2.2.size; omega)
      have f6 := HBB.out.1.free 6
      have us : Upd [w.heap.size] wo (wo.setCell ⟨w.heap.size, 6, none⟩ (.slice ao s.hints.length co)) := (Upd.refl _ wo).set (.inl (by simp)) _
      have H7 := Lib.hid (And.intro (show Blk _ w.heap.size [.int .i64 s.kind, .int .i64 s.node, .int .i64 s.rule, .slice ap s.params.length cp, .string s.name, .slice al s.lits.length cl, .slice ao s.hints.length co] 56 from HBB.out.1.set 6 (.slice ao s.hints.length co)) (And.intro (HBB.out.2.1.upd us (by simp)) (And.intro (hrow.kd (es := [3]) (off_blk HBB.out.1 (by decide)) (by simp) us) (HBB.out.2.2.fresh us (fun b hb => .inr (by simp at hb; omega))))))
      clear hrow us HI HBB H2
      go_upto_region 7 with fail
      generalize (wo.setCell ⟨w.heap.size, 6, none⟩ (.slice ao s.hints.length co)) = w7 at *
      clear f6 d6
      by_cases hk4 : s.kind = 4
      · obtain ⟨n0, n1⟩ := hk hk4
        have hb4 : (s.kind == 4) = true := by simp [hk4]
        obtain ⟨nd, hnd⟩ := Int.eq_ofNat_of_zero_le n0
        have HK := Lib.hid (show renS (atI A) (atI B) s = { s with hints := s.hints.map (fun h => A.getD h.toNat 0), node := B.getD nd 0 } by unfold renS; rw [if_pos hk4, hnd]; rfl)
        have hnb : nd < B.length := by omega
        obtain ⟨gb, offb, rfl, hcell⟩ := HH.out.2.1.resolve_left (by omega)
        have hgd : B.getD nd 0 = B[nd] := by rw [List.getD_eq_getElem?_getD, List.getElem?_eq_getElem hnb]; rfl
        have dn := H7.out.2.2.2.some (hcell nd _ (ints_get (List.getElem?_eq_getElem hnb))) (by simp)
        rw [← hgd] at dn
        have d0 := H7.out.1.cell (i := 0) rfl
        have d1 := H7.out.1.cell (i := 1) rfl
        rw [hnd] at d1
        have f1 := H7.out.1.free 1
        have us : Upd [w.heap.size] w7 (w7.setCell ⟨w.heap.size, 1, none⟩ (.int .i64 (B.getD nd 0))) := (Upd.refl _ w7).set (.inl (by simp)) _
        have H8 := Lib.hid (And.intro (show Blk _ w.heap.size [.int .i64 s.kind, .int .i64 (B.getD nd 0), .int .i64 s.rule, .slice ap s.params.length cp, .string s.name, .slice al s.lits.length cl, .slice ao s.hints.length co] 56 from H7.out.1.set 1 (.int .i64 (B.getD nd 0))) (And.intro (H7.out.2.1.upd us (by simp)) (And.intro (H7.out.2.2.1.kd (es := [3]) (off_blk H7.out.1 (by decide)) (by simp) us) (H7.out.2.2.2.fresh us (fun b hb => .inr (by simp at hb; omega))))))
        generalize B.getD nd 0 = bn at *
        clear us hk4 hnd n0 n1 hcell hgd
        go_upto_region 9 with fail
        generalize (w7.setCell ⟨w.heap.size, 1, none⟩ (.int .i64 bn)) = w8 at *
        clear d0 d1 f1 dn hb4
        have x0 := H8.out.1.cell (i := 0) rfl
        have x1 := H8.out.1.cell (i := 1) rfl
        have x2 := H8.out.1.cell (i := 2) rfl
        have x3 := H8.out.1.cell (i := 3) rfl
        have x4 := H8.out.1.cell (i := 4) rfl
        have x5 := H8.out.1.cell (i := 5) rfl
        have x6 := H8.out.1.cell (i := 6) rfl
        have r0 := H8.out.2.1.cell (i := 0) rfl
        have r1 := H8.out.2.1.cell (i := 1) rfl
        have r2 := H8.out.2.1.cell (i := 2) rfl
        have r3 := H8.out.2.1.cell (i := 3) rfl
        have r4 := H8.out.2.1.cell (i := 4) rfl
        have r5 := H8.out.2.1.cell (i := 5) rfl
        have r6 := H8.out.2.1.cell (i := 6) rfl
        have fr0 := H8.out.2.1.free 0
        have fr1 := H8.out.2.1.free 1
        have fr2 := H8.out.2.1.free 2
        have fr3 := H8.out.2.1.free 3
        have fr4 := H8.out.2.1.free 4
        have fr5 := H8.out.2.1.free 5
        have fr6 := H8.out.2.1.free 6
        have HF7 := Lib.hid (fill7 (.int .i64 s.kind) (.int .i64 bn) (.int .i64 s.rule) (.slice ap s.params.length cp) (.string s.name) (.slice al s.lits.length cl) (.slice ao s.hints.length co) H8.out.2.1)
        have HRO := Lib.hid (RowI.kd (es := [3]) H8.out.2.2.1 (off_blk H8.out.2.1 (by decide)) (by simp) HF7.out.2)
        go_wp2_with fail
        exact ret_rowT rfl rfl HF7.out.1 Try.underlying56 (by kernel_rfl) rfl ⟨ao, co, (by rw [HK.out]; try rfl), by rw [HK.out]; exact HRO.out, HFR.out, H8.out.2.2.2.fresh HF7.out.2 (fun b hb => .inr (by simp at hb; omega))⟩
      · have hb4 : (s.kind == 4) = false := by simpa using hk4
        have HK := Lib.hid (show renS (atI A) (atI B) s = { s with hints := s.hints.map (fun h => A.getD h.toNat 0) } by unfold renS; rw [if_neg hk4]; rfl)
        clear hk4
        have x0 := H7.out.1.cell (i := 0) rfl
        have x1 := H7.out.1.cell (i := 1) rfl
        have x2 := H7.out.1.cell (i := 2) rfl
        have x3 := H7.out.1.cell (i := 3) rfl
        have x4 := H7.out.1.cell (i := 4) rfl
        have x5 := H7.out.1.cell (i := 5) rfl
        have x6 := H7.out.1.cell (i := 6) rfl
        have r0 := H7.out.2.1.cell (i := 0) rfl
        have r1 := H7.out.2.1.cell (i := 1) rfl
        have r2 := H7.out.2.1.cell (i := 2) rfl
        have r3 := H7.out.2.1.cell (i := 3) rfl
        have r4 := H7.out.2.1.cell (i := 4) rfl
        have r5 := H7.out.2.1.cell (i := 5) rfl
        have r6 := H7.out.2.1.cell (i := 6) rfl
        have fr0 := H7.out.2.1.free 0
        have fr1 := H7.out.2.1.free 1
        have fr2 := H7.out.2.1.free 2
        have fr3 := H7.out.2.1.free 3
        have fr4 := H7.out.2.1.free 4
        have fr5 := H7.out.2.1.free 5
        have fr6 := H7.out.2.1.free 6
        have HF7 := Lib.hid (fill7 (.int .i64 s.kind) (.int .i64 s.node) (.int .i64 s.rule) (.slice ap s.params.length cp) (.string s.name) (.slice al s.lits.length cl) (.slice ao s.hints.length co) H7.out.2.1)
        have HRO := Lib.hid (RowI.kd (es := [3]) H7.out.2.2.1 (off_blk H7.out.2.1 (by decide)) (by simp) HF7.out.2)
        go_wp2_with fail
        exact ret_rowT rfl rfl HF7.out.1 Try.underlying56 (by kernel_rfl) rfl ⟨ao, co, (by rw [HK.out]; try rfl), by rw [HK.out]; exact HRO.out, HFR.out, H7.out.2.2.2.fresh HF7.out.2 (fun b hb => .inr (by simp at hb; omega))⟩
end
end Trim
end Go.Proofs.Ytnmfihgdedifoaa
