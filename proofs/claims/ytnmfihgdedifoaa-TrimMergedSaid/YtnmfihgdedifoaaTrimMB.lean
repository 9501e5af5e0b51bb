/- Walks through package trim: stepBytes. Conditions: none. -/
import Derived.Test.YtnmfihgdedifoaaTrimMA
set_option linter.unusedVariables false
set_option linter.unusedSimpArgs false
set_option linter.unusedSectionVars false
open Go.RowKit
namespace Go.Proofs.Ytnmfihgdedifoaa
open L R01
namespace Trim
/-- The bytes of a step. -/
def stE (s : StepD) : List UInt8 := n8s [s.kind, s.node, s.rule] ++ lsE s.params ++ txE s.name ++ lsE s.lits ++ lsE s.hints
theorem stE_length (s : StepD) : (stE s).length = 64 - 8 + 8 * s.params.length + s.name.size + 8 * s.lits.length + 8 * s.hints.length := by
  unfold stE
  simp only [List.length_append, lsE_length, txE_length, n8s_length, List.length_cons, List.length_nil]
  omega
section
variable {w0 w : World}
/-- Numbers in a block of their own are handed on. -/
theorem numN {v : Value} {ys : List UInt8} {l : List Int} {g : Nat} (hg : w.heap.size = g) (h : Buf w0 v ys w) (hx : ∀ x ∈ l, IsI64 x) (hl : l.length ≤ 1000) (hn : ys.length + 8 * l.length ≤ 1000000000) :
    Calls Try.prog 58 #[v, .slice (some ⟨g, 0, none⟩) l.length l.length] (w.alloc (.cells (ints l).toArray 3)) fun e w' => ∃ v', e = .returned v' ∧ Buf w0 v' (ys ++ n8s l) w' ∧ KB w w' := by
  subst hg
  have u := (Upd.refl [] w).alloc (.cells (ints l).toArray 3)
  refine (nums_calls (h.ext u) (rowI_blk (xs := l) (Blk.new w (ints l) 3) hl) hx hn).mono ?_
  rintro e w' ⟨v', rfl, hb, hk⟩
  exact ⟨v', rfl, hb, (KB.ext u).trans hk⟩
theorem num3 {v : Value} {ys : List UInt8} {a b c : Int} {g : Nat} (hg : w.heap.size = g) (h : Buf w0 v ys w) (ha : IsI64 a) (hb : IsI64 b) (hc : IsI64 c) (hn : ys.length + 24 ≤ 1000000000) :
    Calls Try.prog 58 #[v, .slice (some ⟨g, 0, none⟩) 3 3] (w.alloc (.cells #[.int .i64 a, .int .i64 b, .int .i64 c] 3)) fun e w' => ∃ v', e = .returned v' ∧ Buf w0 v' (ys ++ n8s [a, b, c]) w' ∧ KB w w' :=
  numN (l := [a, b, c]) hg h (fun x hx => by simp only [List.mem_cons, List.not_mem_nil, or_false] at hx; rcases hx with rfl | rfl | rfl <;> assumption) (by simp) (by simpa using hn)
theorem num7 {v : Value} {ys : List UInt8} {a b c d e f k : Int} {g : Nat} (hg : w.heap.size = g) (h : Buf w0 v ys w) (ha : IsI64 a) (hb : IsI64 b) (hc : IsI64 c) (hd : IsI64 d) (he : IsI64 e) (hf : IsI64 f) (hk : IsI64 k) (hn : ys.length + 56 ≤ 1000000000) :
    Calls Try.prog 58 #[v, .slice (some ⟨g, 0, none⟩) 7 7] (w.alloc (.cells #[.int .i64 a, .int .i64 b, .int .i64 c, .int .i64 d, .int .i64 e, .int .i64 f, .int .i64 k] 3)) fun e' w' => ∃ v', e' = .returned v' ∧ Buf w0 v' (ys ++ n8s [a, b, c, d, e, f, k]) w' ∧ KB w w' :=
  numN (l := [a, b, c, d, e, f, k]) hg h (fun x hx => by simp only [List.mem_cons, List.not_mem_nil, or_false] at hx; rcases hx with rfl | rfl | rfl | rfl | rfl | rfl | rfl <;> assumption) (by simp) (by simpa using hn)
theorem numO {v : Value} {ys : List UInt8} {a : Int} {g : Nat} (hg : w.heap.size = g) (h : Buf w0 v ys w) (ha : IsI64 a) (hn : ys.length + 8 ≤ 1000000000) :
    Calls Try.prog 58 #[v, .slice (some ⟨g, 0, none⟩) 1 1] (w.alloc (.cells #[.int .i64 a] 3)) fun e w' => ∃ v', e = .returned v' ∧ Buf w0 v' (ys ++ n8 a) w' ∧ KB w w' := by
  subst hg
  exact num1 h ha hn
set_option maxRecDepth 100000 in
set_option maxHeartbeats 4000000 in
theorem stB_calls {v vp vl vh : Value} {ys : List UInt8} {s : StepD} (h : Buf w0 v ys w) (hF : StF w s vp vl vh) (hlen : ys.length + (stE s).length ≤ 1000000000) :
    Calls Try.prog 54 #[v, .agg (stC s vp vl vh).toArray] w fun e w' => ∃ v', e = .returned v' ∧ Buf w0 v' (ys ++ stE s) w' ∧ KB w w' := by
  rw [stE_length] at hlen
  have u1 := (Upd.refl [] w).alloc (.cells (stC s vp vl vh).toArray 56)
  have B1 := Blk.new w (stC s vp vl vh) 56
  have HQ := Lib.hid hF
  have HN := Lib.hid (num3 (g := w.heap.size + 1) (by simp) (h.ext u1) hF.2.2.2.1 hF.2.2.2.2.1 hF.2.2.2.2.2.1 (by omega))
  obtain ⟨ap, cp, rfl, _⟩ := hF.1.cells
  obtain ⟨al, cl, rfl, _⟩ := hF.2.1.cells
  obtain ⟨ah, ch, rfl, _⟩ := hF.2.2.1.cells
  have hnm := hF.2.2.2.2.2.2.2.2.2
  clear h hF
  have d0 := B1.cell (i := 0) rfl
  have d1 := B1.cell (i := 1) rfl
  have d2 := B1.cell (i := 2) rfl
  go_enter Try.func54, Try.ntmps54
  go_upto_region 2 with (go_at_call 58; (with_reducible refine HN.out.mono ?_); rintro e w2 ⟨v2, rfl, hb2, hk2⟩)
  have hK2 := (KB.ext u1).trans hk2
  have d3 := (hk2.blk B1 (by decide)).cell (i := 3) rfl
  have H2 := Lib.hid (And.intro hb2 (And.intro hK2 (hk2.blk B1 (by decide))))
  have HL := Lib.hid (list_calls H2.out.1 (H2.out.2.1.stF HQ.out).1 HQ.out.2.2.2.2.2.2.1 (by simp [List.length_append, n8s_length]; omega))
  clear d0 d1 d2 u1 B1 HN hb2 hk2 hK2
  go_upto_region 3 with (go_at_call 59; (with_reducible refine HL.out.mono ?_); rintro e w3 ⟨v3, rfl, hb3, hk3⟩)
  have d4 := (hk3.blk H2.out.2.2 (by decide)).cell (i := 4) rfl
  have H3 := Lib.hid (And.intro hb3 (And.intro (H2.out.2.1.trans hk3) (hk3.blk H2.out.2.2 (by decide))))
  have HT := Lib.hid (text_calls H3.out.1 (s := s.name) (by omega) (by simp [List.length_append, n8s_length, lsE_length]; omega))
  clear H2 HL hb3 hk3 d3
  go_upto_region 4 with (go_at_call 60; (with_reducible refine HT.out.mono ?_); rintro e w4 ⟨v4, rfl, hb4, hk4⟩)
  have d5 := (hk4.blk H3.out.2.2 (by decide)).cell (i := 5) rfl
  have H4 := Lib.hid (And.intro hb4 (And.intro (H3.out.2.1.trans hk4) (hk4.blk H3.out.2.2 (by decide))))
  have HL := Lib.hid (list_calls H4.out.1 (H4.out.2.1.stF HQ.out).2.1 HQ.out.2.2.2.2.2.2.2.1 (by simp [List.length_append, n8s_length, lsE_length, txE_length]; omega))
  clear H3 HT hb4 hk4 d4
  go_upto_region 5 with (go_at_call 59; (with_reducible refine HL.out.mono ?_); rintro e w5 ⟨v5, rfl, hb5, hk5⟩)
  have d6 := (hk5.blk H4.out.2.2 (by decide)).cell (i := 6) rfl
  have H5 := Lib.hid (And.intro hb5 (And.intro (H4.out.2.1.trans hk5) (hk5.blk H4.out.2.2 (by decide))))
  have HL := Lib.hid (list_calls H5.out.1 (H5.out.2.1.stF HQ.out).2.2.1 HQ.out.2.2.2.2.2.2.2.2.1 (by simp [List.length_append, n8s_length, lsE_length, txE_length]; omega))
  clear H4 hb5 hk5 d5
  go_wp2_with (go_at_call 59; (with_reducible refine HL.out.mono ?_); rintro e w6 ⟨v6, rfl, hb6, hk6⟩)
  go_ret
  exact ⟨_, rfl, by simpa [stE, List.append_assoc] using hb6, H5.out.2.1.trans hk6⟩
end
end Trim
end Go.Proofs.Ytnmfihgdedifoaa
