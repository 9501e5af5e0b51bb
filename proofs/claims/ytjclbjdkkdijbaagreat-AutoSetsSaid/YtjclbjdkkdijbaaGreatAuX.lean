/- Walks through the law of chapter 05: AutoSets; what Both returns. Conditions: none. -/
import Derived.Test.YtjclbjdkkdijbaaGreatAuBo
import Derived.Test.YtjclbjdkkdijbaaGreatAuZg
import Derived.Test.YtjclbjdkkdijbaaGreatAuU
import Derived.Test.YtjclbjdkkdijbaaGreatAuT
import Derived.Test.YtjclbjdkkdijbaaGreatAuK
set_option linter.unusedVariables false
set_option linter.unusedSimpArgs false
set_option linter.unusedSectionVars false
open Go.RowKit
namespace Go.Proofs.YtjclbjdkkdijbaaGreat
open L
namespace Auto
theorem Ok.v {a : Au} (h : Ok a) : vErr a = 0 := by
  have hl : 0 < a.cuts.length := by
    have := h.mem0
    exact List.length_pos_of_mem this
  have hz : a.cuts.getD 0 0 = 0 := by
    have := h.zero
    rw [List.getD_eq_getElem?_getD, List.getElem?_eq_getElem hl] at this ⊢
    simpa using this
  have h1 := h.few
  have h2 := h.some_
  have h3 := h.acc
  unfold vErr
  rw [if_neg (by omega), if_neg (by rw [hz]; omega), if_neg, if_neg]
  · exact fun hn => hn h.rows
  · intro hn
    refine hn fun i hi h1 => ?_
    have hg : ∀ j, (hj : j < a.cuts.length) → a.cuts.getD j 0 = a.cuts[j] := fun j hj => by rw [List.getD_eq_getElem?_getD, List.getElem?_eq_getElem hj]; rfl
    rw [hg (i - 1) (by omega), hg i hi]
    exact ⟨List.pairwise_iff_getElem.1 h.inc (i - 1) i (by omega) hi (by omega), h.top _ (List.getElem_mem hi)⟩
section
variable {α : Type} [DecidableEq α]
theorem scan_all {P : α → Prop} {f : Nat → α} {l : List α} (hl : ∀ x ∈ l, P x) : ∀ {k : Nat}, (∀ j, j < k → P (f j)) → ∀ x ∈ (scan f k l).1, P x
  | 0, _ => hl
  | k + 1, hf => fun x hx => by
    have ih := scan_all hl (k := k) fun j hj => hf j (by omega)
    have e : (scan f (k + 1) l).1 = adds (scan f k l).1 (f k) := rfl
    rw [e] at hx
    unfold adds at hx
    split at hx
    · exact ih x hx
    · rcases List.mem_append.1 hx with h | h
      · exact ih x h
      · simp at h; subst h; exact hf k (by omega)
theorem upTo_all {P : α → Prop} {first : α} {m : Nat} {nx : α → Nat → α} (h0 : P first) (hn : ∀ x, P x → ∀ j, j < m → P (nx x j)) : ∀ i, ∀ x ∈ (upTo first m nx i).1, P x
  | 0, x, hx => by simp [upTo] at hx; subst hx; exact h0
  | i + 1, x, hx => by
    have ih := upTo_all h0 hn i
    rw [upTo] at hx
    cases hs : (upTo first m nx i).1[i]? with
    | none => rw [hs] at hx; exact ih x hx
    | some s =>
      rw [hs] at hx
      exact scan_all ih (fun j hj => hn s (ih s (List.mem_of_getElem? hs)) j hj) x hx
theorem upTo_rowlen (first : α) (m : Nat) (nx : α → Nat → α) : ∀ i, ∀ r ∈ (upTo first m nx i).2, r.length = m
  | 0, r, hr => by simp [upTo] at hr
  | i + 1, r, hr => by
    rw [upTo] at hr
    cases hs : (upTo first m nx i).1[i]? with
    | none => rw [hs] at hr; exact upTo_rowlen first m nx i r hr
    | some s =>
      rw [hs] at hr
      rcases List.mem_append.1 hr with h | h
      · exact upTo_rowlen first m nx i r h
      · simp at h; subst h; exact scan_len _ _ _
end
theorem upTo_head {α : Type} [DecidableEq α] (first : α) (m : Nat) (nx : α → Nat → α) : ∀ i, (upTo first m nx i).1[0]? = some first := fun i => by
  have := upTo_mono first m nx (i := 0) (j := i) (Nat.zero_le _)
  exact pre_get this rfl
/-- Pairs of few states are few. -/
theorem pairs_few {l : List (Nat × Nat)} {m n : Nat} (hd : l.Nodup) (h : ∀ p ∈ l, p.1 < m ∧ p.2 < n) : l.length ≤ m * n := by
  have h1 : (l.map fun p => p.1 * n + p.2).Nodup := by
    refine List.pairwise_map.2 (hd.imp_of_mem fun {p q} hp hq hne he => hne ?_)
    obtain ⟨p1, p2⟩ := p
    obtain ⟨q1, q2⟩ := q
    have a1 := (h _ hp).2
    have a2 := (h _ hq).2
    simp only at he a1 a2
    have b1 : p1 = q1 := by
      have := congrArg (· / n) he
      rw [Nat.mul_comm, Nat.mul_add_div (by omega), Nat.div_eq_of_lt a1, Nat.mul_comm q1, Nat.mul_add_div (by omega), Nat.div_eq_of_lt a2] at this
      omega
    subst b1
    rw [Prod.mk.injEq]
    exact ⟨rfl, by omega⟩
  have h2 := nodup_lt (m * n) _ h1 fun x hx => by
    obtain ⟨p, hp, rfl⟩ := List.mem_map.1 hx
    have := h p hp
    have h3 : (p.1 + 1) * n ≤ m * n := Nat.mul_le_mul_right n this.1
    rw [Nat.add_mul] at h3
    omega
  simpa using h2
end Auto
namespace Aut
open Auto
attribute [-go_sem] sliced
section
variable {a b : Au}
theorem cutsB_inc (a b : Au) : (cutsB a b).Pairwise (· < ·) := srtC_inc _
theorem cutsB_mem (a b : Au) (x : Int) : x ∈ cutsB a b ↔ x ∈ a.cuts ∨ x ∈ b.cuts := by unfold cutsB; rw [srtC_mem, List.mem_append]
theorem cutsB_rng (oa : Ok a) (ob : Ok b) : ∀ c ∈ cutsB a b, 0 ≤ c ∧ c ≤ 255 := fun c hc => by
  rcases (cutsB_mem a b c).1 hc with h | h
  · exact ⟨oa.nonneg c h, oa.top c h⟩
  · exact ⟨ob.nonneg c h, ob.top c h⟩
theorem both_good (oa : Ok a) (ob : Ok b) (i : Nat) : ∀ p ∈ (upTo (0, 0) (cutsB a b).length (bothNx a b (cutsB a b)) i).1, p.1 < a.next.length ∧ p.2 < b.next.length :=
  upTo_all (P := fun p : Nat × Nat => p.1 < a.next.length ∧ p.2 < b.next.length) ⟨oa.some_, ob.some_⟩ (fun p hp j hj =>
    ⟨oa.step hp.1 (cutsB_rng oa ob _ (gd_memA (d := 0) hj)).1, ob.step hp.2 (cutsB_rng oa ob _ (gd_memA (d := 0) hj)).1⟩) i
theorem both_few (oa : Ok a) (ob : Ok b) (hf : a.next.length * b.next.length ≤ 256) : (upTo (0, 0) (cutsB a b).length (bothNx a b (cutsB a b)) 256).1.length ≤ 256 :=
  Nat.le_trans (pairs_few (upTo_nodup _ _ _ 256) (both_good oa ob 256)) hf
theorem bothA_eq (oa : Ok a) (ob : Ok b) (hf : a.next.length * b.next.length ≤ 256) (o : Bool) : bothE a b = 0 ∧ bothA a b o = numA (cutsB a b) (upTo (0, 0) (cutsB a b).length (bothNx a b (cutsB a b)) 256) (accB a b o) := by
  have h : numb (0, 0) (cutsB a b).length (bothNx a b (cutsB a b)) = some (upTo (0, 0) (cutsB a b).length (bothNx a b (cutsB a b)) 256) := by unfold numb; rw [if_pos (both_few oa ob hf)]
  unfold bothE bothA
  rw [h, if_neg (by simp [oa.v]), if_neg (by simp [ob.v]), if_neg (by simp [oa.v]), if_neg (by simp [ob.v])]
  exact ⟨rfl, rfl⟩
theorem bothA_ok (oa : Ok a) (ob : Ok b) (hf : a.next.length * b.next.length ≤ 256) (o : Bool) : Ok (bothA a b o) := by
  rw [(bothA_eq oa ob hf o).2]
  have h1 := both_few oa ob hf
  have h2 := upTo_full h1
  have h3 : 0 < (upTo (0, 0) (cutsB a b).length (bothNx a b (cutsB a b)) 256).1.length := (List.getElem?_eq_some_iff.1 (upTo_head (0, 0) (cutsB a b).length (bothNx a b (cutsB a b)) 256)).1
  have h0 : (0 : Int) ∈ cutsB a b := (cutsB_mem a b 0).2 (.inl oa.mem0)
  refine ⟨by simp [numA]; omega, by simp [numA]; omega, by simp [numA]; omega, zero_head (cutsB_inc a b) h0 (fun c hc => (cutsB_rng oa ob c hc).1), cutsB_inc a b, fun c hc => (cutsB_rng oa ob c hc).2, fun l hl => ?_⟩
  simp only [numA, List.mem_map] at hl
  obtain ⟨r, hr, rfl⟩ := hl
  have h4 := upTo_rowlen (0, 0) (cutsB a b).length (bothNx a b (cutsB a b)) 256 r hr
  refine ⟨by rw [List.length_map]; exact h4, fun s hs => ?_⟩
  obtain ⟨n, hn, rfl⟩ := List.mem_map.1 hs
  refine ⟨Int.natCast_nonneg n, ?_⟩
  obtain ⟨i, hi, rfl⟩ := List.getElem_of_mem hr
  obtain ⟨j, hj, rfl⟩ := List.getElem_of_mem hn
  obtain ⟨st, h5, h6⟩ := upTo_ok (0, 0) (cutsB a b).length (bothNx a b (cutsB a b)) 256 i j hi (by omega)
  have h7 := (List.getElem?_eq_some_iff.1 h6).1
  rw [List.getD_eq_getElem?_getD, List.getD_eq_getElem?_getD, List.getElem?_eq_getElem hi, Option.getD_some, List.getElem?_eq_getElem hj, Option.getD_some] at h7
  simp only [numA, List.length_map, Int.ofNat_eq_natCast]
  omega
theorem both_acc (oa : Ok a) (ob : Ok b) (hf : a.next.length * b.next.length ≤ 256) (o : Bool) (s : ByteArray) : accN (bothA a b o) s = ((accN a s && accN b s) || (o && (accN a s || accN b s))) := by
  have hv := (bothA_ok oa ob hf o).v
  unfold accN
  rw [if_neg (by simp [hv]), if_neg (by simp [oa.v]), if_neg (by simp [ob.v]), (bothA_eq oa ob hf o).2]
  have h0 : (0 : Int) ∈ cutsB a b := (cutsB_mem a b 0).2 (.inl oa.mem0)
  have h1 := both_run (cutsB_inc a b) h0 (fun x hx => (cutsB_mem a b x).2 (.inl hx)) (fun x hx => (cutsB_mem a b x).2 (.inr hx)) (accB a b o) (both_few oa ob hf) (byt s) 0 0 0 (fun c hc => (byt_rng c hc).1) (upTo_head _ _ _ _)
  generalize upTo (0, 0) (cutsB a b).length (bothNx a b (cutsB a b)) 256 = Q at *
  generalize runA (numA (cutsB a b) Q (accB a b o)) 0 (byt s) = r at *
  rw [show (numA (cutsB a b) Q (accB a b o)).acc = Q.1.map (accB a b o) from rfl, List.getD_eq_getElem?_getD, List.getElem?_map, h1]
  rfl
theorem compA_ok (oa : Ok a) : Ok (compA a) ∧ (compA a).next.length = a.next.length := by
  have e : compA a = ⟨a.cuts, a.next, a.acc.map not⟩ := by unfold compA; rw [if_neg (by simp [oa.v])]
  rw [e]
  exact ⟨⟨oa.few, oa.some_, by simpa using oa.acc, oa.zero, oa.inc, oa.top, oa.rows⟩, rfl⟩
theorem comp_acc (oa : Ok a) (s : ByteArray) : accN (compA a) s = !accN a s := by
  have e : compA a = ⟨a.cuts, a.next, a.acc.map not⟩ := by unfold compA; rw [if_neg (by simp [oa.v])]
  have hv := (compA_ok oa).1.v
  unfold accN
  rw [if_neg (by simp [hv]), if_neg (by simp [oa.v])]
  have hr : runA (compA a) 0 (byt s) = runA a 0 (byt s) := by rw [e]; rfl
  have hl : runA a 0 (byt s) < a.acc.length := by rw [oa.acc]; exact oa.run _ oa.some_ (fun c hc => (byt_rng c hc).1)
  rw [hr, e]
  show (List.map not a.acc).getD _ false = _
  rw [List.getD_eq_getElem?_getD, List.getD_eq_getElem?_getD, List.getElem?_map, List.getElem?_eq_getElem hl]
  rfl
end
/-! ### The walk -/
section
variable {w w' : World} {v v2 v3 : Value}
set_option maxRecDepth 100000 in
set_option maxHeartbeats 16000000 in
theorem AutoSets_calls {l m ws : List Int} (hl : SL w 1 v l.length (ints l)) (hlx : ∀ x ∈ l, IsI64 x) (hm : SL w 1 v2 m.length (ints m)) (hmx : ∀ x ∈ m, IsI64 x) (hw : SL w 1 v3 ws.length (ints ws)) (hwx : ∀ x ∈ ws, IsI64 x) :
    Calls Tryz.prog 8 #[v, v2, v3] w fun e w' => e = .returned (.bool true) ∧ Upd [] w w' := by
  have HM1 := Lib.hid (Made_calls hlx hl)
  have HM2 := Lib.hid (fun (w5 : World) (u5 : Upd [] w w5) => Made_calls hmx (hm.upd u5 (by simp)))
  have OA := Lib.hid (madeA_ok l)
  have OB := Lib.hid (madeA_ok m)
  have HFW := Lib.hid (show (madeA l).next.length * (madeA m).next.length ≤ 256 from Nat.le_trans (Nat.mul_le_mul (madeA_few l) (madeA_few m)) (by decide))
  obtain ⟨aw, capw, rfl, qw1, qw2, hcw⟩ := hw.elems
  have HW := Lib.hid (And.intro hcw hwx)
  clear hl hlx hm hmx hw hwx hcw
  generalize madeA l = a at *
  generalize madeA m = b at *
  go_enter Tryz.func8, Tryz.ntmps8
  go_upto_region 2 with (first | ((with_reducible refine HM1.out.mono ?_); rintro e w1 ⟨v1, rfl, hA, u1⟩; have HO := Lib.hid (own_calls hA); have HU1 := Lib.hid u1; clear hA u1) | ((with_reducible refine HO.out.mono ?_); rintro e w2 ⟨v2, rfl, hA, u2⟩; obtain ⟨ap1, ac1, ap2, ac2, ap3, ac3, rfl, hF⟩ := hA.shape; have Ha := Lib.hid (And.intro hF (HU1.out.step u2)); clear hA hF u2))
  change Code.wp _ _ _ _ (w2.alloc (.cells #[.slice ap1 a.cuts.length ac1, .slice ap2 a.next.length ac2, .slice ap3 a.acc.length ac3] 31))
  have bX := Blk.new w2 [.slice ap1 a.cuts.length ac1, .slice ap2 a.next.length ac2, .slice ap3 a.acc.length ac3] 31
  have uX := (Upd.refl [] w2).alloc (.cells #[.slice ap1 a.cuts.length ac1, .slice ap2 a.next.length ac2, .slice ap3 a.acc.length ac3] 31)
  change Blk (w2.alloc (.cells #[.slice ap1 a.cuts.length ac1, .slice ap2 a.next.length ac2, .slice ap3 a.acc.length ac3] 31)) _ _ _ at bX
  generalize (w2.alloc (.cells #[.slice ap1 a.cuts.length ac1, .slice ap2 a.next.length ac2, .slice ap3 a.acc.length ac3] 31)) = wa at *
  generalize w2.heap.size = xa at *
  have HBa := Lib.hid bX
  have HUa := Lib.hid (Ha.out.2.step uX)
  have HFa := Lib.hid (Ha.out.1.ext uX)
  clear bX uX
  have HMB := Lib.hid (HM2.out _ HUa.out)
  clear HO HU1
  go_upto_region 3 with (first | ((with_reducible refine HMB.out.mono ?_); rintro e w1 ⟨v1, rfl, hA, u1⟩; have HO := Lib.hid (own_calls hA); have HU1 := Lib.hid (HUa.out.step u1); have HUab := Lib.hid u1; clear hA u1) | ((with_reducible refine HO.out.mono ?_); rintro e w2 ⟨v2, rfl, hA, u2⟩; obtain ⟨bp1, bc1, bp2, bc2, bp3, bc3, rfl, hF⟩ := hA.shape; have Hb := Lib.hid (And.intro hF (HU1.out.step u2)); have HUac := Lib.hid (HUab.out.step u2); clear hA hF u2))
  have uY := (Upd.refl [] w2).alloc (.cells #[.slice bp1 b.cuts.length bc1, .slice bp2 b.next.length bc2, .slice bp3 b.acc.length bc3] 31)
  have HUad := HUac.out.step uY
  clear uY
  change Code.wp _ _ _ _ (w2.alloc (.cells #[.slice bp1 b.cuts.length bc1, .slice bp2 b.next.length bc2, .slice bp3 b.acc.length bc3] 31))
  have bX := Blk.new w2 [.slice bp1 b.cuts.length bc1, .slice bp2 b.next.length bc2, .slice bp3 b.acc.length bc3] 31
  have uX := (Upd.refl [] w2).alloc (.cells #[.slice bp1 b.cuts.length bc1, .slice bp2 b.next.length bc2, .slice bp3 b.acc.length bc3] 31)
  change Blk (w2.alloc (.cells #[.slice bp1 b.cuts.length bc1, .slice bp2 b.next.length bc2, .slice bp3 b.acc.length bc3] 31)) _ _ _ at bX
  generalize (w2.alloc (.cells #[.slice bp1 b.cuts.length bc1, .slice bp2 b.next.length bc2, .slice bp3 b.acc.length bc3] 31)) = wb at *
  generalize w2.heap.size = xb at *
  have HBb := Lib.hid bX
  have HUb := Lib.hid (Hb.out.2.step uX)
  have HFb := Lib.hid (Hb.out.1.ext uX)
  clear bX uX
  have HUab := Lib.hid HUad
  clear HUad
  have HCc := Lib.hid (Both_calls (a := a) (b := b) false (v := .agg #[.slice ap1 a.cuts.length ac1, .slice ap2 a.next.length ac2, .slice ap3 a.acc.length ac3]) (v2 := .agg #[.slice bp1 b.cuts.length bc1, .slice bp2 b.next.length bc2, .slice bp3 b.acc.length bc3]) (w := wb) ⟨_, rfl, HFa.out.ext HUab.out⟩ ⟨_, rfl, HFb.out.ext (Upd.refl [] wb)⟩)
  rw [(bothA_eq OA.out OB.out HFW.out false).1] at HCc
  have OKc := Lib.hid (bothA_ok OA.out OB.out HFW.out false)
  have ACc := Lib.hid (both_acc OA.out OB.out HFW.out false)
  generalize bothA a b false = yc at *
  have bX := HBa.out.upd HUab.out (by simp)
  have aq0 := bX.cell (i := 0) rfl
  have aq1 := bX.cell (i := 1) rfl
  have aq2 := bX.cell (i := 2) rfl
  clear bX
  have bX := HBb.out.upd (Upd.refl [] wb) (by simp)
  have bq0 := bX.cell (i := 0) rfl
  have bq1 := bX.cell (i := 1) rfl
  have bq2 := bX.cell (i := 2) rfl
  clear bX
  go_upto_region 4 with ((with_reducible refine HCc.out.mono ?_); rintro e w2 ⟨v2, rfl, hA, u2⟩; obtain ⟨cp1, cc1, cp2, cc2, cp3, cc3, rfl, hF⟩ := hA.shape; have Hc := Lib.hid (And.intro hF (HUb.out.step u2)); have HUs := Lib.hid u2; clear hA hF u2)
  have uY := (Upd.refl [] w2).alloc (.cells #[.slice cp1 yc.cuts.length cc1, .slice cp2 yc.next.length cc2, .slice cp3 yc.acc.length cc3] 31)
  have HSt := HUs.out.step uY
  clear uY aq0 aq1 aq2 bq0 bq1 bq2
  change Code.wp _ _ _ _ (w2.alloc (.cells #[.slice cp1 yc.cuts.length cc1, .slice cp2 yc.next.length cc2, .slice cp3 yc.acc.length cc3] 31))
  have bX := Blk.new w2 [.slice cp1 yc.cuts.length cc1, .slice cp2 yc.next.length cc2, .slice cp3 yc.acc.length cc3] 31
  have uX := (Upd.refl [] w2).alloc (.cells #[.slice cp1 yc.cuts.length cc1, .slice cp2 yc.next.length cc2, .slice cp3 yc.acc.length cc3] 31)
  change Blk (w2.alloc (.cells #[.slice cp1 yc.cuts.length cc1, .slice cp2 yc.next.length cc2, .slice cp3 yc.acc.length cc3] 31)) _ _ _ at bX
  generalize (w2.alloc (.cells #[.slice cp1 yc.cuts.length cc1, .slice cp2 yc.next.length cc2, .slice cp3 yc.acc.length cc3] 31)) = wc at *
  generalize w2.heap.size = xc at *
  have HBc := Lib.hid bX
  have HUc := Lib.hid (Hc.out.2.step uX)
  have HFc := Lib.hid (Hc.out.1.ext uX)
  clear bX uX
  have HSc := Lib.hid HSt
  clear HSt HCc HUs
  have HCd := Lib.hid (Both_calls (a := a) (b := b) true (v := .agg #[.slice ap1 a.cuts.length ac1, .slice ap2 a.next.length ac2, .slice ap3 a.acc.length ac3]) (v2 := .agg #[.slice bp1 b.cuts.length bc1, .slice bp2 b.next.length bc2, .slice bp3 b.acc.length bc3]) (w := wc) ⟨_, rfl, HFa.out.ext (HUab.out.step HSc.out)⟩ ⟨_, rfl, HFb.out.ext HSc.out⟩)
  rw [(bothA_eq OA.out OB.out HFW.out true).1] at HCd
  have OKd := Lib.hid (bothA_ok OA.out OB.out HFW.out true)
  have ACd := Lib.hid (both_acc OA.out OB.out HFW.out true)
  generalize bothA a b true = yd at *
  have bX := HBa.out.upd (HUab.out.step HSc.out) (by simp)
  have aq0 := bX.cell (i := 0) rfl
  have aq1 := bX.cell (i := 1) rfl
  have aq2 := bX.cell (i := 2) rfl
  clear bX
  have bX := HBb.out.upd HSc.out (by simp)
  have bq0 := bX.cell (i := 0) rfl
  have bq1 := bX.cell (i := 1) rfl
  have bq2 := bX.cell (i := 2) rfl
  clear bX
  go_upto_region 5 with ((with_reducible refine HCd.out.mono ?_); rintro e w2 ⟨v2, rfl, hA, u2⟩; obtain ⟨dp1, dc1, dp2, dc2, dp3, dc3, rfl, hF⟩ := hA.shape; have Hd := Lib.hid (And.intro hF (HUc.out.step u2)); have HUs := Lib.hid u2; clear hA hF u2)
  have uY := (Upd.refl [] w2).alloc (.cells #[.slice dp1 yd.cuts.length dc1, .slice dp2 yd.next.length dc2, .slice dp3 yd.acc.length dc3] 31)
  have HSt := HUs.out.step uY
  clear uY aq0 aq1 aq2 bq0 bq1 bq2
  change Code.wp _ _ _ _ (w2.alloc (.cells #[.slice dp1 yd.cuts.length dc1, .slice dp2 yd.next.length dc2, .slice dp3 yd.acc.length dc3] 31))
  have bX := Blk.new w2 [.slice dp1 yd.cuts.length dc1, .slice dp2 yd.next.length dc2, .slice dp3 yd.acc.length dc3] 31
  have uX := (Upd.refl [] w2).alloc (.cells #[.slice dp1 yd.cuts.length dc1, .slice dp2 yd.next.length dc2, .slice dp3 yd.acc.length dc3] 31)
  change Blk (w2.alloc (.cells #[.slice dp1 yd.cuts.length dc1, .slice dp2 yd.next.length dc2, .slice dp3 yd.acc.length dc3] 31)) _ _ _ at bX
  generalize (w2.alloc (.cells #[.slice dp1 yd.cuts.length dc1, .slice dp2 yd.next.length dc2, .slice dp3 yd.acc.length dc3] 31)) = wd at *
  generalize w2.heap.size = xd at *
  have HBd := Lib.hid bX
  have HUd := Lib.hid (Hd.out.2.step uX)
  have HFd := Lib.hid (Hd.out.1.ext uX)
  clear bX uX
  have HSd := Lib.hid HSt
  clear HSt HCd HUs
  have HCe := Lib.hid (Complement_calls (a := a) (v := .agg #[.slice ap1 a.cuts.length ac1, .slice ap2 a.next.length ac2, .slice ap3 a.acc.length ac3]) (w := wd) ⟨_, rfl, HFa.out.ext ((HUab.out.step HSc.out).step HSd.out)⟩)
  rw [OA.out.v] at HCe
  have OKe := Lib.hid (compA_ok OA.out).1
  have ACe := Lib.hid (comp_acc OA.out)
  generalize compA a = ye at *
  have bX := HBa.out.upd ((HUab.out.step HSc.out).step HSd.out) (by simp)
  have aq0 := bX.cell (i := 0) rfl
  have aq1 := bX.cell (i := 1) rfl
  have aq2 := bX.cell (i := 2) rfl
  clear bX
  go_upto_region 6 with ((with_reducible refine HCe.out.mono ?_); rintro e w2 ⟨v2, rfl, hA, u2⟩; obtain ⟨ep1, ec1, ep2, ec2, ep3, ec3, rfl, hF⟩ := hA.shape; have He := Lib.hid (And.intro hF (HUd.out.step u2)); have HUs := Lib.hid u2; clear hA hF u2)
  have uY := (Upd.refl [] w2).alloc (.cells #[.slice ep1 ye.cuts.length ec1, .slice ep2 ye.next.length ec2, .slice ep3 ye.acc.length ec3] 31)
  have HSt := HUs.out.step uY
  clear uY aq0 aq1 aq2
  change Code.wp _ _ _ _ (w2.alloc (.cells #[.slice ep1 ye.cuts.length ec1, .slice ep2 ye.next.length ec2, .slice ep3 ye.acc.length ec3] 31))
  have bX := Blk.new w2 [.slice ep1 ye.cuts.length ec1, .slice ep2 ye.next.length ec2, .slice ep3 ye.acc.length ec3] 31
  have uX := (Upd.refl [] w2).alloc (.cells #[.slice ep1 ye.cuts.length ec1, .slice ep2 ye.next.length ec2, .slice ep3 ye.acc.length ec3] 31)
  change Blk (w2.alloc (.cells #[.slice ep1 ye.cuts.length ec1, .slice ep2 ye.next.length ec2, .slice ep3 ye.acc.length ec3] 31)) _ _ _ at bX
  generalize (w2.alloc (.cells #[.slice ep1 ye.cuts.length ec1, .slice ep2 ye.next.length ec2, .slice ep3 ye.acc.length ec3] 31)) = we at *
  generalize w2.heap.size = xe at *
  have HBe := Lib.hid bX
  have HUe := Lib.hid (He.out.2.step uX)
  have HFe := Lib.hid (He.out.1.ext uX)
  clear bX uX
  have HSe := Lib.hid HSt
  clear HSt HCe HUs
  go_upto_region 8 with fail
  have HUea := Lib.hid (((HUab.out.step HSc.out).step HSd.out).step HSe.out)
  have HUeb := Lib.hid ((HSc.out.step HSd.out).step HSe.out)
  have HUec := Lib.hid (HSd.out.step HSe.out)
  have HUed := Lib.hid HSe.out
  have HUee := Lib.hid (Upd.refl [] we)
  go_wp2_with fail
  go_loopw [15] (fun kv wr => ∃ i : Nat, kv = .int .i64 i ∧ i ≤ ws.length ∧ i ≤ 12 ∧ Hid (Upd [] we wr)) (fun kv _ => 12 - (intOf kv).toNat)
  case atStart => exact ⟨0, rfl, Nat.zero_le _, by omega, Lib.hid (Upd.refl _ _)⟩
  case round =>
    obtain ⟨i, rfl, hi, hi2, HI⟩ := hrel
    by_cases h1 : i < ws.length
    · have h1i : (i : Int) < ws.length := by omega
      by_cases h2 : i < 12
      · have h2i : (i : Int) < 12 := by omega
        obtain ⟨g, off, rfl, hcc⟩ := HW.out.1 (by omega)
        have hU := HUe.out.step HI.out
        have hci := hU.some (hcc i _ (ints_gd h1)) (by simp)
        have hxi := HW.out.2 _ (gd_memA (d := 0) h1)
        generalize ws.getD i 0 = x at *
        have HWO := Lib.hid (Word_calls (w := wr) x hxi)
        clear hcc hU hxi
        go_upto_region 12 with ((with_reducible refine HWO.out.mono ?_); rintro e w12 ⟨s, rfl, hsz, u12⟩; have HSZ := Lib.hid hsz; have HU12 := Lib.hid (HI.out.step u12); clear hsz u12)
        have hTm := Accepts_calls (w := w12) (a := a) (v := .agg #[.slice ap1 a.cuts.length ac1, .slice ap2 a.next.length ac2, .slice ap3 a.acc.length ac3]) ⟨_, rfl, HFa.out.ext (HUea.out.step HU12.out)⟩ s (by have := HSZ.out; omega)
        rw [OA.out.v] at hTm
        have HAa := Lib.hid hTm
        clear hTm
        have bX := HBa.out.upd (HUea.out.step HU12.out) (by simp)
        have aq0 := bX.cell (i := 0) rfl
        have aq1 := bX.cell (i := 1) rfl
        have aq2 := bX.cell (i := 2) rfl
        clear bX
        go_upto_region 13 with ((with_reducible refine HAa.out.mono ?_); rintro e w13 ⟨rfl, u5⟩; have HU13 := Lib.hid (HU12.out.step u5); clear u5)
        clear aq0 aq1 aq2
        have hTm := Accepts_calls (w := w13) (a := b) (v := .agg #[.slice bp1 b.cuts.length bc1, .slice bp2 b.next.length bc2, .slice bp3 b.acc.length bc3]) ⟨_, rfl, HFb.out.ext (HUeb.out.step HU13.out)⟩ s (by have := HSZ.out; omega)
        rw [OB.out.v] at hTm
        have HAb := Lib.hid hTm
        clear hTm
        have bX := HBb.out.upd (HUeb.out.step HU13.out) (by simp)
        have bq0 := bX.cell (i := 0) rfl
        have bq1 := bX.cell (i := 1) rfl
        have bq2 := bX.cell (i := 2) rfl
        clear bX
        go_upto_region 14 with ((with_reducible refine HAb.out.mono ?_); rintro e w14 ⟨rfl, u5⟩; have HU14 := Lib.hid (HU13.out.step u5); clear u5)
        clear bq0 bq1 bq2
        have hTm := Accepts_calls (w := w14) (a := yc) (v := .agg #[.slice cp1 yc.cuts.length cc1, .slice cp2 yc.next.length cc2, .slice cp3 yc.acc.length cc3]) ⟨_, rfl, HFc.out.ext (HUec.out.step HU14.out)⟩ s (by have := HSZ.out; omega)
        rw [OKc.out.v] at hTm
        rw [ACc.out s] at hTm
        have HAc := Lib.hid hTm
        clear hTm
        have bX := HBc.out.upd (HUec.out.step HU14.out) (by simp)
        have cq0 := bX.cell (i := 0) rfl
        have cq1 := bX.cell (i := 1) rfl
        have cq2 := bX.cell (i := 2) rfl
        clear bX
        go_upto_region 15 with ((with_reducible refine HAc.out.mono ?_); rintro e w15 ⟨rfl, u5⟩; have HU15 := Lib.hid (HU14.out.step u5); clear u5)
        clear cq0 cq1 cq2
        have hTm := Accepts_calls (w := w15) (a := yd) (v := .agg #[.slice dp1 yd.cuts.length dc1, .slice dp2 yd.next.length dc2, .slice dp3 yd.acc.length dc3]) ⟨_, rfl, HFd.out.ext (HUed.out.step HU15.out)⟩ s (by have := HSZ.out; omega)
        rw [OKd.out.v] at hTm
        rw [ACd.out s] at hTm
        have HAd := Lib.hid hTm
        clear hTm
        have bX := HBd.out.upd (HUed.out.step HU15.out) (by simp)
        have dq0 := bX.cell (i := 0) rfl
        have dq1 := bX.cell (i := 1) rfl
        have dq2 := bX.cell (i := 2) rfl
        clear bX
        go_upto_region 16 with ((with_reducible refine HAd.out.mono ?_); rintro e w16 ⟨rfl, u5⟩; have HU16 := Lib.hid (HU15.out.step u5); clear u5)
        clear dq0 dq1 dq2
        have hTm := Accepts_calls (w := w16) (a := ye) (v := .agg #[.slice ep1 ye.cuts.length ec1, .slice ep2 ye.next.length ec2, .slice ep3 ye.acc.length ec3]) ⟨_, rfl, HFe.out.ext (HUee.out.step HU16.out)⟩ s (by have := HSZ.out; omega)
        rw [OKe.out.v] at hTm
        rw [ACe.out s] at hTm
        have HAe := Lib.hid hTm
        clear hTm
        have bX := HBe.out.upd (HUee.out.step HU16.out) (by simp)
        have eq0 := bX.cell (i := 0) rfl
        have eq1 := bX.cell (i := 1) rfl
        have eq2 := bX.cell (i := 2) rfl
        clear bX
        go_upto_region 17 with ((with_reducible refine HAe.out.mono ?_); rintro e w17 ⟨rfl, u5⟩; have HU17 := Lib.hid (HU16.out.step u5); clear u5)
        clear eq0 eq1 eq2
        generalize accN a s = xx at *
        generalize accN b s = yy at *
        cases xx <;> cases yy
        all_goals
          go_wp2_with fail
          exact ⟨⟨i + 1, by go_num, by omega, by omega, HU17⟩, by simp [intOf]; omega⟩
      · have h2i : ¬ ((i : Int) < 12) := by omega
        go_wp2_with (go_at_call 18; refine lives_calls.mono ?_; rintro e w14 ⟨rfl, u14⟩)
        go_ret
        exact ⟨rfl, (HUe.out.step HI.out).step u14⟩
    · have h1i : ¬ ((i : Int) < ws.length) := by omega
      go_wp2_with (go_at_call 18; refine lives_calls.mono ?_; rintro e w14 ⟨rfl, u14⟩)
      go_ret
      exact ⟨rfl, (HUe.out.step HI.out).step u14⟩
end
end Aut
end Go.Proofs.YtjclbjdkkdijbaaGreat
