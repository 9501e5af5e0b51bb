/- The merger in memory. Conditions: none. -/
import Derived.Test.YtnmfihgdedifoaaTrimMP
import Derived.Test.YtnmfihgdedifoaaTrimR
import Derived.Test.YtnmfihgdedifoaaMapS
import Derived.Laws.BytesArg
set_option linter.unusedVariables false
set_option linter.unusedSimpArgs false
set_option linter.unusedSectionVars false
open Go.RowKit
namespace Go.Proofs.Ytnmfihgdedifoaa
open L R01
namespace Trim
section
variable {P : Program} {k e : TypeId} {w w' : World} {ops : Array Oper} {rest : List Oper} {o : Oper} {a : Act} {Q : Exit → Act → World → Prop}
theorem wpList_mslook_ok {t : TypeId} (hk : P.underlying k = some .string) (ht : P.underlying t = some (.map k e)) {z : Value} {size bytes : Nat}
    (hinfo : (P.info? e).map (fun i => (i.zero, i.size, i.bytes)) = some (some z, size, bytes)) (m x : Operand) (hop : o.op = Op.lookup t m x true) (hg : o.guard = none)
    (b n : Nat) (f : List UInt8 → Option Value) (key : ByteArray) (hm : a.eval m = .map (some b)) (hx : a.eval x = .string key) (h : MS P k w b n f) (hi : key.size ≤ maxLen)
    (hK : wpList P ops Q rest (a.put o.dst (.tuple #[(f key.data.toList).getD z, .bool (f key.data.toList).isSome])) w) : wpList P ops Q (o :: rest) a w := by
  refine wpList_plain hg fun K' hK' => ?_
  have hrun := MS.look_ok h hk ht hinfo hi
  unfold Oper.wp
  simp [execOp, hop, hm, hx, hrun, Result.andThen]
  exact hK' _ _ hK
theorem strOf_bcs (ys : List UInt8) : strOfNums (ys.map fun b => (b.toNat : Int)) = ⟨ys.toArray⟩ := by
  unfold strOfNums
  congr 2
  rw [List.map_map]
  conv => rhs; rw [← List.map_id ys]
  refine List.map_congr_left (fun b _ => ?_)
  simp
theorem wpList_bstr {src dst e : TypeId} (hs : P.underlying src = some (.slice e)) (he : P.underlying e = some (.int .u8)) (hd : P.underlying dst = some .string) (x : Operand) (hop : o.op = Op.convert src dst x) (hg : o.guard = none)
    (v : Value) (ys : List UInt8) (hx : a.eval x = v) (h : w.ownsRow 0 e 1 v ys.length (bcs ys)) (hK : wpList P ops Q rest (a.put o.dst (.string ⟨ys.toArray⟩)) w) : wpList P ops Q (o :: rest) a w := by
  have hrun : (convert src dst v).run P w = .ok (.string ⟨ys.toArray⟩) w := by
    rcases h.2 with ⟨rfl, h0⟩ | ⟨g, cap, cur, rfl, _, hgc, hnc, hcm, hcs, htake⟩
    · have : ys = [] := List.eq_nil_of_length_eq_zero h0
      subst this
      exact run_convert_bytes_nil w src e hs he _ _ _ hd
    · have hcell := (SL.of_owns h).val
      obtain ⟨a', c', he', _, _, _, hcc⟩ := hcell
      cases he'
      rw [← strOf_bcs]
      refine run_convert_bytes_arg w src e hs he g 0 ys.length cap (ys.map fun b => (b.toNat : Int)) (by simp) (fun i hi => ?_) _ hd
      rcases hcc with hz | ⟨b', off, hb, hcc⟩
      · omega
      · cases hb
        refine hcc i _ ?_
        simp [bcs, List.getElem?_eq_getElem hi, List.getD_eq_getElem?_getD]
  refine wpList_plain hg fun K' hK' => ?_
  unfold Oper.wp
  simp [execOp, hop, hx, hrun, Result.andThen]
  exact hK' _ _ hK
end
theorem ms_kind {P : Program} {k e : TypeId} {w : World} {b n : Nat} {f : List UInt8 → Option Value} (h : MS P k w b n f) : ¬ Kind w b e := by
  obtain ⟨D, ⟨es, clock, h1, _⟩, _⟩ := h
  rintro ⟨c, q, h2⟩
  rw [h1] at h2
  cases h2
theorem LmQ.upd2 {w W W' : World} {v : Value} {L : List LemD} {T : List Nat} (h : LmQ w v L W) (hT : ∀ b ∈ T, v.ownBlock ≠ some b) (u : Upd T W W') : LmQ w v L W' := by
  obtain ⟨f, h1, h2, h3, h4⟩ := h
  exact ⟨f, ownsRow_updL h1 u hT, h2, h3, h4⟩
theorem SE.upd2 {gS : Nat} {W W' : World} {s : StepD} {cs : List Value} {T : List Nat} (h : SE gS W s cs) (hT : ∀ b ∈ T, b = gS ∨ ¬ Kind W b 3) (u : Upd T W W') : SE gS W' s cs := by
  obtain ⟨vp, vl, vh, rfl, ⟨f1, f2, f3, f4⟩, h1, h2, h3⟩ := h
  have key : ∀ {v : Value} {xs : List Int}, RowI W v xs → v.ownBlock ≠ some gS → RowI W' v xs := fun hr hn => hr.upd u (fun b hb hv => by
    rcases hT b hb with rfl | hk
    · exact hn hv
    · exact hk (row_kind hr hv))
  exact ⟨vp, vl, vh, rfl, ⟨key f1 h1, key f2 h2, key f3 h3, f4⟩, h1, h2, h3⟩
theorem StQ.upd2 {w W W' : World} {gS : Nat} {v : Value} {S : List StepD} {T : List Nat} (h : StQ w gS v S W) (hT : ∀ b ∈ T, b = gS ∨ ¬ Kind W b 3) (hT2 : ∀ b ∈ T, v.ownBlock ≠ some b) (u : Upd T W W') : StQ w gS v S W' := by
  obtain ⟨f, h1, h2, h3, h4⟩ := h
  exact ⟨f, ownsRow_updL h1 u hT2, h2, fun i s hs => (h3 i s hs).upd2 hT u, h4⟩
theorem StQ.gs {w W : World} {gS g : Nat} {v : Value} {S : List StepD} (h : StQ w gS v S W) (hg : W.heap.size ≤ g) : StQ w g v S W := by
  obtain ⟨f, h1, h2, h3, h4⟩ := h
  refine ⟨f, h1, h2, fun i s hs => ?_, h4⟩
  obtain ⟨vp, vl, vh, e, ⟨f1, f2, f3, f4⟩, _⟩ := h3 i s hs
  exact ⟨vp, vl, vh, e, ⟨f1, f2, f3, f4⟩, fun h => by have := f1.lt _ h; omega, fun h => by have := f2.lt _ h; omega, fun h => by have := f3.lt _ h; omega⟩
theorem stQ_nil (w W : World) (gS : Nat) : StQ w gS (.slice none 0 0) [] W := ⟨fun _ => [undef, undef, undef, undef, undef, undef, undef], World.ownsRow_nil _ _ _ _, fun _ => rfl, fun i d hd => by simp at hd, by simp [Value.ownBlock]⟩
theorem lmQ_nil (w W : World) : LmQ w (.slice none 0 0) [] W := ⟨fun _ => [undef, undef, undef, undef], World.ownsRow_nil _ _ _ _, fun _ => rfl, fun i d hd => by simp at hd, by simp [Value.ownBlock]⟩
/-- The merger: its box, its two lists, its two maps. -/
structure Mg (w0 : World) (mb b1 b2 gS : Nat) (L L1 : List LemD) (T T1 : List StepD) (vL vS : Value) (W : World) : Prop where
  box : Blk W mb [vL, vS, .map (some b1), .map (some b2)] 91
  lm : LmQ w0 vL L W
  st : StQ w0 gS vS T W
  m1 : MS Try.prog 9 W b1 L1.length (fE lmE L1)
  m2 : MS Try.prog 9 W b2 T1.length (fE stE T1)
  fr : w0.heap.size ≤ mb ∧ w0.heap.size ≤ b1 ∧ w0.heap.size ≤ b2 ∧ b1 ≠ b2
  u : Upd [] w0 W
section
variable {w0 W W' : World} {mb b1 b2 gS : Nat} {L L1 : List LemD} {T T1 : List StepD} {vL vS : Value}
theorem Mg.upd {S : List Nat} (h : Mg w0 mb b1 b2 gS L L1 T T1 vL vS W) (u : Upd S W W') (h0 : ∀ b ∈ S, w0.heap.size ≤ b) (h1 : mb ∉ S) (h2 : b1 ∉ S) (h3 : b2 ∉ S) (hl : ∀ b ∈ S, vL.ownBlock ≠ some b) (hs : ∀ b ∈ S, vS.ownBlock ≠ some b) (hI : ∀ b ∈ S, b = gS ∨ ¬ Kind W b 3) : Mg w0 mb b1 b2 gS L L1 T T1 vL vS W' :=
  ⟨h.box.upd u h1, h.lm.upd2 hl u, h.st.upd2 hI hs u, h.m1.upd u h2, h.m2.upd u h3, h.fr, h.u.fresh u (fun b hb => .inr (h0 b hb))⟩
theorem Mg.ext (h : Mg w0 mb b1 b2 gS L L1 T T1 vL vS W) (u : Upd [] W W') : Mg w0 mb b1 b2 gS L L1 T T1 vL vS W' := h.upd u (by simp) (by simp) (by simp) (by simp) (by simp) (by simp) (by simp)
theorem Mg.gs {g : Nat} (h : Mg w0 mb b1 b2 gS L L1 T T1 vL vS W) (hg : W.heap.size ≤ g) : Mg w0 mb b1 b2 g L L1 T T1 vL vS W := ⟨h.box, h.lm, h.st.gs hg, h.m1, h.m2, h.fr, h.u⟩
theorem Mg.rowL (h : Mg w0 mb b1 b2 gS L L1 T T1 vL vS W) {g : Nat} (hg : vL.ownBlock = some g) : Kind W g 82 := by
  obtain ⟨f, h1, _⟩ := h.lm
  exact row_kind h1 hg
theorem Mg.rowS (h : Mg w0 mb b1 b2 gS L L1 T T1 vL vS W) {g : Nat} (hg : vS.ownBlock = some g) : Kind W g 56 := by
  obtain ⟨f, h1, _⟩ := h.st
  exact row_kind h1 hg
/-- A store into the table of numbers. -/
theorem Mg.num {cs : List Value} (h : Mg w0 mb b1 b2 gS L L1 T T1 vL vS W) (hB : Blk W gS cs 3) (hg : w0.heap.size ≤ gS) (u : Upd [gS] W W') : Mg w0 mb b1 b2 gS L L1 T T1 vL vS W' := by
  have hk := blk_kind hB
  refine h.upd u (by simpa using hg) (fun hm => ?_) (fun hm => ?_) (fun hm => ?_) (fun b hb hv => ?_) (fun b hb hv => ?_) (fun b hb => .inl (by simpa using hb))
  · simp at hm; subst hm; exact absurd (hk.inj (blk_kind h.box)) (by decide)
  · simp at hm; subst hm; exact ms_kind h.m1 hk
  · simp at hm; subst hm; exact ms_kind h.m2 hk
  · simp at hb; subst hb; exact absurd (hk.inj (h.rowL hv)) (by decide)
  · simp at hb; subst hb; exact absurd (hk.inj (h.rowS hv)) (by decide)
/-- A lemma more in the list. -/
theorem Mg.lem {d : LemD} {cs : List Value} {vL' : Value} {f : Nat → List Value} {W1 : World} (h : Mg w0 mb b1 b2 gS L L1 T T1 vL vS W) (hf2 : ∀ i, (f i).length = 4) (hf3 : ∀ (i : Nat) (s : LemD), L[i]? = some s → LmR w0 s (f i)) (hd : LmR w0 d cs) (hcs : cs.length = 4)
    (o : W1.ownsRow 0 82 4 vL' (L.length + 1) (rows L.length f ++ cs)) (u7 : Upd vL.ownBlock.toList W W1) (k7 : ∀ g, vL'.ownBlock = some g → vL.ownBlock = some g ∨ W.heap.size ≤ g) :
    Blk W1 mb [vL, vS, .map (some b1), .map (some b2)] 91 ∧ Mg w0 mb b1 b2 gS (L ++ [d]) L1 T T1 vL' vS (W1.setCell ⟨mb, 0, none⟩ vL') := by
  have hz := h.u.size
  have hfr : ∀ g, vL.ownBlock = some g → w0.heap.size ≤ g := by obtain ⟨_, _, _, _, h4⟩ := h.lm; exact h4
  have hb : ∀ b ∈ vL.ownBlock.toList, Kind W b 82 := fun b hb => h.rowL (by simpa using hb)
  have B1 : Blk W1 mb [vL, vS, .map (some b1), .map (some b2)] 91 := h.box.upd u7 (fun hm => absurd ((hb _ hm).inj (blk_kind h.box)) (by decide))
  have us : Upd [mb] W1 (W1.setCell ⟨mb, 0, none⟩ vL') := (Upd.refl _ W1).set (.inl (by simp)) _
  have s1 : StQ w0 gS vS T W1 := h.st.upd2 (fun b hb' => .inr (fun hk => absurd (hk.inj (hb b hb')) (by decide))) (fun b hb' hv => absurd ((h.rowS hv).inj (hb b hb')) (by decide)) u7
  have n1 : MS Try.prog 9 W1 b1 L1.length (fE lmE L1) := h.m1.upd u7 (fun hm => ms_kind h.m1 (hb _ hm))
  have n2 : MS Try.prog 9 W1 b2 T1.length (fE stE T1) := h.m2.upd u7 (fun hm => ms_kind h.m2 (hb _ hm))
  have l1 : LmQ w0 vL' (L ++ [d]) W1 := lmQ_push hf2 hf3 hd hcs o (fun g hg => by
    rcases k7 g hg with h1 | h1
    · exact hfr g h1
    · omega)
  have hmk := blk_kind B1
  refine ⟨B1, B1.set 0 vL', l1.upd2 (fun b hb' hv => ?_) us, s1.upd2 (fun b hb' => .inr (fun hk => ?_)) (fun b hb' hv => ?_) us, n1.upd us (fun hm => ?_), n2.upd us (fun hm => ?_), h.fr, (h.u.fresh u7 (fun b hb' => .inr (hfr b (by simpa using hb')))).fresh us (fun b hb' => .inr (by simp at hb'; subst hb'; exact h.fr.1))⟩
  · simp at hb'; subst hb'
    exact absurd ((row_kind o hv).inj hmk) (by decide)
  · simp at hb'; subst hb'; exact absurd (hk.inj hmk) (by decide)
  · simp at hb'; subst hb'
    obtain ⟨f', h1, _⟩ := s1
    exact absurd ((row_kind h1 hv).inj hmk) (by decide)
  · simp at hm; subst hm; exact ms_kind n1 hmk
  · simp at hm; subst hm; exact ms_kind n2 hmk
/-- A step more in the list. -/
theorem Mg.stp {d : StepD} {cs : List Value} {vS' : Value} {f : Nat → List Value} {W1 : World} (h : Mg w0 mb b1 b2 gS L L1 T T1 vL vS W) (hf1 : W.ownsRow 0 56 7 vS T.length (rows T.length f)) (hf2 : ∀ i, (f i).length = 7) (hf3 : ∀ (i : Nat) (s : StepD), T[i]? = some s → SE gS W s (f i)) (hd : SE gS W d cs) (hcs : cs.length = 7)
    (o : W1.ownsRow 0 56 7 vS' (T.length + 1) (rows T.length f ++ cs)) (u7 : Upd vS.ownBlock.toList W W1) (k7 : ∀ g, vS'.ownBlock = some g → vS.ownBlock = some g ∨ W.heap.size ≤ g) :
    Blk W1 mb [vL, vS, .map (some b1), .map (some b2)] 91 ∧ Mg w0 mb b1 b2 gS L L1 (T ++ [d]) T1 vL vS' (W1.setCell ⟨mb, 1, none⟩ vS') := by
  have hz := h.u.size
  have hfr : ∀ g, vS.ownBlock = some g → w0.heap.size ≤ g := by obtain ⟨_, _, _, _, h4⟩ := h.st; exact h4
  have hb : ∀ b ∈ vS.ownBlock.toList, Kind W b 56 := fun b hb => h.rowS (by simpa using hb)
  have B1 : Blk W1 mb [vL, vS, .map (some b1), .map (some b2)] 91 := h.box.upd u7 (fun hm => absurd ((hb _ hm).inj (blk_kind h.box)) (by decide))
  have us : Upd [mb] W1 (W1.setCell ⟨mb, 1, none⟩ vS') := (Upd.refl _ W1).set (.inl (by simp)) _
  have l1 : LmQ w0 vL L W1 := h.lm.upd2 (fun b hb' hv => absurd ((h.rowL hv).inj (hb b hb')) (by decide)) u7
  have n1 : MS Try.prog 9 W1 b1 L1.length (fE lmE L1) := h.m1.upd u7 (fun hm => ms_kind h.m1 (hb _ hm))
  have n2 : MS Try.prog 9 W1 b2 T1.length (fE stE T1) := h.m2.upd u7 (fun hm => ms_kind h.m2 (hb _ hm))
  have s1 : StQ w0 gS vS' (T ++ [d]) W1 := stQ_push hf1 hf2 hf3 hd hcs o u7 (fun g hg => by
    rcases k7 g hg with h1 | h1
    · exact hfr g h1
    · omega)
  have hmk := blk_kind B1
  refine ⟨B1, B1.set 1 vS', l1.upd2 (fun b hb' hv => ?_) us, s1.upd2 (fun b hb' => .inr (fun hk => ?_)) (fun b hb' hv => ?_) us, n1.upd us (fun hm => ?_), n2.upd us (fun hm => ?_), h.fr, (h.u.fresh u7 (fun b hb' => .inr (hfr b (by simpa using hb')))).fresh us (fun b hb' => .inr (by simp at hb'; subst hb'; exact h.fr.1))⟩
  · simp at hb'; subst hb'
    obtain ⟨f', h1, _⟩ := l1
    exact absurd ((row_kind h1 hv).inj hmk) (by decide)
  · simp at hb'; subst hb'; exact absurd (hk.inj hmk) (by decide)
  · simp at hb'; subst hb'
    exact absurd ((row_kind o hv).inj hmk) (by decide)
  · simp at hm; subst hm; exact ms_kind n1 hmk
  · simp at hm; subst hm; exact ms_kind n2 hmk
theorem ne_map {P : Program} {k e : TypeId} {w : World} {b n : Nat} {f : List UInt8 → Option Value} (h : MS P k w b n f) {g : Nat} (hk : Kind w g e) : g ∉ [b] := fun hm => by
  simp at hm; subst hm; exact ms_kind h hk
/-- A key more in the first map. -/
theorem Mg.put1 {d : LemD} {key : List UInt8} (h : Mg w0 mb b1 b2 gS L L1 T T1 vL vS W) (hkey : key = lmE d) (hno : fnd (qE lmE) L1 d = none) (m : MS Try.prog 9 W' b1 (L1.length + 1) (fun y => if y = key then some (.int .i64 (L1.length : Nat)) else fE lmE L1 y)) (u : Upd [b1] W W') : Mg w0 mb b1 b2 gS L (L1 ++ [d]) T T1 vL vS W' := by
  subst hkey
  have hk : ∀ b ∈ [b1], ∀ e, ¬ Kind W b e := fun b hb e => by simp at hb; subst hb; exact ms_kind h.m1
  exact ⟨h.box.upd u (fun hm => hk _ hm _ (blk_kind h.box)), h.lm.upd2 (fun b hb hv => hk b hb _ (h.rowL hv)) u, h.st.upd2 (fun b hb => .inr (hk b hb _)) (fun b hb hv => hk b hb _ (h.rowS hv)) u,
    by rw [List.length_append, List.length_singleton]; exact m.congr (fE_push hno), h.m2.upd u (by simp; exact Ne.symm h.fr.2.2.2), h.fr, h.u.fresh u (fun b hb => .inr (by simp at hb; subst hb; exact h.fr.2.1))⟩
/-- A key more in the second map. -/
theorem Mg.put2 {d : StepD} {key : List UInt8} (h : Mg w0 mb b1 b2 gS L L1 T T1 vL vS W) (hkey : key = stE d) (hno : fnd (qE stE) T1 d = none) (m : MS Try.prog 9 W' b2 (T1.length + 1) (fun y => if y = key then some (.int .i64 (T1.length : Nat)) else fE stE T1 y)) (u : Upd [b2] W W') : Mg w0 mb b1 b2 gS L L1 T (T1 ++ [d]) vL vS W' := by
  subst hkey
  have hk : ∀ b ∈ [b2], ∀ e, ¬ Kind W b e := fun b hb e => by simp at hb; subst hb; exact ms_kind h.m2
  exact ⟨h.box.upd u (fun hm => hk _ hm _ (blk_kind h.box)), h.lm.upd2 (fun b hb hv => hk b hb _ (h.rowL hv)) u, h.st.upd2 (fun b hb => .inr (hk b hb _)) (fun b hb hv => hk b hb _ (h.rowS hv)) u,
    h.m1.upd u (by simp; exact h.fr.2.2.2), by rw [List.length_append, List.length_singleton]; exact m.congr (fE_push hno), h.fr, h.u.fresh u (fun b hb => .inr (by simp at hb; subst hb; exact h.fr.2.2.1))⟩
end
end Trim
end Go.Proofs.Ytnmfihgdedifoaa
