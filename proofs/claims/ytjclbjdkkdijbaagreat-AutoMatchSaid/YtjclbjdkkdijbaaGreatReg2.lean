/- A law for regions that draw their order, with one place at which two operations may come up. No program is named. Conditions: none. -/
import Derived.Test.YtjclbjdkkdijbaaGreatReg
set_option linter.unusedVariables false
set_option linter.unusedSimpArgs false
set_option linter.unusedSectionVars false
open Go.RowKit
namespace Go.Proofs.YtjclbjdkkdijbaaGreat
namespace L
section
variable {P : Program} {ops : Array Oper} {Q : Exit → Act → World → Prop} {C : World → Prop}
def after (ord : List Nat) (listed : Array Bool) : Array Bool := ord.foldl (fun l i => l.setIfInBounds i true) listed
def wpMovs (P : Program) (ops : Array Oper) (C : World → Prop) (R : List Nat) (F : Act → Prop) : List Nat → Act → Prop
  | [], a => F a
  | i :: r, a => match ops[i]? with
    | none => False
    | some o => mov P ops (fun w => R.contains i = true → C w) o (fun a' => wpMovs P ops C R F r a') a
def okMovs (ops : Array Oper) (f n : Nat) (R : List Nat) : List Nat → Array Bool → Bool
  | [], _ => true
  | i :: r, listed => ((Region.ready .any ops listed).contains i && Region.free .any ops listed i && i != f && (!R.contains i || waits ops n f i || decide (ops.size ≤ f))) && okMovs ops f n R r (listed.setIfInBounds i true)
theorem wpAnyS_movs {f n g : Nat} {R : List Nat} {F : Act → Prop} {w : World} (hsel : ∀ (j : Nat) (o : Oper) cs b, ops[j]? = some o → o.op ≠ .select cs b) (hQ : ∀ c (a a' : Act) w, Q (.panic c) a w → Q (.panic c) a' w) :
    ∀ (ord : List Nat) (listed : Array Bool) (a : Act), Closed ops listed → okMovs ops f n R ord listed = true → Hold f C listed w → wpMovs P ops C R F ord a →
      (∀ a', Closed ops (after ord listed) → Hold f C (after ord listed) w → F a' → wpAnyS P ops Q f C g (after ord listed) a' w) → wpAnyS P ops Q f C (ord.length + g) listed a w
  | [], listed, a, hcl, _, hH, h, hF => by
    rw [List.length_nil, Nat.zero_add]
    exact hF a hcl hH h
  | i :: r, listed, a, hcl, hB, hH, h, hF => by
    unfold okMovs at hB
    simp only [Bool.and_eq_true, Bool.or_eq_true, bne_iff_ne, ne_eq, Bool.not_eq_true', decide_eq_true_eq] at hB
    obtain ⟨⟨⟨⟨hr, hf⟩, hif⟩, hR⟩, hB2⟩ := hB
    unfold wpMovs at h
    cases ho : ops[i]? with
    | none => rw [ho] at h; exact h.elim
    | some o =>
      rw [ho] at h
      simp only at h
      have hr' : i ∈ Region.ready .any ops listed := by simpa using hr
      obtain ⟨v, hy, hK⟩ : ∃ v, YieldsIf P ops (fun w => R.contains i = true → C w) o v a ∧ wpMovs P ops C R F r (a.put o.dst v) := by
        unfold mov at h
        by_cases hw : Region.wanted o (yielded ops a.tmps) = true
        · rw [if_pos hw] at h
          obtain ⟨v, h1, h2⟩ := h
          exact ⟨v, .inl ⟨hw, h1⟩, h2⟩
        · rw [if_neg hw] at h
          exact ⟨undef, .inr ⟨by simpa using hw, rfl⟩, h⟩
      have hlf : (listed.setIfInBounds i true).getD f false = listed.getD f false := getD_set_ne false hif
      have H := wpAnyS_movs hsel hQ r (listed.setIfInBounds i true) (a.put o.dst v) (hcl.set hr') hB2 (fun h => hH (by rw [hlf] at h; exact h)) hK hF
      rw [List.length_cons, show r.length + 1 + g = (r.length + g) + 1 by omega]
      refine wpAnyS_first (n := n) (D := fun w => R.contains i = true → C w) ho hsel (fun c a w h => hQ c _ _ w h) hif ?_ (r.length + g) listed a w hcl (Region.free_spec ho hf) hr' hy hH H
      by_cases hRi : R.contains i = true
      · refine .inr ?_
        have e : (fun w => R.contains i = true → C w) = C := funext fun w => propext ⟨fun h => h hRi, fun h _ => h⟩
        rcases hR with (hR | hR) | hR
        · rw [hRi] at hR; cases hR
        · exact .inl ⟨e, hR⟩
        · exact .inr ⟨e, hR⟩
      · exact .inl fun w h => absurd h hRi
theorem wpAnyS_mono {f : Nat} {C' : World → Prop} (hC : ∀ w, C' w → C w) : ∀ (fuel : Nat) (listed : Array Bool) (a : Act) (w : World), wpAnyS P ops Q f C' fuel listed a w → wpAnyS P ops Q f C fuel listed a w
  | 0, _, _, _, h => h
  | fuel + 1, listed, _, _, h => ⟨h.1, fun i hi => wpOp_mono (fun a' w' h' => ⟨fun h0 => hC _ (h'.1 h0), wpAnyS_mono hC fuel _ a' w' h'.2⟩) (h.2 i hi)⟩
theorem wpAnyS_past {f : Nat} {C' : World → Prop} : ∀ (fuel : Nat) (listed : Array Bool) (a : Act) (w : World), listed.getD f false = true → wpAnyS P ops Q f C' fuel listed a w → wpAnyS P ops Q f C fuel listed a w
  | 0, _, _, _, _, h => h
  | fuel + 1, listed, _, _, hl, h => ⟨h.1, fun i hi => wpOp_mono (fun a' w' h' => ⟨fun h0 => (by rw [getD_set_true hl] at h0; cases h0), wpAnyS_past fuel _ a' w' (getD_set_true hl) h'.2⟩) (h.2 i hi)⟩
/-- The walk along a list of operations; behind each that is carried out C may be narrowed. -/
def wpOrdC (P : Program) (ops : Array Oper) (Q : Exit → Act → World → Prop) (f : Nat) (M R : List Nat) : (World → Prop) → Bool → List Nat → Act → World → Prop
  | _, _, [], a, w => Q .normal a w
  | C, b, i :: r, a, w => match ops[i]? with
    | none => False
    | some o =>
      if M.contains i then mov P ops (fun w => R.contains i = true → C w) o (fun a' => wpOrdC P ops Q f M R C b r a' w) a
      else wpOp P ops Q i (fun a' w' => ∃ C' : World → Prop, ((b && i != f) = true → (∀ w, C' w → C w) ∧ C' w') ∧ wpOrdC P ops Q f M R C' (b && i != f) r a' w') a w
theorem wpAnyS_ordC {f n : Nat} {M R : List Nat} (hsel : ∀ (j : Nat) (o : Oper) cs b, ops[j]? = some o → o.op ≠ .select cs b) (hQ : ∀ c (a a' : Act) w, Q (.panic c) a w → Q (.panic c) a' w) :
    ∀ (ord : List Nat) (C : World → Prop) (b : Bool) (listed : Array Bool) (a : Act) (w : World), Closed ops listed → (b = true ↔ listed.getD f false = false) → okOrd ops f n M R ord listed = true → Hold f C listed w →
      wpOrdC P ops Q f M R C b ord a w → wpAnyS P ops Q f C ord.length listed a w
  | [], _, _, listed, a, w, _, _, hB, _, h => ⟨by simpa [okOrd] using hB, h⟩
  | i :: r, C, b, listed, a, w, hcl, hb, hB, hH, h => by
    unfold okOrd at hB
    rw [Bool.and_eq_true] at hB
    obtain ⟨hB1, hB2⟩ := hB
    unfold wpOrdC at h
    cases ho : ops[i]? with
    | none => rw [ho] at h; exact h.elim
    | some o =>
      rw [ho] at h
      simp only at h
      by_cases hM : M.contains i = true
      · rw [if_pos hM] at h hB1
        simp only [Bool.and_eq_true, Bool.or_eq_true, bne_iff_ne, ne_eq, Bool.not_eq_true', decide_eq_true_eq] at hB1
        obtain ⟨⟨⟨hr, hf⟩, hif⟩, hR⟩ := hB1
        have hr' : i ∈ Region.ready .any ops listed := by simpa using hr
        obtain ⟨v, hy, hK⟩ : ∃ v, YieldsIf P ops (fun w => R.contains i = true → C w) o v a ∧ wpOrdC P ops Q f M R C b r (a.put o.dst v) w := by
          unfold mov at h
          by_cases hw : Region.wanted o (yielded ops a.tmps) = true
          · rw [if_pos hw] at h
            obtain ⟨v, h1, h2⟩ := h
            exact ⟨v, .inl ⟨hw, h1⟩, h2⟩
          · rw [if_neg hw] at h
            exact ⟨undef, .inr ⟨by simpa using hw, rfl⟩, h⟩
        have hlf : (listed.setIfInBounds i true).getD f false = listed.getD f false := getD_set_ne false hif
        have H := wpAnyS_ordC hsel hQ r C b (listed.setIfInBounds i true) (a.put o.dst v) w (hcl.set hr') (by rw [hlf]; exact hb) hB2 (fun h => hH (by rw [hlf] at h; exact h)) hK
        refine wpAnyS_first (n := n) (D := fun w => R.contains i = true → C w) ho hsel (fun c a w h => hQ c _ _ w h) hif ?_ r.length listed a w hcl (Region.free_spec ho hf) hr' hy hH H
        by_cases hRi : R.contains i = true
        · refine .inr ?_
          have e : (fun w => R.contains i = true → C w) = C := funext fun w => propext ⟨fun h => h hRi, fun h _ => h⟩
          rcases hR with (hR | hR) | hR
          · rw [hRi] at hR; cases hR
          · exact .inl ⟨e, hR⟩
          · exact .inr ⟨e, hR⟩
        · exact .inl fun w h => absurd h hRi
      · rw [if_neg hM] at h hB1
        have hr : Region.ready .any ops listed = [i] := by simpa using hB1
        refine ⟨fun h0 => (by rw [hr] at h0; cases h0), fun j hj => ?_⟩
        have hj0 := hj
        rw [hr] at hj
        have hji : j = i := by simpa using hj
        subst hji
        have hjs : j < ops.size := (Array.getElem?_eq_some_iff.1 ho).1
        have hbf : (b && j != f) = true ↔ (listed.setIfInBounds j true).getD f false = false := by
          by_cases hjf : j = f
          · subst hjf
            have hs : j < listed.size := by rw [hcl.1]; exact hjs
            simp [hs]
          · rw [getD_set_ne false hjf, ← hb]
            simp [hjf]
        refine wpOp_mono (fun a' w' h3 => ?_) h
        obtain ⟨C', hC', h4⟩ := h3
        have H := wpAnyS_ordC hsel hQ r C' _ _ a' w' (hcl.set hj0) hbf hB2 (fun h0 => (hC' (hbf.2 h0)).2) h4
        refine ⟨fun h0 => (hC' (hbf.2 h0)).1 _ (hC' (hbf.2 h0)).2, ?_⟩
        cases hl : (listed.setIfInBounds j true).getD f false with
        | false => exact wpAnyS_mono (hC' (hbf.2 hl)).1 _ _ _ _ H
        | true => exact wpAnyS_past _ _ _ _ hl H
theorem wpAnyS_step {f n : Nat} {M R : List Nat} {k : Nat} {r : List Nat} {listed : Array Bool} {a : Act} {w : World} (hsel : ∀ (j : Nat) (o : Oper) cs b, ops[j]? = some o → o.op ≠ .select cs b)
    (hQ : ∀ c (a a' : Act) w, Q (.panic c) a w → Q (.panic c) a' w) (hcl : Closed ops listed) (hlf : listed.getD f false = false) (hk : k ∈ Region.ready .any ops listed) (hM : M.contains k = false) (hB : okOrd ops f n M R r (listed.setIfInBounds k true) = true)
    (h : wpOrdC P ops Q f M R C true (k :: r) a w) :
    wpOp P ops Q k (fun a' w' => Hold f C (listed.setIfInBounds k true) w' ∧ wpAnyS P ops Q f C r.length (listed.setIfInBounds k true) a' w') a w := by
  unfold wpOrdC at h
  obtain ⟨_, o, ho, _⟩ := mem_ready.1 hk
  rw [ho] at h
  simp only [hM, Bool.false_eq_true, if_false, Bool.true_and] at h
  have hks : k < ops.size := (Array.getElem?_eq_some_iff.1 ho).1
  have hbf : (k != f) = true ↔ (listed.setIfInBounds k true).getD f false = false := by
    by_cases hkf : k = f
    · subst hkf
      have hs : k < listed.size := by rw [hcl.1]; exact hks
      simp [hs]
    · rw [getD_set_ne false hkf]
      simp [hkf, hlf]
  refine wpOp_mono (fun a' w' h3 => ?_) h
  obtain ⟨C', hC', h4⟩ := h3
  have H := wpAnyS_ordC hsel hQ r C' _ _ a' w' (hcl.set hk) hbf hB (fun h0 => (hC' (hbf.2 h0)).2) h4
  refine ⟨fun h0 => (hC' (hbf.2 h0)).1 _ (hC' (hbf.2 h0)).2, ?_⟩
  cases hl : (listed.setIfInBounds k true).getD f false with
  | false => exact wpAnyS_mono (hC' (hbf.2 hl)).1 _ _ _ _ H
  | true => exact wpAnyS_past _ _ _ _ hl H
theorem wp_region_ord2 {id : Nat} {a : Act} {w : World} {l : List Oper} (f n : Nat) (M R ord0 : List Nat) (i j : Nat) (ordi ordj : List Nat) (C : World → Prop) (hm : P.follows .mixedOrders = true)
    (hB : (Region.noSelect l.toArray && okMovs l.toArray f n R ord0 (Array.replicate l.toArray.size false) && decide (Region.ready .any l.toArray (after ord0 (Array.replicate l.toArray.size false)) = [i, j]) &&
      okOrd l.toArray f n M R ordi ((after ord0 (Array.replicate l.toArray.size false)).setIfInBounds i true) && okOrd l.toArray f n M R ordj ((after ord0 (Array.replicate l.toArray.size false)).setIfInBounds j true) &&
      !M.contains i && !M.contains j && decide (ordi.length = ordj.length) && decide (ord0.length + (ordi.length + 1) = l.toArray.size) && !(after ord0 (Array.replicate l.toArray.size false)).getD f false) = true) (hC : C w.drew)
    (h : wpMovs P l.toArray C R (fun a' => wpOrdC P l.toArray (NoPanic Q) f M R C true (i :: ordi) a' w.drew ∧ wpOrdC P l.toArray (NoPanic Q) f M R C true (j :: ordj) a' w.drew) ord0 a) : (Code.region id l.toArray true).wp P Q a w := by
  simp only [Bool.and_eq_true, decide_eq_true_eq, Bool.not_eq_true'] at hB
  obtain ⟨⟨⟨⟨⟨⟨⟨⟨⟨b1, b2⟩, b3⟩, b4⟩, b5⟩, b6⟩, b7⟩, b8⟩, b9⟩, b10⟩ := hB
  have hsel := Region.noSelect_spec b1
  have hQ : ∀ c (a a' : Act) w, NoPanic Q (.panic c) a w → NoPanic Q (.panic c) a' w := fun _ _ _ _ h => h.elim
  refine wp_region_noPanic (wp_region_any hm (wpAny_of_S (f := f) (C := C) _ _ _ _ ?_))
  rw [← b9]
  have H := wpAnyS_movs (Q := NoPanic Q) (g := ordi.length + 1) (w := w.drew) hsel hQ ord0 (Array.replicate l.toArray.size false) a Closed.init b2 (fun _ => hC) h ?_
  · rw [b9] at H ⊢
    exact H
  intro a' hcl hH hF
  refine ⟨fun h0 => (by rw [b3] at h0; cases h0), fun k hk => ?_⟩
  have hk' := hk
  rw [b3] at hk'
  simp only [List.mem_cons, List.not_mem_nil, or_false] at hk'
  rcases hk' with rfl | rfl
  · exact wpAnyS_step hsel hQ hcl b10 hk b6 b4 hF.1
  · rw [b8]
    exact wpAnyS_step hsel hQ hcl b10 hk b7 b5 hF.2
/-- **A region that draws its order: one walk along 'ord'; C may be narrowed on the way.** -/
theorem wp_region_ordC {id : Nat} {a : Act} {w : World} {l : List Oper} (f n : Nat) (M R ord : List Nat) (C : World → Prop) (hm : P.follows .mixedOrders = true)
    (hB : (Region.noSelect l.toArray && okOrd l.toArray f n M R ord (Array.replicate l.toArray.size false) && decide (ord.length = l.toArray.size)) = true) (hC : C w.drew)
    (h : wpOrdC P l.toArray (NoPanic Q) f M R C true ord a w.drew) : (Code.region id l.toArray true).wp P Q a w := by
  simp only [Bool.and_eq_true, decide_eq_true_eq] at hB
  refine wp_region_noPanic (wp_region_any hm (wpAny_of_S (f := f) (C := C) _ _ _ _ ?_))
  have hf0 : (Array.replicate l.toArray.size false).getD f false = false := by
    rcases Nat.lt_or_ge f l.length with h | h <;> simp [h]
  have H := wpAnyS_ordC (Q := NoPanic Q) (Region.noSelect_spec hB.1.1) (fun _ _ _ _ h => h.elim) ord C true _ a w.drew Closed.init ⟨fun _ => hf0, fun _ => rfl⟩ hB.1.2 (fun _ => hC) h
  rw [hB.2] at H
  exact H
section
variable {f : Nat} {M R r : List Nat} {b : Bool} {a : Act} {w : World} {i : Nat} {o : Oper} {l : List Oper}
theorem wpOrdC_load (ho' : nth l i = some o) (hM : M.contains i = true) (hR : R.contains i = true) (hs : still_ o.op = true)
    (h : ∀ K : Act → Prop, (∀ a, wpOrdC P l.toArray Q f M R C b r a w → K a) → wpQuiet P l.toArray C K [o] a) : wpOrdC P l.toArray Q f M R C b (i :: r) a w := by
  have ho : l.toArray[i]? = some o := by rw [← ho', nth_eq]; simp
  unfold wpOrdC
  rw [ho]
  simp only [hM, if_true]
  have e : (fun w => R.contains i = true → C w) = C := funext fun w => propext ⟨fun h => h hR, fun h _ => h⟩
  rw [e]
  exact mov_of_quiet hs (h _ fun _ h => h)
theorem wpOrdC_free (ho' : nth l i = some o) (hM : M.contains i = true) (hs : still_ o.op = true)
    (h : ∀ K : Act → Prop, (∀ a, wpOrdC P l.toArray Q f M R C b r a w → K a) → wpQuiet P l.toArray (fun _ => True) K [o] a) : wpOrdC P l.toArray Q f M R C b (i :: r) a w := by
  have ho : l.toArray[i]? = some o := by rw [← ho', nth_eq]; simp
  unfold wpOrdC
  rw [ho]
  simp only [hM, if_true]
  have h' := mov_of_quiet hs (h _ fun _ h => h)
  unfold mov at h' ⊢
  split
  · rename_i hw
    rw [if_pos hw] at h'
    obtain ⟨v, h1, h2⟩ := h'
    exact ⟨v, fun w _ => h1 w trivial, h2⟩
  · rename_i hw
    rw [if_neg hw] at h'
    exact h'
theorem wpOrdC_fix (ho' : nth l i = some o) (hM : M.contains i = false)
    (h : ∀ K : Act → World → Prop, (∀ a w, Halt_ (∃ C' : World → Prop, ((b && i != f) = true → (∀ w, C' w → C w) ∧ C' w) ∧ wpOrdC P l.toArray Q f M R C' (b && i != f) r a w) → K a w) → wpList P l.toArray (Exit.then K Q) [o] a w) :
    wpOrdC P l.toArray Q f M R C b (i :: r) a w := by
  have ho : l.toArray[i]? = some o := by rw [← ho', nth_eq]; simp
  unfold wpOrdC
  rw [ho]
  simp only [hM, Bool.false_eq_true, if_false]
  have h' := h _ fun _ _ h => h
  unfold wpOp
  rw [ho]
  simp only
  unfold wpList at h'
  split
  · rename_i hw
    rw [if_pos hw] at h'
    rcases h' with h' | ⟨h1, a', w', h2⟩
    · exact .inl (Oper.wp_thenQ' (Oper.wp_mono (fun _ _ h => h) h'))
    · exact .inr ⟨h1, a', w', h2⟩
  · rename_i hw
    rw [if_neg hw] at h'
    exact h'
theorem wpOrdC_nil (h : Q .normal a w) : wpOrdC P ops (NoPanic Q) f M R C b [] a w := h
theorem narrowExt (h1 : ∀ x : Ext w, C x.val) (h2 : wpOrdC P l.toArray Q f M R (fun w' => ∃ x : Ext w, w' = x.val) b r a w) : Halt_ (∃ C' : World → Prop, (b = true → (∀ w, C' w → C w) ∧ C' w) ∧ wpOrdC P l.toArray Q f M R C' b r a w) :=
  ⟨fun w' => ∃ x : Ext w, w' = x.val, fun _ => ⟨fun _ ⟨x, hx⟩ => hx ▸ h1 x, Ext.of (Upd.refl _ _)⟩, h2⟩
theorem narrowEnd (hb : b = false) (h2 : wpOrdC P l.toArray Q f M R (fun _ => True) b r a w) : Halt_ (∃ C' : World → Prop, (b = true → (∀ w, C' w → C w) ∧ C' w) ∧ wpOrdC P l.toArray Q f M R C' b r a w) :=
  ⟨fun _ => True, fun h => (by rw [hb] at h; cases h), h2⟩
/-- Behind an operation that is carried out: the new C. -/
theorem narrow {C' : World → Prop} (h1 : b = true → (∀ w, C' w → C w) ∧ C' w) (h2 : wpOrdC P l.toArray Q f M R C' b r a w) : Halt_ (∃ C' : World → Prop, (b = true → (∀ w, C' w → C w) ∧ C' w) ∧ wpOrdC P l.toArray Q f M R C' b r a w) := ⟨C', h1, h2⟩
end
section
variable {R r : List Nat} {F : Act → Prop} {a : Act} {i : Nat} {o : Oper} {l : List Oper}
theorem wpMovs_load (ho' : nth l i = some o) (hR : R.contains i = true) (hs : still_ o.op = true)
    (h : ∀ K : Act → Prop, (∀ a, wpMovs P l.toArray C R F r a → K a) → wpQuiet P l.toArray C K [o] a) : wpMovs P l.toArray C R F (i :: r) a := by
  have ho : l.toArray[i]? = some o := by rw [← ho', nth_eq]; simp
  unfold wpMovs
  rw [ho]
  have e : (fun w => R.contains i = true → C w) = C := funext fun w => propext ⟨fun h => h hR, fun h _ => h⟩
  simp only [e]
  exact mov_of_quiet hs (h _ fun _ h => h)
theorem wpMovs_free (ho' : nth l i = some o) (hs : still_ o.op = true)
    (h : ∀ K : Act → Prop, (∀ a, wpMovs P l.toArray C R F r a → K a) → wpQuiet P l.toArray (fun _ => True) K [o] a) : wpMovs P l.toArray C R F (i :: r) a := by
  have ho : l.toArray[i]? = some o := by rw [← ho', nth_eq]; simp
  unfold wpMovs
  rw [ho]
  have h' := mov_of_quiet hs (h _ fun _ h => h)
  unfold mov at h' ⊢
  simp only
  split
  · rename_i hw
    rw [if_pos hw] at h'
    obtain ⟨v, h1, h2⟩ := h'
    exact ⟨v, fun w _ => h1 w trivial, h2⟩
  · rename_i hw
    rw [if_neg hw] at h'
    exact h'
end
end
end L
end Go.Proofs.YtjclbjdkkdijbaaGreat
