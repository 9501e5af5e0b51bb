/- A map with keys of whatever plain kind as a function on what the keys stand for: make, look-up, store. No program is named. Conditions: none. -/
import Derived.Test.YtjclbjdkkdijbaaGreatMapS
set_option linter.unusedVariables false
set_option linter.unusedSimpArgs false
set_option linter.unusedSectionVars false
open Go.RowKit
namespace Go.Proofs.YtjclbjdkkdijbaaGreat
namespace L
open Go.Maps
/-- How keys of a type stand for elements of κ. -/
structure KE (P : Program) (k : TypeId) (κ : Type) where
  key : κ → Value
  lit : κ → Lit
  ok : κ → Prop
  kd : Keyed P k
  enc : ∀ x, ok x → keyOf P k (key x) = some (lit x)
  inj : ∀ x y, ok x → ok y → lit x = lit y → x = y
section
variable {P : Program} {k : TypeId} {κ : Type}
structure GMD (E : KE P k κ) (D : DataW Value) (f : κ → Option Value) : Prop where
  no : ∀ x, E.ok x → f x = none → has D (E.lit x) = false
  yes : ∀ x, E.ok x → ∀ v, f x = some v → ∀ z, D.atKey (E.lit x) z = .held v
theorem GMD.has {E : KE P k κ} {D : DataW Value} {f : κ → Option Value} (h : GMD E D f) {x : κ} (hx : E.ok x) : Maps.has D (E.lit x) = (f x).isSome := by
  cases hf : f x with
  | none => rw [h.no x hx hf]; rfl
  | some v => rw [has_true_of_atKey (h.yes x hx v hf)]; rfl
/-- A map of at most n keys, which is f. -/
def GM (E : KE P k κ) (w : World) (b n : Nat) (f : κ → Option Value) : Prop := ∃ D : DataW Value, w.ownsMap P k heldS b n D ∧ GMD E D f
variable {E : KE P k κ} {e : TypeId} {w w' : World} {b n : Nat} {f : κ → Option Value} [DecidableEq κ]
theorem GM.lt (h : GM E w b n f) : b < w.heap.size := by
  obtain ⟨D, h1, _⟩ := h
  exact h1.lt
theorem GM.new (E : KE P k κ) (w : World) : GM E (w.alloc (.map #[] 0)) w.heap.size 0 (fun _ => none) :=
  ⟨.map [], World.ownsMap_made w P k _, ⟨fun _ _ _ => rfl, fun _ _ _ h => by simp at h⟩⟩
theorem GM.upd {S : List Nat} (h : GM E w b n f) (hu : Upd S w w') (hb : b ∉ S) : GM E w' b n f := by
  obtain ⟨D, ⟨es, clock, h1, h2⟩, h3⟩ := h
  exact ⟨D, ⟨es, clock, by rw [hu.block b (Array.getElem?_eq_some_iff.1 h1).1 hb]; exact h1, h2⟩, h3⟩
theorem GM.congr {f' : κ → Option Value} (h : GM E w b n f) (he : ∀ x, f x = f' x) : GM E w b n f' := by
  obtain rfl : f = f' := funext he
  exact h
theorem GM.look_ok {t : TypeId} (h : GM E w b n f) (ht : P.underlying t = some (.map k e)) {z : Value} {size bytes : Nat}
    (hinfo : (P.info? e).map (fun i => (i.zero, i.size, i.bytes)) = some (some z, size, bytes)) {x : κ} (hx : E.ok x) :
    (Instr.lookup t (.map (some b)) (E.key x) true).run P w = .ok (.tuple #[(f x).getD z, .bool (f x).isSome]) w := by
  obtain ⟨D, h1, h2⟩ := h
  obtain ⟨v, ps, hrun, hv⟩ := h1.look_ok E.kd ht (zeroS_of hinfo w) (show heldS z = some (.held z, []) from rfl) (E.enc x hx)
  rw [hrun, h2.has hx]
  unfold heldS at hv
  simp only [Option.some.injEq, Prod.mk.injEq] at hv
  cases hf : f x with
  | none =>
    have h3 := atKey_of_not_has (h2.no _ hx hf) (.held z)
    rw [h3] at hv
    have h4 : v = z := by simpa using hv.1
    rw [h4]; rfl
  | some u =>
    rw [h2.yes _ hx u hf] at hv
    have h4 : v = u := by simpa using hv.1
    rw [h4]; rfl
theorem GM.put {t : TypeId} (h : GM E w b n f) (ht : P.underlying t = some (.map k e)) (hn : n < maxLen) {x : κ} (hx : E.ok x) (v : Value) :
    ∃ w', (Instr.mapUpdate t (.map (some b)) (E.key x) v).run P w = .ok () w' ∧ GM E w' b (n + 1) (fun y => if y = x then some v else f y) ∧ Upd [b] w w' := by
  obtain ⟨D, h1, h2⟩ := h
  obtain ⟨w', hrun, h3, h4⟩ := h1.update E.kd ht hn (E.enc x hx) (show heldS v = some (.held v, []) from rfl)
  refine ⟨w', hrun, ⟨_, h3, ⟨fun y hy hf => ?_, fun y hy u hf z => ?_⟩⟩, (Upd.refl _ w).grown h4 (fun j hj => by cases hj; exact .inl (by simp))⟩
  · by_cases e1 : y = x
    · rw [if_pos e1] at hf; cases hf
    · rw [if_neg e1] at hf
      rw [has_put_other (fun h => e1 (E.inj _ _ hy hx h))]
      exact h2.no y hy hf
  · by_cases e1 : y = x
    · rw [if_pos e1] at hf
      cases hf
      subst e1
      exact atKey_put_same h1.isMap (E.kd.key (E.enc y hy)) _ _
    · rw [if_neg e1] at hf
      rw [atKey_put_other (fun h => e1 (E.inj _ _ hy hx h))]
      exact h2.yes y hy u hf z
section
variable {ops : Array Oper} {rest : List Oper} {o : Oper} {a : Act} {Q : Exit → Act → World → Prop}
theorem wpList_gmput {t : TypeId} (ht : P.underlying t = some (.map k e)) (hg : o.guard = none) (m x v : Operand) (hop : o.op = Op.mapUpdate t m x v)
    (b n : Nat) (f : κ → Option Value) (y : κ) (val : Value) (hm : a.eval m = .map (some b)) (hx : a.eval x = E.key y) (hv : a.eval v = val) (h : GM E w b n f) (hn : n < maxLen) (hy : E.ok y)
    (hK : ∀ w', GM E w' b (n + 1) (fun z => if z = y then some val else f z) → Upd [b] w w' → wpList P ops Q rest (a.put o.dst undef) w') : wpList P ops Q (o :: rest) a w := by
  refine wpList_plain hg fun K' hK' => ?_
  obtain ⟨w', hrun, h1, h2⟩ := GM.put h ht hn hy val
  unfold Oper.wp
  simp only [execOp, hop, hm, hx, hv, Sem.run_bind, Sem.run_pure, Result.andThen_ok, hrun]
  exact hK' _ _ (hK w' h1 h2)
theorem wpList_gmins {t : TypeId} (ht : P.underlying t = some (.map k e)) (hg : o.guard = none) (m x v : Operand) (hop : o.op = Op.insert t m x v)
    (b n : Nat) (f : κ → Option Value) (y : κ) (val : Value) (hm : a.eval m = .map (some b)) (hx : a.eval x = E.key y) (hv : a.eval v = val) (h : GM E w b n f) (hn : n < maxLen) (hy : E.ok y)
    (hK : ∀ w', GM E w' b (n + 1) (fun z => if z = y then some val else f z) → Upd [b] w w' → wpList P ops Q rest (a.put o.dst undef) w') : wpList P ops Q (o :: rest) a w := by
  refine wpList_plain hg fun K' hK' => ?_
  obtain ⟨w', hrun, h1, h2⟩ := GM.put h ht hn hy val
  unfold Oper.wp
  simp only [execOp, hop, hm, hx, hv, Sem.run_bind, Sem.run_pure, Result.andThen_ok, hrun]
  exact hK' _ _ (hK w' h1 h2)
theorem wpList_gmlook_ok {t : TypeId} (ht : P.underlying t = some (.map k e)) {z : Value} {size bytes : Nat}
    (hinfo : (P.info? e).map (fun i => (i.zero, i.size, i.bytes)) = some (some z, size, bytes)) (m x : Operand) (hop : o.op = Op.lookup t m x true) (hg : o.guard = none)
    (b n : Nat) (f : κ → Option Value) (y : κ) (hm : a.eval m = .map (some b)) (hx : a.eval x = E.key y) (h : GM E w b n f) (hy : E.ok y)
    (hK : wpList P ops Q rest (a.put o.dst (.tuple #[(f y).getD z, .bool (f y).isSome])) w) : wpList P ops Q (o :: rest) a w := by
  refine wpList_plain hg fun K' hK' => ?_
  have hrun := GM.look_ok h ht hinfo hy
  unfold Oper.wp
  simp [execOp, hop, hm, hx, hrun, Result.andThen]
  exact hK' _ _ hK
end
end
end L
end Go.Proofs.YtjclbjdkkdijbaaGreat
