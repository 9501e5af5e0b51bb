/- A map from int to bool as a function on integers: make, look-up, store, delete. No program is named. Conditions: none. -/
import Derived.Test.YtjflbhkhnmodaaaReg2
import Derived.Maps.OwnSet
set_option linter.unusedVariables false
set_option linter.unusedSimpArgs false
set_option linter.unusedSectionVars false
open Go.RowKit
namespace Go.Proofs.Ytjflbhkhnmodaaa
namespace L
open Go.Maps
theorem lit_i64 {x : Int} (h : IsI64 x) : (Lit.int .i64 x).wf = true := by
  obtain ⟨h1, h2⟩ := h
  simp [Lit.wf, IntKind.min, IntKind.max, IntKind.bits, IntKind.signed]
  omega
theorem plainElem_bool_inv {H : Type} {P : Program} {e : TypeId} (he : P.underlying e = some .bool) {v : Value} {z : DataW H × List MemPlace} (h : plainElem P e v = some z) : ∃ a, v = .bool a ∧ z = (.lit (.bool a), []) := by
  unfold plainElem at h
  rw [he] at h
  cases v <;> simp at h
  exact ⟨_, rfl, h.symm⟩
/-- Block b of w is a map of at most n entries from int to bool; as a function it is f. -/
def MB (P : Program) (k e : TypeId) (w : World) (b n : Nat) (f : Int → Bool) : Prop :=
  ∃ D : DataW Unit, w.ownsMap P k (plainElem P e) b n D ∧ ∀ x, IsI64 x → D.atKey (.int .i64 x) (.lit (.bool false)) = .lit (.bool (f x))
section
variable {P : Program} {k e : TypeId} {w w' : World} {b n : Nat} {f : Int → Bool}
theorem MB.lt (h : MB P k e w b n f) : b < w.heap.size := by
  obtain ⟨D, h1, _⟩ := h
  exact h1.lt
theorem run_makeMapN {t : TypeId} (ht : P.underlying t = some (.map k e)) (w : World) (q : IntKind) (m : Int) : (Instr.makeMap t (some (.int q m))).run P w = .ok (.map (some w.heap.size)) (w.alloc (.map #[] 0)) := by
  simp [Instr.makeMap, run_underlying ht, asInt, asIntOf, Result.andThen]
theorem MB.new (w : World) (P : Program) (k e : TypeId) : MB P k e (w.alloc (.map #[] 0)) w.heap.size 0 (fun _ => false) :=
  ⟨.map [], World.ownsMap_made w P k _, fun _ _ => rfl⟩
theorem MB.upd {S : List Nat} (h : MB P k e w b n f) (hu : Upd S w w') (hb : b ∉ S) : MB P k e w' b n f := by
  obtain ⟨D, ⟨es, clock, h1, h2⟩, h3⟩ := h
  exact ⟨D, ⟨es, clock, by rw [hu.block b (Array.getElem?_eq_some_iff.1 h1).1 hb]; exact h1, h2⟩, h3⟩
theorem MB.congr {f' : Int → Bool} (h : MB P k e w b n f) (he : ∀ x, IsI64 x → f x = f' x) : MB P k e w b n f' := by
  obtain ⟨D, h1, h2⟩ := h
  exact ⟨D, h1, fun x hx => by rw [h2 x hx, he x hx]⟩
theorem zero_of {z : Value} {size bytes : Nat} (hinfo : (P.info? e).map (fun i => (i.zero, i.size, i.bytes)) = some (some z, size, bytes)) (w : World) : (zeroValue e).run P w = .ok z w := by
  obtain ⟨i, hi, hz, hs, hb⟩ := info_of hinfo
  have hp : Sem.run P (Sem.program Sem.pure) w = .ok P w := rfl
  simp [zeroValue, typeInfo, program, go_sem, hi, hz, hp]
theorem MB.look {t : TypeId} (h : MB P k e w b n f) (hk : P.underlying k = some (.int .i64)) (ht : P.underlying t = some (.map k e)) (he : P.underlying e = some .bool)
    (hinfo : (P.info? e).map (fun i => (i.zero, i.size, i.bytes)) = some (some (.bool false), 1, 1)) {key : Int} (hi : IsI64 key) :
    (Instr.lookup t (.map (some b)) (.int .i64 key) false).run P w = .ok (.bool (f key)) w := by
  obtain ⟨D, h1, h2⟩ := h
  obtain ⟨v, ps, hrun, hv⟩ := h1.lookup (int_keyed hk) ht (zero_of hinfo w) (plainElem_bool he false) (keyOf_int_mk hk (lit_i64 hi))
  obtain ⟨c, rfl, hc⟩ := plainElem_bool_inv he hv
  rw [h2 key hi] at hc
  simp only [Prod.mk.injEq, DataW.lit.injEq, Lit.bool.injEq] at hc
  rw [hrun, hc.1]
theorem MB.put {t : TypeId} (h : MB P k e w b n f) (hk : P.underlying k = some (.int .i64)) (ht : P.underlying t = some (.map k e)) (he : P.underlying e = some .bool) (hn : n < maxLen) {key : Int} (hi : IsI64 key) (v : Bool) :
    ∃ w', (Instr.mapUpdate t (.map (some b)) (.int .i64 key) (.bool v)).run P w = .ok () w' ∧ MB P k e w' b (n + 1) (fun x => if x = key then v else f x) ∧ Upd [b] w w' := by
  obtain ⟨D, h1, h2⟩ := h
  obtain ⟨w', hrun, h3, h4⟩ := h1.update (int_keyed hk) ht hn (keyOf_int_mk hk (lit_i64 hi)) (plainElem_bool he v)
  refine ⟨w', hrun, ⟨_, h3, fun x hx => ?_⟩, (Upd.refl _ w).grown h4 (fun j hj => by cases hj; exact .inl (by simp))⟩
  by_cases e1 : x = key
  · subst e1
    show DataW.atKey _ _ _ = DataW.lit (Lit.bool (if x = x then v else f x))
    rw [if_pos rfl]
    exact atKey_put_same h1.isMap (show WideAt.IsKeyLit (.int .i64 x) from trivial) _ _
  · show DataW.atKey _ _ _ = DataW.lit (Lit.bool (if x = key then v else f x))
    rw [if_neg e1, atKey_put_other (by intro h; cases h; exact e1 rfl)]
    exact h2 x hx
theorem wpList_mbput {ops : Array Oper} {rest : List Oper} {o : Oper} {a : Act} {Q : Exit → Act → World → Prop} {t : TypeId} (hk : P.underlying k = some (.int .i64)) (ht : P.underlying t = some (.map k e)) (he : P.underlying e = some .bool)
    (hg : o.guard = none) (m x v : Operand) (hop : o.op = Op.mapUpdate t m x v)
    (b n : Nat) (f : Int → Bool) (key : Int) (val : Bool) (hm : a.eval m = .map (some b)) (hx : a.eval x = .int .i64 key) (hv : a.eval v = .bool val) (h : MB P k e w b n f) (hn : n < maxLen) (hi : IsI64 key)
    (hK : ∀ w', MB P k e w' b (n + 1) (fun y => if y = key then val else f y) → Upd [b] w w' → wpList P ops Q rest (a.put o.dst undef) w') : wpList P ops Q (o :: rest) a w := by
  refine wpList_plain hg fun K' hK' => ?_
  obtain ⟨w', hrun, h1, h2⟩ := MB.put h hk ht he hn hi val
  unfold Oper.wp
  simp [execOp, hop, hm, hx, hv, hrun, Result.andThen]
  exact hK' _ _ (hK w' h1 h2)
end
end L
end Go.Proofs.Ytjflbhkhnmodaaa
