/- Merging as plain data: different bytes for different steps, and what merging computes. No program is named. Conditions: none. -/
import Derived.Test.YtnmfihgdedifoaaTrimMC
set_option linter.unusedVariables false
set_option linter.unusedSimpArgs false
set_option linter.unusedSectionVars false
open Go.RowKit
namespace Go.Proofs.Ytnmfihgdedifoaa
open L
namespace Trim
theorem digits_inj : ∀ (n : Nat) {a b : Nat}, a < 256 ^ n → b < 256 ^ n → (∀ j, j < n → a / 256 ^ j % 256 = b / 256 ^ j % 256) → a = b
  | 0, a, b, ha, hb, _ => by simp at ha hb; omega
  | n + 1, a, b, ha, hb, h => by
    have h0 := h 0 (by omega)
    simp at h0
    have h1 : a / 256 = b / 256 := digits_inj n (by rw [Nat.div_lt_iff_lt_mul (by decide)]; rw [Nat.pow_succ] at ha; exact ha) (by rw [Nat.div_lt_iff_lt_mul (by decide)]; rw [Nat.pow_succ] at hb; exact hb) (fun j hj => by
      have := h (j + 1) (by omega)
      rw [Nat.pow_succ, Nat.mul_comm, ← Nat.div_div_eq_div_mul, ← Nat.div_div_eq_div_mul] at this
      exact this)
    omega
theorem byte_inj {a b : Nat} (h : UInt8.ofNat (a % 256) = UInt8.ofNat (b % 256)) : a % 256 = b % 256 := by
  have := congrArg UInt8.toNat h
  rw [UInt8.toNat_ofNat', UInt8.toNat_ofNat'] at this
  omega
theorem n8_inj {x y : Int} (hx : IsI64 x) (hy : IsI64 y) (h : n8 x = n8 y) : x = y := by
  have hu : u64 x = u64 y := by
    refine digits_inj 8 ?_ ?_ (fun j hj => ?_)
    · have : x % 18446744073709551616 < 18446744073709551616 := Int.emod_lt_of_pos _ (by decide)
      unfold u64; omega
    · have : y % 18446744073709551616 < 18446744073709551616 := Int.emod_lt_of_pos _ (by decide)
      unfold u64; omega
    · have h1 := congrArg (fun l : List UInt8 => l[j]?) h
      simp only [n8, List.getElem?_map] at h1
      rw [List.getElem?_range hj] at h1
      have h2 : byteAt x j = byteAt y j := by simpa using h1
      unfold byteAt at h2
      have h3 := byte_inj h2
      rwa [Nat.pow_mul] at h3
  unfold IsI64 at hx hy
  unfold u64 at hu
  omega
theorem n8_pre {x y : Int} {r r' : List UInt8} (hx : IsI64 x) (hy : IsI64 y) (h : n8 x ++ r = n8 y ++ r') : x = y ∧ r = r' := by
  obtain ⟨h1, h2⟩ := List.append_inj h (by rw [n8_length, n8_length])
  exact ⟨n8_inj hx hy h1, h2⟩
theorem n8s_pre : ∀ {l m : List Int} {r r' : List UInt8}, (∀ x ∈ l, IsI64 x) → (∀ x ∈ m, IsI64 x) → l.length = m.length → n8s l ++ r = n8s m ++ r' → l = m ∧ r = r'
  | [], [], r, r', _, _, _, h => ⟨rfl, by simpa [n8s] using h⟩
  | [], _ :: _, _, _, _, _, hl, _ => by simp at hl
  | _ :: _, [], _, _, _, _, hl, _ => by simp at hl
  | x :: l, y :: m, r, r', hx, hy, hl, h => by
    unfold n8s at h
    rw [List.flatMap_cons, List.flatMap_cons, List.append_assoc, List.append_assoc] at h
    obtain ⟨rfl, h2⟩ := n8_pre (hx x (by simp)) (hy y (by simp)) h
    obtain ⟨rfl, h3⟩ := n8s_pre (fun z hz => hx z (by simp [hz])) (fun z hz => hy z (by simp [hz])) (by simpa using hl) h2
    exact ⟨rfl, h3⟩
theorem lsE_pre {l m : List Int} {r r' : List UInt8} (hx : ∀ x ∈ l, IsI64 x) (hy : ∀ x ∈ m, IsI64 x) (h1 : l.length ≤ 1000000) (h2 : m.length ≤ 1000000) (h : lsE l ++ r = lsE m ++ r') : l = m ∧ r = r' := by
  unfold lsE at h
  rw [List.append_assoc, List.append_assoc] at h
  obtain ⟨h3, h4⟩ := n8_pre (by unfold IsI64; omega) (by unfold IsI64; omega) h
  exact n8s_pre hx hy (by omega) h4
theorem txE_pre {s t : ByteArray} {r r' : List UInt8} (h1 : s.size ≤ 1000000) (h2 : t.size ≤ 1000000) (h : txE s ++ r = txE t ++ r') : s = t ∧ r = r' := by
  unfold txE at h
  rw [List.append_assoc, List.append_assoc] at h
  obtain ⟨h3, h4⟩ := n8_pre (by unfold IsI64; omega) (by unfold IsI64; omega) h
  obtain ⟨h5, h6⟩ := List.append_inj h4 (by show s.size = t.size; omega)
  exact ⟨by cases s; cases t; simp at h5; rw [h5], h6⟩
/-- Steps whose numbers are numbers. -/
structure StOk (s : StepD) : Prop where
  kind : IsI64 s.kind
  node : IsI64 s.node
  rule : IsI64 s.rule
  params : s.params.length ≤ 1000 ∧ ∀ x ∈ s.params, IsI64 x
  lits : s.lits.length ≤ 1000 ∧ ∀ x ∈ s.lits, IsI64 x
  hints : s.hints.length ≤ 1000 ∧ ∀ x ∈ s.hints, IsI64 x
  name : s.name.size ≤ 1000
theorem stE_inj {s t : StepD} (hs : StOk s) (ht : StOk t) (h : stE s = stE t) : s = t := by
  have h : stE s ++ [] = stE t ++ [] := by rw [h]
  unfold stE at h
  simp only [List.append_assoc] at h
  obtain ⟨h1, h⟩ := n8s_pre (l := [s.kind, s.node, s.rule]) (m := [t.kind, t.node, t.rule]) (by intro x hx; simp only [List.mem_cons, List.not_mem_nil, or_false] at hx; rcases hx with rfl | rfl | rfl <;> first | exact hs.kind | exact hs.node | exact hs.rule) (by intro x hx; simp only [List.mem_cons, List.not_mem_nil, or_false] at hx; rcases hx with rfl | rfl | rfl <;> first | exact ht.kind | exact ht.node | exact ht.rule) rfl h
  obtain ⟨h2, h⟩ := lsE_pre hs.params.2 ht.params.2 (by have := hs.params.1; omega) (by have := ht.params.1; omega) h
  obtain ⟨h3, h⟩ := txE_pre (by have := hs.name; omega) (by have := ht.name; omega) h
  obtain ⟨h4, h⟩ := lsE_pre hs.lits.2 ht.lits.2 (by have := hs.lits.1; omega) (by have := ht.lits.1; omega) h
  obtain ⟨h5, _⟩ := lsE_pre hs.hints.2 ht.hints.2 (by have := hs.hints.1; omega) (by have := ht.hints.1; omega) h
  simp only [List.cons.injEq, and_true] at h1
  obtain ⟨e1, e2, e3⟩ := h1
  cases s; cases t
  simp only [StepD.mk.injEq]
  exact ⟨e1, e2, e3, h2, h3, h4, h5⟩
theorem lmE_ne : lmE (lem0 0) ≠ lmE (lem0 1) := by
  intro h
  unfold lmE at h
  simp only [List.append_assoc] at h
  have h1 := List.append_cancel_left h
  have h2 := List.append_cancel_left h1
  have h3 := List.append_cancel_left h2
  obtain ⟨h4, _⟩ := lsE_pre (l := (lem0 0).clause) (m := (lem0 1).clause) (by simp [lem0, IsI64]) (by simp [lem0, IsI64]) (by simp [lem0]) (by simp [lem0]) h3
  simp [lem0] at h4
theorem lmE_inj {a b : LemD} (ha : a = lem0 0 ∨ a = lem0 1) (hb : b = lem0 0 ∨ b = lem0 1) (h : lmE a = lmE b) : a = b := by
  rcases ha with rfl | rfl <;> rcases hb with rfl | rfl
  · rfl
  · exact (lmE_ne h).elim
  · exact (lmE_ne h.symm).elim
  · rfl
section
variable {α : Type}
/-- The first one that is the same. -/
def fnd (q : α → α → Bool) (T : List α) (x : α) : Option Nat := T.findIdx? (fun y => q y x)
def ins (q : α → α → Bool) (T : List α) (x : α) : List α := if (fnd q T x).isSome then T else T ++ [x]
def noOf (q : α → α → Bool) (T : List α) (x : α) : Nat := (fnd q T x).getD T.length
/-- The list and the numbers after the first k. -/
def goTo (q : α → α → Bool) (ren : (Nat → Int) → α → α) (T0 : List α) (xs : List α) : Nat → List α × (Nat → Int)
  | 0 => (T0, fun _ => 0)
  | k + 1 => match xs[k]? with
    | none => goTo q ren T0 xs k
    | some x => (ins q (goTo q ren T0 xs k).1 (ren (goTo q ren T0 xs k).2 x), fun j => if j = k then (noOf q (goTo q ren T0 xs k).1 (ren (goTo q ren T0 xs k).2 x) : Int) else (goTo q ren T0 xs k).2 j)
theorem goTo_succ {q : α → α → Bool} {ren : (Nat → Int) → α → α} {T0 xs : List α} {k : Nat} {x : α} (h : xs[k]? = some x) :
    goTo q ren T0 xs (k + 1) = (ins q (goTo q ren T0 xs k).1 (ren (goTo q ren T0 xs k).2 x), fun j => if j = k then (noOf q (goTo q ren T0 xs k).1 (ren (goTo q ren T0 xs k).2 x) : Int) else (goTo q ren T0 xs k).2 j) := by
  rw [goTo, h]
theorem noOf_le (q : α → α → Bool) (T : List α) (x : α) : noOf q T x ≤ T.length := by
  unfold noOf fnd
  cases h : T.findIdx? (fun y => q y x) with
  | none => exact Nat.le_refl _
  | some i => have := (List.findIdx?_eq_some_iff_findIdx_eq.1 h).1; simp; omega
theorem ins_length (q : α → α → Bool) (T : List α) (x : α) : T.length ≤ (ins q T x).length ∧ (ins q T x).length ≤ T.length + 1 := by
  unfold ins
  split
  · omega
  · rw [List.length_append, List.length_singleton]; omega
theorem goTo_bound (q : α → α → Bool) (ren : (Nat → Int) → α → α) (T0 xs : List α) : ∀ k, (goTo q ren T0 xs k).1.length ≤ T0.length + k ∧ T0.length ≤ (goTo q ren T0 xs k).1.length ∧ ∀ j, 0 ≤ (goTo q ren T0 xs k).2 j ∧ (goTo q ren T0 xs k).2 j ≤ ((T0.length + k : Nat) : Int)
  | 0 => ⟨by simp [goTo], by simp [goTo], fun j => by simp [goTo]⟩
  | k + 1 => by
    obtain ⟨h1, h2, h3⟩ := goTo_bound q ren T0 xs k
    cases hx : xs[k]? with
    | none =>
      have e : goTo q ren T0 xs (k + 1) = goTo q ren T0 xs k := by rw [goTo, hx]
      rw [e]
      exact ⟨by omega, h2, fun j => ⟨(h3 j).1, by have := (h3 j).2; push_cast at this ⊢; omega⟩⟩
    | some x =>
      rw [goTo_succ hx]
      have hi := ins_length q (goTo q ren T0 xs k).1 (ren (goTo q ren T0 xs k).2 x)
      refine ⟨by show (ins q _ _).length ≤ _; omega, by show _ ≤ (ins q _ _).length; omega, fun j => ?_⟩
      show 0 ≤ (if j = k then _ else _) ∧ (if j = k then _ else _) ≤ _
      split
      · have := noOf_le q (goTo q ren T0 xs k).1 (ren (goTo q ren T0 xs k).2 x)
        constructor
        · omega
        · push_cast; omega
      · exact ⟨(h3 j).1, by have := (h3 j).2; push_cast at this ⊢; omega⟩
/-- All elements of the list have what the new ones have. -/
theorem goTo_all {q : α → α → Bool} {ren : (Nat → Int) → α → α} {T0 xs : List α} {V : α → Prop} (h0 : ∀ x ∈ T0, V x) (hr : ∀ k x, xs[k]? = some x → V (ren (goTo q ren T0 xs k).2 x)) : ∀ k, ∀ x ∈ (goTo q ren T0 xs k).1, V x
  | 0 => h0
  | k + 1 => by
    have ih := goTo_all h0 hr k
    cases hx : xs[k]? with
    | none =>
      have e : goTo q ren T0 xs (k + 1) = goTo q ren T0 xs k := by rw [goTo, hx]
      rw [e]; exact ih
    | some x =>
      rw [goTo_succ hx]
      intro y hy
      have hy : y ∈ ins q (goTo q ren T0 xs k).1 (ren (goTo q ren T0 xs k).2 x) := hy
      unfold ins at hy
      split at hy
      · exact ih y hy
      · rcases List.mem_append.1 hy with hy | hy
        · exact ih y hy
        · rw [List.mem_singleton] at hy; subst hy; exact hr k x hx
theorem fnd_congr {q q' : α → α → Bool} {T : List α} {x : α} (h : ∀ y ∈ T, q y x = q' y x) : fnd q T x = fnd q' T x := by
  unfold fnd
  induction T with
  | nil => rfl
  | cons y T ih =>
    rw [List.findIdx?_cons, List.findIdx?_cons, h y (by simp), ih (fun z hz => h z (by simp [hz]))]
theorem goTo_congr {q q' : α → α → Bool} {ren : (Nat → Int) → α → α} {T0 xs : List α} {V : α → Prop} (hq : ∀ x y, V x → V y → q x y = q' x y) (h0 : ∀ x ∈ T0, V x) (hr : ∀ k x, xs[k]? = some x → V (ren (goTo q ren T0 xs k).2 x)) : ∀ k, goTo q ren T0 xs k = goTo q' ren T0 xs k
  | 0 => rfl
  | k + 1 => by
    have ih := goTo_congr hq h0 hr k
    have ha := goTo_all (q := q) h0 hr k
    cases hx : xs[k]? with
    | none => rw [goTo, goTo, hx]; exact ih
    | some x =>
      rw [goTo_succ hx, goTo_succ hx, ← ih]
      have hv := hr k x hx
      have hf := fnd_congr (x := ren (goTo q ren T0 xs k).2 x) (fun y hy => hq y _ (ha y hy) hv)
      unfold ins noOf
      rw [hf]
/-- The map from bytes to numbers. -/
def fE (e : α → List UInt8) (T : List α) : List UInt8 → Option Value := fun k => (T.findIdx? (fun y => decide (e y = k))).map (fun i => .int .i64 (i : Nat))
def qE (e : α → List UInt8) : α → α → Bool := fun y x => decide (e y = e x)
theorem fE_at (e : α → List UInt8) (T : List α) (x : α) : fE e T (e x) = (fnd (qE e) T x).map (fun i => .int .i64 (i : Nat)) := rfl
theorem fE_push {e : α → List UInt8} {T : List α} {x : α} (h : fnd (qE e) T x = none) (k : List UInt8) : (if k = e x then some (.int .i64 (T.length : Nat)) else fE e T k) = fE e (T ++ [x]) k := by
  unfold fE
  rw [List.findIdx?_append]
  by_cases hk : k = e x
  · subst hk
    rw [if_pos rfl]
    have h1 : T.findIdx? (fun y => decide (e y = e x)) = none := h
    rw [h1]
    simp [List.findIdx?_cons]
  · rw [if_neg hk]
    cases h1 : T.findIdx? (fun y => decide (e y = k)) with
    | some i => simp
    | none => simp [List.findIdx?_cons, Ne.symm hk]
end
end Trim
end Go.Proofs.Ytnmfihgdedifoaa
