/- A range over a function that writes blocks of its own; the rounds are told what holds of what they are handed. No program is named. Conditions: none. -/
import Derived.Test.YtnmfihgdedifoaaInF
set_option linter.unusedVariables false
set_option linter.unusedSimpArgs false
set_option linter.unusedSectionVars false
open Go.RowKit Go.Shelf
namespace Go.Proofs.Ytnmfihgdedifoaa
namespace L
section
variable {F : Fence} {n : Nat} {P : Program}
/-- The iterator's word: it hands over only what Adm lets, and comes to its end; the rounds keep Kp. -/
def SeqU {α : Type} (F : Fence) (n : Nat) (P : Program) (g : Nat) (lb : Array Value) (encs : α → Array Value) (Kp : World → World → Prop) (Adm : List α → α → World → Prop) (S : List α → Prop) (w : World) : Prop :=
  ∀ (l : Nat) (J : List α → World → Prop) (W : World), Below w.heap.size w W → AbidesFrom W.heap.size J → (∀ pre S A B, (∀ k ∈ S, W.heap.size ≤ k) → J pre A → Upd S A B → J pre B) →
    (∀ pre x W1, J pre W1 → Adm pre x W1 → YieldAt F (n - 1) P l (encs x) W1 fun e W' => e = .returned (.bool true) ∧ J (pre ++ [x]) W' ∧ Kp W1 W') →
    J [] W → CallsIn F n P g (#[.func (.yield l) #[] #[]] ++ lb) W fun e W' => (∃ v, e = .returned v) ∧ ∃ xs, S xs ∧ J xs W'
theorem wpIn_rangeU {α : Type} {g : Operand} {ps : Array Tmp} {assign body : Code} {Q : Exit → Act → World → Prop} {a : Act} {w : World}
    (hro : F.round = none) (h1 : 1 ≤ n) {gf : Nat} {lb : Array Value} (hg : a.eval g = .func (.func gf) #[] lb) (hFg : F.fn gf) (eg : ∀ args w, (callFunc gf args).run P w = .ok (.enter gf args) w)
    {encs : α → Array Value} {Kp : World → World → Prop} {Adm : List α → α → World → Prop} {S : List α → Prop} (hseq : SeqU F (n - 1) P gf lb encs Kp Adm S w)
    (hKt : ∀ {A B C : World}, Kp A B → Kp B C → Kp A C) (hKb : ∀ (W : World) (l : Nat) (o o' : Obj), w.heap.size ≤ l → W.heap[l]? = some o → o.isCells = false → o.isWalk = false → Kp W (W.putObj l o')) (hps : ∀ x, (encs x).size = ps.size)
    (I : List α → World → Prop) (hI : OwnFrom w.heap.size I) (hIu : ∀ pre S A B, (∀ k ∈ S, w.heap.size ≤ k) → I pre A → Upd S A B → I pre B) (h0 : I [] w) (hA : ∀ pre x, OwnFrom w.heap.size (fun (_ : Unit) W => Adm pre x W)) (a₁ : α → Act)
    (hassign : ∀ (l : Nat) (x : α) (W : World) (K : Act → World → Prop), K (a₁ x) W →
      assign.wpIn (F.inRound l) (n - 1 - 1) P (Exit.then K (fun _ _ _ => False)) { tmps := (ps.zip (encs x)).foldl (fun t (p, v) => t.setIfInBounds p v) a.tmps, defers := [] } W)
    (hbody : ∀ (l : Nat) (pre : List α) (x : α) (W : World), I pre W → Adm pre x W → body.wpIn (F.inRound l) (n - 1 - 1) P (fun e _ W' => e = .normal ∧ KeepsFrom w.heap.size W W' ∧ Kp W W' ∧ I (pre ++ [x]) W') (a₁ x) W)
    (hdone : ∀ (D : Nat) (xs : List α) (W : World), w.heap.size ≤ D → S xs → I xs W → W.heap[D]? = some (.deferred (some [])) → Q .normal { a with defers := { target := .collected D, args := #[] } :: a.defers } W) :
    (Code.rangeFunc g ps assign body).wpIn F n P Q a w := by
  refine wpIn_rangeFunc fun fn hfn => ?_
  rw [hro]
  obtain ⟨R, hR⟩ : ∃ R : LoopState → Option Code → Loop, R = fun st pe => { state := st, pending := pe, fn, tmps := a.tmps, params := ps, assign, body, defers := w.heap.size } := ⟨_, rfl⟩
  have hu : Upd [] w ((w.alloc (.deferred (some []))).alloc (.loop (R .ready none))) := ((Upd.refl [] w).alloc _).alloc _
  obtain ⟨V, hV⟩ : ∃ V, (w.alloc (.deferred (some []))).alloc (.loop (R .ready none)) = V := ⟨_, rfl⟩
  have hz : V.heap.size = w.heap.size + 2 := by rw [← hV]; simp
  have hL : V.heap[w.heap.size + 1]? = some (.loop (R .ready none)) := by
    rw [← hV]; have h := World.alloc_heap_new (w.alloc (.deferred (some []))) (.loop (R .ready none)); rwa [World.size_alloc] at h
  have hK : V.heap[w.heap.size]? = some (.deferred (some [])) := by
    rw [← hV]; exact (Below.heap_alloc _ _ _ (by simp)).trans (World.alloc_heap_new w _)
  rw [hV] at hu
  have hlast : ∀ {A B : World} {row : Option Nat}, (∀ r, row = some r → V.heap.size ≤ r ∧ ∃ o : Obj, A.heap[r]? = some o ∧ o.isWalk = true) → (∀ r, row = some r → w.heap.size ≤ r ∧ ∃ o : Obj, A.heap[r]? = some o ∧ o.isCells = false) :=
    fun h r e => by obtain ⟨h1, o, h2, h3⟩ := h r e; exact ⟨by omega, o, h2, Obj.not_cells_of_walk h3⟩
  refine ⟨w.heap.size + 1, [{ target := .collected w.heap.size, args := #[] }], V, { target := .fn (.func gf) lb, args := #[.func (.yield (w.heap.size + 1)) #[] #[]] }, V, gf, #[.func (.yield (w.heap.size + 1)) #[] #[]] ++ lb, V, ?_, ?_, ?_, ?_, fun _ => h1, ?_⟩
  · rw [← hV, hR]; exact run_enterLoop_outer _ _ _ _ _
  · simp only [resolve, hg]; simp [go_sem]
  · intro f hf; simp [Target.leads] at hf; subst hf; exact hFg
  · simp [invoke, go_sem, eg]
  refine (hseq (w.heap.size + 1) (fun pre W => I pre W ∧ W.heap[w.heap.size + 1]? = some (.loop (R .ready none)) ∧ W.heap[w.heap.size]? = some (.deferred (some []))) V hu.below
    (fun s A B row hs hg' hr => ⟨hI s A B row hs.1 hg' (hlast (B := B) hr), (grownBy_keeps hg' (fun r e => (hr r e).2) hs.2.1 rfl).trans hs.2.1, (grownBy_keeps hg' (fun r e => (hr r e).2) hs.2.2 rfl).trans hs.2.2⟩)
    (fun pre S A B hS hs hAB => ⟨hIu pre S A B (fun k hk => by have := hS k hk; omega) hs.1 hAB, (hAB.block _ (Array.getElem?_eq_some_iff.1 hs.2.1).1 (fun h => by have := hS _ h; omega)).trans hs.2.1, (hAB.block _ (Array.getElem?_eq_some_iff.1 hs.2.2).1 (fun h => by have := hS _ h; omega)).trans hs.2.2⟩) ?_ ⟨hIu [] [] w V (by simp) h0 hu, hL, hK⟩).mono ?_
  · rintro pre x W ⟨hi, hl, hk⟩ had
    have hlt := (Array.getElem?_eq_some_iff.1 hl).1
    have hy := run_yield (P := P) (args := encs x) hl (by rw [hR]; exact hps x)
    rw [hR] at hy
    refine ⟨fn, _, assign, body, hy, roundIn_of_wpIn hfn (hassign _ x W _ ⟨_, run_beginRound hl (by rw [hR]), ?_⟩)⟩
    obtain ⟨B, hB⟩ : ∃ B, W.putObj (w.heap.size + 1) (.loop { R .ready none with state := .busy }) = B := ⟨_, rfl⟩
    have hlB : B.heap[w.heap.size + 1]? = some (.loop { R .ready none with state := .busy }) := by rw [← hB]; exact World.putObj_heap_same hlt
    have hkB : B.heap[w.heap.size]? = some (.deferred (some [])) := by rw [← hB]; exact (World.putObj_heap_other (by omega)).trans hk
    have hiB : I pre B := by rw [← hB]; exact hI.putObj _ hi (by omega) hl rfl
    have haB : Adm pre x B := by rw [← hB]; exact (hA pre x).putObj (s := ()) _ had (by omega) hl rfl
    have hpB : Kp W B := by rw [← hB]; exact hKb _ _ _ _ (by omega) hl rfl rfl
    refine wpIn_mono (by have h := hbody (w.heap.size + 1) pre x B hiB haB; rw [← hB] at h; exact h) ?_
    rintro e a3 W3 ⟨rfl, k3, p3, i3⟩
    rw [hB] at k3 p3
    have hl3 := k3.same _ _ (by omega) hlB rfl
    have hr := run_endRound (P := P) none hl3
    refine ⟨_, _, by rw [hR] at hr; exact hr, rfl, ⟨hI.putObj _ i3 (by omega) hl3 rfl, ?_, (World.putObj_heap_other (by omega)).trans (k3.same _ _ (Nat.le_refl _) hkB rfl)⟩, hKt (hKt hpB p3) (hKb _ _ _ _ (by omega) hl3 rfl rfl)⟩
    rw [hR]
    exact World.putObj_heap_same (Array.getElem?_eq_some_iff.1 hl3).1
  · rintro e W2 ⟨⟨v, rfl⟩, xs, hS, hi, hl, hk⟩
    have hr := run_endLoop (P := P) hl (by rw [hR]; simp)
    exact ⟨none, _, by rw [hR] at hr; exact hr, hdone _ xs _ (Nat.le_refl _) hS (hI.putObj _ hi (by omega) hl rfl) ((World.putObj_heap_other (by omega)).trans hk)⟩
/-- The blocks of cells outside M, and all blocks below n outside M, lie as they lay. -/
def KX (n : Nat) (M : List Nat) (A B : World) : Prop := A.heap.size ≤ B.heap.size ∧ ∀ k, k < A.heap.size → k ∉ M → (k < n ∨ ∃ o : Obj, A.heap[k]? = some o ∧ o.isCells = true) → B.heap[k]? = A.heap[k]?
theorem KX.refl (n : Nat) (M : List Nat) (A : World) : KX n M A A := ⟨Nat.le_refl _, fun _ _ _ _ => rfl⟩
theorem KX.trans {n : Nat} {M : List Nat} {A B C : World} (h : KX n M A B) (k : KX n M B C) : KX n M A C :=
  ⟨Nat.le_trans h.1 k.1, fun i hi hM ho => by
    have e := h.2 i hi hM ho
    exact (k.2 i (Nat.lt_of_lt_of_le hi h.1) hM (by rw [e]; exact ho)).trans e⟩
theorem KX.put {n : Nat} {M : List Nat} {w : World} (hn : n ≤ w.heap.size) (W : World) (l : Nat) (o o' : Obj) (hl : w.heap.size ≤ l) (h : W.heap[l]? = some o) (h1 : o.isCells = false) (_ : o.isWalk = false) : KX n M W (W.putObj l o') :=
  ⟨(grownBy_putObj' W l o').size, fun k hk _ ho => World.putObj_heap_other (fun e => by
    subst e
    rcases ho with ho | ⟨o2, h2, h3⟩
    · omega
    · rw [h] at h2; cases h2; rw [h1] at h3; cases h3)⟩
theorem KX.of_upd {n : Nat} {M T : List Nat} {A B : World} (h : Upd T A B) (hT : ∀ k ∈ T, k ∈ M) : KX n M A B := ⟨h.size, fun k hk hM _ => h.block k hk (fun hh => hM (hT k hh))⟩
theorem KX.blk {n : Nat} {M : List Nat} {A B : World} (h : KX n M A B) {b : Nat} {c : List Value} {e : TypeId} (hb : Blk A b c e) (hM : b ∉ M) : Blk B b c e := (h.2 b hb.lt hM (.inr ⟨_, hb, rfl⟩)).trans hb
theorem KX.old {n : Nat} {M : List Nat} {w0 A B : World} (h : KX n M A B) (h0 : ∀ k, k < w0.heap.size → A.heap[k]? = w0.heap[k]?) (hn : w0.heap.size ≤ n) (hA : w0.heap.size ≤ A.heap.size) (hM : ∀ k ∈ M, w0.heap.size ≤ k) : ∀ k, k < w0.heap.size → B.heap[k]? = w0.heap[k]? :=
  fun k hk => (h.2 k (by omega) (fun hm => by have := hM k hm; omega) (.inl (by omega))).trans (h0 k hk)
theorem keepsFrom_upd {T : List Nat} {W W' : World} {B : Nat} (h : Upd T W W') (hT : ∀ k ∈ T, k < B ∨ ∀ o, W.heap[k]? = some o → o.isCells = true) : KeepsFrom B W W' :=
  ⟨h.size, fun k o hk h0 ho => (h.block k (Array.getElem?_eq_some_iff.1 h0).1 (fun hm => by
    rcases hT k hm with h1 | h1
    · omega
    · rw [h1 o h0] at ho; cases ho)).trans h0⟩
theorem wpListIn_mk {ops : Array Oper} {rest : List Oper} {o : Oper} {a : Act} {w : World} {Q : Exit → Act → World → Prop} (hg : o.guard = none) (l c : Operand) (t : TypeId) (hop : o.op = Op.makeSlice t l c)
    (e : TypeId) (size bytes : Nat) (z : Value) (ht : P.underlying t = some (.slice e)) (hinfo : (P.info? e).map (fun i => (i.zero, i.size, i.bytes)) = some (some z, size, bytes)) (hzs : z.cells.size = size) (hsz : 0 < size)
    (kl kc : IntKind) (L C : Int) (m : Nat) (hl : a.eval l = .int kl L) (hc : a.eval c = .int kc C) (hL : L = m) (hC : C = m) (hbytes : bytes * m ≤ 281474976710656) (h63 : m ≤ 9223372036854775807)
    (hK : wpListIn F n P ops Q rest (a.put o.dst (.slice (some ⟨w.heap.size, 0, none⟩) m m)) (w.alloc (.cells (rows m fun _ => z.cells.toList).toArray e))) :
    wpListIn F n P ops Q (o :: rest) a w := by
  obtain ⟨i, hi, hz, hs, hb⟩ := info_of hinfo
  subst hL hC
  refine wpListIn_plain hg fun K hK' => ?_
  have hb' : (i.bytes : Int) * (m : Int) ≤ 281474976710656 := by
    have h : ((i.bytes * m : Nat) : Int) ≤ 281474976710656 := by rw [hb]; omega
    rwa [Int.natCast_mul] at h
  have hr := run_make (P := P) w t e i z ht hi hz kl kc m m (by omega) (by omega) hb' (by omega)
  rw [Int.toNat_natCast, hs, ← hzs, made_rows z.cells m (by omega)] at hr
  unfold Oper.wpIn
  refine ⟨by simp [Oper.about, hop], ?_⟩
  rw [Oper.semAt_plain F _ _ (by rw [hop]; intro c hc'; cases hc')]
  simp only [execOp, hop, hl, hc, Sem.run_bind, Sem.run_pure, Result.andThen_ok, hr]
  exact hK' _ _ hK
end
end L
end Go.Proofs.Ytnmfihgdedifoaa
