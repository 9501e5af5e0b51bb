/- A range over a function whose rounds are told what holds of what they are handed. No program is named. Conditions: none. -/
import Derived.Test.YtfkgpecglcjpkaaGreatInF
set_option linter.unusedVariables false
set_option linter.unusedSimpArgs false
set_option linter.unusedSectionVars false
open Go.RowKit Go.Shelf
namespace Go.Proofs.YtfkgpecglcjpkaaGreat
namespace L
section
variable {F : Fence} {n : Nat} {P : Program}
/-- The iterator's word: it hands over only what Adm lets, and comes to its end; the rounds keep Kp. -/
def SeqQ {α : Type} (F : Fence) (n : Nat) (P : Program) (g : Nat) (lb : Array Value) (encs : α → Array Value) (Kp : World → World → Prop) (Adm : List α → α → World → Prop) (S : List α → Prop) (w : World) : Prop :=
  ∀ (l : Nat) (J : List α → World → Prop) (W : World), Below w.heap.size w W → AbidesFrom W.heap.size J → (∀ pre A B, J pre A → Upd [] A B → J pre B) →
    (∀ pre x W1, J pre W1 → Adm pre x W1 → YieldAt F (n - 1) P l (encs x) W1 fun e W' => e = .returned (.bool true) ∧ J (pre ++ [x]) W' ∧ Kp W1 W') →
    J [] W → CallsIn F n P g (#[.func (.yield l) #[] #[]] ++ lb) W fun e W' => (∃ v, e = .returned v) ∧ ∃ xs, S xs ∧ J xs W'
theorem wpIn_rangeQ {α : Type} {g : Operand} {ps : Array Tmp} {assign body : Code} {Q : Exit → Act → World → Prop} {a : Act} {w : World}
    (hro : F.round = none) (h1 : 1 ≤ n) {gf : Nat} {lb : Array Value} (hg : a.eval g = .func (.func gf) #[] lb) (hFg : F.fn gf) (eg : ∀ args w, (callFunc gf args).run P w = .ok (.enter gf args) w)
    {encs : α → Array Value} {Kp : World → World → Prop} {Adm : List α → α → World → Prop} {S : List α → Prop} (hseq : SeqQ F (n - 1) P gf lb encs Kp Adm S w)
    (hKt : ∀ {A B C : World}, Kp A B → Kp B C → Kp A C) (hKb : ∀ (W : World) (l : Nat) (o o' : Obj), w.heap.size ≤ l → W.heap[l]? = some o → o.isCells = false → o.isWalk = false → Kp W (W.putObj l o')) (hps : ∀ x, (encs x).size = ps.size)
    (I : List α → World → Prop) (hI : OwnFrom w.heap.size I) (hIu : ∀ pre A B, I pre A → Upd [] A B → I pre B) (h0 : I [] w) (hA : ∀ pre x, OwnFrom w.heap.size (fun (_ : Unit) W => Adm pre x W)) (a₁ : α → Act)
    (hassign : ∀ (l : Nat) (x : α) (W : World) (K : Act → World → Prop), K (a₁ x) W →
      assign.wpIn (F.inRound l) (n - 1 - 1) P (Exit.then K (fun _ _ _ => False)) { tmps := (ps.zip (encs x)).foldl (fun t (p, v) => t.setIfInBounds p v) a.tmps, defers := [] } W)
    (hbody : ∀ (l : Nat) (pre : List α) (x : α) (W : World), I pre W → Adm pre x W → body.wpIn (F.inRound l) (n - 1 - 1) P (fun e _ W' => e = .normal ∧ KeepsFrom w.heap.size W W' ∧ Kp W W' ∧ I (pre ++ [x]) W') (a₁ x) W)
    (hdone : ∀ (D : Nat) (xs : List α) (W : World), w.heap.size ≤ D → S xs → I xs W → W.heap[D]? = some (.deferred (some [])) → Q .normal { a with defers := { target := .collected D, args := #[] } :: a.defers } W) :
    (Code.rangeFunc g ps assign body).wpIn F n P Q a w := by
  refine wpIn_rangeFunc fun fn hfn => ?_
  rw [hro]
  obtain ⟨R, hR⟩ : ∃ R : LoopState → Option Code → Loop, R = fun st pe => { state := st, pending := pe, fn, tmps := a.tmps, params := ps, assign, body, defers := w.heap.size } := ⟨_, rfl⟩
  have hu : Upd [] w ((w.alloc (.deferred (some []))).alloc (.loop (R .ready none))) := ((Upd.refl [] w).alloc _).alloc _
  obtain ⟨V, hV⟩ : ∃ V, (w.alloc (.deferred (some []))).alloc (.loop (R .ready none)) = V := ⟨_, rfl⟩
  have hz : V.heap.size = w.heap.size + 2 := by rw [← hV]; simp
  have hL : V.heap[w.heap.size + 1]? = some (.loop (R .ready none)) := by
    rw [← hV]; have h := World.alloc_heap_new (w.alloc (.deferred (some []))) (.loop (R .ready none)); rwa [World.size_alloc] at h
  have hK : V.heap[w.heap.size]? = some (.deferred (some [])) := by
    rw [← hV]; exact (Below.heap_alloc _ _ _ (by simp)).trans (World.alloc_heap_new w _)
  rw [hV] at hu
  have hlast : ∀ {A B : World} {row : Option Nat}, (∀ r, row = some r → V.heap.size ≤ r ∧ ∃ o : Obj, A.heap[r]? = some o ∧ o.isWalk = true) → (∀ r, row = some r → w.heap.size ≤ r ∧ ∃ o : Obj, A.heap[r]? = some o ∧ o.isCells = false) :=
    fun h r e => by obtain ⟨h1, o, h2, h3⟩ := h r e; exact ⟨by omega, o, h2, Obj.not_cells_of_walk h3⟩
  refine ⟨w.heap.size + 1, [{ target := .collected w.heap.size, args := #[] }], V, { target := .fn (.func gf) lb, args := #[.func (.yield (w.heap.size + 1)) #[] #[]] }, V, gf, #[.func (.yield (w.heap.size + 1)) #[] #[]] ++ lb, V, ?_, ?_, ?_, ?_, fun _ => h1, ?_⟩
  · rw [← hV, hR]; exact run_enterLoop_outer _ _ _ _ _
  · simp only [resolve, hg]; simp [go_sem]
  · intro f hf; simp [Target.leads] at hf; subst hf; exact hFg
  · simp [invoke, go_sem, eg]
  refine (hseq (w.heap.size + 1) (fun pre W => I pre W ∧ W.heap[w.heap.size + 1]? = some (.loop (R .ready none)) ∧ W.heap[w.heap.size]? = some (.deferred (some []))) V hu.below
    (fun s A B row hs hg' hr => ⟨hI s A B row hs.1 hg' (hlast (B := B) hr), (grownBy_keeps hg' (fun r e => (hr r e).2) hs.2.1 rfl).trans hs.2.1, (grownBy_keeps hg' (fun r e => (hr r e).2) hs.2.2 rfl).trans hs.2.2⟩)
    (fun pre A B hs hAB => ⟨hIu pre A B hs.1 hAB, (hAB.block _ (Array.getElem?_eq_some_iff.1 hs.2.1).1 (by simp)).trans hs.2.1, (hAB.block _ (Array.getElem?_eq_some_iff.1 hs.2.2).1 (by simp)).trans hs.2.2⟩) ?_ ⟨hIu [] w V h0 hu, hL, hK⟩).mono ?_
  · rintro pre x W ⟨hi, hl, hk⟩ had
    have hlt := (Array.getElem?_eq_some_iff.1 hl).1
    have hy := run_yield (P := P) (args := encs x) hl (by rw [hR]; exact hps x)
    rw [hR] at hy
    refine ⟨fn, _, assign, body, hy, roundIn_of_wpIn hfn (hassign _ x W _ ⟨_, run_beginRound hl (by rw [hR]), ?_⟩)⟩
    obtain ⟨B, hB⟩ : ∃ B, W.putObj (w.heap.size + 1) (.loop { R .ready none with state := .busy }) = B := ⟨_, rfl⟩
    have hlB : B.heap[w.heap.size + 1]? = some (.loop { R .ready none with state := .busy }) := by rw [← hB]; exact World.putObj_heap_same hlt
    have hkB : B.heap[w.heap.size]? = some (.deferred (some [])) := by rw [← hB]; exact (World.putObj_heap_other (by omega)).trans hk
    have hiB : I pre B := by rw [← hB]; exact hI.putObj _ hi (by omega) hl rfl
    have haB : Adm pre x B := by rw [← hB]; exact (hA pre x).putObj (s := ()) _ had (by omega) hl rfl
    have hpB : Kp W B := by rw [← hB]; exact hKb _ _ _ _ (by omega) hl rfl rfl
    refine wpIn_mono (by have h := hbody (w.heap.size + 1) pre x B hiB haB; rw [← hB] at h; exact h) ?_
    rintro e a3 W3 ⟨rfl, k3, p3, i3⟩
    rw [hB] at k3 p3
    have hl3 := k3.same _ _ (by omega) hlB rfl
    have hr := run_endRound (P := P) none hl3
    refine ⟨_, _, by rw [hR] at hr; exact hr, rfl, ⟨hI.putObj _ i3 (by omega) hl3 rfl, ?_, (World.putObj_heap_other (by omega)).trans (k3.same _ _ (Nat.le_refl _) hkB rfl)⟩, hKt (hKt hpB p3) (hKb _ _ _ _ (by omega) hl3 rfl rfl)⟩
    rw [hR]
    exact World.putObj_heap_same (Array.getElem?_eq_some_iff.1 hl3).1
  · rintro e W2 ⟨⟨v, rfl⟩, xs, hS, hi, hl, hk⟩
    have hr := run_endLoop (P := P) hl (by rw [hR]; simp)
    exact ⟨none, _, by rw [hR] at hr; exact hr, hdone _ xs _ (Nat.le_refl _) hS (hI.putObj _ hi (by omega) hl rfl) ((World.putObj_heap_other (by omega)).trans hk)⟩
end
end L
end Go.Proofs.YtfkgpecglcjpkaaGreat
