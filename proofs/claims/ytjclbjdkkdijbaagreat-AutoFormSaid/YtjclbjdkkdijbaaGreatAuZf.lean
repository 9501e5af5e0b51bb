/- The numbering of pairs in memory: keys, cells, what number keeps. Conditions: none. What number keeps in memory where states and keys are plain: states, map, table. Conditions: none. Walks through package auto: the closures of Both. Conditions: none. -/
import Derived.Test.YtjclbjdkkdijbaaGreatMapG
import Derived.Test.YtjclbjdkkdijbaaGreatAuZd
import Derived.DeepKeys4
import Derived.Test.YtjclbjdkkdijbaaGreatAutoY
set_option linter.unusedVariables false
set_option linter.unusedSimpArgs false
set_option linter.unusedSectionVars false
section
open Go.RowKit
namespace Go.Proofs.YtjclbjdkkdijbaaGreat
open L
namespace Aut
open Auto
attribute [-go_sem] sliced
theorem pairLaw : WideMaps.KeyLaw Tryz.prog 125 :=
  deep_law_laid (show laidOutB Tryz.prog = true by kernel_rfl) (m := 3) (by omega) (show 125 < Tryz.prog.types.size from of_decide_eq_true (by kernel_rfl)) (by kernel_rfl) (by rw [Tryz.underlying125])
def pLit (p : Nat × Nat) : Lit := .string (keyBytes [.int .i64 p.1, .int .i64 p.2])
def pKey (p : Nat × Nat) : Value := .agg #[.int .i64 p.1, .int .i64 p.2]
def pOk (p : Nat × Nat) : Prop := p.1 < 1048576 ∧ p.2 < 1048576
theorem pEnc (p : Nat × Nat) (h : pOk p) : keyOf Tryz.prog 125 (pKey p) = some (pLit p) := by
  obtain ⟨x, y⟩ := p
  have w1 : (Lit.int .i64 (x : Int)).wf = true := lit_i64 ⟨by omega, by have := h.1; simp at this; omega⟩
  have w2 : (Lit.int .i64 (y : Int)).wf = true := lit_i64 ⟨by omega, by have := h.2; simp at this; omega⟩
  have hk : Tryz.prog.keyType 125 = true := by kernel_rfl
  have hc : Tryz.prog.cellsOf 3 = 1 := by kernel_rfl
  have hp : Tryz.prog.cellsOf 125 = 2 := by kernel_rfl
  obtain ⟨m, hm⟩ : ∃ m, Tryz.prog.types.size = m + 2 := ⟨Tryz.prog.types.size - 2, by have : 2 ≤ Tryz.prog.types.size := of_decide_eq_true (by kernel_rfl); omega⟩
  unfold keyOf
  rw [Tryz.underlying125]
  simp only
  rw [if_pos (by simp [hk, pKey, Value.formed, Tryz.underlying125, hp])]
  trace_state
  rw [hm]
  unfold Program.keyLits
  rw [Tryz.underlying125]
  simp [pKey, Value.cells, hp, Program.keyLits, Tryz.underlying3, hc, w1, w2, pLit]
theorem pInj (p q : Nat × Nat) (hp : pOk p) (hq : pOk q) (h : pLit p = pLit q) : p = q := by
  have h1 := pEnc p hp
  have h2 := pEnc q hq
  rw [h] at h1
  have h3 := (Go.Maps.Keyed.of_law pairLaw).inj h1 h2
  obtain ⟨x, y⟩ := p
  obtain ⟨x', y'⟩ := q
  simp [pKey] at h3
  rw [Prod.mk.injEq]
  omega
def pE : KE Tryz.prog 125 (Nat × Nat) := ⟨pKey, pLit, pOk, Go.Maps.Keyed.of_law pairLaw, pEnc, pInj⟩
end Aut
end Go.Proofs.YtjclbjdkkdijbaaGreat
end
section
open Go.RowKit
namespace Go.Proofs.YtjclbjdkkdijbaaGreat
open L
namespace Aut
open Auto
attribute [-go_sem] sliced
/-- The state of number: states, map, table; R: the row that is being written. -/
structure Np {κ : Type} {kt : TypeId} (E : KE Tryz.prog kt κ) (e : TypeId) (kk : Nat) (w0 : World) (mb : Nat) (sv tv : Value) (n m : Nat) (cs : List Value) (T : List (List Nat)) (F R : List Nat) (f : κ → Option Value) (w : World) : Prop where
  st : OwW e kk n w0 (.slice none 0 0) sv cs w
  mp : GM E w mb m f
  mn : w0.heap.size ≤ mb
  sm : ∀ q, sv.ownBlock = some q → q ≠ mb ∧ q ∉ F ∧ tv.ownBlock ≠ some q ∧ q ∉ R
  tb : OwnL 22 w0 tv (natRows T) F w
  mf : mb ∉ F ∧ tv.ownBlock ≠ some mb ∧ mb ∉ R
  rf : ∀ b ∈ R, b ∉ F ∧ tv.ownBlock ≠ some b ∧ w0.heap.size ≤ b ∧ b < w.heap.size
  fn : ∀ b ∈ F, w0.heap.size ≤ b
section
variable {κ : Type} [DecidableEq κ] {kt : TypeId} {E : KE Tryz.prog kt κ} {e : TypeId} {kk : Nat} {w0 w w' : World} {mb n m : Nat} {sv tv : Value} {cs : List Value} {T : List (List Nat)} {F R : List Nat} {f : κ → Option Value}
theorem Np.u (h : Np E e kk w0 mb sv tv n m cs T F R f w) : Upd [] w0 w := h.st.fresh
theorem Np.tn (h : Np E e kk w0 mb sv tv n m cs T F R f w) : ∀ q, tv.ownBlock = some q → w0.heap.size ≤ q := by
  obtain ⟨vals, h1, _⟩ := h.tb.ex
  exact h1.fresh
theorem Np.sn (h : Np E e kk w0 mb sv tv n m cs T F R f w) : ∀ q, sv.ownBlock = some q → w0.heap.size ≤ q := fun q hq => by
  rcases h.st.old q hq with h1 | h1
  · simp [Value.ownBlock] at h1
  · exact h1
theorem Np.quiet (h : Np E e kk w0 mb sv tv n m cs T F R f w) (hu : Upd [] w w') : Np E e kk w0 mb sv tv n m cs T F R f w' :=
  ⟨h.st.quiet hu, h.mp.upd hu (by simp), h.mn, h.sm, h.tb.upd hu (by simp), h.mf, fun b hb => ⟨(h.rf b hb).1, (h.rf b hb).2.1, (h.rf b hb).2.2.1, by have := (h.rf b hb).2.2.2; have := hu.size; omega⟩, h.fn⟩
/-- A new row. -/
theorem Np.row (h : Np E e kk w0 mb sv tv n m cs T F [] f w) (hu : Upd [] w w') (hs : w.heap.size < w'.heap.size) : Np E e kk w0 mb sv tv n m cs T F [w.heap.size] f w' := by
  have hz := h.u.size
  refine ⟨h.st.quiet hu, h.mp.upd hu (by simp), h.mn, fun q hq => ?_, h.tb.upd hu (by simp), ⟨h.mf.1, h.mf.2.1, by have := h.mp.lt; simp; omega⟩, fun b hb => ?_, h.fn⟩
  · obtain ⟨h1, h2, h3, _⟩ := h.sm q hq
    exact ⟨h1, h2, h3, by have := h.st.lt hq; simp; omega⟩
  · simp at hb
    subst hb
    exact ⟨fun h2 => by have := h.tb.lt _ h2; omega, fun h2 => by have := h.tb.own_lt _ h2; omega, hz, hs⟩
/-- The row is written. -/
theorem Np.set (h : Np E e kk w0 mb sv tv n m cs T F R f w) (hu : Upd R w w') : Np E e kk w0 mb sv tv n m cs T F R f w' :=
  ⟨h.st.other hu (fun b hb hv => (h.sm b hv).2.2.2 hb) (fun b hb => (h.rf b hb).2.2.1), h.mp.upd hu h.mf.2.2, h.mn, h.sm, h.tb.upd hu (fun b hb => ⟨(h.rf b hb).1, (h.rf b hb).2.1⟩), h.mf, fun b hb => ⟨(h.rf b hb).1, (h.rf b hb).2.1, (h.rf b hb).2.2.1, by have := (h.rf b hb).2.2.2; have := hu.size; omega⟩, h.fn⟩
/-- The map is written. -/
theorem Np.put {m' : Nat} {f' : κ → Option Value} (h : Np E e kk w0 mb sv tv n m cs T F R f w) (hu : Upd [mb] w w') (hm : GM E w' mb m' f') : Np E e kk w0 mb sv tv n m' cs T F R f' w' :=
  ⟨h.st.other hu (fun b hb hv => by simp at hb; exact (h.sm b hv).1 hb) (fun b hb => by simp at hb; subst hb; exact h.mn), hm, h.mn, h.sm, h.tb.upd hu (fun b hb => by simp at hb; subst hb; exact ⟨h.mf.1, h.mf.2.1⟩), h.mf, fun b hb => ⟨(h.rf b hb).1, (h.rf b hb).2.1, (h.rf b hb).2.2.1, by have := (h.rf b hb).2.2.2; have := hu.size; omega⟩, h.fn⟩
/-- The table stays, whatever old blocks are written. -/
theorem Np.keep {U : List Nat} (h : Np E e kk w0 mb sv tv n m cs T F R f w) (hu : Upd U w w') (hU : ∀ b ∈ U, b < w0.heap.size) : CL w' tv (natRows T) :=
  (h.tb.upd hu fun b hb => ⟨fun hf => by have := h.fn b hf; have := hU b hb; omega, fun hv => by have := h.tn b hv; have := hU b hb; omega⟩).cl
/-- A state more. -/
theorem Np.push {g cap : Nat} {news : List Value} (h : Np E e kk w0 mb sv tv n m cs T F R f w) (ho : w'.ownsRow 0 e kk (.slice (some ⟨g, 0, none⟩) (n + 1) cap) (n + 1) (cs ++ news)) (hu : Upd sv.ownBlock.toList w w') (hk : sv.ownBlock = some g ∨ w.heap.size ≤ g) :
    Np E e kk w0 mb (.slice (some ⟨g, 0, none⟩) (n + 1) cap) tv (n + 1) m (cs ++ news) T F R f w' := by
  have hz := h.u.size
  have hmb := h.mp.lt
  refine ⟨h.st.push ho hu hk, h.mp.upd hu (fun hb => (h.sm mb (by simpa using hb)).1 rfl), h.mn, fun q hq => ?_, h.tb.upd hu (fun b hb => ⟨fun hf => (h.sm b (by simpa using hb)).2.1 hf, (h.sm b (by simpa using hb)).2.2.1⟩), h.mf, fun b hb => ⟨(h.rf b hb).1, (h.rf b hb).2.1, (h.rf b hb).2.2.1, by have := (h.rf b hb).2.2.2; have := hu.size; omega⟩, h.fn⟩
  simp only [Value.ownBlock, Option.some.injEq] at hq
  subst hq
  rcases hk with h1 | h1
  · exact h.sm _ h1
  · exact ⟨by omega, fun hf => by have := h.tb.lt _ hf; omega, fun hv => by have := h.tb.own_lt _ hv; omega, fun hr => by have := (h.rf _ hr).2.2.2; omega⟩
/-- A row more. -/
theorem Np.done {g cap rb : Nat} {row : List Nat} {y : Value} {vals : List Value} (h : Np E e kk w0 mb sv tv n m cs T F [rb] f w) (h1 : OwnV w0 22 1 tv (natRows T).length vals w) (h2 : ∀ (i : Nat) (c : List Int), (natRows T)[i]? = some c → ∃ y, vals[i]? = some y ∧ SL w 1 y c.length (ints c) ∧ ∀ b, y.ownBlock = some b → b ∈ F)
    (hy : SL w 1 y row.length (ints (row.map Int.ofNat))) (hyv : y.ownBlock = some rb) (o : w'.ownsRow 0 22 1 (.slice (some ⟨g, 0, none⟩) ((natRows T).length + 1) cap) ((natRows T).length + 1) (vals ++ [y])) (hu : Upd tv.ownBlock.toList w w') (hk : tv.ownBlock = some g ∨ w.heap.size ≤ g) :
    Np E e kk w0 mb sv (.slice (some ⟨g, 0, none⟩) ((natRows T).length + 1) cap) n m cs (T ++ [row]) (F ++ [rb]) [] f w' := by
  obtain ⟨r1, r2, r3, r4⟩ := h.rf rb (by simp)
  have hT : natRows (T ++ [row]) = natRows T ++ [row.map Int.ofNat] := by simp [natRows]
  have hp := h.tb.push h1 h2 h.u.size (c := row.map Int.ofNat) (by rw [List.length_map]; exact hy) (fun b hb => by rw [hyv] at hb; cases hb; exact ⟨r2, r4⟩) o hu hk
  rw [hyv] at hp
  have hgm : g ≠ mb := fun e => by
    rcases hk with hk | hk
    · exact h.mf.2.1 (e ▸ hk)
    · have := h.mp.lt; omega
  have hmr : mb ≠ rb := fun e => h.mf.2.2 (by simp [e])
  refine ⟨h.st.other hu (fun b hb hv => (h.sm b hv).2.2.1 (by simpa using hb)) (fun b hb => h.tn b (by simpa using hb)), h.mp.upd hu (fun hb => h.mf.2.1 (by simpa using hb)), h.mn, fun q hq => ?_, by rw [hT]; exact hp, ⟨?_, by simpa [Value.ownBlock] using hgm, by simp⟩, by simp, fun b hb => by
    rcases List.mem_append.1 hb with hb | hb
    · exact h.fn b hb
    · simp at hb; subst hb; exact r3⟩
  · obtain ⟨a1, a2, a3, a4⟩ := h.sm q hq
    refine ⟨a1, fun hf => ?_, fun hv => ?_, by simp⟩
    · rcases List.mem_append.1 hf with h3 | h3
      · exact a2 h3
      · exact a4 h3
    · simp only [Value.ownBlock, Option.some.injEq] at hv
      subst hv
      rcases hk with h3 | h3
      · exact a3 h3
      · have := h.st.lt hq; omega
  · simp only [List.mem_append, List.mem_singleton, not_or]
    exact ⟨h.mf.1, hmr⟩
end
section
variable {α : Type} [DecidableEq α]
/-- The map of number as a function on keys. -/
def pmap (S : List α) (x : α) : Option Value := if x ∈ S then some (.int .i64 (place S x : Nat)) else none
theorem pmap_one (x z : α) : (if z = x then some (Value.int .i64 0) else none) = pmap [x] z := by
  unfold pmap
  by_cases h : z = x
  · subst h
    rw [if_pos rfl, if_pos (by simp)]
    simp [place]
  · rw [if_neg h, if_neg (by simpa using h)]
theorem pmap_push {S : List α} {x : α} (h : x ∉ S) (z : α) : (if z = x then some (Value.int .i64 (S.length : Nat)) else pmap S z) = pmap (S ++ [x]) z := by
  unfold pmap
  by_cases hz : z = x
  · subst hz
    have e : adds S z = S ++ [z] := by unfold adds; rw [if_neg h]
    rw [if_pos rfl, if_pos (by simp), ← e, place_adds, place_none h]
  · rw [if_neg hz]
    by_cases hm : z ∈ S
    · rw [if_pos hm, if_pos (by simp [hm]), place_pre (List.prefix_append S [x]) hm]
    · rw [if_neg hm, if_neg (by simp [hm, hz])]
theorem scan_old' {f : Nat → α} {k : Nat} {l S : List α} {row : List Nat} (h : scan f k l = (S, row)) (hm : f k ∈ S) : scan f (k + 1) l = (S, row ++ [place S (f k)]) := by
  show (adds (scan f k l).1 (f k), (scan f k l).2 ++ [place (scan f k l).1 (f k)]) = _
  rw [h]
  unfold adds
  rw [if_pos hm]
theorem scan_new' {f : Nat → α} {k : Nat} {l S : List α} {row : List Nat} (h : scan f k l = (S, row)) (hm : f k ∉ S) : scan f (k + 1) l = (S ++ [f k], row ++ [S.length]) := by
  show (adds (scan f k l).1 (f k), (scan f k l).2 ++ [place (scan f k l).1 (f k)]) = _
  rw [h]
  simp only
  unfold adds
  rw [if_neg hm, place_none hm]
theorem upTo_step' {first : α} {m : Nat} {nx : α → Nat → α} {i : Nat} {S S' : List α} {T : List (List Nat)} {row : List Nat} {s : α} (h : upTo first m nx i = (S, T)) (hs : S[i]? = some s) (hr : scan (nx s) m S = (S', row)) : upTo first m nx (i + 1) = (S', T ++ [row]) := by
  rw [upTo, h, hs]
  simp only [hr]
end
def pcs (S : List (Nat × Nat)) : List Value := S.flatMap fun p => [.int .i64 p.1, .int .i64 p.2]
theorem pcs_snoc (S : List (Nat × Nat)) (p : Nat × Nat) : pcs (S ++ [p]) = pcs S ++ [.int .i64 p.1, .int .i64 p.2] := by simp [pcs]
theorem pcs_at : ∀ {S : List (Nat × Nat)} {i : Nat} {p : Nat × Nat}, S[i]? = some p → (pcs S)[i * 2]? = some (.int .i64 p.1) ∧ (pcs S)[i * 2 + 1]? = some (.int .i64 p.2)
  | [], _, _, h => by simp at h
  | x :: q, 0, e, h => by simp at h; subst h; exact ⟨rfl, rfl⟩
  | x :: q, i + 1, e, h => by
    have ih := pcs_at (S := q) (i := i) (p := e) (by simpa using h)
    have e1 : pcs (x :: q) = .int .i64 x.1 :: .int .i64 x.2 :: pcs q := rfl
    rw [e1, show (i + 1) * 2 = i * 2 + 1 + 1 by omega]
    exact ⟨by simpa using ih.1, by simpa using ih.2⟩
theorem infoPair : (Tryz.prog.info? 125).map (fun i => (i.zero, i.size, i.bytes)) = some (some (.agg #[.int .i64 0, .int .i64 0]), 2, 16) := by kernel_rfl
end Aut
end Go.Proofs.YtjclbjdkkdijbaaGreat
end
section
open Go.RowKit
namespace Go.Proofs.YtjclbjdkkdijbaaGreat
open L
namespace Aut
open Auto
attribute [-go_sem] sliced
section
variable {w w' : World} {v : Value}
/-- A pair in its box is returned. -/
theorem ret_pair {w0 : World} {fn : Func} {a : Act} {p : Tmp} {rb : Nat} {q : Nat × Nat} (h : fn.results = #[.cell p 125]) (hp : a.tmps.getD p undef = .pointer (some ⟨rb, 0, none⟩)) (hB : Blk w rb [.int .i64 q.1, .int .i64 q.2] 125) (hdf : a.defers = []) (hu : Upd [] w0 w) :
    bodyPost Tryz.prog fn (fun e w' => e = .returned (pKey q) ∧ Upd [] w0 w') .ret a w := by
  have hl : (Tryz.prog.info? 125).map (·.size) = some 2 := by kernel_rfl
  exact bodyPost_ret (results_cell_row h a.tmps w rb 125 #[.int .i64 q.1, .int .i64 q.2] (0, 0) (.struct _) hp hB Tryz.underlying125 rfl (by simpa using hl)) hdf ⟨rfl, hu⟩
theorem ret_pair2 {w0 : World} {fn : Func} {a : Act} {p r : Tmp} {rb : Nat} {q : Nat × Nat} {n : Int} (h : fn.results = #[.cell p 125, .tmp r]) (hp : a.tmps.getD p undef = .pointer (some ⟨rb, 0, none⟩)) (hr : a.tmps.getD r undef = .int .i64 n) (hB : Blk w rb [.int .i64 q.1, .int .i64 q.2] 125) (hdf : a.defers = []) (hu : Upd [] w0 w) :
    bodyPost Tryz.prog fn (fun e w' => e = .returned (.tuple #[pKey q, .int .i64 n]) ∧ Upd [] w0 w') .ret a w := by
  have hl : (Tryz.prog.info? 125).map (·.size) = some 2 := by kernel_rfl
  refine bodyPost_ret (v := .tuple #[pKey q, .int .i64 n]) ?_ hdf ⟨rfl, hu⟩
  rw [results_cell_tmp h, hp]
  have h2 := run_loadVar_row (P := Tryz.prog) w rb 125 125 #[.int .i64 q.1, .int .i64 q.2] (0, 0) (.struct _) hB Tryz.underlying125 rfl (by simpa using hl)
  simp [asAddr, h2, Result.andThen, hr, pKey]
/-- Two boxes for pairs. -/
theorem two_pairs (w : World) (p r : Value) (t1 t2 : Value) (T : TypeId) : ∃ w1, w1 = ((w.alloc (.cells #[p, r] T)).alloc (.cells #[t1, t2] T)) ∧ Blk w1 w.heap.size [p, r] T ∧ Blk w1 (w.heap.size + 1) [t1, t2] T ∧ Upd [] w w1 := by
  refine ⟨_, rfl, (Blk.new w [p, r] T).alloc _, ?_, ((Upd.refl [] w).alloc _).alloc _⟩
  have z1 : (w.alloc (.cells #[p, r] T)).heap.size = w.heap.size + 1 := by simp
  have := Blk.new (w.alloc (.cells #[p, r] T)) [t1, t2] T
  rw [z1] at this
  exact this
theorem cell2_set {rb : Nat} {o0 o1 a b : Value} {e : TypeId} (h : Blk w rb [o0, o1] e) :
    Blk ((w.setCell ⟨rb, 0, none⟩ a).setCell ⟨rb, 1, none⟩ b) rb [a, b] e ∧ Upd [rb] w ((w.setCell ⟨rb, 0, none⟩ a).setCell ⟨rb, 1, none⟩ b) :=
  ⟨(h.set 0 a).set 1 b, ((Upd.refl [rb] w).set (p := ⟨rb, 0, none⟩) (by simp) a).set (p := ⟨rb, 1, none⟩) (by simp) b⟩
set_option maxRecDepth 100000 in
theorem Both1_calls (q : Nat × Nat) : Calls Tryz.prog 75 #[pKey q] w fun e w' => e = .returned (pKey q) ∧ Upd [] w w' := by
  obtain ⟨w1, hw1, b1, b2, u1⟩ := two_pairs w (.int .i64 q.1) (.int .i64 q.2) (.int .i64 0) (.int .i64 0) 125
  show Calls Tryz.prog 75 #[.agg #[.int .i64 q.1, .int .i64 q.2]] w _
  go_enter Tryz.func75, Tryz.ntmps75
  go_upto_region 1 with fail
  rw [← hw1]
  have k0 := b1.cell (i := 0) rfl
  have k1 := b1.cell (i := 1) rfl
  have r0 := b2.cell (i := 0) rfl
  have r1 := b2.cell (i := 1) rfl
  have rf : ∀ q, w1.frozen? ⟨w.heap.size + 1, q, none⟩ = false := b2.free
  have HB := Lib.hid (And.intro b2 u1)
  have HPA := Lib.hid (Nat.le_refl w.heap.size)
  clear hw1 b1 b2 u1
  generalize hpa : w.heap.size = pa at *
  have HPA := Lib.hid (Nat.le_of_eq hpa)
  clear hpa
  go_wp2_with fail
  have hs := cell2_set (a := .int .i64 q.1) (b := .int .i64 q.2) HB.out.1
  exact ret_pair rfl rfl hs.1 rfl (HB.out.2.fresh hs.2 (fun b hb => .inr (by simp at hb; subst hb; have := HPA.out; omega)))
set_option maxRecDepth 100000 in
set_option maxHeartbeats 8000000 in
theorem Both2_calls {a b : Au} {ab cb bb : Nat} {a1 a2 b1 b2 : Option Addr} {c1 c2 d1 d2 : Nat} {x3 y3 vc : Value} {cs : List Int} {x y k : Nat} (ha : AuF w a [.slice a1 a.cuts.length c1, .slice a2 a.next.length c2, x3]) (hb : AuF w b [.slice b1 b.cuts.length d1, .slice b2 b.next.length d2, y3])
    (oa : Ok a) (ob : Ok b) (p0 : w.cell? ⟨ab, 0, none⟩ = some (.slice a1 a.cuts.length c1)) (p1 : w.cell? ⟨ab, 1, none⟩ = some (.slice a2 a.next.length c2)) (r0 : w.cell? ⟨bb, 0, none⟩ = some (.slice b1 b.cuts.length d1)) (r1 : w.cell? ⟨bb, 1, none⟩ = some (.slice b2 b.next.length d2))
    (hc : w.cell? ⟨cb, 0, none⟩ = some vc) (hcs : SL w 1 vc cs.length (ints cs)) (hk : k < cs.length) (hcr : ∀ c ∈ cs, 0 ≤ c ∧ c ≤ 255) (hx : x < a.next.length) (hy : y < b.next.length) :
    Calls Tryz.prog 76 #[pKey (x, y), .int .i64 k, .pointer (some ⟨ab, 0, none⟩), .pointer (some ⟨cb, 0, none⟩), .pointer (some ⟨bb, 0, none⟩)] w fun e w' => e = .returned (.tuple #[pKey (bothNx a b cs (x, y) k), .int .i64 0]) ∧ Upd [] w w' := by
  obtain ⟨w1, hw1, e1, e2, u1⟩ := two_pairs w (.int .i64 (x : Nat)) (.int .i64 (y : Nat)) (.int .i64 0) (.int .i64 0) 125
  show Calls Tryz.prog 76 #[.agg #[.int .i64 x, .int .i64 y], .int .i64 k, .pointer (some ⟨ab, 0, none⟩), .pointer (some ⟨cb, 0, none⟩), .pointer (some ⟨bb, 0, none⟩)] w _
  obtain ⟨ga, oa2, ra, rac, hae, hac, harow⟩ := ha.row hx
  cases hae
  obtain ⟨gb, ob2, rb, rbc, hbe, hbc, hbrow⟩ := hb.row hy
  cases hbe
  obtain ⟨ca, cap, rfl, _, _, hcc⟩ := hcs.elems
  obtain ⟨gc, oc, rfl, hcg⟩ := hcc (by omega)
  have hck := hcg k _ (ints_get (gd_some (d := 0) hk))
  have hcr := hcr _ (gd_memA (d := 0) hk)
  have HS := Lib.hid (show bothNx a b cs (x, y) k = (((a.next.getD x []).getD (cls a.cuts (cs.getD k 0)) 0).toNat, ((b.next.getD y []).getD (cls b.cuts (cs.getD k 0)) 0).toNat) from rfl)
  generalize cs.getD k 0 = c at *
  have hka := (cut_of oa.inc oa.mem0 hcr.1).1
  have hkb := (cut_of ob.inc ob.mem0 hcr.1).1
  have hra := oa.rows _ (gd_memA (d := []) hx)
  have hrb := ob.rows _ (gd_memA (d := []) hy)
  have HCA := Lib.hid (fun (w5 : World) (u5 : Upd [] w1 w5) => class_calls (w := w5) (v := .slice a1 a.cuts.length c1) (by
    obtain ⟨_, _, _, he, h3, _, _⟩ := ha
    cases he
    exact (h3.upd u1 (by simp)).upd u5 (by simp)) oa.mem0 (by have := cuts_len oa; omega) oa.inc hcr.1 hcr.2)
  have HCB := Lib.hid (fun (w5 : World) (u5 : Upd [] w1 w5) => class_calls (w := w5) (v := .slice b1 b.cuts.length d1) (by
    obtain ⟨_, _, _, he, h3, _, _⟩ := hb
    cases he
    exact (h3.upd u1 (by simp)).upd u5 (by simp)) ob.mem0 (by have := cuts_len ob; omega) ob.inc hcr.1 hcr.2)
  generalize cls a.cuts c = ka at *
  generalize cls b.cuts c = kb at *
  generalize a.next.getD x [] = rowa at *
  generalize b.next.getD y [] = rowb at *
  obtain ⟨_, _, he, _, _, hce⟩ := harow.elems
  cases he
  obtain ⟨ga2, oa3, rfl, kka⟩ := hce (by omega)
  obtain ⟨_, _, he, _, _, hce2⟩ := hbrow.elems
  cases he
  obtain ⟨gb2, ob3, rfl, kkb⟩ := hce2 (by omega)
  have hta := kka ka _ (ints_get (gd_some (d := 0) (by omega)))
  have htb := kkb kb _ (ints_get (gd_some (d := 0) (by omega)))
  have hna := (hra.2 _ (gd_memA (d := 0) (by omega : ka < rowa.length))).1
  have hnb := (hrb.2 _ (gd_memA (d := 0) (by omega : kb < rowb.length))).1
  obtain ⟨ta, hta'⟩ : ∃ ta : Nat, rowa.getD ka 0 = ta := ⟨_, (Int.toNat_of_nonneg hna).symm⟩
  obtain ⟨tb, htb'⟩ : ∃ tb : Nat, rowb.getD kb 0 = tb := ⟨_, (Int.toNat_of_nonneg hnb).symm⟩
  rw [hta', htb', Int.toNat_natCast, Int.toNat_natCast] at HS
  rw [hta'] at hta
  rw [htb'] at htb
  have hkra : ka < rowa.length := by omega
  have hkrb : kb < rowb.length := by omega
  have q0 := u1.some p0 (by simp)
  have q1 := u1.some p1 (by simp)
  have s0 := u1.some r0 (by simp)
  have s1 := u1.some r1 (by simp)
  have m1 := u1.some hac (by simp)
  have m2 := u1.some hbc (by simp)
  have m3 := u1.some hta (by simp)
  have m4 := u1.some htb (by simp)
  have m5 := u1.some hc (by simp)
  have m6 := u1.some hck (by simp)
  have hki : (k : Int) < cs.length := by omega
  have hxi : (x : Int) < a.next.length := by omega
  have hyi : (y : Int) < b.next.length := by omega
  have k0 := e1.cell (i := 0) rfl
  have k1 := e1.cell (i := 1) rfl
  have HB := Lib.hid (And.intro e2 u1)
  clear ha hb oa ob p0 p1 r0 r1 hc hcs hcr hac hbc harow hbrow hcc hcg hck hra hrb hka hkb hce hce2 kka kkb hta htb hna hnb hta' htb' e1 e2 u1
  go_enter Tryz.func76, Tryz.ntmps76
  go_upto_region 1 with fail
  rw [← hw1]
  clear hw1
  generalize hpa : w.heap.size = pa at *
  have HPA := Lib.hid (Nat.le_of_eq hpa)
  clear hpa
  refine wp_region_ord 31 1 [0, 1, 2, 3, 4, 5, 6, 7, 8, 9, 10, 11, 15, 16, 17, 18, 19, 20, 21, 22, 23, 24, 25, 26, 13, 14, 28, 29, 30, 32] [1, 3, 5, 7, 8, 11, 16, 18, 20, 22, 23, 26, 14, 29] [0, 1, 2, 3, 4, 5, 6, 7, 8, 9, 10, 11, 15, 16, 17, 18, 19, 20, 21, 22, 23, 24, 25, 26, 12, 13, 14, 27, 28, 29, 30, 31, 32] (fun w' => ∃ x : Ext w1, w' = x.val) (by kernel_rfl) (by kernel_rfl) (Ext.of (by iterate 25 (first | exact Upd.refl _ _ | assumption | refine Upd.alloc ?_ _ | refine Upd.drew ?_ | refine Upd.drewN ?_ _ | refine Upd.dl ?_ | refine Upd.step ?_ (Ext.upd _) | refine Upd.nil ?_ | skip))) ?_
  repeat (first | (refine wpOrd_load rfl rfl rfl rfl (fun K hK => ?_); go_big_quiet_step (fail); refine wpQuiet_nil ?_; refine hK _ ?_; clear hK K) | (refine wpOrd_free rfl rfl rfl (fun K hK => ?_); go_big_quiet_step (fail); refine wpQuiet_nil ?_; refine hK _ ?_; clear hK K))
  refine wpOrd_fix rfl rfl (fun K hK => ?_)
  go_wp2_with ((with_reducible refine (HCA.out _ (by iterate 25 (first | exact Upd.refl _ _ | assumption | refine Upd.alloc ?_ _ | refine Upd.drew ?_ | refine Upd.drewN ?_ _ | refine Upd.dl ?_ | refine Upd.step ?_ (Ext.upd _) | refine Upd.nil ?_ | skip))).mono ?_); rintro e w5 ⟨rfl, u5⟩)
  have HU5 := Lib.hid (show Upd [] w1 w5 from Upd.step (by iterate 25 (first | exact Upd.refl _ _ | assumption | refine Upd.alloc ?_ _ | refine Upd.drew ?_ | refine Upd.drewN ?_ _ | refine Upd.dl ?_ | refine Upd.step ?_ (Ext.upd _) | refine Upd.nil ?_ | skip)) u5)
  refine ⟨fun _ => Ext.of HU5.out, ?_⟩
  repeat (first | (refine wpOrd_load rfl rfl rfl rfl (fun K hK => ?_); go_big_quiet_step (fail); refine wpQuiet_nil ?_; refine hK _ ?_; clear hK K) | (refine wpOrd_free rfl rfl rfl (fun K hK => ?_); go_big_quiet_step (fail); refine wpQuiet_nil ?_; refine hK _ ?_; clear hK K))
  refine wpOrd_fix rfl rfl (fun K hK => ?_)
  go_wp2_with ((with_reducible refine (HCB.out _ HU5.out).mono ?_); rintro e w6 ⟨rfl, u6⟩)
  have HU6 := Lib.hid (HU5.out.step u6)
  refine ⟨fun _ => Ext.of HU6.out, ?_⟩
  repeat (first | (refine wpOrd_load rfl rfl rfl rfl (fun K hK => ?_); go_big_quiet_step (fail); refine wpQuiet_nil ?_; refine hK _ ?_; clear hK K) | (refine wpOrd_free rfl rfl rfl (fun K hK => ?_); go_big_quiet_step (fail); refine wpQuiet_nil ?_; refine hK _ ?_; clear hK K))
  have bR := HB.out.1.upd HU6.out (by simp)
  have r0 := bR.cell (i := 0) rfl
  have r1 := bR.cell (i := 1) rfl
  have rf : ∀ q, w6.frozen? ⟨pa + 1, q, none⟩ = false := bR.free
  have HBR := Lib.hid bR
  clear bR
  refine wpOrd_fix rfl rfl (fun K hK => ?_)
  go_wp2_with fail
  refine ⟨fun hC => absurd hC (by decide), ?_⟩
  repeat (first | (refine wpOrd_load rfl rfl rfl rfl (fun K hK => ?_); go_big_quiet_step (fail); refine wpQuiet_nil ?_; refine hK _ ?_; clear hK K) | (refine wpOrd_free rfl rfl rfl (fun K hK => ?_); go_big_quiet_step (fail); refine wpQuiet_nil ?_; refine hK _ ?_; clear hK K))
  refine wpOrd_nil ?_
  go_wp2_with fail
  have hs := cell2_set (a := .int .i64 (ta : Nat)) (b := .int .i64 (tb : Nat)) HBR.out
  rw [HS.out]
  exact ret_pair2 (q := (ta, tb)) rfl rfl rfl hs.1 rfl ((HB.out.2.step HU6.out).fresh hs.2 (fun b hb => .inr (by simp at hb; subst hb; have := HPA.out; omega)))
end
end Aut
end Go.Proofs.YtjclbjdkkdijbaaGreat
end
