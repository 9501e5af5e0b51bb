/- The reference's Pick: what stands between two rounds of its second loop. Conditions: none. -/
import Derived.Test.YtnmfihgdedifoaaTrimRA
set_option linter.unusedVariables false
set_option linter.unusedSimpArgs false
set_option linter.unusedSectionVars false
open Go.RowKit
namespace Go.Proofs.Ytnmfihgdedifoaa
open L R01
namespace Trim
def lemNo' (q : Nat → Bool) (j : Nat) : Int := if q j then (cnt q j : Int) else -1
theorem refTo_mem {l : List StepD} {u : Nat → Bool} {k n : Nat} {s : StepD} (hs : l[k]? = some s) (hu : u k = true) (h4 : s.kind = 4) (hn : s.node = (n : Int)) : ∀ {m : Nat}, k < m → refTo l u m n = true
  | 0, h => by omega
  | m + 1, h => by
    rw [refTo]
    by_cases e : k = m
    · subst e; rw [hs]; simp [hu, h4, hn]
    · rw [refTo_mem hs hu h4 hn (m := m) (by omega)]; rfl
theorem atI_tab {n j : Nat} {f : Nat → Int} (h : j < n) : atI (tabI n f) j = f j := by
  unfold atI
  rw [List.getD_eq_getElem?_getD, tabI_get h]; rfl
theorem tabI_snoc (n : Nat) (f : Nat → Int) : tabI (n + 1) f = tabI n f ++ [f n] := by simp [tabI, List.range_succ]
def SE2 (vn : Value) (W : World) (s : StepD) (cs : List Value) : Prop := ∃ vp vl vh, cs = stC s vp vl vh ∧ StF W s vp vl vh ∧ ∀ g, vn.ownBlock = some g → vp.ownBlock ≠ some g ∧ vl.ownBlock ≠ some g ∧ vh.ownBlock ≠ some g
theorem SE2.kd {vn : Value} {W W' : World} {s : StepD} {cs : List Value} {T : List Nat} (h : SE2 vn W s cs) (hT : Off W T [3]) (u : Upd T W W') : SE2 vn W' s cs := by
  obtain ⟨vp, vl, vh, rfl, hF, hn⟩ := h
  exact ⟨vp, vl, vh, rfl, hF.kd hT (by simp) u, hn⟩
theorem SE2.num {vn vn' : Value} {W W' : World} {s : StepD} {cs : List Value} (h : SE2 vn W s cs) (u : Upd vn.ownBlock.toList W W') (hk : ∀ g, vn'.ownBlock = some g → vn.ownBlock = some g ∨ W.heap.size ≤ g) : SE2 vn' W' s cs := by
  obtain ⟨vp, vl, vh, rfl, ⟨f1, f2, f3, f4⟩, hn⟩ := h
  refine ⟨vp, vl, vh, rfl, ⟨f1.upd u (fun b hb => (hn b (by simpa using hb)).1), f2.upd u (fun b hb => (hn b (by simpa using hb)).2.1), f3.upd u (fun b hb => (hn b (by simpa using hb)).2.2), f4⟩, fun g hg => ?_⟩
  rcases hk g hg with h | h
  · exact hn g h
  · exact ⟨fun e => by have := f1.lt _ e; omega, fun e => by have := f2.lt _ e; omega, fun e => by have := f3.lt _ e; omega⟩
def StN (w : World) (vn v : Value) (S : List StepD) (W : World) : Prop := ∃ f : Nat → List Value, W.ownsRow 0 56 7 v S.length (rows S.length f) ∧ (∀ i, (f i).length = 7) ∧ (∀ (i : Nat) (s : StepD), S[i]? = some s → SE2 vn W s (f i)) ∧ ∀ g, v.ownBlock = some g → w.heap.size ≤ g
theorem StN.stl {w W : World} {vn v : Value} {S : List StepD} (h : StN w vn v S W) : StL W v S := by
  obtain ⟨f, h1, h2, h3, _⟩ := h
  exact ⟨f, h1, h2, fun i s hs => by obtain ⟨vp, vl, vh, e, hF, _⟩ := h3 i s hs; exact ⟨vp, vl, vh, e, hF⟩⟩
structure RK2 (w : World) (nl zB : Nat) (pc : List Value) (vl vs vn : Value) (L : List LemD) (S : List StepD) (f : Nat → Int) (A : List Int) (W : World) : Prop where
  pb : Blk W w.heap.size pc 30
  rb : Blk W (w.heap.size + 1) [.slice none 0 0, .slice none 0 0] 30
  ob_ : Blk W (w.heap.size + 2) [vl, vs] 30
  gN_ : Blk W (w.heap.size + 3) (ints (tabI nl f)) 3
  lq : LmQ w vl L W
  nr : W.ownsRow 0 3 1 vn A.length (ints A)
  nf : ∀ g, vn.ownBlock = some g → zB ≤ g
  sq : StN w vn vs S W
  u_ : Upd [] w W
  z_ : w.heap.size + 3 < zB
theorem RK2.ext {w : World} {nl zB : Nat} {pc : List Value} {vl vs vn : Value} {L : List LemD} {S : List StepD} {f : Nat → Int} {A : List Int} {W W' : World} (h : RK2 w nl zB pc vl vs vn L S f A W) (e : Upd [] W W') : RK2 w nl zB pc vl vs vn L S f A W' := by
  refine ⟨h.pb.upd e (by simp), h.rb.upd e (by simp), h.ob_.upd e (by simp), h.gN_.upd e (by simp), h.lq.upd (off_nil _ _) e, ownsRow_updL h.nr e (by simp), h.nf, ?_, h.u_.step e, h.z_⟩
  obtain ⟨fo, h1, h2, h3, h4⟩ := h.sq
  exact ⟨fo, ownsRow_updL h1 e (by simp), h2, fun i s hs => (h3 i s hs).kd (off_nil _ _) e, h4⟩
/-- One number more. -/
theorem RK2.num {w : World} {nl zB : Nat} {pc : List Value} {vl vs vn : Value} {L : List LemD} {S : List StepD} {f : Nat → Int} {A : List Int} {W W' : World} {g7 c7 : Nat} {x : Int} (h : RK2 w nl zB pc vl vs vn L S f A W) (hz : zB ≤ W.heap.size)
    (o : W'.ownsRow 0 3 1 (.slice (some ⟨g7, 0, none⟩) (A.length + 1) c7) (A.length + 1) (ints A ++ [.int .i64 x])) (u : Upd vn.ownBlock.toList W W') (k : vn.ownBlock = some g7 ∨ W.heap.size ≤ g7) :
    RK2 w nl zB pc vl vs (.slice (some ⟨g7, 0, none⟩) (A.length + 1) c7) L S f (A ++ [x]) W' := by
  have hk : ∀ g, (Value.slice (some ⟨g7, 0, none⟩) (A.length + 1) c7).ownBlock = some g → vn.ownBlock = some g ∨ W.heap.size ≤ g := fun g hg => by
    simp only [Value.ownBlock, Option.some.injEq] at hg
    subst hg; exact k
  refine ⟨offrow h.pb h.nr (by decide) u, offrow h.rb h.nr (by decide) u, offrow h.ob_ h.nr (by decide) u, h.gN_.upd u (fun hm => by have := h.nf _ (by simpa using hm); have := h.z_; omega), h.lq.upd (off_row h.nr (by decide)) u, ?_, fun g hg => ?_, ?_, h.u_.fresh u (fun b hb => .inr (by have := h.nf b (by simpa using hb); have := h.z_; omega)), h.z_⟩
  · rw [List.length_append, List.length_singleton, ints_append]; exact o
  · rcases hk g hg with e | e
    · exact h.nf g e
    · omega
  · obtain ⟨fo, h1, h2, h3, h4⟩ := h.sq
    exact ⟨fo, ownsRow_updL h1 u ((off_row h.nr (by decide : 3 ∉ [56])).row h1 (by simp)), h2, fun i s hs => (h3 i s hs).num u hk, h4⟩
/-- One step more. -/
theorem RK2.push {w : World} {nl zB : Nat} {pc : List Value} {vl vn : Value} {L : List LemD} {S : List StepD} {f : Nat → Int} {A : List Int} {W W' : World} {d : StepD} {vp vl2 vh : Value} {a : Option Addr} {m c g7 c7 : Nat} {fo : Nat → List Value} (h : RK2 w nl zB pc vl (.slice a m c) vn L S f A W) (hm : m = S.length)
    (h1 : W.ownsRow 0 56 7 (.slice a m c) m (rows m fo)) (h2 : ∀ i, (fo i).length = 7) (h3 : ∀ (i : Nat) (s : StepD), S[i]? = some s → SE2 vn W s (fo i)) (h4 : ∀ g, (Value.slice a m c).ownBlock = some g → w.heap.size ≤ g) (hd : SE2 vn W d (stC d vp vl2 vh))
    (o : W'.ownsRow 0 56 7 (.slice (some ⟨g7, 0, none⟩) (m + 1) c7) (m + 1) (rows m fo ++ stC d vp vl2 vh)) (u7 : Upd (Value.slice a m c).ownBlock.toList W W') (k7 : (Value.slice a m c).ownBlock = some g7 ∨ W.heap.size ≤ g7) :
    Blk W' (w.heap.size + 2) [vl, .slice a m c] 30 ∧ RK2 w nl zB pc vl (.slice (some ⟨g7, 0, none⟩) (m + 1) c7) vn L (S ++ [d]) f A (W'.setCell ⟨w.heap.size + 2, 1, none⟩ (.slice (some ⟨g7, 0, none⟩) (m + 1) c7)) := by
  subst hm
  have B7 := offrow h.ob_ h1 (by decide) u7
  have us : Upd [w.heap.size + 2] W' (W'.setCell ⟨w.heap.size + 2, 1, none⟩ (.slice (some ⟨g7, 0, none⟩) (S.length + 1) c7)) := (Upd.refl _ W').set (.inl (by simp)) _
  have hz := h.u_.size
  have hoffS : Off W (Value.slice a S.length c).ownBlock.toList [3, 82] := off_row h1 (by decide)
  have hoffB : Off W' [w.heap.size + 2] [3, 82, 56] := off_blk B7 (by decide)
  have n7 := ownsRow_updL h.nr u7 (hoffS.row h.nr (by simp))
  refine ⟨B7, (offrow h.pb h1 (by decide) u7).upd us (by simp), (offrow h.rb h1 (by decide) u7).upd us (by simp), B7.set 1 _, (offrow h.gN_ h1 (by decide) u7).upd us (by simp), (h.lq.upd (off_row h1 (by decide)) u7).upd (off_blk B7 (by decide)) us, ownsRow_updL n7 us (hoffB.row n7 (by simp)), h.nf, ?_, (h.u_.fresh u7 (fun b hb => .inr (h4 b (by simpa using hb)))).fresh us (fun b hb => .inr (by simp at hb; omega)), h.z_⟩
  have hoffI : Off W (Value.slice a S.length c).ownBlock.toList [3] := off_row h1 (by decide)
  have hoffBI : Off W' [w.heap.size + 2] [3] := off_blk B7 (by decide)
  refine ⟨fun i => if i = S.length then stC d vp vl2 vh else fo i, ?_, fun i => ?_, fun i s hs => ?_, fun g hg => ?_⟩
  · rw [List.length_append, List.length_singleton, ← rows_ext]
    exact ownsRow_updL o us (hoffB.row o (by simp))
  · by_cases hi : i = S.length
    · simp [hi, stC]
    · simp [hi, h2]
  · by_cases hi : i = S.length
    · subst hi
      rw [List.getElem?_append_right (by omega)] at hs
      simp at hs
      subst hs
      show SE2 vn _ d (if S.length = S.length then stC d vp vl2 vh else fo S.length)
      rw [if_pos rfl]
      exact (hd.kd hoffI u7).kd hoffBI us
    · have hl := (List.getElem?_eq_some_iff.1 hs).1
      rw [List.length_append, List.length_singleton] at hl
      rw [List.getElem?_append_left (by omega)] at hs
      show SE2 vn _ s (if i = S.length then stC d vp vl2 vh else fo i)
      rw [if_neg hi]
      exact ((h3 i s hs).kd hoffI u7).kd hoffBI us
  · simp only [Value.ownBlock, Option.some.injEq] at hg
    subst hg
    rcases k7 with k7 | k7
    · exact h4 _ k7
    · omega
end Trim
end Go.Proofs.Ytnmfihgdedifoaa
