/- Walks through package trim: pick. Conditions: none. -/
import Derived.Test.YtnmfihgdedifoaaTrimQ
set_option linter.unusedVariables false
set_option linter.unusedSimpArgs false
set_option linter.unusedSectionVars false
open Go.RowKit
namespace Go.Proofs.Ytnmfihgdedifoaa
open L R01
namespace Trim
theorem ret_row_tmp {fn : Func} {R : Ending → World → Prop} {a : Act} {w : World} {p q : Tmp} {ty t : TypeId} {g : Nat} {cs : List Value} {fs : _} (h : fn.results = #[.cell p ty, .tmp q]) (hp : a.tmps.getD p undef = .pointer (some ⟨g, 0, none⟩)) (hB : Blk w g cs t)
    (hu : Try.prog.underlying ty = some (.struct fs)) (hi : (Try.prog.info? ty).map (·.size) = some cs.length) (hdf : a.defers = []) {v : Value} (hv : a.tmps.getD q undef = v) (hR : R (.returned (.tuple #[.agg cs.toArray, v])) w) :
    bodyPost Try.prog fn R .ret a w := by
  refine bodyPost_ret (v := .tuple #[.agg cs.toArray, v]) ?_ hdf hR
  rw [results_cell_tmp h, hp]
  have h2 := run_loadVar_row (P := Try.prog) w g t ty cs.toArray (0, 0) (.struct fs) hB hu rfl (by simpa using hi)
  simp [asAddr, h2, Result.andThen, hv]
theorem beq_cast (j n : Nat) : (j == n) = ((n : Int) == (j : Int)) := by
  by_cases e : j = n
  · subst e; simp
  · rw [beq_eq_false_iff_ne.2 e, beq_eq_false_iff_ne.2 (by omega)]
theorem ite_lt_succ {k j : Nat} {a b : Int} (hne : j ≠ k) : (if j < k then a else b) = if j < k + 1 then a else b := by
  by_cases h : j < k
  · rw [if_pos h, if_pos (by omega)]
  · rw [if_neg h, if_neg (by omega)]
theorem LmR.cells {w : World} {d : LemD} {cs : List Value} (h : LmR w d cs) : ∃ a1 c1 a2 c2 a3 c3 a4 c4, cs = [.slice a1 d.graph.length c1, .slice a2 d.hyps.length c2, .slice a3 d.clause.length c3, .slice a4 d.steps.length c4] := by
  obtain ⟨vg, vh, vc, vs, rfl, hg, hh, hc, hs⟩ := h
  obtain ⟨f, h1, _⟩ := hg
  obtain ⟨_, a1, c1, rfl, _⟩ := SL.of_owns h1
  obtain ⟨a2, c2, rfl, _⟩ := hh.cells
  obtain ⟨a3, c3, rfl, _⟩ := hc.cells
  obtain ⟨a4, c4, rfl, _⟩ := hs.at_
  exact ⟨a1, c1, a2, c2, a3, c3, a4, c4, rfl⟩
/-- The cells of a lemma of a list. -/
theorem LmL.at_ {w : World} {a : Option Addr} {cap : Nat} {l : List LemD} (h : LmL w (.slice a l.length cap) l) : ∀ (i : Nat) (d : LemD), l[i]? = some d → ∃ g cs, a = some ⟨g, 0, none⟩ ∧ LmR w d cs ∧ ∀ (j : Nat) (u : Value), cs[j]? = some u → w.cell? ⟨g, i * 4 + j, none⟩ = some u := by
  obtain ⟨f, h1, h2, h3⟩ := h
  intro i d hd
  have hil := (List.getElem?_eq_some_iff.1 hd).1
  have hcc := (SL.of_owns h1).val
  rcases h1.2 with ⟨h0, hn⟩ | ⟨g, cap', cur, hv, _, _⟩
  · omega
  · cases hv
    obtain ⟨a', c', he, _, _, _, hcell⟩ := hcc
    cases he
    rcases hcell with hz | ⟨b, off, hb, hcell⟩
    · omega
    · cases hb
      refine ⟨g, f i, rfl, h3 i d hd, fun j u hj => ?_⟩
      have hj4 : j < 4 := by have := (List.getElem?_eq_some_iff.1 hj).1; rw [h2] at this; exact this
      have := hcell (i * 4 + j) u (by rw [rows_get h2 hj4 hil]; exact hj)
      rwa [Nat.zero_add] at this
theorem offrow {W W' : World} {b : Nat} {c : List Value} {e e' : TypeId} {base k n : Nat} {v : Value} {x : List Value} (hB : Blk W b c e) (hr : W.ownsRow base e' k v n x) (hne : e ≠ e') (u : Upd v.ownBlock.toList W W') : Blk W' b c e :=
  hB.upd u (fun hm => hne ((blk_kind hB).inj (row_kind hr (by simpa using hm))))
/-- Lemmas taken over from w. -/
def LmQ (w : World) (v : Value) (L : List LemD) (W : World) : Prop := ∃ f : Nat → List Value, W.ownsRow 0 82 4 v L.length (rows L.length f) ∧ (∀ i, (f i).length = 4) ∧ (∀ (i : Nat) (d : LemD), L[i]? = some d → LmR w d (f i)) ∧ ∀ g, v.ownBlock = some g → w.heap.size ≤ g
theorem LmQ.lml {w W : World} {v : Value} {L : List LemD} (h : LmQ w v L W) (u : Upd [] w W) : LmL W v L := by
  obtain ⟨f, h1, h2, h3, _⟩ := h
  exact ⟨f, h1, h2, fun i d hd => (h3 i d hd).kd (T := []) (es := [3, 88, 56]) (by intro b hb; simp at hb) (by simp) (by simp) (by simp) u⟩
theorem LmQ.upd {w W W' : World} {v : Value} {L : List LemD} {T : List Nat} (h : LmQ w v L W) (hT : Off W T [82]) (u : Upd T W W') : LmQ w v L W' := by
  obtain ⟨f, h1, h2, h3, h4⟩ := h
  exact ⟨f, ownsRow_updL h1 u (hT.row h1 (by simp)), h2, h3, h4⟩
theorem off_nil (W : World) (es : List TypeId) : Off W [] es := fun b hb => by simp at hb
theorem lmQ_push {w W' : World} {v' : Value} {L : List LemD} {d : LemD} {f : Nat → List Value} {cs : List Value} (h2 : ∀ i, (f i).length = 4) (h3 : ∀ (i : Nat) (s : LemD), L[i]? = some s → LmR w s (f i)) (hd : LmR w d cs) (hcs : cs.length = 4)
    (o : W'.ownsRow 0 82 4 v' (L.length + 1) (rows L.length f ++ cs)) (hf : ∀ g, v'.ownBlock = some g → w.heap.size ≤ g) : LmQ w v' (L ++ [d]) W' := by
  refine ⟨fun i => if i = L.length then cs else f i, ?_, fun i => ?_, fun i s hs => ?_, hf⟩
  · rw [List.length_append, List.length_singleton, ← rows_ext]
    exact o
  · by_cases hi : i = L.length
    · simp [hi, hcs]
    · simp [hi, h2]
  · by_cases hi : i = L.length
    · subst hi
      rw [List.getElem?_append_right (by omega)] at hs
      simp at hs
      subst hs
      show LmR w d (if L.length = L.length then cs else f L.length)
      rw [if_pos rfl]
      exact hd
    · have hl := (List.getElem?_eq_some_iff.1 hs).1
      rw [List.length_append, List.length_singleton] at hl
      rw [List.getElem?_append_left (by omega)] at hs
      show LmR w s (if i = L.length then cs else f i)
      rw [if_neg hi]
      exact h3 i s hs
theorem ownsRow_slice {w : World} {base : Nat} {e : TypeId} {k n : Nat} {v : Value} {x : List Value} (h : w.ownsRow base e k v n x) : ∃ a c, v = .slice a n c := by
  obtain ⟨_, a, c, rfl, _⟩ := SL.of_owns h
  exact ⟨a, c, rfl⟩
theorem renS_congr {sn sn' ln ln' : Nat → Int} {s : StepD} (h1 : ∀ h ∈ s.hints, sn h.toNat = sn' h.toNat) (h2 : s.kind = 4 → ln s.node.toNat = ln' s.node.toNat) : renS sn ln s = renS sn' ln' s := by
  unfold renS
  rw [List.map_congr_left h1]
  by_cases hk : s.kind = 4
  · rw [if_pos hk, if_pos hk, h2 hk]
  · rw [if_neg hk, if_neg hk]
/-- A step of the list under construction: its slices are not the block gS. -/
def SE (gS : Nat) (W : World) (s : StepD) (cs : List Value) : Prop := ∃ vp vl vh, cs = stC s vp vl vh ∧ StF W s vp vl vh ∧ vp.ownBlock ≠ some gS ∧ vl.ownBlock ≠ some gS ∧ vh.ownBlock ≠ some gS
theorem SE.upd {gS : Nat} {W W' : World} {s : StepD} {cs : List Value} {T : List Nat} (h : SE gS W s cs) (hT : ∀ b ∈ T, b = gS ∨ ∃ e, Kind W b e ∧ e ≠ 3) (u : Upd T W W') : SE gS W' s cs := by
  obtain ⟨vp, vl, vh, rfl, ⟨f1, f2, f3, f4⟩, h1, h2, h3⟩ := h
  have key : ∀ {v : Value} {xs : List Int}, RowI W v xs → v.ownBlock ≠ some gS → RowI W' v xs := fun hr hn => hr.upd u (fun b hb hv => by
    rcases hT b hb with rfl | ⟨e, hk, he⟩
    · exact hn hv
    · exact he (hk.inj (row_kind hr hv)))
  exact ⟨vp, vl, vh, rfl, ⟨key f1 h1, key f2 h2, key f3 h3, f4⟩, h1, h2, h3⟩
def StQ (w : World) (gS : Nat) (v : Value) (S : List StepD) (W : World) : Prop := ∃ f : Nat → List Value, W.ownsRow 0 56 7 v S.length (rows S.length f) ∧ (∀ i, (f i).length = 7) ∧ (∀ (i : Nat) (s : StepD), S[i]? = some s → SE gS W s (f i)) ∧ ∀ g, v.ownBlock = some g → w.heap.size ≤ g
theorem StQ.stl {w W : World} {gS : Nat} {v : Value} {S : List StepD} (h : StQ w gS v S W) : StL W v S := by
  obtain ⟨f, h1, h2, h3, _⟩ := h
  exact ⟨f, h1, h2, fun i s hs => by obtain ⟨vp, vl, vh, e, hF, _⟩ := h3 i s hs; exact ⟨vp, vl, vh, e, hF⟩⟩
theorem StQ.upd {w W W' : World} {gS : Nat} {v : Value} {S : List StepD} {T : List Nat} (h : StQ w gS v S W) (hT : ∀ b ∈ T, b = gS ∨ ∃ e, Kind W b e ∧ e ≠ 3) (hT2 : Off W T [56]) (u : Upd T W W') : StQ w gS v S W' := by
  obtain ⟨f, h1, h2, h3, h4⟩ := h
  exact ⟨f, ownsRow_updL h1 u (hT2.row h1 (by simp)), h2, fun i s hs => (h3 i s hs).upd hT u, h4⟩
theorem stQ_push {w W W' : World} {gS : Nat} {v v' : Value} {S : List StepD} {d : StepD} {f : Nat → List Value} {cs : List Value} (h1 : W.ownsRow 0 56 7 v S.length (rows S.length f)) (h2 : ∀ i, (f i).length = 7) (h3 : ∀ (i : Nat) (s : StepD), S[i]? = some s → SE gS W s (f i)) (hd : SE gS W d cs) (hcs : cs.length = 7)
    (o : W'.ownsRow 0 56 7 v' (S.length + 1) (rows S.length f ++ cs)) (u : Upd v.ownBlock.toList W W') (hf : ∀ g, v'.ownBlock = some g → w.heap.size ≤ g) : StQ w gS v' (S ++ [d]) W' := by
  have hT : ∀ b ∈ v.ownBlock.toList, b = gS ∨ ∃ e, Kind W b e ∧ e ≠ 3 := fun b hb => .inr ⟨56, row_kind h1 (by simpa using hb), by decide⟩
  refine ⟨fun i => if i = S.length then cs else f i, ?_, fun i => ?_, fun i s hs => ?_, hf⟩
  · rw [List.length_append, List.length_singleton, ← rows_ext]
    exact o
  · by_cases hi : i = S.length
    · simp [hi, hcs]
    · simp [hi, h2]
  · by_cases hi : i = S.length
    · subst hi
      rw [List.getElem?_append_right (by omega)] at hs
      simp at hs
      subst hs
      show SE gS W' d (if S.length = S.length then cs else f S.length)
      rw [if_pos rfl]
      exact hd.upd hT u
    · have hl := (List.getElem?_eq_some_iff.1 hs).1
      rw [List.length_append, List.length_singleton] at hl
      rw [List.getElem?_append_left (by omega)] at hs
      show SE gS W' s (if i = S.length then cs else f i)
      rw [if_neg hi]
      exact (h3 i s hs).upd hT u
/-- What stands between two rounds of the last loop. -/
structure PK3 (w : World) (ob gN gS nl n : Nat) (pc : List Value) (vl vs : Value) (q u : Nat → Bool) (L : List LemD) (S : List StepD) (sn : Nat → Int) (W : World) : Prop where
  pb : Blk W w.heap.size pc 30
  rb : Blk W (w.heap.size + 1) [.slice none 0 0, .slice none 0 0] 30
  ob_ : Blk W ob [vl, vs] 30
  gN_ : Blk W gN (ints (tabI nl fun j => if j < nl then lemNo q j else 0)) 3
  gS_ : Blk W gS (ints (tabI n sn)) 3
  lq : LmQ w vl L W
  sq : StQ w gS vs S W
  u_ : Upd [] w W
theorem PK3.ext {w : World} {ob gN gS nl n : Nat} {pc : List Value} {vl vs : Value} {q u : Nat → Bool} {L : List LemD} {S : List StepD} {sn : Nat → Int} {W W' : World} (h : PK3 w ob gN gS nl n pc vl vs q u L S sn W) (e : Upd [] W W') : PK3 w ob gN gS nl n pc vl vs q u L S sn W' :=
  ⟨h.pb.upd e (by simp), h.rb.upd e (by simp), h.ob_.upd e (by simp), h.gN_.upd e (by simp), h.gS_.upd e (by simp), h.lq.upd (off_nil _ _) e, h.sq.upd (by intro b hb; simp at hb) (off_nil _ _) e, h.u_.step e⟩
/-- A number stored in the row of numbers. -/
theorem PK3.setS {w : World} {ob gN gS nl n : Nat} {pc : List Value} {vl vs : Value} {q u : Nat → Bool} {L : List LemD} {S : List StepD} {sn : Nat → Int} {W : World} (h : PK3 w ob gN gS nl n pc vl vs q u L S sn W) (hw : w.heap.size + 1 < gS) (ho : ob < gS) (hN : gN < gS) (k : Nat) (x : Int) :
    PK3 w ob gN gS nl n pc vl vs q u L S (fun j => if j = k then x else sn j) (W.setCell ⟨gS, k, none⟩ (.int .i64 x)) := by
  have us : Upd [gS] W (W.setCell ⟨gS, k, none⟩ (.int .i64 x)) := (Upd.refl _ W).set (.inl (by simp)) _
  have hB := h.gS_.set k (.int .i64 x)
  rw [tabI_set] at hB
  exact ⟨h.pb.upd us (by simp; omega), h.rb.upd us (by simp; omega), h.ob_.upd us (by simp; omega), h.gN_.upd us (by simp; omega), hB, h.lq.upd (off_blk h.gS_ (by decide)) us, h.sq.upd (by intro b hb; simp at hb; exact .inl hb) (off_blk h.gS_ (by decide)) us, h.u_.fresh us (fun b hb => .inr (by simp at hb; omega))⟩
theorem PK3.congr {w : World} {ob gN gS nl n : Nat} {pc : List Value} {vl vs : Value} {q u : Nat → Bool} {L : List LemD} {S : List StepD} {sn sn' : Nat → Int} {W : World} (h : PK3 w ob gN gS nl n pc vl vs q u L S sn W) (he : ∀ j, j < n → sn j = sn' j) : PK3 w ob gN gS nl n pc vl vs q u L S sn' W := by
  have hB := h.gS_
  rw [tabI_congr he] at hB
  exact ⟨h.pb, h.rb, h.ob_, h.gN_, hB, h.lq, h.sq, h.u_⟩
/-- One step more. -/
theorem PK3.push {w : World} {ob gN gS nl n : Nat} {pc : List Value} {vl : Value} {q u : Nat → Bool} {L : List LemD} {S : List StepD} {sn : Nat → Int} {W W' : World} {d : StepD} {vp vl2 vh : Value} {a : Option Addr} {m c g7 c7 : Nat} {f : Nat → List Value} (h : PK3 w ob gN gS nl n pc vl (.slice a m c) q u L S sn W) (hm : m = S.length) (hob : w.heap.size + 1 < ob)
    (h1 : W.ownsRow 0 56 7 (.slice a m c) m (rows m f)) (h2 : ∀ i, (f i).length = 7) (h3 : ∀ (i : Nat) (s : StepD), S[i]? = some s → SE gS W s (f i)) (h4 : ∀ g, (Value.slice a m c).ownBlock = some g → w.heap.size ≤ g) (hd : SE gS W d (stC d vp vl2 vh))
    (o : W'.ownsRow 0 56 7 (.slice (some ⟨g7, 0, none⟩) (m + 1) c7) (m + 1) (rows m f ++ stC d vp vl2 vh)) (u7 : Upd (Value.slice a m c).ownBlock.toList W W') (k7 : (Value.slice a m c).ownBlock = some g7 ∨ W.heap.size ≤ g7) :
    Blk W' ob [vl, .slice a m c] 30 ∧ PK3 w ob gN gS nl n pc vl (.slice (some ⟨g7, 0, none⟩) (m + 1) c7) q u L (S ++ [d]) sn (W'.setCell ⟨ob, 1, none⟩ (.slice (some ⟨g7, 0, none⟩) (m + 1) c7)) := by
  subst hm
  have B7 := offrow h.ob_ h1 (by decide) u7
  have us : Upd [ob] W' (W'.setCell ⟨ob, 1, none⟩ (.slice (some ⟨g7, 0, none⟩) (S.length + 1) c7)) := (Upd.refl _ W').set (.inl (by simp)) _
  have hz := h.u_.size
  have hN7 := offrow h.gN_ h1 (by decide) u7
  have hS7 := offrow h.gS_ h1 (by decide) u7
  have sq7 : StQ w gS (.slice (some ⟨g7, 0, none⟩) (S.length + 1) c7) (S ++ [d]) W' := stQ_push h1 h2 h3 hd rfl o u7 (fun g hg => by
    simp only [Value.ownBlock, Option.some.injEq] at hg
    subst hg
    rcases k7 with k7 | k7
    · exact h4 _ k7
    · omega)
  refine ⟨B7, (offrow h.pb h1 (by decide) u7).upd us (by simp; omega), (offrow h.rb h1 (by decide) u7).upd us (by simp; omega), B7.set 1 _, hN7.upd us (fun hm => by simp at hm; exact absurd ((blk_kind B7).inj (hm ▸ blk_kind hN7)) (by decide)), hS7.upd us (fun hm => by simp at hm; exact absurd ((blk_kind B7).inj (hm ▸ blk_kind hS7)) (by decide)), (h.lq.upd (off_row h1 (by decide)) u7).upd (off_blk B7 (by decide)) us, sq7.upd (by intro b hb; simp at hb; subst hb; exact .inr ⟨30, blk_kind B7, by decide⟩) (off_blk B7 (by decide)) us, (h.u_.fresh u7 (fun b hb => .inr (h4 b (by simpa using hb)))).fresh us (fun b hb => .inr (by simp at hb; omega))⟩
section
variable {w : World}
set_option maxRecDepth 100000 in
set_option maxHeartbeats 8000000 in
theorem pick_calls {v : Value} {p : PrfD} {u : Nat → Bool} {gu : Nat} (h : PrL w v p) (hwf : Wf p) (hnl : p.lemmas.length ≤ 1000000) (hhl : ∀ (k : Nat) (st : StepD), p.steps[k]? = some st → st.hints.length ≤ 1000000) (hu : Blk w gu (bools (tab p.steps.length u)) 4) :
    Calls Try.prog 37 #[v, .slice (some ⟨gu, 0, none⟩) p.steps.length p.steps.length] w fun e w' => ∃ (vl vs : Value) (gs : Nat), e = .returned (.tuple #[.agg #[vl, vs], .slice (some ⟨gs, 0, none⟩) p.steps.length p.steps.length]) ∧ PrL w' (.agg #[vl, vs]) (pickP p u) ∧ RowI w' (.slice (some ⟨gs, 0, none⟩) p.steps.length p.steps.length) (tabI p.steps.length (stepNo u)) ∧ w.heap.size ≤ gs ∧ Upd [] w w' := by
  obtain ⟨vl, vs, rfl, hL, hS⟩ := h
  obtain ⟨al, cl, rfl, ql, rl⟩ := hL.form
  obtain ⟨a2, c2, rfl, qs, rs, hat⟩ := hS.at_
  have hlen := hwf.len
  have HW := Lib.hid (And.intro hat (And.intro hL (And.intro hwf (And.intro hhl hu))))
  clear hat hL hS hwf hhl hu
  have b1 := (Blk.new w [.slice al p.lemmas.length cl, .slice a2 p.steps.length c2] 30).alloc (.cells #[.slice none 0 0, .slice none 0 0] 30)
  have b2 := Blk.new (w.alloc (.cells #[.slice al p.lemmas.length cl, .slice a2 p.steps.length c2] 30)) [.slice none 0 0, .slice none 0 0] 30
  have u2 := ((Upd.refl [] w).alloc (.cells #[.slice al p.lemmas.length cl, .slice a2 p.steps.length c2] 30)).alloc (.cells #[.slice none 0 0, .slice none 0 0] 30)
  rw [show (w.alloc (.cells #[.slice al p.lemmas.length cl, .slice a2 p.steps.length c2] 30)).heap.size = w.heap.size + 1 by simp] at b2
  have hz2 : ((w.alloc (.cells #[.slice al p.lemmas.length cl, .slice a2 p.steps.length c2] 30)).alloc (.cells #[.slice none 0 0, .slice none 0 0] 30)).heap.size = w.heap.size + 2 := by simp
  go_enter Try.func37, Try.ntmps37
  go_upto_region 1 with fail
  generalize ((w.alloc (.cells #[.slice al p.lemmas.length cl, .slice a2 p.steps.length c2] 30)).alloc (.cells #[.slice none 0 0, .slice none 0 0] 30)) = w2 at *
  have c0 := b1.cell (i := 0) rfl
  have c1 := b1.cell (i := 1) rfl
  have B3 := Blk.new w2 (bools (tab p.lemmas.length fun _ => false)) 4
  have U3 := (Upd.refl [] w2).alloc (.cells (bools (tab p.lemmas.length fun _ => false)).toArray 4)
  rw [hz2] at B3
  have H3 := Lib.hid (And.intro (b1.upd U3 (by simp)) (And.intro (b2.upd U3 (by simp)) (And.intro B3 (u2.step U3))))
  clear b1 b2 u2 B3 U3
  go_upto_region 2 with (refine wpList_mk rfl _ _ _ rfl 4 1 1 _ Try.underlying31 infoBool rfl (by decide) _ _ _ _ p.lemmas.length rfl rfl rfl rfl (by omega) (by omega) ?_; change wpList _ _ _ _ _ (w2.alloc (.cells (rows p.lemmas.length fun _ => [.bool false]).toArray 4)); rw [← tab_false])
  generalize (w2.alloc (.cells (bools (tab p.lemmas.length fun _ => false)).toArray 4)) = w3 at *
  clear c0 c1
  have c0 := H3.out.1.cell (i := 0) rfl
  have c1 := H3.out.1.cell (i := 1) rfl
  go_wp2_with fail
  go_loopw [23] (fun i wr => ∃ k : Nat, i = .int .i64 k ∧ k ≤ p.steps.length ∧ Blk wr w.heap.size [.slice al p.lemmas.length cl, .slice a2 p.steps.length c2] 30 ∧ Blk wr (w.heap.size + 1) [.slice none 0 0, .slice none 0 0] 30 ∧ Blk wr (w.heap.size + 2) (bools (tab p.lemmas.length (refTo p.steps u k))) 4 ∧ Upd [] w wr) (fun i _ => p.steps.length - (intOf i).toNat)
  case atStart => exact ⟨0, rfl, Nat.zero_le _, H3.out⟩
  case round =>
    obtain ⟨wo, rfl⟩ : ∃ wo : World, wo = wr := ⟨_, rfl⟩
    obtain ⟨k, rfl, hk, hI⟩ := hrel
    have HI := Lib.hid hI
    clear H3 c0 c1 hI
    by_cases hlt : k < p.steps.length
    · have hki : (k : Int) < p.steps.length := by omega
      have hs' := List.getElem?_eq_getElem hlt
      obtain ⟨g, vp, vl2, vh, rfl, hcell, hF⟩ := HW.out.1 k _ hs'
      have hlm := HW.out.2.2.1.lem k _ hs'
      have hrf : ∀ j, refTo p.steps u (k + 1) j = (refTo p.steps u k j || (u k && ((p.steps[k]).kind == 4 && (p.steps[k]).node == (j : Int)))) := fun j => by rw [refTo, hs']
      generalize p.steps[k] = s at *
      have hU := HI.out.2.2.2
      obtain ⟨ap, cp, rfl, _⟩ := hF.1.cells
      obtain ⟨av, cv, rfl, _⟩ := hF.2.1.cells
      obtain ⟨ah, ch, rfl, _⟩ := hF.2.2.1.cells
      have e0 := hU.some (hcell 0 _ rfl) (by simp)
      have e1 := hU.some (hcell 1 _ rfl) (by simp)
      have e2 := hU.some (hcell 2 _ rfl) (by simp)
      have e3 := hU.some (hcell 3 _ rfl) (by simp)
      have e4 := hU.some (hcell 4 _ rfl) (by simp)
      have e5 := hU.some (hcell 5 _ rfl) (by simp)
      have e6 := hU.some (hcell 6 _ rfl) (by simp)
      rw [Nat.add_zero] at e0
      clear hcell hs'
      go_upto_region 5 with fail
      have b4 := Blk.new wo (stC s (.slice ap s.params.length cp) (.slice av s.lits.length cv) (.slice ah s.hints.length ch)) 56
      have u4 : Upd [] wo (wo.alloc (.cells (stC s (.slice ap s.params.length cp) (.slice av s.lits.length cv) (.slice ah s.hints.length ch)).toArray 56)) := (Upd.refl [] wo).alloc _
      change Code.wp _ _ _ _ (wo.alloc (.cells (stC s (.slice ap s.params.length cp) (.slice av s.lits.length cv) (.slice ah s.hints.length ch)).toArray 56))
      generalize (wo.alloc (.cells (stC s (.slice ap s.params.length cp) (.slice av s.lits.length cv) (.slice ah s.hints.length ch)).toArray 56)) = w4 at *
      have d0 := b4.cell (i := 0) rfl
      have d1 := b4.cell (i := 1) rfl
      have H4 := Lib.hid (And.intro (HI.out.1.upd u4 (by simp)) (And.intro (HI.out.2.1.upd u4 (by simp)) (And.intro (HI.out.2.2.1.upd u4 (by simp)) (hU.step u4))))
      have du := (HW.out.2.2.2.2.upd H4.out.2.2.2 (by simp)).cell (i := k) (bools_get (tab_get hlt))
      clear HI b4 u4 e0 e1 e2 e3 e4 e5 e6 hU hF
      cases huk : u k with
      | false =>
        rw [huk] at du
        have HR := Lib.hid (show Blk w4 (w.heap.size + 2) (bools (tab p.lemmas.length (refTo p.steps u (k + 1)))) 4 from by
          rw [tab_congr (v := refTo p.steps u k) (fun j _ => by rw [hrf, huk]; simp)]; exact H4.out.2.2.1)
        clear huk hrf hlm
        go_wp2_with fail
        exact ⟨⟨k + 1, by go_num, by omega, H4.out.1, H4.out.2.1, HR.out, H4.out.2.2.2⟩, by simp [intOf]; omega⟩
      | true =>
        rw [huk] at du
        by_cases hk4 : s.kind = 4
        · have hb4 : (s.kind == 4) = true := by simp [hk4]
          obtain ⟨n0, n1⟩ := hlm hk4
          obtain ⟨nd, hnd⟩ := Int.eq_ofNat_of_zero_le n0
          rw [hnd] at d1 n1
          have hn1 : nd < p.lemmas.length := by omega
          have dr := H4.out.2.2.1.cell (i := nd) (bools_get (tab_get (u := refTo p.steps u k) hn1))
          have fr := H4.out.2.2.1.free nd
          have us : Upd [w.heap.size + 2] w4 (w4.setCell ⟨w.heap.size + 2, nd, none⟩ (.bool true)) := (Upd.refl _ w4).set (.inl (by simp)) _
          have hB2 := H4.out.2.2.1.set nd (.bool true)
          rw [tab_set hn1, tab_congr (v := refTo p.steps u (k + 1)) (fun j _ => by rw [hrf, huk, hb4, hnd, ← beq_cast]; simp)] at hB2
          have H5 := Lib.hid (And.intro (H4.out.1.upd us (by simp)) (And.intro (H4.out.2.1.upd us (by simp)) (And.intro hB2 (H4.out.2.2.2.fresh us (fun b hb => .inr (by simp at hb; omega))))))
          clear us hB2 huk hrf hlm hk4 hnd n0
          go_wp2_with fail
          exact ⟨⟨k + 1, by go_num, by omega, H5.out⟩, by simp [intOf]; omega⟩
        · have hb4 : (s.kind == 4) = false := by simpa using hk4
          have HR := Lib.hid (show Blk w4 (w.heap.size + 2) (bools (tab p.lemmas.length (refTo p.steps u (k + 1)))) 4 from by
            rw [tab_congr (v := refTo p.steps u k) (fun j _ => by rw [hrf, hb4]; simp)]; exact H4.out.2.2.1)
          clear huk hrf hlm hk4
          go_wp2_with fail
          exact ⟨⟨k + 1, by go_num, by omega, H4.out.1, H4.out.2.1, HR.out, H4.out.2.2.2⟩, by simp [intOf]; omega⟩
    · have hki : ¬ (k : Int) < p.steps.length := by omega
      have hkn : k = p.steps.length := by omega
      rw [hkn] at HI
      clear hkn hlt hk
      obtain ⟨q, hq⟩ : ∃ q, q = refTo p.steps u p.steps.length := ⟨_, rfl⟩
      rw [← hq] at HI
      have HQ := Lib.hid hq
      clear hq
      obtain ⟨wA, rfl⟩ : ∃ wA : World, wA = wo := ⟨_, rfl⟩
      have hzA := HI.out.2.2.1.lt
      have b1 := Blk.new wA [.slice none 0 0, .slice none 0 0] 30
      have u1 := (Upd.refl [] wA).alloc (.cells #[.slice none 0 0, .slice none 0 0] 30)
      have hz1 : (wA.alloc (.cells #[.slice none 0 0, .slice none 0 0] 30)).heap.size = wA.heap.size + 1 := by simp
      have H1 := Lib.hid (And.intro (HI.out.1.upd u1 (by simp)) (And.intro (HI.out.2.1.upd u1 (by simp)) (And.intro (HI.out.2.2.1.upd u1 (by simp)) (And.intro b1 (HI.out.2.2.2.step u1)))))
      clear HI b1 u1
      go_upto_region 9 with fail
      generalize (wA.alloc (.cells #[.slice none 0 0, .slice none 0 0] 30)) = w1 at *
      have c0 := H1.out.1.cell (i := 0) rfl
      have B2 := Blk.new w1 (ints (tabI p.lemmas.length fun _ => 0)) 3
      have u2 := (Upd.refl [] w1).alloc (.cells (ints (tabI p.lemmas.length fun _ => 0)).toArray 3)
      rw [hz1] at B2
      have H2 := Lib.hid (And.intro (H1.out.1.upd u2 (by simp)) (And.intro (H1.out.2.1.upd u2 (by simp)) (And.intro (H1.out.2.2.1.upd u2 (by simp)) (And.intro (H1.out.2.2.2.1.upd u2 (by simp)) (And.intro B2 (H1.out.2.2.2.2.step u2))))))
      clear H1 B2 u2
      go_upto_region 10 with (refine wpList_mk rfl _ _ _ rfl 3 1 8 _ Try.underlying22 infoInt rfl (by decide) _ _ _ _ p.lemmas.length rfl rfl rfl rfl (by omega) (by omega) ?_; change wpList _ _ _ _ _ (w1.alloc (.cells (rows p.lemmas.length fun _ => [.int .i64 0]).toArray 3)); rw [← tabI_zero])
      generalize (w1.alloc (.cells (ints (tabI p.lemmas.length fun _ => 0)).toArray 3)) = w2' at *
      clear c0
      have c0 := H2.out.1.cell (i := 0) rfl
      go_wp2_with fail
      go_loopw [49] (fun i wr => ∃ (k : Nat) (vl' : Value), i = .int .i64 k ∧ k ≤ p.lemmas.length ∧ Blk wr w.heap.size [.slice al p.lemmas.length cl, .slice a2 p.steps.length c2] 30 ∧ Blk wr (w.heap.size + 1) [.slice none 0 0, .slice none 0 0] 30 ∧ Blk wr (w.heap.size + 2) (bools (tab p.lemmas.length q)) 4 ∧ Blk wr wA.heap.size [vl', .slice none 0 0] 30 ∧ Blk wr (wA.heap.size + 1) (ints (tabI p.lemmas.length fun j => if j < k then lemNo q j else 0)) 3 ∧ LmQ w vl' (keepTo q p.lemmas k) wr ∧ Upd [] w wr) (fun i _ => p.lemmas.length - (intOf i).toNat)
      case atStart => exact ⟨0, .slice none 0 0, rfl, Nat.zero_le _, H2.out.1, H2.out.2.1, H2.out.2.2.1, H2.out.2.2.2.1, by simpa using H2.out.2.2.2.2.1, ⟨fun _ => [undef, undef, undef, undef], World.ownsRow_nil _ _ _ _, fun _ => rfl, fun i d hd => by simp [keepTo] at hd, by simp [Value.ownBlock]⟩, H2.out.2.2.2.2.2⟩
      case round =>
        obtain ⟨wo, rfl⟩ : ∃ wo : World, wo = wr := ⟨_, rfl⟩
        obtain ⟨k, vl', rfl, hk, hI⟩ := hrel
        have HI := Lib.hid hI
        clear H2 c0 hI
        by_cases hlt : k < p.lemmas.length
        · have hki2 : (k : Int) < p.lemmas.length := by omega
          have hs' := List.getElem?_eq_getElem hlt
          obtain ⟨g, cs, rfl, hR, hcell⟩ := HW.out.2.1.at_ k _ hs'
          have hkt : keepTo q p.lemmas (k + 1) = keepTo q p.lemmas k ++ (if q k then [p.lemmas[k]] else []) := by rw [keepTo, hs']; rfl
          generalize p.lemmas[k] = d at *
          obtain ⟨a1, c1, a2', c2', a3, c3, a4, c4, rfl⟩ := hR.cells
          have hU := HI.out.2.2.2.2.2.2
          have e0 := hU.some (hcell 0 _ rfl) (by simp)
          have e1 := hU.some (hcell 1 _ rfl) (by simp)
          have e2 := hU.some (hcell 2 _ rfl) (by simp)
          have e3 := hU.some (hcell 3 _ rfl) (by simp)
          rw [Nat.add_zero] at e0
          have HR := Lib.hid (And.intro hR hkt)
          have hgN := HI.out.2.2.2.2.1.lt
          clear hcell hs' hR hkt
          go_upto_region 13 with fail
          have b4 := Blk.new wo [.slice a1 d.graph.length c1, .slice a2' d.hyps.length c2', .slice a3 d.clause.length c3, .slice a4 d.steps.length c4] 82
          have u4 := (Upd.refl [] wo).alloc (.cells #[.slice a1 d.graph.length c1, .slice a2' d.hyps.length c2', .slice a3 d.clause.length c3, .slice a4 d.steps.length c4] 82)
          have H4 := Lib.hid (And.intro (HI.out.1.upd u4 (by simp)) (And.intro (HI.out.2.1.upd u4 (by simp)) (And.intro (HI.out.2.2.1.upd u4 (by simp)) (And.intro (HI.out.2.2.2.1.upd u4 (by simp)) (And.intro (HI.out.2.2.2.2.1.upd u4 (by simp)) (And.intro (HI.out.2.2.2.2.2.1.upd (off_nil _ _) u4) (And.intro (hU.step u4) b4)))))))
          clear HI b4 u4 e0 e1 e2 e3 hU
          generalize (wo.alloc (.cells #[.slice a1 d.graph.length c1, .slice a2' d.hyps.length c2', .slice a3 d.clause.length c3, .slice a4 d.steps.length c4] 82)) = w4 at *
          have dq := H4.out.2.2.1.cell (i := k) (bools_get (tab_get (u := q) hlt))
          cases hqk : q k with
          | false =>
            rw [hqk] at dq
            have HN := Lib.hid (And.intro (show Blk w4 (wA.heap.size + 1) (ints (tabI p.lemmas.length fun j => if j < k + 1 then lemNo q j else 0)) 3 from by
              rw [tabI_congr (g := fun j => if j < k then lemNo q j else 0) (fun j _ => by
                by_cases e : j = k
                · subst e; rw [if_pos (by omega), if_neg (by omega)]; unfold lemNo; rw [hqk]; rfl
                · exact (ite_lt_succ e).symm)]
              exact H4.out.2.2.2.2.1) (show keepTo q p.lemmas (k + 1) = keepTo q p.lemmas k by rw [HR.out.2, hqk]; simp))
            clear hqk
            go_wp2_with fail
            exact ⟨⟨k + 1, vl', by go_num, by omega, H4.out.1, H4.out.2.1, H4.out.2.2.1, H4.out.2.2.2.1, HN.out.1, by rw [HN.out.2]; exact H4.out.2.2.2.2.2.1, H4.out.2.2.2.2.2.2.1⟩, by simp [intOf]; omega⟩
          | true =>
            rw [hqk] at dq
            obtain ⟨f, o1, o2, o3, o4⟩ := H4.out.2.2.2.2.2.1
            obtain ⟨_, al', cl', rfl, _, _⟩ := SL.of_owns o1
            have hml : (keepTo q p.lemmas k).length = cnt q k := keepTo_length (by omega)
            have hcl := cnt_le q k
            rw [hml] at o1
            have c0 := H4.out.2.2.2.1.cell (i := 0) rfl
            rw [hml] at c0
            have dk := H4.out.2.2.2.2.1.cell (i := k) (ints_get (tabI_get (f := fun j => if j < k then lemNo q j else 0) hlt))
            have fk := H4.out.2.2.2.2.1.free k
            have us : Upd [wA.heap.size + 1] w4 (w4.setCell ⟨wA.heap.size + 1, k, none⟩ (.int .i64 (cnt q k : Nat))) := (Upd.refl _ w4).set (.inl (by simp)) _
            have hlo := H4.out.2.2.2.2.1.lt
            have hgN2 := H4.out.2.2.2.2.1.set k (.int .i64 (cnt q k : Nat))
            rw [tabI_set, tabI_congr (g := fun j => if j < k + 1 then lemNo q j else 0) (fun j _ => by
              by_cases e : j = k
              · subst e; rw [if_pos rfl, if_pos (by omega)]; unfold lemNo; rw [hqk]; rfl
              · rw [if_neg e]; exact ite_lt_succ e)] at hgN2
            have hno : Off w4 [wA.heap.size + 1] [82, 30, 4] := off_blk H4.out.2.2.2.2.1 (by decide)
            have H5 := Lib.hid (And.intro (H4.out.1.upd us (by simp; omega)) (And.intro (H4.out.2.1.upd us (by simp; omega)) (And.intro (H4.out.2.2.1.upd us (by simp; omega)) (And.intro (H4.out.2.2.2.1.upd us (by simp)) (And.intro hgN2 (And.intro (H4.out.2.2.2.2.2.2.1.fresh us (fun b hb => .inr (by simp at hb; omega))) (And.intro (H4.out.2.2.2.2.2.2.2.upd us (by simp; omega)) (ownsRow_updL o1 us (hno.row o1 (by simp))))))))))
            have HF := Lib.hid (And.intro o2 (And.intro o3 (And.intro o4 hml)))
            clear us hgN2 hno o1 o2 o3 o4 hlo
            go_upto_region 15 with fail
            generalize (w4.setCell ⟨wA.heap.size + 1, k, none⟩ (.int .i64 (cnt q k : Nat))) = w5 at *
            clear c0 dk fk dq
            have c0 := H5.out.2.2.2.1.cell (i := 0) rfl
            rw [hml] at c0
            have x0 := H5.out.2.2.2.2.2.2.1.cell (i := 0) rfl
            have x1 := H5.out.2.2.2.2.2.2.1.cell (i := 1) rfl
            have x2 := H5.out.2.2.2.2.2.2.1.cell (i := 2) rfl
            have x3 := H5.out.2.2.2.2.2.2.1.cell (i := 3) rfl
            clear hml
            go_upto_region 15 with fail
            refine wp_region_lit ?_
            refine wpList_cutH 3 (fun K hK => ?_)
            simp only [List.take_succ_cons, List.take_zero]
            go_wp2_with fail
            refine Halt_.intro ?_; try simp only [List.drop_succ_cons, List.drop_zero]
            refine wpList_push rfl rfl _ _ _ _ rfl rfl rfl 82 4 96 _ Try.underlying27 infoLemma rfl (by decide) (by decide) (.agg #[.slice a1 d.graph.length c1, .slice a2' d.hyps.length c2', .slice a3 d.clause.length c3, .slice a4 d.steps.length c4]) [.slice a1 d.graph.length c1, .slice a2' d.hyps.length c2', .slice a3 d.clause.length c3, .slice a4 d.steps.length c4] rfl rfl rfl (by simp [Value.oneCell']) _ _ _ H5.out.2.2.2.2.2.2.2 rfl rfl (by unfold maxLen; omega) (by omega) ?_
            intro g7 c7 w7 o7 u7 k7
            simp only [Act.put, List.setIfInBounds_toArray, List.set_cons_zero, List.set_cons_succ]
            have B7 := offrow H5.out.2.2.2.1 H5.out.2.2.2.2.2.2.2 (by decide) u7
            have c7' := B7.cell (i := 0) rfl
            have f7 := B7.free 0
            have hnew : ∀ b ∈ (Value.slice al' (cnt q k) cl').ownBlock.toList, w.heap.size ≤ b := fun b hb => by
              have h := HF.out.2.2.1
              rw [HF.out.2.2.2] at h
              exact h b (by simpa using hb)
            have us7 : Upd [wA.heap.size] w7 (w7.setCell ⟨wA.heap.size, 0, none⟩ (.slice (some ⟨g7, 0, none⟩) (cnt q k + 1) c7)) := (Upd.refl _ w7).set (.inl (by simp)) _
            have hz5 := H5.out.2.2.2.2.2.1.size
            have LQ := lmQ_push (v' := .slice (some ⟨g7, 0, none⟩) (cnt q k + 1) c7) (L := keepTo q p.lemmas k) (W' := w7) HF.out.1 HF.out.2.1 HR.out.1 rfl (by rw [HF.out.2.2.2]; exact o7) (fun g hg => by
              simp only [Value.ownBlock, Option.some.injEq] at hg
              subst hg
              rcases k7 with h | h
              · exact hnew _ (by rw [h]; simp)
              · omega)
            have H7 := Lib.hid (And.intro ((offrow H5.out.1 H5.out.2.2.2.2.2.2.2 (by decide) u7).upd us7 (by simp; omega)) (And.intro ((offrow H5.out.2.1 H5.out.2.2.2.2.2.2.2 (by decide) u7).upd us7 (by simp; omega)) (And.intro ((offrow H5.out.2.2.1 H5.out.2.2.2.2.2.2.2 (by decide) u7).upd us7 (by simp; omega)) (And.intro (B7.set 0 (.slice (some ⟨g7, 0, none⟩) (cnt q k + 1) c7)) (And.intro ((offrow H5.out.2.2.2.2.1 H5.out.2.2.2.2.2.2.2 (by decide) u7).upd us7 (by simp)) (And.intro (show LmQ w (.slice (some ⟨g7, 0, none⟩) (cnt q k + 1) c7) (keepTo q p.lemmas (k + 1)) _ from by rw [HR.out.2, hqk]; exact LQ.upd (off_blk B7 (by decide)) us7) ((H5.out.2.2.2.2.2.1.fresh u7 (fun b hb => .inr (hnew b hb))).fresh us7 (fun b hb => .inr (by simp at hb; omega)))))))))
            clear B7 us7 LQ o7 u7 k7 hnew hqk
            go_wp2_with fail
            exact ⟨⟨k + 1, _, by go_num, by omega, H7.out.1, H7.out.2.1, H7.out.2.2.1, H7.out.2.2.2.1, H7.out.2.2.2.2.1, H7.out.2.2.2.2.2⟩, by simp [intOf]; omega⟩
        · have hki2 : ¬ (k : Int) < p.lemmas.length := by omega
          have hkn : k = p.lemmas.length := by omega
          rw [hkn] at HI
          clear hkn hlt hk
          obtain ⟨wB, rfl⟩ : ∃ wB : World, wB = wo := ⟨_, rfl⟩
          obtain ⟨Lk, hLk⟩ : ∃ Lk, Lk = keepTo q p.lemmas p.lemmas.length := ⟨_, rfl⟩
          rw [← hLk] at HI
          have HLk := Lib.hid hLk
          clear hLk
          have hzB := HI.out.2.2.2.2.1.lt
          have c1 := HI.out.1.cell (i := 1) rfl
          have B1 := Blk.new wB (ints (tabI p.steps.length fun _ => 0)) 3
          have u1 := (Upd.refl [] wB).alloc (.cells (ints (tabI p.steps.length fun _ => 0)).toArray 3)
          have HP := Lib.hid (show PK3 w wA.heap.size (wA.heap.size + 1) wB.heap.size p.lemmas.length p.steps.length [.slice al p.lemmas.length cl, .slice a2 p.steps.length c2] vl' (.slice none 0 0) q u Lk [] (fun _ => 0) _ from
            ⟨HI.out.1.upd u1 (by simp), HI.out.2.1.upd u1 (by simp), HI.out.2.2.2.1.upd u1 (by simp), HI.out.2.2.2.2.1.upd u1 (by simp), B1, HI.out.2.2.2.2.2.1.upd (off_nil _ _) u1, ⟨fun _ => [undef, undef, undef, undef, undef, undef, undef], World.ownsRow_nil _ _ _ _, fun _ => rfl, fun i d hd => by simp at hd, by simp [Value.ownBlock]⟩, HI.out.2.2.2.2.2.2.step u1⟩)
          clear HI B1 u1
          go_upto_region 18 with (refine wpList_mk rfl _ _ _ rfl 3 1 8 _ Try.underlying22 infoInt rfl (by decide) _ _ _ _ p.steps.length rfl rfl rfl rfl (by omega) (by omega) ?_; change wpList _ _ _ _ _ (wB.alloc (.cells (rows p.steps.length fun _ => [.int .i64 0]).toArray 3)); rw [← tabI_zero])
          generalize (wB.alloc (.cells (ints (tabI p.steps.length fun _ => 0)).toArray 3)) = w6 at *
          clear c1
          have c1 := HP.out.pb.cell (i := 1) rfl
          go_wp2_with fail
          go_loopw [78] (fun i wr => ∃ (k : Nat) (vs' : Value), i = .int .i64 k ∧ k ≤ p.steps.length ∧ PK3 w wA.heap.size (wA.heap.size + 1) wB.heap.size p.lemmas.length p.steps.length [.slice al p.lemmas.length cl, .slice a2 p.steps.length c2] vl' vs' q u Lk (keepTo u (p.steps.map (renS (stepNo u) (lemNo q))) k) (fun j => if j < k then stepNo u j else 0) wr) (fun i _ => p.steps.length - (intOf i).toNat)
          case atStart => exact ⟨0, .slice none 0 0, rfl, Nat.zero_le _, HP.out.congr (fun j _ => by simp)⟩
          case round =>
            obtain ⟨wo, rfl⟩ : ∃ wo : World, wo = wr := ⟨_, rfl⟩
            obtain ⟨k, vs', rfl, hk, hI⟩ := hrel
            have HI := Lib.hid hI
            clear HP c1 hI
            by_cases hlt : k < p.steps.length
            · have hki3 : (k : Int) < p.steps.length := by omega
              have hs' := List.getElem?_eq_getElem hlt
              obtain ⟨g, vp, vl2, vh, rfl, hcell, hF⟩ := HW.out.1 k _ hs'
              have hlm := HW.out.2.2.1.lem k _ hs'
              have hhk := HW.out.2.2.1.hint k _ hs'
              have hhl := HW.out.2.2.2.1 k _ hs'
              have hkt : keepTo u (p.steps.map (renS (stepNo u) (lemNo q))) (k + 1) = keepTo u (p.steps.map (renS (stepNo u) (lemNo q))) k ++ (if u k then [renS (stepNo u) (lemNo q) p.steps[k]] else []) := by rw [keepTo, List.getElem?_map, hs']; rfl
              generalize p.steps[k] = s at *
              have hU := HI.out.u_
              obtain ⟨ap, cp, rfl, _⟩ := hF.1.cells
              obtain ⟨av, cv, rfl, _⟩ := hF.2.1.cells
              obtain ⟨ah, ch, rfl, _⟩ := hF.2.2.1.cells
              have e0 := hU.some (hcell 0 _ rfl) (by simp)
              have e1 := hU.some (hcell 1 _ rfl) (by simp)
              have e2 := hU.some (hcell 2 _ rfl) (by simp)
              have e3 := hU.some (hcell 3 _ rfl) (by simp)
              have e4 := hU.some (hcell 4 _ rfl) (by simp)
              have e5 := hU.some (hcell 5 _ rfl) (by simp)
              have e6 := hU.some (hcell 6 _ rfl) (by simp)
              rw [Nat.add_zero] at e0
              have HS := Lib.hid (And.intro hF (And.intro hlm (And.intro hhk (And.intro hkt hhl))))
              have hgS := HI.out.gS_.lt
              clear hcell hs' hF hlm hhk hkt hhl
              go_upto_region 21 with fail
              have b4 := Blk.new wo (stC s (.slice ap s.params.length cp) (.slice av s.lits.length cv) (.slice ah s.hints.length ch)) 56
              have u4 : Upd [] wo (wo.alloc (.cells (stC s (.slice ap s.params.length cp) (.slice av s.lits.length cv) (.slice ah s.hints.length ch)).toArray 56)) := (Upd.refl [] wo).alloc _
              change Code.wp _ _ _ _ (wo.alloc (.cells (stC s (.slice ap s.params.length cp) (.slice av s.lits.length cv) (.slice ah s.hints.length ch)).toArray 56))
              generalize (wo.alloc (.cells (stC s (.slice ap s.params.length cp) (.slice av s.lits.length cv) (.slice ah s.hints.length ch)).toArray 56)) = w4 at *
              have P4 := HI.out.ext u4
              have dk := P4.gS_.cell (i := k) (ints_get (tabI_get (f := fun j => if j < k then stepNo u j else 0) hlt))
              have fk := P4.gS_.free k
              have P5 := (P4.setS (by omega) (by omega) (by omega) k (-1))
              have us5 : Upd [wB.heap.size] w4 (w4.setCell ⟨wB.heap.size, k, none⟩ (.int .i64 (-1))) := (Upd.refl _ w4).set (.inl (by simp)) _
              have H5 := Lib.hid (And.intro P5 (b4.upd us5 (by simp; omega)))
              clear P4 P5 us5 b4 u4 e0 e1 e2 e3 e4 e5 e6 hU HI
              go_upto_region 22 with fail
              generalize (w4.setCell ⟨wB.heap.size, k, none⟩ (.int .i64 (-1))) = w5 at *
              clear dk fk
              have du := (HW.out.2.2.2.2.upd H5.out.1.u_ (by simp)).cell (i := k) (bools_get (tab_get hlt))
              cases huk : u k with
              | false =>
                rw [huk] at du
                have HN := Lib.hid (And.intro (H5.out.1.congr (sn' := fun j => if j < k + 1 then stepNo u j else 0) (fun j _ => by
                  by_cases e : j = k
                  · subst e; rw [if_pos rfl, if_pos (by omega)]; unfold stepNo; rw [huk]; rfl
                  · rw [if_neg e]; exact ite_lt_succ e)) (show keepTo u (p.steps.map (renS (stepNo u) (lemNo q))) (k + 1) = keepTo u (p.steps.map (renS (stepNo u) (lemNo q))) k by rw [HS.out.2.2.2.1, huk]; simp))
                clear huk
                go_wp2_with fail
                exact ⟨⟨k + 1, vs', by go_num, by omega, by rw [HN.out.2]; exact HN.out.1⟩, by simp [intOf]; omega⟩
              | true =>
                rw [huk] at du
                obtain ⟨f, o1, o2, o3, o4⟩ := H5.out.1.sq
                obtain ⟨as', cs', rfl⟩ := ownsRow_slice o1
                have hml : (keepTo u (p.steps.map (renS (stepNo u) (lemNo q))) k).length = cnt u k := keepTo_length (by rw [List.length_map]; omega)
                have hcl := cnt_le u k
                have H5' := H5.out.1
                rw [hml] at o1 o4 H5'
                have c1 := H5'.ob_.cell (i := 1) rfl
                have dk := H5'.gS_.cell (i := k) (ints_get (tabI_get (f := fun j => if j = k then (-1 : Int) else if j < k then stepNo u j else 0) hlt))
                have fk := H5'.gS_.free k
                have P6 := H5'.setS (by omega) (by omega) (by omega) k (cnt u k : Nat)
                have P6' := P6.congr (sn' := fun j => if j < k + 1 then stepNo u j else 0) (fun j _ => by
                  by_cases e : j = k
                  · subst e; rw [if_pos rfl, if_pos (by omega)]; unfold stepNo; rw [huk]; rfl
                  · rw [if_neg e, if_neg e]; exact ite_lt_succ e)
                have us6 : Upd [wB.heap.size] w5 (w5.setCell ⟨wB.heap.size, k, none⟩ (.int .i64 (cnt u k : Nat))) := (Upd.refl _ w5).set (.inl (by simp)) _
                have b6 := H5.out.2.upd us6 (by simp; omega)
                have HK := Lib.hid (And.intro (show keepTo u (p.steps.map (renS (stepNo u) (lemNo q))) (k + 1) = keepTo u (p.steps.map (renS (stepNo u) (lemNo q))) k ++ [renS (stepNo u) (lemNo q) s] by rw [HS.out.2.2.2.1, huk]; simp) hml)
                have H6 := Lib.hid (And.intro P6' b6)
                clear P6 P6' us6 b6 H5' o1 o2 o3 o4 hml huk f
                go_upto_region 24 with fail
                generalize (w5.setCell ⟨wB.heap.size, k, none⟩ (.int .i64 (cnt u k : Nat))) = w6' at *
                clear c1 dk fk du
                have c1 := H6.out.1.ob_.cell (i := 1) rfl
                have d0 := H6.out.2.cell (i := 0) rfl
                have d1 := H6.out.2.cell (i := 1) rfl
                have d2 := H6.out.2.cell (i := 2) rfl
                have d3 := H6.out.2.cell (i := 3) rfl
                have d4 := H6.out.2.cell (i := 4) rfl
                have d5 := H6.out.2.cell (i := 5) rfl
                have d6 := H6.out.2.cell (i := 6) rfl
                have HRN := Lib.hid (fun (x : Ext w6') => ren_calls (w := x.val) (na := p.steps.length) (nb := p.lemmas.length) (sn := fun j => if j < k + 1 then stepNo u j else 0) (ln := fun j => if j < p.lemmas.length then lemNo q j else 0) ((HS.out.1.ext H6.out.1.u_).ext x.upd) (H6.out.1.gS_.upd x.upd (by simp)) (H6.out.1.gN_.upd x.upd (by simp)) (fun h hh => by have := HS.out.2.2.1 h hh; omega) HS.out.2.1 HS.out.2.2.2.2
                  (fun j => by
                    by_cases e : j < k + 1
                    · rw [if_pos e]; unfold stepNo; have := cnt_le u j; unfold IsI64; split <;> omega
                    · rw [if_neg e]; unfold IsI64; omega)
                  (fun j => by
                    by_cases e : j < p.lemmas.length
                    · rw [if_pos e]; unfold lemNo; have := cnt_le q j; unfold IsI64; split <;> omega
                    · rw [if_neg e]; unfold IsI64; omega))
                have HEQ := Lib.hid (show renS (fun j => if j < k + 1 then stepNo u j else 0) (fun j => if j < p.lemmas.length then lemNo q j else 0) s = renS (stepNo u) (lemNo q) s from renS_congr (fun h hh => by have := HS.out.2.2.1 h hh; rw [if_pos (by omega)]) (fun hk4 => by have := HS.out.2.1 hk4; rw [if_pos (by omega)]))
                rw [HEQ.out] at HRN
                dsimp only [stC] at HRN
                refine wp_region_ord 7 2 [0, 1, 2, 3, 4, 8] [1, 2] [0, 1, 2, 3, 4, 5, 6, 7, 8, 9] (fun w' => ∃ x : Ext w6', w' = x.val) (by kernel_rfl) (by kernel_rfl) (Ext.of ((Upd.refl _ _).drew)) ?_
                repeat (first | (refine wpOrd_load rfl rfl rfl rfl (fun K hK => ?_); go_big_quiet_step (fail); refine wpQuiet_nil ?_; refine hK _ ?_; clear hK K) | (refine wpOrd_free rfl rfl rfl (fun K hK => ?_); go_big_quiet_step (fail); refine wpQuiet_nil ?_; refine hK _ ?_; clear hK K))
                refine wpOrd_fix rfl rfl (fun K hK => ?_)
                have HRD := HRN.out ⟨w6'.drew, (Upd.refl _ _).drew⟩
                go_wp2_with (go_at_call 51; refine HRD.mono ?_; rintro e w7 ⟨gh, rfl, hrow, hgh, u7⟩)
                have U7 : Upd [] w6' w7 := ((Upd.refl _ w6').drew).step u7
                have hgh' : w6'.heap.size ≤ gh := hgh
                refine ⟨fun _ => Ext.of U7, ?_⟩
                have P7 := H6.out.1.ext U7
                have HP7 := Lib.hid (And.intro P7 (And.intro hrow U7))
                clear P7 hrow u7 U7 HRD HRN
                repeat (first | (refine wpOrd_load rfl rfl rfl rfl (fun K hK => ?_); go_big_quiet_step (fail); refine wpQuiet_nil ?_; refine hK _ ?_; clear hK K) | (refine wpOrd_free rfl rfl rfl (fun K hK => ?_); go_big_quiet_step (fail); refine wpQuiet_nil ?_; refine hK _ ?_; clear hK K))
                refine wpOrd_fix rfl rfl (fun K hK => ?_)
                go_wp2_with fail
                refine ⟨fun _ => Ext.of (HP7.out.2.2.step ((Upd.refl _ w7).alloc _)), ?_⟩
                have hints64 : ∀ x ∈ (renS (stepNo u) (lemNo q) s).hints, IsI64 x := fun x hx => by
                  obtain ⟨h, hh, rfl⟩ := List.mem_map.1 hx
                  show IsI64 (stepNo u h.toNat)
                  have h1 := HS.out.2.2.1 h hh
                  have h2 := cnt_le u h.toNat
                  unfold stepNo IsI64
                  split <;> omega
                have hnode64 : IsI64 (renS (stepNo u) (lemNo q) s).node := by
                  show IsI64 (if s.kind = 4 then lemNo q s.node.toNat else s.node)
                  by_cases hk4 : s.kind = 4
                  · rw [if_pos hk4]
                    have h1 := HS.out.2.1 hk4
                    have h2 := cnt_le q s.node.toNat
                    unfold lemNo IsI64
                    split <;> omega
                  · rw [if_neg hk4]; exact HS.out.1.2.2.2.2.1
                have hSF : StF w7 (renS (stepNo u) (lemNo q) s) (.slice ap s.params.length cp) (.slice av s.lits.length cv) (.slice (some ⟨gh, 0, none⟩) s.hints.length s.hints.length) := by
                  obtain ⟨f1, f2, f3, f4, f5, f6, f7, f8, f9, f10⟩ := HS.out.1
                  exact ⟨f1.ext HP7.out.1.u_, f2.ext HP7.out.1.u_, HP7.out.2.1, f4, hnode64, f6, f7, f8, hints64, f10⟩
                have hSE : SE wB.heap.size w7 (renS (stepNo u) (lemNo q) s) (stC (renS (stepNo u) (lemNo q) s) (.slice ap s.params.length cp) (.slice av s.lits.length cv) (.slice (some ⟨gh, 0, none⟩) s.hints.length s.hints.length)) := by
                  have hg6 := H6.out.1.gS_.lt
                  have hwB : w.heap.size ≤ wB.heap.size := by omega
                  refine ⟨_, _, _, rfl, hSF, fun e => ?_, fun e => ?_, fun e => ?_⟩
                  · have := HS.out.1.1.lt _ e; omega
                  · have := HS.out.1.2.1.lt _ e; omega
                  · simp only [Value.ownBlock, Option.some.injEq] at e; omega
                generalize hD : renS (stepNo u) (lemNo q) s = D at *
                have B8 := Blk.new w7 (stC D (.slice ap s.params.length cp) (.slice av s.lits.length cv) (.slice (some ⟨gh, 0, none⟩) s.hints.length s.hints.length)) 56
                have u8 : Upd [] w7 (w7.alloc (.cells (stC D (.slice ap s.params.length cp) (.slice av s.lits.length cv) (.slice (some ⟨gh, 0, none⟩) s.hints.length s.hints.length)).toArray 56)) := (Upd.refl _ w7).alloc _
                have P8 := HP7.out.1.ext u8
                have hSE8 := hSE.upd (T := []) (by intro b hb; simp at hb) u8
                obtain ⟨f, o1, o2, o3, o4⟩ := P8.sq
                rw [HK.out.2] at o1
                have H8 := Lib.hid (And.intro P8 (And.intro hSE8 (And.intro o2 (And.intro o3 (And.intro o4 o1)))))
                have HB8 := Lib.hid (And.intro B8 (And.intro (HP7.out.2.2.step u8) hD))
                clear B8 u8 P8 hSE8 o1 o2 o3 o4 hSE hSF hints64 hnode64 hD
                change wpOrd _ _ _ _ _ _ _ _ _ _ (w7.alloc (.cells (stC D (.slice ap s.params.length cp) (.slice av s.lits.length cv) (.slice (some ⟨gh, 0, none⟩) s.hints.length s.hints.length)).toArray 56))
                generalize (w7.alloc (.cells (stC D (.slice ap s.params.length cp) (.slice av s.lits.length cv) (.slice (some ⟨gh, 0, none⟩) s.hints.length s.hints.length)).toArray 56)) = w8 at *
                repeat (first | (refine wpOrd_load rfl rfl rfl rfl (fun K hK => ?_); go_big_quiet_step (fail); refine wpQuiet_nil ?_; refine hK _ ?_; clear hK K) | (refine wpOrd_free rfl rfl rfl (fun K hK => ?_); go_big_quiet_step (fail); refine wpQuiet_nil ?_; refine hK _ ?_; clear hK K))
                refine wpOrd_fix rfl rfl (fun K hK => ?_)
                refine wpList_app rfl _ _ _ rfl 56 7 112 _ Try.underlying28 infoStep rfl (by decide) (.slice as' (cnt u k) cs') (cnt u k) (rows (cnt u k) f) rfl H8.out.2.2.2.2.2 w7.heap.size 1 1 (stC D (.slice ap s.params.length cp) (.slice av s.lits.length cv) (.slice (some ⟨gh, 0, none⟩) s.hints.length s.hints.length)) 56 rfl rfl HB8.out.1 (stC_one _ _ _ _ rfl rfl rfl) (by omega) (by unfold maxLen; omega) (by omega) ?_
                intro g9 c9 w9 o9 u9 k9
                simp only [Act.put, List.setIfInBounds_toArray, List.set_cons_zero, List.set_cons_succ]
                have hPP := PK3.push H8.out.1 HK.out.2.symm (by omega) H8.out.2.2.2.2.2 H8.out.2.2.1 H8.out.2.2.2.1 H8.out.2.2.2.2.1 H8.out.2.1 o9 u9 (k9.imp_right (fun h => by omega))
                have c9' := hPP.1.cell (i := 1) rfl
                have f9 := hPP.1.free 1
                have HPP := Lib.hid hPP.2
                clear hPP o9 u9 k9
                go_wp2_with fail
                refine ⟨fun hC => absurd hC (by decide), ?_⟩
                repeat (first | (refine wpOrd_load rfl rfl rfl rfl (fun K hK => ?_); go_big_quiet_step (fail); refine wpQuiet_nil ?_; refine hK _ ?_; clear hK K) | (refine wpOrd_free rfl rfl rfl (fun K hK => ?_); go_big_quiet_step (fail); refine wpQuiet_nil ?_; refine hK _ ?_; clear hK K))
                refine wpOrd_fix rfl rfl (fun K hK => ?_)
                go_wp2_with fail
                refine ⟨fun hC => absurd hC (by decide), ?_⟩
                refine wpOrd_nil ?_
                go_wp2_with fail
                exact ⟨⟨k + 1, _, by go_num, by omega, by rw [HK.out.1]; exact HPP.out⟩, by simp [intOf]; omega⟩
            · have hki3 : ¬ (k : Int) < p.steps.length := by omega
              have hkn : k = p.steps.length := by omega
              rw [hkn] at HI
              clear hkn hlt hk
              obtain ⟨as', cs', rfl⟩ : ∃ a c, vs' = .slice a (keepTo u (p.steps.map (renS (stepNo u) (lemNo q))) p.steps.length).length c := by
                obtain ⟨f, o1, _⟩ := HI.out.sq
                exact ownsRow_slice o1
              obtain ⟨al', cl', rfl⟩ : ∃ a c, vl' = .slice a Lk.length c := by
                obtain ⟨f, o1, _⟩ := HI.out.lq
                exact ownsRow_slice o1
              have b0 := HI.out.ob_.cell (i := 0) rfl
              have b1 := HI.out.ob_.cell (i := 1) rfl
              have r0 := HI.out.rb.cell (i := 0) rfl
              have r1 := HI.out.rb.cell (i := 1) rfl
              have fr0 := HI.out.rb.free 0
              have fr1 := HI.out.rb.free 1
              have us : Upd [w.heap.size + 1] wo ((wo.setCell ⟨w.heap.size + 1, 0, none⟩ (.slice al' Lk.length cl')).setCell ⟨w.heap.size + 1, 1, none⟩ (.slice as' (keepTo u (p.steps.map (renS (stepNo u) (lemNo q))) p.steps.length).length cs')) := ((Upd.refl _ wo).set (.inl (by simp)) _).set (.inl (by simp)) _
              have BR : Blk _ (w.heap.size + 1) [.slice al' Lk.length cl', .slice as' (keepTo u (p.steps.map (renS (stepNo u) (lemNo q))) p.steps.length).length cs'] 30 := (HI.out.rb.set 0 (.slice al' Lk.length cl')).set 1 (.slice as' (keepTo u (p.steps.map (renS (stepNo u) (lemNo q))) p.steps.length).length cs')
              have hor : Off wo [w.heap.size + 1] [3, 88, 56, 82] := off_blk HI.out.rb (by decide)
              have hRow : RowI wo (.slice (some ⟨wB.heap.size, 0, none⟩) p.steps.length p.steps.length) (tabI p.steps.length (stepNo u)) := by
                have h := rowI_fresh (HI.out.congr (sn' := stepNo u) (fun j hj => by rw [if_pos hj])).gS_ (by rw [tabI_length]; omega)
                rwa [tabI_length] at h
              have hpk : pickP p u = ⟨Lk, keepTo u (p.steps.map (renS (stepNo u) (lemNo q))) p.steps.length⟩ := by unfold pickP; rw [← HQ.out, ← HLk.out]
              have HX := Lib.hid (And.intro BR (And.intro ((HI.out.lq.lml HI.out.u_).kd hor (by simp) (by simp) (by simp) (by simp) us) (And.intro (HI.out.sq.stl.kd hor (by simp) (by simp) us) (And.intro (hRow.kd hor (by simp) us) (And.intro (HI.out.u_.fresh us (fun b hb => .inr (by simp at hb; omega))) hpk)))))
              clear us BR hor hRow hpk
              generalize keepTo u (p.steps.map (renS (stepNo u) (lemNo q))) p.steps.length = Sk at *
              go_wp2_with fail
              exact ret_row_tmp rfl rfl HX.out.1 Try.underlying30 (by kernel_rfl) rfl rfl ⟨_, _, wB.heap.size, rfl, by rw [HX.out.2.2.2.2.2]; exact ⟨_, _, rfl, HX.out.2.1, HX.out.2.2.1⟩, HX.out.2.2.2.1, by omega, HX.out.2.2.2.2.1⟩
end
end Trim
end Go.Proofs.Ytnmfihgdedifoaa
