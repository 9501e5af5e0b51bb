/- The state of the reference's Spoilt of automata in memory: every slice is one's own. Conditions: none. -/
import Derived.Test.YtjclbjdkkdijbaaGreatAuZc
import Derived.Test.YtjclbjdkkdijbaaGreatAuF
set_option linter.unusedVariables false
set_option linter.unusedSimpArgs false
set_option linter.unusedSectionVars false
open Go.RowKit
namespace Go.Proofs.YtjclbjdkkdijbaaGreat
open L
namespace Aut
open Auto R01
/-- An automaton with one part changed. -/
def spoilA (a : Au) (at_ how by_ : Int) : Au :=
  if a.next.length = 0 ∨ a.cuts.length = 0 then a
  else if around how 8 = 0 then ⟨a.cuts.set (around at_ a.cuts.length).toNat by_, a.next, a.acc⟩
  else if around how 8 = 1 then ⟨a.cuts ++ [by_], a.next, a.acc⟩
  else if around how 8 = 2 then ⟨[], a.next, a.acc⟩
  else if around how 8 = 3 then (if 0 < (a.next.getD (around at_ a.next.length).toNat []).length then ⟨a.cuts, a.next.set (around at_ a.next.length).toNat ((a.next.getD (around at_ a.next.length).toNat []).set (around by_ (a.next.getD (around at_ a.next.length).toNat []).length).toNat by_), a.acc⟩ else a)
  else if around how 8 = 4 then ⟨a.cuts, a.next.set (around at_ a.next.length).toNat (a.next.getD (around at_ a.next.length).toNat [] ++ [0]), a.acc⟩
  else if around how 8 = 5 then ⟨a.cuts, a.next, a.acc ++ [true]⟩
  else if around how 8 = 6 then ⟨a.cuts, a.next.take (around at_ a.next.length).toNat, a.acc.take (around at_ a.next.length).toNat⟩
  else ⟨a.cuts, a.next, List.replicate (250 + around by_ 12).toNat false⟩
section
variable {w0 w w' w1 : World} {e e' : TypeId} {k k' n n' b g cap : Nat} {v v' cv nv av y : Value} {x x' c rvs : List Value} {cs rw_ : List Int} {ns : List (List Int)} {bs : List Bool} {U : List Nat} {ab : Nat}
def KindT (w : World) (b : Nat) (e : TypeId) : Prop := ∃ c q, w.heap[b]? = some (.cells c e q)
theorem KindT.inj (h : KindT w b e) (h' : KindT w b e') : e = e' := by
  obtain ⟨c, q, h⟩ := h
  obtain ⟨c', q', h'⟩ := h'
  rw [h] at h'
  simp at h'
  exact h'.2.1
theorem kt_row (h : w.ownsRow 0 e k v n x) (hg : v.ownBlock = some g) : KindT w g e := by
  rcases h.2 with ⟨rfl, _⟩ | ⟨a, cap, cur, rfl, _, ha, _⟩
  · simp [Value.ownBlock] at hg
  · simp only [Value.ownBlock, Option.some.injEq] at hg
    subst hg
    exact ⟨_, _, ha⟩
theorem own_ne (h : w.ownsRow 0 e k v n x) (h' : w.ownsRow 0 e' k' v' n' x') (hne : e ≠ e') (hq : v.ownBlock = some g) : v'.ownBlock ≠ some g := fun h2 => hne ((kt_row h hq).inj (kt_row h' h2))
theorem own_bne (h : w.ownsRow 0 e k v n x) (hb : Blk w b c e') (hne : e ≠ e') (hq : v.ownBlock = some g) : g ≠ b := fun h2 => hne ((kt_row h hq).inj (h2 ▸ ⟨_, _, hb⟩))
theorem own_blk (h : w.ownsRow 0 e 1 (.slice (some ⟨g, 0, none⟩) n cap) n x) : ∃ pad, Blk w g (x ++ pad) e ∧ x.length = n ∧ n ≤ cap ∧ cap ≤ maxLen ∧ (x ++ pad).length = cap := by
  obtain ⟨h1, h2⟩ := h
  rcases h2 with ⟨h2, _⟩ | ⟨g', cap', cur, he, _, hg, hn, hc, hs, ht⟩
  · cases h2
  · simp only [Value.slice.injEq, Option.some.injEq, Addr.mk.injEq, and_true, true_and] at he
    obtain ⟨rfl, rfl⟩ := he
    refine ⟨cur.toList.drop (n * 1), ?_, by omega, hn, hc, ?_⟩
    · rw [← ht, List.take_append_drop]
      unfold Blk
      rw [hg]
    · rw [← ht, List.take_append_drop]
      simpa using hs
/-- A cell of a row of one's own is written. -/
theorem own_set (h : w.ownsRow 0 e 1 (.slice (some ⟨g, 0, none⟩) n cap) n x) {i : Nat} (hi : i < n) (u : Value) : SL (w.setCell ⟨g, i, none⟩ u) 1 (.slice (some ⟨g, 0, none⟩) n cap) n (x.set i u) := by
  obtain ⟨pad, hb, h1, h2, h3, _⟩ := own_blk h
  have hb2 := hb.set i u
  rw [List.set_append_left _ _ (by omega)] at hb2
  exact SL.of_blk hb2 (by simpa using h1) h2 h3
structure SpS (w0 : World) (ab : Nat) (cv nv av : Value) (cs : List Int) (ns : List (List Int)) (bs : List Bool) (rvs : List Value) (w : World) : Prop where
  bx : Blk w ab [cv, nv, av] 39
  cu : w.ownsRow 0 3 1 cv cs.length (ints cs)
  tb : w.ownsRow 0 22 1 nv ns.length rvs
  ac : w.ownsRow 0 4 1 av bs.length (bools bs)
  rw : ∀ (i : Nat) (c : List Int) (y : Value), ns[i]? = some c → rvs[i]? = some y → w.ownsRow 0 3 1 y c.length (ints c)
  ds : ∀ (i j : Nat) (y z : Value) (q : Nat), rvs[i]? = some y → rvs[j]? = some z → y.ownBlock = some q → z.ownBlock = some q → i = j
  cd : ∀ (i : Nat) (y : Value) (q : Nat), rvs[i]? = some y → y.ownBlock = some q → cv.ownBlock ≠ some q
  nw : w0.heap.size ≤ ab ∧ (∀ q, cv.ownBlock = some q → w0.heap.size ≤ q) ∧ (∀ q, nv.ownBlock = some q → w0.heap.size ≤ q) ∧ (∀ q, av.ownBlock = some q → w0.heap.size ≤ q) ∧ ∀ (i : Nat) (y : Value) (q : Nat), rvs[i]? = some y → y.ownBlock = some q → w0.heap.size ≤ q
  u : Upd [] w0 w
theorem SpS.len (h : SpS w0 ab cv nv av cs ns bs rvs w) : rvs.length = ns.length := by have := h.tb.1; omega
theorem SpS.val (h : SpS w0 ab cv nv av cs ns bs rvs w) {i : Nat} {c : List Int} (hc : ns[i]? = some c) : ∃ y, rvs[i]? = some y ∧ w.ownsRow 0 3 1 y c.length (ints c) := by
  have hi := (List.getElem?_eq_some_iff.1 hc).1
  have hl := h.len
  exact ⟨rvs[i], List.getElem?_eq_getElem (by omega), h.rw i c _ hc (List.getElem?_eq_getElem (by omega))⟩
theorem SpS.quiet (h : SpS w0 ab cv nv av cs ns bs rvs w) (hu : Upd [] w w') : SpS w0 ab cv nv av cs ns bs rvs w' :=
  ⟨h.bx.upd hu (by simp), ownsRow_updL h.cu hu (by simp), ownsRow_updL h.tb hu (by simp), ownsRow_updL h.ac hu (by simp), fun i c y h1 h2 => ownsRow_updL (h.rw i c y h1 h2) hu (by simp), h.ds, h.cd, h.nw, h.u.step hu⟩
theorem SpS.cl_ (h : SpS w0 ab cv nv av cs ns bs rvs w) (hu : Upd U w w') (h1 : ∀ b ∈ U, nv.ownBlock ≠ some b) (h2 : ∀ (i : Nat) (y : Value), rvs[i]? = some y → ∀ b ∈ U, y.ownBlock ≠ some b) : CL w' nv ns := by
  refine ⟨rvs, h.len, SL.of_owns (ownsRow_updL h.tb hu h1), fun i c hc => ?_⟩
  obtain ⟨y, hy, ho⟩ := h.val hc
  exact ⟨y, hy, SL.of_owns (ownsRow_updL ho hu (h2 i y hy))⟩
theorem SpS.auf (h : SpS w0 ab cv nv av cs ns bs rvs w) : AuF w ⟨cs, ns, bs⟩ [cv, nv, av] :=
  ⟨_, _, _, rfl, SL.of_owns h.cu, h.cl_ (Upd.refl [] w) (by simp) (by simp), SL.of_owns h.ac⟩
/-- A row is appended. -/
theorem SpS.addRow (h : SpS w0 ab cv nv av cs ns bs rvs w) (hy : w.ownsRow 0 3 1 y rw_.length (ints rw_)) (hyn : ∀ q, y.ownBlock = some q → w0.heap.size ≤ q ∧ (∀ (i : Nat) (z : Value), rvs[i]? = some z → z.ownBlock ≠ some q) ∧ cv.ownBlock ≠ some q)
    (o : w1.ownsRow 0 22 1 (.slice (some ⟨g, 0, none⟩) (ns.length + 1) cap) (ns.length + 1) (rvs ++ [y])) (hu : Upd nv.ownBlock.toList w w1) (hk : nv.ownBlock = some g ∨ w.heap.size ≤ g) :
    SpS w0 ab cv (.slice (some ⟨g, 0, none⟩) (ns.length + 1) cap) av cs (ns ++ [rw_]) bs (rvs ++ [y]) (w1.setCell ⟨ab, 1, none⟩ (.slice (some ⟨g, 0, none⟩) (ns.length + 1) cap)) := by
  have us : Upd [ab] w1 (w1.setCell ⟨ab, 1, none⟩ (.slice (some ⟨g, 0, none⟩) (ns.length + 1) cap)) := (Upd.refl [ab] w1).set (p := ⟨ab, 1, none⟩) (by simp) _
  have hnb : nv.ownBlock ≠ some ab := fun hq => own_bne h.tb h.bx (by decide) hq rfl
  have hab := h.bx.lt
  have hgab : g ≠ ab := fun e => by
    rcases hk with h3 | h3
    · exact hnb (e ▸ h3)
    · omega
  have hb1 : Blk w1 ab [cv, nv, av] 39 := h.bx.upd hu (fun hm => hnb (by simpa using hm))
  have keep : ∀ {z : Value} {m : Nat} {e : TypeId} {xs : List Value}, w.ownsRow 0 e 1 z m xs → e ≠ 22 → e ≠ 39 → (w1.setCell ⟨ab, 1, none⟩ (.slice (some ⟨g, 0, none⟩) (ns.length + 1) cap)).ownsRow 0 e 1 z m xs := fun hz h1 h2 =>
    ownsRow_updL (ownsRow_updL hz hu (fun b hb hq => own_ne hz h.tb h1 hq (by simpa using hb))) us (fun b hb hq => own_bne hz h.bx h2 hq (by simpa using hb))
  have hl := h.len
  have hz := h.u.size
  have htb : (w1.setCell ⟨ab, 1, none⟩ (.slice (some ⟨g, 0, none⟩) (ns.length + 1) cap)).ownsRow 0 22 1 (.slice (some ⟨g, 0, none⟩) (ns.length + 1) cap) (ns ++ [rw_]).length (rvs ++ [y]) := by
    rw [show (ns ++ [rw_]).length = ns.length + 1 by simp]
    exact ownsRow_updL o us (fun b hb hq => by simp at hb; subst hb; simp [Value.ownBlock] at hq; exact hgab hq)
  refine ⟨hb1.set 1 _, keep h.cu (by decide) (by decide), htb, keep h.ac (by decide) (by decide), fun i c z h1 h2 => ?_, fun i j z1 z2 q h1 h2 h3 h4 => ?_, fun i z q h1 h2 => ?_, ⟨h.nw.1, h.nw.2.1, fun q hq => ?_, h.nw.2.2.2.1, fun i z q h1 h2 => ?_⟩, (h.u.fresh hu (fun b hb => .inr (h.nw.2.2.1 b (by simpa using hb)))).fresh us (fun b hb => .inr (by simp at hb; subst hb; exact h.nw.1))⟩
  · by_cases hi : i < ns.length
    · rw [List.getElem?_append_left (by omega)] at h1 h2
      exact keep (h.rw i c z h1 h2) (by decide) (by decide)
    · have hi2 := (List.getElem?_eq_some_iff.1 h1).1
      rw [List.length_append, List.length_singleton] at hi2
      have he : i = ns.length := by omega
      subst he
      rw [List.getElem?_append_right (Nat.le_refl _)] at h1
      rw [← hl, List.getElem?_append_right (Nat.le_refl _)] at h2
      simp at h1 h2
      subst h1 h2
      exact keep hy (by decide) (by decide)
  · rw [List.getElem?_append] at h1 h2
    split at h1
    · split at h2
      · exact h.ds i j z1 z2 q h1 h2 h3 h4
      · have h5 := (List.getElem?_eq_some_iff.1 h2).1
        simp at h5
        rw [show j - rvs.length = 0 by omega] at h2
        simp at h2
        subst h2
        exact absurd h3 ((hyn q h4).2.1 i z1 h1)
    · have h6 := (List.getElem?_eq_some_iff.1 h1).1
      simp at h6
      rw [show i - rvs.length = 0 by omega] at h1
      simp at h1
      subst h1
      split at h2
      · exact absurd h4 ((hyn q h3).2.1 j z2 h2)
      · have h5 := (List.getElem?_eq_some_iff.1 h2).1
        simp at h5
        omega
  · rw [List.getElem?_append] at h1
    split at h1
    · exact h.cd i z q h1 h2
    · have h6 := (List.getElem?_eq_some_iff.1 h1).1
      simp at h6
      rw [show i - rvs.length = 0 by omega] at h1
      simp at h1
      subst h1
      exact (hyn q h2).2.2
  · simp only [Value.ownBlock, Option.some.injEq] at hq
    subst hq
    rcases hk with h3 | h3
    · exact h.nw.2.2.1 _ h3
    · omega
  · rw [List.getElem?_append] at h1
    split at h1
    · exact h.nw.2.2.2.2 i z q h1 h2
    · have h6 := (List.getElem?_eq_some_iff.1 h1).1
      simp at h6
      rw [show i - rvs.length = 0 by omega] at h1
      simp at h1
      subst h1
      exact (hyn q h2).1
/-- A cell of a row of one's own is written: the row. -/
theorem own_cell (h : w.ownsRow 0 e 1 (.slice (some ⟨g, 0, none⟩) n cap) n x) {i : Nat} (hi : i < n) (u : Value) : (w.setCell ⟨g, i, none⟩ u).ownsRow 0 e 1 (.slice (some ⟨g, 0, none⟩) n cap) n (x.set i u) := by
  obtain ⟨pad, hb, h1, h2, h3, h4⟩ := own_blk h
  have hb2 := hb.set i u
  rw [List.set_append_left _ _ (by omega)] at hb2
  refine ⟨by simpa using h1, .inr ⟨g, cap, (x.set i u ++ pad).toArray, rfl, Nat.zero_le _, hb2, h2, h3, ?_, ?_⟩⟩
  · rw [List.length_append] at h4
    simp [List.length_append, h4]
  · simp [List.take_append_of_le_length, h1]
/-- The beginning of a row of one's own. -/
theorem own_take (h : w.ownsRow 0 e 1 (.slice (some ⟨g, 0, none⟩) n cap) n x) {m : Nat} (hm : m ≤ n) : w.ownsRow 0 e 1 (.slice (some ⟨g, 0, none⟩) m cap) m (x.take m) := by
  obtain ⟨pad, hb, h1, h2, h3, h4⟩ := own_blk h
  refine ⟨by rw [List.length_take]; omega, .inr ⟨g, cap, (x ++ pad).toArray, rfl, Nat.zero_le _, hb, by omega, h3, by simpa using h4, ?_⟩⟩
  simp only [Nat.mul_one]
  rw [List.take_append_of_le_length (by omega)]
theorem SpS.setCut {cv' : Value} {cs' : List Int} (h : SpS w0 ab cv nv av cs ns bs rvs w) (o : w1.ownsRow 0 3 1 cv' cs'.length (ints cs')) (hu : Upd cv.ownBlock.toList w w1) (hk : ∀ q, cv'.ownBlock = some q → cv.ownBlock = some q ∨ w.heap.size ≤ q) :
    SpS w0 ab cv' nv av cs' ns bs rvs (w1.setCell ⟨ab, 0, none⟩ cv') := by
  have us : Upd [ab] w1 (w1.setCell ⟨ab, 0, none⟩ cv') := (Upd.refl [ab] w1).set (p := ⟨ab, 0, none⟩) (by simp) _
  have hz := h.u.size
  have hb1 : Blk w1 ab [cv, nv, av] 39 := h.bx.upd hu (fun hm => own_bne h.cu h.bx (by decide) (g := ab) (by simpa using hm) rfl)
  refine ⟨hb1.set 0 _, ownsRow_updL o us (fun b hb hq => ?_), ownsRow_updL (ownsRow_updL h.tb hu (fun b hb hq => own_ne h.tb h.cu (by decide) hq (by simpa using hb))) us (fun b hb hq => own_bne h.tb h.bx (by decide) hq (by simpa using hb)), ownsRow_updL (ownsRow_updL h.ac hu (fun b hb hq => own_ne h.ac h.cu (by decide) hq (by simpa using hb))) us (fun b hb hq => own_bne h.ac h.bx (by decide) hq (by simpa using hb)), fun i c y h1 h2 => ownsRow_updL (ownsRow_updL (h.rw i c y h1 h2) hu (fun b hb hq => h.cd i y b h2 hq (by simpa using hb))) us (fun b hb hq => own_bne (h.rw i c y h1 h2) h.bx (by decide) hq (by simpa using hb)), h.ds, fun i y q h1 h2 h3 => ?_, ⟨h.nw.1, fun q hq => ?_, h.nw.2.2.1, h.nw.2.2.2.1, h.nw.2.2.2.2⟩, (h.u.fresh hu (fun b hb => .inr (h.nw.2.1 b (by simpa using hb)))).fresh us (fun b hb => .inr (by simp at hb; subst hb; exact h.nw.1))⟩
  · simp at hb
    subst hb
    rcases hk _ hq with h1 | h1
    · exact own_bne h.cu h.bx (by decide) h1 rfl
    · have := h.bx.lt; omega
  · rcases hk _ h3 with h4 | h4
    · exact h.cd i y q h1 h2 h4
    · have hi := (List.getElem?_eq_some_iff.1 h1).1
      have hl := h.len
      have ho := h.rw i ns[i] y (List.getElem?_eq_getElem (by omega)) h1
      have := (ho.lt q h2).2
      omega
  · rcases hk _ hq with h1 | h1
    · exact h.nw.2.1 _ h1
    · omega
theorem SpS.cutCell (h : SpS w0 ab (.slice (some ⟨g, 0, none⟩) cs.length cap) nv av cs ns bs rvs w) {i : Nat} (hi : i < cs.length) (z : Int) :
    SpS w0 ab (.slice (some ⟨g, 0, none⟩) cs.length cap) nv av (cs.set i z) ns bs rvs (w.setCell ⟨g, i, none⟩ (.int .i64 z)) := by
  have us : Upd [g] w (w.setCell ⟨g, i, none⟩ (.int .i64 z)) := (Upd.refl [g] w).set (p := ⟨g, i, none⟩) (by simp) _
  have hc : (Value.slice (some ⟨g, 0, none⟩) cs.length cap).ownBlock = some g := rfl
  have e1 : ints (cs.set i z) = (ints cs).set i (.int .i64 z) := by unfold ints; rw [List.map_set]
  refine ⟨h.bx.upd us (fun hm => own_bne h.cu h.bx (by decide) hc (by simpa using Eq.symm (List.mem_singleton.1 hm))), by rw [List.length_set, e1]; exact own_cell h.cu hi _, ownsRow_updL h.tb us (fun b hb hq => own_ne h.tb h.cu (by decide) hq (by simp at hb; subst hb; exact hc)), ownsRow_updL h.ac us (fun b hb hq => own_ne h.ac h.cu (by decide) hq (by simp at hb; subst hb; exact hc)), fun j c y h1 h2 => ownsRow_updL (h.rw j c y h1 h2) us (fun b hb hq => h.cd j y b h2 hq (by simp at hb; subst hb; exact hc)), h.ds, h.cd, h.nw, h.u.fresh us (fun b hb => .inr (by simp at hb; subst hb; exact h.nw.2.1 _ hc))⟩
theorem SpS.rowCell {s j n : Nat} {y : Value} {c : List Int} (h : SpS w0 ab cv nv av cs ns bs rvs w) (hc : ns[s]? = some c) (hy : rvs[s]? = some (.slice (some ⟨g, 0, none⟩) n cap)) (hj : j < c.length) (z : Int) :
    SpS w0 ab cv nv av cs (ns.set s (c.set j z)) bs rvs (w.setCell ⟨g, j, none⟩ (.int .i64 z)) := by
  have us : Upd [g] w (w.setCell ⟨g, j, none⟩ (.int .i64 z)) := (Upd.refl [g] w).set (p := ⟨g, j, none⟩) (by simp) _
  have ho := h.rw s c _ hc hy
  have hq0 : (Value.slice (some ⟨g, 0, none⟩) n cap).ownBlock = some g := rfl
  have hn : n = c.length := by
    rcases ho.2 with ⟨h1, _⟩ | ⟨g', cap', cur, he, _⟩
    · cases h1
    · cases he; rfl
  subst hn
  have e1 : ints (c.set j z) = (ints c).set j (.int .i64 z) := by unfold ints; rw [List.map_set]
  have hs := (List.getElem?_eq_some_iff.1 hc).1
  refine ⟨h.bx.upd us (fun hm => own_bne ho h.bx (by decide) hq0 (by simpa using Eq.symm (List.mem_singleton.1 hm))), ownsRow_updL h.cu us (fun b hb hq => by simp at hb; subst hb; exact h.cd s _ _ hy hq0 hq), by rw [List.length_set]; exact ownsRow_updL h.tb us (fun b hb hq => own_ne h.tb ho (by decide) hq (by simp at hb; subst hb; exact hq0)), ownsRow_updL h.ac us (fun b hb hq => own_ne h.ac ho (by decide) hq (by simp at hb; subst hb; exact hq0)), fun i c' y' h1 h2 => ?_, h.ds, h.cd, h.nw, h.u.fresh us (fun b hb => .inr (by simp at hb; subst hb; exact h.nw.2.2.2.2 s _ _ hy hq0))⟩
  by_cases hi : i = s
  · subst hi
    rw [hy] at h2
    cases h2
    rw [List.getElem?_set_self hs] at h1
    cases h1
    rw [List.length_set, e1]
    exact own_cell ho hj _
  · rw [List.getElem?_set_ne (fun e => hi e.symm)] at h1
    exact ownsRow_updL (h.rw i c' y' h1 h2) us (fun b hb hq => by
      simp at hb; subst hb
      exact hi (h.ds i s y' _ _ h2 hy hq hq0))
theorem SpS.setAcc {av' : Value} {bs' : List Bool} (h : SpS w0 ab cv nv av cs ns bs rvs w) (o : w1.ownsRow 0 4 1 av' bs'.length (bools bs')) (hu : Upd av.ownBlock.toList w w1) (hk : ∀ q, av'.ownBlock = some q → av.ownBlock = some q ∨ w.heap.size ≤ q) :
    SpS w0 ab cv nv av' cs ns bs' rvs (w1.setCell ⟨ab, 2, none⟩ av') := by
  have us : Upd [ab] w1 (w1.setCell ⟨ab, 2, none⟩ av') := (Upd.refl [ab] w1).set (p := ⟨ab, 2, none⟩) (by simp) _
  have hz := h.u.size
  have hb1 : Blk w1 ab [cv, nv, av] 39 := h.bx.upd hu (fun hm => own_bne h.ac h.bx (by decide) (g := ab) (by simpa using hm) rfl)
  refine ⟨hb1.set 2 _, ownsRow_updL (ownsRow_updL h.cu hu (fun b hb hq => own_ne h.cu h.ac (by decide) hq (by simpa using hb))) us (fun b hb hq => own_bne h.cu h.bx (by decide) hq (by simpa using hb)), ownsRow_updL (ownsRow_updL h.tb hu (fun b hb hq => own_ne h.tb h.ac (by decide) hq (by simpa using hb))) us (fun b hb hq => own_bne h.tb h.bx (by decide) hq (by simpa using hb)), ownsRow_updL o us (fun b hb hq => ?_), fun i c y h1 h2 => ownsRow_updL (ownsRow_updL (h.rw i c y h1 h2) hu (fun b hb hq => own_ne (h.rw i c y h1 h2) h.ac (by decide) hq (by simpa using hb))) us (fun b hb hq => own_bne (h.rw i c y h1 h2) h.bx (by decide) hq (by simpa using hb)), h.ds, h.cd, ⟨h.nw.1, h.nw.2.1, h.nw.2.2.1, fun q hq => ?_, h.nw.2.2.2.2⟩, (h.u.fresh hu (fun b hb => .inr (h.nw.2.2.2.1 b (by simpa using hb)))).fresh us (fun b hb => .inr (by simp at hb; subst hb; exact h.nw.1))⟩
  · simp at hb
    subst hb
    rcases hk _ hq with h1 | h1
    · exact own_bne h.ac h.bx (by decide) h1 rfl
    · have := h.bx.lt; omega
  · rcases hk _ hq with h1 | h1
    · exact h.nw.2.2.2.1 _ h1
    · omega
theorem SpS.takeRows {s : Nat} (h : SpS w0 ab cv (.slice (some ⟨g, 0, none⟩) ns.length cap) av cs ns bs rvs w) (hs : s ≤ ns.length) :
    SpS w0 ab cv (.slice (some ⟨g, 0, none⟩) s cap) av cs (ns.take s) bs (rvs.take s) (w.setCell ⟨ab, 1, none⟩ (.slice (some ⟨g, 0, none⟩) s cap)) := by
  have us : Upd [ab] w (w.setCell ⟨ab, 1, none⟩ (.slice (some ⟨g, 0, none⟩) s cap)) := (Upd.refl [ab] w).set (p := ⟨ab, 1, none⟩) (by simp) _
  have hg : ∀ {i : Nat} {y : Value}, (rvs.take s)[i]? = some y → rvs[i]? = some y := fun {i y} h1 => by
    rw [List.getElem?_take] at h1
    split at h1
    · exact h1
    · cases h1
  refine ⟨h.bx.set 1 _, ownsRow_updL h.cu us (fun b hb hq => own_bne h.cu h.bx (by decide) hq (by simpa using hb)), ?_, ownsRow_updL h.ac us (fun b hb hq => own_bne h.ac h.bx (by decide) hq (by simpa using hb)), fun i c y h1 h2 => ?_, fun i j y z q h1 h2 => h.ds i j y z q (hg h1) (hg h2), fun i y q h1 => h.cd i y q (hg h1), ⟨h.nw.1, h.nw.2.1, h.nw.2.2.1, h.nw.2.2.2.1, fun i y q h1 => h.nw.2.2.2.2 i y q (hg h1)⟩, h.u.fresh us (fun b hb => .inr (by simp at hb; subst hb; exact h.nw.1))⟩
  · rw [List.length_take, Nat.min_eq_left hs]
    exact ownsRow_updL (own_take h.tb hs) us (fun b hb hq => own_bne h.tb h.bx (by decide) (g := b) hq (by simpa using hb))
  · have h3 : ns[i]? = some c := by
      rw [List.getElem?_take] at h1
      split at h1
      · exact h1
      · cases h1
    exact ownsRow_updL (h.rw i c y h3 (hg h2)) us (fun b hb hq => own_bne (h.rw i c y h3 (hg h2)) h.bx (by decide) hq (by simpa using hb))
theorem SpS.rowPush {s gn : Nat} {c : List Int} {y' : Value} {z : Int} (h : SpS w0 ab cv (.slice (some ⟨gn, 0, none⟩) ns.length cap) av cs ns bs rvs w) (hc : ns[s]? = some c) (hy : rvs[s]? = some y) (o : w1.ownsRow 0 3 1 y' (c.length + 1) (ints c ++ [.int .i64 z])) (hu : Upd y.ownBlock.toList w w1) (hk : ∀ q, y'.ownBlock = some q → y.ownBlock = some q ∨ w.heap.size ≤ q) :
    SpS w0 ab cv (.slice (some ⟨gn, 0, none⟩) ns.length cap) av cs (ns.set s (c ++ [z])) bs (rvs.set s y') (w1.setCell ⟨gn, s, none⟩ y') := by
  have us : Upd [gn] w1 (w1.setCell ⟨gn, s, none⟩ y') := (Upd.refl [gn] w1).set (p := ⟨gn, s, none⟩) (by simp) _
  have ho := h.rw s c _ hc hy
  have hz := h.u.size
  have hs := (List.getElem?_eq_some_iff.1 hc).1
  have hl := h.len
  have hnv : (Value.slice (some ⟨gn, 0, none⟩) ns.length cap).ownBlock = some gn := rfl
  have hgn := (h.tb.lt gn hnv).2
  have hb1 : Blk w1 ab [cv, .slice (some ⟨gn, 0, none⟩) ns.length cap, av] 39 := h.bx.upd hu (fun hm => own_bne ho h.bx (by decide) (g := ab) (by simpa using hm) rfl)
  have ht1 := ownsRow_updL h.tb hu (fun b hb hq => own_ne h.tb ho (by decide) hq (by simpa using hb))
  have hget : ∀ {i : Nat} {u : Value}, (rvs.set s y')[i]? = some u → (i = s ∧ u = y') ∨ (i ≠ s ∧ rvs[i]? = some u) := fun {i u} h1 => by
    by_cases e : i = s
    · subst e
      rw [List.getElem?_set_self (by omega)] at h1
      exact .inl ⟨rfl, by simpa using h1.symm⟩
    · rw [List.getElem?_set_ne (fun h2 => e h2.symm)] at h1
      exact .inr ⟨e, h1⟩
  have hlt : ∀ {i : Nat} {u : Value} {q : Nat}, rvs[i]? = some u → u.ownBlock = some q → q < w.heap.size := fun {i u q} h1 h2 => by
    have hi := (List.getElem?_eq_some_iff.1 h1).1
    exact ((h.rw i ns[i] u (List.getElem?_eq_getElem (by omega)) h1).lt q h2).2
  refine ⟨hb1.upd us (fun hm => own_bne h.tb h.bx (by decide) hnv (by simpa using Eq.symm (List.mem_singleton.1 hm))), ownsRow_updL (ownsRow_updL h.cu hu (fun b hb hq => h.cd s y b hy (by simpa using hb) hq)) us (fun b hb hq => own_ne h.cu h.tb (by decide) hq (by simp at hb; subst hb; exact hnv)), by rw [List.length_set]; exact own_cell ht1 hs _, ownsRow_updL (ownsRow_updL h.ac hu (fun b hb hq => own_ne h.ac ho (by decide) hq (by simpa using hb))) us (fun b hb hq => own_ne h.ac h.tb (by decide) hq (by simp at hb; subst hb; exact hnv)), fun i c' u h1 h2 => ?_, fun i j u1 u2 q h1 h2 h3 h4 => ?_, fun i u q h1 h2 h3 => ?_, ⟨h.nw.1, h.nw.2.1, h.nw.2.2.1, h.nw.2.2.2.1, fun i u q h1 h2 => ?_⟩, (h.u.fresh hu (fun b hb => .inr (h.nw.2.2.2.2 s y b hy (by simpa using hb)))).fresh us (fun b hb => .inr (by simp at hb; subst hb; exact h.nw.2.2.1 _ hnv))⟩
  · rcases hget h2 with ⟨rfl, rfl⟩ | ⟨hne, h2⟩
    · rw [List.getElem?_set_self hs] at h1
      cases h1
      rw [show (c ++ [z]).length = c.length + 1 by simp, show ints (c ++ [z]) = ints c ++ [.int .i64 z] by simp [ints]]
      exact ownsRow_updL o us (fun b hb hq => by
        simp at hb; subst hb
        rcases hk _ hq with h5 | h5
        · exact own_ne ho h.tb (by decide) h5 hnv
        · omega)
    · rw [List.getElem?_set_ne (fun e => hne e.symm)] at h1
      have hi := h.rw i c' u h1 h2
      exact ownsRow_updL (ownsRow_updL hi hu (fun b hb hq => hne (h.ds i s u y b h2 hy hq (by simpa using hb)))) us (fun b hb hq => own_ne hi h.tb (by decide) hq (by simp at hb; subst hb; exact hnv))
  · rcases hget h1 with ⟨rfl, rfl⟩ | ⟨hn1, h1'⟩
    · rcases hget h2 with ⟨rfl, rfl⟩ | ⟨hn2, h2⟩
      · rfl
      · rcases hk _ h3 with h5 | h5
        · exact h.ds _ _ _ _ q hy h2 h5 h4
        · have := hlt h2 h4; omega
    · rcases hget h2 with ⟨rfl, rfl⟩ | ⟨hn2, h2'⟩
      · rcases hk _ h4 with h5 | h5
        · exact h.ds _ _ _ _ q h1' hy h3 h5
        · have := hlt h1' h3; omega
      · exact h.ds i j u1 u2 q h1' h2' h3 h4
  · rcases hget h1 with ⟨rfl, rfl⟩ | ⟨hn1, h1⟩
    · rcases hk _ h2 with h5 | h5
      · exact h.cd _ _ q hy h5 h3
      · have := (h.cu.lt q h3).2; omega
    · exact h.cd i u q h1 h2 h3
  · rcases hget h1 with ⟨rfl, rfl⟩ | ⟨hn1, h1⟩
    · rcases hk _ h2 with h5 | h5
      · exact h.nw.2.2.2.2 _ _ q hy h5
      · omega
    · exact h.nw.2.2.2.2 i u q h1 h2
/-- What is read at the end. -/
theorem SpS.fin (h : SpS w0 ab cv nv av cs ns bs rvs w) (hu : Upd U w w') (hU : ∀ b ∈ U, b < w0.heap.size) : AuF w' ⟨cs, ns, bs⟩ [cv, nv, av] :=
  ⟨_, _, _, rfl, SL.of_owns (ownsRow_updL h.cu hu (fun b hb hq => by have := h.nw.2.1 b hq; have := hU b hb; omega)), h.cl_ hu (fun b hb hq => by have := h.nw.2.2.1 b hq; have := hU b hb; omega) (fun i y hy b hb hq => by have := h.nw.2.2.2.2 i y b hy hq; have := hU b hb; omega), SL.of_owns (ownsRow_updL h.ac hu (fun b hb hq => by have := h.nw.2.2.2.1 b hq; have := hU b hb; omega))⟩
theorem SpS.start (w1 : World) {cv av : Value} {cs : List Int} {bs : List Bool} (hb : Blk w ab [cv, .slice none 0 0, av] 39) (hc : w.ownsRow 0 3 1 cv cs.length (ints cs)) (ha : w.ownsRow 0 4 1 av bs.length (bools bs)) (h1 : w1.heap.size ≤ ab) (h2 : ∀ q, cv.ownBlock = some q → w1.heap.size ≤ q) (h3 : ∀ q, av.ownBlock = some q → w1.heap.size ≤ q) (hu : Upd [] w1 w) : SpS w1 ab cv (.slice none 0 0) av cs [] bs [] w :=
  ⟨hb, hc, World.ownsRow_nil _ _ _ _, ha, fun i c y h => by simp at h, fun i j y z q h => by simp at h, fun i y q h => by simp at h, ⟨h1, h2, fun q hq => by simp [Value.ownBlock] at hq, h3, fun i y q h => by simp at h⟩, hu⟩
end
end Aut
end Go.Proofs.YtjclbjdkkdijbaaGreat
