/- Walks through the reference of package trim: Some, its lemmas. Conditions: none. -/
import Derived.Test.YtnmfihgdedifoaaTrimM
import Derived.Test.YtnmfihgdedifoaaLin
import Derived.Laws.Rows
set_option linter.unusedVariables false
set_option linter.unusedSimpArgs false
set_option linter.unusedSectionVars false
open Go.RowKit
namespace Go.Proofs.Ytnmfihgdedifoaa
open L R01
namespace Trim
def pickI (xs : List Int) (i m : Int) : Int := if i < 0 ∨ xs.length ≤ i then 0 else around (xs.getD i.toNat 0) m
def sv0 : ByteArray := ⟨#[118, 48]⟩
def sh0 : ByteArray := ⟨#[104, 48]⟩
def nod0 : NodeD := ⟨0, [], 0, 0, 0, sv0, 0, 1, 0⟩
def stp0 : StepD := ⟨1, 0, 0, [], sh0, [2], []⟩
def lem0 (c : Int) : LemD := ⟨[nod0], [0], [2 + c], [stp0]⟩
theorem gd_memT {xs : List Int} {i : Nat} (h : i < xs.length) : xs.getD i 0 ∈ xs := by
  rw [List.getD_eq_getElem?_getD, List.getElem?_eq_getElem h]; exact List.getElem_mem h
theorem pickI_rng {xs : List Int} {i m : Int} (hm : 1 ≤ m) : 0 ≤ pickI xs i m ∧ pickI xs i m < m := by
  unfold pickI
  split
  · omega
  · exact ⟨around_lo hm, around_hi hm⟩
section
variable {w : World}
theorem PickI_calls {v : Value} {xs : List Int} (hx : ∀ x ∈ xs, IsI64 x) (h : SL w 1 v xs.length (ints xs)) (i m : Int) (hm : 1 ≤ m) (hm2 : m ≤ 9223372036854775807) :
    Calls Try.prog 41 #[v, .int .i64 i, .int .i64 m] w fun e w' => e = .returned (.int .i64 (pickI xs i m)) ∧ w = w' := by
  obtain ⟨_, a, cap, rfl, q1, r1, _, hc⟩ := h
  have HC := Lib.hid (And.intro hc hx)
  unfold maxLen at r1
  clear hc hx
  by_cases h0 : i < 0
  · have HP := Lib.hid (show pickI xs i m = 0 by unfold pickI; rw [if_pos (.inl h0)])
    go_enter Try.func41, Try.ntmps41
    go_wp2_with fail
    go_ret
    rw [HP.out]
    exact ⟨rfl, rfl⟩
  · by_cases h1 : (xs.length : Int) ≤ i
    · have HP := Lib.hid (show pickI xs i m = 0 by unfold pickI; rw [if_pos (.inr h1)])
      go_enter Try.func41, Try.ntmps41
      go_wp2_with fail
      go_ret
      rw [HP.out]
      exact ⟨rfl, rfl⟩
    · have hlt : i.toNat < xs.length := by omega
      obtain ⟨g, off, rfl, k1⟩ := HC.out.1.resolve_left (by omega)
      have e1 := k1 _ _ (ints_get (List.getElem?_eq_getElem hlt))
      have hxi := HC.out.2 _ (List.getElem_mem hlt)
      have HP := Lib.hid (show pickI xs i m = around xs[i.toNat] m by unfold pickI; rw [if_neg (by omega), List.getD_eq_getElem?_getD, List.getElem?_eq_getElem hlt]; rfl)
      clear k1
      generalize xs[i.toNat] = x at *
      go_enter Try.func41, Try.ntmps41
      go_wp2_with (go_at_call 12; refine (Around_calls x m _ hxi hm hm2).mono ?_; rintro e w' ⟨rfl, rfl⟩)
      go_ret
      rw [HP.out]
      exact ⟨rfl, rfl⟩
end
/-- What each of the operations that make memory yields. -/
def PN (w0 : World) (c : Int) (i : Nat) (v : Value) (F : List Nat) (w : World) : Prop := match i with
  | 4 => ∃ g, v = .slice (some ⟨g, 0, none⟩) 1 1 ∧ Blk w g (noC nod0 (.slice none 0 0)) 88 ∧ F = [g] ∧ w0.heap.size ≤ g
  | 5 => ∃ g, v = .slice (some ⟨g, 0, none⟩) 1 1 ∧ Blk w g [.int .i64 0] 3 ∧ F = [g] ∧ w0.heap.size ≤ g
  | 9 => v = .int .i64 c ∧ F = []
  | 10 => v = .int .i64 (2 + c) ∧ F = []
  | 11 => ∃ g, v = .slice (some ⟨g, 0, none⟩) 1 1 ∧ Blk w g [.int .i64 (2 + c)] 3 ∧ F = [g] ∧ w0.heap.size ≤ g
  | 12 => ∃ g, v = .slice (some ⟨g, 0, none⟩) 1 1 ∧ Blk w g [.int .i64 2] 3 ∧ F = [g] ∧ w0.heap.size ≤ g
  | 13 => ∃ g, v = .agg (stC stp0 (.slice none 0 0) (.slice (some ⟨g, 0, none⟩) 1 1) (.slice none 0 0)).toArray ∧ Blk w g [.int .i64 2] 3 ∧ F = [g] ∧ w0.heap.size ≤ g
  | 14 => ∃ g g2, v = .slice (some ⟨g2, 0, none⟩) 1 1 ∧ Blk w g2 (stC stp0 (.slice none 0 0) (.slice (some ⟨g, 0, none⟩) 1 1) (.slice none 0 0)) 56 ∧ Blk w g [.int .i64 2] 3 ∧ F = [g2, g] ∧ w0.heap.size ≤ g ∧ w0.heap.size ≤ g2
  | _ => False
def useN : Nat → List Nat
  | 10 => [9]
  | 11 => [10]
  | 13 => [12]
  | 14 => [13]
  | _ => []
theorem PN.upd {w0 w w' : World} {c : Int} {i : Nat} {v : Value} {F S : List Nat} (h : PN w0 c i v F w) (hu : Upd S w w') (hS : ∀ b ∈ F, b ∉ S) : PN w0 c i v F w' := by
  unfold PN at h ⊢
  split at h
  all_goals first
    | exact h.elim
    | exact h
    | (obtain ⟨g, h1, h2, rfl, h4⟩ := h; exact ⟨g, h1, h2.upd hu (hS g (by simp)), rfl, h4⟩)
    | (obtain ⟨g, g2, h1, h2, h3, rfl, h4⟩ := h; exact ⟨g, g2, h1, h2.upd hu (hS g2 (by simp)), h3.upd hu (hS g (by simp)), rfl, h4⟩)
theorem PN.lt {w0 w : World} {c : Int} {i : Nat} {v : Value} {F : List Nat} (h : PN w0 c i v F w) : ∀ b ∈ F, w0.heap.size ≤ b ∧ b < w.heap.size := by
  unfold PN at h
  split at h
  all_goals first
    | exact h.elim
    | (obtain ⟨_, rfl⟩ := h; simp)
    | (obtain ⟨g, h1, h2, rfl, h4⟩ := h; have := h2.lt; simp; omega)
    | (obtain ⟨g, g2, h1, h2, h3, rfl, h4, h5⟩ := h; have := h2.lt; have := h3.lt; simp; omega)
/-- A block of numbers as a row. -/
theorem rowI_blk {w : World} {g : Nat} {xs : List Int} (h : Blk w g (ints xs) 3) (hn : xs.length ≤ 1000) : RowI w (.slice (some ⟨g, 0, none⟩) xs.length xs.length) xs := owns_blk h (by simp [ints]) (by unfold maxLen; omega)
theorem rowI_nil (w : World) : RowI w (.slice none 0 0) [] := World.ownsRow_nil _ _ _ _
theorem rows1 (f : Nat → List Value) : rows 1 f = f 0 := by simp [rows, List.range_succ]
/-- The lemma that is made. -/
theorem lmR_made {w : World} {c : Int} {g4 g5 g11 g12 g14 : Nat} (hc : IsI64 (2 + c)) (h4 : Blk w g4 (noC nod0 (.slice none 0 0)) 88) (h5 : Blk w g5 [.int .i64 0] 3) (h11 : Blk w g11 [.int .i64 (2 + c)] 3) (h12 : Blk w g12 [.int .i64 2] 3)
    (h14 : Blk w g14 (stC stp0 (.slice none 0 0) (.slice (some ⟨g12, 0, none⟩) 1 1) (.slice none 0 0)) 56) :
    LmR w (lem0 c) [.slice (some ⟨g4, 0, none⟩) 1 1, .slice (some ⟨g5, 0, none⟩) 1 1, .slice (some ⟨g11, 0, none⟩) 1 1, .slice (some ⟨g14, 0, none⟩) 1 1] := by
  refine ⟨_, _, _, _, rfl, ⟨fun _ => noC nod0 (.slice none 0 0), ?_, fun _ => rfl, fun i d hd => ?_⟩, rowI_blk (xs := [0]) h5 (by simp), rowI_blk (xs := [2 + c]) h11 (by simp), ⟨fun _ => stC stp0 (.slice none 0 0) (.slice (some ⟨g12, 0, none⟩) 1 1) (.slice none 0 0), ?_, fun _ => rfl, fun i d hd => ?_⟩⟩
  · exact owns_blk (n := 1) (show Blk w g4 (rows 1 fun _ => noC nod0 (.slice none 0 0)) 88 by rw [rows1]; exact h4) rfl (by unfold maxLen; omega)
  · match i with
    | 0 => cases hd; exact ⟨_, rfl, rowI_nil _, by simp [nod0]⟩
    | (i + 1) => simp [lem0] at hd
  · exact owns_blk (n := 1) (show Blk w g14 (rows 1 fun _ => stC stp0 (.slice none 0 0) (.slice (some ⟨g12, 0, none⟩) 1 1) (.slice none 0 0)) 56 by rw [rows1]; exact h14) rfl (by unfold maxLen; omega)
  · match i with
    | 0 => cases hd; exact ⟨_, _, _, rfl, rowI_nil _, rowI_blk (xs := [2]) h12 (by simp), rowI_nil _, by simp [IsI64, stp0], by simp [IsI64, stp0], by simp [IsI64, stp0], by simp [stp0], by simp [stp0, IsI64], by simp [stp0], by decide⟩
    | (i + 1) => simp [lem0] at hd
/-- The type of a block. -/
def Kind (w : World) (b : Nat) (e : TypeId) : Prop := ∃ c q, w.heap[b]? = some (.cells c e q)
/-- Blocks of none of these types. -/
def Off (w : World) (T : List Nat) (es : List TypeId) : Prop := ∀ b ∈ T, ∃ e, Kind w b e ∧ e ∉ es
theorem Kind.inj {w : World} {b : Nat} {e e' : TypeId} (h : Kind w b e) (h' : Kind w b e') : e = e' := by
  obtain ⟨c, q, h⟩ := h
  obtain ⟨c', q', h'⟩ := h'
  rw [h] at h'
  simp at h'
  exact h'.2.1
theorem row_kind {w : World} {base : Nat} {e : TypeId} {k n : Nat} {v : Value} {x : List Value} (h : w.ownsRow base e k v n x) {g : Nat} (hg : v.ownBlock = some g) : Kind w g e := by
  rcases h.2 with ⟨rfl, _⟩ | ⟨a, cap, cur, rfl, _, ha, _⟩
  · simp [Value.ownBlock] at hg
  · simp only [Value.ownBlock, Option.some.injEq] at hg
    subst hg
    exact ⟨_, _, ha⟩
theorem blk_kind {w : World} {b : Nat} {c : List Value} {e : TypeId} (h : Blk w b c e) : Kind w b e := ⟨_, _, h⟩
theorem off_row {w : World} {base : Nat} {e : TypeId} {k n : Nat} {v : Value} {x : List Value} {es : List TypeId} (h : w.ownsRow base e k v n x) (he : e ∉ es) : Off w v.ownBlock.toList es := fun b hb => ⟨e, row_kind h (by simpa using hb), he⟩
theorem off_blk {w : World} {b : Nat} {c : List Value} {e : TypeId} {es : List TypeId} (h : Blk w b c e) (he : e ∉ es) : Off w [b] es := fun b' hb => by
  simp at hb; subst hb; exact ⟨e, blk_kind h, he⟩
theorem Off.row {w : World} {T : List Nat} {es : List TypeId} {base : Nat} {e : TypeId} {k n : Nat} {v : Value} {x : List Value} (h : Off w T es) (hr : w.ownsRow base e k v n x) (he : e ∈ es) : ∀ b ∈ T, v.ownBlock ≠ some b := fun b hb hv => by
  obtain ⟨e', h1, h2⟩ := h b hb
  exact h2 (h1.inj (row_kind hr hv) ▸ he)
section
variable {w w' : World} {v : Value} {T : List Nat} {es : List TypeId}
theorem RowI.kd {xs : List Int} (h : RowI w v xs) (hT : Off w T es) (he : 3 ∈ es) (u : Upd T w w') : RowI w' v xs := h.upd u (hT.row h he)
theorem StF.kd {s : StepD} {vp vl vh : Value} (h : StF w s vp vl vh) (hT : Off w T es) (he : 3 ∈ es) (u : Upd T w w') : StF w' s vp vl vh := ⟨h.1.kd hT he u, h.2.1.kd hT he u, h.2.2.1.kd hT he u, h.2.2.2⟩
theorem StR.kd {s : StepD} {cs : List Value} (h : StR w s cs) (hT : Off w T es) (he : 3 ∈ es) (u : Upd T w w') : StR w' s cs := by
  obtain ⟨vp, vl, vh, rfl, h1⟩ := h
  exact ⟨vp, vl, vh, rfl, h1.kd hT he u⟩
theorem StL.kd {l : List StepD} (h : StL w v l) (hT : Off w T es) (he : 3 ∈ es) (he2 : 56 ∈ es) (u : Upd T w w') : StL w' v l := by
  obtain ⟨f, h1, h2, h3⟩ := h
  exact ⟨f, ownsRow_updL h1 u (hT.row h1 he2), h2, fun i s hs => (h3 i s hs).kd hT he u⟩
theorem NoL.kd {l : List NodeD} (h : NoL w v l) (hT : Off w T es) (he : 3 ∈ es) (he2 : 88 ∈ es) (u : Upd T w w') : NoL w' v l := by
  obtain ⟨f, h1, h2, h3⟩ := h
  exact ⟨f, ownsRow_updL h1 u (hT.row h1 he2), h2, fun i s hs => by obtain ⟨vk, e, a, b⟩ := h3 i s hs; exact ⟨vk, e, a.kd hT he u, b⟩⟩
theorem LmR.kd {d : LemD} {cs : List Value} (h : LmR w d cs) (hT : Off w T es) (he : 3 ∈ es) (he2 : 88 ∈ es) (he3 : 56 ∈ es) (u : Upd T w w') : LmR w' d cs := by
  obtain ⟨a, b, c, e, rfl, h4, h5, h6, h7⟩ := h
  exact ⟨a, b, c, e, rfl, h4.kd hT he he2 u, h5.kd hT he u, h6.kd hT he u, h7.kd hT he he3 u⟩
theorem LmL.kd {l : List LemD} (h : LmL w v l) (hT : Off w T es) (he : 3 ∈ es) (he2 : 88 ∈ es) (he3 : 56 ∈ es) (he4 : 82 ∈ es) (u : Upd T w w') : LmL w' v l := by
  obtain ⟨f, h1, h2, h3⟩ := h
  exact ⟨f, ownsRow_updL h1 u (hT.row h1 he4), h2, fun i s hs => (h3 i s hs).kd hT he he2 he3 u⟩
end
theorem rows_ext {f : Nat → List Value} {n : Nat} {cs : List Value} : rows n f ++ cs = rows (n + 1) (fun i => if i = n then cs else f i) := by
  rw [rows_succ, if_pos rfl]
  congr 1
  unfold rows
  rw [List.flatMap_def, List.flatMap_def]
  congr 1
  refine List.map_congr_left (fun i hi => ?_)
  rw [if_neg]
  have := List.mem_range.1 hi
  omega
/-- One lemma more. -/
theorem lmL_push {w w' : World} {v v' : Value} {L : List LemD} {d : LemD} {f : Nat → List Value} {cs : List Value} (h1 : w.ownsRow 0 82 4 v L.length (rows L.length f)) (h2 : ∀ i, (f i).length = 4) (h3 : ∀ (i : Nat) (s : LemD), L[i]? = some s → LmR w s (f i)) (hd : LmR w d cs) (hcs : cs.length = 4)
    (o : w'.ownsRow 0 82 4 v' (L.length + 1) (rows L.length f ++ cs)) (u : Upd v.ownBlock.toList w w') : LmL w' v' (L ++ [d]) := by
  have hT : Off w v.ownBlock.toList [3, 88, 56] := off_row h1 (by decide)
  refine ⟨fun i => if i = L.length then cs else f i, ?_, fun i => ?_, fun i s hs => ?_⟩
  · rw [List.length_append, List.length_singleton, ← rows_ext]
    exact o
  · by_cases hi : i = L.length
    · simp [hi, hcs]
    · simp [hi, h2]
  · by_cases hi : i = L.length
    · subst hi
      rw [List.getElem?_append_right (by omega)] at hs
      simp at hs
      subst hs
      show LmR w' d (if L.length = L.length then cs else f L.length)
      rw [if_pos rfl]
      exact hd.kd hT (by simp) (by simp) (by simp) u
    · have hl := (List.getElem?_eq_some_iff.1 hs).1
      rw [List.length_append, List.length_singleton] at hl
      rw [List.getElem?_append_left (by omega)] at hs
      show LmR w' s (if i = L.length then cs else f i)
      rw [if_neg hi]
      exact (h3 i s hs).kd hT (by simp) (by simp) (by simp) u
/-- One step more. -/
theorem stL_push {w w' : World} {v v' : Value} {L : List StepD} {d : StepD} {f : Nat → List Value} {cs : List Value} (h1 : w.ownsRow 0 56 7 v L.length (rows L.length f)) (h2 : ∀ i, (f i).length = 7) (h3 : ∀ (i : Nat) (s : StepD), L[i]? = some s → StR w s (f i)) (hd : StR w d cs) (hcs : cs.length = 7)
    (o : w'.ownsRow 0 56 7 v' (L.length + 1) (rows L.length f ++ cs)) (u : Upd v.ownBlock.toList w w') : StL w' v' (L ++ [d]) := by
  have hT : Off w v.ownBlock.toList [3] := off_row h1 (by decide)
  refine ⟨fun i => if i = L.length then cs else f i, ?_, fun i => ?_, fun i s hs => ?_⟩
  · rw [List.length_append, List.length_singleton, ← rows_ext]
    exact o
  · by_cases hi : i = L.length
    · simp [hi, hcs]
    · simp [hi, h2]
  · by_cases hi : i = L.length
    · subst hi
      rw [List.getElem?_append_right (by omega)] at hs
      simp at hs
      subst hs
      show StR w' d (if L.length = L.length then cs else f L.length)
      rw [if_pos rfl]
      exact hd.kd hT (by simp) u
    · have hl := (List.getElem?_eq_some_iff.1 hs).1
      rw [List.length_append, List.length_singleton] at hl
      rw [List.getElem?_append_left (by omega)] at hs
      show StR w' s (if i = L.length then cs else f i)
      rw [if_neg hi]
      exact (h3 i s hs).kd hT (by simp) u
/-- A list of lemmas of one's own, in a proof under construction. -/
structure LmO (w : World) (ob : Nat) (vl vs : Value) (L : List LemD) (W : World) : Prop where
  box : Blk W ob [vl, vs] 30
  lem : LmL W vl L
  fresh : ∀ g, vl.ownBlock = some g → ob < g
  form : ∀ d ∈ L, d = lem0 0 ∨ d = lem0 1
  u : Upd [] w W
theorem lit_choice (n : Int) (h : 0 ≤ n) : ∃ q, ([.int .i64 2, .int .i64 (-2), .int .i64 3, .int .i64 (-3)] : List Value)[(n / 18 % 4).toNat]? = some (.int .i64 q) ∧ IsI64 q := by
  have h4 : n / 18 % 4 = 0 ∨ n / 18 % 4 = 1 ∨ n / 18 % 4 = 2 ∨ n / 18 % 4 = 3 := by omega
  rcases h4 with e | e | e | e <;> rw [e]
  · exact ⟨2, rfl, by unfold IsI64; omega⟩
  · exact ⟨-2, rfl, by unfold IsI64; omega⟩
  · exact ⟨3, rfl, by unfold IsI64; omega⟩
  · exact ⟨-3, rfl, by unfold IsI64; omega⟩
theorem name_choice (n : Int) (h : 0 ≤ n) : ∃ q : ByteArray, ([.string ⟨#[97]⟩, .string ⟨#[98]⟩, .string ⟨#[99]⟩, .string ⟨#[100, 100]⟩] : List Value)[(n % 4).toNat]? = some (.string q) ∧ q.size ≤ 2 := by
  have h4 : n % 4 = 0 ∨ n % 4 = 1 ∨ n % 4 = 2 ∨ n % 4 = 3 := by omega
  rcases h4 with e | e | e | e <;> rw [e]
  · exact ⟨_, rfl, by decide⟩
  · exact ⟨_, rfl, by decide⟩
  · exact ⟨_, rfl, by decide⟩
  · exact ⟨_, rfl, by decide⟩
/-- What a step that is made fulfils. -/
structure GoodS (nl k : Nat) (st : StepD) : Prop where
  kind : 0 ≤ st.kind ∧ st.kind ≤ 5
  hint : ∀ h ∈ st.hints, 0 ≤ h ∧ h < (k : Int)
  lem : st.kind = 4 → 0 ≤ st.node ∧ st.node < nl
  name : st.name.size ≤ 2
  params : st.params.length ≤ 1
  lits : st.lits.length ≤ 1
  hints : st.hints.length ≤ 2
theorem made_ok {w : World} {nl k : Nat} {kd nd rl q : Int} {ps : List Int} {nm : ByteArray} {vp vl : Value} (hp : RowI w vp ps) (hl : RowI w vl [q]) (hk : 0 ≤ kd ∧ kd ≤ 5) (hn : 0 ≤ nd ∧ nd ≤ 1000) (hr : 0 ≤ rl ∧ rl ≤ 1000) (hpi : ∀ x ∈ ps, IsI64 x) (hq : IsI64 q) (hnm : nm.size ≤ 2) (hpl : ps.length ≤ 1) (hlm : kd = 4 → nd < nl) :
    StF w ⟨kd, nd, rl, ps, nm, [q], []⟩ vp vl (.slice none 0 0) ∧ GoodS nl k ⟨kd, nd, rl, ps, nm, [q], []⟩ := by
  refine ⟨⟨hp, hl, rowI_nil _, ?_, ?_, ?_, hpi, by simpa using hq, by simp, ?_⟩, ⟨hk, by simp, fun h => ⟨hn.1, hlm h⟩, hnm, hpl, by simp, by simp⟩⟩
  · show IsI64 kd; unfold IsI64; omega
  · show IsI64 nd; unfold IsI64; omega
  · show IsI64 rl; unfold IsI64; omega
  · show nm.size ≤ 1000; omega
theorem ret_rowT {fn : Func} {R : Ending → World → Prop} {a : Act} {w : World} {p : Tmp} {ty t : TypeId} {g : Nat} {cs : List Value} {fs : _} (h : fn.results = #[.cell p ty]) (hp : a.tmps.getD p undef = .pointer (some ⟨g, 0, none⟩)) (hB : Blk w g cs t)
    (hu : Try.prog.underlying ty = some (.struct fs)) (hi : (Try.prog.info? ty).map (·.size) = some cs.length) (hdf : a.defers = []) (hR : R (.returned (.agg cs.toArray)) w) :
    bodyPost Try.prog fn R .ret a w :=
  bodyPost_ret (results_cell_row h a.tmps w g t cs.toArray (0, 0) (.struct fs) hp hB hu rfl (by simpa using hi)) hdf hR
/-- A step under construction. -/
structure Mid (wb : World) (sb : Nat) (st : StepD) (vp vl vh : Value) (W : World) : Prop where
  blk : Blk W sb (stC st vp vl vh) 56
  stf : StF W st vp vl vh
  ap : ∀ g, vh.ownBlock = some g → vl.ownBlock ≠ some g ∧ vp.ownBlock ≠ some g ∧ wb.heap.size ≤ g
  u : Upd [] wb W
  sb_ : wb.heap.size ≤ sb
theorem Mid.ext {wb W W' : World} {sb : Nat} {st : StepD} {vp vl vh : Value} (h : Mid wb sb st vp vl vh W) (u : Upd [] W W') : Mid wb sb st vp vl vh W' := ⟨h.blk.upd u (by simp), h.stf.ext u, h.ap, h.u.step u, h.sb_⟩
theorem Mid.keep {wb W w9 : World} {sb : Nat} {st : StepD} {vp vl vh : Value} (h : Mid wb sb st vp vl vh W) (u9 : Upd vh.ownBlock.toList W w9) : Blk w9 sb (stC st vp vl vh) 56 :=
  h.blk.upd u9 (fun hm => by
    have h1 := row_kind h.stf.2.2.1 (show vh.ownBlock = some sb by simpa using hm)
    have h2 := h1.inj (blk_kind h.blk)
    revert h2
    decide)
theorem Mid.push {wb W w9 : World} {sb g9 cap9 : Nat} {st : StepD} {vp vl vh : Value} {x : Int} (h : Mid wb sb st vp vl vh W) (o9 : w9.ownsRow 0 3 1 (.slice (some ⟨g9, 0, none⟩) (st.hints.length + 1) cap9) (st.hints.length + 1) (ints st.hints ++ [.int .i64 x])) (u9 : Upd vh.ownBlock.toList W w9) (k9 : vh.ownBlock = some g9 ∨ g9 = W.heap.size) (hx : IsI64 x) :
    Mid wb sb { st with hints := st.hints ++ [x] } vp vl (.slice (some ⟨g9, 0, none⟩) (st.hints.length + 1) cap9) (w9.setCell ⟨sb, 6, none⟩ (.slice (some ⟨g9, 0, none⟩) (st.hints.length + 1) cap9)) := by
  have B9 := h.keep u9
  have us : Upd [sb] w9 (w9.setCell ⟨sb, 6, none⟩ (.slice (some ⟨g9, 0, none⟩) (st.hints.length + 1) cap9)) := (Upd.refl _ w9).set (.inl (by simp)) _
  have hO : Off w9 [sb] [3] := off_blk B9 (by decide)
  obtain ⟨f1, f2, f3, f4, f5, f6, f7, f8, f9, f10⟩ := h.stf
  have hp : ∀ b ∈ vh.ownBlock.toList, vp.ownBlock ≠ some b := fun b hb => (h.ap b (by simpa using hb)).2.1
  have hl : ∀ b ∈ vh.ownBlock.toList, vl.ownBlock ≠ some b := fun b hb => (h.ap b (by simpa using hb)).1
  have r9 : RowI w9 (.slice (some ⟨g9, 0, none⟩) (st.hints.length + 1) cap9) (st.hints ++ [x]) := by
    unfold RowI
    rw [List.length_append, List.length_singleton, ints_append]
    exact o9
  refine ⟨by have := B9.set 6 (.slice (some ⟨g9, 0, none⟩) (st.hints.length + 1) cap9); simpa [stC] using this, ⟨(f1.upd u9 hp).kd hO (by simp) us, (f2.upd u9 hl).kd hO (by simp) us, r9.kd hO (by simp) us, f4, f5, f6, f7, f8, fun y hy => ?_, f10⟩, fun g hg => ?_, ?_, h.sb_⟩
  · rcases List.mem_append.1 hy with hy | hy
    · exact f9 y hy
    · simp at hy; subst hy; exact hx
  · simp only [Value.ownBlock, Option.some.injEq] at hg
    subst hg
    rcases k9 with k9 | k9
    · exact h.ap _ k9
    · subst k9
      exact ⟨fun e => by have := f2.lt _ e; omega, fun e => by have := f1.lt _ e; omega, h.u.size⟩
  · exact (h.u.fresh u9 (fun b hb => .inr (h.ap b (by simpa using hb)).2.2)).fresh us (fun b hb => .inr (by simp at hb; have := h.sb_; omega))
/-- What the generator makes. -/
structure MadeP (p : PrfD) (most : Int) : Prop where
  wf : Wf p
  len : (p.steps.length : Int) ≤ most
  good : ∀ (k : Nat) (st : StepD), p.steps[k]? = some st → GoodS p.lemmas.length k st
  form : ∀ d ∈ p.lemmas, d = lem0 0 ∨ d = lem0 1
  few : p.lemmas.length ≤ 2
/-- A proof under construction, its lemmas done. -/
structure SmO (w wL : World) (ob : Nat) (vl vs : Value) (nl : Nat) (S : List StepD) (W : World) : Prop where
  box : Blk W ob [vl, vs] 30
  res : Blk W w.heap.size [.slice none 0 0, .slice none 0 0] 30
  st : StL W vs S
  fresh : ∀ g, vs.ownBlock = some g → wL.heap.size ≤ g
  good : ∀ (k : Nat) (st : StepD), S[k]? = some st → GoodS nl k st
  uL : Upd [ob] wL W
  uw : Upd [] w W
section
variable {w : World}
set_option maxRecDepth 100000 in
set_option maxHeartbeats 8000000 in
theorem SomeP_calls {v : Value} {l : List Int} {most : Int} (hx : ∀ x ∈ l, IsI64 x) (h : SL w 1 v l.length (ints l)) (hm : 0 ≤ most) (hm2 : most ≤ 1000) :
    Calls Try.prog 25 #[v, .int .i64 most] w fun e w' => ∃ v' p, e = .returned v' ∧ PrL w' v' p ∧ MadeP p most ∧ Upd [] w w' := by
  obtain ⟨a, cap, rfl, q1, r1, hc⟩ := SL.form h
  have HL := Lib.hid (And.intro h (And.intro hx hc))
  have hp0 := (pickI_rng (xs := l) (i := 0) (m := 3) (by omega)).1
  have hp1 := (pickI_rng (xs := l) (i := 0) (m := 3) (by omega)).2
  have HP := Lib.hid (fun (w' : World) (u : Upd [] w w') => PickI_calls hx (h.upd u (by simp)) 0 3 (by omega) (by omega))
  clear h hx hc
  generalize pickI l 0 3 = P at *
  have hz1 : (w.alloc (.cells #[.slice none 0 0, .slice none 0 0] 30)).heap.size = w.heap.size + 1 := by simp
  have br := Blk.new w [.slice none 0 0, .slice none 0 0] 30
  have bo := Blk.new (w.alloc (.cells #[.slice none 0 0, .slice none 0 0] 30)) [.slice none 0 0, .slice none 0 0] 30
  rw [hz1] at bo
  have br2 := br.alloc (.cells #[.slice none 0 0, .slice none 0 0] 30)
  have u2 := ((Upd.refl [] w).alloc (.cells #[.slice none 0 0, .slice none 0 0] 30)).alloc (.cells #[.slice none 0 0, .slice none 0 0] 30)
  have H2 := Lib.hid (And.intro br2 (And.intro bo u2))
  clear br bo br2 u2 hz1
  go_enter Try.func25, Try.ntmps25
  go_wp2_with fail
  generalize ((w.alloc (.cells #[.slice none 0 0, .slice none 0 0] 30)).alloc (.cells #[.slice none 0 0, .slice none 0 0] 30)) = w2 at *
  have hw2 := H2.out.2.1.lt
  go_loopw [6] (fun i wr => ∃ (L : List LemD) (vl : Value), i = .int .i64 (L.length : Nat) ∧ L.length ≤ 2 ∧ LmO w (w.heap.size + 1) vl (.slice none 0 0) L wr ∧ Blk wr w.heap.size [.slice none 0 0, .slice none 0 0] 30) (fun i _ => 3 - (intOf i).toNat)
  case atStart => exact ⟨[], .slice none 0 0, rfl, by simp, ⟨H2.out.2.1, ⟨fun _ => [undef, undef, undef, undef], World.ownsRow_nil _ _ _ _, fun _ => rfl, fun i d hd => by simp at hd⟩, by simp [Value.ownBlock], by simp, H2.out.2.2⟩, H2.out.1⟩
  case round =>
    obtain ⟨wo, rfl⟩ : ∃ wo : World, wo = wr := ⟨_, rfl⟩
    obtain ⟨L, vl, rfl, hL2, hO, hR⟩ := hrel
    obtain ⟨al, cl, rfl, ql, rl⟩ := hO.lem.form
    have hlen := hO.lem
    have c0 := hO.box.cell (i := 0) rfl
    have HO := Lib.hid (And.intro hO hR)
    clear hO hR hlen
    by_cases hlt : L.length < P
    · have HPK := Lib.hid (fun (x : Ext wo) => PickI_calls HL.out.2.1 (HL.out.1.upd (HO.out.1.u.step x.upd) (by simp)) (1 + (L.length : Nat)) 2 (by omega) (by omega))
      have hk0 := (pickI_rng (xs := l) (i := 1 + (L.length : Nat)) (m := 2) (by omega)).1
      have hk1 := (pickI_rng (xs := l) (i := 1 + (L.length : Nat)) (m := 2) (by omega)).2
      generalize pickI l (1 + (L.length : Nat)) 2 = c at *
      go_wp2_with (go_at_call 41; (with_reducible refine (HP.out _ HO.out.1.u).mono ?_); rintro e _ ⟨rfl, rfl⟩)
      refine wp_region_wa 20 17 (fun w' => ∃ x : Ext wo, w' = x.val) (by kernel_rfl) (by kernel_rfl) (Ext.of (by iterate 25 (first | exact Upd.refl _ _ | assumption | refine Upd.alloc ?_ _ | refine Upd.drew ?_ | refine Upd.drewN ?_ _ | refine Upd.dl ?_ | refine Upd.step ?_ (Ext.upd _) | refine Upd.nil ?_ | skip))) ?_
      (refine WA.free 0 rfl rfl (by kernel_rfl) (fun K hK => ?_); go_big_quiet_step (fail); refine wpQuiet_nil ?_; refine hK _ ?_; clear hK K); (refine WA.free 2 rfl rfl (by kernel_rfl) (fun K hK => ?_); go_big_quiet_step (fail); refine wpQuiet_nil ?_; refine hK _ ?_; clear hK K); (refine WA.free 3 rfl rfl (by kernel_rfl) (fun K hK => ?_); go_big_quiet_step (fail); refine wpQuiet_nil ?_; refine hK _ ?_; clear hK K); (refine WA.free 6 rfl rfl (by kernel_rfl) (fun K hK => ?_); go_big_quiet_step (fail); refine wpQuiet_nil ?_; refine hK _ ?_; clear hK K); (refine WA.free 7 rfl rfl (by kernel_rfl) (fun K hK => ?_); go_big_quiet_step (fail); refine wpQuiet_nil ?_; refine hK _ ?_; clear hK K); (refine WA.free 8 rfl rfl (by kernel_rfl) (fun K hK => ?_); go_big_quiet_step (fail); refine wpQuiet_nil ?_; refine hK _ ?_; clear hK K)
      (refine WA.load 1 20 rfl rfl (by kernel_rfl) (by kernel_rfl) (fun K hK => ?_); go_big_quiet_step (fail); refine wpQuiet_nil ?_; refine hK _ ?_; clear hK K)
      refine WA.linA (w0 := wo) 20 [(4, 21), (5, 22), (9, 26), (10, 27), (11, 28), (12, 29), (13, 30), (14, 31)] useN _ #[true, true, true, true, true, true, true, true, true, true, true, true, true, true, true, false, false, false, false, false] (fun i v F w => PN wo c i v F w) 5 13 (by kernel_rfl)
        (fun i v F w w' S h hu hS => PN.upd h hu hS) (fun i v F w h => PN.lt h) ?step ?end' (by iterate 25 (first | exact Upd.refl _ _ | assumption | refine Upd.alloc ?_ _ | refine Upd.drew ?_ | refine Upd.drewN ?_ _ | refine Upd.dl ?_ | refine Upd.step ?_ (Ext.upd _) | refine Upd.nil ?_ | skip))
      case step =>
        intro j hj val F wq hU hP hD
        have hz := hU.size
        simp only [List.map_cons, List.map_nil, List.mem_cons, List.not_mem_nil, or_false] at hj
        rcases hj with rfl | rfl | rfl | rfl | rfl | rfl | rfl | rfl
        · refine wpOp_mk rfl (fun K hK => ?_)
          simp only [setAll, List.setIfInBounds_toArray, List.set_cons_succ, List.set_cons_zero]
          go_wp2_with fail
          exact Halt_.intro ⟨.slice (some ⟨wq.heap.size, 0, none⟩) 1 1, [wq.heap.size], by simp [setAll, updV], ⟨wq.heap.size, rfl, Blk.new wq (noC nod0 (.slice none 0 0)) 88, rfl, hz⟩, (Upd.refl _ _).alloc _, fun b hb => .inr (by simp at hb; omega)⟩
        · refine wpOp_mk rfl (fun K hK => ?_)
          simp only [setAll, List.setIfInBounds_toArray, List.set_cons_succ, List.set_cons_zero]
          go_wp2_with fail
          exact Halt_.intro ⟨.slice (some ⟨wq.heap.size, 0, none⟩) 1 1, [wq.heap.size], by simp [setAll, updV], ⟨wq.heap.size, rfl, Blk.new wq ([.int .i64 0]) 3, rfl, hz⟩, (Upd.refl _ _).alloc _, fun b hb => .inr (by simp at hb; omega)⟩
        · obtain ⟨xq, rfl⟩ := Ext.of hU
          refine wpOp_mk rfl (fun K hK => ?_)
          simp only [setAll, List.setIfInBounds_toArray, List.set_cons_succ, List.set_cons_zero]
          go_wp2_with (go_at_call 41; (with_reducible refine (HPK.out xq).mono ?_); rintro e _ ⟨rfl, rfl⟩)
          exact Halt_.intro ⟨.int .i64 c, [], by simp [setAll, updV], ⟨rfl, rfl⟩, Upd.refl _ _, by simp⟩
        · have h1 : val 9 = .int .i64 c ∧ F 9 = [] := hP 9 (by simp [useN])
          refine wpOp_mk rfl (fun K hK => ?_)
          simp only [setAll, List.setIfInBounds_toArray, List.set_cons_succ, List.set_cons_zero, h1.1]
          go_wp2_with fail
          exact Halt_.intro ⟨.int .i64 (2 + c), [], by simp [setAll, updV, h1.1], ⟨rfl, rfl⟩, Upd.refl _ _, by simp⟩
        · have h1 : val 10 = .int .i64 (2 + c) ∧ F 10 = [] := hP 10 (by simp [useN])
          refine wpOp_mk rfl (fun K hK => ?_)
          simp only [setAll, List.setIfInBounds_toArray, List.set_cons_succ, List.set_cons_zero, h1.1]
          go_wp2_with fail
          exact Halt_.intro ⟨.slice (some ⟨wq.heap.size, 0, none⟩) 1 1, [wq.heap.size], by simp [setAll, updV, h1.1], ⟨wq.heap.size, rfl, Blk.new wq [.int .i64 (2 + c)] 3, rfl, hz⟩, (Upd.refl _ _).alloc _, fun b hb => .inr (by simp at hb; omega)⟩
        · refine wpOp_mk rfl (fun K hK => ?_)
          simp only [setAll, List.setIfInBounds_toArray, List.set_cons_succ, List.set_cons_zero]
          go_wp2_with fail
          exact Halt_.intro ⟨.slice (some ⟨wq.heap.size, 0, none⟩) 1 1, [wq.heap.size], by simp [setAll, updV], ⟨wq.heap.size, rfl, Blk.new wq ([.int .i64 2]) 3, rfl, hz⟩, (Upd.refl _ _).alloc _, fun b hb => .inr (by simp at hb; omega)⟩
        · obtain ⟨g, h1, h2, h3, h4⟩ := (show ∃ g, val 12 = .slice (some ⟨g, 0, none⟩) 1 1 ∧ Blk wq g [.int .i64 2] 3 ∧ F 12 = [g] ∧ wo.heap.size ≤ g from hP 12 (by simp [useN]))
          refine wpOp_mk rfl (fun K hK => ?_)
          simp only [setAll, List.setIfInBounds_toArray, List.set_cons_succ, List.set_cons_zero, h1]
          go_wp2_with fail
          exact Halt_.intro ⟨.agg (stC stp0 (.slice none 0 0) (.slice (some ⟨g, 0, none⟩) 1 1) (.slice none 0 0)).toArray, [g], by simp [setAll, updV, h1]; rfl, ⟨g, rfl, h2, rfl, h4⟩, Upd.refl _ _, fun b hb => .inl (by simp [useN, h3]; simpa using hb)⟩
        · obtain ⟨g, h1, h2, h3, h4⟩ := (show ∃ g, val 13 = .agg (stC stp0 (.slice none 0 0) (.slice (some ⟨g, 0, none⟩) 1 1) (.slice none 0 0)).toArray ∧ Blk wq g [.int .i64 2] 3 ∧ F 13 = [g] ∧ wo.heap.size ≤ g from hP 13 (by simp [useN]))
          have hlg := h2.lt
          refine wpOp_mk rfl (fun K hK => ?_)
          simp only [setAll, List.setIfInBounds_toArray, List.set_cons_succ, List.set_cons_zero, h1, stC]
          go_wp2_with fail
          exact Halt_.intro ⟨.slice (some ⟨wq.heap.size, 0, none⟩) 1 1, [wq.heap.size, g], by simp [setAll, updV, h1, stC], ⟨g, wq.heap.size, rfl, Blk.new wq (stC stp0 (.slice none 0 0) (.slice (some ⟨g, 0, none⟩) 1 1) (.slice none 0 0)) 56, h2.alloc _, rfl, h4, hz⟩, (Upd.refl _ _).alloc _, fun b hb => by
            simp at hb
            rcases hb with rfl | rfl
            · exact .inr (Nat.le_refl _)
            · exact .inl (by simp [useN, h3])⟩
      case end' =>
        intro val F wq hU hP hD
        obtain ⟨g4, v4, b4, _, f4⟩ := (show ∃ g, val 4 = .slice (some ⟨g, 0, none⟩) 1 1 ∧ Blk wq g (noC nod0 (.slice none 0 0)) 88 ∧ F 4 = [g] ∧ wo.heap.size ≤ g from hP 4 (by simp) (by decide))
        obtain ⟨g5, v5, b5, _, f5⟩ := (show ∃ g, val 5 = .slice (some ⟨g, 0, none⟩) 1 1 ∧ Blk wq g [.int .i64 0] 3 ∧ F 5 = [g] ∧ wo.heap.size ≤ g from hP 5 (by simp) (by decide))
        obtain ⟨g11, v11, b11, _, f11⟩ := (show ∃ g, val 11 = .slice (some ⟨g, 0, none⟩) 1 1 ∧ Blk wq g [.int .i64 (2 + c)] 3 ∧ F 11 = [g] ∧ wo.heap.size ≤ g from hP 11 (by simp) (by decide))
        obtain ⟨g12, g14, v14, b14, b12, _, f12, f14⟩ := (show ∃ g g2, val 14 = .slice (some ⟨g2, 0, none⟩) 1 1 ∧ Blk wq g2 (stC stp0 (.slice none 0 0) (.slice (some ⟨g, 0, none⟩) 1 1) (.slice none 0 0)) 56 ∧ Blk wq g [.int .i64 2] 3 ∧ F 14 = [g2, g] ∧ wo.heap.size ≤ g ∧ wo.heap.size ≤ g2 from hP 14 (by simp) (by decide))
        have hLm := lmR_made (by unfold IsI64; omega) b4 b5 b11 b12 b14
        have HQ := Lib.hid (And.intro hLm hU)
        clear b4 b5 b11 b12 b14 f4 f5 f11 f12 f14 hLm hP hD
        simp only [setAll, List.setIfInBounds_toArray, List.set_cons_succ, List.set_cons_zero, v4, v5, v11, v14]
        clear v4 v5 v11 v14
        (refine WA.free 15 rfl rfl (by kernel_rfl) (fun K hK => ?_); go_big_quiet_step (fail); refine wpQuiet_nil ?_; refine hK _ ?_; clear hK K)
        refine WA.one 16 (by kernel_rfl) (Do_.mk rfl (fun K hK => ?_))
        go_wp2_with fail
        have B6 := Blk.new wq [.slice (some ⟨g4, 0, none⟩) 1 1, .slice (some ⟨g5, 0, none⟩) 1 1, .slice (some ⟨g11, 0, none⟩) 1 1, .slice (some ⟨g14, 0, none⟩) 1 1] 82
        have U6 := (Upd.refl [] wq).alloc (.cells #[.slice (some ⟨g4, 0, none⟩) 1 1, .slice (some ⟨g5, 0, none⟩) 1 1, .slice (some ⟨g11, 0, none⟩) 1 1, .slice (some ⟨g14, 0, none⟩) 1 1] 82)
        have Lm6 : LmR _ (lem0 c) _ := (show LmR wq (lem0 c) _ from HQ.out.1).kd (T := []) (es := [3, 88, 56]) (by intro b hb; simp at hb) (by simp) (by simp) (by simp) U6
        generalize wq.alloc (.cells #[.slice (some ⟨g4, 0, none⟩) 1 1, .slice (some ⟨g5, 0, none⟩) 1 1, .slice (some ⟨g11, 0, none⟩) 1 1, .slice (some ⟨g14, 0, none⟩) 1 1] 82) = w6 at *
        have U56 := HQ.out.2.step U6
        refine WA.keep (Ext.of U56) ?_
        have O6 : LmL w6 (.slice al L.length cl) L := HO.out.1.lem.ext U56
        obtain ⟨f, o1, o2, o3⟩ := O6
        have hz6 := U56.size
        have H6 := Lib.hid (And.intro o1 (And.intro o2 (And.intro o3 (And.intro Lm6 (And.intro (HO.out.1.box.upd U56 (by simp)) (And.intro (HO.out.1.u.step U56) (HO.out.2.upd U56 (by simp))))))))
        have HB6 := Lib.hid B6
        clear o1 o2 o3 Lm6 B6 U6 U56 HQ hU
        refine WA.one 17 (by kernel_rfl) (Do_.mk rfl (fun K hK => ?_))
        refine wpList_app rfl _ _ _ rfl 82 4 96 _ Try.underlying27 infoLemma rfl (by decide) (.slice al L.length cl) L.length _ rfl H6.out.1 wq.heap.size 1 1 [.slice (some ⟨g4, 0, none⟩) 1 1, .slice (some ⟨g5, 0, none⟩) 1 1, .slice (some ⟨g11, 0, none⟩) 1 1, .slice (some ⟨g14, 0, none⟩) 1 1] 82 rfl rfl HB6.out (by simp [Value.oneCell']) (by omega) (by unfold maxLen; omega) (by omega) ?_
        intro g9 cap9 w9 o9 u9 k9
        simp only [Act.put, List.setIfInBounds_toArray, List.set_cons_zero, List.set_cons_succ]
        have L9 := lmL_push H6.out.1 H6.out.2.1 H6.out.2.2.1 H6.out.2.2.2.1 rfl o9 u9
        have hfr := HO.out.1.fresh
        have B9 := H6.out.2.2.2.2.1.upd u9 (fun hm => by have := hfr _ (by simpa using hm); omega)
        have R9 := H6.out.2.2.2.2.2.2.upd u9 (fun hm => by have := hfr _ (by simpa using hm); omega)
        have U9 : Upd [] w w9 := H6.out.2.2.2.2.2.1.fresh u9 (fun b hb => .inr (by have := hfr b (by simpa using hb); omega))
        have hg9 : w.heap.size + 1 < g9 := by
          rcases k9 with k9 | k9
          · exact hfr g9 k9
          · have := H6.out.2.2.2.2.1.lt; omega
        have f9 := B9.free 0
        have c9 := B9.cell (i := 0) rfl
        have H9 := Lib.hid (And.intro L9 (And.intro B9 (And.intro R9 U9)))
        clear o9 u9 k9 L9 B9 R9 U9 H6 HB6 hfr
        go_wp2_with fail
        refine WA.past (by kernel_rfl) ?_
        (refine WA.free 18 rfl rfl (by kernel_rfl) (fun K hK => ?_); go_big_quiet_step (fail); refine wpQuiet_nil ?_; refine hK _ ?_; clear hK K)
        refine WA.one 19 (by kernel_rfl) (Do_.mk rfl (fun K hK => ?_))
        go_wp2_with fail
        refine WA.past (by kernel_rfl) ?_
        refine WA.nil (by kernel_rfl) ?_
        have us : Upd [w.heap.size + 1] w9 (w9.setCell ⟨w.heap.size + 1, 0, none⟩ (.slice (some ⟨g9, 0, none⟩) (L.length + 1) cap9)) := (Upd.refl _ w9).set (.inl (by simp)) _
        have hc01 : c = 0 ∨ c = 1 := by omega
        have HE := Lib.hid (show LmO w (w.heap.size + 1) (.slice (some ⟨g9, 0, none⟩) (L.length + 1) cap9) (.slice none 0 0) (L ++ [lem0 c]) _ ∧ Blk _ w.heap.size [.slice none 0 0, .slice none 0 0] 30 from
          ⟨⟨H9.out.2.1.set 0 _, H9.out.1.kd (es := [3, 88, 56, 82]) (off_blk H9.out.2.1 (by decide)) (by simp) (by simp) (by simp) (by simp) us, fun g hg => by simp [Value.ownBlock] at hg; omega, fun d hd => by
            rcases List.mem_append.1 hd with hd | hd
            · exact HO.out.1.form d hd
            · simp at hd; subst hd
              rcases hc01 with rfl | rfl
              · exact .inl rfl
              · exact .inr rfl, H9.out.2.2.2.fresh us (fun k hk => .inr (by simp at hk; omega))⟩, H9.out.2.2.1.upd us (by simp)⟩)
        clear us
        go_wp2_with fail
        exact ⟨⟨L ++ [lem0 c], _, by rw [List.length_append, List.length_singleton]; go_num, by rw [List.length_append, List.length_singleton]; omega, HE.out⟩, by simp [intOf]; omega⟩
    · have hge : ¬ ((L.length : Int) < P) := by omega
      have HPL := Lib.hid (show LmL wo (.slice al L.length cl) L from HO.out.1.lem)
      clear hp0 hp1
      go_wp2_with (go_at_call 41; (with_reducible refine (HP.out _ HO.out.1.u).mono ?_); rintro e _ ⟨rfl, rfl⟩)
      go_loopw [7] (fun i wr => ∃ (S : List StepD) (vs : Value), i = .int .i64 (S.length : Nat) ∧ S.length ≤ l.length ∧ (S.length : Int) ≤ most ∧ SmO w wo (w.heap.size + 1) (.slice al L.length cl) vs L.length S wr) (fun i _ => (most - intOf i).toNat)
      case atStart => exact ⟨[], .slice none 0 0, rfl, by simp, hm, HO.out.1.box, HO.out.2, ⟨fun _ => [undef, undef, undef, undef, undef, undef, undef], World.ownsRow_nil _ _ _ _, fun _ => rfl, fun i d hd => by simp at hd⟩, by simp [Value.ownBlock], fun k st h => by simp at h, Upd.refl _ _, HO.out.1.u⟩
      case round =>
        obtain ⟨wb, rfl⟩ : ∃ wb : World, wb = wr := ⟨_, rfl⟩
        obtain ⟨S, vs, rfl, hSl, hSm, hO2⟩ := hrel
        obtain ⟨as_, cs, rfl, qs, rs, _⟩ := hO2.st.at_
        have H2 := Lib.hid hO2
        clear hO2
        by_cases hlt2 : S.length < l.length ∧ (S.length : Int) < most
        · obtain ⟨hl1, hl2⟩ := hlt2
          have hl1' : (S.length : Int) < l.length := by omega
          obtain ⟨g, off, rfl, k1⟩ := HL.out.2.2 (by omega)
          have e0 := H2.out.uw.some (k1 S.length _ (ints_get (List.getElem?_eq_getElem hl1))) (by simp)
          have hxi := HL.out.2.1 _ (List.getElem_mem hl1)
          clear k1
          generalize l[S.length] = x at *
          have n0 := around_lo (n := x) (k := 1073741824) (by omega)
          have n1 := around_hi (n := x) (k := 1073741824) (by omega)
          have HA := Lib.hid (fun w : World => Around_calls x 1073741824 w hxi (by omega) (by omega))
          generalize around x 1073741824 = n at *
          clear hxi
          obtain ⟨q, hq, hqi⟩ := lit_choice n n0
          go_upto_region 12 with (go_at_call 12; refine (HA.out _).mono ?_; rintro e _ ⟨rfl, rfl⟩)
          have st0 : ∃ st : StepD, st = ⟨n % 6, n / 6 % 3, 0, [], ⟨#[]⟩, [q], []⟩ := ⟨_, rfl⟩
          have b1 := (Blk.new (wb.alloc (.cells #[.int .i64 2, .int .i64 (-2), .int .i64 3, .int .i64 (-3)] 3)) [.int .i64 q] 3)
          rw [show (wb.alloc (.cells #[.int .i64 2, .int .i64 (-2), .int .i64 3, .int .i64 (-3)] 3)).heap.size = wb.heap.size + 1 by simp] at b1
          have b2 := Blk.new ((wb.alloc (.cells #[.int .i64 2, .int .i64 (-2), .int .i64 3, .int .i64 (-3)] 3)).alloc (.cells #[.int .i64 q] 3)) [.int .i64 (n % 6), .int .i64 (n / 6 % 3), .int .i64 0, .slice none 0 0, .string ⟨#[]⟩, .slice (some ⟨wb.heap.size + 1, 0, none⟩) 1 1, .slice none 0 0] 56
          rw [show ((wb.alloc (.cells #[.int .i64 2, .int .i64 (-2), .int .i64 3, .int .i64 (-3)] 3)).alloc (.cells #[.int .i64 q] 3)).heap.size = wb.heap.size + 2 by simp] at b2
          have u3 := (((Upd.refl [] wb).alloc (.cells #[.int .i64 2, .int .i64 (-2), .int .i64 3, .int .i64 (-3)] 3)).alloc (.cells #[.int .i64 q] 3)).alloc (.cells #[.int .i64 (n % 6), .int .i64 (n / 6 % 3), .int .i64 0, .slice none 0 0, .string ⟨#[]⟩, .slice (some ⟨wb.heap.size + 1, 0, none⟩) 1 1, .slice none 0 0] 56)
          have b1' := b1.alloc (.cells #[.int .i64 (n % 6), .int .i64 (n / 6 % 3), .int .i64 0, .slice none 0 0, .string ⟨#[]⟩, .slice (some ⟨wb.heap.size + 1, 0, none⟩) 1 1, .slice none 0 0] 56)
          generalize (((wb.alloc (.cells #[.int .i64 2, .int .i64 (-2), .int .i64 3, .int .i64 (-3)] 3)).alloc (.cells #[.int .i64 q] 3)).alloc (.cells #[.int .i64 (n % 6), .int .i64 (n / 6 % 3), .int .i64 0, .slice none 0 0, .string ⟨#[]⟩, .slice (some ⟨wb.heap.size + 1, 0, none⟩) 1 1, .slice none 0 0] 56)) = w3 at *
          have hk0 : 0 ≤ n % 6 := by omega
          have hk5 : n % 6 ≤ 5 := by omega
          have hm0 : 0 ≤ n / 6 % 3 := by omega
          have hm3 : n / 6 % 3 ≤ 2 := by omega
          have hd0 : 0 ≤ n / 72 := by omega
          have hd1 : n / 72 < 1073741824 := by omega
          clear st0 b1 hq n0 n1
          generalize n % 6 = kd at *
          generalize n / 6 % 3 = nd at *
          generalize n / 72 = m at *
          have d0 := b2.cell (i := 0) rfl
          have x0 := (H2.out.box.upd u3 (by simp)).cell (i := 0) rfl
          have hlb := b1'.lt
          have H3 := Lib.hid (And.intro b2 (And.intro b1' u3))
          clear b2 b1' u3
          go_upto_block 4 with fail
          go_cut [8] (fun o w' => o = .int .i64 m ∧ ∃ st vp vl, Blk w' (wb.heap.size + 2) (stC st vp vl (.slice none 0 0)) 56 ∧ StF w' st vp vl (.slice none 0 0) ∧ st.hints = [] ∧ GoodS L.length S.length st ∧ Upd [] wb w')
          case first =>
            have hlr : RowI w3 (.slice (some ⟨wb.heap.size + 1, 0, none⟩) 1 1) [q] := rowI_blk (xs := [q]) H3.out.2.1 (by simp)
            have HLR := Lib.hid hlr
            clear hlr hlb
            have hcs : kd = 1 ∨ kd = 2 ∨ kd = 4 ∨ (kd ≠ 1 ∧ kd ≠ 2 ∧ kd ≠ 4) := by omega
            rcases hcs with rfl | rfl | rfl | ⟨h1, h2, h4⟩
            · obtain ⟨nm, hnm, hnz⟩ := name_choice m hd0
              have f4 := H3.out.1.free 4
              have d4 := H3.out.1.cell (i := 4) rfl
              have us : Upd [wb.heap.size + 2] (w3.alloc (.cells #[.string ⟨#[97]⟩, .string ⟨#[98]⟩, .string ⟨#[99]⟩, .string ⟨#[100, 100]⟩] 9)) ((w3.alloc (.cells #[.string ⟨#[97]⟩, .string ⟨#[98]⟩, .string ⟨#[99]⟩, .string ⟨#[100, 100]⟩] 9)).setCell ⟨wb.heap.size + 2, 4, none⟩ (.string nm)) := (Upd.refl _ _).set (.inl (by simp)) _
              have ua : Upd [] w3 (w3.alloc (.cells #[.string ⟨#[97]⟩, .string ⟨#[98]⟩, .string ⟨#[99]⟩, .string ⟨#[100, 100]⟩] 9)) := (Upd.refl _ _).alloc _
              have f4' : (w3.alloc (.cells #[.string ⟨#[97]⟩, .string ⟨#[98]⟩, .string ⟨#[99]⟩, .string ⟨#[100, 100]⟩] 9)).frozen? ⟨wb.heap.size + 2, 4, none⟩ = false := (ua.frozen (p := ⟨wb.heap.size + 2, 4, none⟩) H3.out.1.lt (by simp)).trans f4
              have d4' := ua.some d4 (by simp)
              have HE := Lib.hid (And.intro ((H3.out.1.upd ua (by simp)).set 4 (.string nm)) (And.intro ((HLR.out.ext ua).kd (es := [3]) (off_blk (H3.out.1.upd ua (by simp)) (by decide)) (by simp) us) (And.intro ((H3.out.2.2.step ua).fresh us (fun k hk => .inr (by simp at hk; omega))) hnz)))
              clear us ua hnz
              go_wp2_with fail
              all_goals go_meet
              all_goals case rel =>
                have hmk := made_ok (nl := L.length) (k := S.length) (kd := 1) (nd := nd) (rl := 0) (rowI_nil _) HE.out.2.1 (by omega) (by omega) (by omega) (by simp) hqi HE.out.2.2.2 (by simp) (by omega)
                exact ⟨rfl, ⟨1, nd, 0, [], nm, [q], []⟩, .slice none 0 0, .slice (some ⟨wb.heap.size + 1, 0, none⟩) 1 1, HE.out.1, hmk.1, rfl, hmk.2, HE.out.2.2.1⟩
            · have f2 := H3.out.1.free 2
              have f3 := H3.out.1.free 3
              have d2 := H3.out.1.cell (i := 2) rfl
              have d3 := H3.out.1.cell (i := 3) rfl
              have us1 : Upd [wb.heap.size + 2] w3 (w3.setCell ⟨wb.heap.size + 2, 2, none⟩ (.int .i64 (m % 2))) := (Upd.refl _ _).set (.inl (by simp)) _
              have B1 := H3.out.1.set 2 (.int .i64 (m % 2))
              have hsz : (w3.setCell ⟨wb.heap.size + 2, 2, none⟩ (.int .i64 (m % 2))).heap.size = w3.heap.size := by simp
              have HE1 := Lib.hid (And.intro B1 (And.intro us1 hsz))
              have c3 := B1.cell (i := 3) rfl
              have g3 := B1.free 3
              clear B1 us1 hsz
              have B2 := Blk.new (w3.setCell ⟨wb.heap.size + 2, 2, none⟩ (.int .i64 (m % 2))) [.int .i64 (m / 2 % 3)] 3
              rw [HE1.out.2.2] at B2
              have ua : Upd [] (w3.setCell ⟨wb.heap.size + 2, 2, none⟩ (.int .i64 (m % 2))) ((w3.setCell ⟨wb.heap.size + 2, 2, none⟩ (.int .i64 (m % 2))).alloc (.cells #[.int .i64 (m / 2 % 3)] 3)) := (Upd.refl _ _).alloc _
              have c4 := ua.some c3 (by simp)
              have B3 := HE1.out.1.upd ua (by simp)
              have g4 := B3.free 3
              have us2 : Upd [wb.heap.size + 2] ((w3.setCell ⟨wb.heap.size + 2, 2, none⟩ (.int .i64 (m % 2))).alloc (.cells #[.int .i64 (m / 2 % 3)] 3)) (((w3.setCell ⟨wb.heap.size + 2, 2, none⟩ (.int .i64 (m % 2))).alloc (.cells #[.int .i64 (m / 2 % 3)] 3)).setCell ⟨wb.heap.size + 2, 3, none⟩ (.slice (some ⟨w3.heap.size, 0, none⟩) 1 1)) := (Upd.refl _ _).set (.inl (by simp)) _
              have hlt3 := H3.out.1.lt
              have HE := Lib.hid (And.intro (B3.set 3 (.slice (some ⟨w3.heap.size, 0, none⟩) 1 1)) (And.intro ((((HLR.out.kd (es := [3]) (off_blk H3.out.1 (by decide)) (by simp) HE1.out.2.1).ext ua).kd (es := [3]) (off_blk B3 (by decide)) (by simp) us2)) (And.intro ((rowI_blk (xs := [m / 2 % 3]) B2 (by simp)).kd (es := [3]) (off_blk B3 (by decide)) (by simp) us2)
                (((H3.out.2.2.fresh HE1.out.2.1 (fun k hk => .inr (by simp at hk; omega))).step ua).fresh us2 (fun k hk => .inr (by simp at hk; omega))))))
              clear us2 ua B2 B3 hlt3
              go_wp2_with fail
              all_goals go_meet
              all_goals case rel =>
                have hmk := made_ok (nl := L.length) (k := S.length) (kd := 2) (nd := nd) (rl := m % 2) (nm := ⟨#[]⟩) HE.out.2.2.1 HE.out.2.1 (by omega) (by omega) (by omega) (by simp [IsI64]; omega) hqi (by decide) (by simp) (by omega)
                exact ⟨rfl, ⟨2, nd, m % 2, [m / 2 % 3], ⟨#[]⟩, [q], []⟩, .slice (some ⟨w3.heap.size, 0, none⟩) 1 1, .slice (some ⟨wb.heap.size + 1, 0, none⟩) 1 1, HE.out.1, hmk.1, rfl, hmk.2, HE.out.2.2.2⟩
            · rcases Nat.eq_zero_or_pos L.length with hL0 | hLp
              · have hLb : ((L.length : Int) == 0) = true := by rw [hL0]; rfl
                have f0 := H3.out.1.free 0
                have us : Upd [wb.heap.size + 2] w3 (w3.setCell ⟨wb.heap.size + 2, 0, none⟩ (.int .i64 0)) := (Upd.refl _ _).set (.inl (by simp)) _
                have HE := Lib.hid (And.intro (H3.out.1.set 0 (.int .i64 0)) (And.intro (HLR.out.kd (es := [3]) (off_blk H3.out.1 (by decide)) (by simp) us) (H3.out.2.2.fresh us (fun k hk => .inr (by simp at hk; omega)))))
                clear us hL0
                go_wp2_with fail
                all_goals go_meet
                all_goals case rel =>
                  have hmk := made_ok (nl := L.length) (k := S.length) (kd := 0) (nd := nd) (rl := 0) (nm := ⟨#[]⟩) (rowI_nil _) HE.out.2.1 (by omega) (by omega) (by omega) (by simp) hqi (by decide) (by simp) (by omega)
                  exact ⟨rfl, ⟨0, nd, 0, [], ⟨#[]⟩, [q], []⟩, .slice none 0 0, .slice (some ⟨wb.heap.size + 1, 0, none⟩) 1 1, HE.out.1, hmk.1, rfl, hmk.2, HE.out.2.2⟩
              · have hLb : ((L.length : Int) == 0) = false := beq_eq_false_iff_ne.2 (by omega)
                have hLb2 : 1 ≤ (L.length : Int) := by omega
                have f1 := H3.out.1.free 1
                have d1 := H3.out.1.cell (i := 1) rfl
                have hmod0 := Int.emod_nonneg m (show (L.length : Int) ≠ 0 by omega)
                have hmod1 := Int.emod_lt_of_pos m (show 0 < (L.length : Int) by omega)
                have us : Upd [wb.heap.size + 2] w3 (w3.setCell ⟨wb.heap.size + 2, 1, none⟩ (.int .i64 (m % (L.length : Int)))) := (Upd.refl _ _).set (.inl (by simp)) _
                have HE := Lib.hid (And.intro (H3.out.1.set 1 (.int .i64 (m % (L.length : Int)))) (And.intro (HLR.out.kd (es := [3]) (off_blk H3.out.1 (by decide)) (by simp) us) (And.intro (H3.out.2.2.fresh us (fun k hk => .inr (by simp at hk; omega))) (And.intro hmod0 hmod1))))
                clear us hmod0 hmod1
                go_wp2_with fail
                all_goals go_meet
                all_goals case rel =>
                  have hmk := made_ok (nl := L.length) (k := S.length) (kd := 4) (nd := m % (L.length : Int)) (rl := 0) (nm := ⟨#[]⟩) (rowI_nil _) HE.out.2.1 (by omega) (by have := HE.out.2.2.2.2; have := HE.out.2.2.2.1; omega) (by omega) (by simp) hqi (by decide) (by simp) (fun _ => HE.out.2.2.2.2)
                  exact ⟨rfl, ⟨4, m % (L.length : Int), 0, [], ⟨#[]⟩, [q], []⟩, .slice none 0 0, .slice (some ⟨wb.heap.size + 1, 0, none⟩) 1 1, HE.out.1, hmk.1, rfl, hmk.2, HE.out.2.2.1⟩
            · have q1 : (kd == 1) = false := beq_eq_false_iff_ne.2 h1
              have q2 : (kd == 2) = false := beq_eq_false_iff_ne.2 h2
              have q4 : (kd == 4) = false := beq_eq_false_iff_ne.2 h4
              have HE := Lib.hid h4
              clear h1 h2 h4
              go_wp2_with fail
              all_goals go_meet
              all_goals case rel =>
                have hmk := made_ok (nl := L.length) (k := S.length) (kd := kd) (nd := nd) (rl := 0) (nm := ⟨#[]⟩) (rowI_nil _) HLR.out (by omega) (by omega) (by omega) (by simp) hqi (by decide) (by simp) (fun h => absurd h HE.out)
                exact ⟨rfl, ⟨kd, nd, 0, [], ⟨#[]⟩, [q], []⟩, .slice none 0 0, .slice (some ⟨wb.heap.size + 1, 0, none⟩) 1 1, H3.out.1, hmk.1, rfl, hmk.2, H3.out.2.2⟩
          case rest =>
          obtain ⟨rfl, st, vp, vl2, hB, hF, hh0, hG, hu⟩ := hcut
          obtain ⟨w4, rfl⟩ : ∃ w4 : World, w4 = wc := ⟨_, rfl⟩
          clear H3 hlb x0
          have d0 := hB.cell (i := 0) rfl
          have HS4 := Lib.hid (And.intro hB (And.intro hF (And.intro hh0 (And.intro hG hu))))
          clear hB hF hh0 hG hu
          go_upto_region 22 with fail
          go_cut [111] (fun b w' => w' = w4 ∧ ∃ z : Bool, b = .bool z ∧ (z = true → 0 < S.length))
          case first =>
            rcases Nat.eq_zero_or_pos S.length with hS0 | hSp
            · have hS0' : ¬ (0 : Int) < S.length := by omega
              clear hS0
              go_wp2_with fail
              all_goals go_meet
              all_goals case rel => exact ⟨rfl, false, rfl, by simp⟩
            · have hSp' : (0 : Int) < S.length := by omega
              have hcs : st.kind = 5 ∨ (st.kind ≠ 5 ∧ st.kind = 4) ∨ (st.kind ≠ 5 ∧ st.kind ≠ 4) := by omega
              rcases hcs with h5 | ⟨h5, h4⟩ | ⟨h5, h4⟩
              · have q5 : (st.kind == 5) = true := by simpa using h5
                clear h5
                go_wp2_with fail
                all_goals go_meet
                all_goals case rel => exact ⟨rfl, true, rfl, fun _ => hSp⟩
              · have q5 : (st.kind == 5) = false := by simpa using h5
                have q4 : (st.kind == 4) = true := by simpa using h4
                clear h5 h4
                go_wp2_with fail
                all_goals go_meet
                all_goals case rel => exact ⟨rfl, true, rfl, fun _ => hSp⟩
              · have q5 : (st.kind == 5) = false := by simpa using h5
                have q4 : (st.kind == 4) = false := by simpa using h4
                clear h5 h4
                go_wp2_with fail
                all_goals go_meet
                all_goals case rel => exact ⟨rfl, false, rfl, by simp⟩
          case rest =>
          obtain ⟨hw4, z, rfl, hz⟩ := hcut
          obtain rfl : w4 = wc := hw4.symm
          have HZ := Lib.hid hz
          clear hz
          go_upto_if 111 with fail
          go_cut [8] (fun o w' => ∃ st vp vl vh, Blk w' (wb.heap.size + 2) (stC st vp vl vh) 56 ∧ StF w' st vp vl vh ∧ GoodS L.length S.length st ∧ Upd [] wb w')
          case first =>
            cases z with
            | false =>
              go_wp2_with fail
              all_goals go_meet
              all_goals case rel => exact ⟨st, vp, vl2, .slice none 0 0, HS4.out.1, HS4.out.2.1, HS4.out.2.2.2.1, HS4.out.2.2.2.2⟩
            | true =>
              have hSp := HZ.out rfl
              have hSp' : 1 ≤ (S.length : Int) := by omega
              have hm0 := Int.emod_nonneg (m / 8) (show (S.length : Int) ≠ 0 by omega)
              have hm1 := Int.emod_lt_of_pos (m / 8) (show 0 < (S.length : Int) by omega)
              have hm2 := Int.emod_nonneg (m / 256) (show (S.length : Int) ≠ 0 by omega)
              have hm3 := Int.emod_lt_of_pos (m / 256) (show 0 < (S.length : Int) by omega)
              have hmz0 : 0 ≤ m / 8 := by omega
              have hmz1 : 0 ≤ m / 256 := by omega
              have hSb : ((S.length : Int) == 0) = false := beq_eq_false_iff_ne.2 (by omega)
              have M4 : Mid wb (wb.heap.size + 2) st vp vl2 (.slice none 0 0) w4 := ⟨HS4.out.1, HS4.out.2.1, by simp [Value.ownBlock], HS4.out.2.2.2.2, by omega⟩
              have d6 := M4.blk.cell (i := 6) rfl
              have HM4 := Lib.hid (And.intro M4 (And.intro hm0 (And.intro hm1 (And.intro hm2 hm3))))
              clear M4 hm0 hm1 hm2 hm3
              go_upto_region 23 with fail
              refine wp_region_ord 7 1 [0, 1, 2, 3, 4, 5, 8] [1] [0, 1, 2, 3, 4, 5, 6, 7, 8, 9] (fun w' => ∃ x : Ext w4, w' = x.val) (by kernel_rfl) (by kernel_rfl) (Ext.of (by iterate 25 (first | exact Upd.refl _ _ | assumption | refine Upd.alloc ?_ _ | refine Upd.drew ?_ | refine Upd.drewN ?_ _ | refine Upd.dl ?_ | refine Upd.step ?_ (Ext.upd _) | refine Upd.nil ?_ | skip))) ?_
              repeat (first | (refine wpOrd_load rfl rfl rfl rfl (fun K hK => ?_); go_big_quiet_step (fail); refine wpQuiet_nil ?_; refine hK _ ?_; clear hK K) | (refine wpOrd_free rfl rfl rfl (fun K hK => ?_); go_big_quiet_step (fail); refine wpQuiet_nil ?_; refine hK _ ?_; clear hK K))
              refine wpOrd_fix rfl rfl (fun K hK => ?_)
              go_wp2_with fail
              refine ⟨Ext.of (by iterate 25 (first | exact Upd.refl _ _ | assumption | refine Upd.alloc ?_ _ | refine Upd.drew ?_ | refine Upd.drewN ?_ _ | refine Upd.dl ?_ | refine Upd.step ?_ (Ext.upd _) | refine Upd.nil ?_ | skip)), ?_⟩
              have B6 := Blk.new w4 [.int .i64 (m / 8 % (S.length : Int))] 3
              have U6 := (Upd.refl [] w4).alloc (.cells #[.int .i64 (m / 8 % (S.length : Int))] 3)
              generalize w4.alloc (.cells #[.int .i64 (m / 8 % (S.length : Int))] 3) = w6 at *
              have M6 := (HM4.out.1.ext U6).ext ((Upd.refl [] w6).drew)
              have HM6 := Lib.hid (And.intro M6 (show Blk w6.drew w4.heap.size _ 3 from B6))
              clear M6 U6 B6
              repeat (first | (refine wpOrd_load rfl rfl rfl rfl (fun K hK => ?_); go_big_quiet_step (fail); refine wpQuiet_nil ?_; refine hK _ ?_; clear hK K) | (refine wpOrd_free rfl rfl rfl (fun K hK => ?_); go_big_quiet_step (fail); refine wpQuiet_nil ?_; refine hK _ ?_; clear hK K))
              refine wpOrd_fix rfl rfl (fun K hK => ?_)
              refine wpList_app rfl _ _ _ rfl 3 1 8 _ Try.underlying22 infoInt rfl (by decide) (.slice none 0 0) 0 [] rfl (World.ownsRow_nil _ _ _ _) w4.heap.size 1 1 [.int .i64 (m / 8 % (S.length : Int))] 3 rfl rfl HM6.out.2 (by simp [Value.oneCell']) (by omega) (by unfold maxLen; omega) (by omega) ?_
              intro g9 cap9 w9 o9 u9 k9
              rw [Nat.zero_add] at o9 ⊢
              simp only [Act.put, List.setIfInBounds_toArray, List.set_cons_zero, List.set_cons_succ]
              have hsth := HS4.out.2.2.1
              have M9 := HM6.out.1.push (x := m / 8 % (S.length : Int)) (g9 := g9) (cap9 := cap9) (by rw [hsth]; exact o9) u9 k9 (by have := HM4.out.2.1; have := HM4.out.2.2.1; unfold IsI64; omega)
              rw [hsth, show ([] : List Int).length + 1 = 1 from rfl, List.nil_append] at M9
              obtain ⟨st1, e1⟩ : ∃ s : StepD, s = { st with hints := [m / 8 % (S.length : Int)] } := ⟨_, rfl⟩
              rw [← e1] at M9
              have HS1 := Lib.hid (And.intro (show st1.hints = [m / 8 % (S.length : Int)] by rw [e1]) e1)
              clear e1
              have B9 := HM6.out.1.keep u9
              have c9 := B9.cell (i := 6) rfl
              have f9 := B9.free 6
              have HM9 := Lib.hid M9
              clear M9 B9 o9 u9 k9 hsth
              go_wp2_with fail
              refine ⟨fun hC => absurd hC (by decide), ?_⟩
              repeat (first | (refine wpOrd_load rfl rfl rfl rfl (fun K hK => ?_); go_big_quiet_step (fail); refine wpQuiet_nil ?_; refine hK _ ?_; clear hK K) | (refine wpOrd_free rfl rfl rfl (fun K hK => ?_); go_big_quiet_step (fail); refine wpQuiet_nil ?_; refine hK _ ?_; clear hK K))
              refine wpOrd_fix rfl rfl (fun K hK => ?_)
              go_wp2_with fail
              refine ⟨fun hC => absurd hC (by decide), ?_⟩
              refine wpOrd_nil ?_
              generalize (w9.setCell ⟨wb.heap.size + 2, 6, none⟩ (.slice (some ⟨g9, 0, none⟩) 1 cap9)) = wA at *
              have d6 := HM9.out.blk.cell (i := 6) rfl
              have hgood1 : GoodS L.length S.length { st with hints := [m / 8 % (S.length : Int)] } := by
                obtain ⟨k1, k2, k3, k4, k5, k6, k7⟩ := HS4.out.2.2.2.1
                exact ⟨k1, fun y hy => by simp at hy; subst hy; exact ⟨HM4.out.2.1, HM4.out.2.2.1⟩, k3, k4, k5, k6, by simp⟩
              have hgood2 : GoodS L.length S.length { st with hints := [m / 8 % (S.length : Int)] ++ [m / 256 % (S.length : Int)] } := by
                obtain ⟨k1, k2, k3, k4, k5, k6, k7⟩ := HS4.out.2.2.2.1
                exact ⟨k1, fun y hy => by
                  simp at hy
                  rcases hy with rfl | rfl
                  · exact ⟨HM4.out.2.1, HM4.out.2.2.1⟩
                  · exact ⟨HM4.out.2.2.2.1, HM4.out.2.2.2.2⟩, k3, k4, k5, k6, by simp⟩
              have HG12 := Lib.hid (And.intro hgood1 hgood2)
              clear hgood1 hgood2 c9 f9
              by_cases hbt : (0 : Int) < m / 64 % 3
              · go_upto_region 25 with fail
                refine wp_region_ord 7 1 [0, 1, 2, 3, 4, 5, 8] [1] [0, 1, 2, 3, 4, 5, 6, 7, 8, 9] (fun w' => ∃ x : Ext wA, w' = x.val) (by kernel_rfl) (by kernel_rfl) (Ext.of ((Upd.refl _ _).drew)) ?_
                repeat (first | (refine wpOrd_load rfl rfl rfl rfl (fun K hK => ?_); go_big_quiet_step (fail); refine wpQuiet_nil ?_; refine hK _ ?_; clear hK K) | (refine wpOrd_free rfl rfl rfl (fun K hK => ?_); go_big_quiet_step (fail); refine wpQuiet_nil ?_; refine hK _ ?_; clear hK K))
                refine wpOrd_fix rfl rfl (fun K hK => ?_)
                go_wp2_with fail
                refine ⟨fun _ => Ext.of (((Upd.refl _ _).alloc _).drew), ?_⟩
                clear d6
                have B7 := Blk.new wA [.int .i64 (m / 256 % (S.length : Int))] 3
                have U7 := (Upd.refl [] wA).alloc (.cells #[.int .i64 (m / 256 % (S.length : Int))] 3)
                generalize wA.alloc (.cells #[.int .i64 (m / 256 % (S.length : Int))] 3) = w7 at *
                have M7 := (HM9.out.ext U7).ext ((Upd.refl [] w7).drew)
                have HM7 := Lib.hid (And.intro M7 (show Blk w7.drew wA.heap.size _ 3 from B7))
                clear M7 U7 B7
                have HRW := Lib.hid (show w7.drew.ownsRow 0 3 1 (.slice (some ⟨g9, 0, none⟩) 1 cap9) 1 [.int .i64 (m / 8 % (S.length : Int))] from by
                  have h := HM7.out.1.stf.2.2.1
                  rw [HS1.out.1] at h
                  exact h)
                repeat (first | (refine wpOrd_load rfl rfl rfl rfl (fun K hK => ?_); go_big_quiet_step (fail); refine wpQuiet_nil ?_; refine hK _ ?_; clear hK K) | (refine wpOrd_free rfl rfl rfl (fun K hK => ?_); go_big_quiet_step (fail); refine wpQuiet_nil ?_; refine hK _ ?_; clear hK K))
                refine wpOrd_fix rfl rfl (fun K hK => ?_)
                refine wpList_app rfl _ _ _ rfl 3 1 8 _ Try.underlying22 infoInt rfl (by decide) (.slice (some ⟨g9, 0, none⟩) 1 cap9) 1 [.int .i64 (m / 8 % (S.length : Int))] rfl HRW.out wA.heap.size 1 1 [.int .i64 (m / 256 % (S.length : Int))] 3 rfl rfl HM7.out.2 (by simp [Value.oneCell']) (by omega) (by unfold maxLen; omega) (by omega) ?_
                intro gB capB wB oB uB kB
                simp only [Act.put, List.setIfInBounds_toArray, List.set_cons_zero, List.set_cons_succ]
                have hs1 := HS1.out.1
                have MB := HM7.out.1.push (x := m / 256 % (S.length : Int)) (g9 := gB) (cap9 := capB) (by rw [hs1]; exact oB) uB kB (by have := HM4.out.2.2.2.1; have := HM4.out.2.2.2.2; unfold IsI64; omega)
                have BB := HM7.out.1.keep uB
                have cB := BB.cell (i := 6) rfl
                have fB := BB.free 6
                rw [hs1, show ([m / 8 % (S.length : Int)] : List Int).length + 1 = 1 + 1 from rfl] at MB
                have HMB := Lib.hid MB
                clear MB BB oB uB kB hs1
                go_wp2_with fail
                refine ⟨fun hC => absurd hC (by decide), ?_⟩
                repeat (first | (refine wpOrd_load rfl rfl rfl rfl (fun K hK => ?_); go_big_quiet_step (fail); refine wpQuiet_nil ?_; refine hK _ ?_; clear hK K) | (refine wpOrd_free rfl rfl rfl (fun K hK => ?_); go_big_quiet_step (fail); refine wpQuiet_nil ?_; refine hK _ ?_; clear hK K))
                refine wpOrd_fix rfl rfl (fun K hK => ?_)
                go_wp2_with fail
                refine ⟨fun hC => absurd hC (by decide), ?_⟩
                refine wpOrd_nil ?_
                go_wp2_with fail
                all_goals go_meet
                all_goals case rel => exact ⟨_, vp, vl2, _, HMB.out.blk, HMB.out.stf, by rw [HS1.out.2]; exact HG12.out.2, HMB.out.u⟩
              · go_wp2_with fail
                all_goals go_meet
                all_goals case rel => exact ⟨_, vp, vl2, _, HM9.out.blk, HM9.out.stf, by rw [HS1.out.2]; exact HG12.out.1, HM9.out.u⟩
          case rest =>
            clear HS4 d0 HZ
            obtain ⟨st, vp, vl2, vh, hB, hF, hG, hu⟩ := hcut
            obtain ⟨ap, cp, rfl, _⟩ := hF.1.cells
            obtain ⟨al2, cl2, rfl, _⟩ := hF.2.1.cells
            obtain ⟨ah, ch, rfl, _⟩ := hF.2.2.1.cells
            have d0 := hB.cell (i := 0) rfl
            have d1 := hB.cell (i := 1) rfl
            have d2 := hB.cell (i := 2) rfl
            have d3 := hB.cell (i := 3) rfl
            have d4 := hB.cell (i := 4) rfl
            have d5 := hB.cell (i := 5) rfl
            have d6 := hB.cell (i := 6) rfl
            have bx := H2.out.box.upd hu (by simp)
            have x1 := bx.cell (i := 1) rfl
            obtain ⟨f, o1, o2, o3⟩ := H2.out.st.ext hu
            have H5 := Lib.hid (And.intro hF (And.intro hG (And.intro hu (And.intro o1 (And.intro o2 (And.intro o3 bx))))))
            clear hB hF hG hu o1 o2 o3 bx
            go_wp2_with (refine wpList_push rfl rfl _ _ _ _ rfl rfl rfl 56 7 112 _ Try.underlying28 infoStep rfl (by decide) (by decide) (.agg (stC st (.slice ap st.params.length cp) (.slice al2 st.lits.length cl2) (.slice ah st.hints.length ch)).toArray) (stC st (.slice ap st.params.length cp) (.slice al2 st.lits.length cl2) (.slice ah st.hints.length ch)) rfl rfl rfl (by simp [stC, Value.oneCell']) _ _ _ H5.out.2.2.2.1 rfl rfl (by unfold maxLen; omega) (by omega) ?_; intro gC capC wC oC uC kC; have hfr := H2.out.fresh; have hol := H2.out.uL.size; have BC := H5.out.2.2.2.2.2.2.upd uC (fun hm => by have := hfr _ (by simpa using hm); have := HO.out.1.box.lt; omega); have cC := BC.cell (i := 1) rfl; have fC := BC.free 1; have HC := Lib.hid (And.intro oC (And.intro uC (And.intro kC BC))); clear oC uC kC BC hfr hol)
            have us : Upd [w.heap.size + 1] wC (wC.setCell ⟨w.heap.size + 1, 1, none⟩ (.slice (some ⟨gC, 0, none⟩) (S.length + 1) capC)) := (Upd.refl _ wC).set (.inl (by simp)) _
            have hSt := stL_push H5.out.2.2.2.1 H5.out.2.2.2.2.1 H5.out.2.2.2.2.2.1 (d := st) ⟨_, _, _, rfl, H5.out.1⟩ rfl HC.out.1 HC.out.2.1
            have hol := H2.out.uL.size
            have hol2 := H5.out.2.2.1.size
            have hrl := HO.out.2.lt
            have hbl2 := HO.out.1.box.lt
            have hfr := H2.out.fresh
            refine ⟨⟨S ++ [st], .slice (some ⟨gC, 0, none⟩) (S.length + 1) capC, by rw [List.length_append, List.length_singleton]; go_num, by rw [List.length_append, List.length_singleton]; omega, by rw [List.length_append, List.length_singleton]; omega, HC.out.2.2.2.set 1 _, ?_, hSt.kd (es := [3, 56]) (off_blk HC.out.2.2.2 (by decide)) (by simp) (by simp) us, fun g hg => ?_, fun k s' hs' => ?_, ?_, ?_⟩, by simp [intOf]; omega⟩
            · exact (((H2.out.res.upd H5.out.2.2.1 (by simp)).upd HC.out.2.1 (fun hm => by have := hfr _ (by simpa using hm); omega)).upd us (by simp))
            · simp only [Value.ownBlock, Option.some.injEq] at hg
              subst hg
              rcases HC.out.2.2.1 with h | h
              · exact hfr _ h
              · omega
            · by_cases hk : k < S.length
              · rw [List.getElem?_append_left hk] at hs'
                exact H2.out.good k s' hs'
              · have hl := (List.getElem?_eq_some_iff.1 hs').1
                rw [List.length_append, List.length_singleton] at hl
                obtain rfl : k = S.length := by omega
                rw [List.getElem?_append_right (by omega)] at hs'
                simp at hs'
                subst hs'
                exact H5.out.2.1
            · exact ((H2.out.uL.step H5.out.2.2.1).fresh HC.out.2.1 (fun b hb => .inr (hfr b (by simpa using hb)))).fresh us (fun b hb => .inl hb)
            · exact ((H2.out.uw.step H5.out.2.2.1).fresh HC.out.2.1 (fun b hb => .inr (by have := hfr b (by simpa using hb); have := HO.out.1.u.size; omega))).fresh us (fun b hb => .inr (by simp at hb; omega))
        · have hcs : ¬ (S.length : Int) < l.length ∨ ((S.length : Int) < l.length ∧ ¬ (S.length : Int) < most) := by omega
          have b0 := H2.out.box.cell (i := 0) rfl
          have b1 := H2.out.box.cell (i := 1) rfl
          have r0 := H2.out.res.cell (i := 0) rfl
          have r1 := H2.out.res.cell (i := 1) rfl
          have fr := H2.out.res.free 0
          have fr1 := H2.out.res.free 1
          have hLm : LmL wb (.slice al L.length cl) L := HPL.out.kd (es := [3, 88, 56, 82]) (off_blk HO.out.1.box (by decide)) (by simp) (by simp) (by simp) (by simp) H2.out.uL
          have us : Upd [w.heap.size] wb ((wb.setCell ⟨w.heap.size, 0, none⟩ (.slice al L.length cl)).setCell ⟨w.heap.size, 1, none⟩ (.slice as_ S.length cs)) := ((Upd.refl _ wb).set (.inl (by simp)) _).set (.inl (by simp)) _
          have BR : Blk ((wb.setCell ⟨w.heap.size, 0, none⟩ (.slice al L.length cl)).setCell ⟨w.heap.size, 1, none⟩ (.slice as_ S.length cs)) w.heap.size [.slice al L.length cl, .slice as_ S.length cs] 30 := (H2.out.res.set 0 _).set 1 _
          have HX := Lib.hid (And.intro (hLm.kd (es := [3, 88, 56, 82]) (off_blk H2.out.res (by decide)) (by simp) (by simp) (by simp) (by simp) us) (And.intro (H2.out.st.kd (es := [3, 56]) (off_blk H2.out.res (by decide)) (by simp) (by simp) us) (And.intro (H2.out.uw.fresh us (fun k hk => .inr (by simp at hk; omega))) BR)))
          clear hLm us BR
          have hwf : Wf ⟨L, S⟩ := ⟨by show S.length ≤ 1048576; omega, fun i s hs => (H2.out.good i s hs).hint, fun i s hs => (H2.out.good i s hs).kind, fun i s hs => (H2.out.good i s hs).lem⟩
          have HWF := Lib.hid (show MadeP ⟨L, S⟩ most from ⟨hwf, hSm, fun k st h => H2.out.good k st h, HO.out.1.form, hL2⟩)
          clear hlt2 hwf
          rcases hcs with hcs | ⟨hcs, hcs2⟩
          all_goals
            go_wp2_with fail
            exact ret_rowT rfl rfl HX.out.2.2.2 Try.underlying30 (by kernel_rfl) rfl ⟨_, rfl, ⟨L, S⟩, ⟨_, _, rfl, HX.out.1, HX.out.2.1⟩, HWF.out, HX.out.2.2.1⟩
end
end Trim
end Go.Proofs.Ytnmfihgdedifoaa
