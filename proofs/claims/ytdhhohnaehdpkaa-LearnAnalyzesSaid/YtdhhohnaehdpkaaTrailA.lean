/- What a trail is, in lists and in memory. Conditions: none. -/
import Derived.Test.YtdhhohnaehdpkaaLib
set_option linter.unusedVariables false
set_option linter.unusedSimpArgs false
set_option linter.unusedSectionVars false
open Go.RowKit
namespace Go.Proofs.Ytdhhohnaehdpkaa
open L
namespace Trail

abbrev Es := List (Int × Int)
def decs (es : Es) : Nat := (es.filter fun e => decide (e.2 < 0)).length
def lev (es : Es) (i : Nat) : Nat := decs (es.take (i + 1))
def at_ (es : Es) (i : Nat) : Int × Int := es.getD i (0, 0)
def ent (es : Es) (i : Nat) : List Value := [.int .i64 (at_ es i).1, .int .i64 (lev es i), .int .i64 (at_ es i).2]
def pos (es : Es) (v : Nat) : Nat := ((es.findIdx? fun e => e.1.natAbs == v).map (· + 1)).getD 0
def places (vars : Nat) (es : Es) : List Value := (List.range (vars + 1)).map fun v => .int .i32 (pos es v)
def isLit (vars : Nat) (lit : Int) : Bool := decide (lit ≠ 0 ∧ -(vars : Int) ≤ lit ∧ lit ≤ vars)
def tval (vars : Nat) (es : Es) (lit : Int) : Int :=
  if isLit vars lit = true then (if pos es lit.natAbs = 0 then 0 else if (at_ es (pos es lit.natAbs - 1)).1 = lit then 1 else -1) else 0

structure TWf (vars : Nat) (es : Es) : Prop where
  max : vars ≤ 4194304
  lit : ∀ e ∈ es, 1 ≤ e.1.natAbs ∧ e.1.natAbs ≤ vars
  rsn : ∀ e ∈ es, -1 ≤ e.2 ∧ e.2 ≤ 9223372036854775807
  nodup : (es.map fun e => e.1.natAbs).Nodup

theorem ent_length (es : Es) (i : Nat) : (ent es i).length = 3 := rfl
theorem decs_le (es : Es) : decs es ≤ es.length := List.length_filter_le _ _
theorem places_length (vars : Nat) (es : Es) : (places vars es).length = vars + 1 := by simp [places]
theorem places_get {vars : Nat} {es : Es} {v : Nat} (h : v ≤ vars) : (places vars es)[v]? = some (.int .i32 (pos es v)) := by
  simp [places, List.getElem?_range (show v < vars + 1 by omega)]
theorem pos_le (es : Es) (v : Nat) : pos es v ≤ es.length := by
  unfold pos
  cases h : es.findIdx? (fun e => e.1.natAbs == v) with
  | none => simp
  | some i => have := (List.findIdx?_eq_some_iff_getElem.1 h).1; simp; omega
theorem pos_at {es : Es} {v : Nat} (h : pos es v ≠ 0) : (at_ es (pos es v - 1)).1.natAbs = v ∧ pos es v - 1 < es.length := by
  unfold pos at *
  cases h' : es.findIdx? (fun e => e.1.natAbs == v) with
  | none => rw [h'] at h; simp at h
  | some i =>
    obtain ⟨h1, h2, _⟩ := List.findIdx?_eq_some_iff_getElem.1 h'
    simp only [Option.map_some, Option.getD_some, Nat.add_sub_cancel]
    refine ⟨?_, h1⟩
    unfold at_
    rw [List.getD_eq_getElem?_getD, List.getElem?_eq_getElem h1]
    simpa using h2
theorem pos_zero {es : Es} {v : Nat} : pos es v = 0 ↔ ∀ e ∈ es, e.1.natAbs ≠ v := by
  unfold pos
  cases h : es.findIdx? (fun e => e.1.natAbs == v) with
  | none => simpa using h
  | some i =>
    obtain ⟨h1, h2, _⟩ := List.findIdx?_eq_some_iff_getElem.1 h
    simp only [Option.map_some, Option.getD_some, Nat.add_one_ne_zero, false_iff]
    intro hn
    exact hn _ (List.getElem_mem h1) (by simpa using h2)
/-- Different numbers below n + 1 and above 0: at most n. -/
theorem nodup_le : ∀ (n : Nat) (l : List Nat), l.Nodup → (∀ x ∈ l, 1 ≤ x ∧ x ≤ n) → l.length ≤ n
  | 0, l, _, h => by
    cases l with
    | nil => simp
    | cons x l => have := h x (by simp); omega
  | n + 1, l, hn, h => by
    have h1 := nodup_le n (l.erase (n + 1)) (hn.erase _) (fun x hx => by
      have hm := (hn.mem_erase_iff).1 hx
      have := h x hm.2
      omega)
    have h2 := List.length_erase (a := n + 1) (l := l)
    split at h2 <;> omega
theorem TWf.len {vars : Nat} {es : Es} (h : TWf vars es) : es.length ≤ vars := by
  have := nodup_le vars (es.map fun e => e.1.natAbs) h.nodup (fun x hx => by
    obtain ⟨e, he, rfl⟩ := List.mem_map.1 hx
    exact h.lit e he)
  simpa using this
theorem at_mem {es : Es} {i : Nat} (h : i < es.length) : at_ es i ∈ es := by
  unfold at_; rw [List.getD_eq_getElem?_getD, List.getElem?_eq_getElem h]; simp

/-- The trail at block b: S are its blocks. -/
structure Tr (w : World) (b vars : Nat) (es : Es) (now : Int) (S : List Nat) : Prop where
  wf : TWf vars es
  mem : ∃ pb pcap lv pad, S = b :: pb :: lv.ownBlock.toList ∧ Blk w b [.slice (some ⟨pb, 0, none⟩) (vars + 1) pcap, lv, .int .i64 now] 87 ∧
    Blk w pb (places vars es ++ pad) 21 ∧ vars + 1 + pad.length = pcap ∧ pcap ≤ maxLen ∧ w.ownsRow 0 89 3 lv es.length (rows es.length (ent es)) ∧
    b ≠ pb ∧ lv.ownBlock ≠ some b ∧ lv.ownBlock ≠ some pb

theorem ownsRow_upd {S : List Nat} {w w' : World} {base : Nat} {e : TypeId} {size : Nat} {v : Value} {n : Nat} {xs : List Value} (h : w.ownsRow base e size v n xs) (hu : Upd S w w') (hS : ∀ b ∈ S, v.ownBlock ≠ some b) : w'.ownsRow base e size v n xs := by
  refine ⟨h.1, ?_⟩
  rcases h.2 with h2 | ⟨g, cap, cur, rfl, hb, hg, hr⟩
  · exact .inl h2
  · refine .inr ⟨g, cap, cur, rfl, hb, ?_, hr⟩
    rw [hu.block g (Array.getElem?_eq_some_iff.1 hg).1 (fun hm => hS g hm rfl)]
    exact hg
theorem Tr.upd {w w' : World} {b vars : Nat} {es : Es} {now : Int} {S T : List Nat} (h : Tr w b vars es now S) (hu : Upd T w w') (hd : ∀ k ∈ S, k ∉ T) : Tr w' b vars es now S := by
  obtain ⟨h0, pb, pcap, lv, pad, rfl, h1, h2, h3, h4, h5, h6⟩ := h
  refine ⟨h0, pb, pcap, lv, pad, rfl, h1.upd hu (hd _ (by simp)), h2.upd hu (hd _ (by simp)), h3, h4, ownsRow_upd h5 hu (fun k hk hv => ?_), h6⟩
  exact hd k (by simp [hv]) hk
theorem Tr.ext {w : World} {b vars : Nat} {es : Es} {now : Int} {S : List Nat} (h : Tr w b vars es now S) (x : Ext w) : Tr x.val b vars es now S := h.upd x.property (by simp)
theorem Tr.lt {w : World} {b vars : Nat} {es : Es} {now : Int} {S : List Nat} (h : Tr w b vars es now S) : ∀ k ∈ S, k < w.heap.size := by
  obtain ⟨h0, pb, pcap, lv, pad, rfl, h1, h2, h3, h4, h5, h6⟩ := h
  intro k hk
  simp only [List.mem_cons, Option.mem_toList] at hk
  rcases hk with rfl | rfl | hk
  · exact h1.lt
  · exact h2.lt
  · exact (h5.lt k hk).2
theorem list_cells {w : World} {lv : Value} {es : Es} (h : w.ownsRow 0 89 3 lv es.length (rows es.length (ent es))) (hn : 0 < es.length) :
    ∃ g cap, lv = .slice (some ⟨g, 0, none⟩) es.length cap ∧ es.length ≤ cap ∧ cap ≤ maxLen ∧ ∀ i, i < es.length → w.cell? ⟨g, i * 3, none⟩ = some (.int .i64 (at_ es i).1) ∧
      w.cell? ⟨g, i * 3 + 1, none⟩ = some (.int .i64 (lev es i)) ∧ w.cell? ⟨g, i * 3 + 2, none⟩ = some (.int .i64 (at_ es i).2) := by
  obtain ⟨h1, a, cap, rfl, h2, h3, _, h4⟩ := SL.of_owns h
  rcases h.2 with ⟨he, _⟩ | ⟨g, cap', cur, he, _⟩
  · simp at he; omega
  · simp only [Value.slice.injEq] at he
    obtain ⟨rfl, _, rfl⟩ := he
    refine ⟨g, cap, rfl, h2, h3, fun i hi => ?_⟩
    rcases h4 with h4 | ⟨b, off, hb, h4⟩
    · omega
    · simp only [Option.some.injEq, Addr.mk.injEq, and_true] at hb
      obtain ⟨rfl, rfl⟩ := hb
      have r := fun j hj => rows_get (ent_length es) (i := i) (j := j) hj hi
      have e0 := h4 (i * 3 + 0) _ (r 0 (by omega))
      have e1 := h4 (i * 3 + 1) _ (r 1 (by omega))
      have e2 := h4 (i * 3 + 2) _ (r 2 (by omega))
      simp only [Nat.zero_add, Nat.add_zero] at e0 e1 e2
      exact ⟨e0, e1, e2⟩
theorem pos_snoc (es : Es) (x : Int × Int) (v : Nat) (h : pos es x.1.natAbs = 0) : pos (es ++ [x]) v = if v = x.1.natAbs then es.length + 1 else pos es v := by
  unfold pos
  rw [List.findIdx?_append]
  by_cases hv : v = x.1.natAbs
  · subst hv
    rw [if_pos rfl]
    have : es.findIdx? (fun e => e.1.natAbs == x.1.natAbs) = none := by
      cases h' : es.findIdx? (fun e => e.1.natAbs == x.1.natAbs) with
      | none => rfl
      | some i => unfold pos at h; rw [h'] at h; simp at h
    rw [this]
    simp [List.findIdx?_cons]
  · rw [if_neg hv]
    cases h' : es.findIdx? (fun e => e.1.natAbs == v) with
    | some i => simp
    | none => simp [List.findIdx?_cons, Ne.symm hv]
theorem places_snoc (vars : Nat) (es : Es) (x : Int × Int) (h : pos es x.1.natAbs = 0) :
    places vars (es ++ [x]) = (places vars es).set x.1.natAbs (.int .i32 (es.length + 1 : Nat)) := by
  apply List.ext_getElem?
  intro v
  rw [List.getElem?_set]
  by_cases hv : v ≤ vars
  · rw [places_get hv, pos_snoc es x v h]
    by_cases e : x.1.natAbs = v
    · rw [if_pos e, if_pos e.symm, if_pos (by rw [places_length]; omega)]
    · rw [if_neg e, if_neg (Ne.symm e), places_get hv]
  · have h1 : (places vars (es ++ [x]))[v]? = none := by rw [List.getElem?_eq_none]; rw [places_length]; omega
    have h2 : (places vars es)[v]? = none := by rw [List.getElem?_eq_none]; rw [places_length]; omega
    rw [h1, h2]
    split
    · rw [if_neg (by rw [places_length]; omega)]
    · rfl
theorem at_append {es : Es} {i : Nat} (ys : Es) (h : i < es.length) : at_ (es ++ ys) i = at_ es i := by
  unfold at_; rw [List.getD_eq_getElem?_getD, List.getD_eq_getElem?_getD, List.getElem?_append_left h]
theorem at_snoc (es : Es) (x : Int × Int) : at_ (es ++ [x]) es.length = x := by
  unfold at_; rw [List.getD_eq_getElem?_getD, List.getElem?_append_right (Nat.le_refl _)]; simp
theorem lev_append {es : Es} {i : Nat} (ys : Es) (h : i < es.length) : lev (es ++ ys) i = lev es i := by
  unfold lev; rw [List.take_append_of_le_length (by omega)]
theorem lev_last (es : Es) (x : Int × Int) : lev (es ++ [x]) es.length = decs (es ++ [x]) := by
  unfold lev; rw [List.take_of_length_le (by simp)]
theorem ent_append {es : Es} {i : Nat} (ys : Es) (h : i < es.length) : ent (es ++ ys) i = ent es i := by
  unfold ent; rw [at_append ys h, lev_append ys h]
theorem rows_snoc (es : Es) (x : Int × Int) : rows (es ++ [x]).length (ent (es ++ [x])) = rows es.length (ent es) ++ [.int .i64 x.1, .int .i64 (decs (es ++ [x])), .int .i64 x.2] := by
  rw [List.length_append, List.length_singleton, rows_succ, rows_congr (fun i hi => ent_append [x] hi)]
  unfold ent
  rw [at_snoc, lev_last]
theorem TWf.snoc {vars : Nat} {es : Es} (h : TWf vars es) {x : Int × Int} (hl : isLit vars x.1 = true) (hp : pos es x.1.natAbs = 0) (hr : -1 ≤ x.2 ∧ x.2 ≤ 9223372036854775807) : TWf vars (es ++ [x]) := by
  simp only [isLit, decide_eq_true_eq] at hl
  refine ⟨h.max, ?_, ?_, ?_⟩
  · intro e he
    rcases List.mem_append.1 he with he | he
    · exact h.lit e he
    · simp at he; subst he; omega
  · intro e he
    rcases List.mem_append.1 he with he | he
    · exact h.rsn e he
    · simp at he; subst he; exact hr
  · rw [List.map_append, List.nodup_append]
    refine ⟨h.nodup, by simp, ?_⟩
    intro a ha b hb hab
    simp at hb
    obtain ⟨e, he, rfl⟩ := List.mem_map.1 ha
    exact pos_zero.1 hp e he (hab.trans hb)
/-- The places while literals are taken back. -/
def plz (vars : Nat) (es : Es) (ex : List Nat) : List Value := (List.range (vars + 1)).map fun v => .int .i32 ((if v ∈ ex then 0 else pos es v : Nat) : Int)
theorem plz_nil (vars : Nat) (es : Es) : plz vars es [] = places vars es := by simp [plz, places]
theorem plz_length (vars : Nat) (es : Es) (ex : List Nat) : (plz vars es ex).length = vars + 1 := by simp [plz]
theorem plz_get {vars : Nat} {es : Es} {ex : List Nat} {v : Nat} (h : v ≤ vars) : (plz vars es ex)[v]? = some (.int .i32 ((if v ∈ ex then 0 else pos es v : Nat) : Int)) := by
  simp [plz, List.getElem?_range (show v < vars + 1 by omega)]
theorem plz_set {vars : Nat} {es : Es} {ex : List Nat} {v : Nat} (h : v ≤ vars) : (plz vars es ex).set v (.int .i32 0) = plz vars es (ex ++ [v]) := by
  apply List.ext_getElem?
  intro u
  rw [List.getElem?_set]
  by_cases hu : u ≤ vars
  · have a1 := plz_get (es := es) (ex := ex ++ [v]) hu
    have a2 := plz_get (es := es) (ex := ex) hu
    by_cases e : v = u
    · subst e
      rw [if_pos rfl, if_pos (by rw [plz_length]; omega), a1, if_pos (List.mem_append_right _ (List.mem_singleton.2 rfl))]; rfl
    · rw [if_neg e, a1, a2]; simp [Ne.symm e]
  · have h1 : (plz vars es (ex ++ [v]))[u]? = none := by rw [List.getElem?_eq_none]; rw [plz_length]; omega
    have h2 : (plz vars es ex)[u]? = none := by rw [List.getElem?_eq_none]; rw [plz_length]; omega
    rw [h1, h2, if_neg (by omega)]
theorem TWf.take {vars : Nat} {es : Es} (h : TWf vars es) (n : Nat) : TWf vars (es.take n) :=
  ⟨h.max, fun e he => h.lit e (List.mem_of_mem_take he), fun e he => h.rsn e (List.mem_of_mem_take he), by rw [List.map_take]; exact h.nodup.sublist (List.take_sublist _ _)⟩
theorem pos_take {vars : Nat} {es : Es} (h : TWf vars es) (n v : Nat) : pos (es.take n) v = if v ∈ (es.drop n).map (fun e => e.1.natAbs) then 0 else pos es v := by
  by_cases hm : v ∈ (es.drop n).map (fun e => e.1.natAbs)
  · rw [if_pos hm, pos_zero]
    intro e he hv
    have hn := h.nodup
    rw [← List.take_append_drop n es, List.map_append, List.nodup_append] at hn
    exact hn.2.2 e.1.natAbs (List.mem_map.2 ⟨e, he, rfl⟩) v hm hv
  · rw [if_neg hm]
    unfold pos
    conv => rhs; rw [← List.take_append_drop n es, List.findIdx?_append]
    have : (es.drop n).findIdx? (fun e => e.1.natAbs == v) = none := by
      rw [List.findIdx?_eq_none_iff]
      intro e he
      simp only [beq_eq_false_iff_ne, ne_eq]
      exact fun hv => hm (List.mem_map.2 ⟨e, he, hv⟩)
    rw [this]
    simp
theorem plz_full {vars : Nat} {es : Es} (h : TWf vars es) (n : Nat) : plz vars es ((es.drop n).map fun e => e.1.natAbs) = places vars (es.take n) := by
  unfold plz places
  apply List.map_congr_left
  intro v _
  rw [pos_take h]
theorem lev_take {es : Es} {n i : Nat} (h : i < n) : lev (es.take n) i = lev es i := by
  unfold lev; rw [List.take_take, Nat.min_eq_left (by omega)]
theorem at_take {es : Es} {n i : Nat} (h : i < n) : at_ (es.take n) i = at_ es i := by
  unfold at_; rw [List.getD_eq_getElem?_getD, List.getD_eq_getElem?_getD, List.getElem?_take, if_pos h]
theorem rows_take_ent {es : Es} {n : Nat} (h : n ≤ es.length) : rows (es.take n).length (ent (es.take n)) = (rows es.length (ent es)).take (n * 3) := by
  rw [rows_take (ent_length es) h, List.length_take, Nat.min_eq_left h]
  refine rows_congr fun i hi => ?_
  unfold ent
  rw [at_take hi, lev_take hi]
/-- How many literals have a level of at most 'level'. -/
def undoN (es : Es) (level : Int) : Nat := ((List.range es.length).find? fun i => decide (level < (lev es i : Int))).getD es.length
theorem undoN_le (es : Es) (level : Int) : undoN es level ≤ es.length := by
  unfold undoN
  cases h : (List.range es.length).find? fun i => decide (level < (lev es i : Int)) with
  | none => simp
  | some i => have := List.mem_of_find?_eq_some h; simp at this; simp; omega
theorem undoN_eq {es : Es} {level : Int} {n : Nat} (hn : n ≤ es.length) (h1 : ∀ i, i < n → (lev es i : Int) ≤ level) (h2 : n < es.length → level < (lev es n : Int)) : undoN es level = n := by
  unfold undoN
  cases h : (List.range es.length).find? fun i => decide (level < (lev es i : Int)) with
  | none =>
    rw [List.find?_eq_none] at h
    simp only [Option.getD_none]
    rcases Nat.lt_or_ge n es.length with hlt | hge
    · exact absurd (h2 hlt) (by simpa using h n (by simpa using hlt))
    · omega
  | some i =>
    simp only [Option.getD_some]
    have hm := List.mem_of_find?_eq_some h
    have hp := List.find?_some h
    simp at hm hp
    rcases Nat.lt_or_ge i n with hlt | hge
    · have := h1 i hlt; omega
    · rcases Nat.lt_or_ge n i with hlt | hge'
      · rw [List.find?_range_eq_some] at h
        have := h.2.2 n hlt
        simp at this
        have := h2 (by omega)
        omega
      · omega
theorem decs_append (a b : Es) : decs (a ++ b) = decs a + decs b := by simp [decs, List.filter_append]
theorem decs_take_le (es : Es) (n : Nat) : decs (es.take n) ≤ decs es := by
  conv => rhs; rw [← List.take_append_drop n es, decs_append]
  omega
theorem decs_take_mono (es : Es) {m n : Nat} (h : m ≤ n) : decs (es.take m) ≤ decs (es.take n) := by
  have : es.take m = (es.take n).take m := by rw [List.take_take, Nat.min_eq_left h]
  rw [this]; exact decs_take_le _ _
theorem decs_take_succ (es : Es) (n : Nat) : decs (es.take (n + 1)) ≤ decs (es.take n) + 1 := by
  rw [List.take_add_one, decs_append]
  have h1 : decs es[n]?.toList ≤ es[n]?.toList.length := decs_le _
  have h2 : es[n]?.toList.length ≤ 1 := by cases es[n]? <;> simp
  omega
theorem lev_mono {es : Es} {i j : Nat} (h : i ≤ j) : lev es i ≤ lev es j := decs_take_mono es (by omega)
theorem lev_le (es : Es) (i : Nat) : lev es i ≤ decs es := decs_take_le _ _
theorem undo_decs {es : Es} {level : Int} (h0 : 0 ≤ level) (h1 : level ≤ decs es) : (decs (es.take (undoN es level)) : Int) = level := by
  obtain ⟨n, hn⟩ : ∃ n, n = undoN es level := ⟨_, rfl⟩
  have hle := undoN_le es level
  rw [← hn] at hle ⊢
  have hlow : ∀ i, i < n → (lev es i : Int) ≤ level := by
    intro i hi
    unfold undoN at hn
    cases h : (List.range es.length).find? fun i => decide (level < (lev es i : Int)) with
    | none =>
      rw [List.find?_eq_none] at h
      simpa using h i (by simp; omega)
    | some j =>
      rw [h] at hn
      simp at hn
      subst hn
      rw [List.find?_range_eq_some] at h
      simpa using h.2.2 i hi
  have hhigh : n < es.length → level < (lev es n : Int) := by
    intro hlt
    unfold undoN at hn
    cases h : (List.range es.length).find? fun i => decide (level < (lev es i : Int)) with
    | none => rw [h] at hn; simp at hn; omega
    | some j =>
      rw [h] at hn
      simp at hn
      subst hn
      simpa using List.find?_some h
  have a1 : (decs (es.take n) : Int) ≤ level := by
    cases n with
    | zero => simp [decs]; omega
    | succ m => exact hlow m (by omega)
  have a2 : level ≤ decs (es.take n) := by
    rcases Nat.lt_or_ge n es.length with hlt | hge
    · have := hhigh hlt
      unfold lev at this
      have := decs_take_succ es n
      omega
    · rw [List.take_of_length_le hge]; exact h1
  omega
end Trail
end Go.Proofs.Ytdhhohnaehdpkaa
