/- The strings of an expression: the normal form, the empty string and the derivative keep to them. Conditions: none. Which parts of a string are strings of an expression: as plain data. Conditions: none. Tables of truth values in memory: rows in blocks of their own. Conditions: none. Walks through package regex: the closures of spans, meet. Conditions: none. Walks through package regex: table. Conditions: none. Walks through package regex: repeated. Conditions: none. Walks through package regex: spans. Conditions: none. Walks through package regex: Match. Conditions: none. -/
import Derived.Test.YtjclbjdkkdijbaaGreatRxK
import Derived.Test.YtjclbjdkkdijbaaGreatLib2
import Derived.Test.YtjclbjdkkdijbaaGreatProg
import Derived.Test.YtjclbjdkkdijbaaGreatRxM
import Derived.Test.YtjclbjdkkdijbaaGreatReg
import Derived.Laws.EntriesVeiled
import Derived.Test.YtjclbjdkkdijbaaGreatRxZa
import Derived.Test.YtjclbjdkkdijbaaGreatRxN
import Derived.Test.YtjclbjdkkdijbaaGreatReg3
import Derived.Test.YtjclbjdkkdijbaaGreatRxZc
set_option linter.unusedVariables false
set_option linter.unusedSimpArgs false
set_option linter.unusedSectionVars false
section
namespace Go.Proofs.YtjclbjdkkdijbaaGreat
namespace Rgx
open Rx
def catP : List (List Int → Prop) → List Int → Prop
  | [], w => w = []
  | P :: l, w => ∃ u v, w = u ++ v ∧ P u ∧ catP l v
inductive starP (P : List Int → Prop) : List Int → Prop
  | nil : starP P []
  | app (u v : List Int) : P u → starP P v → starP P (u ++ v)
mutual
/-- The strings of an expression. -/
def Lg : Rx → List Int → Prop
  | nd k lo hi ks => fun w => if k = 1 then w = [] else if k = 2 then ∃ c, w = [c] ∧ lo ≤ c ∧ c ≤ hi else if k = 3 then catP (LgL ks) w else if k = 4 then ∃ P ∈ LgL ks, P w else if k = 5 then ∀ P ∈ LgL ks, P w else if k = 6 then ¬ (LgL ks).headD (fun _ => False) w else if k = 7 then starP ((LgL ks).headD fun _ => False) w else False
def LgL : List Rx → List (List Int → Prop)
  | [] => []
  | r :: l => Lg r :: LgL l
end
theorem LgL_map : ∀ l : List Rx, LgL l = l.map Lg
  | [] => by rw [LgL]; rfl
  | r :: l => by rw [LgL, LgL_map l]; rfl
variable {lo hi : Int} {ks : List Rx} {w : List Int}
theorem Lg0 : Lg (nd 0 lo hi ks) w ↔ False := by rw [Lg]; simp
theorem LgO {k : Int} (h1 : ¬ k = 1) (h2 : ¬ k = 2) (h3 : ¬ k = 3) (h4 : ¬ k = 4) (h5 : ¬ k = 5) (h6 : ¬ k = 6) (h7 : ¬ k = 7) : Lg (nd k lo hi ks) w ↔ False := by rw [Lg]; simp [h1, h2, h3, h4, h5, h6, h7]
theorem Lg1 : Lg (nd 1 lo hi ks) w ↔ w = [] := by rw [Lg]; simp
theorem Lg2 : Lg (nd 2 lo hi ks) w ↔ ∃ c, w = [c] ∧ lo ≤ c ∧ c ≤ hi := by rw [Lg]; simp
theorem Lg3 : Lg (nd 3 lo hi ks) w ↔ catP (ks.map Lg) w := by rw [Lg, LgL_map]; simp
theorem Lg4 : Lg (nd 4 lo hi ks) w ↔ ∃ r ∈ ks, Lg r w := by
  rw [Lg, LgL_map]
  simp
  exact ⟨fun ⟨_, ⟨r, hr, h1⟩, h⟩ => ⟨r, hr, h1 ▸ h⟩, fun ⟨r, hr, h⟩ => ⟨_, ⟨r, hr, rfl⟩, h⟩⟩
theorem Lg5 : Lg (nd 5 lo hi ks) w ↔ ∀ r ∈ ks, Lg r w := by rw [Lg, LgL_map]; simp
theorem LgN : Lg rNone w ↔ False := Lg0
theorem LgE : Lg rEmpty w ↔ w = [] := Lg1
theorem head_Lg : (LgL ks).headD (fun _ => False) = Lg (ks.headD rNone) := by
  rw [LgL_map]
  cases ks with
  | nil => funext w; simp only [List.map_nil, List.headD_nil]; exact propext LgN.symm
  | cons r l => rfl
theorem Lg6 : Lg (nd 6 lo hi ks) w ↔ ¬ Lg (ks.headD rNone) w := by rw [Lg, head_Lg]; simp
theorem Lg7 : Lg (nd 7 lo hi ks) w ↔ starP (Lg (ks.headD rNone)) w := by rw [Lg, head_Lg]; simp
theorem LgA : Lg rAll w ↔ True := by rw [rAll, Lg6]; simp [LgN]
theorem catP_app {A B : List (List Int → Prop)} : ∀ {w}, catP (A ++ B) w ↔ ∃ u v, w = u ++ v ∧ catP A u ∧ catP B v := by
  induction A with
  | nil =>
    intro w
    rw [List.nil_append]
    constructor
    · exact fun h => ⟨[], w, rfl, rfl, h⟩
    · rintro ⟨u, v, rfl, hu, h⟩
      rw [catP] at hu
      subst hu
      exact h
  | cons P l ih =>
    intro w
    simp only [List.cons_append, catP]
    constructor
    · rintro ⟨u, v, rfl, hp, h⟩
      obtain ⟨x, y, rfl, h1, h2⟩ := ih.1 h
      exact ⟨u ++ x, y, by simp, ⟨u, x, rfl, hp, h1⟩, h2⟩
    · rintro ⟨_, y, rfl, ⟨u, x, rfl, hp, h1⟩, h2⟩
      exact ⟨u, x ++ y, by simp, hp, ih.2 ⟨x, y, rfl, h1, h2⟩⟩
theorem catP_one {P : List Int → Prop} : catP [P] w ↔ P w := by
  simp only [catP]
  constructor
  · rintro ⟨u, v, rfl, h, rfl⟩; simpa using h
  · exact fun h => ⟨w, [], by simp, h, rfl⟩
/-- Kids of the same kind as their parent may be replaced by their kids. -/
theorem cat_flat : ∀ (ks : List Rx) {w : List Int}, catP ((flat 3 ks).map Lg) w ↔ catP (ks.map Lg) w := by
  intro ks
  induction ks with
  | nil => intro w; exact Iff.rfl
  | cons r l ih =>
    intro w
    have e : flat 3 (r :: l) = (if r.kind = 3 then r.kids else [r]) ++ flat 3 l := by unfold flat; rw [List.flatMap_cons]
    have hr : ∀ {u}, catP ((if r.kind = 3 then r.kids else [r]).map Lg) u ↔ Lg r u := fun {u} => by
      split
      · rename_i h
        obtain ⟨k, lo, hi, ks⟩ := r
        simp only [Rx.kind] at h
        subst h
        exact Lg3.symm
      · exact catP_one
    rw [e, List.map_append, catP_app, List.map_cons, catP]
    constructor
    · rintro ⟨u, v, rfl, h1, h2⟩; exact ⟨u, v, rfl, hr.1 h1, ih.1 h2⟩
    · rintro ⟨u, v, rfl, h1, h2⟩; exact ⟨u, v, rfl, hr.2 h1, ih.2 h2⟩
theorem cat_filter : ∀ (ks : List Rx) {w : List Int}, catP ((ks.filter fun r => decide (r ≠ rEmpty)).map Lg) w ↔ catP (ks.map Lg) w := by
  intro ks
  induction ks with
  | nil => intro w; exact Iff.rfl
  | cons r l ih =>
    intro w
    by_cases h : r = rEmpty
    · subst h
      rw [List.filter_cons_of_neg (by simp), ih, List.map_cons, catP]
      constructor
      · exact fun h => ⟨[], w, rfl, LgE.2 rfl, h⟩
      · rintro ⟨u, v, rfl, h1, h2⟩; rw [LgE.1 h1]; exact h2
    · rw [List.filter_cons_of_pos (by simpa using h), List.map_cons, List.map_cons, catP, catP]
      constructor
      · rintro ⟨u, v, rfl, h1, h2⟩; exact ⟨u, v, rfl, h1, ih.1 h2⟩
      · rintro ⟨u, v, rfl, h1, h2⟩; exact ⟨u, v, rfl, h1, ih.2 h2⟩
theorem cat_none : ∀ {ks : List Rx}, rNone ∈ ks → ∀ {w}, ¬ catP (ks.map Lg) w := by
  intro ks
  induction ks with
  | nil => intro h; simp at h
  | cons r l ih =>
    intro h w hc
    rw [List.map_cons, catP] at hc
    obtain ⟨u, v, rfl, h1, h2⟩ := hc
    rcases List.mem_cons.1 h with rfl | h
    · exact LgN.1 h1
    · exact ih h h2
theorem alt_flat {ks : List Rx} : (∃ r ∈ flat 4 ks, Lg r w) ↔ ∃ r ∈ ks, Lg r w := by
  constructor
  · rintro ⟨x, hx, hl⟩
    obtain ⟨r, hr, h | h⟩ := flat_mem.1 hx
    · refine ⟨r, hr, ?_⟩
      obtain ⟨k, lo, hi, ks⟩ := r
      obtain ⟨h1, h2⟩ := h
      simp only [Rx.kind] at h1
      subst h1
      exact Lg4.2 ⟨x, h2, hl⟩
    · rw [h.2] at hl; exact ⟨r, hr, hl⟩
  · rintro ⟨r, hr, hl⟩
    by_cases hk : r.kind = 4
    · obtain ⟨k, lo, hi, ks2⟩ := r
      simp only [Rx.kind] at hk
      subst hk
      obtain ⟨x, hx, h⟩ := Lg4.1 hl
      exact ⟨x, flat_mem.2 ⟨_, hr, .inl ⟨rfl, hx⟩⟩, h⟩
    · exact ⟨r, flat_mem.2 ⟨r, hr, .inr ⟨hk, rfl⟩⟩, hl⟩
theorem all_flat {ks : List Rx} : (∀ r ∈ flat 5 ks, Lg r w) ↔ ∀ r ∈ ks, Lg r w := by
  constructor
  · intro h r hr
    by_cases hk : r.kind = 5
    · obtain ⟨k, lo, hi, ks2⟩ := r
      simp only [Rx.kind] at hk
      subst hk
      exact Lg5.2 fun x hx => h x (flat_mem.2 ⟨_, hr, .inl ⟨rfl, hx⟩⟩)
    · exact h r (flat_mem.2 ⟨r, hr, .inr ⟨hk, rfl⟩⟩)
  · intro h x hx
    obtain ⟨r, hr, h1 | h1⟩ := flat_mem.1 hx
    · have hl := h r hr
      obtain ⟨k, lo, hi, ks⟩ := r
      obtain ⟨h1, h2⟩ := h1
      simp only [Rx.kind] at h1
      subst h1
      exact Lg5.1 hl x h2
    · rw [h1.2]; exact h r hr
theorem join3_Lg : Lg (joinE 3 rEmpty rNone ks) w ↔ catP (ks.map Lg) w := by
  rw [joinE_eq _ _ _ _ (by decide)]
  split
  · rename_i h
    rw [LgN, ← cat_flat]
    exact ⟨False.elim, cat_none h⟩
  · have e : catP ((joinL 3 rEmpty ks).map Lg) w ↔ catP (ks.map Lg) w := by
      unfold joinL
      rw [if_pos rfl, cat_filter, cat_flat]
    rw [← e]
    rcases pickE_cases (k := 3) (unit := rEmpty) (l := joinL 3 rEmpty ks) with ⟨h1, h2⟩ | ⟨x, h1, h2⟩ | ⟨_, h2⟩
    · rw [h2, h1, LgE]; rfl
    · rw [h2, h1, List.map_cons, List.map_nil, catP_one]
    · rw [h2, Lg3]
theorem join4_Lg : Lg (joinE 4 rNone rAll ks) w ↔ ∃ r ∈ ks, Lg r w := by
  rw [joinE_eq _ _ _ _ (by decide)]
  split
  · rename_i h
    rw [LgA, ← alt_flat]
    exact ⟨fun _ => ⟨_, h, LgA.2 trivial⟩, fun _ => trivial⟩
  · have e : (∃ r ∈ joinL 4 rNone ks, Lg r w) ↔ ∃ r ∈ ks, Lg r w := by
      refine Iff.trans ?_ alt_flat
      constructor
      · rintro ⟨r, hr, h⟩; exact ⟨r, (joinL_mem.1 hr).1, h⟩
      · rintro ⟨r, hr, h⟩; exact ⟨r, joinL_mem.2 ⟨hr, fun e => LgN.1 (e ▸ h)⟩, h⟩
    rw [← e]
    rcases pickE_cases (k := 4) (unit := rNone) (l := joinL 4 rNone ks) with ⟨h1, h2⟩ | ⟨x, h1, h2⟩ | ⟨_, h2⟩
    · rw [h2, h1, LgN]; simp
    · rw [h2, h1]; simp
    · rw [h2, Lg4]
theorem join5_Lg : Lg (joinE 5 rAll rNone ks) w ↔ ∀ r ∈ ks, Lg r w := by
  rw [joinE_eq _ _ _ _ (by decide)]
  split
  · rename_i h
    rw [LgN, ← all_flat]
    exact ⟨False.elim, fun h2 => LgN.1 (h2 _ h)⟩
  · have e : (∀ r ∈ joinL 5 rAll ks, Lg r w) ↔ ∀ r ∈ ks, Lg r w := by
      refine Iff.trans ?_ all_flat
      constructor
      · intro h r hr
        by_cases hu : r = rAll
        · rw [hu]; exact LgA.2 trivial
        · exact h r (joinL_mem.2 ⟨hr, hu⟩)
      · exact fun h r hr => h r (joinL_mem.1 hr).1
    rw [← e]
    rcases pickE_cases (k := 5) (unit := rAll) (l := joinL 5 rAll ks) with ⟨h1, h2⟩ | ⟨x, h1, h2⟩ | ⟨_, h2⟩
    · rw [h2, h1, LgA]; simp
    · rw [h2, h1]; simp
    · rw [h2, Lg5]
theorem starP_mono {P Q : List Int → Prop} (h : ∀ w, P w → Q w) {w : List Int} (hs : starP P w) : starP Q w := by
  induction hs with
  | nil => exact .nil
  | app u v hu _ ih => exact .app u v (h u hu) ih
theorem starP_app {P : List Int → Prop} {u v : List Int} (h1 : starP P u) (h2 : starP P v) : starP P (u ++ v) := by
  induction h1 with
  | nil => exact h2
  | app a b ha _ ih => rw [List.append_assoc]; exact .app a _ ha ih
theorem starP_one {P : List Int → Prop} {u : List Int} (h : P u) : starP P u := by
  have := starP.app u [] h .nil
  simpa using this
theorem starP_star {P : List Int → Prop} {w : List Int} : starP (starP P) w ↔ starP P w := by
  constructor
  · intro h
    induction h with
    | nil => exact .nil
    | app u v hu _ ih => exact starP_app hu ih
  · exact starP_one
theorem starP_few {P : List Int → Prop} (h : ∀ w, P w → w = []) {w : List Int} : starP P w ↔ w = [] := by
  constructor
  · intro hs
    induction hs with
    | nil => rfl
    | app u v hu _ ih => rw [h u hu, ih]; rfl
  · rintro rfl; exact .nil
/-- The normal form of a node has the same strings. -/
theorem form_Lg (k lo hi : Int) (ks : List Rx) {w : List Int} : Lg (form (nd k lo hi ks)) w ↔ Lg (nd k lo hi ks) w := by
  simp only [form]
  split
  · rename_i h; subst h; rw [join3_Lg, Lg3]
  split
  · rename_i h; subst h; rw [join4_Lg, Lg4]
  split
  · rename_i h; subst h; rw [join5_Lg, Lg5]
  split
  · rename_i h
    subst h
    split
    · rename_i h
      rw [Lg6]
      generalize ks.headD rNone = x at *
      obtain ⟨k2, lo2, hi2, ks2⟩ := x
      simp only [Rx.kind] at h
      subst h
      rw [Lg6, Rx.kids, Classical.not_not]
    · exact Iff.rfl
  split
  · rename_i h
    subst h
    rw [Lg7]
    generalize hx : ks.headD rNone = x
    split
    · rename_i h
      rw [LgE, starP_few]
      intro u hu
      obtain ⟨k2, lo2, hi2, ks2⟩ := x
      simp only [Rx.kind] at h
      rcases h with rfl | rfl
      · exact (Lg0.1 hu).elim
      · exact Lg1.1 hu
    · split
      · rename_i h
        rcases h with h | h
        · obtain ⟨k2, lo2, hi2, ks2⟩ := x
          simp only [Rx.kind] at h
          subst h
          have e : Lg (nd 7 lo2 hi2 ks2) = starP (Lg (ks2.headD rNone)) := by funext u; exact propext Lg7
          rw [e, starP_star]
        · rw [h]; exact ⟨starP_one, fun _ => LgA.2 trivial⟩
      · rw [Lg7, hx]
  · exact Iff.rfl
theorem Lg_congr {k lo hi : Int} {ks ms : List Rx} (h : ms.map Lg = ks.map Lg) : Lg (nd k lo hi ms) = Lg (nd k lo hi ks) := by
  funext u
  rw [Lg, Lg, LgL_map, LgL_map, h]
/-- The normal form has the same strings. -/
theorem norm_Lg (r : Rx) : Lg (norm r) = Lg r := by
  induction r using Rx.ind with
  | h k lo hi ks ih =>
    have e : (normL ks).map Lg = ks.map Lg := by
      rw [normL_map, List.map_map]
      exact List.map_congr_left fun x hx => ih x hx
    rw [norm]
    funext u
    rw [show Lg (form (nd k lo hi (normL ks))) u = Lg (nd k lo hi (normL ks)) u from propext (form_Lg k lo hi _), Lg_congr e]
theorem catP_nil : ∀ {L : List (List Int → Prop)}, catP L [] ↔ ∀ P ∈ L, P []
  | [] => by simp [catP]
  | P :: L => by
    rw [catP]
    constructor
    · rintro ⟨u, v, h, h1, h2⟩
      have h := h.symm
      rw [List.append_eq_nil_iff] at h
      obtain ⟨rfl, rfl⟩ := h
      intro Q hQ
      rcases List.mem_cons.1 hQ with rfl | hQ
      · exact h1
      · exact catP_nil.1 h2 Q hQ
    · exact fun h => ⟨[], [], rfl, h P (by simp), catP_nil.2 fun Q hQ => h Q (by simp [hQ])⟩
/-- The empty string. -/
theorem nul_Lg {r : Rx} (h : NF r) : nul r = true ↔ Lg r [] := by
  induction h with
  | none => rw [Lg0, nul]; simp
  | empty => rw [Lg1, nul]; simp
  | range lo hi h1 => rw [Lg2, nul]; simp
  | cat ks h1 h2 h3 ih => rw [Lg3, catP_nil, nul, nulL_map]; simpa using ⟨fun h x hx => (ih x hx).1 (h x hx), fun h x hx => (ih x hx).2 (h x hx)⟩
  | alt ks h1 h2 h3 h4 ih => rw [Lg4, nul, nulL_map]; simpa using ⟨fun ⟨x, hx, h⟩ => ⟨x, hx, (ih x hx).1 h⟩, fun ⟨x, hx, h⟩ => ⟨x, hx, (ih x hx).2 h⟩⟩
  | all ks h1 h2 h3 h4 ih => rw [Lg5, nul, nulL_map]; simpa using ⟨fun h x hx => (ih x hx).1 (h x hx), fun h x hx => (ih x hx).2 (h x hx)⟩
  | not x h1 h2 ih =>
    rw [Lg6, nul]
    simp only [nulL, List.headD_cons]
    rw [← ih]; simp
  | star x h1 h2 h3 h4 h5 ih => rw [Lg7, nul]; simpa using starP.nil
theorem starP_cons {P : List Int → Prop} {c : Int} {w : List Int} : starP P (c :: w) ↔ ∃ u v, w = u ++ v ∧ P (c :: u) ∧ starP P v := by
  constructor
  · intro h
    generalize hz : c :: w = z at h
    induction h with
    | nil => cases hz
    | app u v hu hv ih =>
      cases u with
      | nil => exact ih (by simpa using hz)
      | cons d u =>
        rw [List.cons_append, List.cons.injEq] at hz
        obtain ⟨rfl, rfl⟩ := hz
        exact ⟨u, v, rfl, hu, hv⟩
  · rintro ⟨u, v, rfl, h1, h2⟩
    exact starP.app (c :: u) v h1 h2
theorem derC_Lg {c : Int} : ∀ {ks : List Rx}, (∀ r ∈ ks, ∀ w, Lg (der c r) w ↔ Lg r (c :: w)) → (∀ r ∈ ks, nul r = true ↔ Lg r []) → ∀ {w}, (∃ r ∈ derC c ks, Lg r w) ↔ catP (ks.map Lg) (c :: w)
  | [], _, _, w => by simp [derC, catP]
  | r :: l, h1, h2, w => by
    have ih := derC_Lg (ks := l) (fun x hx => h1 x (by simp [hx])) (fun x hx => h2 x (by simp [hx])) (w := w)
    have e : (∃ x ∈ derC c (r :: l), Lg x w) ↔ catP (Lg (der c r) :: l.map Lg) w ∨ (Lg r [] ∧ catP (l.map Lg) (c :: w)) := by
      rw [← ih, ← h2 r (by simp), derC]
      have e3 : Lg (form (nd 3 0 0 (der c r :: l))) w ↔ catP (Lg (der c r) :: l.map Lg) w := by rw [form_Lg, Lg3, List.map_cons]
      constructor
      · rintro ⟨x, hx, h⟩
        rcases List.mem_cons.1 hx with rfl | hx
        · exact .inl (e3.1 h)
        · split at hx
          · rename_i hn; exact .inr ⟨hn, x, hx, h⟩
          · simp at hx
      · rintro (h | ⟨hn, x, hx, h⟩)
        · exact ⟨_, List.mem_cons_self, e3.2 h⟩
        · exact ⟨x, List.mem_cons_of_mem _ (by rw [if_pos hn]; exact hx), h⟩
    rw [e, List.map_cons, catP, catP]
    constructor
    · rintro (⟨u, v, rfl, h3, h4⟩ | ⟨h3, h4⟩)
      · exact ⟨c :: u, v, rfl, (h1 r (by simp) u).1 h3, h4⟩
      · exact ⟨[], c :: w, rfl, h3, h4⟩
    · rintro ⟨u, v, hz, h3, h4⟩
      cases u with
      | nil => rw [List.nil_append] at hz; subst hz; exact .inr ⟨h3, h4⟩
      | cons d u =>
        rw [List.cons_append, List.cons.injEq] at hz
        obtain ⟨rfl, rfl⟩ := hz
        exact .inl ⟨u, v, rfl, (h1 r (by simp) u).2 h3, h4⟩
/-- What follows a byte. -/
theorem der_Lg {r : Rx} (h : NF r) (c : Int) : ∀ w, Lg (der c r) w ↔ Lg r (c :: w) := by
  induction h with
  | none => intro w; rw [der, Lg0]; simp [LgN]
  | empty => intro w; rw [der, Lg1]; simp [LgN]
  | range lo hi h1 h2 h3 =>
    intro w
    rw [der, if_pos rfl, Lg2]
    split
    · rename_i h; rw [LgE]; constructor
      · rintro rfl; exact ⟨c, rfl, h⟩
      · rintro ⟨d, hd, _⟩; simpa using (List.cons.inj hd).2
    · rename_i h; rw [LgN]; constructor
      · exact False.elim
      · rintro ⟨d, hd, h4⟩; rw [(List.cons.inj hd).1] at h; exact h h4
  | cat ks h1 h2 h3 ih =>
    intro w
    rw [der, if_neg (by decide), if_pos rfl, form_Lg, Lg4, Lg3]
    exact derC_Lg ih (fun x hx => nul_Lg (h2 x hx))
  | alt ks h1 h2 h3 h4 ih =>
    intro w
    rw [der, if_neg (by decide), if_neg (by decide), if_pos (by decide), form_Lg, derL_map, Lg4, Lg4]
    constructor
    · rintro ⟨y, hy, h⟩
      obtain ⟨x, hx, rfl⟩ := List.mem_map.1 hy
      exact ⟨x, hx, (ih x hx w).1 h⟩
    · rintro ⟨x, hx, h⟩
      exact ⟨_, List.mem_map.2 ⟨x, hx, rfl⟩, (ih x hx w).2 h⟩
  | all ks h1 h2 h3 h4 ih =>
    intro w
    rw [der, if_neg (by decide), if_neg (by decide), if_pos (by decide), form_Lg, derL_map, Lg5, Lg5]
    constructor
    · exact fun h x hx => (ih x hx w).1 (h _ (List.mem_map.2 ⟨x, hx, rfl⟩))
    · intro h y hy
      obtain ⟨x, hx, rfl⟩ := List.mem_map.1 hy
      exact (ih x hx w).2 (h x hx)
  | not x h1 h2 ih =>
    intro w
    rw [der, if_neg (by decide), if_neg (by decide), if_pos (by decide), form_Lg, derL_map, Lg6, Lg6]
    exact not_congr (ih w)
  | star x h1 h2 h3 h4 h5 ih =>
    intro w
    rw [der, if_neg (by decide), if_neg (by decide), if_neg (by decide), if_pos rfl, form_Lg, derL_map, Lg3, Lg7, starP_cons]
    simp only [List.map_cons, List.map_nil, List.take_succ_cons, List.take_zero, List.cons_append, List.nil_append, List.headD_cons]
    rw [catP]
    constructor
    · rintro ⟨u, v, rfl, h6, h7⟩; exact ⟨u, v, rfl, (ih u).1 h6, Lg7.1 (catP_one.1 h7)⟩
    · rintro ⟨u, v, rfl, h6, h7⟩; exact ⟨u, v, rfl, (ih u).2 h6, catP_one.2 (Lg7.2 h7)⟩
theorem catP_map {f : Int → Int} : ∀ {L : List (List Int → Prop)} {w : List Int}, (∀ P ∈ L, ∀ u, (∀ c ∈ u, c ∈ w) → (P (u.map f) ↔ P u)) → (catP L (w.map f) ↔ catP L w)
  | [], w, _ => by simp [catP]
  | P :: L, w, h => by
    rw [catP, catP]
    constructor
    · rintro ⟨u, v, hz, h1, h2⟩
      obtain ⟨u1, v1, rfl, rfl, rfl⟩ := List.map_eq_append_iff.1 hz
      exact ⟨u1, v1, rfl, (h P (by simp) u1 fun c hc => by simp [hc]).1 h1, (catP_map fun Q hQ u hu => h Q (by simp [hQ]) u fun c hc => by simp [hu c hc]).1 h2⟩
    · rintro ⟨u1, v1, rfl, h1, h2⟩
      exact ⟨u1.map f, v1.map f, by simp, (h P (by simp) u1 fun c hc => by simp [hc]).2 h1, (catP_map fun Q hQ u hu => h Q (by simp [hQ]) u fun c hc => by simp [hu c hc]).2 h2⟩
theorem starP_map {f : Int → Int} {P : List Int → Prop} {w : List Int} (h : ∀ u, (∀ c ∈ u, c ∈ w) → (P (u.map f) ↔ P u)) : starP P (w.map f) ↔ starP P w := by
  constructor
  · intro hs
    generalize hz : w.map f = z at hs
    induction hs generalizing w with
    | nil =>
      have : w = [] := by simpa using hz
      subst this; exact .nil
    | app u v hu hv ih =>
      obtain ⟨u1, v1, rfl, rfl, rfl⟩ := List.map_eq_append_iff.1 hz
      exact .app u1 v1 ((h u1 fun c hc => by simp [hc]).1 hu) (ih (fun u h3 => h u fun c hc => by simp [h3 c hc]) rfl)
  · intro hs
    induction hs with
    | nil => exact .nil
    | app u v hu hv ih =>
      rw [List.map_append]
      exact .app _ _ ((h u fun c hc => by simp [hc]).2 hu) (ih fun x h3 => h x fun c hc => by simp [h3 c hc])
/-- Bytes between the same cuts stand for one another. -/
theorem Lg_resp {f : Int → Int} (hf : ∀ c, 0 ≤ c → c ≤ 255 → f c ≤ 255) : ∀ (r : Rx), Byt r → (∀ x ∈ cutB r, ∀ c, 0 ≤ c → c ≤ 255 → (x ≤ f c ↔ x ≤ c)) → ∀ w : List Int, (∀ c ∈ w, 0 ≤ c ∧ c ≤ 255) → (Lg r (w.map f) ↔ Lg r w) := by
  intro r
  induction r using Rx.ind with
  | h k lo hi ks ih =>
    intro hb hcut w hw
    cases hb with
    | mk _ _ _ _ b1 b2 b3 b4 b5 =>
    have ihk : ∀ r ∈ ks, ∀ u, (∀ c ∈ u, c ∈ w) → (Lg r (u.map f) ↔ Lg r u) := fun r hr u hu =>
      ih r hr (b5 r hr) (fun x hx => hcut x (by rw [cutB]; exact List.mem_append_right _ (cutL_mem.2 ⟨r, hr, hx⟩))) u fun c hc => hw c (hu c hc)
    have ihh : ∀ u, (∀ c ∈ u, c ∈ w) → (Lg (ks.headD rNone) (u.map f) ↔ Lg (ks.headD rNone) u) := by
      cases ks with
      | nil => intro u _; exact ⟨fun h => (LgN.1 h).elim, fun h => (LgN.1 h).elim⟩
      | cons x l => exact ihk x (by simp)
    by_cases h1 : k = 1
    · subst h1; rw [Lg1, Lg1]; simp
    by_cases h2 : k = 2
    · subst h2
      rw [Lg2, Lg2]
      have hlo : ∀ c, 0 ≤ c → c ≤ 255 → (lo ≤ f c ↔ lo ≤ c) := hcut lo (by rw [cutB]; simp)
      have hhi : ∀ c, 0 ≤ c → c ≤ 255 → (f c ≤ hi ↔ c ≤ hi) := fun c h0 h9 => by
        by_cases h3 : hi < 255
        · have := hcut (hi + 1) (by rw [cutB]; simp [h3]) c h0 h9
          omega
        · have := hf c h0 h9; omega
      constructor
      · rintro ⟨c, hc, h3⟩
        obtain ⟨d, rfl, rfl⟩ := List.map_eq_singleton_iff.1 hc
        have hd := hw d (by simp)
        exact ⟨d, rfl, (hlo d hd.1 hd.2).1 h3.1, (hhi d hd.1 hd.2).1 h3.2⟩
      · rintro ⟨d, rfl, h3⟩
        have hd := hw d (by simp)
        exact ⟨f d, rfl, (hlo d hd.1 hd.2).2 h3.1, (hhi d hd.1 hd.2).2 h3.2⟩
    by_cases h3 : k = 3
    · subst h3; rw [Lg3, Lg3]; exact catP_map fun P hP u hu => by
        obtain ⟨r, hr, rfl⟩ := List.mem_map.1 hP
        exact ihk r hr u hu
    by_cases h4 : k = 4
    · subst h4; rw [Lg4, Lg4]; exact ⟨fun ⟨x, hx, h⟩ => ⟨x, hx, (ihk x hx w fun _ h => h).1 h⟩, fun ⟨x, hx, h⟩ => ⟨x, hx, (ihk x hx w fun _ h => h).2 h⟩⟩
    by_cases h5 : k = 5
    · subst h5; rw [Lg5, Lg5]; exact ⟨fun h x hx => (ihk x hx w fun _ h => h).1 (h x hx), fun h x hx => (ihk x hx w fun _ h => h).2 (h x hx)⟩
    by_cases h6 : k = 6
    · subst h6; rw [Lg6, Lg6]; exact not_congr (ihh w fun _ h => h)
    by_cases h7 : k = 7
    · subst h7; rw [Lg7, Lg7]; exact starP_map ihh
    · rw [LgO h1 h2 h3 h4 h5 h6 h7, LgO h1 h2 h3 h4 h5 h6 h7]
end Rgx
end Go.Proofs.YtjclbjdkkdijbaaGreat
end
section
namespace Go.Proofs.YtjclbjdkkdijbaaGreat
namespace Rgx
open Rx
/-- The part of a string from i to j. -/
def seg (w : List Int) (i j : Nat) : List Int := (w.drop i).take (j - i)
section
variable {w : List Int} {i j m : Nat}
theorem seg_len (h1 : i ≤ j) (h2 : j ≤ w.length) : (seg w i j).length = j - i := by unfold seg; rw [List.length_take, List.length_drop]; omega
theorem seg_all (w : List Int) : seg w 0 w.length = w := by unfold seg; simp
theorem seg_nil (h1 : i ≤ j) (h2 : j ≤ w.length) : seg w i j = [] ↔ i = j := by
  rw [← List.length_eq_zero_iff, seg_len h1 h2]; omega
theorem seg_app (h1 : i ≤ m) (h2 : m ≤ j) : seg w i m ++ seg w m j = seg w i j := by
  unfold seg
  have e : j - i = (m - i) + (j - m) := by omega
  rw [e, List.take_add, List.drop_drop]
  congr 3
  omega
theorem seg_split {u v : List Int} (h1 : i ≤ j) (h2 : j ≤ w.length) (h : seg w i j = u ++ v) : ∃ m, i ≤ m ∧ m ≤ j ∧ u = seg w i m ∧ v = seg w m j := by
  have hl := seg_len h1 h2
  rw [h, List.length_append] at hl
  have e := seg_app (w := w) (i := i) (m := i + u.length) (j := j) (by omega) (by omega)
  rw [h] at e
  have := List.append_inj e (by rw [seg_len (by omega) (by omega)]; omega)
  exact ⟨i + u.length, by omega, by omega, this.1.symm, this.2.symm⟩
theorem seg_cons (h1 : i < j) (h2 : j ≤ w.length) : seg w i j = w.getD i 0 :: seg w (i + 1) j := by
  have hi : i < w.length := by omega
  unfold seg
  rw [List.drop_eq_getElem_cons hi, List.getD_eq_getElem?_getD, List.getElem?_eq_getElem hi]
  have e : j - i = (j - (i + 1)) + 1 := by omega
  rw [e, List.take_succ_cons]
  rfl
theorem seg_one {c : Int} (h1 : i ≤ j) (h2 : j ≤ w.length) : seg w i j = [c] ↔ j = i + 1 ∧ w.getD i 0 = c := by
  constructor
  · intro h
    have hl := seg_len h1 h2
    rw [h] at hl
    have hj : j = i + 1 := by simp at hl; omega
    rw [seg_cons (by omega) h2] at h
    exact ⟨hj, (List.cons.inj h).1⟩
  · rintro ⟨rfl, rfl⟩
    rw [seg_cons (by omega) h2, (seg_nil (Nat.le_refl _) h2).2 rfl]
/-- A table that says which parts have a property. -/
def Sp (P : List Int → Prop) (w : List Int) (T : Nat → Nat → Bool) : Prop := ∀ i j, i ≤ j → j ≤ w.length → (T i j = true ↔ P (seg w i j))
def eqT (i j : Nat) : Bool := decide (i = j)
def meetT (a b : Nat → Nat → Bool) (i j : Nat) : Bool := (List.range (j + 1)).any fun m => decide (i ≤ m) && (a i m && b m j)
theorem meetT_iff {a b : Nat → Nat → Bool} : meetT a b i j = true ↔ ∃ m, i ≤ m ∧ m ≤ j ∧ a i m = true ∧ b m j = true := by
  unfold meetT
  rw [List.any_eq_true]
  constructor
  · rintro ⟨m, hm, h⟩
    simp at hm h
    exact ⟨m, h.1, by omega, h.2.1, h.2.2⟩
  · rintro ⟨m, h1, h2, h3, h4⟩
    exact ⟨m, by simp; omega, by simp [h1, h3, h4]⟩
variable {P : List Int → Prop} {T a b : Nat → Nat → Bool}
theorem Sp.congr {Q : List Int → Prop} (h : Sp P w T) (e : ∀ u, P u ↔ Q u) : Sp Q w T := fun i j h1 h2 => (h i j h1 h2).trans (e _)
theorem Sp.none {lo hi : Int} {ks : List Rx} : Sp (Lg (nd 0 lo hi ks)) w (fun _ _ => false) := fun i j _ _ => by rw [Lg0]; simp
theorem Sp.empty {lo hi : Int} {ks : List Rx} : Sp (Lg (nd 1 lo hi ks)) w eqT := fun i j h1 h2 => by rw [Lg1, seg_nil h1 h2]; simp [eqT]
theorem Sp.eq0 : Sp (catP []) w eqT := fun i j h1 h2 => by rw [catP, seg_nil h1 h2]; simp [eqT]
/-- The table of a range. -/
def rngT (lo hi : Int) (w : List Int) (i j : Nat) : Bool := decide (j = i + 1) && (decide (lo ≤ w.getD i 0) && decide (w.getD i 0 ≤ hi))
theorem Sp.range {lo hi : Int} {ks : List Rx} : Sp (Lg (nd 2 lo hi ks)) w (rngT lo hi w) := fun i j h1 h2 => by
  rw [Lg2]
  unfold rngT
  simp only [Bool.and_eq_true, decide_eq_true_eq]
  constructor
  · rintro ⟨h3, h4, h5⟩; exact ⟨_, (seg_one h1 h2).2 ⟨h3, rfl⟩, h4, h5⟩
  · rintro ⟨c, hc, h4, h5⟩
    obtain ⟨h3, rfl⟩ := (seg_one h1 h2).1 hc
    exact ⟨h3, h4, h5⟩
theorem Sp.meet {A : List (List Int → Prop)} (ha : Sp (catP A) w a) (hb : Sp P w b) : Sp (catP (A ++ [P])) w (meetT a b) := fun i j h1 h2 => by
  rw [meetT_iff, catP_app]
  constructor
  · rintro ⟨m, h3, h4, h5, h6⟩
    exact ⟨seg w i m, seg w m j, (seg_app h3 h4).symm, (ha i m h3 (by omega)).1 h5, catP_one.2 ((hb m j h4 h2).1 h6)⟩
  · rintro ⟨u, v, h, h5, h6⟩
    obtain ⟨m, h3, h4, rfl, rfl⟩ := seg_split h1 h2 h
    exact ⟨m, h3, h4, (ha i m h3 (by omega)).2 h5, (hb m j h4 h2).2 (catP_one.1 h6)⟩
theorem Sp.not (ha : Sp P w a) : Sp (fun u => ¬ P u) w (fun i j => !a i j) := fun i j h1 h2 => by
  have := ha i j h1 h2
  simp only [Bool.not_eq_true', ← this]
  simp
/-- One of two, or both. -/
def bothT (all : Bool) (a b : Nat → Nat → Bool) (i j : Nat) : Bool := if all then a i j && b i j else a i j || b i j
/-- Some, or all, of a list. -/
def manyP (all : Bool) (L : List (List Int → Prop)) (u : List Int) : Prop := if all then ∀ P ∈ L, P u else ∃ P ∈ L, P u
theorem Sp.many0 (all : Bool) : Sp (manyP all []) w (fun _ _ => all) := fun i j _ _ => by unfold manyP; cases all <;> simp
theorem Sp.both {all : Bool} {A : List (List Int → Prop)} (ha : Sp (manyP all A) w a) (hb : Sp P w b) : Sp (manyP all (A ++ [P])) w (bothT all a b) := fun i j h1 h2 => by
  have h3 := ha i j h1 h2
  have h4 := hb i j h1 h2
  unfold manyP bothT at *
  cases all
  · simp only [Bool.false_eq_true, if_false, Bool.or_eq_true] at *
    rw [h3, h4]
    constructor
    · rintro (⟨Q, hq, h⟩ | h)
      · exact ⟨Q, by simp [hq], h⟩
      · exact ⟨P, by simp, h⟩
    · rintro ⟨Q, hq, h⟩
      rcases List.mem_append.1 hq with hq | hq
      · exact .inl ⟨Q, hq, h⟩
      · simp at hq; subst hq; exact .inr h
  · simp only [if_true, Bool.and_eq_true] at *
    rw [h3, h4]
    constructor
    · rintro ⟨h5, h6⟩ Q hq
      rcases List.mem_append.1 hq with hq | hq
      · exact h5 Q hq
      · simp at hq; subst hq; exact h6
    · exact fun h => ⟨fun Q hq => h Q (by simp [hq]), h P (by simp)⟩
theorem many4 {lo hi : Int} {ks : List Rx} {u : List Int} : manyP false (ks.map Lg) u ↔ Lg (nd 4 lo hi ks) u := by
  rw [Lg4]
  unfold manyP
  simp only [Bool.false_eq_true, if_false]
  constructor
  · rintro ⟨Q, hq, h⟩
    obtain ⟨r, hr, rfl⟩ := List.mem_map.1 hq
    exact ⟨r, hr, h⟩
  · rintro ⟨r, hr, h⟩; exact ⟨_, List.mem_map.2 ⟨r, hr, rfl⟩, h⟩
theorem many5 {lo hi : Int} {ks : List Rx} {u : List Int} : manyP true (ks.map Lg) u ↔ Lg (nd 5 lo hi ks) u := by
  rw [Lg5]
  unfold manyP
  simp only [if_true]
  constructor
  · exact fun h r hr => h _ (List.mem_map.2 ⟨r, hr, rfl⟩)
  · intro h Q hq
    obtain ⟨r, hr, rfl⟩ := List.mem_map.1 hq
    exact h r hr
/-- One string more of any number. -/
theorem star_seg (h1 : i < j) (h2 : j ≤ w.length) : starP P (seg w i j) ↔ ∃ m, i < m ∧ m ≤ j ∧ P (seg w i m) ∧ starP P (seg w m j) := by
  rw [seg_cons h1 h2, starP_cons]
  constructor
  · rintro ⟨u, v, h, h3, h4⟩
    obtain ⟨m, h5, h6, rfl, rfl⟩ := seg_split (by omega) h2 h
    exact ⟨m, by omega, h6, by rw [seg_cons (by omega) (by omega)]; exact h3, h4⟩
  · rintro ⟨m, h3, h4, h5, h6⟩
    exact ⟨seg w (i + 1) m, seg w m j, (seg_app (by omega) h4).symm, by rw [← seg_cons h3 (by omega)]; exact h5, h6⟩
theorem star_eq (h2 : i ≤ w.length) : starP P (seg w i i) := by rw [(seg_nil (Nat.le_refl _) h2).2 rfl]; exact .nil
/-- The table with one place changed. -/
def updT (T : Nat → Nat → Bool) (i j : Nat) (x : Bool) (p q : Nat) : Bool := if p = i ∧ q = j then x else T p q
theorem updT_at {x : Bool} : updT T i j x i j = x := by unfold updT; rw [if_pos ⟨rfl, rfl⟩]
theorem updT_off {x : Bool} {p q : Nat} (h : ¬ (p = i ∧ q = j)) : updT T i j x p q = T p q := by unfold updT; rw [if_neg h]
/-- The table of any number of strings, reckoned up to row i (not included) and column j. -/
structure Rep (P : List Int → Prop) (w : List Int) (i j : Nat) (T : Nat → Nat → Bool) : Prop where
  below : ∀ p q, i < p → p ≤ q → q ≤ w.length → (T p q = true ↔ starP P (seg w p q))
  row : ∀ q, i ≤ q → q < j → q ≤ w.length → (T i q = true ↔ starP P (seg w i q))
  rest : ∀ q, i < q → j ≤ q → q ≤ w.length → T i q = false
  above : ∀ p q, p < i → p ≤ q → q ≤ w.length → T p q = eqT p q
theorem Rep.start (hw : i + 1 = w.length) (hT : ∀ p q, p ≤ q → q ≤ w.length → T p q = eqT p q) : Rep P w i (i + 1) T := by
  refine ⟨fun p q h1 h2 h3 => ?_, fun q h1 h2 h3 => ?_, fun q h1 h2 h3 => ?_, fun p q h1 h2 h3 => hT p q h2 h3⟩
  · have e1 : p = w.length := by omega
    have e2 : q = w.length := by omega
    subst e1 e2
    rw [hT _ _ (Nat.le_refl _) (Nat.le_refl _)]
    simp [eqT, star_eq]
  · have e1 : q = i := by omega
    subst e1
    rw [hT _ _ (Nat.le_refl _) h3]
    simp [eqT, star_eq h3]
  · rw [hT _ _ (by omega) h3]
    unfold eqT; exact decide_eq_false (by omega)
theorem Rep.next (h : Rep P w (i + 1) (w.length + 1) T) (hi : i < w.length) : Rep P w i (i + 1) T := by
  refine ⟨fun p q h1 h2 h3 => ?_, fun q h1 h2 h3 => ?_, fun q h1 h2 h3 => ?_, fun p q h1 h2 h3 => h.above p q (by omega) h2 h3⟩
  · by_cases e : p = i + 1
    · subst e; exact h.row q h2 (by omega) h3
    · exact h.below p q (by omega) h2 h3
  · have e1 : q = i := by omega
    subst e1
    rw [h.above q q (by omega) (Nat.le_refl _) h3]
    simp [eqT, star_eq h3]
  · rw [h.above i q (by omega) (by omega) h3]
    unfold eqT; exact decide_eq_false (by omega)
/-- Within one place: m strings have been tried. -/
structure RepM (P : List Int → Prop) (w : List Int) (i j m : Nat) (T : Nat → Nat → Bool) : Prop where
  below : ∀ p q, i < p → p ≤ q → q ≤ w.length → (T p q = true ↔ starP P (seg w p q))
  row : ∀ q, i ≤ q → q < j → q ≤ w.length → (T i q = true ↔ starP P (seg w i q))
  here : T i j = true ↔ ∃ k, i < k ∧ k < m ∧ P (seg w i k) ∧ starP P (seg w k j)
  rest : ∀ q, i < q → j < q → q ≤ w.length → T i q = false
  above : ∀ p q, p < i → p ≤ q → q ≤ w.length → T p q = eqT p q
theorem Rep.enter (h : Rep P w i j T) (hi : i < j) (hj : j ≤ w.length) : RepM P w i j (i + 1) T :=
  ⟨h.below, h.row, by rw [h.rest j hi (Nat.le_refl _) hj]; simp only [Bool.false_eq_true, false_iff]; rintro ⟨k, h1, h2, _⟩; omega, fun q h1 h2 h3 => h.rest q h1 (by omega) h3, h.above⟩
theorem RepM.step (h : RepM P w i j m T) (ha : Sp P w a) (hi : i < m) (hm : m ≤ j) (hj : j ≤ w.length) (hf : T i j = false) : RepM P w i j (m + 1) (updT T i j (a i m && T m j)) := by
  have off : ∀ p q, ¬ (p = i ∧ q = j) → updT T i j (a i m && T m j) p q = T p q := fun p q h => updT_off h
  refine ⟨fun p q h1 h2 h3 => ?_, fun q h1 h2 h3 => ?_, ?_, fun q h1 h2 h3 => ?_, fun p q h1 h2 h3 => ?_⟩
  · rw [off _ _ (by omega)]; exact h.below p q h1 h2 h3
  · rw [off _ _ (by omega)]; exact h.row q h1 h2 h3
  · rw [updT_at, Bool.and_eq_true, ha i m (by omega) (by omega), h.below m j hi hm hj]
    constructor
    · rintro ⟨h1, h2⟩; exact ⟨m, hi, by omega, h1, h2⟩
    · rintro ⟨k, h1, h2, h3, h4⟩
      by_cases e : k = m
      · subst e; exact ⟨h3, h4⟩
      · have := h.here.2 ⟨k, h1, by omega, h3, h4⟩
        rw [hf] at this; cases this
  · rw [off _ _ (by omega)]; exact h.rest q h1 h2 h3
  · rw [off _ _ (by omega)]; exact h.above p q h1 h2 h3
theorem RepM.leave (h : RepM P w i j m T) (hi : i < j) (hj : j ≤ w.length) (hm : m ≤ j + 1) (he : m = j + 1 ∨ T i j = true) : Rep P w i (j + 1) T := by
  refine ⟨h.below, fun q h1 h2 h3 => ?_, fun q h1 h2 h3 => h.rest q h1 (by omega) h3, h.above⟩
  by_cases e : q = j
  · subst e
    rw [star_seg hi hj, h.here]
    constructor
    · rintro ⟨k, h4, h5, h6⟩; exact ⟨k, h4, by omega, h6⟩
    · rintro ⟨k, h4, h5, h6⟩
      rcases he with rfl | he
      · exact ⟨k, h4, by omega, h6⟩
      · exact h.here.1 he
  · exact h.row q h1 (by omega) h3
theorem Rep.done (h : Rep P w 0 (w.length + 1) T) : Sp (starP P) w T := fun p q h1 h2 => by
  by_cases e : p = 0
  · subst e; exact h.row q h1 (by omega) h2
  · exact h.below p q (by omega) h1 h2
theorem Sp.rep0 (hw : w.length = 0) (hT : ∀ p q, p ≤ q → q ≤ w.length → T p q = eqT p q) : Sp (starP P) w T := fun i j h1 h2 => by
  obtain rfl := List.eq_nil_of_length_eq_zero hw
  rw [hT i j h1 h2]
  have e1 : j = 0 := by simpa using h2
  have e2 : i = 0 := by omega
  subst e1 e2
  simp [eqT, star_eq]
end
end Rgx
end Go.Proofs.YtjclbjdkkdijbaaGreat
end
section
open Go.RowKit
namespace Go.Proofs.YtjclbjdkkdijbaaGreat
open L
namespace Rgx
theorem infoMB : (Tryz.prog.info? 4).map (fun i => (i.zero, i.size, i.bytes)) = some (some (.bool false), 1, 1) := by kernel_rfl
theorem infoMS : (Tryz.prog.info? 29).map (fun i => (i.zero, i.size, i.bytes)) = some (some (.slice none 0 0), 1, 24) := by kernel_rfl
/-- A table that is read: the places from the row's own number on. -/
def MatR (w : World) (v : Value) (N : Nat) (T : Nat → Nat → Bool) : Prop :=
  ∃ vals : List Value, SL w 1 v N vals ∧ ∀ i, i < N → ∃ y bs, vals[i]? = some y ∧ SL w 1 y N bs ∧ ∀ j, i ≤ j → j < N → bs[j]? = some (.bool (T i j))
/-- A table of one's own: the first k rows are there. -/
structure TabW (w0 : World) (tb N k : Nat) (rs : Nat → Nat) (T : Nat → Nat → Bool) (w : World) : Prop where
  blk : Blk w tb ((List.range N).map fun i => if i < k then .slice (some ⟨rs i, 0, none⟩) N N else .slice none 0 0) 29
  row : ∀ i, i < k → Blk w (rs i) ((List.range N).map fun j => .bool (T i j)) 4
  new : w0.heap.size ≤ tb ∧ ∀ i, i < k → w0.heap.size ≤ rs i ∧ rs i ≠ tb
  inj : ∀ i j, i < k → j < k → rs i = rs j → i = j
  u : Upd [] w0 w
section
variable {w w0 w' : World} {v : Value} {N k tb i j : Nat} {rs : Nat → Nat} {T : Nat → Nat → Bool}
theorem MatR.ext (h : MatR w v N T) (u : Upd [] w w') : MatR w' v N T := by
  obtain ⟨vals, h1, h2⟩ := h
  refine ⟨vals, h1.upd u (by simp), fun i hi => ?_⟩
  obtain ⟨y, bs, h3, h4, h5⟩ := h2 i hi
  exact ⟨y, bs, h3, h4.upd u (by simp), h5⟩
theorem MatR.form (h : MatR w v N T) (hN : 0 < N) : ∃ g off cap, v = .slice (some ⟨g, off, none⟩) N cap ∧ N ≤ cap ∧ cap ≤ 9223372036854775807 ∧ ∀ i j, i ≤ j → j < N → ∃ rg ro rc, w.cell? ⟨g, off + i, none⟩ = some (.slice (some ⟨rg, ro, none⟩) N rc) ∧ N ≤ rc ∧ rc ≤ 9223372036854775807 ∧ w.cell? ⟨rg, ro + j, none⟩ = some (.bool (T i j)) := by
  obtain ⟨vals, ⟨h1, a, cap, rfl, h2, h3, _, h4⟩, h5⟩ := h
  rcases h4 with h4 | ⟨g, off, rfl, h4⟩
  · omega
  · refine ⟨g, off, cap, rfl, h2, h3, fun i j hi hj => ?_⟩
    obtain ⟨y, bs, h6, ⟨q1, a2, c2, rfl, q2, q3, _, q4⟩, h8⟩ := h5 i (by omega)
    rcases q4 with q4 | ⟨rg, ro, rfl, q4⟩
    · omega
    · exact ⟨rg, ro, c2, h4 i _ h6, q2, q3, q4 j _ (h8 j hi hj)⟩
theorem rng_get {f : Nat → Value} (h : i < N) : ((List.range N).map f)[i]? = some (f i) := by simp [h]
theorem rng_len (f : Nat → Value) : ((List.range N).map f).length = N := by simp
theorem TabW.quiet (h : TabW w0 tb N k rs T w) (u : Upd [] w w') : TabW w0 tb N k rs T w' :=
  ⟨h.blk.upd u (by simp), fun i hi => (h.row i hi).upd u (by simp), h.new, h.inj, h.u.step u⟩
theorem TabW.cellS (h : TabW w0 tb N k rs T w) (hi : i < k) (hN : k ≤ N) : w.cell? ⟨tb, i, none⟩ = some (.slice (some ⟨rs i, 0, none⟩) N N) := by
  refine h.blk.cell ?_
  rw [rng_get (by omega), if_pos hi]
theorem TabW.cellN (h : TabW w0 tb N k rs T w) (hi : k ≤ i) (hN : i < N) : w.cell? ⟨tb, i, none⟩ = some (.slice none 0 0) := by
  refine h.blk.cell ?_
  rw [rng_get hN, if_neg (by omega)]
theorem TabW.cellB (h : TabW w0 tb N k rs T w) (hi : i < k) (hj : j < N) : w.cell? ⟨rs i, j, none⟩ = some (.bool (T i j)) := (h.row i hi).cell (rng_get hj)
theorem TabW.mat (h : TabW w0 tb N N rs T w) (hN : N ≤ 1000) : MatR w (.slice (some ⟨tb, 0, none⟩) N N) N T := by
  refine ⟨_, SL.of_blk (pad := []) (by simpa using h.blk) (by simp) (Nat.le_refl _) (by unfold maxLen; omega), fun i hi => ?_⟩
  refine ⟨.slice (some ⟨rs i, 0, none⟩) N N, _, ?_, SL.of_blk (pad := []) (by simpa using h.row i hi) (by simp) (Nat.le_refl _) (by unfold maxLen; omega), fun j _ hj => rng_get hj⟩
  rw [rng_get hi, if_pos hi]
theorem TabW.start (w : World) (N : Nat) : TabW w w.heap.size N 0 (fun _ => 0) (fun _ _ => false) (w.alloc (.cells (rows N fun _ => [Value.slice none 0 0]).toArray 29)) := by
  have e : (rows N fun _ => [Value.slice none 0 0]) = (List.range N).map fun i => if i < 0 then .slice (some ⟨0, 0, none⟩) N N else .slice none 0 0 := by
    rw [rows_one]
    apply List.ext_getElem (by simp)
    intro i h1 h2
    simp
  refine ⟨?_, fun i hi => by omega, ⟨Nat.le_refl _, fun i hi => by omega⟩, fun i j hi => by omega, (Upd.refl _ _).alloc _⟩
  rw [e]
  exact Blk.new w _ _
/-- A new row. -/
theorem TabW.addRow (h : TabW w0 tb N k rs T w) (hk : k < N) (hT : ∀ i j, k ≤ i → T i j = false) :
    TabW w0 tb N (k + 1) (fun i => if i = k then w.heap.size else rs i) T ((w.alloc (.cells (rows N fun _ => [Value.bool false]).toArray 4)).setCell ⟨tb, k, none⟩ (.slice (some ⟨w.heap.size, 0, none⟩) N N)) := by
  have u1 := (Upd.refl [] w).alloc (.cells (rows N fun _ => [Value.bool false]).toArray 4)
  have us : Upd [tb] (w.alloc (.cells (rows N fun _ => [Value.bool false]).toArray 4)) ((w.alloc (.cells (rows N fun _ => [Value.bool false]).toArray 4)).setCell ⟨tb, k, none⟩ (.slice (some ⟨w.heap.size, 0, none⟩) N N)) := (Upd.refl [tb] _).set (p := ⟨tb, k, none⟩) (by simp) _
  have htb := h.blk.lt
  have hlt : ∀ i, i < k → rs i < w.heap.size := fun i hi => (h.row i hi).lt
  have hz := h.u.size
  have e : (rows N fun _ => [Value.bool false]) = (List.range N).map fun j => .bool (T k j) := by
    rw [rows_one]
    apply List.ext_getElem (by simp)
    intro i h1 h2
    simp [hT k i (Nat.le_refl _)]
  refine ⟨?_, fun i hi => ?_, ⟨h.new.1, fun i hi => ?_⟩, fun i j hi hj he => ?_, (h.u.step u1).fresh us (fun b hb => .inr (by simp at hb; subst hb; exact h.new.1))⟩
  · have hb := (h.blk.upd u1 (by simp)).set k (.slice (some ⟨w.heap.size, 0, none⟩) N N)
    have e2 : ((List.range N).map fun i => if i < k then Value.slice (some ⟨rs i, 0, none⟩) N N else .slice none 0 0).set k (.slice (some ⟨w.heap.size, 0, none⟩) N N) = (List.range N).map fun i => if i < k + 1 then Value.slice (some ⟨(if i = k then w.heap.size else rs i), 0, none⟩) N N else .slice none 0 0 := by
      apply List.ext_getElem (by simp)
      intro i h1 h2
      rw [List.getElem_set]
      simp only [List.getElem_map, List.getElem_range]
      by_cases hik : i = k
      · subst hik; simp
      · rw [if_neg (fun he => hik he.symm), if_neg hik]
        by_cases h3 : i < k
        · rw [if_pos h3, if_pos (by omega)]
        · rw [if_neg h3, if_neg (by omega)]
    rw [e2] at hb
    exact hb
  · by_cases hik : i = k
    · subst hik
      simp only [if_true]
      have hb := Blk.new w (rows N fun _ => [Value.bool false]) 4
      have hb := hb.upd us (by simp; omega)
      rw [e] at hb ⊢
      exact hb
    · simp only [if_neg hik]
      have := (h.new.2 i (by omega)).2
      exact ((h.row i (by omega)).upd u1 (by simp)).upd us (by simpa using this)
  · by_cases hik : i = k
    · subst hik; simp only [if_true]; omega
    · simp only [if_neg hik]; exact h.new.2 i (by omega)
  · by_cases hik : i = k
    · by_cases hjk : j = k
      · omega
      · simp only [if_pos hik, if_neg hjk] at he
        have := hlt j (by omega)
        omega
    · by_cases hjk : j = k
      · simp only [if_neg hik, if_pos hjk] at he
        have := hlt i (by omega)
        omega
      · simp only [if_neg hik, if_neg hjk] at he
        exact h.inj i j (by omega) (by omega) he
/-- One place is set. -/
theorem TabW.setAt {x : Bool} (h : TabW w0 tb N k rs T w) (hi : i < k) (hj : j < N) : TabW w0 tb N k rs (updT T i j x) (w.setCell ⟨rs i, j, none⟩ (.bool x)) := by
  have us : Upd [rs i] w (w.setCell ⟨rs i, j, none⟩ (.bool x)) := (Upd.refl [rs i] w).set (p := ⟨rs i, j, none⟩) (by simp) _
  refine ⟨h.blk.upd us (by simpa using fun e => (h.new.2 i hi).2 e.symm), fun p hp => ?_, h.new, h.inj, h.u.fresh us (fun b hb => .inr (by simp at hb; subst hb; exact (h.new.2 i hi).1))⟩
  by_cases e : p = i
  · subst e
    have hb := (h.row p hi).set j (.bool x)
    have e2 : ((List.range N).map fun q => Value.bool (T p q)).set j (.bool x) = (List.range N).map fun q => Value.bool (updT T p j x p q) := by
      apply List.ext_getElem (by simp)
      intro q h1 h2
      rw [List.getElem_set]
      simp only [List.getElem_map, List.getElem_range]
      by_cases hq : j = q
      · subst hq; rw [if_pos rfl, updT_at]
      · rw [if_neg hq, updT_off (by omega)]
    rw [e2] at hb
    exact hb
  · have e2 : (fun q => Value.bool (updT T i j x p q)) = fun q => Value.bool (T p q) := by
      funext q
      rw [updT_off (by omega)]
    rw [e2]
    exact (h.row p hp).upd us (by simpa using fun e3 => e (h.inj p i hp hi e3))
theorem TabW.free (h : TabW w0 tb N k rs T w) (i : Nat) : w.frozen? ⟨tb, i, none⟩ = false := h.blk.free i
theorem TabW.freeR (h : TabW w0 tb N k rs T w) (hi : i < k) (j : Nat) : w.frozen? ⟨rs i, j, none⟩ = false := (h.row i hi).free j
end
end Rgx
end Go.Proofs.YtjclbjdkkdijbaaGreat
end
section
open Go.RowKit
namespace Go.Proofs.YtjclbjdkkdijbaaGreat
open L
namespace Rgx
open Rx
attribute [-go_sem] sliced
/-- The bytes of a string. -/
def bt (s : ByteArray) : List Int := s.data.toList.map fun b => (b.toNat : Int)
theorem bt_len (s : ByteArray) : (bt s).length = s.size := by simp [bt]
theorem bt_get {s : ByteArray} {i : Nat} (h : i < s.size) : (bt s).getD i 0 = ((s[i]'h).toNat : Int) := by
  unfold bt
  rw [List.getD_eq_getElem?_getD, List.getElem?_map, List.getElem?_eq_getElem (by simpa using h)]
  rfl
section
variable {w w' : World} {va vb : Value} {N i j : Nat} {A B : Nat → Nat → Bool}
set_option maxRecDepth 100000 in
theorem s1_calls (x y : Value) : Calls Tryz.prog 103 #[x, y] w fun e w' => e = .returned (.bool false) ∧ Upd [] w w' := by
  go_enter Tryz.func103, Tryz.ntmps103
  go_wp2_with fail
  go_ret
  exact ⟨rfl, (by iterate 25 (first | exact Upd.refl _ _ | assumption | refine Upd.alloc ?_ _ | refine Upd.drew ?_ | refine Upd.drewN ?_ _ | refine Upd.dl ?_ | refine Upd.step ?_ (Ext.upd _) | refine Upd.nil ?_ | skip))⟩
set_option maxRecDepth 100000 in
theorem s2_calls : Calls Tryz.prog 104 #[.int .i64 i, .int .i64 j] w fun e w' => e = .returned (.bool (eqT i j)) ∧ Upd [] w w' := by
  go_enter Tryz.func104, Tryz.ntmps104
  unfold eqT
  by_cases h : i = j
  · have h2 : (i : Int) = j := by omega
    have h3 : ((i : Int) == j) = true := by simp [h2]
    rw [decide_eq_true h]
    go_wp2_with fail
    go_ret
    exact ⟨by simp [h2], (by iterate 25 (first | exact Upd.refl _ _ | assumption | refine Upd.alloc ?_ _ | refine Upd.drew ?_ | refine Upd.drewN ?_ _ | refine Upd.dl ?_ | refine Upd.step ?_ (Ext.upd _) | refine Upd.nil ?_ | skip))⟩
  · have h2 : ¬ ((i : Int) = j) := by omega
    have h3 : ((i : Int) == j) = false := by simp [h2]
    rw [decide_eq_false h]
    go_wp2_with fail
    go_ret
    exact ⟨by simp [h2], (by iterate 25 (first | exact Upd.refl _ _ | assumption | refine Upd.alloc ?_ _ | refine Upd.drew ?_ | refine Upd.drewN ?_ _ | refine Upd.dl ?_ | refine Upd.step ?_ (Ext.upd _) | refine Upd.nil ?_ | skip))⟩
set_option maxRecDepth 100000 in
theorem s6_calls {b : Nat} {x : Bool} (hb : w.cell? ⟨b, 0, none⟩ = some (.bool x)) (y z : Value) : Calls Tryz.prog 109 #[y, z, .pointer (some ⟨b, 0, none⟩)] w fun e w' => e = .returned (.bool x) ∧ Upd [] w w' := by
  go_enter Tryz.func109, Tryz.ntmps109
  go_wp2_with fail
  go_ret
  exact ⟨rfl, (by iterate 25 (first | exact Upd.refl _ _ | assumption | refine Upd.alloc ?_ _ | refine Upd.drew ?_ | refine Upd.drewN ?_ _ | refine Upd.dl ?_ | refine Upd.step ?_ (Ext.upd _) | refine Upd.nil ?_ | skip))⟩
set_option maxRecDepth 100000 in
set_option maxHeartbeats 4000000 in
theorem s8_calls {b : Nat} (hb : w.cell? ⟨b, 0, none⟩ = some va) (ha : MatR w va N A) (hi : i ≤ j) (hj : j < N) (hN : N ≤ 1000) : Calls Tryz.prog 111 #[.int .i64 i, .int .i64 j, .pointer (some ⟨b, 0, none⟩)] w fun e w' => e = .returned (.bool (!A i j)) ∧ Upd [] w w' := by
  obtain ⟨g, off, cap, rfl, q1, q2, hc⟩ := ha.form (by omega)
  obtain ⟨rg, ro, rc, c1, q3, q4, c2⟩ := hc i j hi hj
  generalize A i j = x at *
  clear ha hc
  have hin : i < N := by omega
  have hji : (j : Int) < N := by omega
  have hii : (i : Int) < N := by omega
  go_enter Tryz.func111, Tryz.ntmps111
  go_wp2_with fail
  go_ret
  exact ⟨rfl, (by iterate 25 (first | exact Upd.refl _ _ | assumption | refine Upd.alloc ?_ _ | refine Upd.drew ?_ | refine Upd.drewN ?_ _ | refine Upd.dl ?_ | refine Upd.step ?_ (Ext.upd _) | refine Upd.nil ?_ | skip))⟩
set_option maxRecDepth 100000 in
set_option maxHeartbeats 4000000 in
theorem meet_calls (ha : MatR w va N A) (hb : MatR w vb N B) (hij : i ≤ j) (hj : j < N) (hN : N ≤ 1000) : Calls Tryz.prog 108 #[va, vb, .int .i64 i, .int .i64 j] w fun e w' => e = .returned (.bool (meetT A B i j)) ∧ Upd [] w w' := by
  obtain ⟨g, off, cap, rfl, q1, q2, hc⟩ := ha.form (by omega)
  obtain ⟨g2, off2, cap2, rfl, q3, q4, hd⟩ := hb.form (by omega)
  have HC := Lib.hid hc
  have HD := Lib.hid hd
  have HM := Lib.hid (fun x : Bool => show (x = true ↔ ∃ m, i ≤ m ∧ m ≤ j ∧ A i m = true ∧ B m j = true) → meetT A B i j = x from fun h => by rw [Bool.eq_iff_iff, meetT_iff, h])
  clear ha hb hc hd
  go_enter Tryz.func108, Tryz.ntmps108
  go_wp2_with fail
  go_loopw [9] (fun m wr => ∃ k : Nat, m = .int .i64 k ∧ i ≤ k ∧ k ≤ j + 1 ∧ Hid (∀ p, i ≤ p → p < k → ¬ (A i p = true ∧ B p j = true)) ∧ ∃ x : Ext w, wr = x.val) (fun m _ => j + 1 - (intOf m).toNat)
  case atStart => exact ⟨i, rfl, Nat.le_refl _, by omega, Lib.hid (fun p h1 h2 => by omega), Ext.of (by iterate 25 (first | exact Upd.refl _ _ | assumption | refine Upd.alloc ?_ _ | refine Upd.drew ?_ | refine Upd.drewN ?_ _ | refine Upd.dl ?_ | refine Upd.step ?_ (Ext.upd _) | refine Upd.nil ?_ | skip))⟩
  case round =>
    obtain ⟨k, rfl, hk1, hk2, HL, x, rfl⟩ := hrel
    by_cases hlt : k ≤ j
    · have hli : (k : Int) ≤ j := by omega
      have hjN : (j : Int) < N := by omega
      have hkN : (k : Int) < N := by omega
      have hiN : (i : Int) < N := by omega
      obtain ⟨rg, ro, rc, c1, r1, r2, c2⟩ := HC.out i k hk1 (by omega)
      obtain ⟨sg, so, sc, d1, r3, r4, d2⟩ := HD.out k j hlt hj
      have c1 := x.upd.some c1 (by simp)
      have c2 := x.upd.some c2 (by simp)
      have d1 := x.upd.some d1 (by simp)
      have d2 := x.upd.some d2 (by simp)
      have HY := Lib.hid (fun y z : Bool => show A i k = y → B k j = z → (y && z) = true → meetT A B i j = true from fun h1 h2 h3 => HM.out true (by simp at h3; simp only [true_iff]; exact ⟨k, hk1, hlt, by rw [h1, h3.1], by rw [h2, h3.2]⟩))
      have HZ := Lib.hid (fun y z : Bool => show A i k = y → B k j = z → (y && z) = false → ∀ p, i ≤ p → p < k + 1 → ¬ (A i p = true ∧ B p j = true) from fun h1 h2 h3 p h4 h5 h6 => by
        by_cases e : p = k
        · subst e; rw [h1, h2] at h6; rw [h6.1, h6.2] at h3; cases h3
        · exact HL.out p h4 (by omega) h6)
      replace HY := Lib.hid (fun y z => HY.out y z)
      generalize A i k = y at *
      generalize B k j = z at *
      cases y
      · have HE := Lib.hid (HZ.out false z rfl rfl rfl)
        go_wp2_with fail
        exact ⟨⟨k + 1, by go_num, by omega, by omega, HE, Ext.of (by iterate 25 (first | exact Upd.refl _ _ | assumption | refine Upd.alloc ?_ _ | refine Upd.drew ?_ | refine Upd.drewN ?_ _ | refine Upd.dl ?_ | refine Upd.step ?_ (Ext.upd _) | refine Upd.nil ?_ | skip))⟩, by simp [intOf]; omega⟩
      · cases z
        · have HE := Lib.hid (HZ.out true false rfl rfl rfl)
          go_wp2_with fail
          exact ⟨⟨k + 1, by go_num, by omega, by omega, HE, Ext.of (by iterate 25 (first | exact Upd.refl _ _ | assumption | refine Upd.alloc ?_ _ | refine Upd.drew ?_ | refine Upd.drewN ?_ _ | refine Upd.dl ?_ | refine Upd.step ?_ (Ext.upd _) | refine Upd.nil ?_ | skip))⟩, by simp [intOf]; omega⟩
        · have HE := Lib.hid (HY.out true true rfl rfl rfl)
          go_wp2_with fail
          go_ret
          rw [HE.out]
          exact ⟨rfl, (by iterate 25 (first | exact Upd.refl _ _ | assumption | refine Upd.alloc ?_ _ | refine Upd.drew ?_ | refine Upd.drewN ?_ _ | refine Upd.dl ?_ | refine Upd.step ?_ (Ext.upd _) | refine Upd.nil ?_ | skip))⟩
    · have hme : k = j + 1 := by omega
      have hni : ¬ ((k : Int) ≤ j) := by omega
      have HE := Lib.hid (HM.out false (by
        constructor
        · intro h; cases h
        · rintro ⟨m, h1, h2, h3⟩; exact absurd h3 (HL.out m h1 (by omega))))
      go_wp2_with fail
      go_ret
      rw [HE.out]
      exact ⟨rfl, (by iterate 25 (first | exact Upd.refl _ _ | assumption | refine Upd.alloc ?_ _ | refine Upd.drew ?_ | refine Upd.drewN ?_ _ | refine Upd.dl ?_ | refine Upd.step ?_ (Ext.upd _) | refine Upd.nil ?_ | skip))⟩
set_option maxRecDepth 100000 in
set_option maxHeartbeats 4000000 in
theorem s5_calls {b c : Nat} (hx : w.cell? ⟨b, 0, none⟩ = some va) (hy : w.cell? ⟨c, 0, none⟩ = some vb) (ha : MatR w va N A) (hb : MatR w vb N B) (hij : i ≤ j) (hj : j < N) (hN : N ≤ 1000) :
    Calls Tryz.prog 107 #[.int .i64 i, .int .i64 j, .pointer (some ⟨b, 0, none⟩), .pointer (some ⟨c, 0, none⟩)] w fun e w' => e = .returned (.bool (meetT A B i j)) ∧ Upd [] w w' := by
  have HM := Lib.hid (fun (w' : World) (u : Upd [] w w') => meet_calls (ha.ext u) (hb.ext u) hij hj hN)
  obtain ⟨g, off, cap, rfl, q1, q2, _⟩ := ha.form (by omega)
  obtain ⟨g2, off2, cap2, rfl, q3, q4, _⟩ := hb.form (by omega)
  clear ha hb
  generalize meetT A B i j = m at *
  go_enter Tryz.func107, Tryz.ntmps107
  go_wp2_with ((with_reducible refine (HM.out _ (by iterate 25 (first | exact Upd.refl _ _ | assumption | refine Upd.alloc ?_ _ | refine Upd.drew ?_ | refine Upd.drewN ?_ _ | refine Upd.dl ?_ | refine Upd.step ?_ (Ext.upd _) | refine Upd.nil ?_ | skip))).mono ?_); rintro e w5 ⟨rfl, u5⟩)
  go_ret
  exact ⟨rfl, Upd.step (by iterate 25 (first | exact Upd.refl _ _ | assumption | refine Upd.alloc ?_ _ | refine Upd.drew ?_ | refine Upd.drewN ?_ _ | refine Upd.dl ?_ | refine Upd.step ?_ (Ext.upd _) | refine Upd.nil ?_ | skip)) u5⟩
set_option maxRecDepth 100000 in
set_option maxHeartbeats 4000000 in
theorem s7_calls {b c d : Nat} {al : Bool} (hz : w.cell? ⟨d, 0, none⟩ = some (.bool al)) (hx : w.cell? ⟨b, 0, none⟩ = some va) (hy : w.cell? ⟨c, 0, none⟩ = some vb) (ha : MatR w va N A) (hb : MatR w vb N B) (hij : i ≤ j) (hj : j < N) (hN : N ≤ 1000) :
    Calls Tryz.prog 110 #[.int .i64 i, .int .i64 j, .pointer (some ⟨d, 0, none⟩), .pointer (some ⟨b, 0, none⟩), .pointer (some ⟨c, 0, none⟩)] w fun e w' => e = .returned (.bool (bothT al A B i j)) ∧ Upd [] w w' := by
  obtain ⟨g, off, cap, rfl, q1, q2, hc⟩ := ha.form (by omega)
  obtain ⟨g2, off2, cap2, rfl, q3, q4, hd⟩ := hb.form (by omega)
  obtain ⟨rg, ro, rc, c1, r1, r2, c2⟩ := hc i j hij hj
  obtain ⟨sg, so, sc, d1, r3, r4, d2⟩ := hd i j hij hj
  have hin : i < N := by omega
  have hji : (j : Int) < N := by omega
  have hii : (i : Int) < N := by omega
  unfold bothT
  generalize A i j = x at *
  generalize B i j = y at *
  clear ha hb hc hd
  go_enter Tryz.func110, Tryz.ntmps110
  cases al <;> cases x <;> cases y <;> (go_wp2_with fail; go_ret; exact ⟨rfl, (by iterate 25 (first | exact Upd.refl _ _ | assumption | refine Upd.alloc ?_ _ | refine Upd.drew ?_ | refine Upd.drewN ?_ _ | refine Upd.dl ?_ | refine Upd.step ?_ (Ext.upd _) | refine Upd.nil ?_ | skip))⟩)
set_option maxRecDepth 100000 in
set_option maxHeartbeats 4000000 in
theorem s3_calls {lo hi : Int} {s : ByteArray} {b c : Nat} (hlo : w.cell? ⟨b, 1, none⟩ = some (.int .u8 lo)) (hhi : w.cell? ⟨b, 2, none⟩ = some (.int .u8 hi)) (hs : w.cell? ⟨c, 0, none⟩ = some (.string s)) (hij : i ≤ j) (hj : j ≤ s.size) (hN : s.size ≤ 1000) :
    Calls Tryz.prog 105 #[.int .i64 i, .int .i64 j, .pointer (some ⟨b, 0, none⟩), .pointer (some ⟨c, 0, none⟩)] w fun e w' => e = .returned (.bool (rngT lo hi (bt s) i j)) ∧ Upd [] w w' := by
  unfold rngT
  by_cases h : j = i + 1
  · subst h
    have hi2 : i < s.size := by omega
    have hii : (i : Int) < s.size := by omega
    rw [bt_get hi2, decide_eq_true rfl]
    have hb := (s[i]'hi2).toNat_lt
    have h3 : (((i + 1 : Nat) : Int) == (i : Int) + 1) = true := by simp
    have hiw : (i : Int) ≤ 1000 := by omega
    by_cases hl : lo ≤ ((s[i]'hi2).toNat : Int)
    · by_cases hh : ((s[i]'hi2).toNat : Int) ≤ hi
      · rw [decide_eq_true hl, decide_eq_true hh]
        go_enter Tryz.func105, Tryz.ntmps105
        go_upto_region 1 with fail
        refine wp_region_qx (by kernel_rfl) (by kernel_rfl) ?_
        repeat (go_big_quiet_step ((fail)))
        refine wpQuiet_nil ?_
        intro x
        go_wp2_with fail
        go_ret
        exact ⟨rfl, (by iterate 25 (first | exact Upd.refl _ _ | assumption | refine Upd.alloc ?_ _ | refine Upd.drew ?_ | refine Upd.drewN ?_ _ | refine Upd.dl ?_ | refine Upd.step ?_ (Ext.upd _) | refine Upd.nil ?_ | skip))⟩
      · rw [decide_eq_true hl, decide_eq_false hh]
        go_enter Tryz.func105, Tryz.ntmps105
        go_upto_region 1 with fail
        refine wp_region_qx (by kernel_rfl) (by kernel_rfl) ?_
        repeat (go_big_quiet_step ((fail)))
        refine wpQuiet_nil ?_
        intro x
        go_wp2_with fail
        go_ret
        exact ⟨rfl, (by iterate 25 (first | exact Upd.refl _ _ | assumption | refine Upd.alloc ?_ _ | refine Upd.drew ?_ | refine Upd.drewN ?_ _ | refine Upd.dl ?_ | refine Upd.step ?_ (Ext.upd _) | refine Upd.nil ?_ | skip))⟩
    · rw [decide_eq_false hl]
      go_enter Tryz.func105, Tryz.ntmps105
      go_upto_region 1 with fail
      refine wp_region_qx (by kernel_rfl) (by kernel_rfl) ?_
      repeat (go_big_quiet_step ((fail)))
      refine wpQuiet_nil ?_
      intro x
      go_wp2_with fail
      go_ret
      exact ⟨rfl, (by iterate 25 (first | exact Upd.refl _ _ | assumption | refine Upd.alloc ?_ _ | refine Upd.drew ?_ | refine Upd.drewN ?_ _ | refine Upd.dl ?_ | refine Upd.step ?_ (Ext.upd _) | refine Upd.nil ?_ | skip))⟩
  · have h2 : ¬ ((j : Int) = i + 1) := by omega
    have h3 : ((j : Int) == i + 1) = false := by simp [h2]
    rw [decide_eq_false h]
    have hiw : (i : Int) ≤ 1000 := by omega
    go_enter Tryz.func105, Tryz.ntmps105
    go_upto_region 1 with fail
    refine wp_region_qx (by kernel_rfl) (by kernel_rfl) ?_
    repeat (go_big_quiet_step ((fail)))
    refine wpQuiet_nil ?_
    intro x
    go_wp2_with fail
    go_ret
    exact ⟨rfl, (by iterate 25 (first | exact Upd.refl _ _ | assumption | refine Upd.alloc ?_ _ | refine Upd.drew ?_ | refine Upd.drewN ?_ _ | refine Upd.dl ?_ | refine Upd.step ?_ (Ext.upd _) | refine Upd.nil ?_ | skip))⟩
end
end Rgx
end Go.Proofs.YtjclbjdkkdijbaaGreat
end
section
open Go.RowKit
namespace Go.Proofs.YtjclbjdkkdijbaaGreat
open L
namespace Rgx
open Rx
attribute [-go_sem] sliced
/-- A table of one's own that agrees with F from the diagonal on. -/
def TabF (w0 : World) (N : Nat) (F : Nat → Nat → Bool) (v : Value) (w : World) : Prop :=
  ∃ tb rs T, v = .slice (some ⟨tb, 0, none⟩) N N ∧ TabW w0 tb N N rs T w ∧ ∀ p q, p ≤ q → q < N → T p q = F p q
section
variable {w w' : World}
set_option maxRecDepth 100000 in
set_option maxHeartbeats 8000000 in
theorem table_calls {s : ByteArray} {g N : Nat} {cb : Array Value} {F : Nat → Nat → Bool} (eg : ∀ args w, (callFunc g args).run Tryz.prog w = .ok (.enter g args) w) (hN : (s.size : Int) + 1 = N) (hs : N ≤ 1000)
    (hf : ∀ (i j : Nat) (w' : World), i ≤ j → j < N → Upd [] w w' → Calls Tryz.prog g (#[.int .i64 i, .int .i64 j] ++ cb) w' fun e w2 => e = .returned (.bool (F i j)) ∧ Upd [] w' w2) :
    Calls Tryz.prog 102 #[.string s, .func (.func g) #[] cb] w fun e w' => ∃ v, e = .returned v ∧ TabF w N F v w' := by
  have HF := Lib.hid hf
  clear hf
  go_enter Tryz.func102, Tryz.ntmps102
  go_upto_region 2 with (at_make; refine wpList_mk rfl _ _ _ rfl 29 1 24 _ Tryz.underlying133 infoMS rfl (by decide) .i64 .i64 _ _ N rfl rfl (by first | rfl | omega) (by first | rfl | omega) (by omega) (by omega) ?_)
  change Code.wp _ _ _ _ (w.alloc (.cells (rows N fun _ => [Value.slice none 0 0]).toArray 29))
  have HT0 := Lib.hid (TabW.start w N)
  generalize (w.alloc (.cells (rows N fun _ => [Value.slice none 0 0]).toArray 29)) = w1 at *
  generalize w.heap.size = tb at *
  go_wp2_with fail
  go_loopw [14] (fun iv wr => ∃ (i : Nat) (rs : Nat → Nat) (T : Nat → Nat → Bool), iv = .int .i64 i ∧ i ≤ N ∧ Hid (TabW w tb N i rs T wr ∧ (∀ p q, p < i → p ≤ q → q < N → T p q = F p q) ∧ ∀ p q, i ≤ p → T p q = false)) (fun iv _ => N - (intOf iv).toNat)
  case atStart => exact ⟨0, _, _, rfl, Nat.zero_le _, Lib.hid ⟨HT0.out, fun p q h => by omega, fun p q h => rfl⟩⟩
  case round =>
    obtain ⟨i, rs, T, rfl, hi, HI⟩ := hrel
    by_cases hlt : i < N
    · have hli : (i : Int) < N := by omega
      have HR := Lib.hid (HI.out.1.addRow hlt HI.out.2.2)
      have uR := (Upd.refl [] wr).alloc (.cells (rows N fun _ => [Value.bool false]).toArray 4)
      have cR := uR.some (HI.out.1.cellN (Nat.le_refl _) hlt) (by simp)
      have fR := (HI.out.1.quiet uR).free i
      have HI2 := Lib.hid HI.out.2
      clear HI uR
      go_upto_region 6 with (at_make; refine wpList_mk rfl _ _ _ rfl 4 1 1 _ Tryz.underlying29 infoMB rfl (by decide) .i64 .i64 _ _ N rfl rfl (by first | rfl | omega) (by first | rfl | omega) (by omega) (by omega) ?_; change wpList _ _ _ _ _ (wr.alloc (.cells (rows N fun _ => [Value.bool false]).toArray 4)); generalize (wr.alloc (.cells (rows N fun _ => [Value.bool false]).toArray 4)) = wq at *; generalize wr.heap.size = rb at *)
      clear cR fR
      generalize (wq.setCell ⟨tb, i, none⟩ (.slice (some ⟨rb, 0, none⟩) N N)) = w2 at *
      generalize (fun p => if p = i then rb else rs p) = rs2 at *
      have hii : (i : Int) ≤ 1000 := by omega
      go_wp2_with fail
      go_loopw [7] (fun jv wr => ∃ (j : Nat) (T2 : Nat → Nat → Bool), jv = .int .i64 j ∧ i ≤ j ∧ j ≤ N ∧ Hid (TabW w tb N (i + 1) rs2 T2 wr ∧ (∀ p q, p < i → p ≤ q → q < N → T2 p q = F p q) ∧ (∀ q, i ≤ q → q < j → T2 i q = F i q) ∧ ∀ p q, i + 1 ≤ p → T2 p q = false)) (fun jv _ => N - (intOf jv).toNat)
      case atStart => exact ⟨i, T, rfl, Nat.le_refl _, by omega, Lib.hid ⟨HR.out, HI2.out.1, fun q h1 h2 => by omega, fun p q h1 => HI2.out.2 p q (by omega)⟩⟩
      case round =>
        clear HR HI2
        obtain ⟨j, T2, rfl, hij, hj, HJ⟩ := hrel
        by_cases hlj : j < N
        · have hlj2 : (j : Int) ≤ s.size := by omega
          have hlj3 : (j : Int) < N := by omega
          have c1 := HJ.out.1.cellS (show i < i + 1 by omega) (by omega)
          have c2 := HJ.out.1.cellB (show i < i + 1 by omega) hlj
          have HS := Lib.hid (fun (w5 : World) (u : Upd [] wr w5) => (HJ.out.1.quiet u).setAt (i := i) (j := j) (x := F i j) (by omega) hlj)
          have HC := Lib.hid (fun (w5 : World) (u : Upd [] wr w5) => HF.out i j w5 hij hlj (HJ.out.1.u.step u))
          have HX := Lib.hid (fun (w5 : World) (u : Upd [] wr w5) => And.intro ((HJ.out.1.quiet u).cellB (show i < i + 1 by omega) hlj) ((HJ.out.1.quiet u).freeR (show i < i + 1 by omega) j))
          have HJ2 := Lib.hid HJ.out.2
          generalize hri : rs2 i = ri at *
          clear hri HJ
          go_upto_region 9 with fail
          refine wp_region_ord 10 1 [0, 1, 2, 3, 4, 5, 6, 7, 9] [3] [0, 1, 2, 3, 4, 5, 6, 7, 8, 9, 10] (fun w' => ∃ x : Ext wr, w' = x.val) (by kernel_rfl) (by kernel_rfl) (Ext.of (by iterate 25 (first | exact Upd.refl _ _ | assumption | refine Upd.alloc ?_ _ | refine Upd.drew ?_ | refine Upd.drewN ?_ _ | refine Upd.dl ?_ | refine Upd.step ?_ (Ext.upd _) | refine Upd.nil ?_ | skip))) ?_
          repeat (first | (refine wpOrd_load rfl rfl rfl rfl (fun K hK => ?_); go_big_quiet_step (fail); refine wpQuiet_nil ?_; refine hK _ ?_; clear hK K) | (refine wpOrd_free rfl rfl rfl (fun K hK => ?_); go_big_quiet_step (fail); refine wpQuiet_nil ?_; refine hK _ ?_; clear hK K))
          refine wpOrd_fix rfl rfl (fun K hK => ?_)
          go_wp2_with ((with_reducible refine (HC.out _ (by iterate 25 (first | exact Upd.refl _ _ | assumption | refine Upd.alloc ?_ _ | refine Upd.drew ?_ | refine Upd.drewN ?_ _ | refine Upd.dl ?_ | refine Upd.step ?_ (Ext.upd _) | refine Upd.nil ?_ | skip))).mono ?_); rintro e w5 ⟨rfl, u5⟩)
          have HU5 := Lib.hid (show Upd [] wr w5 from Upd.step (by iterate 25 (first | exact Upd.refl _ _ | assumption | refine Upd.alloc ?_ _ | refine Upd.drew ?_ | refine Upd.drewN ?_ _ | refine Upd.dl ?_ | refine Upd.step ?_ (Ext.upd _) | refine Upd.nil ?_ | skip)) u5)
          clear u5
          refine ⟨by first | exact Ext.of HU5.out | exact fun _ => Ext.of HU5.out, ?_⟩
          repeat (first | (refine wpOrd_load rfl rfl rfl rfl (fun K hK => ?_); go_big_quiet_step (fail); refine wpQuiet_nil ?_; refine hK _ ?_; clear hK K) | (refine wpOrd_free rfl rfl rfl (fun K hK => ?_); go_big_quiet_step (fail); refine wpQuiet_nil ?_; refine hK _ ?_; clear hK K))
          refine wpOrd_fix rfl rfl (fun K hK => ?_)
          have hx := HX.out _ HU5.out
          have hx1 := hx.1
          have hx2 := hx.2
          clear hx
          go_wp2_with fail
          refine ⟨fun hC => absurd hC (by decide), ?_⟩
          refine wpOrd_nil ?_
          go_wp2_with fail
          exact ⟨⟨j + 1, _, by go_num, by omega, by omega, Lib.hid ⟨HS.out _ HU5.out, fun p q h1 h2 h3 => by rw [updT_off (by omega)]; exact HJ2.out.1 p q h1 h2 h3, fun q h1 h2 => by
            by_cases e : q = j
            · subst e; rw [updT_at]
            · rw [updT_off (by omega)]; exact HJ2.out.2.1 q h1 (by omega), fun p q h1 => by rw [updT_off (by omega)]; exact HJ2.out.2.2 p q h1⟩⟩, by simp [intOf]; omega⟩
        · have hje : j = N := by omega
          have hnj : ¬ ((j : Int) ≤ s.size) := by omega
          go_wp2_with fail
          exact ⟨⟨i + 1, rs2, T2, by go_num, by omega, Lib.hid ⟨HJ.out.1, fun p q h1 h2 h3 => by
            by_cases e : p = i
            · subst e; exact HJ.out.2.2.1 q h2 (by omega)
            · exact HJ.out.2.1 p q (by omega) h2 h3, fun p q h1 => HJ.out.2.2.2 p q h1⟩⟩, by simp [intOf]; omega⟩
    · have hie : i = N := by omega
      subst hie
      have hni : ¬ ((i : Int) < i) := by omega
      go_wp2_with fail
      go_ret
      exact ⟨_, rfl, tb, rs, T, rfl, HI.out.1, fun p q h1 h2 => HI.out.2.1 p q (by omega) h1 h2⟩
end
end Rgx
end Go.Proofs.YtjclbjdkkdijbaaGreat
end
section
open Go.RowKit
namespace Go.Proofs.YtjclbjdkkdijbaaGreat
open L
namespace Rgx
open Rx
attribute [-go_sem] sliced
/-- A table of one's own that says which parts have a property. -/
def TabS (w0 : World) (N : Nat) (P : List Int → Prop) (s : ByteArray) (v : Value) (w : World) : Prop :=
  ∃ tb rs T, v = .slice (some ⟨tb, 0, none⟩) N N ∧ TabW w0 tb N N rs T w ∧ Sp P (bt s) T
section
variable {w w' : World}
set_option maxRecDepth 100000 in
theorem r1_calls {i j : Nat} : Calls Tryz.prog 133 #[.int .i64 i, .int .i64 j] w fun e w' => e = .returned (.bool (eqT i j)) ∧ Upd [] w w' := by
  go_enter Tryz.func133, Tryz.ntmps133
  unfold eqT
  by_cases h : i = j
  · have h2 : (i : Int) = j := by omega
    have h3 : ((i : Int) == j) = true := by simp [h2]
    rw [decide_eq_true h]
    go_wp2_with fail
    go_ret
    exact ⟨by simp [h2], (by iterate 25 (first | exact Upd.refl _ _ | assumption | refine Upd.alloc ?_ _ | refine Upd.drew ?_ | refine Upd.drewN ?_ _ | refine Upd.dl ?_ | refine Upd.step ?_ (Ext.upd _) | refine Upd.nil ?_ | skip))⟩
  · have h2 : ¬ ((i : Int) = j) := by omega
    have h3 : ((i : Int) == j) = false := by simp [h2]
    rw [decide_eq_false h]
    go_wp2_with fail
    go_ret
    exact ⟨by simp [h2], (by iterate 25 (first | exact Upd.refl _ _ | assumption | refine Upd.alloc ?_ _ | refine Upd.drew ?_ | refine Upd.drewN ?_ _ | refine Upd.dl ?_ | refine Upd.step ?_ (Ext.upd _) | refine Upd.nil ?_ | skip))⟩
theorem callF (g : Nat) (h : ∀ args w, (callFunc g args).run Tryz.prog w = .ok (.enter g args) w) : ∀ args w, (callFunc g args).run Tryz.prog w = .ok (.enter g args) w := h
set_option maxRecDepth 100000 in
set_option maxHeartbeats 8000000 in
theorem repeated_calls {s : ByteArray} {N : Nat} {va : Value} {P : List Int → Prop} {A : Nat → Nat → Bool} (ha : MatR w va N A) (hA : Sp P (bt s) A) (hN : (s.size : Int) + 1 = N) (hs : N ≤ 1000) :
    Calls Tryz.prog 112 #[va, .string s] w fun e w' => ∃ v, e = .returned v ∧ TabS w N (starP P) s v w' := by
  obtain ⟨g, off, cap, rfl, q1, q2, hc⟩ := ha.form (by omega)
  have HA := Lib.hid (And.intro hc (And.intro hA (bt_len s)))
  have HT := Lib.hid (table_calls (w := w) (s := s) (g := 133) (N := N) (cb := #[]) (F := eqT) (by intro args w; rfl) hN hs (fun i j w' _ _ _ => r1_calls))
  clear ha hc hA
  go_enter Tryz.func112, Tryz.ntmps112
  go_upto_region 2 with ((with_reducible refine HT.out.mono ?_); rintro e w1 ⟨v1, rfl, o1⟩)
  obtain ⟨tb, rs, T0, rfl, o2, o3⟩ := o1
  have HO := Lib.hid (And.intro o2 o3)
  clear o2 o3 HT
  have hsz : (s.size : Int) ≤ 1000 := by omega
  go_wp2_with fail
  go_loopw [6] (fun iv wr => ∃ (k : Nat) (T : Nat → Nat → Bool), iv = .int .i64 ((k : Int) - 1) ∧ k ≤ s.size ∧ Hid (TabW w tb N N rs T wr ∧ (k = s.size ∧ (∀ p q, p ≤ q → q ≤ (bt s).length → T p q = eqT p q) ∨ Rep P (bt s) k ((bt s).length + 1) T))) (fun iv _ => (intOf iv + 1).toNat)
  case atStart => exact ⟨s.size, T0, by go_num, Nat.le_refl _, Lib.hid ⟨HO.out.1, .inl ⟨rfl, fun p q h1 h2 => HO.out.2 p q h1 (by rw [HA.out.2.2] at h2; omega)⟩⟩⟩
  case round =>
    clear HO
    obtain ⟨k, T, rfl, hk, HI⟩ := hrel
    by_cases hk0 : k = 0
    · subst hk0
      have hm1 : ((0 : Nat) : Int) - 1 = -1 := by omega
      rw [hm1]
      have HE := Lib.hid (show Sp (starP P) (bt s) T by
        rcases HI.out.2 with ⟨h1, h2⟩ | h2
        · exact Sp.rep0 (by rw [HA.out.2.2]; exact h1.symm) h2
        · exact h2.done)
      go_wp2_with fail
      go_ret
      exact ⟨_, rfl, tb, rs, T, rfl, HI.out.1, HE.out⟩
    · obtain ⟨i, rfl⟩ : ∃ i, k = i + 1 := ⟨k - 1, by omega⟩
      have hm1 : ((i + 1 : Nat) : Int) - 1 = i := by omega
      rw [hm1]
      have hi : i < s.size := by omega
      have hii : (i : Int) < s.size := by omega
      have HR := Lib.hid (show Rep P (bt s) i (i + 1) T by
        rcases HI.out.2 with ⟨h1, h2⟩ | h2
        · exact Rep.start (by rw [HA.out.2.2]; exact h1) h2
        · exact h2.next (by rw [HA.out.2.2]; exact hi))
      have HT := Lib.hid HI.out.1
      clear HI hm1 hk0 hk
      go_wp2_with fail
      go_loopw [7] (fun jv wr => ∃ (j : Nat) (T2 : Nat → Nat → Bool), jv = .int .i64 j ∧ i + 1 ≤ j ∧ j ≤ s.size + 1 ∧ Hid (TabW w tb N N rs T2 wr ∧ Rep P (bt s) i j T2)) (fun jv _ => s.size + 1 - (intOf jv).toNat)
      case atStart => exact ⟨i + 1, T, by go_num, Nat.le_refl _, by omega, Lib.hid ⟨HT.out, HR.out⟩⟩
      case round =>
        clear HT HR
        obtain ⟨j, T2, rfl, hij, hj, HJ⟩ := hrel
        by_cases hlj : j ≤ s.size
        · have hlj2 : (j : Int) ≤ s.size := by omega
          have hjN : (j : Int) < N := by omega
          have hiN : (i : Int) < N := by omega
          have HM := Lib.hid (HJ.out.2.enter (by omega) (by rw [HA.out.2.2]; exact hlj))
          have HW := Lib.hid HJ.out.1
          clear HJ
          go_wp2_with fail
          go_loopw [8] (fun mv wr => ∃ (m : Nat) (T3 : Nat → Nat → Bool), mv = .int .i64 m ∧ i + 1 ≤ m ∧ m ≤ j + 1 ∧ Hid (TabW w tb N N rs T3 wr ∧ RepM P (bt s) i j m T3)) (fun mv _ => j + 1 - (intOf mv).toNat)
          case atStart => exact ⟨i + 1, T2, by go_num, Nat.le_refl _, by omega, Lib.hid ⟨HW.out, HM.out⟩⟩
          case round =>
            clear HW HM
            obtain ⟨m, T3, rfl, him, hm, HK⟩ := hrel
            by_cases hlm : m ≤ j
            · have hlm2 : (m : Int) ≤ j := by omega
              have hmN : (m : Int) < N := by omega
              have c1 := HK.out.1.cellS (show i < N by omega) (Nat.le_refl _)
              have c2 := HK.out.1.cellB (show i < N by omega) (show j < N by omega)
              have c3 := HK.out.1.cellS (show m < N by omega) (Nat.le_refl _)
              have c4 := HK.out.1.cellB (show m < N by omega) (show j < N by omega)
              have HU := Lib.hid HK.out.1.u
              obtain ⟨rg, ro, rc, d1, r1, r2, d2⟩ := HA.out.1 i m (by omega) (by omega)
              have d1 := HU.out.some d1 (by simp)
              have d2 := HU.out.some d2 (by simp)
              cases hx : T3 i j with
              | true =>
                rw [hx] at c2
                have HE := Lib.hid (HK.out.2.leave (by omega) (by rw [HA.out.2.2]; exact hlj) (by omega) (.inr hx))
                have HW := Lib.hid HK.out.1
                clear hx
                go_wp2_with fail
                exact ⟨⟨j + 1, T3, by go_num, by omega, by omega, Lib.hid ⟨HW.out, HE.out⟩⟩, by simp [intOf]; omega⟩
              | false =>
                rw [hx] at c2
                have HE := Lib.hid (HK.out.2.step HA.out.2.1 (by omega) hlm (by rw [HA.out.2.2]; exact hlj) hx)
                have HS := Lib.hid (fun (w5 : World) (u : Upd [] wr w5) => (HK.out.1.quiet u).setAt (i := i) (j := j) (x := A i m && T3 m j) (by omega) (by omega))
                have HX := Lib.hid (fun (w5 : World) (u : Upd [] wr w5) => And.intro (u.some c2 (by simp)) ((HK.out.1.quiet u).freeR (show i < N by omega) j))
                clear hx HK
                generalize A i m = x at *
                generalize T3 m j = y at *
                generalize rs i = ri at *
                generalize rs m = rm at *
                go_upto_region 11 with fail
                cases x with
                | false =>
                  refine wp_region_ord 22 1 [0, 1, 2, 3, 4, 5, 6, 7, 8, 9, 10, 11, 12, 13, 14, 15, 16, 17, 18, 19, 20, 21] [3, 8, 11, 16, 19] [0, 1, 2, 3, 4, 5, 6, 7, 8, 9, 10, 11, 12, 13, 14, 15, 16, 17, 18, 19, 20, 21, 22] (fun w' => ∃ x : Ext wr, w' = x.val) (by kernel_rfl) (by kernel_rfl) (Ext.of (by iterate 25 (first | exact Upd.refl _ _ | assumption | refine Upd.alloc ?_ _ | refine Upd.drew ?_ | refine Upd.drewN ?_ _ | refine Upd.dl ?_ | refine Upd.step ?_ (Ext.upd _) | refine Upd.nil ?_ | skip))) ?_
                  repeat (first | (refine wpOrd_load rfl rfl rfl rfl (fun K hK => ?_); go_big_quiet_step (fail); refine wpQuiet_nil ?_; refine hK _ ?_; clear hK K) | (refine wpOrd_free rfl rfl rfl (fun K hK => ?_); go_big_quiet_step (fail); refine wpQuiet_nil ?_; refine hK _ ?_; clear hK K))
                  refine wpOrd_fix rfl rfl (fun K hK => ?_)
                  have hx := HX.out _ (show Upd [] wr wr.drew from (by iterate 25 (first | exact Upd.refl _ _ | assumption | refine Upd.alloc ?_ _ | refine Upd.drew ?_ | refine Upd.drewN ?_ _ | refine Upd.dl ?_ | refine Upd.step ?_ (Ext.upd _) | refine Upd.nil ?_ | skip)))
                  have hx1 := hx.1
                  have hx2 := hx.2
                  clear hx
                  go_wp2_with fail
                  refine ⟨fun hC => absurd hC (by decide), ?_⟩
                  refine wpOrd_nil ?_
                  go_wp2_with fail
                  exact ⟨⟨m + 1, _, by go_num, by omega, by omega, Lib.hid ⟨(HS.out _ (Upd.refl _ _)).quiet ((Upd.refl [] _).drew), HE.out⟩⟩, by simp [intOf]; omega⟩
                | true =>
                  refine wp_region_ord 22 1 [0, 1, 2, 3, 4, 5, 6, 7, 8, 9, 10, 11, 12, 13, 14, 15, 16, 17, 18, 19, 20, 21] [3, 8, 11, 16, 19] [0, 1, 2, 3, 4, 5, 6, 7, 8, 9, 10, 11, 12, 13, 14, 15, 16, 17, 18, 19, 20, 21, 22] (fun w' => ∃ x : Ext wr, w' = x.val) (by kernel_rfl) (by kernel_rfl) (Ext.of (by iterate 25 (first | exact Upd.refl _ _ | assumption | refine Upd.alloc ?_ _ | refine Upd.drew ?_ | refine Upd.drewN ?_ _ | refine Upd.dl ?_ | refine Upd.step ?_ (Ext.upd _) | refine Upd.nil ?_ | skip))) ?_
                  repeat (first | (refine wpOrd_load rfl rfl rfl rfl (fun K hK => ?_); go_big_quiet_step (fail); refine wpQuiet_nil ?_; refine hK _ ?_; clear hK K) | (refine wpOrd_free rfl rfl rfl (fun K hK => ?_); go_big_quiet_step (fail); refine wpQuiet_nil ?_; refine hK _ ?_; clear hK K))
                  refine wpOrd_fix rfl rfl (fun K hK => ?_)
                  have hx := HX.out _ (show Upd [] wr wr.drew from (by iterate 25 (first | exact Upd.refl _ _ | assumption | refine Upd.alloc ?_ _ | refine Upd.drew ?_ | refine Upd.drewN ?_ _ | refine Upd.dl ?_ | refine Upd.step ?_ (Ext.upd _) | refine Upd.nil ?_ | skip)))
                  have hx1 := hx.1
                  have hx2 := hx.2
                  clear hx
                  go_wp2_with fail
                  refine ⟨fun hC => absurd hC (by decide), ?_⟩
                  refine wpOrd_nil ?_
                  go_wp2_with fail
                  exact ⟨⟨m + 1, _, by go_num, by omega, by omega, Lib.hid ⟨(HS.out _ (Upd.refl _ _)).quiet ((Upd.refl [] _).drew), HE.out⟩⟩, by simp [intOf]; omega⟩
            · have hme : m = j + 1 := by omega
              have hnm : ¬ ((m : Int) ≤ j) := by omega
              have HE := Lib.hid (HK.out.2.leave (by omega) (by rw [HA.out.2.2]; exact hlj) hm (.inl hme))
              have HW := Lib.hid HK.out.1
              go_wp2_with fail
              exact ⟨⟨j + 1, T3, by go_num, by omega, by omega, Lib.hid ⟨HW.out, HE.out⟩⟩, by simp [intOf]; omega⟩
        · have hje : j = s.size + 1 := by omega
          have hnj : ¬ ((j : Int) ≤ s.size) := by omega
          go_wp2_with fail
          exact ⟨⟨i, T2, by go_num, by omega, Lib.hid ⟨HJ.out.1, .inr (by have h := HJ.out.2; rw [hje, ← HA.out.2.2] at h; exact h)⟩⟩, by simp [intOf] <;> omega⟩
end
end Rgx
end Go.Proofs.YtjclbjdkkdijbaaGreat
end
section
open Go.RowKit
namespace Go.Proofs.YtjclbjdkkdijbaaGreat
open L
namespace Rgx
open Rx
attribute [-go_sem] sliced
/-- A table in memory that says which parts have a property. -/
def MatS (N : Nat) (P : List Int → Prop) (s : ByteArray) (v : Value) (w : World) : Prop := ∃ A, MatR w v N A ∧ Sp P (bt s) A
section
variable {w w' w0 : World} {v : Value} {N : Nat} {P Q : List Int → Prop} {s : ByteArray}
theorem MatS.ext (h : MatS N P s v w) (u : Upd [] w w') : MatS N P s v w' := by
  obtain ⟨A, h1, h2⟩ := h
  exact ⟨A, h1.ext u, h2⟩
theorem MatS.congr (h : MatS N P s v w) (e : ∀ u, P u ↔ Q u) : MatS N Q s v w := by
  obtain ⟨A, h1, h2⟩ := h
  exact ⟨A, h1, h2.congr e⟩
theorem MatS.of_F {F : Nat → Nat → Bool} (h : TabF w0 N F v w) (hF : Sp P (bt s) F) (hN : (s.size : Int) + 1 = N) (hs : N ≤ 1000) : MatS N P s v w ∧ Upd [] w0 w := by
  obtain ⟨tb, rs, T, rfl, h1, h2⟩ := h
  refine ⟨⟨T, h1.mat hs, fun i j h3 h4 => ?_⟩, h1.u⟩
  rw [h2 i j h3 (by rw [bt_len] at h4; omega)]
  exact hF i j h3 h4
theorem MatS.of_S (h : TabS w0 N P s v w) (hs : N ≤ 1000) : MatS N P s v w ∧ Upd [] w0 w := by
  obtain ⟨tb, rs, T, rfl, h1, h2⟩ := h
  exact ⟨⟨T, h1.mat hs, h2⟩, h1.u⟩
theorem table_S {g : Nat} {cb : Array Value} {F : Nat → Nat → Bool} (eg : ∀ args w, (callFunc g args).run Tryz.prog w = .ok (.enter g args) w) (hN : (s.size : Int) + 1 = N) (hs : N ≤ 1000) (hF : Sp P (bt s) F)
    (hf : ∀ (i j : Nat) (w' : World), i ≤ j → j < N → Upd [] w w' → Calls Tryz.prog g (#[.int .i64 i, .int .i64 j] ++ cb) w' fun e w2 => e = .returned (.bool (F i j)) ∧ Upd [] w' w2) :
    Calls Tryz.prog 102 #[.string s, .func (.func g) #[] cb] w fun e w' => ∃ v, e = .returned v ∧ MatS N P s v w' ∧ Upd [] w w' := by
  refine (table_calls eg hN hs hf).mono ?_
  rintro e w2 ⟨v2, rfl, h⟩
  exact ⟨v2, rfl, MatS.of_F h hF hN hs⟩
theorem MatS.form (h : MatS N P s v w) (hN : 0 < N) : ∃ g off cap, v = .slice (some ⟨g, off, none⟩) N cap ∧ N ≤ cap ∧ cap ≤ 9223372036854775807 := by
  obtain ⟨A, h1, _⟩ := h
  obtain ⟨g, off, cap, rfl, h2, h3, _⟩ := h1.form hN
  exact ⟨g, off, cap, rfl, h2, h3⟩
theorem blk_one {b q : Nat} {z u : Value} {e : TypeId} (h : Blk w b [z] e) (hc : w.cell? ⟨b, q, none⟩ = some u) : u = z := by
  rw [cell_of_row w b q _ _ _ h] at hc
  cases q with
  | zero => simp at hc; exact hc.symm
  | succ q => simp at hc
/-- A table does not lie in a box of a nil slice. -/
theorem MatS.off {b : Nat} {e : TypeId} (h : MatS N P s v w) (hb : Blk w b [.slice none 0 0] e) (hN : 0 < N) (u : Upd [b] w w') : MatS N P s v w' := by
  obtain ⟨A, ⟨vals, h1, h2⟩, h3⟩ := h
  refine ⟨A, ⟨vals, h1.upd u (fun g hg hv => ?_), fun i hi => ?_⟩, h3⟩
  · simp at hg
    subst hg
    obtain ⟨y, bs, h4, ⟨_, a2, c2, rfl, _⟩, _⟩ := h2 0 hN
    obtain ⟨_, a, cap, rfl, _, _, _, h5⟩ := h1
    rcases h5 with h5 | ⟨g, off, rfl, h5⟩
    · omega
    · simp only [Value.ownBlock, Option.some.injEq] at hv
      subst hv
      have := blk_one hb (h5 0 _ h4)
      simp only [Value.slice.injEq] at this
      omega
  · obtain ⟨y, bs, h4, h5, h6⟩ := h2 i hi
    refine ⟨y, bs, h4, h5.upd u (fun g hg hv => ?_), h6⟩
    simp at hg
    subst hg
    obtain ⟨_, a, cap, rfl, _, _, _, h7⟩ := h5
    rcases h7 with h7 | ⟨g, off, rfl, h7⟩
    · omega
    · simp only [Value.ownBlock, Option.some.injEq] at hv
      subst hv
      have := blk_one hb (h7 (N - 1) _ (h6 (N - 1) (by omega) (by omega)))
      cases this
set_option maxRecDepth 100000 in
theorem s4_calls {i j : Nat} : Calls Tryz.prog 106 #[.int .i64 i, .int .i64 j] w fun e w' => e = .returned (.bool (eqT i j)) ∧ Upd [] w w' := by
  go_enter Tryz.func106, Tryz.ntmps106
  unfold eqT
  by_cases h : i = j
  · have h2 : (i : Int) = j := by omega
    have h3 : ((i : Int) == j) = true := by simp [h2]
    rw [decide_eq_true h]
    go_wp2_with fail
    go_ret
    exact ⟨by simp [h2], (by iterate 25 (first | exact Upd.refl _ _ | assumption | refine Upd.alloc ?_ _ | refine Upd.drew ?_ | refine Upd.drewN ?_ _ | refine Upd.dl ?_ | refine Upd.step ?_ (Ext.upd _) | refine Upd.nil ?_ | skip))⟩
  · have h2 : ¬ ((i : Int) = j) := by omega
    have h3 : ((i : Int) == j) = false := by simp [h2]
    rw [decide_eq_false h]
    go_wp2_with fail
    go_ret
    exact ⟨by simp [h2], (by iterate 25 (first | exact Upd.refl _ _ | assumption | refine Upd.alloc ?_ _ | refine Upd.drew ?_ | refine Upd.drewN ?_ _ | refine Upd.dl ?_ | refine Upd.step ?_ (Ext.upd _) | refine Upd.nil ?_ | skip))⟩
theorem take_map {ks : List Rx} {k : Nat} {r : Rx} (h : ks[k]? = some r) : (ks.take (k + 1)).map Lg = (ks.take k).map Lg ++ [Lg r] := by
  rw [List.take_add_one, h]
  simp
theorem proper_kind {k lo hi : Int} {ks : List Rx} (h : proper (nd k lo hi ks) = true) : (k = 0 ∨ k = 1 ∨ k = 2 ∨ k = 3 ∨ k = 4 ∨ k = 5 ∨ ((k = 6 ∨ k = 7) ∧ ∃ x, ks = [x] ∧ proper x = true)) ∧ (k = 3 ∨ k = 4 ∨ k = 5 → ∀ r ∈ ks, proper r = true) := by
  rw [proper, Bool.and_eq_true] at h
  obtain ⟨h1, h2⟩ := h
  split at h2
  · rename_i hk
    exact ⟨by omega, fun h => by omega⟩
  · split at h2
    · rename_i hk2
      exact ⟨by omega, fun h => by omega⟩
    · split at h2
      · rename_i hk
        exact ⟨by omega, fun _ => (properL_iff _).1 h2⟩
      · split at h2
        · rename_i hk
          rw [Bool.and_eq_true, decide_eq_true_eq] at h2
          match ks, h2.1 with
          | [x], _ => exact ⟨by have := (properL_iff _).1 h2.2 x (by simp); rcases hk with h | h <;> simp [h, this], fun h => by omega⟩
        · cases h2
set_option maxRecDepth 100000 in
set_option maxHeartbeats 16000000 in
theorem spans_calls (hN : (s.size : Int) + 1 = N) (hs : N ≤ 1000) : ∀ (r : Rx) {w : World} {v : Value}, proper r = true → RxV [] w r v → Calls Tryz.prog 82 #[v, .string s] w fun e w' => ∃ v', e = .returned v' ∧ MatS N (Lg r) s v' w' ∧ Upd [] w w' := by
  intro r
  induction r using Rx.ind with
  | h k lo hi ks ih =>
    intro w v hp hr
    obtain ⟨vk, rfl, hsc, hL⟩ := RxV.iff.1 hr
    obtain ⟨a, c, rfl, q1, q2, _⟩ := id hL.form
    obtain ⟨hk, hkp⟩ := proper_kind hp
    have HI := Lib.hid ih
    have HP := Lib.hid hkp
    clear ih hp hr hkp
    go_enter Tryz.func82, Tryz.ntmps82
    go_upto_region 2 with fail
    have b1 := (Blk.new w (rxC k lo hi (.slice a ks.length c)) 37).alloc (.cells #[.string s] 9)
    have b2 := Blk.new (w.alloc (.cells (rxC k lo hi (.slice a ks.length c)).toArray 37)) [.string s] 9
    have u1 := ((Upd.refl [] w).alloc (.cells (rxC k lo hi (.slice a ks.length c)).toArray 37)).alloc (.cells #[.string s] 9)
    have z1 : (w.alloc (.cells (rxC k lo hi (.slice a ks.length c)).toArray 37)).heap.size = w.heap.size + 1 := by simp
    rw [z1] at b2
    change Blk ((w.alloc (.cells (rxC k lo hi (.slice a ks.length c)).toArray 37)).alloc (.cells #[.string s] 9)) _ _ _ at b2
    change Code.wp _ _ _ _ ((w.alloc (.cells (rxC k lo hi (.slice a ks.length c)).toArray 37)).alloc (.cells #[.string s] 9))
    generalize ((w.alloc (.cells (rxC k lo hi (.slice a ks.length c)).toArray 37)).alloc (.cells #[.string s] 9)) = w1 at *
    have k0 := b1.cell (i := 0) rfl
    have k3 := b1.cell (i := 3) rfl
    have s0 := b2.cell (i := 0) rfl
    have HB := Lib.hid (And.intro u1 (And.intro (hL.ext u1) b1))
    clear b1 b2 u1 z1 hL
    generalize w.heap.size + 1 = sb at *
    generalize w.heap.size = pb at *
    have HBT := Lib.hid (bt_len s)
    have HSB := Lib.hid s0
    rcases hk with rfl | rfl | rfl | rfl | rfl | rfl | ⟨rfl | rfl, y, rfl, hy⟩
    · have HT := Lib.hid (fun (w5 : World) (u : Upd [] w1 w5) => table_S (w := w5) (s := s) (g := 103) (N := N) (cb := #[]) (F := fun _ _ => false) (P := Lg (nd 0 lo hi ks)) (by intro args w; rfl) hN hs Sp.none (fun i j w' _ _ _ => s1_calls _ _))
      go_wp2_with ((with_reducible refine (HT.out _ (by iterate 25 (first | exact Upd.refl _ _ | assumption | refine Upd.alloc ?_ _ | refine Upd.drew ?_ | refine Upd.drewN ?_ _ | refine Upd.dl ?_ | refine Upd.step ?_ (Ext.upd _) | refine Upd.nil ?_ | skip))).mono ?_); rintro e w5 ⟨v5, rfl, o5, u5⟩)
      go_ret
      exact ⟨_, rfl, o5, HB.out.1.step (Upd.step (by iterate 25 (first | exact Upd.refl _ _ | assumption | refine Upd.alloc ?_ _ | refine Upd.drew ?_ | refine Upd.drewN ?_ _ | refine Upd.dl ?_ | refine Upd.step ?_ (Ext.upd _) | refine Upd.nil ?_ | skip)) u5)⟩
    · have HT := Lib.hid (fun (w5 : World) (u : Upd [] w1 w5) => table_S (w := w5) (s := s) (g := 104) (N := N) (cb := #[]) (F := eqT) (P := Lg (nd 1 lo hi ks)) (by intro args w; rfl) hN hs (Sp.empty) (fun i j w' _ _ _ => s2_calls))
      go_wp2_with ((with_reducible refine (HT.out _ (by iterate 25 (first | exact Upd.refl _ _ | assumption | refine Upd.alloc ?_ _ | refine Upd.drew ?_ | refine Upd.drewN ?_ _ | refine Upd.dl ?_ | refine Upd.step ?_ (Ext.upd _) | refine Upd.nil ?_ | skip))).mono ?_); rintro e w5 ⟨v5, rfl, o5, u5⟩)
      go_ret
      exact ⟨_, rfl, o5, HB.out.1.step (Upd.step (by iterate 25 (first | exact Upd.refl _ _ | assumption | refine Upd.alloc ?_ _ | refine Upd.drew ?_ | refine Upd.drewN ?_ _ | refine Upd.dl ?_ | refine Upd.step ?_ (Ext.upd _) | refine Upd.nil ?_ | skip)) u5)⟩
    · have HT := Lib.hid (fun (w5 : World) (u : Upd [] w1 w5) => table_S (w := w5) (s := s) (g := 105) (N := N) (cb := #[.pointer (some ⟨pb, 0, none⟩), .pointer (some ⟨sb, 0, none⟩)]) (F := rngT lo hi (bt s)) (P := Lg (nd 2 lo hi ks)) (by intro args w; rfl) hN hs (Sp.range) (fun i j w' hij hj u' => s3_calls ((u.step u').some (HB.out.2.2.cell (i := 1) rfl) (by simp)) ((u.step u').some (HB.out.2.2.cell (i := 2) rfl) (by simp)) ((u.step u').some s0 (by simp)) hij (by omega) (by omega)))
      go_wp2_with ((with_reducible refine (HT.out _ (by iterate 25 (first | exact Upd.refl _ _ | assumption | refine Upd.alloc ?_ _ | refine Upd.drew ?_ | refine Upd.drewN ?_ _ | refine Upd.dl ?_ | refine Upd.step ?_ (Ext.upd _) | refine Upd.nil ?_ | skip))).mono ?_); rintro e w5 ⟨v5, rfl, o5, u5⟩)
      go_ret
      exact ⟨_, rfl, o5, HB.out.1.step (Upd.step (by iterate 25 (first | exact Upd.refl _ _ | assumption | refine Upd.alloc ?_ _ | refine Upd.drew ?_ | refine Upd.drewN ?_ _ | refine Upd.dl ?_ | refine Upd.step ?_ (Ext.upd _) | refine Upd.nil ?_ | skip)) u5)⟩
    · have HT := Lib.hid (fun (w5 : World) (u : Upd [] w1 w5) => table_S (w := w5) (s := s) (g := 106) (N := N) (cb := #[]) (F := eqT) (P := catP []) (by intro args w; rfl) hN hs (Sp.eq0) (fun i j w' _ _ _ => s4_calls))
      go_upto_region 10 with ((with_reducible refine (HT.out _ (by iterate 25 (first | exact Upd.refl _ _ | assumption | refine Upd.alloc ?_ _ | refine Upd.drew ?_ | refine Upd.drewN ?_ _ | refine Upd.dl ?_ | refine Upd.step ?_ (Ext.upd _) | refine Upd.nil ?_ | skip))).mono ?_); rintro e w5 ⟨v5, rfl, o5, u5⟩)
      have HO := Lib.hid (And.intro o5 (show Upd [] w1 w5 from Upd.step (by iterate 25 (first | exact Upd.refl _ _ | assumption | refine Upd.alloc ?_ _ | refine Upd.drew ?_ | refine Upd.drewN ?_ _ | refine Upd.dl ?_ | refine Upd.step ?_ (Ext.upd _) | refine Upd.nil ?_ | skip)) u5))
      obtain ⟨tg, tt, tc, rfl, tq1, tq2⟩ := HO.out.1.form (by omega)
      clear HT o5 u5 k0 k3 s0
      have k3 := HO.out.2.some (HB.out.2.2.cell (i := 3) rfl) (by simp)
      have s0 := HO.out.2.some HSB.out (by simp)
      go_wp2_with fail
      clear k3 s0
      go_loopw [5, 39] (fun tv iv wr => ∃ (k : Nat) (tg : Nat) (tt : Nat) (tc : Nat), iv = .int .i64 k ∧ k ≤ ks.length ∧ tv = .slice (some ⟨tg, tt, none⟩) N tc ∧ N ≤ tc ∧ tc ≤ 9223372036854775807 ∧ Hid (MatS N (catP ((ks.take k).map Lg)) s tv wr ∧ Upd [] w1 wr)) (fun _ iv _ => ks.length - (intOf iv).toNat)
      case atStart => exact ⟨0, tg, tt, tc, rfl, Nat.zero_le _, rfl, tq1, tq2, Lib.hid ⟨HO.out.1, HO.out.2⟩⟩
      case round =>
        clear HO
        obtain ⟨k, tg, tt, tc, rfl, hk, rfl, tq1, tq2, HJ⟩ := hrel
        have k3 := HJ.out.2.some (HB.out.2.2.cell (i := 3) rfl) (by simp)
        have s0 := HJ.out.2.some HSB.out (by simp)
        by_cases hlt : k < ks.length
        · have hli : (k : Int) < ks.length := by omega
          have hr := List.getElem?_eq_getElem hlt
          have hmem := List.mem_of_getElem? hr
          generalize ks[k] = y at *
          obtain ⟨yg, yo, ya, yc, rfl, hRF, e0, e1, e2, e3⟩ := (HB.out.2.1.ext HJ.out.2).kid hr
          have HY := Lib.hid (fun (w5 : World) (u : Upd [] wr w5) => HI.out y hmem (HP.out (by decide) y hmem) (hRF.ext u).val)
          have HR := Lib.hid (take_map hr)
          clear hr hmem hRF
          go_upto_region 13 with fail
          change Code.wp _ _ _ _ (wr.alloc (.cells (rxC y.kind y.lo y.hi (.slice ya y.kids.length yc)).toArray 37))
          have HN := Lib.hid (show Blk (wr.alloc (.cells (rxC y.kind y.lo y.hi (.slice ya y.kids.length yc)).toArray 37)) wr.heap.size (rxC y.kind y.lo y.hi (.slice ya y.kids.length yc)) 37 ∧ Upd [] wr (wr.alloc (.cells (rxC y.kind y.lo y.hi (.slice ya y.kids.length yc)).toArray 37)) from ⟨Blk.new wr _ _, (Upd.refl [] wr).alloc _⟩)
          generalize (wr.alloc (.cells (rxC y.kind y.lo y.hi (.slice ya y.kids.length yc)).toArray 37)) = wq at *
          generalize wr.heap.size = qb at *
          have y0 := HN.out.1.cell (i := 0) rfl
          have y1 := HN.out.1.cell (i := 1) rfl
          have y2 := HN.out.1.cell (i := 2) rfl
          have y3 := HN.out.1.cell (i := 3) rfl
          have t0 := HN.out.2.some s0 (by simp)
          clear e0 e1 e2 e3
          go_upto_region 14 with ((with_reducible refine (HY.out _ (HN.out.2.step (by iterate 25 (first | exact Upd.refl _ _ | assumption | refine Upd.alloc ?_ _ | refine Upd.drew ?_ | refine Upd.drewN ?_ _ | refine Upd.dl ?_ | refine Upd.step ?_ (Ext.upd _) | refine Upd.nil ?_ | skip)))).mono ?_); rintro e wz ⟨v5, rfl, o5, u5⟩; obtain ⟨zg, zo, zc, rfl, zq1, zq2⟩ := o5.form (by omega); have HZ := Lib.hid (And.intro (HN.out.2.step u5) o5); clear o5 u5)
          have bx := (Blk.new wz [.slice (some ⟨tg, tt, none⟩) N tc] 133).alloc (.cells #[.slice (some ⟨zg, zo, none⟩) N zc] 133)
          have by_ := Blk.new (wz.alloc (.cells #[.slice (some ⟨tg, tt, none⟩) N tc] 133)) [.slice (some ⟨zg, zo, none⟩) N zc] 133
          have uz := ((Upd.refl [] wz).alloc (.cells #[.slice (some ⟨tg, tt, none⟩) N tc] 133)).alloc (.cells #[.slice (some ⟨zg, zo, none⟩) N zc] 133)
          have z2 : (wz.alloc (.cells #[.slice (some ⟨tg, tt, none⟩) N tc] 133)).heap.size = wz.heap.size + 1 := by simp
          rw [z2] at by_
          change Blk ((wz.alloc (.cells #[.slice (some ⟨tg, tt, none⟩) N tc] 133)).alloc (.cells #[.slice (some ⟨zg, zo, none⟩) N zc] 133)) _ _ _ at bx
          change Blk ((wz.alloc (.cells #[.slice (some ⟨tg, tt, none⟩) N tc] 133)).alloc (.cells #[.slice (some ⟨zg, zo, none⟩) N zc] 133)) _ _ _ at by_
          change Upd [] _ ((wz.alloc (.cells #[.slice (some ⟨tg, tt, none⟩) N tc] 133)).alloc (.cells #[.slice (some ⟨zg, zo, none⟩) N zc] 133)) at uz
          change Code.wp _ _ _ _ ((wz.alloc (.cells #[.slice (some ⟨tg, tt, none⟩) N tc] 133)).alloc (.cells #[.slice (some ⟨zg, zo, none⟩) N zc] 133))
          generalize ((wz.alloc (.cells #[.slice (some ⟨tg, tt, none⟩) N tc] 133)).alloc (.cells #[.slice (some ⟨zg, zo, none⟩) N zc] 133)) = wy at *
          have HUZ := Lib.hid uz
          have HQ := Lib.hid (And.intro bx (And.intro by_ (HZ.out.1.step uz)))
          clear bx by_ uz z2 y0 y1 y2 y3 t0
          generalize wz.heap.size + 1 = yb at *
          generalize wz.heap.size = xb at *
          have s1 := HQ.out.2.2.some s0 (by simp)
          obtain ⟨A1, m1, p1⟩ := HJ.out.1
          obtain ⟨A2, m2, p2⟩ := HZ.out.2
          replace m1 := m1.ext HQ.out.2.2
          have HT2 := Lib.hid (fun (w5 : World) (u : Upd [] wy w5) => table_S (w := w5) (s := s) (g := 107) (N := N) (cb := #[.pointer (some ⟨xb, 0, none⟩), .pointer (some ⟨yb, 0, none⟩)]) (F := meetT A1 A2) (P := catP ((ks.take k).map Lg ++ [Lg y])) (by intro args w; rfl) hN hs (Sp.meet p1 p2) (fun i j w' hij hj u' => s5_calls ((u.step u').some (HQ.out.1.cell (i := 0) rfl) (by simp)) ((u.step u').some (HQ.out.2.1.cell (i := 0) rfl) (by simp)) (m1.ext (u.step u')) (m2.ext (HUZ.out.step (u.step u'))) hij hj hs))
          clear m1 m2 p1 p2
          go_wp2_with ((with_reducible refine (HT2.out _ (by iterate 25 (first | exact Upd.refl _ _ | assumption | refine Upd.alloc ?_ _ | refine Upd.drew ?_ | refine Upd.drewN ?_ _ | refine Upd.dl ?_ | refine Upd.step ?_ (Ext.upd _) | refine Upd.nil ?_ | skip))).mono ?_); rintro e w5 ⟨v5, rfl, o5, u5⟩; obtain ⟨ng, no, nc, rfl, nq1, nq2⟩ := o5.form (by omega); have HE := Lib.hid (And.intro o5 (HQ.out.2.2.step (Upd.step (by iterate 25 (first | exact Upd.refl _ _ | assumption | refine Upd.alloc ?_ _ | refine Upd.drew ?_ | refine Upd.drewN ?_ _ | refine Upd.dl ?_ | refine Upd.step ?_ (Ext.upd _) | refine Upd.nil ?_ | skip)) u5))); clear o5 u5)
          exact ⟨⟨k + 1, ng, no, nc, by go_num, by omega, rfl, nq1, nq2, Lib.hid ⟨by rw [HR.out]; exact HE.out.1, HJ.out.2.step HE.out.2⟩⟩, by simp [intOf]; omega⟩
        · have hke : k = ks.length := by omega
          subst hke
          have hni : ¬ ((ks.length : Int) < ks.length) := by omega
          have HE := Lib.hid (HJ.out.1.congr (Q := Lg (nd 3 lo hi ks)) (fun u => by rw [List.take_length, Lg3]))
          go_wp2_with fail
          go_ret
          exact ⟨_, rfl, HE.out, HB.out.1.step HJ.out.2⟩
    · go_upto_region 20 with fail
      change Code.wp _ _ _ _ (w1.alloc (.cells #[.bool false] 4))
      have HAL := Lib.hid (show Blk (w1.alloc (.cells #[.bool false] 4)) w1.heap.size [.bool false] 4 ∧ Upd [] w1 (w1.alloc (.cells #[.bool false] 4)) from ⟨Blk.new w1 _ _, (Upd.refl [] w1).alloc _⟩)
      generalize (w1.alloc (.cells #[.bool false] 4)) = w2 at *
      generalize w1.heap.size = ab at *
      have k3 := HAL.out.2.some k3 (by simp)
      have s0 := HAL.out.2.some s0 (by simp)
      have al0 := HAL.out.1.cell (i := 0) rfl
      have HT := Lib.hid (fun (w5 : World) (u : Upd [] w2 w5) => table_S (w := w5) (s := s) (g := 109) (N := N) (cb := #[.pointer (some ⟨ab, 0, none⟩)]) (F := fun _ _ => false) (P := manyP false []) (by intro args w; rfl) hN hs (Sp.many0 false) (fun i j w' _ _ u' => s6_calls ((u.step u').some al0 (by simp)) _ _))
      go_upto_region 21 with ((with_reducible refine (HT.out _ (by iterate 25 (first | exact Upd.refl _ _ | assumption | refine Upd.alloc ?_ _ | refine Upd.drew ?_ | refine Upd.drewN ?_ _ | refine Upd.dl ?_ | refine Upd.step ?_ (Ext.upd _) | refine Upd.nil ?_ | skip))).mono ?_); rintro e w5 ⟨v5, rfl, o5, u5⟩)
      have HO := Lib.hid (And.intro o5 (show Upd [] w1 w5 from HAL.out.2.step (Upd.step (by iterate 25 (first | exact Upd.refl _ _ | assumption | refine Upd.alloc ?_ _ | refine Upd.drew ?_ | refine Upd.drewN ?_ _ | refine Upd.dl ?_ | refine Upd.step ?_ (Ext.upd _) | refine Upd.nil ?_ | skip)) u5)))
      replace HAL := Lib.hid (HAL.out.1.upd (show Upd [] w2 w5 from Upd.step (by iterate 25 (first | exact Upd.refl _ _ | assumption | refine Upd.alloc ?_ _ | refine Upd.drew ?_ | refine Upd.drewN ?_ _ | refine Upd.dl ?_ | refine Upd.step ?_ (Ext.upd _) | refine Upd.nil ?_ | skip)) u5) (by simp))
      obtain ⟨tg, tt, tc, rfl, tq1, tq2⟩ := HO.out.1.form (by omega)
      clear HT o5 u5 k0 k3 s0 al0
      have k3 := HO.out.2.some (HB.out.2.2.cell (i := 3) rfl) (by simp)
      have s0 := HO.out.2.some HSB.out (by simp)
      go_wp2_with fail
      clear k3 s0
      go_loopw [11, 64] (fun tv iv wr => ∃ (k : Nat) (tg : Nat) (tt : Nat) (tc : Nat), iv = .int .i64 k ∧ k ≤ ks.length ∧ tv = .slice (some ⟨tg, tt, none⟩) N tc ∧ N ≤ tc ∧ tc ≤ 9223372036854775807 ∧ Hid (MatS N (manyP false ((ks.take k).map Lg)) s tv wr ∧ Upd [] w1 wr ∧ Blk wr ab [.bool false] 4)) (fun _ iv _ => ks.length - (intOf iv).toNat)
      case atStart => exact ⟨0, tg, tt, tc, rfl, Nat.zero_le _, rfl, tq1, tq2, Lib.hid ⟨HO.out.1, HO.out.2, HAL.out⟩⟩
      case round =>
        clear HO HAL
        obtain ⟨k, tg, tt, tc, rfl, hk, rfl, tq1, tq2, HJ⟩ := hrel
        have k3 := HJ.out.2.1.some (HB.out.2.2.cell (i := 3) rfl) (by simp)
        have s0 := HJ.out.2.1.some HSB.out (by simp)
        by_cases hlt : k < ks.length
        · have hli : (k : Int) < ks.length := by omega
          have hr := List.getElem?_eq_getElem hlt
          have hmem := List.mem_of_getElem? hr
          generalize ks[k] = y at *
          obtain ⟨yg, yo, ya, yc, rfl, hRF, e0, e1, e2, e3⟩ := (HB.out.2.1.ext HJ.out.2.1).kid hr
          have HY := Lib.hid (fun (w5 : World) (u : Upd [] wr w5) => HI.out y hmem (HP.out (by decide) y hmem) (hRF.ext u).val)
          have HR := Lib.hid (take_map hr)
          clear hr hmem hRF
          go_upto_region 24 with fail
          change Code.wp _ _ _ _ (wr.alloc (.cells (rxC y.kind y.lo y.hi (.slice ya y.kids.length yc)).toArray 37))
          have HN := Lib.hid (show Blk (wr.alloc (.cells (rxC y.kind y.lo y.hi (.slice ya y.kids.length yc)).toArray 37)) wr.heap.size (rxC y.kind y.lo y.hi (.slice ya y.kids.length yc)) 37 ∧ Upd [] wr (wr.alloc (.cells (rxC y.kind y.lo y.hi (.slice ya y.kids.length yc)).toArray 37)) from ⟨Blk.new wr _ _, (Upd.refl [] wr).alloc _⟩)
          generalize (wr.alloc (.cells (rxC y.kind y.lo y.hi (.slice ya y.kids.length yc)).toArray 37)) = wq at *
          generalize wr.heap.size = qb at *
          have y0 := HN.out.1.cell (i := 0) rfl
          have y1 := HN.out.1.cell (i := 1) rfl
          have y2 := HN.out.1.cell (i := 2) rfl
          have y3 := HN.out.1.cell (i := 3) rfl
          have t0 := HN.out.2.some s0 (by simp)
          clear e0 e1 e2 e3
          go_upto_region 25 with ((with_reducible refine (HY.out _ (HN.out.2.step (by iterate 25 (first | exact Upd.refl _ _ | assumption | refine Upd.alloc ?_ _ | refine Upd.drew ?_ | refine Upd.drewN ?_ _ | refine Upd.dl ?_ | refine Upd.step ?_ (Ext.upd _) | refine Upd.nil ?_ | skip)))).mono ?_); rintro e wz ⟨v5, rfl, o5, u5⟩; obtain ⟨zg, zo, zc, rfl, zq1, zq2⟩ := o5.form (by omega); have HZ := Lib.hid (And.intro (HN.out.2.step u5) o5); clear o5 u5)
          have bx := (Blk.new wz [.slice (some ⟨tg, tt, none⟩) N tc] 133).alloc (.cells #[.slice (some ⟨zg, zo, none⟩) N zc] 133)
          have by_ := Blk.new (wz.alloc (.cells #[.slice (some ⟨tg, tt, none⟩) N tc] 133)) [.slice (some ⟨zg, zo, none⟩) N zc] 133
          have uz := ((Upd.refl [] wz).alloc (.cells #[.slice (some ⟨tg, tt, none⟩) N tc] 133)).alloc (.cells #[.slice (some ⟨zg, zo, none⟩) N zc] 133)
          have z2 : (wz.alloc (.cells #[.slice (some ⟨tg, tt, none⟩) N tc] 133)).heap.size = wz.heap.size + 1 := by simp
          rw [z2] at by_
          change Blk ((wz.alloc (.cells #[.slice (some ⟨tg, tt, none⟩) N tc] 133)).alloc (.cells #[.slice (some ⟨zg, zo, none⟩) N zc] 133)) _ _ _ at bx
          change Blk ((wz.alloc (.cells #[.slice (some ⟨tg, tt, none⟩) N tc] 133)).alloc (.cells #[.slice (some ⟨zg, zo, none⟩) N zc] 133)) _ _ _ at by_
          change Upd [] _ ((wz.alloc (.cells #[.slice (some ⟨tg, tt, none⟩) N tc] 133)).alloc (.cells #[.slice (some ⟨zg, zo, none⟩) N zc] 133)) at uz
          change Code.wp _ _ _ _ ((wz.alloc (.cells #[.slice (some ⟨tg, tt, none⟩) N tc] 133)).alloc (.cells #[.slice (some ⟨zg, zo, none⟩) N zc] 133))
          generalize ((wz.alloc (.cells #[.slice (some ⟨tg, tt, none⟩) N tc] 133)).alloc (.cells #[.slice (some ⟨zg, zo, none⟩) N zc] 133)) = wy at *
          have HUZ := Lib.hid uz
          have HQ := Lib.hid (And.intro bx (And.intro by_ (HZ.out.1.step uz)))
          clear bx by_ uz z2 y0 y1 y2 y3 t0
          generalize wz.heap.size + 1 = yb at *
          generalize wz.heap.size = xb at *
          have s1 := HQ.out.2.2.some s0 (by simp)
          obtain ⟨A1, m1, p1⟩ := HJ.out.1
          obtain ⟨A2, m2, p2⟩ := HZ.out.2
          replace m1 := m1.ext HQ.out.2.2
          have HT2 := Lib.hid (fun (w5 : World) (u : Upd [] wy w5) => table_S (w := w5) (s := s) (g := 110) (N := N) (cb := #[.pointer (some ⟨ab, 0, none⟩), .pointer (some ⟨xb, 0, none⟩), .pointer (some ⟨yb, 0, none⟩)]) (F := bothT false A1 A2) (P := manyP false ((ks.take k).map Lg ++ [Lg y])) (by intro args w; rfl) hN hs (Sp.both p1 p2) (fun i j w' hij hj u' => s7_calls ((HQ.out.2.2.step (u.step u')).some (HJ.out.2.2.cell (i := 0) rfl) (by simp)) ((u.step u').some (HQ.out.1.cell (i := 0) rfl) (by simp)) ((u.step u').some (HQ.out.2.1.cell (i := 0) rfl) (by simp)) (m1.ext (u.step u')) (m2.ext (HUZ.out.step (u.step u'))) hij hj hs))
          clear m1 m2 p1 p2
          go_wp2_with ((with_reducible refine (HT2.out _ (by iterate 25 (first | exact Upd.refl _ _ | assumption | refine Upd.alloc ?_ _ | refine Upd.drew ?_ | refine Upd.drewN ?_ _ | refine Upd.dl ?_ | refine Upd.step ?_ (Ext.upd _) | refine Upd.nil ?_ | skip))).mono ?_); rintro e w5 ⟨v5, rfl, o5, u5⟩; obtain ⟨ng, no, nc, rfl, nq1, nq2⟩ := o5.form (by omega); have HE := Lib.hid (And.intro o5 (HQ.out.2.2.step (Upd.step (by iterate 25 (first | exact Upd.refl _ _ | assumption | refine Upd.alloc ?_ _ | refine Upd.drew ?_ | refine Upd.drewN ?_ _ | refine Upd.dl ?_ | refine Upd.step ?_ (Ext.upd _) | refine Upd.nil ?_ | skip)) u5))); clear o5 u5)
          exact ⟨⟨k + 1, ng, no, nc, by go_num, by omega, rfl, nq1, nq2, Lib.hid ⟨by rw [HR.out]; exact HE.out.1, HJ.out.2.1.step HE.out.2, HJ.out.2.2.upd HE.out.2 (by simp)⟩⟩, by simp [intOf]; omega⟩
        · have hke : k = ks.length := by omega
          subst hke
          have hni : ¬ ((ks.length : Int) < ks.length) := by omega
          have HE := Lib.hid (HJ.out.1.congr (Q := Lg (nd 4 lo hi ks)) (fun u => by rw [List.take_length, many4]))
          go_wp2_with fail
          go_ret
          exact ⟨_, rfl, HE.out, HB.out.1.step HJ.out.2.1⟩
    · go_upto_region 20 with fail
      change Code.wp _ _ _ _ (w1.alloc (.cells #[.bool true] 4))
      have HAL := Lib.hid (show Blk (w1.alloc (.cells #[.bool true] 4)) w1.heap.size [.bool true] 4 ∧ Upd [] w1 (w1.alloc (.cells #[.bool true] 4)) from ⟨Blk.new w1 _ _, (Upd.refl [] w1).alloc _⟩)
      generalize (w1.alloc (.cells #[.bool true] 4)) = w2 at *
      generalize w1.heap.size = ab at *
      have k3 := HAL.out.2.some k3 (by simp)
      have s0 := HAL.out.2.some s0 (by simp)
      have al0 := HAL.out.1.cell (i := 0) rfl
      have HT := Lib.hid (fun (w5 : World) (u : Upd [] w2 w5) => table_S (w := w5) (s := s) (g := 109) (N := N) (cb := #[.pointer (some ⟨ab, 0, none⟩)]) (F := fun _ _ => true) (P := manyP true []) (by intro args w; rfl) hN hs (Sp.many0 true) (fun i j w' _ _ u' => s6_calls ((u.step u').some al0 (by simp)) _ _))
      go_upto_region 21 with ((with_reducible refine (HT.out _ (by iterate 25 (first | exact Upd.refl _ _ | assumption | refine Upd.alloc ?_ _ | refine Upd.drew ?_ | refine Upd.drewN ?_ _ | refine Upd.dl ?_ | refine Upd.step ?_ (Ext.upd _) | refine Upd.nil ?_ | skip))).mono ?_); rintro e w5 ⟨v5, rfl, o5, u5⟩)
      have HO := Lib.hid (And.intro o5 (show Upd [] w1 w5 from HAL.out.2.step (Upd.step (by iterate 25 (first | exact Upd.refl _ _ | assumption | refine Upd.alloc ?_ _ | refine Upd.drew ?_ | refine Upd.drewN ?_ _ | refine Upd.dl ?_ | refine Upd.step ?_ (Ext.upd _) | refine Upd.nil ?_ | skip)) u5)))
      replace HAL := Lib.hid (HAL.out.1.upd (show Upd [] w2 w5 from Upd.step (by iterate 25 (first | exact Upd.refl _ _ | assumption | refine Upd.alloc ?_ _ | refine Upd.drew ?_ | refine Upd.drewN ?_ _ | refine Upd.dl ?_ | refine Upd.step ?_ (Ext.upd _) | refine Upd.nil ?_ | skip)) u5) (by simp))
      obtain ⟨tg, tt, tc, rfl, tq1, tq2⟩ := HO.out.1.form (by omega)
      clear HT o5 u5 k0 k3 s0 al0
      have k3 := HO.out.2.some (HB.out.2.2.cell (i := 3) rfl) (by simp)
      have s0 := HO.out.2.some HSB.out (by simp)
      go_wp2_with fail
      clear k3 s0
      go_loopw [11, 64] (fun tv iv wr => ∃ (k : Nat) (tg : Nat) (tt : Nat) (tc : Nat), iv = .int .i64 k ∧ k ≤ ks.length ∧ tv = .slice (some ⟨tg, tt, none⟩) N tc ∧ N ≤ tc ∧ tc ≤ 9223372036854775807 ∧ Hid (MatS N (manyP true ((ks.take k).map Lg)) s tv wr ∧ Upd [] w1 wr ∧ Blk wr ab [.bool true] 4)) (fun _ iv _ => ks.length - (intOf iv).toNat)
      case atStart => exact ⟨0, tg, tt, tc, rfl, Nat.zero_le _, rfl, tq1, tq2, Lib.hid ⟨HO.out.1, HO.out.2, HAL.out⟩⟩
      case round =>
        clear HO HAL
        obtain ⟨k, tg, tt, tc, rfl, hk, rfl, tq1, tq2, HJ⟩ := hrel
        have k3 := HJ.out.2.1.some (HB.out.2.2.cell (i := 3) rfl) (by simp)
        have s0 := HJ.out.2.1.some HSB.out (by simp)
        by_cases hlt : k < ks.length
        · have hli : (k : Int) < ks.length := by omega
          have hr := List.getElem?_eq_getElem hlt
          have hmem := List.mem_of_getElem? hr
          generalize ks[k] = y at *
          obtain ⟨yg, yo, ya, yc, rfl, hRF, e0, e1, e2, e3⟩ := (HB.out.2.1.ext HJ.out.2.1).kid hr
          have HY := Lib.hid (fun (w5 : World) (u : Upd [] wr w5) => HI.out y hmem (HP.out (by decide) y hmem) (hRF.ext u).val)
          have HR := Lib.hid (take_map hr)
          clear hr hmem hRF
          go_upto_region 24 with fail
          change Code.wp _ _ _ _ (wr.alloc (.cells (rxC y.kind y.lo y.hi (.slice ya y.kids.length yc)).toArray 37))
          have HN := Lib.hid (show Blk (wr.alloc (.cells (rxC y.kind y.lo y.hi (.slice ya y.kids.length yc)).toArray 37)) wr.heap.size (rxC y.kind y.lo y.hi (.slice ya y.kids.length yc)) 37 ∧ Upd [] wr (wr.alloc (.cells (rxC y.kind y.lo y.hi (.slice ya y.kids.length yc)).toArray 37)) from ⟨Blk.new wr _ _, (Upd.refl [] wr).alloc _⟩)
          generalize (wr.alloc (.cells (rxC y.kind y.lo y.hi (.slice ya y.kids.length yc)).toArray 37)) = wq at *
          generalize wr.heap.size = qb at *
          have y0 := HN.out.1.cell (i := 0) rfl
          have y1 := HN.out.1.cell (i := 1) rfl
          have y2 := HN.out.1.cell (i := 2) rfl
          have y3 := HN.out.1.cell (i := 3) rfl
          have t0 := HN.out.2.some s0 (by simp)
          clear e0 e1 e2 e3
          go_upto_region 25 with ((with_reducible refine (HY.out _ (HN.out.2.step (by iterate 25 (first | exact Upd.refl _ _ | assumption | refine Upd.alloc ?_ _ | refine Upd.drew ?_ | refine Upd.drewN ?_ _ | refine Upd.dl ?_ | refine Upd.step ?_ (Ext.upd _) | refine Upd.nil ?_ | skip)))).mono ?_); rintro e wz ⟨v5, rfl, o5, u5⟩; obtain ⟨zg, zo, zc, rfl, zq1, zq2⟩ := o5.form (by omega); have HZ := Lib.hid (And.intro (HN.out.2.step u5) o5); clear o5 u5)
          have bx := (Blk.new wz [.slice (some ⟨tg, tt, none⟩) N tc] 133).alloc (.cells #[.slice (some ⟨zg, zo, none⟩) N zc] 133)
          have by_ := Blk.new (wz.alloc (.cells #[.slice (some ⟨tg, tt, none⟩) N tc] 133)) [.slice (some ⟨zg, zo, none⟩) N zc] 133
          have uz := ((Upd.refl [] wz).alloc (.cells #[.slice (some ⟨tg, tt, none⟩) N tc] 133)).alloc (.cells #[.slice (some ⟨zg, zo, none⟩) N zc] 133)
          have z2 : (wz.alloc (.cells #[.slice (some ⟨tg, tt, none⟩) N tc] 133)).heap.size = wz.heap.size + 1 := by simp
          rw [z2] at by_
          change Blk ((wz.alloc (.cells #[.slice (some ⟨tg, tt, none⟩) N tc] 133)).alloc (.cells #[.slice (some ⟨zg, zo, none⟩) N zc] 133)) _ _ _ at bx
          change Blk ((wz.alloc (.cells #[.slice (some ⟨tg, tt, none⟩) N tc] 133)).alloc (.cells #[.slice (some ⟨zg, zo, none⟩) N zc] 133)) _ _ _ at by_
          change Upd [] _ ((wz.alloc (.cells #[.slice (some ⟨tg, tt, none⟩) N tc] 133)).alloc (.cells #[.slice (some ⟨zg, zo, none⟩) N zc] 133)) at uz
          change Code.wp _ _ _ _ ((wz.alloc (.cells #[.slice (some ⟨tg, tt, none⟩) N tc] 133)).alloc (.cells #[.slice (some ⟨zg, zo, none⟩) N zc] 133))
          generalize ((wz.alloc (.cells #[.slice (some ⟨tg, tt, none⟩) N tc] 133)).alloc (.cells #[.slice (some ⟨zg, zo, none⟩) N zc] 133)) = wy at *
          have HUZ := Lib.hid uz
          have HQ := Lib.hid (And.intro bx (And.intro by_ (HZ.out.1.step uz)))
          clear bx by_ uz z2 y0 y1 y2 y3 t0
          generalize wz.heap.size + 1 = yb at *
          generalize wz.heap.size = xb at *
          have s1 := HQ.out.2.2.some s0 (by simp)
          obtain ⟨A1, m1, p1⟩ := HJ.out.1
          obtain ⟨A2, m2, p2⟩ := HZ.out.2
          replace m1 := m1.ext HQ.out.2.2
          have HT2 := Lib.hid (fun (w5 : World) (u : Upd [] wy w5) => table_S (w := w5) (s := s) (g := 110) (N := N) (cb := #[.pointer (some ⟨ab, 0, none⟩), .pointer (some ⟨xb, 0, none⟩), .pointer (some ⟨yb, 0, none⟩)]) (F := bothT true A1 A2) (P := manyP true ((ks.take k).map Lg ++ [Lg y])) (by intro args w; rfl) hN hs (Sp.both p1 p2) (fun i j w' hij hj u' => s7_calls ((HQ.out.2.2.step (u.step u')).some (HJ.out.2.2.cell (i := 0) rfl) (by simp)) ((u.step u').some (HQ.out.1.cell (i := 0) rfl) (by simp)) ((u.step u').some (HQ.out.2.1.cell (i := 0) rfl) (by simp)) (m1.ext (u.step u')) (m2.ext (HUZ.out.step (u.step u'))) hij hj hs))
          clear m1 m2 p1 p2
          go_wp2_with ((with_reducible refine (HT2.out _ (by iterate 25 (first | exact Upd.refl _ _ | assumption | refine Upd.alloc ?_ _ | refine Upd.drew ?_ | refine Upd.drewN ?_ _ | refine Upd.dl ?_ | refine Upd.step ?_ (Ext.upd _) | refine Upd.nil ?_ | skip))).mono ?_); rintro e w5 ⟨v5, rfl, o5, u5⟩; obtain ⟨ng, no, nc, rfl, nq1, nq2⟩ := o5.form (by omega); have HE := Lib.hid (And.intro o5 (HQ.out.2.2.step (Upd.step (by iterate 25 (first | exact Upd.refl _ _ | assumption | refine Upd.alloc ?_ _ | refine Upd.drew ?_ | refine Upd.drewN ?_ _ | refine Upd.dl ?_ | refine Upd.step ?_ (Ext.upd _) | refine Upd.nil ?_ | skip)) u5))); clear o5 u5)
          exact ⟨⟨k + 1, ng, no, nc, by go_num, by omega, rfl, nq1, nq2, Lib.hid ⟨by rw [HR.out]; exact HE.out.1, HJ.out.2.1.step HE.out.2, HJ.out.2.2.upd HE.out.2 (by simp)⟩⟩, by simp [intOf]; omega⟩
        · have hke : k = ks.length := by omega
          subst hke
          have hni : ¬ ((ks.length : Int) < ks.length) := by omega
          have HE := Lib.hid (HJ.out.1.congr (Q := Lg (nd 5 lo hi ks)) (fun u => by rw [List.take_length, many5]))
          go_wp2_with fail
          go_ret
          exact ⟨_, rfl, HE.out, HB.out.1.step HJ.out.2.1⟩
    · have HK := Lib.hid (fun (w5 : World) (v5 : Value) (h : RxV [] w5 y v5) => HI.out y (by simp) (w := w5) (v := v5) hy h)
      obtain ⟨yg, yo, ya, yc, rfl, hRF, e0, e1, e2, e3⟩ := HB.out.2.1.kid (i := 0) (r := y) rfl
      simp only [Nat.zero_mul, Nat.add_zero] at e0 e1 e2 e3
      have HY := Lib.hid (fun (w5 : World) (u : Upd [] w1 w5) => HK.out w5 _ (hRF.ext u).val)
      have hl1 : [y].length = 1 := rfl
      rw [hl1] at k3
      clear hRF HK HI HP hl1
      go_upto_region 29 with fail
      refine wp_region_wa 8 5 (fun w' => ∃ x : Ext w1, w' = x.val) (by kernel_rfl) (by kernel_rfl) (Ext.of (by iterate 25 (first | exact Upd.refl _ _ | assumption | refine Upd.alloc ?_ _ | refine Upd.drew ?_ | refine Upd.drewN ?_ _ | refine Upd.dl ?_ | refine Upd.step ?_ (Ext.upd _) | refine Upd.nil ?_ | skip))) ?_
      (refine WA.free 0 rfl rfl (by kernel_rfl) (fun K hK => ?_); go_big_quiet_step (fail); refine wpQuiet_nil ?_; refine hK _ ?_; clear hK K)
      (refine WA.load 1 5 rfl rfl (by kernel_rfl) (by kernel_rfl) (fun K hK => ?_); go_big_quiet_step (fail); refine wpQuiet_nil ?_; refine hK _ ?_; clear hK K)
      (refine WA.free 2 rfl rfl (by kernel_rfl) (fun K hK => ?_); go_big_quiet_step (fail); refine wpQuiet_nil ?_; refine hK _ ?_; clear hK K)
      (refine WA.load 3 5 rfl rfl (by kernel_rfl) (by kernel_rfl) (fun K hK => ?_); go_big_quiet_step (fail); refine wpQuiet_nil ?_; refine hK _ ?_; clear hK K)
      (refine WA.load 4 5 rfl rfl (by kernel_rfl) (by kernel_rfl) (fun K hK => ?_); go_big_quiet_step (fail); refine wpQuiet_nil ?_; refine hK _ ?_; clear hK K)
      refine WA.two 5 6 (by kernel_rfl) (Do_.mk rfl (fun K hK => ?_)) (Do_.mk rfl (fun K hK => ?_))
      · go_wp2_with ((with_reducible refine (HY.out _ (by iterate 25 (first | exact Upd.refl _ _ | assumption | refine Upd.alloc ?_ _ | refine Upd.drew ?_ | refine Upd.drewN ?_ _ | refine Upd.dl ?_ | refine Upd.step ?_ (Ext.upd _) | refine Upd.nil ?_ | skip))).mono ?_); rintro e w5 ⟨v5, rfl, o5, u5⟩; obtain ⟨zg, zo, zc, rfl, zq1, zq2⟩ := o5.form (by omega); have HZ := Lib.hid (And.intro (show Upd [] w1 w5 from Upd.step (by iterate 25 (first | exact Upd.refl _ _ | assumption | refine Upd.alloc ?_ _ | refine Upd.drew ?_ | refine Upd.drewN ?_ _ | refine Upd.dl ?_ | refine Upd.step ?_ (Ext.upd _) | refine Upd.nil ?_ | skip)) u5) o5); clear o5 u5)
        refine WA.past (by kernel_rfl) ?_
        refine WA.one 6 (by kernel_rfl) (Do_.mk rfl (fun K hK => ?_))
        go_wp2_with fail
        refine WA.past (by kernel_rfl) ?_
        refine WA.one 7 (by kernel_rfl) (Do_.mk rfl (fun K hK => ?_))
        go_wp2_with fail
        refine WA.past (by kernel_rfl) ?_
        refine WA.nil (by kernel_rfl) ?_
        have HQ := Lib.hid (show Blk (w5.alloc (.cells #[.slice (some ⟨zg, zo, none⟩) N zc] 133)) w5.heap.size [.slice (some ⟨zg, zo, none⟩) N zc] 133 ∧ MatS N (Lg y) s (.slice (some ⟨zg, zo, none⟩) N zc) (w5.alloc (.cells #[.slice (some ⟨zg, zo, none⟩) N zc] 133)) ∧ Upd [] w1 (w5.alloc (.cells #[.slice (some ⟨zg, zo, none⟩) N zc] 133)) from ⟨Blk.new w5 _ _, HZ.out.2.ext ((Upd.refl [] w5).alloc _), HZ.out.1.alloc _⟩)
        generalize (w5.alloc (.cells #[.slice (some ⟨zg, zo, none⟩) N zc] 133)) = wf at *
        generalize w5.heap.size = nb at *
        have s1 := HQ.out.2.2.some HSB.out (by simp)
        obtain ⟨A, m1, p1⟩ := HQ.out.2.1
        have HT := Lib.hid (fun (w6 : World) (u : Upd [] wf w6) => table_S (w := w6) (s := s) (g := 111) (N := N) (cb := #[.pointer (some ⟨nb, 0, none⟩)]) (F := fun i j => !A i j) (P := fun u => ¬ Lg y u) (by intro args w; rfl) hN hs (Sp.not p1) (fun i j w' hij hj u' => s8_calls ((u.step u').some (HQ.out.1.cell (i := 0) rfl) (by simp)) (m1.ext (u.step u')) hij hj hs))
        clear m1 p1
        go_wp2_with ((with_reducible refine (HT.out _ (by iterate 25 (first | exact Upd.refl _ _ | assumption | refine Upd.alloc ?_ _ | refine Upd.drew ?_ | refine Upd.drewN ?_ _ | refine Upd.dl ?_ | refine Upd.step ?_ (Ext.upd _) | refine Upd.nil ?_ | skip))).mono ?_); rintro e w6 ⟨v6, rfl, o6, u6⟩; have HV := Lib.hid (And.intro o6 (show Upd [] wf w6 from Upd.step (by iterate 25 (first | exact Upd.refl _ _ | assumption | refine Upd.alloc ?_ _ | refine Upd.drew ?_ | refine Upd.drewN ?_ _ | refine Upd.dl ?_ | refine Upd.step ?_ (Ext.upd _) | refine Upd.nil ?_ | skip)) u6)); clear o6 u6)
        go_ret
        exact ⟨_, rfl, HV.out.1.congr (fun u => by rw [Lg6]; rfl), HB.out.1.step (HQ.out.2.2.step HV.out.2)⟩
      · go_wp2_with fail
        have HN := Lib.hid (show Blk ((w1.alloc (.cells #[.slice none 0 0] 133)).drew) w1.heap.size [.slice none 0 0] 133 ∧ Upd [] w1 ((w1.alloc (.cells #[.slice none 0 0] 133)).drew) ∧ w1.heap.size ≤ w1.heap.size from ⟨Blk.new w1 _ _, ((Upd.refl [] w1).alloc _).drew, Nat.le_refl _⟩)
        generalize ((w1.alloc (.cells #[.slice none 0 0] 133)).drew) = wn at *
        generalize hnb : w1.heap.size = nb at HN ⊢
        refine WA.keep (Ext.of HN.out.2.1) ?_
        refine WA.one 5 (by kernel_rfl) (Do_.mk rfl (fun K hK => ?_))
        go_wp2_with ((with_reducible refine (HY.out _ HN.out.2.1).mono ?_); rintro e w5 ⟨v5, rfl, o5, u5⟩; obtain ⟨zg, zo, zc, rfl, zq1, zq2⟩ := o5.form (by omega); have HZ := Lib.hid (And.intro (HN.out.1.upd u5 (by simp)) (And.intro o5 (HN.out.2.1.step u5))); clear o5 u5)
        have n0 := HZ.out.1.cell (i := 0) rfl
        have nf : ∀ q, w5.frozen? ⟨nb, q, none⟩ = false := HZ.out.1.free
        refine WA.past (by kernel_rfl) ?_
        refine WA.one 7 (by kernel_rfl) (Do_.mk rfl (fun K hK => ?_))
        go_wp2_with fail
        refine WA.past (by kernel_rfl) ?_
        refine WA.nil (by kernel_rfl) ?_
        have us : Upd [nb] w5 (w5.setCell ⟨nb, 0, none⟩ (.slice (some ⟨zg, zo, none⟩) N zc)) := (Upd.refl [nb] w5).set (p := ⟨nb, 0, none⟩) (by simp) _
        have HQ := Lib.hid (And.intro (HZ.out.1.set 0 (.slice (some ⟨zg, zo, none⟩) N zc)) (And.intro (HZ.out.2.1.off HZ.out.1 (by omega) us) (HZ.out.2.2.fresh us (fun b hb => .inr (by simp at hb; subst hb; have := HN.out.2.2; omega)))))
        clear us n0 nf
        generalize (w5.setCell ⟨nb, 0, none⟩ (.slice (some ⟨zg, zo, none⟩) N zc)) = wf at *
        have s1 := HQ.out.2.2.some HSB.out (by simp)
        obtain ⟨A, m1, p1⟩ := HQ.out.2.1
        have HT := Lib.hid (fun (w6 : World) (u : Upd [] wf w6) => table_S (w := w6) (s := s) (g := 111) (N := N) (cb := #[.pointer (some ⟨nb, 0, none⟩)]) (F := fun i j => !A i j) (P := fun u => ¬ Lg y u) (by intro args w; rfl) hN hs (Sp.not p1) (fun i j w' hij hj u' => s8_calls ((u.step u').some (HQ.out.1.cell (i := 0) rfl) (by simp)) (m1.ext (u.step u')) hij hj hs))
        clear m1 p1
        go_wp2_with ((with_reducible refine (HT.out _ (by iterate 25 (first | exact Upd.refl _ _ | assumption | refine Upd.alloc ?_ _ | refine Upd.drew ?_ | refine Upd.drewN ?_ _ | refine Upd.dl ?_ | refine Upd.step ?_ (Ext.upd _) | refine Upd.nil ?_ | skip))).mono ?_); rintro e w6 ⟨v6, rfl, o6, u6⟩; have HV := Lib.hid (And.intro o6 (show Upd [] wf w6 from Upd.step (by iterate 25 (first | exact Upd.refl _ _ | assumption | refine Upd.alloc ?_ _ | refine Upd.drew ?_ | refine Upd.drewN ?_ _ | refine Upd.dl ?_ | refine Upd.step ?_ (Ext.upd _) | refine Upd.nil ?_ | skip)) u6)); clear o6 u6)
        go_ret
        exact ⟨_, rfl, HV.out.1.congr (fun u => by rw [Lg6]; rfl), HB.out.1.step (HQ.out.2.2.step HV.out.2)⟩
    · have HK := Lib.hid (fun (w5 : World) (v5 : Value) (h : RxV [] w5 y v5) => HI.out y (by simp) (w := w5) (v := v5) hy h)
      obtain ⟨yg, yo, ya, yc, rfl, hRF, e0, e1, e2, e3⟩ := HB.out.2.1.kid (i := 0) (r := y) rfl
      simp only [Nat.zero_mul, Nat.add_zero] at e0 e1 e2 e3
      have HY := Lib.hid (fun (w5 : World) (u : Upd [] w1 w5) => HK.out w5 _ (hRF.ext u).val)
      have hl1 : [y].length = 1 := rfl
      rw [hl1] at k3
      clear hRF HK HI HP hl1
      go_upto_region 31 with fail
      refine wp_region_ord 7 4 [0, 1, 2, 3, 4, 6, 8] [1, 3, 4, 6] [0, 1, 2, 3, 4, 6, 5, 7, 8] (fun w' => ∃ x : Ext w1, w' = x.val) (by kernel_rfl) (by kernel_rfl) (Ext.of (by iterate 25 (first | exact Upd.refl _ _ | assumption | refine Upd.alloc ?_ _ | refine Upd.drew ?_ | refine Upd.drewN ?_ _ | refine Upd.dl ?_ | refine Upd.step ?_ (Ext.upd _) | refine Upd.nil ?_ | skip))) ?_
      repeat (first | (refine wpOrd_load rfl rfl rfl rfl (fun K hK => ?_); go_big_quiet_step (fail); refine wpQuiet_nil ?_; refine hK _ ?_; clear hK K) | (refine wpOrd_free rfl rfl rfl (fun K hK => ?_); go_big_quiet_step (fail); refine wpQuiet_nil ?_; refine hK _ ?_; clear hK K))
      refine wpOrd_fix rfl rfl (fun K hK => ?_)
      go_wp2_with ((with_reducible refine (HY.out _ (by iterate 25 (first | exact Upd.refl _ _ | assumption | refine Upd.alloc ?_ _ | refine Upd.drew ?_ | refine Upd.drewN ?_ _ | refine Upd.dl ?_ | refine Upd.step ?_ (Ext.upd _) | refine Upd.nil ?_ | skip))).mono ?_); rintro e w5 ⟨v5, rfl, o5, u5⟩; obtain ⟨zg, zo, zc, rfl, zq1, zq2⟩ := o5.form (by omega); have HZ := Lib.hid (And.intro (show Upd [] w1 w5 from Upd.step (by iterate 25 (first | exact Upd.refl _ _ | assumption | refine Upd.alloc ?_ _ | refine Upd.drew ?_ | refine Upd.drewN ?_ _ | refine Upd.dl ?_ | refine Upd.step ?_ (Ext.upd _) | refine Upd.nil ?_ | skip)) u5) o5); clear o5 u5)
      refine ⟨by first | exact Ext.of HZ.out.1 | exact fun _ => Ext.of HZ.out.1, ?_⟩
      repeat (first | (refine wpOrd_load rfl rfl rfl rfl (fun K hK => ?_); go_big_quiet_step (fail); refine wpQuiet_nil ?_; refine hK _ ?_; clear hK K) | (refine wpOrd_free rfl rfl rfl (fun K hK => ?_); go_big_quiet_step (fail); refine wpQuiet_nil ?_; refine hK _ ?_; clear hK K))
      refine wpOrd_fix rfl rfl (fun K hK => ?_)
      obtain ⟨A, m1, p1⟩ := HZ.out.2
      have HR := Lib.hid (repeated_calls m1 p1 hN hs)
      clear m1 p1
      go_wp2_with ((with_reducible refine HR.out.mono ?_); rintro e w6 ⟨v6, rfl, o6⟩; have HV := Lib.hid (MatS.of_S o6 hs); clear o6)
      refine ⟨fun hC => absurd hC (by decide), ?_⟩
      repeat (first | (refine wpOrd_load rfl rfl rfl rfl (fun K hK => ?_); go_big_quiet_step (fail); refine wpQuiet_nil ?_; refine hK _ ?_; clear hK K) | (refine wpOrd_free rfl rfl rfl (fun K hK => ?_); go_big_quiet_step (fail); refine wpQuiet_nil ?_; refine hK _ ?_; clear hK K))
      refine wpOrd_nil ?_
      go_wp2_with fail
      go_ret
      exact ⟨_, rfl, HV.out.1.congr (fun u => by rw [Lg7]; rfl), HB.out.1.step (HZ.out.1.step HV.out.2)⟩
end
end Rgx
end Go.Proofs.YtjclbjdkkdijbaaGreat
end
section
open Go.RowKit
namespace Go.Proofs.YtjclbjdkkdijbaaGreat
open L
namespace Rgx
open Rx
attribute [-go_sem] sliced
section
variable {w w' : World} {v : Value}
set_option maxRecDepth 100000 in
set_option maxHeartbeats 8000000 in
theorem Match_calls {r : Rx} (hr : RxV [] w r v) (hv : vErr r = 0) (s : ByteArray) (hs : s.size ≤ 64) :
    Calls Tryz.prog 42 #[v, .string s] w fun e w' => ∃ b : Bool, e = .returned (.tuple #[.bool b, .int .i64 0]) ∧ (b = true ↔ Lg r (bt s)) ∧ Upd [] w w' := by
  have HV := Lib.hid (fun (w5 : World) (u : Upd [] w w5) => valid_calls (hr.ext u))
  obtain ⟨N, hN⟩ : ∃ N, N = s.size + 1 := ⟨_, rfl⟩
  have HS := Lib.hid (fun (w5 : World) (u : Upd [] w w5) => spans_calls (s := s) (N := N) (by omega) (by omega) r (vErr_zero hv).2 (hr.ext u))
  rw [hv] at HV
  obtain ⟨a, c, rfl, hF, _, _⟩ := hr.shape
  clear hr hv
  have HF := Lib.hid hF
  clear hF
  go_enter Tryz.func42, Tryz.ntmps42
  go_upto_region 1 with fail
  have b1 := Blk.new w (rxC r.kind r.lo r.hi (.slice a r.kids.length c)) 37
  have u1 := (Upd.refl [] w).alloc (.cells (rxC r.kind r.lo r.hi (.slice a r.kids.length c)).toArray 37)
  change Code.wp _ _ _ _ (w.alloc (.cells (rxC r.kind r.lo r.hi (.slice a r.kids.length c)).toArray 37))
  generalize (w.alloc (.cells (rxC r.kind r.lo r.hi (.slice a r.kids.length c)).toArray 37)) = w1 at *
  have k0 := b1.cell (i := 0) rfl
  have k1 := b1.cell (i := 1) rfl
  have k2 := b1.cell (i := 2) rfl
  have k3 := b1.cell (i := 3) rfl
  have HU := Lib.hid u1
  clear b1 u1
  generalize w.heap.size = pb at *
  go_upto_region 2 with ((with_reducible refine (HV.out _ (HU.out.step (by iterate 25 (first | exact Upd.refl _ _ | assumption | refine Upd.alloc ?_ _ | refine Upd.drew ?_ | refine Upd.drewN ?_ _ | refine Upd.dl ?_ | refine Upd.step ?_ (Ext.upd _) | refine Upd.nil ?_ | skip)))).mono ?_); rintro e w2 ⟨rfl, u2⟩)
  have HU2 := Lib.hid (show Upd [] w1 w2 from Upd.step (by iterate 25 (first | exact Upd.refl _ _ | assumption | refine Upd.alloc ?_ _ | refine Upd.drew ?_ | refine Upd.drewN ?_ _ | refine Upd.dl ?_ | refine Upd.step ?_ (Ext.upd _) | refine Upd.nil ?_ | skip)) u2)
  clear u2
  have k0 := HU2.out.some k0 (by simp)
  have k1 := HU2.out.some k1 (by simp)
  have k2 := HU2.out.some k2 (by simp)
  have k3 := HU2.out.some k3 (by simp)
  have hgt : ¬ ((64 : Int) < s.size) := by omega
  have hsz : (s.size : Int) ≤ 64 := by omega
  have hsN : (s.size : Int) < N := by omega
  have HNN := Lib.hid (And.intro (show 0 < N by omega) (show s.size < N by omega))
  have HBT := Lib.hid (bt_len s)
  clear hN
  go_upto_region 6 with fail
  go_wp2_with ((with_reducible refine (HS.out _ (HU.out.step (HU2.out.step (by iterate 25 (first | exact Upd.refl _ _ | assumption | refine Upd.alloc ?_ _ | refine Upd.drew ?_ | refine Upd.drewN ?_ _ | refine Upd.dl ?_ | refine Upd.step ?_ (Ext.upd _) | refine Upd.nil ?_ | skip))))).mono ?_); rintro e w3 ⟨v3, rfl, ⟨A, m3, p3⟩, u3⟩; obtain ⟨g, off, cap, rfl, q1, q2, hc⟩ := m3.form (by have := HNN.out.1; omega); obtain ⟨rg, ro, rc, c1, q3, q4, c2⟩ := hc 0 s.size (Nat.zero_le _) HNN.out.2; have HZ := Lib.hid (And.intro u3 (p3 0 s.size (Nat.zero_le _) (by have := HBT.out; omega))); clear u3 m3 p3 hc; simp only [Nat.add_zero] at c1)
  go_ret2
  exact ⟨_, rfl, by rw [HZ.out.2, ← HBT.out, seg_all], HU.out.step (HU2.out.step (Upd.step (by iterate 25 (first | exact Upd.refl _ _ | assumption | refine Upd.alloc ?_ _ | refine Upd.drew ?_ | refine Upd.drewN ?_ _ | refine Upd.dl ?_ | refine Upd.step ?_ (Ext.upd _) | refine Upd.nil ?_ | skip)) HZ.out.1))⟩
end
end Rgx
end Go.Proofs.YtjclbjdkkdijbaaGreat
end
