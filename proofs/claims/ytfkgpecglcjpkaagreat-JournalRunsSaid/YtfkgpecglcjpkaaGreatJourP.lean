/- Frames of records as bytes: plain facts. No program is named. Conditions: none. -/
import Derived.Test.YtfkgpecglcjpkaaGreatHashP
import Derived.Test.YtfkgpecglcjpkaaGreatWireI
set_option linter.unusedVariables false
set_option linter.unusedSimpArgs false
set_option linter.unusedSectionVars false
open Go.RowKit
namespace Go.Proofs.YtfkgpecglcjpkaaGreat
open L
namespace Jour
open Wire Hash
theorem pre_get {f b : List Int} (h : f <+: b) : ∃ t, b = f ++ t := by obtain ⟨t, h⟩ := h; exact ⟨t, h.symm⟩
/-- The bytes of a byte slice. -/
def rb (b : List Int) : List Int := ub b.length ++ b
theorem rb_length (b : List Int) : 1 + b.length ≤ (rb b).length ∧ (rb b).length ≤ 10 + b.length := by
  have := ub_length b.length
  unfold rb
  rw [List.length_append]
  omega
/-- What reading a byte slice gives: the bytes, the place behind them, the error. -/
def rdR (bs : List Int) (p : Nat) (e : Int) : List Int × Nat × Int :=
  if (rdU bs p e).2.2 ≠ 0 then ([], (rdU bs p e).2)
  else if bs.length - (rdU bs p e).2.1 < (rdU bs p e).1 then ([], (rdU bs p e).2.1, 3)
  else ((bs.drop (rdU bs p e).2.1).take (rdU bs p e).1, (rdU bs p e).2.1 + (rdU bs p e).1, 0)
theorem rdR_write (front b rest : List Int) (hb : b.length < 18446744073709551616) : rdR (front ++ (rb b ++ rest)) front.length 0 = (b, front.length + (rb b).length, 0) := by
  have h := rdU_write front (b ++ rest) hb
  have e : front ++ (rb b ++ rest) = front ++ (ub b.length ++ (b ++ rest)) := by unfold rb; rw [List.append_assoc]
  unfold rdR
  rw [e, h]
  simp only
  rw [if_neg (by simp), if_neg (by simp only [List.length_append]; omega)]
  have e2 : (front ++ (ub b.length ++ (b ++ rest))).drop (front.length + (ub b.length).length) = b ++ rest := by
    rw [← List.append_assoc, ← List.length_append, List.drop_left]
  rw [e2, List.take_left]
  refine Prod.ext rfl (Prod.ext ?_ rfl)
  unfold rb
  simp only [List.length_append]
  omega
theorem rdR_pl {bs : List Int} {p : Nat} {e : Int} (hp : p ≤ bs.length) : (rdR bs p e).2.1 ≤ bs.length := by
  have h := rdU_le (e := e) hp
  unfold rdR
  split
  · exact h
  · split
    · exact h
    · simp only; omega
theorem rdR_mem {bs : List Int} {p : Nat} {e : Int} : ∀ x ∈ (rdR bs p e).1, x ∈ bs := by
  intro x hx
  unfold rdR at hx
  split at hx
  · simp at hx
  · split at hx
    · simp at hx
    · exact List.mem_of_mem_drop (List.mem_of_mem_take hx)
theorem rdR_len {bs : List Int} {p : Nat} {e : Int} : (rdR bs p e).1.length ≤ bs.length := by
  unfold rdR
  split
  · simp
  · split
    · simp
    · rw [List.length_take, List.length_drop]; omega
theorem ub_cut {n m : Nat} {s t : List Int} (hn : n < 18446744073709551616) (hm : m < 18446744073709551616) (h : ub n ++ s = ub m ++ t) : n = m ∧ s = t := by
  have h1 := rdU_write [] s hn
  have h2 := rdU_write [] t hm
  simp only [List.nil_append] at h1 h2
  rw [h, h2] at h1
  have e : n = m := by simpa using (congrArg Prod.fst h1).symm
  subst e
  exact ⟨rfl, List.append_cancel_left h⟩
theorem rb_cut {a b s t : List Int} (ha : a.length < 18446744073709551616) (hb : b.length < 18446744073709551616) (h : rb a ++ s = rb b ++ t) : a = b ∧ s = t := by
  unfold rb at h
  rw [List.append_assoc, List.append_assoc] at h
  obtain ⟨h1, h2⟩ := ub_cut ha hb h
  exact List.append_inj h2 h1
/-- The core of a record. -/
def coreB (k : Int) (b : List Int) : List Int := ib k ++ rb b
theorem coreB_length (k : Int) (b : List Int) : 2 + b.length ≤ (coreB k b).length ∧ (coreB k b).length ≤ 20 + b.length := by
  have h1 := ib_length k
  have h2 := rb_length b
  unfold coreB
  rw [List.length_append]
  omega
theorem coreB_inj {k j : Int} {a b : List Int} (hk : IsI64 k) (hj : IsI64 j) (ha : a.length < 18446744073709551616) (hb : b.length < 18446744073709551616) (h : coreB k a = coreB j b) : k = j ∧ a = b := by
  unfold coreB ib at h
  obtain ⟨h1, h2⟩ := ub_cut (zz_lt hk) (zz_lt hj) h
  refine ⟨by rw [← uzz_zz k, h1, uzz_zz], ?_⟩
  exact (rb_cut (s := []) (t := []) ha hb (by simpa using h2)).1
/-- The hash of a frame. -/
def frW : List Nat := [leN [102, 114, 97, 109, 101]]
noncomputable def hF (c : List Int) : Nat := bytesN frW 5 c
theorem hF_lt (c : List Int) : hF c < 18446744073709551616 := bytesN_lt _ _ _
/-- The frame of a record. -/
noncomputable def frB (k : Int) (b : List Int) : List Int := rb (coreB k b) ++ ub (hF (coreB k b))
theorem frB_length (k : Int) (b : List Int) : 4 + b.length ≤ (frB k b).length ∧ (frB k b).length ≤ 40 + b.length := by
  have h1 := rb_length (coreB k b)
  have h2 := coreB_length k b
  have h3 := ub_length (hF (coreB k b))
  unfold frB
  rw [List.length_append]
  omega
theorem frB_cut {k j : Int} {a b s t : List Int} (hk : IsI64 k) (hj : IsI64 j) (ha : a.length < 1000000000000) (hb : b.length < 1000000000000) (h : frB k a ++ s = frB j b ++ t) : k = j ∧ a = b := by
  have h1 := coreB_length k a
  have h2 := coreB_length j b
  unfold frB at h
  rw [List.append_assoc, List.append_assoc] at h
  exact coreB_inj hk hj (by omega) (by omega) (rb_cut (by omega) (by omega) h).1
theorem rb_u8 {b : List Int} (h : ∀ x ∈ b, IsU8 x) (hb : b.length < 18446744073709551616) : ∀ x ∈ rb b, IsU8 x := by
  intro x hx
  rcases List.mem_append.1 hx with hx | hx
  · exact ub_u8 hb x hx
  · exact h x hx
theorem coreB_u8 {k : Int} {b : List Int} (hk : IsI64 k) (h : ∀ x ∈ b, IsU8 x) (hb : b.length < 18446744073709551616) : ∀ x ∈ coreB k b, IsU8 x := by
  intro x hx
  rcases List.mem_append.1 hx with hx | hx
  · exact ib_u8 hk x hx
  · exact rb_u8 h hb x hx
theorem frB_u8 {k : Int} {b : List Int} (hk : IsI64 k) (h : ∀ x ∈ b, IsU8 x) (hb : b.length < 1000000000000) : ∀ x ∈ frB k b, IsU8 x := by
  intro x hx
  have h1 := coreB_length k b
  rcases List.mem_append.1 hx with hx | hx
  · exact rb_u8 (coreB_u8 hk h (by omega)) (by omega) x hx
  · exact ub_u8 (hF_lt _) x hx
/-- The core with which bytes begin. -/
def corP (b : List Int) : Option (List Int) :=
  if ub (rdU (b.take 10) 0 0).1 <+: b ∧ (rdU (b.take 10) 0 0).1 ≤ b.length - (ub (rdU (b.take 10) 0 0).1).length then some ((b.drop (ub (rdU (b.take 10) 0 0).1).length).take (rdU (b.take 10) 0 0).1) else none
theorem corP_write (c t : List Int) (hc : c.length < 18446744073709551616) : corP (rb c ++ t) = some c := by
  have hl := ub_length c.length
  have e : rb c ++ t = ub c.length ++ (c ++ t) := by unfold rb; rw [List.append_assoc]
  have e1 : (rb c ++ t).take 10 = ub c.length ++ ((c ++ t).take (10 - (ub c.length).length)) := by rw [e, List.take_append, List.take_of_length_le (by omega)]
  have e2 : (rdU ((rb c ++ t).take 10) 0 0).1 = c.length := by
    rw [e1]
    have := rdU_write [] ((c ++ t).take (10 - (ub c.length).length)) hc
    simp only [List.nil_append] at this
    rw [show ([] : List Int).length = 0 from rfl] at this
    rw [this]
  unfold corP
  rw [e2, e, if_pos ⟨⟨_, rfl⟩, by simp only [List.length_append]; omega⟩, List.drop_left, List.take_left]
/-- The record with a number with whose frame bytes begin: as the program finds it. -/
noncomputable def fstP (k : Int) (b : List Int) : Option (List Int) :=
  match corP b with
  | none => none
  | some c =>
    let r := rdR c (rdU c 0 0).2.1 (rdU c 0 0).2.2
    if r.2.2 = 0 ∧ ¬ r.2.1 < c.length ∧ uzz (rdU c 0 0).1 = k ∧ frB k r.1 <+: b then some r.1 else none
theorem rd_core {k : Int} {x : List Int} (hk : IsI64 k) (hx : x.length < 18446744073709551616) : rdU (coreB k x) 0 0 = (zz k, (ib k).length, 0) ∧ rdR (coreB k x) (ib k).length 0 = (x, (coreB k x).length, 0) := by
  have h1 := rdU_write [] (rb x) (zz_lt hk)
  simp only [List.nil_append, List.length_nil, Nat.zero_add] at h1
  have h2 := rdR_write (ib k) x [] hx
  rw [List.append_nil] at h2
  refine ⟨h1, ?_⟩
  unfold coreB
  rw [h2, List.length_append]
theorem fstP_iff {k : Int} {b x : List Int} (hk : IsI64 k) (hb : b.length < 1000000000000) : fstP k b = some x ↔ frB k x <+: b := by
  constructor
  · intro h
    unfold fstP at h
    cases hc : corP b with
    | none => rw [hc] at h; cases h
    | some c =>
      rw [hc] at h
      simp only at h
      split at h
      · rename_i hh
        cases h
        exact hh.2.2.2
      · cases h
  · intro h
    obtain ⟨t, ht⟩ := pre_get h
    have hl := congrArg List.length ht
    rw [List.length_append] at hl
    have h1 := frB_length k x
    have h2 := coreB_length k x
    have hc : corP b = some (coreB k x) := by
      rw [ht]
      unfold frB
      rw [List.append_assoc]
      exact corP_write _ _ (by omega)
    obtain ⟨r1, r2⟩ := rd_core (k := k) (x := x) hk (by omega)
    unfold fstP
    rw [hc]
    simp only
    rw [r1, r2]
    simp only
    rw [uzz_zz, if_pos ⟨trivial, by omega, rfl, h⟩]
/-- .. as the reference finds it. -/
noncomputable def fstR (k : Int) (b : List Int) : Option (List Int) :=
  let c := rdR b 0 0
  let r := rdR c.1 (rdU c.1 0 0).2.1 (rdU c.1 0 0).2.2
  if c.2.2 = 0 ∧ r.2.2 = 0 ∧ (frB k r.1).length ≤ b.length ∧ frB k r.1 = b.take (frB k r.1).length then some r.1 else none
theorem fstR_iff {k : Int} {b x : List Int} (hk : IsI64 k) (hb : b.length < 1000000000000) : fstR k b = some x ↔ frB k x <+: b := by
  constructor
  · intro h
    unfold fstR at h
    simp only at h
    split at h
    · rename_i hh
      cases h
      exact List.prefix_iff_eq_take.2 hh.2.2.2
    · cases h
  · intro h
    obtain ⟨t, ht⟩ := pre_get h
    have hl := congrArg List.length ht
    rw [List.length_append] at hl
    have h1 := frB_length k x
    have h2 := coreB_length k x
    have hc : rdR b 0 0 = (coreB k x, (rb (coreB k x)).length, 0) := by
      have := rdR_write [] (coreB k x) (ub (hF (coreB k x)) ++ t) (by omega)
      simp only [List.nil_append, List.length_nil, Nat.zero_add] at this
      rw [ht]
      unfold frB
      rw [List.append_assoc]
      exact this
    obtain ⟨r1, r2⟩ := rd_core (k := k) (x := x) hk (by omega)
    unfold fstR
    rw [hc]
    simp only
    rw [r1]
    simp only
    rw [r2]
    simp only
    rw [if_pos ⟨trivial, trivial, by omega, List.prefix_iff_eq_take.1 h⟩]
theorem fst_eq {k : Int} {b : List Int} (hk : IsI64 k) (hb : b.length < 1000000000000) : fstR k b = fstP k b := by
  cases h : fstP k b with
  | some x => exact (fstR_iff hk hb).2 ((fstP_iff hk hb).1 h)
  | none =>
    cases h2 : fstR k b with
    | none => rfl
    | some y => rw [(fstP_iff hk hb).2 ((fstR_iff hk hb).1 h2)] at h; cases h
/-- The frames of records, one behind the other. -/
noncomputable def cat : Nat → List (List Int) → List Int
  | _, [] => []
  | k, x :: l => frB k x ++ cat (k + 1) l
theorem cat_append : ∀ (k : Nat) (l m : List (List Int)), cat k (l ++ m) = cat k l ++ cat (k + l.length) m
  | k, [], m => by simp [cat]
  | k, x :: l, m => by
    rw [List.cons_append, cat, cat, cat_append (k + 1) l m, List.append_assoc, List.length_cons, show k + 1 + l.length = k + (l.length + 1) by omega]
theorem cat_snoc (k : Nat) (l : List (List Int)) (x : List Int) : cat k (l ++ [x]) = cat k l ++ frB ((k + l.length : Nat) : Int) x := by
  rw [cat_append, cat, cat, List.append_nil]
theorem cat_len : ∀ (k : Nat) (l : List (List Int)), 4 * l.length ≤ (cat k l).length
  | _, [] => by simp [cat]
  | k, x :: l => by
    have h1 := cat_len (k + 1) l
    have h2 := frB_length k x
    rw [cat, List.length_append, List.length_cons]
    omega
/-- The records at the beginning of bytes. -/
structure Scn (b : List Int) (l : List (List Int)) : Prop where
  pre : cat 0 l <+: b
  max : ∀ x, ¬ frB (l.length : Int) x <+: b.drop (cat 0 l).length
theorem step_pre {b : List Int} {l : List (List Int)} {x : List Int} (h : cat 0 l <+: b) (hx : frB (l.length : Int) x <+: b.drop (cat 0 l).length) : cat 0 (l ++ [x]) <+: b := by
  obtain ⟨t, rfl⟩ := pre_get h
  rw [List.drop_left] at hx
  rw [cat_snoc, Nat.zero_add]
  obtain ⟨s, hs⟩ := pre_get hx
  exact ⟨s, by rw [List.append_assoc, ← hs]⟩
theorem pre_step {b : List Int} {l : List (List Int)} {x : List Int} (h : cat 0 (l ++ [x]) <+: b) : cat 0 l <+: b ∧ frB (l.length : Int) x <+: b.drop (cat 0 l).length := by
  obtain ⟨t, rfl⟩ := pre_get h
  rw [cat_snoc, Nat.zero_add]
  exact ⟨⟨frB (l.length : Int) x ++ t, by rw [List.append_assoc]⟩, by rw [List.append_assoc, List.drop_left]; exact ⟨t, rfl⟩⟩
theorem i64_len {l : List (List Int)} {b : List Int} (h : cat 0 l <+: b) (hb : b.length < 1000000000000) : IsI64 (l.length : Int) := by
  have h1 := cat_len 0 l
  have h2 := h.length_le
  unfold IsI64
  omega
/-- Whatever frames bytes begin with are found. -/
theorem Scn.has {b : List Int} {l : List (List Int)} (h : Scn b l) (hb : b.length < 1000000000000) (m : List (List Int)) (hm : cat 0 m <+: b) : m <+: l := by
  have key : ∀ n, n ≤ m.length → m.take n <+: l := by
    intro n
    induction n with
    | zero => intro _; simp
    | succ n ih =>
      intro hn
      obtain ⟨t, ht⟩ := ih (by omega)
      have e1 : m.take (n + 1) = m.take n ++ [m[n]] := by rw [List.take_add_one, List.getElem?_eq_getElem (by omega)]; rfl
      have e2 : m.take (n + 1) <+: m := List.take_prefix _ _
      have hp : cat 0 (m.take n ++ [m[n]]) <+: b := by
        rw [← e1]
        obtain ⟨s, hs⟩ := e2
        rw [← hs, cat_append] at hm
        obtain ⟨r, hr⟩ := pre_get hm
        exact ⟨cat (0 + (m.take (n + 1)).length) s ++ r, by rw [hr, List.append_assoc]⟩
      obtain ⟨p1, p2⟩ := pre_step hp
      cases t with
      | nil =>
        rw [List.append_nil] at ht
        rw [ht] at p2
        exact absurd p2 (h.max _)
      | cons y t =>
        have hp2 : cat 0 (m.take n ++ [y]) <+: b := by
          have e3 : l = (m.take n ++ [y]) ++ t := by rw [← ht]; simp
          have := h.pre
          rw [e3, cat_append] at this
          obtain ⟨r, hr⟩ := pre_get this
          exact ⟨cat (0 + (m.take n ++ [y]).length) t ++ r, by rw [hr, List.append_assoc]⟩
        obtain ⟨q1, q2⟩ := pre_step hp2
        obtain ⟨s1, hs1⟩ := pre_get p2
        obtain ⟨s2, hs2⟩ := pre_get q2
        have hi := i64_len p1 hb
        have hl : (b.drop (cat 0 (m.take n)).length).length ≤ b.length := by rw [List.length_drop]; omega
        have l1 := congrArg List.length hs1
        have l2 := congrArg List.length hs2
        rw [List.length_append] at l1 l2
        have f1 := frB_length ((m.take n).length : Int) m[n]
        have f2 := frB_length ((m.take n).length : Int) y
        obtain ⟨_, e⟩ := frB_cut hi hi (by omega) (by omega) (hs1.symm.trans hs2)
        rw [e1, e]
        exact ⟨t, by rw [← ht]; simp⟩
  have := key m.length (Nat.le_refl _)
  rwa [List.take_length] at this
theorem Scn.uniq {b : List Int} {l m : List (List Int)} (h : Scn b l) (k : Scn b m) (hb : b.length < 1000000000000) : l = m :=
  (h.has hb m k.pre).eq_of_length_le (k.has hb l h.pre).length_le |>.symm
end Jour
end Go.Proofs.YtfkgpecglcjpkaaGreat
