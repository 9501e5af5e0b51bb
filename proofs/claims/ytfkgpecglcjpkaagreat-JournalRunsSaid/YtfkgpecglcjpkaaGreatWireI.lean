/- Lists of numbers as bytes: plain facts. No program is named. Conditions: none. -/
import Derived.Test.YtfkgpecglcjpkaaGreatWireP
set_option linter.unusedVariables false
set_option linter.unusedSimpArgs false
set_option linter.unusedSectionVars false
open Go.RowKit
namespace Go.Proofs.YtfkgpecglcjpkaaGreat
open L
namespace Wire
/-- The bytes of a list. -/
def lb (l : List Int) : List Int := ub l.length ++ l.flatMap ib
def rdN (bs : List Int) (p : Nat) (e : Int) : Nat → List Int × Nat × Int
  | 0 => ([], p, e)
  | n + 1 => ((rdN bs p e n).1 ++ [uzz (rdU bs (rdN bs p e n).2.1 (rdN bs p e n).2.2).1], (rdU bs (rdN bs p e n).2.1 (rdN bs p e n).2.2).2)
/-- What reading a list gives: the list, the place behind it, the error. -/
def rdIs (bs : List Int) (p : Nat) (e : Int) : List Int × Nat × Int :=
  if (rdU bs p e).2.2 ≠ 0 then ([], (rdU bs p e).2)
  else if bs.length - (rdU bs p e).2.1 < (rdU bs p e).1 then ([], (rdU bs p e).2.1, 3)
  else if (rdN bs (rdU bs p e).2.1 0 (rdU bs p e).1).2.2 ≠ 0 then ([], (rdN bs (rdU bs p e).2.1 0 (rdU bs p e).1).2)
  else rdN bs (rdU bs p e).2.1 0 (rdU bs p e).1
theorem rdN_length (bs : List Int) (p : Nat) (e : Int) : ∀ n, (rdN bs p e n).1.length = n
  | 0 => rfl
  | n + 1 => by simp [rdN, rdN_length bs p e n]
theorem rdN_err {bs : List Int} {p : Nat} {e : Int} {k : Nat} (h : (rdN bs p e k).2.2 ≠ 0) : ∀ m, k ≤ m → (rdN bs p e m).2 = (rdN bs p e k).2
  | 0, hm => by
    have : k = 0 := by omega
    subst this; rfl
  | m + 1, hm => by
    by_cases hk : k = m + 1
    · subst hk; rfl
    · have ih := rdN_err h m (by omega)
      have h2 : (rdN bs p e m).2.2 ≠ 0 := by rw [ih]; exact h
      rw [← ih, show (rdN bs p e (m + 1)).2 = (rdU bs (rdN bs p e m).2.1 (rdN bs p e m).2.2).2 from rfl, rdU_err h2]
theorem rdU_le {bs : List Int} {p : Nat} {e : Int} (hp : p ≤ bs.length) : (rdU bs p e).2.1 ≤ bs.length := by
  have key : ∀ f k acc, (rdF bs p f k acc).2.1 ≤ bs.length := by
    intro f
    induction f with
    | zero => intro k acc; simpa [rdF] using hp
    | succ f ih =>
      intro k acc
      unfold rdF
      cases hb : bs[p + k]? with
      | none => simpa using hp
      | some c =>
        have := (List.getElem?_eq_some_iff.1 hb).1
        simp only
        split
        · exact hp
        · split
          · simp only; omega
          · exact ih _ _
  unfold rdU
  split
  · exact key _ _ _
  · exact hp
theorem fl_length : ∀ l : List Int, l.length ≤ (l.flatMap ib).length ∧ (l.flatMap ib).length ≤ 10 * l.length
  | [] => by simp
  | x :: l => by
    have h1 := ib_length x
    have h2 := fl_length l
    rw [List.flatMap_cons]
    simp only [List.length_append, List.length_cons]
    omega
theorem lb_length (l : List Int) : 1 ≤ (lb l).length ∧ (lb l).length ≤ 10 + 10 * l.length := by
  have h1 := ub_length l.length
  have h2 := fl_length l
  unfold lb
  rw [List.length_append]
  omega
theorem lb_u8 {l : List Int} (h : ∀ x ∈ l, IsI64 x) (hl : l.length < 18446744073709551616) : ∀ x ∈ lb l, IsU8 x := by
  intro x hx
  rcases List.mem_append.1 hx with hx | hx
  · exact ub_u8 hl x hx
  · obtain ⟨y, hy, hx⟩ := List.mem_flatMap.1 hx
    exact ib_u8 (h y hy) x hx
theorem take_snoc {l : List Int} {n : Nat} (hn : n < l.length) : l.take (n + 1) = l.take n ++ [l[n]] := by
  rw [List.take_add_one, List.getElem?_eq_getElem hn]; rfl
theorem rdN_write {l : List Int} (h : ∀ x ∈ l, IsI64 x) (front : List Int) : ∀ n, n ≤ l.length → rdN (front ++ l.flatMap ib) front.length 0 n = (l.take n, front.length + ((l.take n).flatMap ib).length, 0)
  | 0, _ => by simp [rdN]
  | n + 1, hn => by
    have ih := rdN_write h front n (by omega)
    have hm : l[n] ∈ l := List.getElem_mem _
    have e := take_snoc (l := l) (n := n) (by omega)
    have e2 : l.flatMap ib = (l.take n).flatMap ib ++ (ib l[n] ++ (l.drop (n + 1)).flatMap ib) := by
      conv => lhs; rw [← List.take_append_drop (n + 1) l, e, List.flatMap_append, List.flatMap_append]
      simp
    unfold rdN
    rw [ih]
    simp only
    have a1 : rdU (front ++ l.flatMap ib) (front.length + ((l.take n).flatMap ib).length) 0 = (zz l[n], front.length + ((l.take n).flatMap ib).length + (ib l[n]).length, 0) := by
      have := rdU_write (front ++ (l.take n).flatMap ib) ((l.drop (n + 1)).flatMap ib) (n := zz l[n]) (zz_lt (h _ hm))
      rw [List.length_append, List.append_assoc] at this
      rw [e2]
      exact this
    rw [a1]
    simp only
    rw [uzz_zz, e, List.flatMap_append]
    refine Prod.ext rfl (Prod.ext ?_ rfl)
    simp
    omega
theorem rdIs_write {l : List Int} (h : ∀ x ∈ l, IsI64 x) (hl : l.length < 18446744073709551616) : rdIs (lb l) 0 0 = (l, (lb l).length, 0) := by
  have a1 : rdU (lb l) 0 0 = (l.length, (ub l.length).length, 0) := by
    have := rdU_write [] (l.flatMap ib) hl
    simp only [List.nil_append, List.length_nil, Nat.zero_add] at this
    exact this
  have a2 : rdN (lb l) (ub l.length).length 0 l.length = (l, (lb l).length, 0) := by
    have := rdN_write h (ub l.length) l.length (Nat.le_refl _)
    rw [List.take_length] at this
    rw [show lb l = ub l.length ++ l.flatMap ib from rfl, this, List.length_append]
  have h2 := fl_length l
  have h3 : (lb l).length = (ub l.length).length + (l.flatMap ib).length := List.length_append
  unfold rdIs
  rw [a1]
  simp only
  rw [if_neg (by simp), if_neg (by omega), a2]
  simp
theorem rdN_read {bs : List Int} {p : Nat} {e : Int} (hu : ∀ x ∈ bs, IsU8 x) (hp : p ≤ bs.length) : ∀ n, (rdN bs p e n).2.2 = 0 → e = 0 ∧ bs.drop p = (rdN bs p e n).1.flatMap ib ++ bs.drop (rdN bs p e n).2.1 ∧ (rdN bs p e n).2.1 ≤ bs.length
  | 0, h => by simp [rdN] at h ⊢; exact ⟨h, hp⟩
  | n + 1, h => by
    unfold rdN at h ⊢
    simp only at h ⊢
    generalize hr : rdN bs p e n = r at *
    obtain ⟨L, p1, e1⟩ := r
    simp only at h ⊢
    generalize ha : rdU bs p1 e1 = a at *
    obtain ⟨v1, p2, e2⟩ := a
    simp only at h ⊢
    subst h
    obtain ⟨h1, h2, h3, h4⟩ := rdU_read hu ha
    subst h1
    have ih := rdN_read hu hp n (by rw [hr])
    rw [hr] at ih
    obtain ⟨k1, k2, k3⟩ := ih
    refine ⟨k1, ?_, h3⟩
    rw [k2, h2, List.flatMap_append]
    simp [ib, zz_uzz]
theorem rdN_i64 {bs : List Int} {p : Nat} {e : Int} (hu : ∀ x ∈ bs, IsU8 x) : ∀ n, ∀ x ∈ (rdN bs p e n).1, IsI64 x
  | 0, x, hx => by simp [rdN] at hx
  | n + 1, x, hx => by
    unfold rdN at hx
    rcases List.mem_append.1 hx with hx | hx
    · exact rdN_i64 hu n x hx
    · simp only [List.mem_singleton] at hx
      subst hx
      exact uzz_i64 (rdU_lt hu)
theorem rdIs_i64 {bs : List Int} {p : Nat} {e : Int} (hu : ∀ x ∈ bs, IsU8 x) : ∀ x ∈ (rdIs bs p e).1, IsI64 x := by
  intro x hx
  unfold rdIs at hx
  split at hx
  · simp at hx
  · split at hx
    · simp at hx
    · split at hx
      · simp at hx
      · exact rdN_i64 hu _ x hx
theorem rdIs_len {bs : List Int} {p : Nat} {e : Int} : (rdIs bs p e).1.length ≤ bs.length := by
  unfold rdIs
  split
  · simp
  · split
    · simp
    · split
      · simp
      · rw [rdN_length]; omega
theorem rdIs_read {bs c : List Int} {p : Nat} (hu : ∀ x ∈ bs, IsU8 x) (h : rdIs bs 0 0 = (c, p, 0)) (hp : ¬ p < bs.length) : bs = lb c := by
  unfold rdIs at h
  generalize ha : rdU bs 0 0 = a at *
  obtain ⟨n, p1, e1⟩ := a
  simp only at h
  by_cases h1 : e1 = 0
  · subst h1
    rw [if_neg (by simp)] at h
    by_cases h2 : bs.length - p1 < n
    · rw [if_pos h2] at h; simp at h
    · rw [if_neg h2] at h
      obtain ⟨_, g2, g3, _⟩ := rdU_read hu ha
      by_cases h3 : (rdN bs p1 0 n).2.2 = 0
      · rw [if_neg (by simpa using h3)] at h
        obtain ⟨_, k2, k3⟩ := rdN_read hu g3 n h3
        have hlen := rdN_length bs p1 0 n
        rw [h] at k2 hlen
        simp only at k2 hlen
        rw [List.drop_zero] at g2
        rw [g2, k2, List.drop_eq_nil_of_le (by omega), List.append_nil]
        unfold lb
        rw [hlen]
      · rw [if_pos h3] at h
        simp only [Prod.mk.injEq] at h
        exact absurd (by rw [h.2]) h3
  · rw [if_pos h1] at h
    simp only [Prod.mk.injEq] at h
    exact absurd h.2.2 h1
end Wire
end Go.Proofs.YtfkgpecglcjpkaaGreat
