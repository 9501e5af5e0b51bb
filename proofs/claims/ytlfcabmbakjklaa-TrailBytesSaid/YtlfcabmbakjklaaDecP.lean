/- What trail's Decode gives, in plain words. Conditions: none. -/
import Derived.Test.YtlfcabmbakjklaaWireP
import Derived.Test.YtlfcabmbakjklaaEnc
import Derived.Test.YtlfcabmbakjklaaLevels
set_option linter.unusedVariables false
set_option linter.unusedSimpArgs false
set_option linter.unusedSectionVars false
open Go.RowKit
namespace Go.Proofs.Ytlfcabmbakjklaa
open L
namespace Trail
open Wire
def rdL (bs : List Int) (p : Nat) (e : Int) : Nat → Es × Nat × Int
  | 0 => ([], p, e)
  | n + 1 => ((rdL bs p e n).1 ++ [(uzz (rdU bs (rdL bs p e n).2.1 (rdL bs p e n).2.2).1, uzz (rdU bs (rdU bs (rdL bs p e n).2.1 (rdL bs p e n).2.2).2.1 (rdU bs (rdL bs p e n).2.1 (rdL bs p e n).2.2).2.2).1)],
      (rdU bs (rdU bs (rdL bs p e n).2.1 (rdL bs p e n).2.2).2.1 (rdU bs (rdL bs p e n).2.1 (rdL bs p e n).2.2).2.2).2)
theorem rdL_length (bs : List Int) (p : Nat) (e : Int) : ∀ n, (rdL bs p e n).1.length = n
  | 0 => rfl
  | n + 1 => by simp [rdL, rdL_length bs p e n]
theorem rdL_succ {bs : List Int} {p : Nat} {e : Int} {n : Nat} {L0 : Es} {p0 v1 p1 v2 p2 : Nat} {e0 e1 e2 : Int} (h0 : rdL bs p e n = (L0, p0, e0)) (h1 : rdU bs p0 e0 = (v1, p1, e1)) (h2 : rdU bs p1 e1 = (v2, p2, e2)) :
    rdL bs p e (n + 1) = (L0 ++ [(uzz v1, uzz v2)], p2, e2) := by
  unfold rdL
  rw [h0]
  simp only
  rw [h1]
  simp only
  rw [h2]
def okAll (vs : Nat) (L : Es) : Bool := (List.range L.length).all fun i => putErr vs (L.take i) (at_ L i).1 (at_ L i).2 == 0
def fl (es : Es) : List Int := es.flatMap fun e => ib e.1 ++ ib e.2
theorem fl_append (a b : Es) : fl (a ++ b) = fl a ++ fl b := by simp [fl]
def decA (bs : List Int) : Nat × Nat × Int := rdU bs 0 0
def decB (bs : List Int) : Nat × Nat × Int := rdU bs (decA bs).2.1 (decA bs).2.2
def decL (bs : List Int) : Es × Nat × Int := rdL bs (decB bs).2.1 (decB bs).2.2 (uzz (decB bs).1).toNat
def dec (bs : List Int) : Option (Nat × Es) :=
  if uzz (decB bs).1 < 0 ∨ (bs.length : Int) < uzz (decB bs).1 then none
  else if (decL bs).2.2 ≠ 0 ∨ (decL bs).2.1 < bs.length then none
  else if uzz (decA bs).1 < 0 ∨ 4194304 < uzz (decA bs).1 then none
  else if okAll (uzz (decA bs).1).toNat (decL bs).1 = true then some ((uzz (decA bs).1).toNat, (decL bs).1) else none
theorem okAll_wf {vs : Nat} {L : Es} (hv : vs ≤ 4194304) (hr : ∀ e ∈ L, e.2 ≤ 9223372036854775807) (h : okAll vs L = true) : TWf vs L := by
  have key : ∀ i, i ≤ L.length → TWf vs (L.take i) := by
    intro i
    induction i with
    | zero => intro _; rw [List.take_zero]; exact ⟨hv, by simp, by simp, by simp⟩
    | succ i ih =>
      intro hi
      have h1 := ih (by omega)
      unfold okAll at h
      rw [List.all_eq_true] at h
      have h2 := h i (by simp; omega)
      simp only [beq_iff_eq] at h2
      have hm := at_mem (es := L) (i := i) (by omega)
      have e : L.take (i + 1) = L.take i ++ [at_ L i] := by
        rw [List.take_add_one]
        unfold at_
        rw [List.getD_eq_getElem?_getD, List.getElem?_eq_getElem (by omega)]
        rfl
      rw [e]
      unfold putErr at h2
      split at h2
      · rename_i hl
        split at h2
        · cases h2
        · split at h2
          · rename_i hlt hp
            exact h1.snoc hl hp ⟨by omega, hr _ hm⟩
          · cases h2
      · cases h2
  have := key L.length (Nat.le_refl _)
  rwa [List.take_length] at this
theorem wf_okAll {vs : Nat} {L : Es} (h : TWf vs L) : okAll vs L = true := by
  unfold okAll
  rw [List.all_eq_true]
  intro i hi
  simp only [List.mem_range] at hi
  have hm := at_mem hi
  have hl := h.lit _ hm
  have hr := h.rsn _ hm
  simp only [beq_iff_eq]
  unfold putErr
  rw [if_pos (by simp [isLit]; omega), if_neg (by omega), if_pos]
  rw [pos_zero]
  intro e he hv
  have hp := Law.pos_lit h hi
  rw [List.mem_take_iff_getElem] at he
  obtain ⟨j, hj, rfl⟩ := he
  have hj2 : j < i ∧ j < L.length := by omega
  have hp2 := Law.pos_lit h hj2.2
  have e1 : at_ L j = L[j] := by unfold at_; rw [List.getD_eq_getElem?_getD, List.getElem?_eq_getElem hj2.2]; rfl
  rw [e1, hv, hp] at hp2
  omega
theorem rdL_write {vs : Nat} {es : Es} (h : TWf vs es) (front : List Int) : ∀ n, n ≤ es.length → rdL (front ++ fl es) front.length 0 n = (es.take n, front.length + (fl (es.take n)).length, 0)
  | 0, _ => by simp [rdL, fl]
  | n + 1, hn => by
    have ih := rdL_write h front n (by omega)
    have hm := at_mem (es := es) (i := n) (by omega)
    have hl := h.lit _ hm
    have hr := h.rsn _ hm
    have hmax := h.max
    have e : es.take (n + 1) = es.take n ++ [at_ es n] := by
      rw [List.take_add_one]
      unfold at_
      rw [List.getD_eq_getElem?_getD, List.getElem?_eq_getElem (by omega)]
      rfl
    have e2 : fl es = fl (es.take n) ++ (ib (at_ es n).1 ++ (ib (at_ es n).2 ++ fl (es.drop (n + 1)))) := by
      conv => lhs; rw [← List.take_append_drop (n + 1) es, e, fl_append, fl_append]
      simp [fl]
    unfold rdL
    rw [ih]
    simp only
    have a1 : rdU (front ++ fl es) (front.length + (fl (es.take n)).length) 0 = (zz (at_ es n).1, front.length + (fl (es.take n)).length + (ib (at_ es n).1).length, 0) := by
      have := rdU_write (front ++ fl (es.take n)) (ib (at_ es n).2 ++ fl (es.drop (n + 1))) (n := zz (at_ es n).1) (zz_lt (by unfold IsI64; omega))
      rw [List.length_append, List.append_assoc] at this
      rw [e2]
      exact this
    have a2 : rdU (front ++ fl es) (front.length + (fl (es.take n)).length + (ib (at_ es n).1).length) 0 = (zz (at_ es n).2, front.length + (fl (es.take n)).length + (ib (at_ es n).1).length + (ib (at_ es n).2).length, 0) := by
      have := rdU_write (front ++ fl (es.take n) ++ ib (at_ es n).1) (fl (es.drop (n + 1))) (n := zz (at_ es n).2) (zz_lt (by unfold IsI64; omega))
      rw [List.length_append, List.length_append, List.append_assoc, List.append_assoc] at this
      rw [e2]
      exact this
    rw [a1]
    simp only
    rw [a2]
    simp only
    rw [uzz_zz, uzz_zz, e, fl_append]
    refine Prod.ext rfl (Prod.ext ?_ rfl)
    simp [fl]
    omega
theorem decA_eb {vs : Nat} {es : Es} (h : TWf vs es) : rdU (eb vs es) 0 0 = (zz vs, (ib vs).length, 0) := by
  have hmax := h.max
  have := rdU_write [] (ib es.length ++ fl es) (n := zz vs) (zz_lt (by unfold IsI64; omega))
  simp only [List.nil_append, List.length_nil, Nat.zero_add] at this
  unfold eb
  rw [List.append_assoc]
  exact this
theorem dec_eb {vs : Nat} {es : Es} (h : TWf vs es) : dec (eb vs es) = some (vs, es) := by
  have hmax := h.max
  have hlen := h.len
  have a1 : decA (eb vs es) = (zz vs, (ib vs).length, 0) := by
    have := rdU_write [] (ib es.length ++ fl es) (n := zz vs) (zz_lt (by unfold IsI64; omega))
    simp only [List.nil_append, List.length_nil, Nat.zero_add] at this
    unfold decA eb
    rw [List.append_assoc]
    exact this
  have a2 : decB (eb vs es) = (zz es.length, (ib vs ++ ib es.length).length, 0) := by
    unfold decB
    rw [a1]
    have := rdU_write (ib vs) (fl es) (n := zz es.length) (zz_lt (by unfold IsI64; omega))
    unfold eb
    rw [List.append_assoc, List.length_append]
    exact this
  have a3 : decL (eb vs es) = (es, (eb vs es).length, 0) := by
    unfold decL
    rw [a2]
    simp only
    rw [uzz_zz, Int.toNat_natCast]
    have := rdL_write h (ib vs ++ ib es.length) es.length (Nat.le_refl _)
    rw [List.take_length] at this
    have he : eb vs es = (ib vs ++ ib es.length) ++ fl es := rfl
    rw [he, this, List.length_append (bs := fl es)]
  have hfl : 2 * es.length ≤ (fl es).length := by
    clear h a1 a2 a3 hlen
    induction es with
    | nil => simp
    | cons e es ih =>
      have h1 := ib_length e.1
      have h2 := ib_length e.2
      have : fl (e :: es) = (ib e.1 ++ ib e.2) ++ fl es := by simp [fl]
      rw [this]
      simp only [List.length_append, List.length_cons]
      omega
  have hel : es.length ≤ (eb vs es).length := by
    have : (eb vs es).length = (ib vs).length + (ib es.length).length + (fl es).length := by
      have he : eb vs es = (ib vs ++ ib es.length) ++ fl es := rfl
      rw [he, List.length_append, List.length_append]
    omega
  unfold dec
  rw [a3, a1, a2]
  simp only [uzz_zz]
  rw [if_neg (by omega), if_neg (by simp), if_neg (by omega), Int.toNat_natCast, if_pos (wf_okAll h)]
theorem rdL_read {bs : List Int} {p : Nat} {e : Int} (hu : ∀ x ∈ bs, IsU8 x) (hp : p ≤ bs.length) : ∀ n, (rdL bs p e n).2.2 = 0 → e = 0 ∧ bs.drop p = fl (rdL bs p e n).1 ++ bs.drop (rdL bs p e n).2.1 ∧ (rdL bs p e n).2.1 ≤ bs.length
  | 0, h => by simp [rdL] at h ⊢; exact ⟨h, by simp [fl], hp⟩
  | n + 1, h => by
    unfold rdL at h ⊢
    simp only at h ⊢
    generalize hr : rdL bs p e n = r at *
    obtain ⟨L, p1, e1⟩ := r
    simp only at h ⊢
    generalize ha : rdU bs p1 e1 = a at *
    obtain ⟨v1, p2, e2⟩ := a
    simp only at h ⊢
    generalize hb : rdU bs p2 e2 = b at *
    obtain ⟨v2, p3, e3⟩ := b
    simp only at h ⊢
    subst h
    obtain ⟨h1, h2, h3, h4⟩ := rdU_read hu hb
    subst h1
    obtain ⟨g1, g2, g3, g4⟩ := rdU_read hu ha
    subst g1
    have ih := rdL_read hu hp n (by rw [hr])
    rw [hr] at ih
    obtain ⟨k1, k2, k3⟩ := ih
    refine ⟨k1, ?_, h3⟩
    rw [k2, g2, h2, fl_append]
    simp [fl, ib, zz_uzz]
theorem rdL_i64 {bs : List Int} {p : Nat} {e : Int} (hu : ∀ x ∈ bs, IsU8 x) : ∀ n, ∀ x ∈ (rdL bs p e n).1, IsI64 x.1 ∧ IsI64 x.2
  | 0, x, hx => by simp [rdL] at hx
  | n + 1, x, hx => by
    unfold rdL at hx
    rcases List.mem_append.1 hx with hx | hx
    · exact rdL_i64 hu n x hx
    · simp only [List.mem_singleton] at hx
      subst hx
      exact ⟨uzz_i64 (rdU_lt hu), uzz_i64 (rdU_lt hu)⟩
theorem rdU_le {bs : List Int} {p : Nat} {e : Int} (hp : p ≤ bs.length) : (rdU bs p e).2.1 ≤ bs.length := by
  have key : ∀ f k acc, (rdF bs p f k acc).2.1 ≤ bs.length := by
    intro f
    induction f with
    | zero => intro k acc; simpa [rdF] using hp
    | succ f ih =>
      intro k acc
      unfold rdF
      cases hb : bs[p + k]? with
      | none => simpa using hp
      | some c =>
        have := (List.getElem?_eq_some_iff.1 hb).1
        simp only
        split
        · exact hp
        · split
          · simp only; omega
          · exact ih _ _
  unfold rdU
  split
  · exact key _ _ _
  · exact hp
theorem dec_sound {bs : List Int} {vs : Nat} {es : Es} (hu : ∀ x ∈ bs, IsU8 x) (h : dec bs = some (vs, es)) : bs = eb vs es ∧ TWf vs es := by
  unfold dec at h
  split at h
  · cases h
  · rename_i c1
    split at h
    · cases h
    · rename_i c2
      split at h
      · cases h
      · rename_i c3
        split at h
        · rename_i c4
          simp only [Option.some.injEq, Prod.mk.injEq] at h
          have hLe : (decL bs).2.2 = 0 := by omega
          have hLp : bs.length ≤ (decL bs).2.1 := by omega
          have hpA : (decA bs).2.1 ≤ bs.length := rdU_le (Nat.zero_le _)
          have hpB : (decB bs).2.1 ≤ bs.length := rdU_le hpA
          obtain ⟨k1, k2, k3⟩ := rdL_read hu hpB _ hLe
          have hB : rdU bs (decA bs).2.1 (decA bs).2.2 = ((decB bs).1, (decB bs).2.1, 0) := Prod.ext rfl (Prod.ext rfl k1)
          obtain ⟨b1, b2, b3, b4⟩ := rdU_read hu hB
          have hA : rdU bs 0 0 = ((decA bs).1, (decA bs).2.1, 0) := Prod.ext rfl (Prod.ext rfl b1)
          obtain ⟨_, a2, a3, a4⟩ := rdU_read hu hA
          rw [List.drop_zero] at a2
          have hlen : (decL bs).1.length = (uzz (decB bs).1).toNat := rdL_length _ _ _ _
          have hd : bs.drop (decL bs).2.1 = [] := List.drop_eq_nil_of_le hLp
          obtain ⟨rfl, rfl⟩ := h
          refine ⟨?_, okAll_wf (by omega) (fun e he => ?_) c4⟩
          · have hh : fl (decL bs).1 = (decL bs).1.flatMap fun e => ib e.1 ++ ib e.2 := rfl
            unfold eb
            rw [hlen, ← hh]
            have e1 : (((uzz (decA bs).1).toNat : Nat) : Int) = uzz (decA bs).1 := by omega
            have e2 : (((uzz (decB bs).1).toNat : Nat) : Int) = uzz (decB bs).1 := by omega
            rw [e1, e2]
            unfold ib
            rw [zz_uzz, zz_uzz]
            have k2' : bs.drop (decB bs).2.1 = fl (decL bs).1 ++ bs.drop (decL bs).2.1 := k2
            rw [hd, List.append_nil] at k2'
            rw [← k2', List.append_assoc, ← b2]
            exact a2
          · have := (rdL_i64 hu _ e he).2
            unfold IsI64 at this; omega
        · cases h
end Trail
end Go.Proofs.Ytlfcabmbakjklaa
