/- The automaton of an expression accepts its strings: as plain data. Conditions: none. -/
import Derived.Test.YtjclbjdkkdijbaaGreatAuF
import Derived.Test.YtjclbjdkkdijbaaGreatAuZd
import Derived.Test.YtjclbjdkkdijbaaGreatMtZ
set_option linter.unusedVariables false
set_option linter.unusedSimpArgs false
set_option linter.unusedSectionVars false
open Go.RowKit
namespace Go.Proofs.YtjclbjdkkdijbaaGreat
open L
namespace Auto
theorem ok_v {a : Au} (h : Ok a) : vErr a = 0 := by
  have hl : 0 < a.cuts.length := by
    have := h.mem0
    exact List.length_pos_of_mem this
  have hz : a.cuts.getD 0 0 = 0 := by
    have := h.zero
    rw [List.getD_eq_getElem?_getD, List.getElem?_eq_getElem hl] at this ⊢
    simpa using this
  have h1 := h.few
  have h2 := h.some_
  have h3 := h.acc
  unfold vErr
  rw [if_neg (by omega), if_neg (by rw [hz]; omega), if_neg, if_neg]
  · exact fun hn => hn h.rows
  · intro hn
    refine hn fun i hi h1 => ?_
    have hg : ∀ j, (hj : j < a.cuts.length) → a.cuts.getD j 0 = a.cuts[j] := fun j hj => by rw [List.getD_eq_getElem?_getD, List.getElem?_eq_getElem hj]; rfl
    rw [hg (i - 1) (by omega), hg i hi]
    exact ⟨List.pairwise_iff_getElem.1 h.inc (i - 1) i (by omega) hi (by omega), h.top _ (List.getElem_mem hi)⟩
section
variable {α : Type} [DecidableEq α]
theorem upTo_rl (first : α) (m : Nat) (nx : α → Nat → α) : ∀ i, ∀ r ∈ (upTo first m nx i).2, r.length = m
  | 0, r, hr => by simp [upTo] at hr
  | i + 1, r, hr => by
    rw [upTo] at hr
    cases hs : (upTo first m nx i).1[i]? with
    | none => rw [hs] at hr; exact upTo_rl first m nx i r hr
    | some s =>
      rw [hs] at hr
      rcases List.mem_append.1 hr with h | h
      · exact upTo_rl first m nx i r h
      · simp at h; subst h; exact scan_len _ _ _
end
section
variable {α : Type} [DecidableEq α]
theorem numO_rl {first : α} {m : Nat} {g : α → Nat → Option α} {S : List α} {T : List (List Nat)} (h : numO first m g = some (S, T)) : ∀ r ∈ T, r.length = m := by
  intro r hr
  obtain ⟨h1, _⟩ := numO_some h
  have := upTo_rl (some first) m (nxO g) 256 r
  rw [h1] at this
  exact this hr
end
end Auto
namespace Aut
open Auto Rgx Rx
attribute [-go_sem] sliced
theorem srt0 (xs : List Int) (h : ∀ x ∈ xs, 0 ≤ x) : (srtC (0 :: xs)).getD 0 1 = 0 := by
  have hi := srtC_inc (0 :: xs)
  have hm := (srtC_mem (0 :: xs) 0).2 (by simp)
  have hn : ∀ x ∈ srtC (0 :: xs), 0 ≤ x := fun x hx => by
    rcases List.mem_cons.1 ((srtC_mem _ x).1 hx) with h1 | h1
    · omega
    · exact h x h1
  generalize srtC (0 :: xs) = l at *
  cases l with
  | nil => simp at hm
  | cons y l =>
    have hy := hn y (by simp)
    rcases List.mem_cons.1 hm with h1 | h1
    · subst h1; rfl
    · have := (List.pairwise_cons.1 hi).1 0 h1
      omega
/-- What Of returns without an error. -/
theorem ofE_zero {r : Rx} (h : ofE r = 0) : nErr r = 0 ∧ ∃ S T, numO (nRes r) (srtC (0 :: cutB (nRes r))).length (nxR (srtC (0 :: cutB (nRes r)))) = some (S, T) ∧ ofA r = ⟨srtC (0 :: cutB (nRes r)), natRows T, S.map nul⟩ := by
  unfold ofE at h
  split at h
  · omega
  · rename_i he
    have he : nErr r = 0 := by omega
    split at h
    · rename_i q hq
      obtain ⟨S, T⟩ := q
      refine ⟨he, S, T, hq, ?_⟩
      unfold ofA
      rw [if_neg (by omega), hq]
    · omega
theorem nErr_cases (r : Rx) (h : ofE r ≠ 0) : ofE r = 4 ∨ ofE r = Rgx.vErr r := by
  unfold ofE at *
  split
  · unfold nErr
    split
    · exact .inr rfl
    · left
      rename_i h1 h2
      unfold nErr limE at h1
      rw [if_neg h2] at h1
      unfold limE
      split at h1
      · rename_i h3; rw [if_pos h3]
      · omega
  · rename_i h1
    rw [if_neg h1] at h
    split
    · rename_i q hq; rw [hq] at h; exact absurd rfl h
    · exact .inl rfl
theorem ofA_ok {r : Rx} (hb : Byt r) (h : ofE r = 0) : Ok (ofA r) := by
  obtain ⟨he, S, T, hn, hA⟩ := ofE_zero h
  have hg := nRes_good hb he
  have hcb := cutB_byte _ hg.1.byt
  obtain ⟨hu, h256⟩ := numO_some hn
  have hlen := numO_len hn
  have hf := numO_first hn
  have h0 : 0 < S.length := (List.getElem?_eq_some_iff.1 hf).1
  rw [hA]
  have hrng : ∀ x ∈ srtC (0 :: cutB (nRes r)), 0 ≤ x ∧ x ≤ 255 := fun x hx => by
    rcases List.mem_cons.1 ((srtC_mem _ x).1 hx) with h1 | h1
    · omega
    · exact hcb x h1
  refine ⟨by simp [natRows]; omega, by simp [natRows]; omega, by simp [natRows]; omega, srt0 _ (fun x hx => (hcb x hx).1), srtC_inc _, fun x hx => (hrng x hx).2, fun l hl => ?_⟩
  simp only [natRows, List.mem_map] at hl
  obtain ⟨q, hq, rfl⟩ := hl
  have h4 := numO_rl hn q hq
  refine ⟨by rw [List.length_map]; exact h4, fun s hs => ?_⟩
  obtain ⟨n, hnm, rfl⟩ := List.mem_map.1 hs
  refine ⟨Int.natCast_nonneg n, ?_⟩
  obtain ⟨i, hi, rfl⟩ := List.getElem_of_mem hq
  obtain ⟨j, hj, rfl⟩ := List.getElem_of_mem hnm
  obtain ⟨st, x, _, _, h6⟩ := numO_ok hn (s := i) (j := j) (by omega) (by omega)
  have h7 := (List.getElem?_eq_some_iff.1 h6).1
  rw [List.getD_eq_getElem?_getD, List.getD_eq_getElem?_getD, List.getElem?_eq_getElem hi, Option.getD_some, List.getElem?_eq_getElem hj, Option.getD_some] at h7
  simp only [natRows, List.length_map, Int.ofNat_eq_natCast]
  omega
/-- The byte that stands for a byte's class. -/
def repC (cs : List Int) (c : Int) : Int := cs.getD (cls cs c) 0
theorem of_run {r : Rx} {S : List Rx} {T : List (List Nat)} {cs : List Int} {bs : List Bool} (hs : cs.Pairwise (· < ·)) (h0 : (0 : Int) ∈ cs) (hn : numO r cs.length (nxR cs) = some (S, T)) :
    ∀ (w : List Int) (s : Nat) (x : Rx), (∀ c ∈ w, 0 ≤ c) → S[s]? = some x → NF x → ∃ y, S[runA ⟨cs, natRows T, bs⟩ s w]? = some y ∧ NF y ∧ ∀ u, Lg y u ↔ Lg x (w.map (repC cs) ++ u)
  | [], s, x, _, hx, hg => ⟨x, hx, hg, fun u => Iff.rfl⟩
  | c :: w, s, x, hw, hx, hg => by
    have hc : 0 ≤ c := hw c (by simp)
    have hsl := (List.getElem?_eq_some_iff.1 hx).1
    have hT := numO_len hn
    obtain ⟨hlt, _, _⟩ := cut_of hs h0 hc
    obtain ⟨st, z, h1, h2, h3⟩ := numO_ok hn hsl hlt
    rw [hx] at h1
    cases h1
    have hz : z = der (cs.getD (cls cs c) 0) x := by
      unfold nxR lim at h2
      split at h2
      · cases h2
      · exact (Option.some.inj h2).symm
    have hgz : NF z := hz ▸ der_nf hg
    have e : stepA ⟨cs, natRows T, bs⟩ s c = (T.getD s []).getD (cls cs c) 0 := by
      unfold stepA natRows
      simp only [List.getD_eq_getElem?_getD, List.getElem?_map]
      rw [List.getElem?_eq_getElem (show s < T.length by omega)]
      simp only [Option.map_some, Option.getD_some, List.getElem?_map]
      generalize T[s] = q
      cases q[cls cs c]? <;> rfl
    obtain ⟨y, h4, h5, h6⟩ := of_run (bs := bs) hs h0 hn w _ z (fun d hd => hw d (by simp [hd])) h3 hgz
    refine ⟨y, ?_, h5, fun u => ?_⟩
    · rw [runA_cons, e]; exact h4
    · rw [h6 u, hz, der_Lg hg, List.map_cons, List.cons_append]
      rfl
/-- The automaton accepts the strings of the expression. -/
theorem of_law {r : Rx} (hb : Byt r) (h : ofE r = 0) {w : List Int} (hw : ∀ c ∈ w, 0 ≤ c ∧ c ≤ 255) : (ofA r).acc.getD (runA (ofA r) 0 w) false = true ↔ Lg r w := by
  obtain ⟨he, S, T, hn, hA⟩ := ofE_zero h
  have hg := nRes_good hb he
  have hcb := cutB_byte _ hg.1.byt
  have hf := numO_first hn
  have h0 : (0 : Int) ∈ srtC (0 :: cutB (nRes r)) := (srtC_mem _ _).2 (by simp)
  obtain ⟨y, h1, h2, h3⟩ := of_run (bs := S.map nul) (srtC_inc (0 :: cutB (nRes r))) h0 hn w 0 _ (fun c hc => (hw c hc).1) hf hg.1
  rw [hA, List.getD_eq_getElem?_getD]
  show ((S.map nul)[_]?).getD false = true ↔ _
  rw [List.getElem?_map, h1]
  show nul y = true ↔ _
  rw [nul_Lg h2, h3 [], List.append_nil]
  have hle : ∀ c, 0 ≤ c → repC (srtC (0 :: cutB (nRes r))) c ≤ c ∧ ∀ x ∈ srtC (0 :: cutB (nRes r)), x ≤ c → x ≤ repC (srtC (0 :: cutB (nRes r))) c := fun c hc => by
    obtain ⟨hlt, q1, q2⟩ := cut_of (srtC_inc (0 :: cutB (nRes r))) h0 hc
    unfold repC
    rw [List.getD_eq_getElem?_getD, List.getElem?_eq_getElem hlt]
    exact ⟨q1, q2⟩
  rw [Lg_resp (f := repC (srtC (0 :: cutB (nRes r)))) (fun c hc h9 => by have := (hle c hc).1; omega) (nRes r) hg.1.byt (fun x hx c hc h9 => ⟨fun h => by have := (hle c hc).1; omega, fun h => (hle c hc).2 x ((srtC_mem _ _).2 (by simp [hx])) h⟩) w hw]
  have e : nRes r = norm r := by
    unfold nErr at he
    split at he
    · rename_i h1; exact absurd he h1
    · rename_i h1
      unfold limE at he
      split at he
      · omega
      · rename_i h2
        unfold nRes limR
        rw [if_neg h1, if_neg h2]
  rw [e, norm_Lg]
theorem of_acc {r : Rx} (hb : Byt r) (h : ofE r = 0) (s : ByteArray) : accN (ofA r) s = true ↔ Lg r (byt s) := by
  unfold accN
  rw [if_neg (by simp [ok_v (ofA_ok hb h)])]
  exact of_law hb h fun c hc => byt_rng c hc
theorem byt_str {w : List Int} (h : ∀ c ∈ w, 0 ≤ c ∧ c ≤ 255) : byt (strB w) = w := by
  unfold byt strB
  simp only [List.toList_toArray, List.map_map]
  conv => rhs; rw [← List.map_id w]
  refine List.map_congr_left fun c hc => ?_
  have := h c hc
  simp only [Function.comp, UInt8.toNat_ofNat', id]
  omega
/-- The least string is one of those of the expression. -/
theorem of_least {r : Rx} (hb : Byt r) (h : ofE r = 0) (hl : lstB (ofA r) = true) : Lg r (byt (lstS (ofA r))) := by
  have ho := ofA_ok hb h
  unfold lstB at hl
  rw [if_neg (by simp [ok_v ho])] at hl
  unfold lstS
  rw [if_neg (by simp [ok_v ho])]
  cases hw : leastA (ofA r) with
  | none => rw [hw] at hl; cases hl
  | some w =>
    have h1 := least_some ho hw
    have hr : ∀ c ∈ w, 0 ≤ c ∧ c ≤ 255 := fun c hc => by
      have hm := h1.2.1 c hc
      refine ⟨?_, ho.top c hm⟩
      obtain ⟨i, hi, rfl⟩ := List.getElem_of_mem hm
      have hz := ho.zero
      rw [List.getD_eq_getElem?_getD, List.getElem?_eq_getElem (show 0 < (ofA r).cuts.length by omega)] at hz
      simp only [Option.getD_some] at hz
      by_cases h0 : i = 0
      · subst h0; omega
      · have := List.pairwise_iff_getElem.1 ho.inc 0 i (by omega) hi (by omega)
        omega
    simp only
    rw [byt_str hr]
    exact (of_law hb h hr).1 h1.1
end Aut
end Go.Proofs.YtjclbjdkkdijbaaGreat
