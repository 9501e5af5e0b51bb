/- A crash of a disk: plain facts. No function is named. Conditions: none. -/
import Derived.Test.YtfkgpecglcjpkaaDiskH
set_option linter.unusedVariables false
set_option linter.unusedSimpArgs false
set_option linter.unusedSectionVars false
open Go.RowKit
namespace Go.Proofs.Ytfkgpecglcjpkaa
open L
namespace Disk
theorem tot_succ (g : Nat → Nat) (n : Nat) : tot g (n + 1) = tot g n + g n := rfl
def fl_ (B : Nat → List Int) (n : Nat) : List Nat := (List.range n).filter fun i => !(B i).isEmpty
theorem fl_succ (B : Nat → List Int) (n : Nat) : fl_ B (n + 1) = fl_ B n ++ (if B n = [] then [] else [n]) := by
  unfold fl_
  rw [List.range_succ, List.filter_append]
  congr 1
  cases hb : B n with
  | nil => simp [hb]
  | cons x l => simp [hb]
theorem fl_take {B : Nat → List Int} : ∀ {n k i : Nat}, (fl_ B n)[k]? = some i → (fl_ B n).take k = fl_ B i ∧ i < n ∧ B i ≠ []
  | 0, k, i, h => by simp [fl_] at h
  | n + 1, k, i, h => by
    rw [fl_succ] at h ⊢
    by_cases hk : k < (fl_ B n).length
    · rw [List.getElem?_append_left hk] at h
      obtain ⟨h1, h2, h3⟩ := fl_take h
      exact ⟨by rw [List.take_append_of_le_length (by omega)]; exact h1, by omega, h3⟩
    · rw [List.getElem?_append_right (by omega)] at h
      by_cases hb : B n = []
      · rw [if_pos hb] at h; simp at h
      · rw [if_neg hb] at h
        have hk0 : k - (fl_ B n).length = 0 := by
          have := (List.getElem?_eq_some_iff.1 h).1
          simp at this
          omega
        rw [hk0] at h
        have hi : n = i := by simpa using h
        subst hi
        have hkl : k = (fl_ B n).length := by omega
        subst hkl
        exact ⟨by rw [List.take_left], by omega, hb⟩
theorem rank_eq (B : Nat → List Int) : ∀ n, rank B n = (fl_ B n).length
  | 0 => by simp [rank, tot, fl_]
  | n + 1 => by
    rw [fl_succ, List.length_append, ← rank_eq B n]
    unfold rank
    rw [tot_succ]
    by_cases hb : B n = []
    · simp [hb]
    · simp [hb]
/-- The sum of g over a list. -/
def sumL (g : Nat → Nat) (l : List Nat) : Nat := (l.map g).sum
theorem sumL_append (g : Nat → Nat) (l m : List Nat) : sumL g (l ++ m) = sumL g l + sumL g m := by simp [sumL]
theorem sumL_fl {B : Nat → List Int} {g : Nat → Nat} (hg : ∀ i, B i = [] → g i = 0) : ∀ n, sumL g (fl_ B n) = tot g n
  | 0 => by simp [sumL, tot, fl_]
  | n + 1 => by
    rw [fl_succ, sumL_append, sumL_fl hg n, tot_succ]
    by_cases hb : B n = []
    · simp [hb, hg n hb, sumL]
    · simp [hb, sumL]
theorem fl_nodup (B : Nat → List Int) (n : Nat) : (fl_ B n).Nodup := List.nodup_range.filter _
theorem filesS_fl (s : DS) : filesS s = fl_ s.B 64 := rfl
theorem kept_nil {s : DS} {keep : List Int} {i : Nat} (h : s.B i = []) : keptN s keep i = 0 := by unfold keptN; rw [if_pos h]
/-- What a crash keeps of the file with number k among those that are not empty. -/
theorem kept_at {s : DS} {keep : List Int} {k i : Nat} (h : (filesS s)[k]? = some i) : keptN s keep i = match keep[k]? with
  | none => 0
  | some x => min x.toNat ((s.B i).length - s.F i) := by
  obtain ⟨h1, h2, h3⟩ := fl_take (B := s.B) (n := 64) h
  have hr : rank s.B i = k := by
    rw [rank_eq, ← h1, List.length_take]
    have := (List.getElem?_eq_some_iff.1 h).1
    rw [filesS_fl] at this
    omega
  unfold keptN
  rw [if_neg h3, hr]
  cases keep[k]? <;> rfl
theorem before_at {s : DS} {keep : List Int} {k i : Nat} (h : (filesS s)[k]? = some i) : sumL (keptN s keep) ((filesS s).take k) = tot (keptN s keep) i := by
  obtain ⟨h1, _, _⟩ := fl_take (B := s.B) (n := 64) h
  rw [filesS_fl, h1]
  exact sumL_fl (fun _ hb => kept_nil hb) i
theorem kept_all (s : DS) (keep : List Int) : sumL (keptN s keep) (filesS s) = tot (keptN s keep) 64 := by
  rw [filesS_fl]
  exact sumL_fl (fun _ hb => kept_nil hb) 64
/-- A crash, so far: the first k files are cut. -/
def crashK (s : DS) (keep : List Int) (k : Nat) : DS :=
  { s with B := fun i => if i ∈ (filesS s).take k then (s.B i).take (s.F i + keptN s keep i) else s.B i, F := fun i => if i ∈ (filesS s).take k then s.F i + keptN s keep i else s.F i }
theorem crashK_ok {s : DS} (h : s.Ok) (keep : List Int) (k : Nat) : (crashK s keep k).Ok := by
  have hk := fun i => keptN_le s keep i
  have hf := fun i => h.firm i
  have hlen : ∀ i, ((crashK s keep k).B i).length ≤ (s.B i).length := fun i => by
    simp only [crashK]
    split
    · rw [List.length_take]; omega
    · exact Nat.le_refl _
  refine ⟨fun i hi => ?_, fun i => ?_, fun i x hx => ?_, h.plan, h.room, used_less h hlen⟩
  · have := hlen i
    rw [h.out i hi] at this
    exact List.eq_nil_of_length_eq_zero (by simpa using this)
  · have h1 := hk i
    have h2 := hf i
    simp only [crashK]
    split
    · rw [List.length_take]; omega
    · exact h2
  · simp only [crashK] at hx
    split at hx
    · exact h.u8 i x (List.mem_of_mem_take hx)
    · exact h.u8 i x hx
theorem crashK_zero (s : DS) (keep : List Int) : crashK s keep 0 = s := by simp [crashK]
theorem take_not {l : List Nat} (hl : l.Nodup) {k i : Nat} (h : l[k]? = some i) : i ∉ l.take k := by
  intro hm
  obtain ⟨j, hj⟩ := List.getElem?_of_mem hm
  rw [List.getElem?_take] at hj
  split at hj
  · rename_i hjk
    have h1 := (List.getElem?_eq_some_iff.1 h)
    have h2 := (List.getElem?_eq_some_iff.1 hj)
    have := (List.getElem_inj (i := j) (j := k) hl (h₀ := h2.1) (h₁ := h1.1)).1 (h2.2.trans h1.2.symm)
    omega
  · cases hj
theorem crashK_at {s : DS} {keep : List Int} {k i : Nat} (h : (filesS s)[k]? = some i) : (crashK s keep k).B i = s.B i ∧ (crashK s keep k).F i = s.F i := by
  have hn := take_not (fl_nodup s.B 64) (by rw [← filesS_fl]; exact h)
  rw [← filesS_fl] at hn
  simp only [crashK, if_neg hn]
  exact ⟨trivial, trivial⟩
theorem crashK_step {s : DS} {keep : List Int} {k i : Nat} (h : (filesS s)[k]? = some i) :
    crashK s keep (k + 1) = { crashK s keep k with B := setB (crashK s keep k).B i ((s.B i).take (s.F i + keptN s keep i)), F := setF (crashK s keep k).F i (s.F i + keptN s keep i) } := by
  unfold crashK
  have e : ∀ j, j ∈ (filesS s).take (k + 1) ↔ j ∈ (filesS s).take k ∨ j = i := fun j => by
    rw [List.take_add_one, h]
    simp
  congr 1
  · funext j
    simp only [setB, e j]
    by_cases e1 : j = i
    · subst e1; simp
    · simp [e1]
  · funext j
    simp only [setF, e j]
    by_cases e1 : j = i
    · subst e1; simp
    · simp [e1]
theorem crashK_end {s : DS} (h : s.Ok) (keep : List Int) : crashK s keep (filesS s).length = { s with B := crashB s keep none, F := fun i => (crashB s keep none i).length } := by
  unfold crashK
  have key : ∀ i, i ∉ filesS s → s.B i = [] ∧ s.F i = 0 ∧ keptN s keep i = 0 := fun i hn => by
    have hb : s.B i = [] := by
      by_cases hi : i < 64
      · exact Classical.byContradiction fun hb => hn (filesS_mem.2 ⟨hi, hb⟩)
      · exact h.out i (by omega)
    have := h.firm i
    rw [hb] at this
    exact ⟨hb, by simpa using this, kept_nil hb⟩
  congr 1
  · funext i
    rw [List.take_of_length_le (Nat.le_refl _)]
    split
    · rfl
    · rename_i hn
      obtain ⟨h1, h2, h3⟩ := key i hn
      simp [crashB, h1]
  · funext i
    rw [List.take_of_length_le (Nat.le_refl _), crashB_length s keep none i h]
    split
    · rfl
    · rename_i hn
      obtain ⟨h1, h2, h3⟩ := key i hn
      omega
/-- .. and one bit is inverted. -/
theorem crash_flip {s : DS} (h : s.Ok) {keep : List Int} {i q : Nat} (h1 : 8 * tot (keptN s keep) i ≤ q) (h2 : q < 8 * (tot (keptN s keep) i + keptN s keep i)) (hi : i < 64) :
    ({ s with B := crashB s keep (some q), F := fun j => (crashB s keep (some q) j).length } : DS) =
      { s with B := setB (crashB s keep none) i (flipL (crashB s keep none i) (8 * s.F i + (q - 8 * tot (keptN s keep) i))), F := fun j => (crashB s keep none j).length } := by
  have mono : ∀ {a b : Nat}, a < b → tot (keptN s keep) a + keptN s keep a ≤ tot (keptN s keep) b := by
    intro a b hab
    induction b with
    | zero => omega
    | succ b ih =>
      rw [tot_succ]
      by_cases e : a = b
      · subst e; omega
      · have := ih (by omega); omega
  congr 1
  · funext j
    simp only [setB]
    by_cases e : j = i
    · subst e
      simp only [crashB, if_pos]
      rw [if_pos ⟨h1, h2⟩]
    · rw [if_neg e]
      simp only [crashB]
      rw [if_neg]
      rintro ⟨h3, h4⟩
      rcases Nat.lt_or_gt_of_ne e with h5 | h5
      · have := mono h5; omega
      · have := mono h5; omega
  · funext j
    rw [crashB_length s keep _ j h, crashB_length s keep _ j h]
theorem flipB_add (y : Int) (a k : Nat) : flipB y (8 * a + k) = flipB y k := by
  unfold flipB
  rw [show (8 * a + k) % 8 = k % 8 by omega]
end Disk
end Go.Proofs.Ytfkgpecglcjpkaa
