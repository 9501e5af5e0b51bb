/- A disk as plain data: what its operations do. No program is named. Conditions: none. -/
import Derived.Test.YtfkgpecglcjpkaaGreatLib
set_option linter.unusedVariables false
set_option linter.unusedSimpArgs false
set_option linter.unusedSectionVars false
open Go.RowKit
namespace Go.Proofs.YtfkgpecglcjpkaaGreat
open L
namespace Disk
structure DS where
  room : Nat
  B : Nat → List Int
  F : Nat → Nat
  off : Bool
  plan : Int
/-- The sum of g below n. -/
def tot (g : Nat → Nat) : Nat → Nat
  | 0 => 0
  | n + 1 => tot g n + g n
theorem tot_le {g : Nat → Nat} {i : Nat} : ∀ {n : Nat}, i < n → g i ≤ tot g n
  | 0, h => by omega
  | n + 1, h => by
    unfold tot
    by_cases e : i = n
    · subst e; omega
    · have := tot_le (g := g) (show i < n by omega); omega
theorem tot_congr {g h : Nat → Nat} : ∀ {n : Nat}, (∀ i, i < n → g i = h i) → tot g n = tot h n
  | 0, _ => rfl
  | n + 1, e => by unfold tot; rw [tot_congr (n := n) (fun i hi => e i (by omega)), e n (by omega)]
theorem tot_mono {g h : Nat → Nat} : ∀ {n : Nat}, (∀ i, i < n → g i ≤ h i) → tot g n ≤ tot h n
  | 0, _ => Nat.le_refl _
  | n + 1, e => by
    unfold tot
    have h1 := tot_mono (n := n) (fun i hi => e i (by omega))
    have h2 := e n (by omega)
    omega
/-- g at all places but one. -/
theorem tot_one {g h : Nat → Nat} {i : Nat} : ∀ {n : Nat}, i < n → (∀ j, j < n → j ≠ i → g j = h j) → tot g n + h i = tot h n + g i
  | 0, hi, _ => by omega
  | n + 1, hi, e => by
    unfold tot
    by_cases e1 : i = n
    · subst e1
      rw [tot_congr (n := i) (fun j hj => e j (by omega) (by omega))]
      omega
    · have h1 := tot_one (n := n) (g := g) (h := h) (i := i) (by omega) (fun j hj hne => e j (by omega) hne)
      have h2 := e n (by omega) (fun h => e1 h.symm)
      omega
theorem tot_zero {g : Nat → Nat} {n : Nat} (h : ∀ i, i < n → g i = 0) : tot g n = 0 := by
  induction n with
  | zero => rfl
  | succ n ih => unfold tot; rw [ih (fun i hi => h i (by omega)), h n (by omega)]
def used (s : DS) : Nat := tot (fun i => (s.B i).length) 64
structure DS.Ok (s : DS) : Prop where
  out : ∀ i, 64 ≤ i → s.B i = []
  firm : ∀ i, s.F i ≤ (s.B i).length
  u8 : ∀ i, ∀ x ∈ s.B i, 0 ≤ x ∧ x ≤ 255
  plan : -1 ≤ s.plan ∧ s.plan ≤ 9223372036854775807
  room : s.room ≤ 16777216
  used : used s ≤ s.room
theorem DS.Ok.len {s : DS} (h : s.Ok) (i : Nat) : (s.B i).length ≤ 16777216 := by
  by_cases hi : i < 64
  · have h1 := tot_le (g := fun i => (s.B i).length) hi
    have h2 := h.used
    have h3 := h.room
    unfold Disk.used at h2
    omega
  · rw [h.out i (by omega)]; simp
def newS (room : Nat) : DS := ⟨room, fun _ => [], fun _ => 0, false, -1⟩
theorem newS_ok {room : Nat} (h : room ≤ 16777216) : (newS room).Ok :=
  ⟨fun _ _ => rfl, fun _ => Nat.zero_le _, fun _ x hx => by simp [newS] at hx, ⟨by simp [newS], by simp [newS]⟩, h, by
    unfold Disk.used; rw [tot_zero (g := fun i => ((newS room).B i).length) (fun _ _ => rfl)]; exact Nat.zero_le _⟩
/-- A step, and whether the power fails during it. -/
def stepS (s : DS) : Bool × DS :=
  if s.plan < 0 then (false, s) else if s.plan = 0 then (true, { s with plan := -1, off := true }) else (false, { s with plan := s.plan - 1 })
theorem stepS_B (s : DS) : (stepS s).2.B = s.B ∧ (stepS s).2.F = s.F ∧ (stepS s).2.room = s.room := by
  unfold stepS
  split
  · exact ⟨rfl, rfl, rfl⟩
  · split <;> exact ⟨rfl, rfl, rfl⟩
theorem stepS_ok {s : DS} (h : s.Ok) : (stepS s).2.Ok := by
  obtain ⟨h1, h2, h3, h4, h5, h6⟩ := h
  unfold stepS
  split
  · exact ⟨h1, h2, h3, h4, h5, h6⟩
  · split
    · exact ⟨h1, h2, h3, ⟨by simp, by simp⟩, h5, h6⟩
    · exact ⟨h1, h2, h3, ⟨by simp only; omega, by simp only; omega⟩, h5, h6⟩
/-- The bytes of a file, changed. -/
def setB (B : Nat → List Int) (i : Nat) (l : List Int) : Nat → List Int := fun j => if j = i then l else B j
def setF (F : Nat → Nat) (i : Nat) (n : Nat) : Nat → Nat := fun j => if j = i then n else F j
def isF (f : Int) : Bool := decide (0 ≤ f ∧ f < 64)
def appendS (s : DS) (f : Int) (b : List Int) : Int × DS :=
  if isF f = false then (1, s) else if s.off = true then (23, s) else if s.room < used s + b.length then (22, s)
  else
    let r := stepS { s with B := setB s.B f.toNat (s.B f.toNat ++ b) }
    (if r.1 then 23 else 0, r.2)
theorem append_ok {s : DS} (h : s.Ok) {f : Nat} (hf : f < 64) {b : List Int} (hb : ∀ x ∈ b, 0 ≤ x ∧ x ≤ 255) (hr : used s + b.length ≤ s.room) : ({ s with B := setB s.B f (s.B f ++ b) } : DS).Ok := by
  obtain ⟨h1, h2, h3, h4, h5, h6⟩ := h
  refine ⟨fun i hi => ?_, fun i => ?_, fun i x hx => ?_, h4, h5, ?_⟩
  · simp only [setB]; rw [if_neg (by omega)]; exact h1 i hi
  · simp only [setB]
    split
    · rename_i e; subst e; rw [List.length_append]; have := h2 i; omega
    · exact h2 i
  · simp only [setB] at hx
    split at hx
    · rcases List.mem_append.1 hx with hx | hx
      · exact h3 f x hx
      · exact hb x hx
    · exact h3 i x hx
  · unfold used at hr ⊢
    simp only
    have h7 := tot_one (n := 64) (g := fun i => (setB s.B f (s.B f ++ b) i).length) (h := fun i => (s.B i).length) (i := f) hf (fun j _ hne => by simp only [setB]; rw [if_neg hne])
    simp only [setB, if_pos, List.length_append] at h7
    simp only [setB]
    omega
theorem appendS_ok {s : DS} (h : s.Ok) {f : Int} {b : List Int} (hb : ∀ x ∈ b, 0 ≤ x ∧ x ≤ 255) : (appendS s f b).2.Ok := by
  unfold appendS
  split
  · exact h
  · rename_i hf
    split
    · exact h
    · split
      · exact h
      · simp [isF] at hf
        exact stepS_ok (append_ok h (by omega) hb (by omega))
def readS (s : DS) (f : Int) : List Int × Int :=
  if isF f = false then ([], 1) else if s.off = true then ([], 23) else (s.B f.toNat, 0)
def syncS (s : DS) : Int × DS :=
  if s.off = true then (23, s) else if (stepS s).1 = true then (23, (stepS s).2) else (0, { (stepS s).2 with F := fun i => (s.B i).length })
theorem syncS_ok {s : DS} (h : s.Ok) : (syncS s).2.Ok := by
  have h1 := stepS_ok h
  have hB := stepS_B s
  unfold syncS
  split
  · exact h
  · split
    · exact h1
    · exact ⟨h1.out, fun i => by simp only [hB.1]; exact Nat.le_refl _, h1.u8, h1.plan, h1.room, h1.used⟩
def truncS (s : DS) (f z : Int) : Int × DS :=
  if isF f = false ∨ z < 0 ∨ ((s.B f.toNat).length : Int) < z then (1, s) else if s.off = true then (23, s) else if (stepS s).1 = true then (23, (stepS s).2)
  else (0, { (stepS s).2 with B := setB s.B f.toNat ((s.B f.toNat).take z.toNat), F := setF s.F f.toNat (min (s.F f.toNat) z.toNat) })
theorem used_less {s : DS} (h : s.Ok) {B : Nat → List Int} (hB : ∀ i, (B i).length ≤ (s.B i).length) : tot (fun i => (B i).length) 64 ≤ s.room := by
  have h1 := tot_mono (n := 64) (g := fun i => (B i).length) (h := fun i => (s.B i).length) (fun i _ => hB i)
  have h2 := h.used
  unfold used at h2
  omega
theorem truncS_ok {s : DS} (h : s.Ok) {f z : Int} : (truncS s f z).2.Ok := by
  have h1 := stepS_ok h
  have hB := stepS_B s
  unfold truncS
  split
  · exact h
  · rename_i hc
    split
    · exact h
    · split
      · exact h1
      · simp only [not_or, Bool.not_eq_false, Int.not_lt] at hc
        have hlen : ∀ i, (setB s.B f.toNat ((s.B f.toNat).take z.toNat) i).length ≤ (s.B i).length := fun i => by
          simp only [setB]
          split
          · rename_i e; subst e; rw [List.length_take]; omega
          · exact Nat.le_refl _
        refine ⟨fun i hi => ?_, fun i => ?_, fun i x hx => ?_, h1.plan, h1.room, ?_⟩
        · have := hlen i
          rw [h.out i hi] at this
          exact List.eq_nil_of_length_eq_zero (by simpa using this)
        · simp only [setB, setF]
          split
          · rw [List.length_take]; have := h.firm f.toNat; omega
          · exact h.firm i
        · simp only [setB] at hx
          split at hx
          · exact h.u8 _ x (List.mem_of_mem_take hx)
          · exact h.u8 i x hx
        · have := used_less h hlen
          unfold used
          simp only [hB.2.2]
          exact this
def armS (s : DS) (n : Int) : DS := if s.off = true then s else { s with plan := max n (-1) }
theorem armS_ok {s : DS} (h : s.Ok) {n : Int} (hn : IsI64 n) : (armS s n).Ok := by
  unfold armS
  split
  · exact h
  · obtain ⟨h1, h2, h3, h4, h5, h6⟩ := h
    unfold IsI64 at hn
    exact ⟨h1, h2, h3, ⟨by simp only; omega, by simp only; omega⟩, h5, h6⟩
/-- A bit of a byte, inverted; the most significant one is number 0. -/
def flipB (x : Int) (k : Nat) : Int := bits .xor .u8 x (128 / 2 ^ (k % 8))
theorem flipB_u8 {y : Int} (hy : 0 ≤ y ∧ y ≤ 255) (j : Nat) : (0 ≤ flipB y j ∧ flipB y j ≤ 255) ∧ y ≠ flipB y j ∧ flipB (flipB y j) j = y := by
  obtain ⟨h0, h1⟩ := hy
  obtain ⟨n, rfl⟩ := Int.eq_ofNat_of_zero_le h0
  have key : ∀ (a : Fin 256) (s : Fin 8), 0 ≤ bits .xor .u8 ((a.val : Nat) : Int) (128 / 2 ^ s.val) ∧ bits .xor .u8 ((a.val : Nat) : Int) (128 / 2 ^ s.val) ≤ 255 ∧ ((a.val : Nat) : Int) ≠ bits .xor .u8 ((a.val : Nat) : Int) (128 / 2 ^ s.val) ∧ bits .xor .u8 (bits .xor .u8 ((a.val : Nat) : Int) (128 / 2 ^ s.val)) (128 / 2 ^ s.val) = ((a.val : Nat) : Int) := by decide +kernel
  have h := key ⟨n, by omega⟩ ⟨j % 8, by omega⟩
  exact ⟨⟨h.1, h.2.1⟩, h.2.2.1, h.2.2.2⟩
/-- Bytes with the bit k inverted. -/
def flipL (l : List Int) (k : Nat) : List Int := l.modify (k / 8) (fun x => flipB x k)
theorem flipL_length (l : List Int) (k : Nat) : (flipL l k).length = l.length := by simp [flipL]
theorem flipL_u8 {l : List Int} (h : ∀ x ∈ l, 0 ≤ x ∧ x ≤ 255) (k : Nat) : ∀ x ∈ flipL l k, 0 ≤ x ∧ x ≤ 255 := by
  intro x hx
  obtain ⟨i, hi⟩ := List.getElem?_of_mem hx
  unfold flipL at hi
  rw [List.getElem?_modify] at hi
  cases hl : l[i]? with
  | none => rw [hl] at hi; simp at hi
  | some y =>
    rw [hl] at hi
    have hy := h y (List.mem_of_getElem? hl)
    by_cases e : k / 8 = i
    · simp [e] at hi; rw [← hi]; exact (flipB_u8 hy k).1
    · simp [e] at hi; rw [← hi]; exact hy
/-- How many files before number i are not empty. -/
def rank (B : Nat → List Int) (i : Nat) : Nat := tot (fun j => if B j = [] then 0 else 1) i
/-- How many of its loose bytes a file keeps in a crash. -/
def keptN (s : DS) (keep : List Int) (i : Nat) : Nat :=
  if s.B i = [] then 0 else match keep[rank s.B i]? with
  | none => 0
  | some k => min k.toNat ((s.B i).length - s.F i)
theorem keptN_le (s : DS) (keep : List Int) (i : Nat) : keptN s keep i ≤ (s.B i).length - s.F i := by
  unfold keptN
  split
  · omega
  · split
    · omega
    · omega
/-- The file number i behind a crash: p is the bit among all survivors that is inverted. -/
def crashB (s : DS) (keep : List Int) (p : Option Nat) (i : Nat) : List Int :=
  let t := (s.B i).take (s.F i + keptN s keep i)
  let o := tot (keptN s keep) i
  match p with
  | none => t
  | some q => if 8 * o ≤ q ∧ q < 8 * (o + keptN s keep i) then flipL t (8 * s.F i + (q - 8 * o)) else t
def crashAt (s : DS) (keep : List Int) (flip : Int) : Option Nat :=
  if 0 ≤ flip ∧ 0 < tot (keptN s keep) 64 then some (flip.toNat % (8 * tot (keptN s keep) 64)) else none
def crashS (s : DS) (keep : List Int) (flip : Int) : DS :=
  { s with B := crashB s keep (crashAt s keep flip), F := fun i => (crashB s keep (crashAt s keep flip) i).length, off := false, plan := -1 }
theorem crashB_length (s : DS) (keep : List Int) (p : Option Nat) (i : Nat) (h : s.Ok) : (crashB s keep p i).length = s.F i + keptN s keep i := by
  have h1 := keptN_le s keep i
  have h2 := h.firm i
  unfold crashB
  simp only
  split
  · rw [List.length_take]; omega
  · split
    · rw [flipL_length, List.length_take]; omega
    · rw [List.length_take]; omega
theorem crashB_u8 (s : DS) (keep : List Int) (p : Option Nat) (i : Nat) (h : s.Ok) : ∀ x ∈ crashB s keep p i, 0 ≤ x ∧ x ≤ 255 := by
  have ht : ∀ x ∈ (s.B i).take (s.F i + keptN s keep i), 0 ≤ x ∧ x ≤ 255 := fun x hx => h.u8 i x (List.mem_of_mem_take hx)
  unfold crashB
  simp only
  split
  · exact ht
  · split
    · exact flipL_u8 ht _
    · exact ht
theorem crashS_ok {s : DS} (h : s.Ok) (keep : List Int) (flip : Int) : (crashS s keep flip).Ok := by
  have hl := fun i => crashB_length s keep (crashAt s keep flip) i h
  refine ⟨fun i hi => ?_, fun i => Nat.le_refl _, fun i => crashB_u8 s keep _ i h, ⟨by simp [crashS], by simp [crashS]⟩, h.room, ?_⟩
  · have h1 := hl i
    have h2 := keptN_le s keep i
    have h3 := h.firm i
    rw [h.out i hi] at h2 h3
    simp only [List.length_nil] at h2 h3
    exact List.eq_nil_of_length_eq_zero (show (crashB s keep (crashAt s keep flip) i).length = 0 by omega)
  · refine used_less h (fun i => ?_)
    have h2 := keptN_le s keep i
    have h3 := h.firm i
    have h1 := hl i
    simp only [crashS]
    omega
def rotS (s : DS) (f bit : Int) : Int × DS :=
  if isF f = false ∨ bit < 0 ∨ 8 * ((s.B f.toNat).length : Int) ≤ bit then (1, s) else (0, { s with B := setB s.B f.toNat (flipL (s.B f.toNat) bit.toNat) })
theorem rotS_ok {s : DS} (h : s.Ok) {f bit : Int} : (rotS s f bit).2.Ok := by
  unfold rotS
  split
  · exact h
  · have hl : ∀ i, (setB s.B f.toNat (flipL (s.B f.toNat) bit.toNat) i).length = (s.B i).length := fun i => by
      simp only [setB]
      split
      · rename_i e; rw [e, flipL_length]
      · rfl
    refine ⟨fun i hi => ?_, fun i => ?_, fun i x hx => ?_, h.plan, h.room, used_less h (fun i => Nat.le_of_eq (hl i))⟩
    · exact List.eq_nil_of_length_eq_zero (by rw [hl i, h.out i hi]; rfl)
    · simp only; rw [hl i]; exact h.firm i
    · simp only [setB] at hx
      split at hx
      · exact flipL_u8 (h.u8 _) _ x hx
      · exact h.u8 i x hx
/-- The numbers of the files that are not empty. -/
def filesS (s : DS) : List Nat := (List.range 64).filter fun i => !(s.B i).isEmpty
end Disk
end Go.Proofs.YtfkgpecglcjpkaaGreat
