/- Walks through the laws of package trim: lives. Conditions: none. -/
import Derived.Test.YtnmfihgdedifoaaTrimT
import Derived.Test.YtnmfihgdedifoaaSame
set_option linter.unusedVariables false
set_option linter.unusedSimpArgs false
set_option linter.unusedSectionVars false
open Go.RowKit
namespace Go.Proofs.Ytnmfihgdedifoaa
open L R01
namespace Trim
def na : ByteArray := ⟨#[97]⟩
def nb : ByteArray := ⟨#[98]⟩
def ne : ByteArray := ⟨#[]⟩
def lS0 : StepD := ⟨1, 0, 0, [], na, [2], []⟩
def lS1 : StepD := ⟨1, 0, 0, [], nb, [3], []⟩
def lS2 : StepD := ⟨5, 0, 0, [], ne, [2, 3], [0]⟩
def lS3 : StepD := ⟨5, 0, 0, [], ne, [2, 3], [1]⟩
def lP : PrfD := ⟨[], [lS0, lS1, lS2, lS3]⟩
theorem lv_check : check lP = 0 := by decide
theorem lv_uses : tab 4 (lastOn lP.steps) = [false, true, false, true] := by decide
theorem lv_trim : pickP lP (lastOn lP.steps) = ⟨[], [lS1, { lS3 with hints := [0] }]⟩ := by rfl
theorem na_ne : na ≠ nb := by
  intro h
  have h2 := congrArg ByteArray.data h
  simp [na, nb] at h2
theorem has_a : hasN [nb] na = false := hasN_no (by simp [na_ne])
theorem has_b : hasN [nb] nb = true := hasN_iff.2 (by simp)
theorem lv_k : ∀ j, keptTo [nb] lP.steps 4 j = (j == 0 || j == 2) := by
  have h1 : ∀ j, keptTo [nb] lP.steps 1 j = (j == 0) := fun j => by
    rw [keptTo]
    by_cases e : j = 0
    · subst e; rw [if_pos rfl]; show okS [nb] lS0 _ = _; unfold okS; rw [show lS0.name = na from rfl, has_a]; rfl
    · rw [if_neg e]; show false = _; simp [e]
  have h2 : ∀ j, keptTo [nb] lP.steps 2 j = (j == 0) := fun j => by
    rw [keptTo]
    by_cases e : j = 1
    · subst e; rw [if_pos rfl]; show okS [nb] lS1 _ = _; unfold okS; rw [show lS1.name = nb from rfl, has_b]; rfl
    · rw [if_neg e, h1]
  have h3 : ∀ j, keptTo [nb] lP.steps 3 j = (j == 0 || j == 2) := fun j => by
    rw [keptTo]
    by_cases e : j = 2
    · subst e; rw [if_pos rfl]; show okS [nb] lS2 _ = _; unfold okS; show (true && (keptTo [nb] lP.steps 2 0 && true)) = _; rw [h2]; rfl
    · rw [if_neg e, h2]; simp [e]
  intro j
  rw [keptTo]
  by_cases e : j = 3
  · subst e; rw [if_pos rfl]; show okS [nb] lS3 _ = _; unfold okS; show (true && (keptTo [nb] lP.steps 3 1 && true)) = _; rw [h3]; rfl
  · rw [if_neg e, h3]
theorem lv_k' : keptTo [nb] lP.steps 4 = fun j => (j == 0 || j == 2) := funext lv_k
theorem lv_kept : pickP lP (keptTo [nb] lP.steps lP.steps.length) = ⟨[], [lS0, { lS2 with hints := [0] }]⟩ := by
  show pickP lP (keptTo [nb] lP.steps 4) = _
  rw [lv_k']; rfl
theorem lv_nums : tabI 4 (stepNo (keptTo [nb] lP.steps lP.steps.length)) = [0, -1, 1, -1] := by
  show tabI 4 (stepNo (keptTo [nb] lP.steps 4)) = _
  rw [lv_k']; decide
theorem lv_prem {R : List ByteArray} (h : PremOf lP.steps (rests lP.steps 3) R) : R = [nb] := by
  refine h.eq ⟨by simp, fun x => ?_⟩
  rw [List.mem_singleton]
  constructor
  · rintro rfl; exact ⟨1, lS1, rfl, by decide, rfl, rfl⟩
  · rintro ⟨k, st, h1, h2, h3, h4⟩
    match k with
    | 0 => exact absurd h2 (by decide)
    | 1 => cases h1; exact h4.symm
    | 2 => exact absurd h2 (by decide)
    | 3 => cases h1; cases h3
    | (k + 4) => cases h1
/-- The example in memory. -/
theorem lv_mem (w : World) : ∃ w8 : World, w8 = (((((((((w.alloc (.cells #[.int .i64 2] 3)).alloc (.cells #[.int .i64 3] 3)).alloc (.cells #[.int .i64 2, .int .i64 3] 3)).alloc (.cells #[.int .i64 0] 3)).alloc (.cells #[.int .i64 2, .int .i64 3] 3)).alloc (.cells #[.int .i64 1] 3)).alloc (.cells #[.int .i64 1, .int .i64 0, .int .i64 0, .slice none 0 0, .string ⟨#[97]⟩, .slice (some ⟨w.heap.size, 0, none⟩) 1 1, .slice none 0 0, .int .i64 1, .int .i64 0, .int .i64 0, .slice none 0 0, .string ⟨#[98]⟩, .slice (some ⟨w.heap.size + 1, 0, none⟩) 1 1, .slice none 0 0, .int .i64 5, .int .i64 0, .int .i64 0, .slice none 0 0, .string ⟨#[]⟩, .slice (some ⟨w.heap.size + 1 + 1, 0, none⟩) 2 2, .slice (some ⟨w.heap.size + 1 + 1 + 1, 0, none⟩) 1 1, .int .i64 5, .int .i64 0, .int .i64 0, .slice none 0 0, .string ⟨#[]⟩, .slice (some ⟨w.heap.size + 1 + 1 + 1 + 1, 0, none⟩) 2 2, .slice (some ⟨w.heap.size + 1 + 1 + 1 + 1 + 1, 0, none⟩) 1 1] 56)).alloc (.cells #[.slice none 0 0, .slice (some ⟨w.heap.size + 1 + 1 + 1 + 1 + 1 + 1, 0, none⟩) 4 4] 30))) ∧ Upd [] w w8 ∧ PrL w8 (.agg #[.slice none 0 0, .slice (some ⟨w.heap.size + 1 + 1 + 1 + 1 + 1 + 1, 0, none⟩) 4 4]) lP ∧ Blk w8 (w.heap.size + 1 + 1 + 1 + 1 + 1 + 1 + 1) [.slice none 0 0, .slice (some ⟨w.heap.size + 1 + 1 + 1 + 1 + 1 + 1, 0, none⟩) 4 4] 30 := by
  obtain ⟨w1, e1⟩ : ∃ v : World, v = w.alloc (.cells #[.int .i64 2] 3) := ⟨_, rfl⟩
  have z1 : w1.heap.size = w.heap.size + 1 := by rw [e1]; simp
  have u1 : Upd [] w w1 := by rw [e1]; exact (Upd.refl _ _).alloc _
  have b0 : Blk w1 (w.heap.size) [.int .i64 2] 3 := by
    have h := Blk.new w [.int .i64 2] 3
    rw [← e1] at h
    exact h
  obtain ⟨w2, e2⟩ : ∃ v : World, v = w1.alloc (.cells #[.int .i64 3] 3) := ⟨_, rfl⟩
  have z2 : w2.heap.size = w.heap.size + 1 + 1 := by rw [e2]; simp [z1]
  have u2 : Upd [] w1 w2 := by rw [e2]; exact (Upd.refl _ _).alloc _
  have b1 : Blk w2 (w.heap.size + 1) [.int .i64 3] 3 := by
    have h := Blk.new w1 [.int .i64 3] 3
    rw [← e2, z1] at h
    exact h
  obtain ⟨w3, e3⟩ : ∃ v : World, v = w2.alloc (.cells #[.int .i64 2, .int .i64 3] 3) := ⟨_, rfl⟩
  have z3 : w3.heap.size = w.heap.size + 1 + 1 + 1 := by rw [e3]; simp [z2]
  have u3 : Upd [] w2 w3 := by rw [e3]; exact (Upd.refl _ _).alloc _
  have b2 : Blk w3 (w.heap.size + 1 + 1) [.int .i64 2, .int .i64 3] 3 := by
    have h := Blk.new w2 [.int .i64 2, .int .i64 3] 3
    rw [← e3, z2] at h
    exact h
  obtain ⟨w4, e4⟩ : ∃ v : World, v = w3.alloc (.cells #[.int .i64 0] 3) := ⟨_, rfl⟩
  have z4 : w4.heap.size = w.heap.size + 1 + 1 + 1 + 1 := by rw [e4]; simp [z3]
  have u4 : Upd [] w3 w4 := by rw [e4]; exact (Upd.refl _ _).alloc _
  have b3 : Blk w4 (w.heap.size + 1 + 1 + 1) [.int .i64 0] 3 := by
    have h := Blk.new w3 [.int .i64 0] 3
    rw [← e4, z3] at h
    exact h
  obtain ⟨w5, e5⟩ : ∃ v : World, v = w4.alloc (.cells #[.int .i64 2, .int .i64 3] 3) := ⟨_, rfl⟩
  have z5 : w5.heap.size = w.heap.size + 1 + 1 + 1 + 1 + 1 := by rw [e5]; simp [z4]
  have u5 : Upd [] w4 w5 := by rw [e5]; exact (Upd.refl _ _).alloc _
  have b4 : Blk w5 (w.heap.size + 1 + 1 + 1 + 1) [.int .i64 2, .int .i64 3] 3 := by
    have h := Blk.new w4 [.int .i64 2, .int .i64 3] 3
    rw [← e5, z4] at h
    exact h
  obtain ⟨w6, e6⟩ : ∃ v : World, v = w5.alloc (.cells #[.int .i64 1] 3) := ⟨_, rfl⟩
  have z6 : w6.heap.size = w.heap.size + 1 + 1 + 1 + 1 + 1 + 1 := by rw [e6]; simp [z5]
  have u6 : Upd [] w5 w6 := by rw [e6]; exact (Upd.refl _ _).alloc _
  have b5 : Blk w6 (w.heap.size + 1 + 1 + 1 + 1 + 1) [.int .i64 1] 3 := by
    have h := Blk.new w5 [.int .i64 1] 3
    rw [← e6, z5] at h
    exact h
  obtain ⟨w7, e7⟩ : ∃ v : World, v = w6.alloc (.cells #[.int .i64 1, .int .i64 0, .int .i64 0, .slice none 0 0, .string ⟨#[97]⟩, .slice (some ⟨w.heap.size, 0, none⟩) 1 1, .slice none 0 0, .int .i64 1, .int .i64 0, .int .i64 0, .slice none 0 0, .string ⟨#[98]⟩, .slice (some ⟨w.heap.size + 1, 0, none⟩) 1 1, .slice none 0 0, .int .i64 5, .int .i64 0, .int .i64 0, .slice none 0 0, .string ⟨#[]⟩, .slice (some ⟨w.heap.size + 1 + 1, 0, none⟩) 2 2, .slice (some ⟨w.heap.size + 1 + 1 + 1, 0, none⟩) 1 1, .int .i64 5, .int .i64 0, .int .i64 0, .slice none 0 0, .string ⟨#[]⟩, .slice (some ⟨w.heap.size + 1 + 1 + 1 + 1, 0, none⟩) 2 2, .slice (some ⟨w.heap.size + 1 + 1 + 1 + 1 + 1, 0, none⟩) 1 1] 56) := ⟨_, rfl⟩
  have z7 : w7.heap.size = w.heap.size + 1 + 1 + 1 + 1 + 1 + 1 + 1 := by rw [e7]; simp [z6]
  have u7 : Upd [] w6 w7 := by rw [e7]; exact (Upd.refl _ _).alloc _
  have b6 : Blk w7 (w.heap.size + 1 + 1 + 1 + 1 + 1 + 1) [.int .i64 1, .int .i64 0, .int .i64 0, .slice none 0 0, .string ⟨#[97]⟩, .slice (some ⟨w.heap.size, 0, none⟩) 1 1, .slice none 0 0, .int .i64 1, .int .i64 0, .int .i64 0, .slice none 0 0, .string ⟨#[98]⟩, .slice (some ⟨w.heap.size + 1, 0, none⟩) 1 1, .slice none 0 0, .int .i64 5, .int .i64 0, .int .i64 0, .slice none 0 0, .string ⟨#[]⟩, .slice (some ⟨w.heap.size + 1 + 1, 0, none⟩) 2 2, .slice (some ⟨w.heap.size + 1 + 1 + 1, 0, none⟩) 1 1, .int .i64 5, .int .i64 0, .int .i64 0, .slice none 0 0, .string ⟨#[]⟩, .slice (some ⟨w.heap.size + 1 + 1 + 1 + 1, 0, none⟩) 2 2, .slice (some ⟨w.heap.size + 1 + 1 + 1 + 1 + 1, 0, none⟩) 1 1] 56 := by
    have h := Blk.new w6 [.int .i64 1, .int .i64 0, .int .i64 0, .slice none 0 0, .string ⟨#[97]⟩, .slice (some ⟨w.heap.size, 0, none⟩) 1 1, .slice none 0 0, .int .i64 1, .int .i64 0, .int .i64 0, .slice none 0 0, .string ⟨#[98]⟩, .slice (some ⟨w.heap.size + 1, 0, none⟩) 1 1, .slice none 0 0, .int .i64 5, .int .i64 0, .int .i64 0, .slice none 0 0, .string ⟨#[]⟩, .slice (some ⟨w.heap.size + 1 + 1, 0, none⟩) 2 2, .slice (some ⟨w.heap.size + 1 + 1 + 1, 0, none⟩) 1 1, .int .i64 5, .int .i64 0, .int .i64 0, .slice none 0 0, .string ⟨#[]⟩, .slice (some ⟨w.heap.size + 1 + 1 + 1 + 1, 0, none⟩) 2 2, .slice (some ⟨w.heap.size + 1 + 1 + 1 + 1 + 1, 0, none⟩) 1 1] 56
    rw [← e7, z6] at h
    exact h
  obtain ⟨w8, e8⟩ : ∃ v : World, v = w7.alloc (.cells #[.slice none 0 0, .slice (some ⟨w.heap.size + 1 + 1 + 1 + 1 + 1 + 1, 0, none⟩) 4 4] 30) := ⟨_, rfl⟩
  have z8 : w8.heap.size = w.heap.size + 1 + 1 + 1 + 1 + 1 + 1 + 1 + 1 := by rw [e8]; simp [z7]
  have u8 : Upd [] w7 w8 := by rw [e8]; exact (Upd.refl _ _).alloc _
  have b7 : Blk w8 (w.heap.size + 1 + 1 + 1 + 1 + 1 + 1 + 1) [.slice none 0 0, .slice (some ⟨w.heap.size + 1 + 1 + 1 + 1 + 1 + 1, 0, none⟩) 4 4] 30 := by
    have h := Blk.new w7 [.slice none 0 0, .slice (some ⟨w.heap.size + 1 + 1 + 1 + 1 + 1 + 1, 0, none⟩) 4 4] 30
    rw [← e8, z7] at h
    exact h
  have b0 := b0.upd u2 (by simp)
  have b0 := b0.upd u3 (by simp)
  have b0 := b0.upd u4 (by simp)
  have b0 := b0.upd u5 (by simp)
  have b0 := b0.upd u6 (by simp)
  have b0 := b0.upd u7 (by simp)
  have b0 := b0.upd u8 (by simp)
  have b1 := b1.upd u3 (by simp)
  have b1 := b1.upd u4 (by simp)
  have b1 := b1.upd u5 (by simp)
  have b1 := b1.upd u6 (by simp)
  have b1 := b1.upd u7 (by simp)
  have b1 := b1.upd u8 (by simp)
  have b2 := b2.upd u4 (by simp)
  have b2 := b2.upd u5 (by simp)
  have b2 := b2.upd u6 (by simp)
  have b2 := b2.upd u7 (by simp)
  have b2 := b2.upd u8 (by simp)
  have b3 := b3.upd u5 (by simp)
  have b3 := b3.upd u6 (by simp)
  have b3 := b3.upd u7 (by simp)
  have b3 := b3.upd u8 (by simp)
  have b4 := b4.upd u6 (by simp)
  have b4 := b4.upd u7 (by simp)
  have b4 := b4.upd u8 (by simp)
  have b5 := b5.upd u7 (by simp)
  have b5 := b5.upd u8 (by simp)
  have b6 := b6.upd u8 (by simp)
  have U : Upd [] w w8 := (((((((u1.step u2).step u3).step u4).step u5).step u6).step u7).step u8)
  refine ⟨w8, by rw [e8, e7, e6, e5, e4, e3, e2, e1], U, ⟨_, _, rfl, ⟨fun _ => [undef, undef, undef, undef], World.ownsRow_nil _ _ _ _, fun _ => rfl, fun i d hd => by simp [lP] at hd⟩, ?_⟩, b7⟩
  refine ⟨fun i => match i with
    | 0 => stC lS0 (.slice none 0 0) (.slice (some ⟨w.heap.size, 0, none⟩) 1 1) (.slice none 0 0)
    | 1 => stC lS1 (.slice none 0 0) (.slice (some ⟨w.heap.size + 1, 0, none⟩) 1 1) (.slice none 0 0)
    | 2 => stC lS2 (.slice none 0 0) (.slice (some ⟨w.heap.size + 1 + 1, 0, none⟩) 2 2) (.slice (some ⟨w.heap.size + 1 + 1 + 1, 0, none⟩) 1 1)
    | _ => stC lS3 (.slice none 0 0) (.slice (some ⟨w.heap.size + 1 + 1 + 1 + 1, 0, none⟩) 2 2) (.slice (some ⟨w.heap.size + 1 + 1 + 1 + 1 + 1, 0, none⟩) 1 1), owns_blk (n := 4) b6 rfl (by unfold maxLen; omega), fun i => ?_, fun i d hd => ?_⟩
  · match i with
    | 0 => rfl
    | 1 => rfl
    | 2 => rfl
    | (i + 3) => rfl
  · match i with
    | 0 => cases hd; exact ⟨_, _, _, rfl, rowI_nil _, rowI_blk (xs := [2]) b0 (by simp), rowI_nil _, by simp [IsI64, lS0], by simp [IsI64, lS0], by simp [IsI64, lS0], by simp [lS0], by simp [lS0, IsI64], by simp [lS0], by decide⟩
    | 1 => cases hd; exact ⟨_, _, _, rfl, rowI_nil _, rowI_blk (xs := [3]) b1 (by simp), rowI_nil _, by simp [IsI64, lS1], by simp [IsI64, lS1], by simp [IsI64, lS1], by simp [lS1], by simp [lS1, IsI64], by simp [lS1], by decide⟩
    | 2 => cases hd; exact ⟨_, _, _, rfl, rowI_nil _, rowI_blk (xs := [2, 3]) b2 (by simp), rowI_blk (xs := [0]) b3 (by simp), by simp [IsI64, lS2], by simp [IsI64, lS2], by simp [IsI64, lS2], by simp [lS2], by simp [lS2, IsI64], by simp [lS2, IsI64], by decide⟩
    | 3 => cases hd; exact ⟨_, _, _, rfl, rowI_nil _, rowI_blk (xs := [2, 3]) b4 (by simp), rowI_blk (xs := [1]) b5 (by simp), by simp [IsI64, lS3], by simp [IsI64, lS3], by simp [IsI64, lS3], by simp [lS3], by simp [lS3, IsI64], by simp [lS3, IsI64], by decide⟩
    | (i + 4) => cases hd
def tP : PrfD := ⟨[], [lS1, { lS3 with hints := [0] }]⟩
def kP : PrfD := ⟨[], [lS0, { lS2 with hints := [0] }]⟩
theorem lv_few : Few lP := ⟨by decide, fun k st h => by
  match k with
  | 0 => cases h; decide
  | 1 => cases h; decide
  | 2 => cases h; decide
  | 3 => cases h; decide
  | (k + 4) => cases h⟩
theorem lv_names : ∀ (k : Nat) (st : StepD), lP.steps[k]? = some st → st.name.size ≤ 1000 := fun k st h => by
  match k with
  | 0 => cases h; decide
  | 1 => cases h; decide
  | 2 => cases h; decide
  | 3 => cases h; decide
  | (k + 4) => cases h
section
variable {w : World} {v : Value}
theorem lvU (h : PrL w v lP) : Calls Try.prog 11 #[v] w fun e w' => ∃ g, e = .returned (.tuple #[.slice (some ⟨g, 0, none⟩) 4 4, .int .i64 0]) ∧ Blk w' g (bools [false, true, false, true]) 4 ∧ Upd [] w w' :=
  (Uses_good h lv_check).mono fun e w' ⟨g, h1, h2, _, h4⟩ => ⟨g, h1, by rw [← lv_uses]; exact h2, h4⟩
theorem lvT (h : PrL w v lP) : Calls Try.prog 19 #[v] w fun e w' => ∃ al cl as_ cs, e = .returned (.tuple #[.agg #[.slice al 0 cl, .slice as_ 2 cs], .int .i64 0]) ∧ PrL w' (.agg #[.slice al 0 cl, .slice as_ 2 cs]) tP ∧ Upd [] w w' :=
  (Trim_good h lv_check lv_few).mono fun e w' ⟨v', h1, h2, h3⟩ => by
    rw [lv_trim] at h2
    obtain ⟨al, cl, a2, c2, rfl⟩ := h2.form
    exact ⟨al, cl, a2, c2, h1, h2, h3⟩
theorem lvM (h : PrL w v lP) : Calls Try.prog 13 #[v, .int .i64 3] w fun e w' => ∃ a c, e = .returned (.tuple #[.slice a 1 c, .int .i64 0]) ∧ NmL w' (.slice a 1 c) [nb] ∧ Upd [] w w' :=
  (Prem_good (s := 3) h lv_check (by decide)).mono fun e w' ⟨v', R, h1, h2, h3, h4⟩ => by
    obtain rfl := lv_prem h3
    obtain ⟨a, c, rfl, _⟩ := h2.cells
    exact ⟨a, c, h1, h2, h4⟩
theorem lvK {vg : Value} (h : PrL w v lP) (hg : NmL w vg [nb]) : Calls Try.prog 20 #[v, vg] w fun e w' => ∃ al cl as_ cs gs, e = .returned (.tuple #[.agg #[.slice al 0 cl, .slice as_ 2 cs], .slice (some ⟨gs, 0, none⟩) 4 4, .int .i64 0]) ∧ PrL w' (.agg #[.slice al 0 cl, .slice as_ 2 cs]) kP ∧ RowI w' (.slice (some ⟨gs, 0, none⟩) 4 4) [0, -1, 1, -1] ∧ Upd [] w w' :=
  (Kept_good h lv_check lv_few hg (by intro x hx; simp at hx; subst hx; decide) (by simp) lv_names).mono fun e w' ⟨v', gs, h1, h2, h3, h4⟩ => by
    rw [lv_kept] at h2
    obtain ⟨al, cl, a2, c2, rfl⟩ := h2.form
    exact ⟨al, cl, a2, c2, gs, h1, h2, by rw [← lv_nums]; exact h3, h4⟩
end
section
variable {w : World}
theorem U_all {a b c : World} (h : Upd [] a b) (k : Upd [] b c) : Upd [] a c := h.step k
set_option maxRecDepth 100000 in
set_option maxHeartbeats 8000000 in
theorem lives_calls : Calls Try.prog 17 #[] w fun e w' => e = .returned (.bool true) ∧ Upd [] w w' := by
  obtain ⟨w8, e8, U8, hP, hB⟩ := lv_mem w
  go_enter Try.func17, Try.ntmps17
  go_upto_region 2 with fail
  rw [← e8]
  clear e8
  have c0 := hB.cell (i := 0) rfl
  have c1 := hB.cell (i := 1) rfl
  have HP := Lib.hid (And.intro hP U8)
  have HU := Lib.hid (lvU hP)
  clear hP hB U8
  go_upto_region 3 with (go_at_call 11; (with_reducible refine HU.out.mono ?_); rintro e _ ⟨gu, rfl, hu, uu⟩; obtain ⟨x1, rfl⟩ := Ext.of uu; have H1 := Lib.hid hu; clear hu uu)
  have U1 := x1.upd
  generalize x1.val = w1 at *
  clear x1
  have HP1 := Lib.hid (HP.out.1.ext U1)
  have c0' := U1.some c0 (by simp)
  have c1' := U1.some c1 (by simp)
  go_upto_region 4 with (go_at_call 19; (with_reducible refine (lvT HP1.out).mono ?_); rintro e w3 ⟨al, cl, as_, cs, rfl, hq, uq⟩; have H2 := Lib.hid (And.intro hq (And.intro uq (H1.out.upd uq (by simp)))); clear hq uq)
  have bq := Blk.new w3 [.slice al 0 cl, .slice as_ 2 cs] 30
  have uq := (Upd.refl [] w3).alloc (.cells #[.slice al 0 cl, .slice as_ 2 cs] 30)
  have U2 : Upd [] w8 _ := (U1.step H2.out.2.1).step uq
  have H3 := Lib.hid (And.intro (H2.out.1.kd (es := [3, 88, 56, 82]) (off_nil _ _) (by simp) (by simp) (by simp) (by simp) uq) (And.intro (H2.out.2.2.upd uq (by simp)) (And.intro bq U2)))
  clear c0' c1' H2 bq uq U2 U1 HP1 H1 HU
  generalize hq0 : w3.heap.size = q0 at *
  generalize (w3.alloc (.cells #[.slice al 0 cl, .slice as_ 2 cs] 30)) = w4 at *
  clear hq0
  have c0' := H3.out.2.2.2.some c0 (by simp)
  have c1' := H3.out.2.2.2.some c1 (by simp)
  have HP3 := Lib.hid (HP.out.1.ext H3.out.2.2.2)
  go_upto_region 5 with (go_at_call 13; (with_reducible refine (lvM HP3.out).mono ?_); rintro e w5 ⟨an, cn, rfl, hn, un⟩; have H4 := Lib.hid (And.intro hn un); clear hn un)
  have H5 := Lib.hid (And.intro (H3.out.1.kd (es := [3, 88, 56, 82]) (off_nil _ _) (by simp) (by simp) (by simp) (by simp) H4.out.2) (And.intro (H3.out.2.1.upd H4.out.2 (by simp)) (And.intro (H3.out.2.2.1.upd H4.out.2 (by simp)) (And.intro (H3.out.2.2.2.step H4.out.2) H4.out.1))))
  clear c0' c1' HP3 H3 H4
  have bn := Blk.new w5 [.string nb] 9
  have ub := (Upd.refl [] w5).alloc (.cells #[.string nb] 9)
  have H6 := Lib.hid (And.intro (H5.out.1.kd (es := [3, 88, 56, 82]) (off_nil _ _) (by simp) (by simp) (by simp) (by simp) ub) (And.intro (H5.out.2.1.upd ub (by simp)) (And.intro (H5.out.2.2.1.upd ub (by simp)) (And.intro (H5.out.2.2.2.1.step ub) (And.intro (H5.out.2.2.2.2.ext ub) (show NmL _ (.slice (some ⟨w5.heap.size, 0, none⟩) 1 1) [nb] from owns_blk (n := 1) bn rfl (by unfold maxLen; omega)))))))
  have c0' := (H5.out.2.2.2.1).some c0 (by simp)
  have c1' := (H5.out.2.2.2.1).some c1 (by simp)
  have HK := Lib.hid (lvK (HP.out.1.ext H6.out.2.2.2.1) H6.out.2.2.2.2.2)
  clear bn ub H5
  go_upto_region 6 with (go_at_call 20; refine HK.out.mono ?_; rintro e w7 ⟨ar, cr, sr, tr, gs, rfl, hr, hnum, ur⟩; have H7 := Lib.hid (And.intro hr (And.intro hnum ur)); clear hr hnum ur)
  have uz := (Upd.refl [] w7).alloc (.cells #[.slice ar 0 cr, .slice sr 2 tr] 30)
  have u69 := H7.out.2.2.step uz
  have hq9 := H6.out.1.kd (es := [3, 88, 56, 82]) (off_nil _ _) (by simp) (by simp) (by simp) (by simp) u69
  have hu9 := H6.out.2.1.upd u69 (by simp)
  have hb9 := H6.out.2.2.1.upd u69 (by simp)
  have hU9 := U_all H6.out.2.2.2.1 u69
  have hn9 := H6.out.2.2.2.2.1.ext u69
  have hr9 := H7.out.1.kd (es := [3, 88, 56, 82]) (off_nil _ _) (by simp) (by simp) (by simp) (by simp) uz
  have hm9 := H7.out.2.1.ext uz
  have br9 := Blk.new w7 [.slice ar 0 cr, .slice sr 2 tr] 30
  clear H6 H7 HK uz u69 c0' c1' c0 c1
  generalize hr0 : w7.heap.size = r0 at *
  generalize (w7.alloc (.cells #[.slice ar 0 cr, .slice sr 2 tr] 30)) = w9 at *
  clear hr0
  have q0c := hu9.cell (i := 0) rfl
  have q1c := hu9.cell (i := 1) rfl
  have q2c := hu9.cell (i := 2) rfl
  have q3c := hu9.cell (i := 3) rfl
  have y1 := hb9.cell (i := 1) rfl
  have z1 := br9.cell (i := 1) rfl
  obtain ⟨_, _, he, _, hS⟩ := hq9
  simp only [Value.agg.injEq, Array.mk.injEq, List.cons.injEq, and_true] at he
  obtain ⟨rfl, rfl⟩ := he
  obtain ⟨aq, capq, heq, _, _, hat⟩ := hS.at_
  cases heq
  obtain ⟨g1, vp, vl, vh, rfl, hcell, hF⟩ := hat 0 _ rfl
  have n4 : w9.cell? ⟨g1, 4, none⟩ = some (.string nb) := hcell 4 _ rfl
  obtain ⟨g1', vp', vl', vh', hg, hcell', hF'⟩ := hat 1 _ rfl
  cases hg
  obtain ⟨ah, ch, rfl, _⟩ := hF'.2.2.1.cells
  have n6 : w9.cell? ⟨g1, 13, none⟩ = some (.slice ah 1 ch) := hcell' 6 _ rfl
  obtain ⟨_, _, he, _, hS2⟩ := hr9
  simp only [Value.agg.injEq, Array.mk.injEq, List.cons.injEq, and_true] at he
  obtain ⟨rfl, rfl⟩ := he
  obtain ⟨ak, capk, heq, _, _, hat2⟩ := hS2.at_
  cases heq
  obtain ⟨g2, vp2, vl2, vh2, rfl, hcell2, hF2⟩ := hat2 0 _ rfl
  have m4 : w9.cell? ⟨g2, 4, none⟩ = some (.string na) := hcell2 4 _ rfl
  have HF := Lib.hid (And.intro hF'.2.2.1 (And.intro hn9 (And.intro hm9 hU9)))
  have l1 := World.block_lt_of_cell? _ _ y1
  have l2 := World.block_lt_of_cell? _ _ z1
  have l3 := World.block_lt_of_cell? _ _ m4
  have l4 := World.block_lt_of_cell? _ _ n4
  have l5 := World.block_lt_of_cell? _ _ q0c
  clear hS hat hcell hF hcell' hF' hS2 hat2 hcell2 hF2 hn9 hm9 hU9 hu9 hb9 br9
  go_upto_region 8 with fail
  have hqb : nb.toList = [98] := by rw [ByteArray.toList_eq]; rfl
  have hqa : na.toList = [97] := by rw [ByteArray.toList_eq]; rfl
  have ua := (Upd.refl [] w9).alloc (.cells #[.int .i64 0] 3)
  have HA := Lib.hid (show Calls Try.prog 24 #[.slice ah 1 ch, .slice (some ⟨w9.heap.size, 0, none⟩) 1 1] (w9.alloc (.cells #[.int .i64 0] 3)) fun e w' => e = .returned (.bool true) ∧ Upd [] (w9.alloc (.cells #[.int .i64 0] 3)) w' from
    SameInts_calls (xs := [0]) (ys := [0]) ((show RowI w9 (.slice ah 1 ch) [0] from HF.out.1).ext ua).sl (rowI_blk (xs := [0]) (Blk.new w9 [.int .i64 0] 3) (by simp)).sl)
  have HB := Lib.hid (fun (w' : World) (u : Upd [] w9 w') => show Calls Try.prog 14 #[.slice an 1 cn, .slice (some ⟨w'.heap.size, 0, none⟩) 1 1] (w'.alloc (.cells #[.string ⟨#[98]⟩] 9)) fun e w2 => e = .returned (.bool true) ∧ Upd [] (w'.alloc (.cells #[.string ⟨#[98]⟩] 9)) w2 from by
    have h := sameN_calls (l := [nb]) (m := [nb]) (HF.out.2.1.ext (u.alloc (.cells #[.string ⟨#[98]⟩] 9))) (show NmL (w'.alloc (.cells #[.string ⟨#[98]⟩] 9)) (.slice (some ⟨w'.heap.size, 0, none⟩) 1 1) [nb] from owns_blk (n := 1) (Blk.new w' [.string nb] 9) rfl (by unfold maxLen; omega))
    rw [sameN_iff.2 rfl] at h
    exact h)
  have HC := Lib.hid (fun (w' : World) (u : Upd [] w9 w') => show Calls Try.prog 24 #[.slice (some ⟨gs, 0, none⟩) 4 4, .slice (some ⟨w'.heap.size, 0, none⟩) 4 4] (w'.alloc (.cells #[.int .i64 0, .int .i64 (-1), .int .i64 1, .int .i64 (-1)] 3)) fun e w2 => e = .returned (.bool true) ∧ Upd [] (w'.alloc (.cells #[.int .i64 0, .int .i64 (-1), .int .i64 1, .int .i64 (-1)] 3)) w2 from
    SameInts_calls (xs := [0, -1, 1, -1]) (ys := [0, -1, 1, -1]) (HF.out.2.2.1.ext (u.alloc (.cells #[.int .i64 0, .int .i64 (-1), .int .i64 1, .int .i64 (-1)] 3))).sl (rowI_blk (xs := [0, -1, 1, -1]) (Blk.new w' [.int .i64 0, .int .i64 (-1), .int .i64 1, .int .i64 (-1)] 3) (by simp)).sl)
  have U89f : Upd [] w w9 := HP.out.2.step HF.out.2.2.2
  clear HF
  go_wp2_with (first | (go_at_call 14; (with_reducible refine (HB.out w11 U11).mono ?_); rintro e w12 ⟨rfl, u2⟩; have U12 := (U11.alloc (.cells #[.string ⟨#[98]⟩] 9)).step u2; have z12 := U12.some z1 (by simp); have m12 := U12.some m4 (by simp)) | (go_at_call 24; (with_reducible refine HA.out.mono ?_); rintro e w11 ⟨rfl, u1⟩; have U11 := ua.step u1) | (go_at_call 24; (with_reducible refine (HC.out w12 U12).mono ?_); rintro e w13 ⟨rfl, u3⟩; have U13 := (U12.alloc (.cells #[.int .i64 0, .int .i64 (-1), .int .i64 1, .int .i64 (-1)] 3)).step u3))
  go_ret
  exact ⟨rfl, U89f.step U13⟩
end
end Trim
end Go.Proofs.Ytnmfihgdedifoaa
