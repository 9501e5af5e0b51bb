/- The hash of bytes: plain facts. No program is named. Conditions: none. -/
import Derived.Test.YtfkgpecglcjpkaaGreatWireP
set_option linter.unusedVariables false
set_option linter.unusedSimpArgs false
set_option linter.unusedSectionVars false
open Go.RowKit
namespace Go.Proofs.YtfkgpecglcjpkaaGreat
open L
namespace Hash
theorem xor_u64 {a b : Nat} (ha : a < 18446744073709551616) (hb : b < 18446744073709551616) : bits .xor .u64 (a : Int) (b : Int) = ((a ^^^ b : Nat) : Int) := by
  unfold bits
  simp only [IntKind.wrap_u64]
  rw [BitVec.toNat_xor, Wire.ofInt64 _ (by omega) (by omega), Wire.ofInt64 _ (by omega) (by omega), Int.toNat_natCast, Int.toNat_natCast]
  have : a ^^^ b < 2 ^ 64 := Nat.xor_lt_two_pow (by omega) (by omega)
  omega
theorem xor_lt {a b : Nat} (ha : a < 18446744073709551616) (hb : b < 18446744073709551616) : a ^^^ b < 18446744073709551616 := Nat.xor_lt_two_pow (n := 64) ha hb
theorem mixN_ex : ∃ f : Nat → Nat → Nat, ∀ s w, f s w = (s ^^^ w) * 11400714819323198485 % 18446744073709551616 ^^^ ((s ^^^ w) * 11400714819323198485 % 18446744073709551616) / 4294967296 := ⟨_, fun _ _ => rfl⟩
/-- A word mixed into a state (chosen, so that the kernel never reckons it). -/
noncomputable def mixN : Nat → Nat → Nat := Classical.choose mixN_ex
theorem mixN_def (s w : Nat) : mixN s w = (s ^^^ w) * 11400714819323198485 % 18446744073709551616 ^^^ ((s ^^^ w) * 11400714819323198485 % 18446744073709551616) / 4294967296 := Classical.choose_spec mixN_ex s w
theorem mixN_lt (s w : Nat) : mixN s w < 18446744073709551616 := by
  rw [mixN_def]
  exact xor_lt (Nat.mod_lt _ (by omega)) (by have := Nat.mod_lt ((s ^^^ w) * 11400714819323198485) (show 18446744073709551616 > 0 by omega); omega)
theorem xcanR {x y c : Nat} (h : x ^^^ c = y ^^^ c) : x = y := by
  have := congrArg (· ^^^ c) h
  simpa only [Nat.xor_assoc, Nat.xor_self, Nat.xor_zero] using this
theorem xcanL {x y c : Nat} (h : c ^^^ x = c ^^^ y) : x = y := by
  rw [Nat.xor_comm c, Nat.xor_comm c] at h
  exact xcanR h
theorem half_inj {x y : Nat} (hx : x < 18446744073709551616) (hy : y < 18446744073709551616) (h : x ^^^ x / 4294967296 = y ^^^ y / 4294967296) : x = y := by
  have sh : ∀ z : Nat, z < 18446744073709551616 → (z ^^^ z / 4294967296) >>> 32 = z / 4294967296 := by
    intro z hz
    rw [Nat.shiftRight_xor_distrib, Nat.shiftRight_eq_div_pow, Nat.shiftRight_eq_div_pow]
    rw [show z / 4294967296 / 2 ^ 32 = 0 by omega, Nat.xor_zero]
  have e : x / 4294967296 = y / 4294967296 := by rw [← sh x hx, ← sh y hy, h]
  rw [e] at h
  exact xcanR h
theorem back_gen {F G M q z : Nat} (e : F * G = M * q + 1) (hG : G < M) (hz : z < M) : z * F % M * G % M = z := by
  have h1 := Nat.mul_mod (z * F) G M
  rw [Nat.mod_eq_of_lt hG] at h1
  rw [← h1, Nat.mul_assoc, e, Nat.mul_add, Nat.mul_one, ← Nat.mul_assoc, Nat.mul_comm z M, Nat.mul_assoc, Nat.mul_add_mod, Nat.mod_eq_of_lt hz]
theorem fac_gen {F G M q x y : Nat} (e : F * G = M * q + 1) (hG : G < M) (hx : x < M) (hy : y < M) (h : x * F % M = y * F % M) : x = y := by
  rw [← back_gen e hG hx, ← back_gen e hG hy, h]
theorem fac_inj {x y : Nat} (hx : x < 18446744073709551616) (hy : y < 18446744073709551616) (h : x * 11400714819323198485 % 18446744073709551616 = y * 11400714819323198485 % 18446744073709551616) : x = y :=
  fac_gen (F := 11400714819323198485) (G := 17428512612931826493) (M := 18446744073709551616) (q := 10771413168148108919) (by decide) (by decide) hx hy h
theorem mixN_inj {s t w v : Nat} (hs : s < 18446744073709551616) (ht : t < 18446744073709551616) (hw : w < 18446744073709551616) (hv : v < 18446744073709551616) (h : mixN s w = mixN t v) : s ^^^ w = t ^^^ v := by
  rw [mixN_def, mixN_def] at h
  exact fac_inj (xor_lt hs hw) (xor_lt ht hv) (half_inj (Nat.mod_lt _ (by omega)) (Nat.mod_lt _ (by omega)) h)
theorem mixN_injL {s t w : Nat} (hs : s < 18446744073709551616) (ht : t < 18446744073709551616) (hw : w < 18446744073709551616) (h : mixN s w = mixN t w) : s = t := xcanR (mixN_inj hs ht hw hw h)
theorem mixN_injR {s w v : Nat} (hs : s < 18446744073709551616) (hw : w < 18446744073709551616) (hv : v < 18446744073709551616) (h : mixN s w = mixN s v) : w = v := xcanL (mixN_inj hs hs hw hv h)
noncomputable def mixL (s : Nat) (l : List Nat) : Nat := l.foldl mixN s
theorem mixL_lt : ∀ (l : List Nat) {s : Nat}, s < 18446744073709551616 → mixL s l < 18446744073709551616
  | [], _, h => h
  | _ :: l, _, _ => mixL_lt l (mixN_lt _ _)
theorem mixL_snoc (s : Nat) (l : List Nat) (w : Nat) : mixL s (l ++ [w]) = mixN (mixL s l) w := by
  unfold mixL
  rw [List.foldl_append, List.foldl_cons, List.foldl_nil]
theorem mixL_inj : ∀ (l : List Nat) {s t : Nat}, s < 18446744073709551616 → t < 18446744073709551616 → (∀ w ∈ l, w < 18446744073709551616) → mixL s l = mixL t l → s = t
  | [], _, _, _, _, _, h => h
  | w :: l, s, t, hs, ht, hl, h => by
    have := mixL_inj l (mixN_lt s w) (mixN_lt t w) (fun x hx => hl x (List.mem_cons_of_mem _ hx)) h
    exact mixN_injL hs ht (hl w (by simp)) this
theorem mixL_one {a b : List Nat} {x y s : Nat} (hs : s < 18446744073709551616) (hx : x < 18446744073709551616) (hy : y < 18446744073709551616) (hb : ∀ w ∈ b, w < 18446744073709551616) (h : mixL s (a ++ x :: b) = mixL s (a ++ y :: b)) : x = y := by
  unfold mixL at h
  rw [List.foldl_append, List.foldl_append, List.foldl_cons, List.foldl_cons] at h
  have := mixL_inj b (mixN_lt _ _) (mixN_lt _ _) hb h
  exact mixN_injR (mixL_lt a hs) hx hy this
/-- Bytes as a number, the least one first. -/
def leN : List Int → Nat
  | [] => 0
  | x :: l => x.toNat + 256 * leN l
theorem leN_lt : ∀ (l : List Int), (∀ x ∈ l, IsU8 x) → leN l < 256 ^ l.length
  | [], _ => by simp [leN]
  | x :: l, h => by
    have h1 := leN_lt l (fun y hy => h y (List.mem_cons_of_mem _ hy))
    obtain ⟨h2, h3⟩ := h x (by simp)
    rw [leN, List.length_cons, Nat.pow_succ]
    omega
theorem leN_snoc (l : List Int) (x : Int) : leN (l ++ [x]) = leN l + x.toNat * 256 ^ l.length := by
  induction l with
  | nil => simp [leN]
  | cons y l ih =>
    rw [List.cons_append, leN, ih, leN, List.length_cons, Nat.pow_succ, Nat.mul_add]
    rw [Nat.mul_left_comm, Nat.mul_comm 256 (256 ^ l.length)]
    omega
theorem leN_inj : ∀ {l m : List Int}, l.length = m.length → (∀ x ∈ l, IsU8 x) → (∀ x ∈ m, IsU8 x) → leN l = leN m → l = m
  | [], [], _, _, _, _ => rfl
  | [], _ :: _, hl, _, _, _ => by simp at hl
  | _ :: _, [], hl, _, _, _ => by simp at hl
  | x :: l, y :: m, hl, h1, h2, h => by
    obtain ⟨hx0, hx1⟩ := h1 x (by simp)
    obtain ⟨hy0, hy1⟩ := h2 y (by simp)
    rw [leN, leN] at h
    have e : x = y := by omega
    subst e
    rw [leN_inj (by simpa using hl) (fun z hz => h1 z (List.mem_cons_of_mem _ hz)) (fun z hz => h2 z (List.mem_cons_of_mem _ hz)) (by omega)]
/-- The word that begins at a place. -/
def wd (bs : List Int) (i : Nat) : Nat := leN ((bs.drop i).take 8)
theorem take_u8 {bs : List Int} (h : ∀ x ∈ bs, IsU8 x) (i k : Nat) : ∀ x ∈ (bs.drop i).take k, IsU8 x := fun x hx => h x (List.mem_of_mem_drop (List.mem_of_mem_take hx))
theorem wd_lt {bs : List Int} (h : ∀ x ∈ bs, IsU8 x) (i : Nat) : wd bs i < 18446744073709551616 := by
  have h1 := leN_lt _ (take_u8 h i 8)
  have h2 : ((bs.drop i).take 8).length ≤ 8 := by rw [List.length_take]; omega
  have h3 : 256 ^ ((bs.drop i).take 8).length ≤ 256 ^ 8 := Nat.pow_le_pow_right (by omega) h2
  unfold wd
  omega
def wds (bs : List Int) (n : Nat) : List Nat := (List.range n).map fun j => wd bs (8 * j)
def nw (bs : List Int) : Nat := (bs.length + 7) / 8
theorem wds_succ (bs : List Int) (n : Nat) : wds bs (n + 1) = wds bs n ++ [wd bs (8 * n)] := by simp [wds, List.range_succ]
theorem wds_length (bs : List Int) (n : Nat) : (wds bs n).length = n := by simp [wds]
theorem wds_lt {bs : List Int} (h : ∀ x ∈ bs, IsU8 x) {n w : Nat} (hw : w ∈ wds bs n) : w < 18446744073709551616 := by
  obtain ⟨j, _, rfl⟩ := List.mem_map.1 hw
  exact wd_lt h _
/-- The hash of a label (its words and its length) and words. -/
noncomputable def sumN (lw : List Nat) (ll : Nat) (l : List Nat) : Nat := mixN (mixL (mixN (mixN (mixL 0 lw) ll) l.length) l) 0
noncomputable def bytesN (lw : List Nat) (ll : Nat) (bs : List Int) : Nat := sumN lw ll (wds bs (nw bs) ++ [bs.length])
theorem sumN_lt (lw : List Nat) (ll : Nat) (l : List Nat) : sumN lw ll l < 18446744073709551616 := mixN_lt _ _
theorem bytesN_lt (lw : List Nat) (ll : Nat) (bs : List Int) : bytesN lw ll bs < 18446744073709551616 := sumN_lt _ _ _
theorem wd_set_other {bs : List Int} {i j : Nat} {v : Int} (h : i < j ∨ j + 8 ≤ i) : wd (bs.set i v) j = wd bs j := by
  unfold wd
  congr 1
  apply List.ext_getElem?
  intro k
  simp only [List.getElem?_take, List.getElem?_drop, List.getElem?_set]
  split
  · rw [if_neg (by omega)]
  · rfl
theorem wd_set_same {bs : List Int} {i : Nat} {v : Int} (hu : ∀ x ∈ bs, IsU8 x) (hv : IsU8 v) (hi : i < bs.length) (hne : bs[i] ≠ v) : wd (bs.set i v) (8 * (i / 8)) ≠ wd bs (8 * (i / 8)) := by
  intro h
  unfold wd at h
  have hu' : ∀ x ∈ bs.set i v, IsU8 x := by
    intro x hx
    rcases List.mem_or_eq_of_mem_set hx with hx | rfl
    · exact hu x hx
    · exact hv
  have e := leN_inj (by simp) (take_u8 hu' _ 8) (take_u8 hu _ 8) h
  have e2 := congrArg (fun l => l[i % 8]?) e
  simp only [List.getElem?_take, List.getElem?_drop, List.getElem?_set] at e2
  rw [if_pos (by omega), if_pos (by omega), if_pos (by omega), if_pos (by omega), show 8 * (i / 8) + i % 8 = i by omega, List.getElem?_eq_getElem hi] at e2
  simp at e2
  exact hne e2.symm
/-- One byte changed: another hash. -/
theorem bytesN_set {lw : List Nat} {ll : Nat} {bs : List Int} {i : Nat} {v : Int} (hlw : ∀ w ∈ lw, w < 18446744073709551616) (hll : ll < 18446744073709551616) (hbl : bs.length < 18446744073709551616) (hu : ∀ x ∈ bs, IsU8 x) (hv : IsU8 v) (hi : i < bs.length) (hne : bs[i] ≠ v) :
    bytesN lw ll (bs.set i v) ≠ bytesN lw ll bs := by
  intro h
  have hu' : ∀ x ∈ bs.set i v, IsU8 x := by
    intro x hx
    rcases List.mem_or_eq_of_mem_set hx with hx | rfl
    · exact hu x hx
    · exact hv
  have hnw : nw (bs.set i v) = nw bs := by unfold nw; rw [List.length_set]
  unfold bytesN sumN at h
  rw [hnw, List.length_set, List.length_append, List.length_append, wds_length, wds_length] at h
  have hk : nw bs = i / 8 + 1 + (nw bs - i / 8 - 1) := by unfold nw; omega
  have split : ∀ cs : List Int, wds cs (nw bs) = wds cs (i / 8) ++ wd cs (8 * (i / 8)) :: (List.range (nw bs - i / 8 - 1)).map (fun j => wd cs (8 * (i / 8 + 1 + j))) := by
    intro cs
    conv => lhs; rw [hk]
    unfold wds
    rw [List.range_add, List.range_succ]
    simp [Function.comp_def]
  have e1 : wds (bs.set i v) (i / 8) = wds bs (i / 8) := by
    unfold wds
    apply List.map_congr_left
    intro j hj
    rw [List.mem_range] at hj
    exact wd_set_other (by omega)
  have e2 : (List.range (nw bs - i / 8 - 1)).map (fun j => wd (bs.set i v) (8 * (i / 8 + 1 + j))) = (List.range (nw bs - i / 8 - 1)).map (fun j => wd bs (8 * (i / 8 + 1 + j))) := by
    apply List.map_congr_left
    intro j _
    exact wd_set_other (by omega)
  rw [split (bs.set i v), split bs, e1, e2, List.append_assoc, List.append_assoc, List.cons_append, List.cons_append] at h
  have h0 := mixN_injL (mixL_lt _ (mixN_lt _ _)) (mixL_lt _ (mixN_lt _ _)) (by omega) h
  refine wd_set_same hu hv hi hne (mixL_one (mixN_lt _ _) (wd_lt hu' _) (wd_lt hu _) ?_ h0)
  intro w hw
  rcases List.mem_append.1 hw with hw | hw
  · obtain ⟨j, _, rfl⟩ := List.mem_map.1 hw
    exact wd_lt hu _
  · simp at hw; omega
end Hash
end Go.Proofs.YtfkgpecglcjpkaaGreat
