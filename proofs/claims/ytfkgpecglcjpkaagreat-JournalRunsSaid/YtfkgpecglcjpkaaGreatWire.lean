/- Variable-length integers as lists of bytes: plain facts. No program is named. Conditions: none. -/
import Derived.Test.YtfkgpecglcjpkaaGreatLib2
import Derived.Test.YtfkgpecglcjpkaaGreatFrame
set_option linter.unusedVariables false
set_option linter.unusedSimpArgs false
set_option linter.unusedSectionVars false
open Go.RowKit
namespace Go.Proofs.YtfkgpecglcjpkaaGreat
open L
namespace Wire
theorem or128 (a : Int) (h : IsU8 a) : bits .or .u8 a 128 = a % 128 + 128 := by
  obtain ⟨h0, h1⟩ := h
  obtain ⟨n, rfl⟩ := Int.eq_ofNat_of_zero_le h0
  have hn : n < 256 := by omega
  have key : ∀ m : Fin 256, bits .or .u8 ((m.val : Nat) : Int) 128 = ((m.val : Nat) : Int) % 128 + 128 := by decide +kernel
  exact key ⟨n, hn⟩
theorem and127 (a : Int) (h : IsU8 a) : bits .and .u8 a 127 = a % 128 := by
  obtain ⟨h0, h1⟩ := h
  obtain ⟨n, rfl⟩ := Int.eq_ofNat_of_zero_le h0
  have hn : n < 256 := by omega
  have key : ∀ m : Fin 256, bits .and .u8 ((m.val : Nat) : Int) 127 = ((m.val : Nat) : Int) % 128 := by decide +kernel
  exact key ⟨n, hn⟩
theorem and1 (n : Nat) (h : n < 18446744073709551616) : bits .and .u64 (n : Int) 1 = ((n % 2 : Nat) : Int) := by
  unfold bits
  simp only [IntKind.wrap_u64]
  have : (BitVec.ofInt IntKind.u64.bits (n : Int) &&& BitVec.ofInt IntKind.u64.bits 1).toNat = n % 2 := by
    rw [BitVec.toNat_and]
    have e1 : (BitVec.ofInt IntKind.u64.bits (n : Int)).toNat = n := by
      rw [BitVec.toNat_ofInt]; simp [IntKind.bits]; omega
    have e2 : (BitVec.ofInt IntKind.u64.bits 1).toNat = 1 := by rw [BitVec.toNat_ofInt]; simp [IntKind.bits]
    rw [e1, e2, Nat.and_one_is_mod]
  rw [this]
  omega
/-- The number that a signed one is written as. -/
def zz (n : Int) : Nat := if 0 ≤ n then (2 * n).toNat else (-2 * n - 1).toNat
def uzz (u : Nat) : Int := if u % 2 = 0 then (u / 2 : Nat) else -((u / 2 : Nat) : Int) - 1
theorem zz_lt {n : Int} (h : IsI64 n) : zz n < 18446744073709551616 := by unfold zz; unfold IsI64 at h; split <;> omega
theorem uzz_zz (n : Int) : uzz (zz n) = n := by unfold uzz zz; split <;> split <;> omega
theorem zz_uzz (u : Nat) : zz (uzz u) = u := by unfold uzz zz; split <;> split <;> omega
theorem uzz_i64 {u : Nat} (h : u < 18446744073709551616) : IsI64 (uzz u) := by unfold uzz IsI64; split <;> omega
theorem ofInt64 (a : Int) (h0 : 0 ≤ a) (h1 : a < 18446744073709551616) : (BitVec.ofInt IntKind.u64.bits a).toNat = a.toNat := by
  rw [BitVec.toNat_ofInt]; simp [IntKind.bits]; omega
theorem xor_zz {n : Int} (h : IsI64 n) : bits .xor .u64 (IntKind.u64.wrap (IntKind.u64.wrap n * 2)) (IntKind.u64.wrap (n / 9223372036854775808)) = (zz n : Int) := by
  unfold IsI64 at h
  unfold bits
  simp only [IntKind.wrap_u64]
  rw [BitVec.toNat_xor, ofInt64 _ (by omega) (by omega), ofInt64 _ (by omega) (by omega)]
  unfold zz
  by_cases h0 : 0 ≤ n
  · rw [if_pos h0]
    have e1 : (n / 9223372036854775808 % 18446744073709551616).toNat = 0 := by omega
    rw [e1, Nat.xor_zero]
    omega
  · rw [if_neg h0]
    have e1 : (n / 9223372036854775808 % 18446744073709551616).toNat = 2 ^ 64 - 1 := by omega
    rw [e1]
    have e2 : ∀ x : Nat, x < 2 ^ 64 → x ^^^ (2 ^ 64 - 1) = 2 ^ 64 - 1 - x := by
      intro x hx
      have := BitVec.toNat_not (x := BitVec.ofNat 64 x)
      rw [← BitVec.xor_allOnes, BitVec.toNat_xor] at this
      simp only [BitVec.toNat_ofNat, BitVec.toNat_allOnes] at this
      rw [Nat.mod_eq_of_lt hx] at this
      exact this
    rw [e2 _ (by omega)]
    omega
theorem xor_uzz {u : Nat} (h : u < 18446744073709551616) : bits .xor .i64 (IntKind.i64.wrap ((u / 2 : Nat) : Int)) (IntKind.i64.wrap (-((u % 2 : Nat) : Int))) = uzz u := by
  unfold bits
  have hb : IntKind.i64.bits = 64 := rfl
  have e1 : (BitVec.ofInt IntKind.i64.bits (IntKind.i64.wrap ((u / 2 : Nat) : Int))).toNat = u / 2 := by
    rw [IntKind.wrap_i64, BitVec.toNat_ofInt]; simp [IntKind.bits]; omega
  simp only [BitVec.toNat_xor]
  rw [e1]
  unfold uzz
  by_cases h0 : u % 2 = 0
  · rw [if_pos h0, h0]
    have e2 : (BitVec.ofInt IntKind.i64.bits (IntKind.i64.wrap (-((0 : Nat) : Int)))).toNat = 0 := by decide +kernel
    rw [e2, Nat.xor_zero, IntKind.wrap_i64]
    omega
  · have h1 : u % 2 = 1 := by omega
    rw [if_neg h0, h1]
    have e2 : (BitVec.ofInt IntKind.i64.bits (IntKind.i64.wrap (-((1 : Nat) : Int)))).toNat = 2 ^ 64 - 1 := by decide +kernel
    rw [e2]
    have e3 : ∀ x : Nat, x < 2 ^ 64 → x ^^^ (2 ^ 64 - 1) = 2 ^ 64 - 1 - x := by
      intro x hx
      have := BitVec.toNat_not (x := BitVec.ofNat 64 x)
      rw [← BitVec.xor_allOnes, BitVec.toNat_xor] at this
      simp only [BitVec.toNat_ofNat, BitVec.toNat_allOnes] at this
      rw [Nat.mod_eq_of_lt hx] at this
      exact this
    rw [e3 _ (by omega), IntKind.wrap_i64]
    omega
theorem two_pow7 (k : Nat) : 2 ^ (7 * k) = 128 ^ k := by rw [Nat.pow_mul]
theorem pow128 {k : Nat} (h : k ≤ 8) : 128 ^ k ≤ 72057594037927936 := by
  have : 128 ^ k ≤ 128 ^ 8 := Nat.pow_le_pow_right (by omega) h
  omega
theorem digit_lt {k d : Nat} (hk : k ≤ 9) (hd : d < 128) (h9 : k = 9 → d ≤ 1) : d * 128 ^ k + 128 ^ k ≤ 18446744073709551616 := by
  by_cases h : k = 9
  · subst h
    have := h9 rfl
    omega
  · have h8 := pow128 (show k ≤ 8 by omega)
    have : d * 128 ^ k + 128 ^ k ≤ 128 * 128 ^ k := by
      rw [← Nat.succ_mul]; exact Nat.mul_le_mul_right _ hd
    omega
theorem or_acc {acc k : Nat} {c : Int} (hc : IsU8 c) (hk : k ≤ 9) (ha : acc < 128 ^ k) (h9 : k = 9 → c ≤ 1) :
    bits .or .u64 (acc : Int) (IntKind.u64.wrap (IntKind.u64.wrap (bits .and .u8 c 127) * 2 ^ (7 * k))) = ((acc + c.toNat % 128 * 128 ^ k : Nat) : Int) := by
  obtain ⟨h0, h1⟩ := hc
  obtain ⟨n, rfl⟩ := Int.eq_ofNat_of_zero_le h0
  rw [and127 _ ⟨h0, h1⟩]
  have hd := digit_lt (d := n % 128) hk (by omega) (fun h => by have := h9 h; omega)
  have e1 : IntKind.u64.wrap ((n : Int) % 128) = ((n % 128 : Nat) : Int) := by rw [IntKind.wrap_u64]; omega
  have e2 : ((n % 128 : Nat) : Int) * 2 ^ (7 * k) = ((n % 128 * 128 ^ k : Nat) : Int) := by
    rw [Int.natCast_mul, Int.natCast_pow]
    congr 1
    rw [Int.pow_mul]
    rfl
  have hpos : 0 < 128 ^ k := Nat.pow_pos (by omega)
  rw [e1, e2, IntKind.wrap_u64]
  have e3 : ((n % 128 * 128 ^ k : Nat) : Int) % 18446744073709551616 = ((n % 128 * 128 ^ k : Nat) : Int) := by omega
  rw [e3]
  unfold bits
  simp only [IntKind.wrap_u64]
  rw [BitVec.toNat_or, ofInt64 _ (by omega) (by omega), ofInt64 _ (by omega) (by omega), Int.toNat_natCast, Int.toNat_natCast, Int.toNat_natCast]
  have e4 : acc ||| n % 128 * 128 ^ k = acc + n % 128 * 128 ^ k := by
    have h := Nat.shiftLeft_add_eq_or_of_lt (b := acc) (i := 7 * k) (by rw [two_pow7]; exact ha) (n % 128)
    rw [Nat.shiftLeft_eq, two_pow7] at h
    rw [Nat.or_comm, ← h, Nat.add_comm]
  rw [e4]
  omega
theorem acc_lt {acc k d : Nat} (ha : acc < 128 ^ k) (hd : d < 128) : acc + d * 128 ^ k < 128 ^ (k + 1) := by
  rw [Nat.pow_succ]
  have : d * 128 ^ k + 128 ^ k ≤ 128 ^ k * 128 := by
    rw [← Nat.succ_mul, Nat.mul_comm]; exact Nat.mul_le_mul_left _ hd
  omega
/-- The bytes of an unsigned number. -/
def ubF : Nat → Nat → List Int
  | 0, n => [(n : Int)]
  | f + 1, n => if n < 128 then [(n : Int)] else ((n % 128 + 128 : Nat) : Int) :: ubF f (n / 128)
def ub (n : Nat) : List Int := ubF 9 n
def ib (n : Int) : List Int := ub (zz n)
theorem ubF_length : ∀ f n, 1 ≤ (ubF f n).length ∧ (ubF f n).length ≤ f + 1
  | 0, n => by simp [ubF]
  | f + 1, n => by
    unfold ubF
    have := ubF_length f (n / 128)
    split <;> simp <;> omega
theorem ub_length (n : Nat) : 1 ≤ (ub n).length ∧ (ub n).length ≤ 10 := ubF_length 9 n
theorem ib_length (n : Int) : 1 ≤ (ib n).length ∧ (ib n).length ≤ 10 := ubF_length 9 _
theorem ubF_u8 : ∀ f n, n < 2 * 128 ^ f → ∀ x ∈ ubF f n, IsU8 x
  | 0, n, h => by intro x hx; simp [ubF] at hx; subst hx; unfold IsU8; simp at h; omega
  | f + 1, n, h => by
    intro x hx
    unfold ubF at hx
    split at hx
    · simp at hx; subst hx; unfold IsU8; omega
    · rcases List.mem_cons.1 hx with rfl | hx
      · unfold IsU8; omega
      · exact ubF_u8 f (n / 128) (by rw [Nat.div_lt_iff_lt_mul (by omega)]; rw [Nat.pow_succ] at h; omega) x hx
theorem ub_u8 {n : Nat} (h : n < 18446744073709551616) : ∀ x ∈ ub n, IsU8 x := ubF_u8 9 n (by simpa using h)
theorem ib_u8 {n : Int} (h : IsI64 n) : ∀ x ∈ ib n, IsU8 x := ub_u8 (zz_lt h)
/-- What reading an unsigned number at a place gives: the number, the place behind it, the error. -/
def rdF (bs : List Int) (p : Nat) : Nat → Nat → Nat → Nat × Nat × Int
  | 0, _, _ => (0, p, 2)
  | f + 1, k, acc => match bs[p + k]? with
    | none => (0, p, 3)
    | some c => if (k = 9 ∧ 1 < c) ∨ (0 < k ∧ c = 0) then (0, p, 2) else
        if c < 128 then (acc + c.toNat % 128 * 128 ^ k, p + k + 1, 0) else rdF bs p f (k + 1) (acc + c.toNat % 128 * 128 ^ k)
def rdU (bs : List Int) (p : Nat) (e : Int) : Nat × Nat × Int := if e = 0 then rdF bs p 10 0 0 else (0, p, e)
end Wire
end Go.Proofs.YtfkgpecglcjpkaaGreat
