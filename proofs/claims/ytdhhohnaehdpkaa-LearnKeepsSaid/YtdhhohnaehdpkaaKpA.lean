/- Variable-length integers as lists of bytes: plain facts. No program is named. Conditions: none. Walks through package wire: the writer. Conditions: none. Walks through the references: SameBytes, Few. Conditions: none. A slice of bytes of one's own. Conditions: none. Walks through the reference of package wire: Uint, Zigzag, Int. Conditions: none. Walks through package trail: Encode. Conditions: none. Walks through the reference of trails: Encode (with the cells of the model). Conditions: none. -/
import Derived.Test.YtdhhohnaehdpkaaLib2
import Derived.Test.YtdhhohnaehdpkaaFrame
import Derived.Test.YtdhhohnaehdpkaaProg
import Derived.Test.YtdhhohnaehdpkaaSame
import Derived.Test.YtdhhohnaehdpkaaTrailF
import Derived.Test.YtdhhohnaehdpkaaRefA
set_option linter.unusedVariables false
set_option linter.unusedSimpArgs false
set_option linter.unusedSectionVars false
section
open Go.RowKit
namespace Go.Proofs.Ytdhhohnaehdpkaa
open L
namespace Wire
theorem or128 (a : Int) (h : IsU8 a) : bits .or .u8 a 128 = a % 128 + 128 := by
  obtain ⟨h0, h1⟩ := h
  obtain ⟨n, rfl⟩ := Int.eq_ofNat_of_zero_le h0
  have hn : n < 256 := by omega
  have key : ∀ m : Fin 256, bits .or .u8 ((m.val : Nat) : Int) 128 = ((m.val : Nat) : Int) % 128 + 128 := by decide +kernel
  exact key ⟨n, hn⟩
theorem and127 (a : Int) (h : IsU8 a) : bits .and .u8 a 127 = a % 128 := by
  obtain ⟨h0, h1⟩ := h
  obtain ⟨n, rfl⟩ := Int.eq_ofNat_of_zero_le h0
  have hn : n < 256 := by omega
  have key : ∀ m : Fin 256, bits .and .u8 ((m.val : Nat) : Int) 127 = ((m.val : Nat) : Int) % 128 := by decide +kernel
  exact key ⟨n, hn⟩
theorem and1 (n : Nat) (h : n < 18446744073709551616) : bits .and .u64 (n : Int) 1 = ((n % 2 : Nat) : Int) := by
  unfold bits
  simp only [IntKind.wrap_u64]
  have : (BitVec.ofInt IntKind.u64.bits (n : Int) &&& BitVec.ofInt IntKind.u64.bits 1).toNat = n % 2 := by
    rw [BitVec.toNat_and]
    have e1 : (BitVec.ofInt IntKind.u64.bits (n : Int)).toNat = n := by
      rw [BitVec.toNat_ofInt]; simp [IntKind.bits]; omega
    have e2 : (BitVec.ofInt IntKind.u64.bits 1).toNat = 1 := by rw [BitVec.toNat_ofInt]; simp [IntKind.bits]
    rw [e1, e2, Nat.and_one_is_mod]
  rw [this]
  omega
/-- The number that a signed one is written as. -/
def zz (n : Int) : Nat := if 0 ≤ n then (2 * n).toNat else (-2 * n - 1).toNat
def uzz (u : Nat) : Int := if u % 2 = 0 then (u / 2 : Nat) else -((u / 2 : Nat) : Int) - 1
theorem zz_lt {n : Int} (h : IsI64 n) : zz n < 18446744073709551616 := by unfold zz; unfold IsI64 at h; split <;> omega
theorem uzz_zz (n : Int) : uzz (zz n) = n := by unfold uzz zz; split <;> split <;> omega
theorem zz_uzz (u : Nat) : zz (uzz u) = u := by unfold uzz zz; split <;> split <;> omega
theorem uzz_i64 {u : Nat} (h : u < 18446744073709551616) : IsI64 (uzz u) := by unfold uzz IsI64; split <;> omega
theorem ofInt64 (a : Int) (h0 : 0 ≤ a) (h1 : a < 18446744073709551616) : (BitVec.ofInt IntKind.u64.bits a).toNat = a.toNat := by
  rw [BitVec.toNat_ofInt]; simp [IntKind.bits]; omega
theorem xor_zz {n : Int} (h : IsI64 n) : bits .xor .u64 (IntKind.u64.wrap (IntKind.u64.wrap n * 2)) (IntKind.u64.wrap (n / 9223372036854775808)) = (zz n : Int) := by
  unfold IsI64 at h
  unfold bits
  simp only [IntKind.wrap_u64]
  rw [BitVec.toNat_xor, ofInt64 _ (by omega) (by omega), ofInt64 _ (by omega) (by omega)]
  unfold zz
  by_cases h0 : 0 ≤ n
  · rw [if_pos h0]
    have e1 : (n / 9223372036854775808 % 18446744073709551616).toNat = 0 := by omega
    rw [e1, Nat.xor_zero]
    omega
  · rw [if_neg h0]
    have e1 : (n / 9223372036854775808 % 18446744073709551616).toNat = 2 ^ 64 - 1 := by omega
    rw [e1]
    have e2 : ∀ x : Nat, x < 2 ^ 64 → x ^^^ (2 ^ 64 - 1) = 2 ^ 64 - 1 - x := by
      intro x hx
      have := BitVec.toNat_not (x := BitVec.ofNat 64 x)
      rw [← BitVec.xor_allOnes, BitVec.toNat_xor] at this
      simp only [BitVec.toNat_ofNat, BitVec.toNat_allOnes] at this
      rw [Nat.mod_eq_of_lt hx] at this
      exact this
    rw [e2 _ (by omega)]
    omega
theorem xor_uzz {u : Nat} (h : u < 18446744073709551616) : bits .xor .i64 (IntKind.i64.wrap ((u / 2 : Nat) : Int)) (IntKind.i64.wrap (-((u % 2 : Nat) : Int))) = uzz u := by
  unfold bits
  have hb : IntKind.i64.bits = 64 := rfl
  have e1 : (BitVec.ofInt IntKind.i64.bits (IntKind.i64.wrap ((u / 2 : Nat) : Int))).toNat = u / 2 := by
    rw [IntKind.wrap_i64, BitVec.toNat_ofInt]; simp [IntKind.bits]; omega
  simp only [BitVec.toNat_xor]
  rw [e1]
  unfold uzz
  by_cases h0 : u % 2 = 0
  · rw [if_pos h0, h0]
    have e2 : (BitVec.ofInt IntKind.i64.bits (IntKind.i64.wrap (-((0 : Nat) : Int)))).toNat = 0 := by decide +kernel
    rw [e2, Nat.xor_zero, IntKind.wrap_i64]
    omega
  · have h1 : u % 2 = 1 := by omega
    rw [if_neg h0, h1]
    have e2 : (BitVec.ofInt IntKind.i64.bits (IntKind.i64.wrap (-((1 : Nat) : Int)))).toNat = 2 ^ 64 - 1 := by decide +kernel
    rw [e2]
    have e3 : ∀ x : Nat, x < 2 ^ 64 → x ^^^ (2 ^ 64 - 1) = 2 ^ 64 - 1 - x := by
      intro x hx
      have := BitVec.toNat_not (x := BitVec.ofNat 64 x)
      rw [← BitVec.xor_allOnes, BitVec.toNat_xor] at this
      simp only [BitVec.toNat_ofNat, BitVec.toNat_allOnes] at this
      rw [Nat.mod_eq_of_lt hx] at this
      exact this
    rw [e3 _ (by omega), IntKind.wrap_i64]
    omega
theorem two_pow7 (k : Nat) : 2 ^ (7 * k) = 128 ^ k := by rw [Nat.pow_mul]
theorem pow128 {k : Nat} (h : k ≤ 8) : 128 ^ k ≤ 72057594037927936 := by
  have : 128 ^ k ≤ 128 ^ 8 := Nat.pow_le_pow_right (by omega) h
  omega
theorem digit_lt {k d : Nat} (hk : k ≤ 9) (hd : d < 128) (h9 : k = 9 → d ≤ 1) : d * 128 ^ k + 128 ^ k ≤ 18446744073709551616 := by
  by_cases h : k = 9
  · subst h
    have := h9 rfl
    omega
  · have h8 := pow128 (show k ≤ 8 by omega)
    have : d * 128 ^ k + 128 ^ k ≤ 128 * 128 ^ k := by
      rw [← Nat.succ_mul]; exact Nat.mul_le_mul_right _ hd
    omega
theorem or_acc {acc k : Nat} {c : Int} (hc : IsU8 c) (hk : k ≤ 9) (ha : acc < 128 ^ k) (h9 : k = 9 → c ≤ 1) :
    bits .or .u64 (acc : Int) (IntKind.u64.wrap (IntKind.u64.wrap (bits .and .u8 c 127) * 2 ^ (7 * k))) = ((acc + c.toNat % 128 * 128 ^ k : Nat) : Int) := by
  obtain ⟨h0, h1⟩ := hc
  obtain ⟨n, rfl⟩ := Int.eq_ofNat_of_zero_le h0
  rw [and127 _ ⟨h0, h1⟩]
  have hd := digit_lt (d := n % 128) hk (by omega) (fun h => by have := h9 h; omega)
  have e1 : IntKind.u64.wrap ((n : Int) % 128) = ((n % 128 : Nat) : Int) := by rw [IntKind.wrap_u64]; omega
  have e2 : ((n % 128 : Nat) : Int) * 2 ^ (7 * k) = ((n % 128 * 128 ^ k : Nat) : Int) := by
    rw [Int.natCast_mul, Int.natCast_pow]
    congr 1
    rw [Int.pow_mul]
    rfl
  have hpos : 0 < 128 ^ k := Nat.pow_pos (by omega)
  rw [e1, e2, IntKind.wrap_u64]
  have e3 : ((n % 128 * 128 ^ k : Nat) : Int) % 18446744073709551616 = ((n % 128 * 128 ^ k : Nat) : Int) := by omega
  rw [e3]
  unfold bits
  simp only [IntKind.wrap_u64]
  rw [BitVec.toNat_or, ofInt64 _ (by omega) (by omega), ofInt64 _ (by omega) (by omega), Int.toNat_natCast, Int.toNat_natCast, Int.toNat_natCast]
  have e4 : acc ||| n % 128 * 128 ^ k = acc + n % 128 * 128 ^ k := by
    have h := Nat.shiftLeft_add_eq_or_of_lt (b := acc) (i := 7 * k) (by rw [two_pow7]; exact ha) (n % 128)
    rw [Nat.shiftLeft_eq, two_pow7] at h
    rw [Nat.or_comm, ← h, Nat.add_comm]
  rw [e4]
  omega
theorem acc_lt {acc k d : Nat} (ha : acc < 128 ^ k) (hd : d < 128) : acc + d * 128 ^ k < 128 ^ (k + 1) := by
  rw [Nat.pow_succ]
  have : d * 128 ^ k + 128 ^ k ≤ 128 ^ k * 128 := by
    rw [← Nat.succ_mul, Nat.mul_comm]; exact Nat.mul_le_mul_left _ hd
  omega
/-- The bytes of an unsigned number. -/
def ubF : Nat → Nat → List Int
  | 0, n => [(n : Int)]
  | f + 1, n => if n < 128 then [(n : Int)] else ((n % 128 + 128 : Nat) : Int) :: ubF f (n / 128)
def ub (n : Nat) : List Int := ubF 9 n
def ib (n : Int) : List Int := ub (zz n)
theorem ubF_length : ∀ f n, 1 ≤ (ubF f n).length ∧ (ubF f n).length ≤ f + 1
  | 0, n => by simp [ubF]
  | f + 1, n => by
    unfold ubF
    have := ubF_length f (n / 128)
    split <;> simp <;> omega
theorem ub_length (n : Nat) : 1 ≤ (ub n).length ∧ (ub n).length ≤ 10 := ubF_length 9 n
theorem ib_length (n : Int) : 1 ≤ (ib n).length ∧ (ib n).length ≤ 10 := ubF_length 9 _
theorem ubF_u8 : ∀ f n, n < 2 * 128 ^ f → ∀ x ∈ ubF f n, IsU8 x
  | 0, n, h => by intro x hx; simp [ubF] at hx; subst hx; unfold IsU8; simp at h; omega
  | f + 1, n, h => by
    intro x hx
    unfold ubF at hx
    split at hx
    · simp at hx; subst hx; unfold IsU8; omega
    · rcases List.mem_cons.1 hx with rfl | hx
      · unfold IsU8; omega
      · exact ubF_u8 f (n / 128) (by rw [Nat.div_lt_iff_lt_mul (by omega)]; rw [Nat.pow_succ] at h; omega) x hx
theorem ub_u8 {n : Nat} (h : n < 18446744073709551616) : ∀ x ∈ ub n, IsU8 x := ubF_u8 9 n (by simpa using h)
theorem ib_u8 {n : Int} (h : IsI64 n) : ∀ x ∈ ib n, IsU8 x := ub_u8 (zz_lt h)
/-- What reading an unsigned number at a place gives: the number, the place behind it, the error. -/
def rdF (bs : List Int) (p : Nat) : Nat → Nat → Nat → Nat × Nat × Int
  | 0, _, _ => (0, p, 2)
  | f + 1, k, acc => match bs[p + k]? with
    | none => (0, p, 3)
    | some c => if (k = 9 ∧ 1 < c) ∨ (0 < k ∧ c = 0) then (0, p, 2) else
        if c < 128 then (acc + c.toNat % 128 * 128 ^ k, p + k + 1, 0) else rdF bs p f (k + 1) (acc + c.toNat % 128 * 128 ^ k)
def rdU (bs : List Int) (p : Nat) (e : Int) : Nat × Nat × Int := if e = 0 then rdF bs p 10 0 0 else (0, p, e)
end Wire
end Go.Proofs.Ytdhhohnaehdpkaa
end
section
open Go.RowKit
namespace Go.Proofs.Ytdhhohnaehdpkaa
open L
namespace Wire
theorem infoByte : (Try.prog.info? 5).map (fun i => (i.zero, i.size, i.bytes)) = some (some (.int .u8 0), 1, 1) := by kernel_rfl
theorem byts_append (xs ys : List Int) : byts (xs ++ ys) = byts xs ++ byts ys := by simp [byts]
theorem byts_length (xs : List Int) : (byts xs).length = xs.length := by simp [byts]
theorem byts_get {xs : List Int} {i : Nat} {x : Int} (h : xs[i]? = some x) : (byts xs)[i]? = some (.int .u8 x) := by simp [byts, h]
theorem byts_one (xs : List Int) : ∀ u ∈ byts xs, u.oneCell' = true := by
  intro u hu
  simp only [byts, List.mem_map] at hu
  obtain ⟨_, _, rfl⟩ := hu
  rfl
/-- A writer at block q that holds the bytes bs; S are its blocks. -/
structure Wt (w : World) (q : Nat) (bs : List Int) (S : List Nat) : Prop where
  ex : ∃ sv, S = q :: sv.ownBlock.toList ∧ Blk w q [sv] 95 ∧ w.ownsRow 0 5 1 sv bs.length (byts bs) ∧ sv.ownBlock ≠ some q
section
variable {w w' : World} {q : Nat} {bs : List Int} {S : List Nat}
theorem Wt.upd {T : List Nat} (h : Wt w q bs S) (hu : Upd T w w') (hd : ∀ k ∈ S, k ∉ T) : Wt w' q bs S := by
  obtain ⟨sv, rfl, h1, h2, h3⟩ := h.ex
  exact ⟨sv, rfl, h1.upd hu (hd _ (by simp)), ownsRow_updL h2 hu (fun k hk hv => hd k (by simp [hv]) hk), h3⟩
theorem Wt.lt (h : Wt w q bs S) : ∀ k ∈ S, k < w.heap.size := by
  obtain ⟨sv, rfl, h1, h2, h3⟩ := h.ex
  intro k hk
  simp only [List.mem_cons, Option.mem_toList] at hk
  rcases hk with rfl | hk
  · exact h1.lt
  · exact (h2.lt k hk).2
/-- What a call on a writer leaves: the bytes grown. -/
def WtT (q : Nat) (bs : List Int) (S : List Nat) (w : World) (e : Ending) (w' : World) : Prop :=
  e = .returned (.tuple #[]) ∧ ∃ S', Wt w' q bs S' ∧ Upd S w w' ∧ ∀ j ∈ S', j ∈ S ∨ w.heap.size ≤ j
theorem Wt.push {g cap : Nat} {sv : Value} {c : Int} {w1 w2 : World} (hB : Blk w q [sv] 95) (h2 : w.ownsRow 0 5 1 sv bs.length (byts bs)) (h3 : sv.ownBlock ≠ some q)
    (o : w1.ownsRow 0 5 1 (.slice (some ⟨g, 0, none⟩) (bs.length + 1) cap) (bs.length + 1) (byts bs ++ [.int .u8 c])) (u : Upd sv.ownBlock.toList w w1) (k : sv.ownBlock = some g ∨ w.heap.size ≤ g)
    (hw2 : w2 = w1.setCell ⟨q, 0, none⟩ (.slice (some ⟨g, 0, none⟩) (bs.length + 1) cap)) :
    Wt w2 q (bs ++ [c]) [q, g] ∧ Upd (q :: sv.ownBlock.toList) w w2 ∧ ∀ j ∈ [q, g], j ∈ (q :: sv.ownBlock.toList) ∨ w.heap.size ≤ j := by
  have hgq : g ≠ q := by
    rcases k with k | k
    · exact fun e => h3 (e ▸ k)
    · have := hB.lt; omega
  have hB1 : Blk w1 q [sv] 95 := hB.upd u (by simpa using h3)
  have us : Upd [q] w1 w2 := by rw [hw2]; exact (Upd.refl [q] w1).set (by simp) _
  refine ⟨⟨.slice (some ⟨g, 0, none⟩) (bs.length + 1) cap, by simp [Value.ownBlock], ?_, ?_, ?_⟩, ?_, ?_⟩
  · rw [hw2]; exact hB1.set 0 _
  · have := ownsRow_updL o us (by simpa [Value.ownBlock] using hgq)
    simpa [byts] using this
  · simpa [Value.ownBlock] using hgq
  · exact (u.wide (T := q :: sv.ownBlock.toList) (by intro j hj; left; exact List.mem_cons_of_mem _ hj)).trans (us.wide (by simp))
  · intro j hj
    simp only [List.mem_cons, List.not_mem_nil, or_false] at hj
    rcases hj with rfl | rfl
    · simp
    · rcases k with k | k
      · left; simp [k]
      · exact .inr k
set_option maxRecDepth 100000 in
set_option maxHeartbeats 2000000 in
theorem Uint_calls (h : Wt w q bs S) (n : Nat) (hn : n < 18446744073709551616) (hb : bs.length ≤ 70368744177664) :
    Calls Try.prog 78 #[.pointer (some ⟨q, 0, none⟩), .int .u64 n] w (WtT q (bs ++ ub n) S w) := by
  have HN := Lib.hid hn
  clear hn
  go_enter Try.func78, Try.ntmps78
  go_wp2_with fail
  go_loopw [1] (fun nv wr => ∃ (m f : Nat) (pre : List Int) (S1 : List Nat), nv = .int .u64 m ∧ f ≤ 9 ∧ m < 2 * 128 ^ f ∧ ub n = pre ++ ubF f m ∧ pre.length + f = 9 ∧ Wt wr q (bs ++ pre) S1 ∧ Upd S w wr ∧ ∀ j ∈ S1, j ∈ S ∨ w.heap.size ≤ j) (fun nv _ => (intOf nv).toNat)
  case atStart => exact ⟨n, 9, [], S, rfl, by omega, by have := HN.out; omega, rfl, rfl, by simpa using h, Upd.refl _ _, fun j hj => .inl hj⟩
  case round =>
    obtain ⟨m, f, pre, S1, rfl, hf, hm, hub, hpl, hw, hu, hk⟩ := hrel
    obtain ⟨sv, rfl, hB, hO, hne⟩ := hw.ex
    have c0 := hB.cell (i := 0) rfl
    have f0 := hB.free 0
    have hql := hB.lt
    have hlen : bs.length + pre.length ≤ 70368744177674 := by omega
    have hm64 : m < 18446744073709551616 := by
      have : 128 ^ f ≤ 128 ^ 9 := Nat.pow_le_pow_right (by omega) hf
      omega
    have HL := Lib.hid (show (bs ++ pre).length = bs.length + pre.length from List.length_append)
    have HX := Lib.hid (And.intro hm (And.intro hub (And.intro hpl hm64)))
    clear hm64
    have HK := Lib.hid (And.intro hu (And.intro hk hw))
    have HO := Lib.hid hO
    clear hm hub hpl hu hk hw hO
    by_cases hlt : m < 128
    · go_wp2_with (refine wpList_push rfl rfl _ _ _ _ rfl rfl rfl 5 1 1 _ Try.underlying53 infoByte rfl (by decide) (by decide) (.int .u8 _) [.int .u8 _] rfl rfl rfl (byts_one [_]) _ _ _ HO.out rfl rfl (by rw [HL.out]; unfold maxLen; omega) (by rw [HL.out]; omega) ?_; intro g cap w1 o1 u1 k1; have hB1 := hB.upd u1 (by simpa using hne); have c1 := hB1.cell (i := 0) rfl; have f1 := hB1.free 0; have hq1 := hB1.lt)
      obtain ⟨W, U, K⟩ := Wt.push hB HO.out hne o1 u1 k1 (w2 := w1.setCell ⟨q, 0, none⟩ (.slice (some ⟨g, 0, none⟩) (bs.length + pre.length + 1) cap)) (by rw [HL.out])
      obtain ⟨hm, hub, hpl, hm64⟩ := HX.out
      obtain ⟨hu, hk, hw⟩ := HK.out
      have hsz := hu.size
      have e2 : ubF f m = [(m : Int)] := by
        cases f with
        | zero => rfl
        | succ f => rw [ubF, if_pos hlt]
      go_end0
      refine ⟨rfl, [q, g], ?_, hu.fresh U (fun j hj => hk j hj), ?_⟩
      · rw [hub, e2]; simpa using W
      · intro j hj
        rcases K j hj with h | h
        · exact hk j h
        · right; omega
    · go_wp2_with (refine wpList_push rfl rfl _ _ _ _ rfl rfl rfl 5 1 1 _ Try.underlying53 infoByte rfl (by decide) (by decide) (.int .u8 _) [.int .u8 _] rfl rfl rfl (byts_one [_]) _ _ _ HO.out rfl rfl (by rw [HL.out]; unfold maxLen; omega) (by rw [HL.out]; omega) ?_; intro g cap w1 o1 u1 k1; have hB1 := hB.upd u1 (by simpa using hne); have c1 := hB1.cell (i := 0) rfl; have f1 := hB1.free 0; have hq1 := hB1.lt)
      obtain ⟨W, U, K⟩ := Wt.push hB HO.out hne o1 u1 k1 (w2 := w1.setCell ⟨q, 0, none⟩ (.slice (some ⟨g, 0, none⟩) (bs.length + pre.length + 1) cap)) (by rw [HL.out])
      obtain ⟨hm, hub, hpl, hm64⟩ := HX.out
      obtain ⟨hu, hk, hw⟩ := HK.out
      have hsz := hu.size
      cases f with
      | zero => simp at hm; omega
      | succ f =>
        have hub2 : ubF (f + 1) m = ((m % 128 + 128 : Nat) : Int) :: ubF f (m / 128) := by rw [ubF, if_neg hlt]
        have hbit : bits .or .u8 ((m : Int) % 256) 128 = ((m % 128 + 128 : Nat) : Int) := by
          rw [or128 _ ⟨by omega, by omega⟩]; omega
        rw [hbit] at W
        refine ⟨⟨m / 128, f, pre ++ [((m % 128 + 128 : Nat) : Int)], [q, g], by go_num, by omega, ?_, ?_, by simp; omega, by simpa using W, ?_, ?_⟩, by simp [intOf]; omega⟩
        · rw [Nat.pow_succ] at hm; omega
        · rw [hub, hub2]; simp
        · exact hu.fresh U (fun j hj => hk j hj)
        · intro j hj
          rcases K j hj with h | h
          · exact hk j h
          · right; omega
theorem Int_calls (h : Wt w q bs S) (n : Int) (hn : IsI64 n) (hb : bs.length ≤ 70368744177664) :
    Calls Try.prog 52 #[.pointer (some ⟨q, 0, none⟩), .int .i64 n] w (WtT q (bs ++ ib n) S w) := by
  have HU := Lib.hid (Uint_calls h (zz n) (zz_lt hn) hb)
  have HX := Lib.hid (xor_zz hn)
  have HN := Lib.hid hn
  clear hn
  go_enter Try.func52, Try.ntmps52
  go_wp2_with fail
  rw [HX.out]
  refine HU.out.mono ?_
  rintro e w1 ⟨rfl, hr⟩
  have HR := Lib.hid hr
  clear hr
  go_wp2_with fail
  go_end0
  exact ⟨rfl, HR.out⟩
/-- A writer that was made since w0. -/
structure WtF (w0 : World) (q : Nat) (bs : List Int) (w : World) : Prop where
  ex : ∃ S, Wt w q bs S ∧ ∀ j ∈ S, w0.heap.size ≤ j
  u : Upd [] w0 w
theorem WtF.quiet {w0 : World} (h : WtF w0 q bs w) (hu : Upd [] w w') : WtF w0 q bs w' := by
  obtain ⟨S, h1, h2⟩ := h.ex
  exact ⟨⟨S, h1.upd hu (by simp), h2⟩, h.u.step hu⟩
theorem WtF.start (w : World) : WtF w w.heap.size [] (w.alloc (.cells #[.slice none 0 0] 95)) :=
  ⟨⟨[w.heap.size], ⟨.slice none 0 0, by simp [Value.ownBlock], Blk.new w [.slice none 0 0] 95, World.ownsRow_nil _ _ _ _, by simp [Value.ownBlock]⟩, by simp⟩, (Upd.refl [] w).alloc _⟩
theorem WtF.of {w0 : World} {S : List Nat} (h2 : ∀ j ∈ S, w0.heap.size ≤ j) (u : Upd [] w0 w) {e : Ending} {w' : World} {bs' : List Int} (h : WtT q bs' S w e w') : e = .returned (.tuple #[]) ∧ WtF w0 q bs' w' := by
  obtain ⟨he, S', h3, h4, h5⟩ := h
  refine ⟨he, ⟨S', h3, fun j hj => ?_⟩, u.fresh h4 (fun k hk => .inr (h2 k hk))⟩
  rcases h5 j hj with h | h
  · exact h2 j h
  · have := u.size; omega
theorem Int_f {w0 : World} (h : WtF w0 q bs w) (n : Int) (hn : IsI64 n) (hb : bs.length ≤ 70368744177664) :
    Calls Try.prog 52 #[.pointer (some ⟨q, 0, none⟩), .int .i64 n] w fun e w' => e = .returned (.tuple #[]) ∧ WtF w0 q (bs ++ ib n) w' := by
  obtain ⟨S, h1, h2⟩ := h.ex
  exact (Int_calls h1 n hn hb).mono fun e w' hr => WtF.of h2 h.u hr
theorem Int_f2 {w0 w1 : World} (h : WtF w0 q bs w1) (hu : Upd [] w1 w) (n : Int) (hn : IsI64 n) (hb : bs.length ≤ 70368744177664) :
    Calls Try.prog 52 #[.pointer (some ⟨q, 0, none⟩), .int .i64 n] w fun e w' => e = .returned (.tuple #[]) ∧ WtF w0 q (bs ++ ib n) w' ∧ ∀ (k : Nat) (c : List Value) (t : TypeId), w1.heap.size ≤ k → Blk w k c t → Blk w' k c t := by
  obtain ⟨S, h1, h2⟩ := h.ex
  refine (Int_calls (h1.upd hu (by simp)) n hn hb).mono fun e w' hr => ?_
  obtain ⟨he, hf⟩ := WtF.of h2 (h.u.step hu) hr
  obtain ⟨_, S', _, h4, _⟩ := hr
  exact ⟨he, hf, fun k c t hk hB => hB.upd h4 (fun hm => by have := h1.lt k hm; omega)⟩
/-- A copy of a slice of bytes: a new one. -/
def CloneT (n : Nat) (xs : List Int) (w : World) (e : Ending) (w' : World) : Prop :=
  ∃ a cap, e = .returned (.slice a n cap) ∧ OwnV w 5 1 (.slice a n cap) n (byts xs) w' ∧ Upd [] w w'
set_option maxRecDepth 100000 in
set_option maxHeartbeats 1000000 in
theorem Clone_calls {v : Value} {xs : List Int} (h : SL w 1 v xs.length (byts xs)) (hb : xs.length ≤ 70368744177664) : Calls Try.prog 79 #[v] w (CloneT xs.length xs w) := by
  obtain ⟨hl, a, cap, rfl, hc, hm, hnil, hcell⟩ := h
  have H : SL w 1 (.slice a xs.length cap) xs.length (byts xs) := ⟨hl, a, cap, rfl, hc, hm, hnil, hcell⟩
  have hnl := fun (w : World) (a : Option Addr) (n c : Nat) => Lib.run_eql_slice_nil (P := Try.prog) w 53 _ a n c 0 0 Try.underlying53
  cases a with
  | none =>
    have h0 : xs.length = 0 := by have := hnil rfl; omega
    have hx : xs = [] := List.eq_nil_of_length_eq_zero h0
    subst hx
    have hc0 : cap = 0 := hnil rfl
    subst hc0
    clear hl hcell H hnil h0
    go_enter Try.func79, Try.ntmps79
    go_wp2_with fail
    go_ret
    exact ⟨none, 0, rfl, OwnV.nil _ _ _ _, Upd.refl _ _⟩
  | some ad =>
    clear hl hcell hnil
    go_enter Try.func79, Try.ntmps79
    go_upto_region 3 with fail
    refine wp_region_lit ?_
    refine wpList_cutH 2 (fun K hK => ?_)
    simp only [List.take_succ_cons, List.take_zero]
    go_wp2_with fail
    refine Halt_.intro ?_; try simp only [List.drop_succ_cons, List.drop_zero]
    have g0 := owns_none (w := w) rfl 5
    have u0 := (Upd.refl [] w).alloc (.cells #[] 5)
    have H0 := H.upd u0 (by simp)
    have hs : (w.alloc (.cells #[] 5)).heap.size = w.heap.size + 1 := by simp
    generalize w.alloc (.cells #[] 5) = w0 at *
    refine wpList_appS rfl _ _ _ rfl 5 1 1 _ Try.underlying53 infoByte rfl (by decide) (.slice (some ⟨w.heap.size, 0, none⟩) 0 0) 0 [] rfl (owns_blk g0 rfl (by unfold maxLen; omega)) (.slice (some ad) xs.length cap) xs.length (byts xs) rfl H0 (byts_one _) (by unfold maxLen; omega) (by omega) ?_
    intro a1 cap1 w1 o1 u1 k1
    rw [Nat.zero_add, List.nil_append] at o1
    rw [Nat.zero_add] at k1 ⊢
    simp only [Act.put, List.setIfInBounds_toArray, List.set_cons_zero, List.set_cons_succ]
    have U1 : Upd [] w w1 := u0.fresh u1 (by simp [Value.ownBlock])
    go_wp2_with fail
    go_ret
    refine ⟨a1, cap1, rfl, ⟨o1, fun g hg => ?_⟩, U1⟩
    rcases k1 with k1 | k1 <;> rw [hg] at k1 <;> simp [Value.ownBlock] at k1 <;> omega
theorem Done_calls (h : Wt w q bs S) (hb : bs.length ≤ 70368744177664) : Calls Try.prog 54 #[.pointer (some ⟨q, 0, none⟩)] w (CloneT bs.length bs w) := by
  obtain ⟨sv, rfl, hB, hO, hne⟩ := h.ex
  have c0 := hB.cell (i := 0) rfl
  have HS := SL.of_owns hO
  go_enter Try.func54, Try.ntmps54
  go_wp2_with fail
  refine (Clone_calls HS hb).mono ?_
  rintro e w1 ⟨a, cap, rfl, ho, hu⟩
  go_wp2_with fail
  go_ret
  exact ⟨a, cap, rfl, ho, hu⟩
end
end Wire
end Go.Proofs.Ytdhhohnaehdpkaa
end
section
open Go.RowKit
namespace Go.Proofs.Ytdhhohnaehdpkaa
open L
namespace R01
theorem SameBytes_calls {w : World} {v1 v2 : Value} {xs ys : List Int} (h1 : SL w 1 v1 xs.length (byts xs)) (h2 : SL w 1 v2 ys.length (byts ys)) :
    Calls Try.prog 25 #[v1, v2] w fun e w' => e = .returned (.bool (decide (xs = ys))) ∧ Upd [] w w' := by
  obtain ⟨a1, cap1, rfl, q1, r1, hc1⟩ := SL.form h1
  obtain ⟨a2, cap2, rfl, q2, r2, hc2⟩ := SL.form h2
  have HC1 := Lib.hid hc1
  have HC2 := Lib.hid hc2
  clear h1 h2 hc1 hc2
  by_cases hl : xs.length = ys.length
  · have HL := Lib.hid hl
    have hb : ((xs.length : Int) != (ys.length : Int)) = false := by simp [hl]
    have hle : xs.length ≤ ys.length := by omega
    have hle2 : ys.length ≤ xs.length := by omega
    clear hl
    go_enter Try.func25, Try.ntmps25
    go_wp2_with fail
    go_loopw [5] (fun i wr => ∃ k : Nat, k ≤ xs.length ∧ i = .int .i64 k ∧ xs.take k = ys.take k ∧ Upd [] w wr) (fun i _ => xs.length - (intOf i).toNat)
    case atStart => exact ⟨0, Nat.zero_le _, rfl, rfl, Upd.refl _ _⟩
    case round =>
      obtain ⟨k, hk, rfl, ht, hu⟩ := hrel
      have HT := Lib.hid ht
      clear ht
      by_cases hlt : k < xs.length
      · obtain ⟨g1, o1, rfl, c1⟩ := HC1.out (by omega)
        obtain ⟨g2, o2, rfl, c2⟩ := HC2.out (by omega)
        have e1 := hu.some (c1 k _ (Wire.byts_get (List.getElem?_eq_getElem hlt))) (by simp)
        have e2 := hu.some (c2 k _ (Wire.byts_get (List.getElem?_eq_getElem (show k < ys.length by omega)))) (by simp)
        by_cases hxy : xs[k] = ys[k]
        · have HB : Hid (xs.take (k + 1) = ys.take (k + 1)) := by
            unfold Hid
            rw [List.take_add_one, List.take_add_one, HT.out, List.getElem?_eq_getElem hlt, List.getElem?_eq_getElem (show k < ys.length by omega), hxy]
          have hb : (xs[k] != ys[k]) = false := by simp [hxy]
          clear hxy c1 c2
          generalize xs[k] = x at *
          generalize ys[k]'(by omega) = y at *
          go_wp2_with fail
          refine wp_region_qx (by kernel_rfl) (by kernel_rfl) ?_
          repeat (go_big_quiet_step ((fail)))
          refine wpQuiet_nil ?_
          intro x
          go_wp2_with fail
          exact ⟨⟨k + 1, by omega, by go_num, HB.out, hu.step x.upd⟩, by simp [intOf]; omega⟩
        · have HB : Hid (xs ≠ ys) := fun h => hxy (by subst h; rfl)
          have hb : (xs[k] != ys[k]) = true := by simp [hxy]
          clear hxy c1 c2
          generalize xs[k] = x at *
          generalize ys[k]'(by omega) = y at *
          go_wp2_with fail
          refine wp_region_qx (by kernel_rfl) (by kernel_rfl) ?_
          repeat (go_big_quiet_step ((fail)))
          refine wpQuiet_nil ?_
          intro x
          go_wp2_with fail
          go_ret
          exact ⟨ret_bool (by simp [HB.out]), hu.step x.upd⟩
      · have HB : Hid (xs = ys) := by
          have := HT.out
          rw [List.take_of_length_le (by omega), List.take_of_length_le (by omega)] at this
          exact this
        go_wp2_with fail
        go_ret
        exact ⟨ret_bool (by simp [HB.out]), hu⟩
  · have hb : ((xs.length : Int) != (ys.length : Int)) = true := by simp; omega
    go_enter Try.func25, Try.ntmps25
    go_wp2_with fail
    go_ret
    exact ⟨ret_bool (by have : xs ≠ ys := fun h => hl (by rw [h])
                        simp [this]), Upd.refl _ _⟩

end R01
end Go.Proofs.Ytdhhohnaehdpkaa
end
section
open Go.RowKit
namespace Go.Proofs.Ytdhhohnaehdpkaa
open L
namespace Wire
/-- A slice of bytes of one's own, new since w0. -/
structure OwnB (w0 : World) (v : Value) (xs : List Int) (w : World) : Prop where
  row : w.ownsRow 0 5 1 v xs.length (byts xs)
  fresh : ∀ g, v.ownBlock = some g → w0.heap.size ≤ g
  u : Upd [] w0 w
section
variable {w0 w w' : World} {v : Value} {xs : List Int}
theorem OwnB.nil (w : World) : OwnB w (.slice none 0 0) [] w := ⟨World.ownsRow_nil _ _ _ _, by simp [Value.ownBlock], Upd.refl _ _⟩
theorem OwnB.quiet (h : OwnB w0 v xs w) (hu : Upd [] w w') : OwnB w0 v xs w' := ⟨ownsRow_updL h.row hu (by simp), h.fresh, h.u.step hu⟩
theorem OwnB.form (h : OwnB w0 v xs w) : ∃ a cap, v = .slice a xs.length cap ∧ xs.length ≤ cap := by
  obtain ⟨h1, a, cap, rfl, h2, _⟩ := SL.of_owns h.row
  exact ⟨a, cap, rfl, h2⟩
theorem OwnB.sl (h : OwnB w0 v xs w) : SL w 1 v xs.length (byts xs) := SL.of_owns h.row
theorem OwnB.push {x : Int} {g cap : Nat} (h : OwnB w0 v xs w) (o : w'.ownsRow 0 5 1 (.slice (some ⟨g, 0, none⟩) (xs.length + 1) cap) (xs.length + 1) (byts xs ++ [.int .u8 x])) (u : Upd v.ownBlock.toList w w')
    (k : v.ownBlock = some g ∨ w.heap.size ≤ g) : OwnB w0 (.slice (some ⟨g, 0, none⟩) (xs.length + 1) cap) (xs ++ [x]) w' := by
  refine ⟨by simpa [byts] using o, ?_, h.u.fresh u (fun j hj => .inr (h.fresh j (by simpa using hj)))⟩
  intro j hj
  simp only [Value.ownBlock, Option.some.injEq] at hj
  subst hj
  rcases k with k | k
  · exact h.fresh _ k
  · have := h.u.size; omega
/-- append(s, t...) -/
theorem OwnB.app {ys : List Int} {a : Option Addr} {cap : Nat} (h : OwnB w0 v xs w) (o : w'.ownsRow 0 5 1 (.slice a (xs.length + ys.length) cap) (xs.length + ys.length) (byts xs ++ byts ys)) (u : Upd v.ownBlock.toList w w')
    (k : (Value.slice a (xs.length + ys.length) cap).ownBlock = v.ownBlock ∨ (Value.slice a (xs.length + ys.length) cap).ownBlock = some w.heap.size) : OwnB w0 (.slice a (xs.length + ys.length) cap) (xs ++ ys) w' := by
  refine ⟨by simpa [byts] using o, ?_, h.u.fresh u (fun j hj => .inr (h.fresh j (by simpa using hj)))⟩
  intro j hj
  rcases k with k | k <;> rw [hj] at k
  · exact h.fresh _ k.symm
  · simp at k; have := h.u.size; omega
theorem OwnB.base {w1 : World} (h : OwnB w1 v xs w') (hu : Upd [] w w1) : OwnB w v xs w' := ⟨h.row, fun g hg => Nat.le_trans hu.size (h.fresh g hg), hu.step h.u⟩
theorem OwnB.toV (h : OwnB w0 v xs w) : OwnV w0 5 1 v xs.length (byts xs) w := ⟨h.row, h.fresh⟩
end
end Wire
end Go.Proofs.Ytdhhohnaehdpkaa
end
section
open Go.RowKit
namespace Go.Proofs.Ytdhhohnaehdpkaa
open L
namespace R02
open Wire
section
variable {w : World}
def BytT (xs : List Int) (w : World) (e : Ending) (w' : World) : Prop := ∃ a cap, e = .returned (.slice a xs.length cap) ∧ OwnB w (.slice a xs.length cap) xs w'
set_option maxRecDepth 100000 in
set_option maxHeartbeats 2000000 in
theorem Uint_calls (n : Nat) (hn : n < 18446744073709551616) : Calls Try.prog 80 #[.int .u64 n] w (BytT (ub n) w) := by
  have HN := Lib.hid hn
  clear hn
  go_enter Try.func80, Try.ntmps80
  go_wp2_with fail
  go_loopw [0, 3] (fun nv o wr => ∃ (m f : Nat) (pre : List Int), nv = .int .u64 m ∧ f ≤ 9 ∧ m < 2 * 128 ^ f ∧ ub n = pre ++ ubF f m ∧ pre.length + f = 9 ∧ OwnB w o pre wr) (fun nv _ _ => (intOf nv).toNat)
  case atStart => exact ⟨n, 9, [], rfl, by omega, by have := HN.out; omega, rfl, rfl, OwnB.nil w⟩
  case round =>
    obtain ⟨m, f, pre, rfl, hf, hm, hub, hpl, ho⟩ := hrel
    have hm64 : m < 18446744073709551616 := by
      have : 128 ^ f ≤ 128 ^ 9 := Nat.pow_le_pow_right (by omega) hf
      omega
    obtain ⟨a, cap, rfl, _⟩ := ho.form
    have hpl9 : pre.length ≤ 9 := by omega
    have HX := Lib.hid (And.intro hm (And.intro hub (And.intro hpl hm64)))
    have HO := Lib.hid ho
    clear hm hub hpl hm64 ho
    by_cases hlt : m < 128
    · have hlt2 : ¬ (127 : Int) < m := by omega
      go_wp2_with (refine wpList_push rfl rfl _ _ _ _ rfl rfl rfl 5 1 1 _ Try.underlying53 infoByte rfl (by decide) (by decide) (.int .u8 _) [.int .u8 _] rfl rfl rfl (byts_one [_]) _ _ _ HO.out.row rfl rfl (by unfold maxLen; omega) (by omega) ?_; intro g1 cap1 w1 o1 u1 k1)
      have N := HO.out.push o1 u1 k1
      have e2 : ubF f m = [(m : Int)] := by
        cases f with
        | zero => rfl
        | succ f => rw [ubF, if_pos hlt]
      go_ret
      refine ⟨some ⟨g1, 0, none⟩, cap1, ?_, ?_⟩
      · rw [HX.out.2.1, e2]; simp
      · rw [HX.out.2.1, e2]; simpa using N
    · have hlt2 : (127 : Int) < m := by omega
      go_wp2_with (refine wpList_push rfl rfl _ _ _ _ rfl rfl rfl 5 1 1 _ Try.underlying53 infoByte rfl (by decide) (by decide) (.int .u8 _) [.int .u8 _] rfl rfl rfl (byts_one [_]) _ _ _ HO.out.row rfl rfl (by unfold maxLen; omega) (by omega) ?_; intro g1 cap1 w1 o1 u1 k1)
      have N := HO.out.push o1 u1 k1
      obtain ⟨hm, hub, hpl, hm64⟩ := HX.out
      cases f with
      | zero => simp at hm; omega
      | succ f =>
        have hub2 : ubF (f + 1) m = ((m % 128 + 128 : Nat) : Int) :: ubF f (m / 128) := by rw [ubF, if_neg hlt]
        have hbit : (128 : Int) + (m : Int) % 128 = ((m % 128 + 128 : Nat) : Int) := by omega
        have hw : IntKind.u64.wrap ((m : Int) / 128) = ((m / 128 : Nat) : Int) := by rw [IntKind.wrap_u64]; omega
        rw [hbit] at N
        rw [hw]
        refine ⟨⟨m / 128, f, pre ++ [((m % 128 + 128 : Nat) : Int)], rfl, by omega, ?_, ?_, by simp; omega, by simpa using N⟩, by simp [intOf]; omega⟩
        · rw [Nat.pow_succ] at hm; omega
        · rw [hub, hub2]; simp
theorem Zig_calls (n : Int) (hn : IsI64 n) : Calls Try.prog 81 #[.int .i64 n] w fun e w' => e = .returned (.int .u64 (zz n)) ∧ w = w' := by
  obtain ⟨h0, h1⟩ := hn
  by_cases hneg : n < 0
  · have HZ := Lib.hid (show (zz n : Int) = -2 * n - 1 by unfold zz; rw [if_neg (by omega)]; omega)
    go_enter Try.func81, Try.ntmps81
    go_wp2_with fail
    go_ret
    exact ⟨ret_int (by rw [HZ.out]; try omega), rfl⟩
  · have HZ := Lib.hid (show (zz n : Int) = 2 * n by unfold zz; rw [if_pos (by omega)]; omega)
    go_enter Try.func81, Try.ntmps81
    go_wp2_with fail
    go_ret
    exact ⟨ret_int (by rw [HZ.out]; try omega), rfl⟩
theorem Int_calls (n : Int) (hn : IsI64 n) : Calls Try.prog 58 #[.int .i64 n] w (BytT (ib n) w) := by
  have HZ := Lib.hid (Zig_calls (w := w) n hn)
  have HU := Lib.hid (Uint_calls (w := w) (zz n) (zz_lt hn))
  clear hn
  go_enter Try.func58, Try.ntmps58
  go_wp2_with fail
  refine HZ.out.mono ?_
  rintro e _ ⟨rfl, rfl⟩
  go_wp2_with fail
  refine HU.out.mono ?_
  rintro e w1 ⟨a, cap, rfl, ho⟩
  go_wp2_with fail
  go_ret
  exact ⟨a, cap, rfl, ho⟩
end
end R02
end Go.Proofs.Ytdhhohnaehdpkaa
end
section
open Go.RowKit
namespace Go.Proofs.Ytdhhohnaehdpkaa
open L
namespace Trail
open Wire
/-- The bytes of a trail. -/
def eb (vs : Nat) (es : Es) : List Int := ib vs ++ ib es.length ++ es.flatMap fun e => ib e.1 ++ ib e.2
theorem flat_len (es : Es) : (es.flatMap fun e => ib e.1 ++ ib e.2).length ≤ 20 * es.length := by
  induction es with
  | nil => simp
  | cons e es ih =>
    have h1 := ib_length e.1
    have h2 := ib_length e.2
    simp only [List.flatMap_cons, List.length_append, List.length_cons]
    omega
theorem eb_len (vs : Nat) (es : Es) : (eb vs es).length ≤ 20 + 20 * es.length := by
  have h1 := ib_length vs
  have h2 := ib_length es.length
  have h3 := flat_len es
  unfold eb
  simp only [List.length_append]
  omega
theorem list_form {w : World} {b vars : Nat} {es : Es} {now : Int} {S : List Nat} (h : Tr w b vars es now S) : ∃ a cap, w.cell? ⟨b, 1, none⟩ = some (.slice a es.length cap) ∧ es.length ≤ cap ∧ cap ≤ 9223372036854775807 ∧
    (0 < es.length → ∃ g, a = some ⟨g, 0, none⟩ ∧ ∀ i, i < es.length → w.cell? ⟨g, i * 3, none⟩ = some (.int .i64 (at_ es i).1) ∧ w.cell? ⟨g, i * 3 + 1, none⟩ = some (.int .i64 (lev es i)) ∧ w.cell? ⟨g, i * 3 + 2, none⟩ = some (.int .i64 (at_ es i).2)) := by
  obtain ⟨h0, pb, pcap, lv, pad, rfl, h1, h2, h3, h4, h5, h6, h7, h8⟩ := h
  have c1 := h1.cell (i := 1) rfl
  by_cases hz : 0 < es.length
  · obtain ⟨g, cap, rfl, q1, q2, hlc⟩ := list_cells h5 hz
    unfold maxLen at q2
    exact ⟨_, cap, c1, q1, by omega, fun _ => ⟨g, rfl, hlc⟩⟩
  · obtain ⟨a, cap, rfl, q1, q2, _⟩ := (SL.of_owns h5).val
    unfold maxLen at q2
    exact ⟨a, cap, c1, q1, by omega, fun h => absurd h hz⟩
section
variable {w : World} {b vars : Nat} {es : Es} {now : Int} {S : List Nat}
set_option maxRecDepth 100000 in
set_option maxHeartbeats 2000000 in
theorem Encode_calls (h : Tr w b vars es now S) : Calls Try.prog 23 #[.pointer (some ⟨b, 0, none⟩)] w (CloneT (eb vars es).length (eb vars es) w) := by
  have hv := h.wf.max
  have hlen := h.wf.len
  obtain ⟨a, cap, c1, q1, r1, hc⟩ := list_form h
  have W0 := WtF.start w
  have HH := Lib.hid (And.intro h.wf hc)
  have HT := Lib.hid h
  clear h hc
  go_enter Try.func23, Try.ntmps23
  go_wp2_with fail
  generalize w.alloc (.cells #[.slice none 0 0] 95) = w1 at *
  generalize w.heap.size = q at *
  have HW := Lib.hid W0
  clear W0
  refine (Vars_calls (HT.out.upd HW.out.u (by simp))).mono ?_
  rintro e _ ⟨rfl, rfl⟩
  go_wp2_with fail
  refine (Int_f HW.out vars (by unfold IsI64; omega) (by simp)).mono ?_
  rintro e w2 ⟨rfl, W2⟩
  have d1 := W2.u.some c1 (by simp)
  have HW2 := Lib.hid W2
  clear W2 HW
  go_wp2_with fail
  refine (Int_f HW2.out es.length (by unfold IsI64; omega) (by have := ib_length vars; simp; omega)).mono ?_
  rintro e w3 ⟨rfl, W3⟩
  have d2 := W3.u.some c1 (by simp)
  have HW3 := Lib.hid W3
  clear W3 HW2 d1
  go_wp2_with fail
  go_loopw [20] (fun i wr => ∃ k : Nat, i = .int .i64 k ∧ k ≤ es.length ∧ WtF w q ((ib vars ++ ib es.length) ++ (es.take k).flatMap fun e => ib e.1 ++ ib e.2) wr) (fun i _ => es.length - (intOf i).toNat)
  case atStart => exact ⟨0, rfl, Nat.zero_le _, by simpa using HW3.out⟩
  case round =>
    clear HW3
    obtain ⟨k, rfl, hk, W4⟩ := hrel
    have hpl : ((ib vars ++ ib es.length) ++ (es.take k).flatMap fun e => ib e.1 ++ ib e.2).length ≤ 20 + 20 * es.length := by
      have h1 := ib_length vars
      have h2 := ib_length es.length
      have h3 := flat_len (es.take k)
      have h4 : (es.take k).length ≤ es.length := by rw [List.length_take]; omega
      simp only [List.length_append]
      omega
    by_cases hlt : k < es.length
    · obtain ⟨g, rfl, hcc⟩ := HH.out.2 (by omega)
      obtain ⟨e0, e1, e2⟩ := hcc k hlt
      have hr := HH.out.1.rsn _ (at_mem hlt)
      have hl := HH.out.1.lit _ (at_mem hlt)
      have HS : Hid ((es.take (k + 1)).flatMap (fun e => ib e.1 ++ ib e.2) = (es.take k).flatMap (fun e => ib e.1 ++ ib e.2) ++ (ib (at_ es k).1 ++ ib (at_ es k).2)) := by
        unfold Hid
        rw [List.take_add_one, List.getElem?_eq_getElem hlt, List.flatMap_append]
        have : es[k] = at_ es k := by unfold at_; rw [List.getD_eq_getElem?_getD, List.getElem?_eq_getElem hlt]; rfl
        rw [this]
        simp
      clear hcc
      generalize (at_ es k).1 = x at *
      generalize (at_ es k).2 = r at *
      generalize lev es k = lv at *
      replace e0 := W4.u.some e0 (by simp)
      replace e1 := W4.u.some e1 (by simp)
      replace e2 := W4.u.some e2 (by simp)
      have uA := (Upd.refl [] wr).alloc (.cells #[.int .i64 x, .int .i64 lv, .int .i64 r] 89)
      have W5 := W4.quiet uA
      have NB := Blk.new wr [.int .i64 x, .int .i64 lv, .int .i64 r] 89
      have f0 := NB.cell (i := 0) rfl
      have f2 := NB.cell (i := 2) rfl
      generalize hpre : ((ib vars ++ ib es.length) ++ (es.take k).flatMap fun e => ib e.1 ++ ib e.2) = pre at *
      have HP := Lib.hid hpre
      have HW5 := Lib.hid (And.intro W4 uA)
      have HF := Lib.hid NB
      clear hpre W4 W5 uA NB f0 f2
      go_wp2_with fail
      refine (Int_f2 HW5.out.1 HW5.out.2 x (by unfold IsI64; omega) (by omega)).mono ?_
      rintro e w6 ⟨rfl, W6, K6⟩
      have N6 := K6 _ _ _ (Nat.le_refl _) HF.out
      have f2 := N6.cell (i := 2) rfl
      have HW6 := Lib.hid W6
      have hx10 := ib_length x
      clear K6 N6 HF HW5 W6
      go_wp2_with fail
      refine (Int_f HW6.out r (by unfold IsI64; omega) (by simp only [List.length_append]; omega)).mono ?_
      rintro e w7 ⟨rfl, W7⟩
      have HW7 := Lib.hid W7
      clear W7
      go_wp2_with fail
      refine ⟨⟨k + 1, by go_num, by omega, ?_⟩, by simp [intOf]; omega⟩
      rw [HS.out, ← List.append_assoc, HP.out, ← List.append_assoc]
      exact HW7.out
    · have hke : k = es.length := by omega
      have HP := Lib.hid (show ((ib vars ++ ib es.length) ++ (es.take k).flatMap fun e => ib e.1 ++ ib e.2) = eb vars es by rw [hke, List.take_length]; rfl)
      rw [HP.out] at W4 hpl
      have HW4 := Lib.hid W4
      clear W4 hke
      go_wp2_with fail
      obtain ⟨S4, t4, _⟩ := HW4.out.ex
      refine (Done_calls t4 (by omega)).mono ?_
      rintro e w5 ⟨a5, cap5, rfl, o5, u5⟩
      go_wp2_with fail
      go_ret
      refine ⟨a5, cap5, rfl, ⟨o5.row, fun g hg => ?_⟩, HW4.out.u.step u5⟩
      have := o5.fresh g hg
      have := HW4.out.u.size
      omega
end
end Trail
end Go.Proofs.Ytdhhohnaehdpkaa
end
section
open Go.RowKit
namespace Go.Proofs.Ytdhhohnaehdpkaa
open L
namespace Law
open Trail Ref
section
variable {w : World} {b mb vars : Nat} {es : Es} {S S2 : List Nat}
theorem Rf.cells (h : Rf w b vars es S) : ∃ a1 c1 a2 c2 a3 c3, w.cell? ⟨b, 0, none⟩ = some (.int .i64 vars) ∧ w.cell? ⟨b, 1, none⟩ = some (.slice a1 es.length c1) ∧ w.cell? ⟨b, 2, none⟩ = some (.slice a2 es.length c2) ∧
    w.cell? ⟨b, 3, none⟩ = some (.slice a3 es.length c3) ∧ SL w 1 (.slice a1 es.length c1) es.length (ints (lits es)) ∧
    (0 < es.length → (∃ g, a2 = some ⟨g, 0, none⟩ ∧ ∀ i, i < es.length → w.cell? ⟨g, i, none⟩ = some (.int .i64 (at_ es i).2)) ∧ (∃ g, a3 = some ⟨g, 0, none⟩ ∧ ∀ i, i < es.length → w.cell? ⟨g, i, none⟩ = some (.int .i64 (lev es i)))) := by
  obtain ⟨h0, lv, rv, vv, hS, B, O1, O2, O3, n1, n2, n3⟩ := h
  have hl1 : (lits es).length = es.length := by simp [lits]
  have hl2 : (rsns es).length = es.length := by simp [rsns]
  have hl3 : (levs es).length = es.length := by simp [levs]
  have s1 := SL.of_owns O1
  obtain ⟨a1, c1, rfl, _, _, _⟩ := own_form (hl1 ▸ O1)
  obtain ⟨a2, c2, rfl, _, _, k2⟩ := own_form (hl2 ▸ O2)
  obtain ⟨a3, c3, rfl, _, _, k3⟩ := own_form (hl3 ▸ O3)
  rw [hl1, hl2, hl3] at B
  rw [hl1] at s1
  rw [hl2] at k2
  rw [hl3] at k3
  refine ⟨a1, c1, a2, c2, a3, c3, B.cell rfl, B.cell rfl, B.cell rfl, B.cell rfl, s1, fun hn => ⟨?_, ?_⟩⟩
  · obtain ⟨g, hg, hc⟩ := k2 hn
    refine ⟨g, hg, fun i hi => hc i _ ?_⟩
    unfold rsns at_; rw [List.getElem?_map, List.getD_eq_getElem?_getD, List.getElem?_eq_getElem hi]; simp
  · obtain ⟨g, hg, hc⟩ := k3 hn
    refine ⟨g, hg, fun i hi => hc i _ ?_⟩
    unfold levs; rw [List.getElem?_map, List.getElem?_range hi]; rfl
end
end Law
namespace Ref
open Trail Wire R02
/-- A world in which four cells hold what they held. -/
def Four (p0 p1 p2 p3 : Addr) (v0 v1 v2 v3 : Value) : Type := { w : World // w.cell? p0 = some v0 ∧ w.cell? p1 = some v1 ∧ w.cell? p2 = some v2 ∧ w.cell? p3 = some v3 }
section
variable {p0 p1 p2 p3 : Addr} {v0 v1 v2 v3 : Value}
theorem Four.c0 (x : Four p0 p1 p2 p3 v0 v1 v2 v3) : x.val.cell? p0 = some v0 := x.property.1
theorem Four.c1 (x : Four p0 p1 p2 p3 v0 v1 v2 v3) : x.val.cell? p1 = some v1 := x.property.2.1
theorem Four.c2 (x : Four p0 p1 p2 p3 v0 v1 v2 v3) : x.val.cell? p2 = some v2 := x.property.2.2.1
theorem Four.c3 (x : Four p0 p1 p2 p3 v0 v1 v2 v3) : x.val.cell? p3 = some v3 := x.property.2.2.2
attribute [go_sem] Four.c0 Four.c1 Four.c2 Four.c3
theorem Four.of {w : World} (h0 : w.cell? p0 = some v0) (h1 : w.cell? p1 = some v1) (h2 : w.cell? p2 = some v2) (h3 : w.cell? p3 = some v3) : ∃ x : Four p0 p1 p2 p3 v0 v1 v2 v3, w = x.val := ⟨⟨w, h0, h1, h2, h3⟩, rfl⟩
end
section
variable {w : World} {b vars : Nat} {es : Es} {S : List Nat}
set_option maxRecDepth 100000 in
set_option maxHeartbeats 4000000 in
theorem Encode_calls (h : Rf w b vars es S) : Calls Try.prog 26 #[.pointer (some ⟨b, 0, none⟩)] w (BytT (eb vars es) w) := by
  have hv := h.wf.max
  have hlen := h.wf.len
  have hwf := h.wf
  obtain ⟨a1, c1, a2, c2, a3, c3, m0, m1, m2, m3, sl, mc⟩ := Law.Rf.cells h
  obtain ⟨_, _, he, hq1, hr1, _, hs1⟩ := sl.val
  cases he
  unfold maxLen at hr1
  have HS := Lib.hid (And.intro hwf (And.intro hs1 mc))
  clear h sl mc m3 hs1 hwf
  go_enter Try.func26, Try.ntmps26
  go_wp2_with fail
  refine wp_region_ord 10 2 [0, 1, 2, 3, 5, 6, 7, 8, 9, 12] [3, 8] [0, 1, 2, 3, 5, 6, 7, 8, 9, 4, 10, 11, 12] (fun w' => ∃ x : Ext w, w' = x.val) (by kernel_rfl) (by kernel_rfl) (Ext.of (by iterate 25 (first | exact Upd.refl _ _ | assumption | refine Upd.alloc ?_ _ | refine Upd.drew ?_ | refine Upd.drewN ?_ _ | refine Upd.dl ?_ | refine Upd.step ?_ (Ext.upd _) | refine Upd.nil ?_ | skip))) ?_
  repeat (first | (refine wpOrd_load rfl rfl rfl rfl (fun K hK => ?_); go_big_quiet_step (fail); refine wpQuiet_nil ?_; refine hK _ ?_; clear hK K) | (refine wpOrd_free rfl rfl rfl (fun K hK => ?_); go_big_quiet_step (fail); refine wpQuiet_nil ?_; refine hK _ ?_; clear hK K))
  refine wpOrd_fix rfl rfl (fun K hK => ?_)
  go_wp2_with (go_at_call 58; refine (R02.Int_calls vars (by unfold IsI64; omega)).mono ?_; rintro e w1 ⟨ap, cp, rfl, op⟩)
  have H1 := Lib.hid (op.base (w := w) (by iterate 25 (first | exact Upd.refl _ _ | assumption | refine Upd.alloc ?_ _ | refine Upd.drew ?_ | refine Upd.drewN ?_ _ | refine Upd.dl ?_ | refine Upd.step ?_ (Ext.upd _) | refine Upd.nil ?_ | skip)))
  have U1 : Upd [] w w1 := Upd.step (by iterate 25 (first | exact Upd.refl _ _ | assumption | refine Upd.alloc ?_ _ | refine Upd.drew ?_ | refine Upd.drewN ?_ _ | refine Upd.dl ?_ | refine Upd.step ?_ (Ext.upd _) | refine Upd.nil ?_ | skip)) op.u
  clear op
  refine ⟨fun _ => Ext.of U1, ?_⟩
  repeat (first | (refine wpOrd_load rfl rfl rfl rfl (fun K hK => ?_); go_big_quiet_step (fail); refine wpQuiet_nil ?_; refine hK _ ?_; clear hK K) | (refine wpOrd_free rfl rfl rfl (fun K hK => ?_); go_big_quiet_step (fail); refine wpQuiet_nil ?_; refine hK _ ?_; clear hK K))
  refine wpOrd_fix rfl rfl (fun K hK => ?_)
  go_wp2_with (go_at_call 58; refine (R02.Int_calls es.length (by unfold IsI64; omega)).mono ?_; rintro e w2 ⟨ap2, cp2, rfl, op2⟩)
  have H2 := Lib.hid (And.intro op2.sl (H1.out.quiet (show Upd [] w1 w2 from Upd.step (by iterate 25 (first | exact Upd.refl _ _ | assumption | refine Upd.alloc ?_ _ | refine Upd.drew ?_ | refine Upd.drewN ?_ _ | refine Upd.dl ?_ | refine Upd.step ?_ (Ext.upd _) | refine Upd.nil ?_ | skip)) op2.u)))
  clear op2
  refine ⟨fun hC => absurd hC (by decide), ?_⟩
  repeat (first | (refine wpOrd_load rfl rfl rfl rfl (fun K hK => ?_); go_big_quiet_step (fail); refine wpQuiet_nil ?_; refine hK _ ?_; clear hK K) | (refine wpOrd_free rfl rfl rfl (fun K hK => ?_); go_big_quiet_step (fail); refine wpQuiet_nil ?_; refine hK _ ?_; clear hK K))
  refine wpOrd_fix rfl rfl (fun K hK => ?_)
  have hb1 := ib_length vars
  have hb2 := ib_length es.length
  go_wp2_with (refine wpList_appS rfl _ _ _ rfl 5 1 1 _ Try.underlying53 infoByte rfl (by decide) _ _ _ rfl H2.out.2.row _ _ _ rfl H2.out.1 (byts_one _) (by unfold maxLen; omega) (by omega) ?_; intro a4 cap4 w4 o4 u4 k4; simp only [Act.put, List.setIfInBounds_toArray, List.set_cons_zero, List.set_cons_succ])
  have H4 := Lib.hid (H2.out.2.app o4 u4 k4)
  clear o4 u4 k4
  refine ⟨fun hC => absurd hC (by decide), ?_⟩
  repeat (first | (refine wpOrd_load rfl rfl rfl rfl (fun K hK => ?_); go_big_quiet_step (fail); refine wpQuiet_nil ?_; refine hK _ ?_; clear hK K) | (refine wpOrd_free rfl rfl rfl (fun K hK => ?_); go_big_quiet_step (fail); refine wpQuiet_nil ?_; refine hK _ ?_; clear hK K))
  refine wpOrd_nil ?_
  have hl0 := hb1
  rw [← List.length_append] at H4
  go_wp2_with fail
  go_loopw [3, 4] (fun o i wr => ∃ k : Nat, i = .int .i64 k ∧ k ≤ es.length ∧ OwnB w o ((ib vars ++ ib es.length) ++ (es.take k).flatMap fun e => ib e.1 ++ ib e.2) wr) (fun _ i _ => es.length - (intOf i).toNat)
  case atStart => exact ⟨0, rfl, Nat.zero_le _, by simpa using H4.out⟩
  case round =>
    clear H4
    obtain ⟨k, rfl, hk, ho⟩ := hrel
    have hpl : ((ib vars ++ ib es.length) ++ (es.take k).flatMap fun e => ib e.1 ++ ib e.2).length ≤ 20 + 20 * es.length := by
      have h3 := flat_len (es.take k)
      have h4 : (es.take k).length ≤ es.length := by rw [List.length_take]; omega
      simp only [List.length_append] at hl0 ⊢
      omega
    have HE : k = es.length → (ib vars ++ ib es.length) ++ ((es.take k).flatMap fun e => ib e.1 ++ ib e.2) = eb vars es := fun h => by rw [h, List.take_length]; rfl
    have HS2 : ∀ x : Int × Int, es[k]? = some x → (es.take (k + 1)).flatMap (fun e => ib e.1 ++ ib e.2) = (es.take k).flatMap (fun e => ib e.1 ++ ib e.2) ++ (ib x.1 ++ ib x.2) := fun x hx => by
      rw [List.take_add_one, hx, List.flatMap_append]; simp
    obtain ⟨ao, co, rfl, _⟩ := ho.form
    generalize hpre : ((ib vars ++ ib es.length) ++ (es.take k).flatMap fun e => ib e.1 ++ ib e.2) = pre at *
    have HP := Lib.hid hpre
    have HO := Lib.hid ho
    have HEE := Lib.hid (And.intro HE HS2)
    have hu := ho.u
    clear hpre ho HE HS2
    by_cases hlt : k < es.length
    · have hx : es[k]? = some (at_ es k) := by
        unfold at_; rw [List.getD_eq_getElem?_getD, List.getElem?_eq_getElem hlt]; rfl
      have hlk := lits_at hlt
      obtain ⟨⟨g2, rfl, hc2⟩, _⟩ := HS.out.2.2 (by omega)
      obtain ⟨g1, o1, rfl, hc1⟩ : ∃ g1 o1, a1 = some ⟨g1, o1, none⟩ ∧ ∀ j u, (ints (lits es))[j]? = some u → w.cell? ⟨g1, o1 + j, none⟩ = some u := by
        rcases HS.out.2.1 with h | h
        · omega
        · exact h
      have z1 := hc1 k _ (ints_get hlk)
      have z2 := hc2 k hlt
      have hr := HS.out.1.rsn _ (at_mem hlt)
      have hl := HS.out.1.lit _ (at_mem hlt)
      generalize at_ es k = xr at *
      obtain ⟨x, r⟩ := xr
      simp only at z1 z2 hr hl
      have HX := Lib.hid hx
      have HM := Lib.hid (And.intro m1 (And.intro z1 (And.intro m2 z2)))
      have y1 := hu.some m1 (by simp)
      have y2 := hu.some z1 (by simp)
      have y3 := hu.some m2 (by simp)
      have y4 := hu.some z2 (by simp)
      have hmk := fun (w' : World) (h : Upd [] w w') => Four.of (h.some HM.out.1 (by simp)) (h.some HM.out.2.1 (by simp)) (h.some HM.out.2.2.1 (by simp)) (h.some HM.out.2.2.2 (by simp))
      have ne : Nonempty (Four ⟨b, 1, none⟩ ⟨g1, o1 + k, none⟩ ⟨b, 2, none⟩ ⟨g2, k, none⟩ (.slice (some ⟨g1, o1, none⟩) es.length c1) (.int .i64 x) (.slice (some ⟨g2, 0, none⟩) es.length c2) (.int .i64 r)) := ⟨⟨wr, y1, y2, y3, y4⟩⟩
      have HMK := Lib.hid hmk
      clear hc1 hc2 z1 z2 hx hlk m0 m1 m2 hmk
      go_upto_region 5 with fail
      refine wp_region_ord 20 1 [0, 1, 2, 3, 4, 5, 6, 7, 10, 11, 12, 13, 14, 15, 16, 19] [4, 7, 13, 16] [0, 1, 2, 3, 4, 5, 6, 7, 10, 11, 12, 13, 14, 15, 16, 8, 9, 17, 18, 19] (fun w' => ∃ x_ : Four ⟨b, 1, none⟩ ⟨g1, o1 + k, none⟩ ⟨b, 2, none⟩ ⟨g2, k, none⟩ (.slice (some ⟨g1, o1, none⟩) es.length c1) (.int .i64 x) (.slice (some ⟨g2, 0, none⟩) es.length c2) (.int .i64 r), w' = x_.val) (by kernel_rfl) (by kernel_rfl) (HMK.out _ hu.drew) ?_
      clear y1 y2 y3 y4
      repeat (first | (refine wpOrd_load rfl rfl rfl rfl (fun K hK => ?_); go_big_quiet_step (fail); refine wpQuiet_nil ?_; refine hK _ ?_; clear hK K) | (refine wpOrd_free rfl rfl rfl (fun K hK => ?_); go_big_quiet_step (fail); refine wpQuiet_nil ?_; refine hK _ ?_; clear hK K))
      refine wpOrd_fix rfl rfl (fun K hK => ?_)
      go_wp2_with (go_at_call 58; refine (R02.Int_calls x (by unfold IsI64; omega)).mono ?_; rintro e w5 ⟨a5, cp5, rfl, op5⟩)
      have H5 := Lib.hid (And.intro op5.sl (HO.out.quiet (show Upd [] wr w5 from Upd.step (by iterate 25 (first | exact Upd.refl _ _ | assumption | refine Upd.alloc ?_ _ | refine Upd.drew ?_ | refine Upd.drewN ?_ _ | refine Upd.dl ?_ | refine Upd.step ?_ (Ext.upd _) | refine Upd.nil ?_ | skip)) op5.u)))
      have hb5 := ib_length x
      clear op5
      refine ⟨fun _ => HMK.out _ H5.out.2.u, ?_⟩
      repeat (first | (refine wpOrd_load rfl rfl rfl rfl (fun K hK => ?_); go_big_quiet_step (fail); refine wpQuiet_nil ?_; refine hK _ ?_; clear hK K) | (refine wpOrd_free rfl rfl rfl (fun K hK => ?_); go_big_quiet_step (fail); refine wpQuiet_nil ?_; refine hK _ ?_; clear hK K))
      refine wpOrd_fix rfl rfl (fun K hK => ?_)
      go_wp2_with (refine wpList_appS rfl _ _ _ rfl 5 1 1 _ Try.underlying53 infoByte rfl (by decide) _ _ _ rfl H5.out.2.row _ _ _ rfl H5.out.1 (byts_one _) (by unfold maxLen; omega) (by omega) ?_; intro a6 cap6 w6 o6 u6 k6; simp only [Act.put, List.setIfInBounds_toArray, List.set_cons_zero, List.set_cons_succ])
      have H6 := Lib.hid (H5.out.2.app o6 u6 k6)
      clear o6 u6 k6
      refine ⟨fun _ => HMK.out _ H6.out.u, ?_⟩
      repeat (first | (refine wpOrd_load rfl rfl rfl rfl (fun K hK => ?_); go_big_quiet_step (fail); refine wpQuiet_nil ?_; refine hK _ ?_; clear hK K) | (refine wpOrd_free rfl rfl rfl (fun K hK => ?_); go_big_quiet_step (fail); refine wpQuiet_nil ?_; refine hK _ ?_; clear hK K))
      refine wpOrd_fix rfl rfl (fun K hK => ?_)
      go_wp2_with (go_at_call 58; refine (R02.Int_calls r (by unfold IsI64; omega)).mono ?_; rintro e w7 ⟨a7, cp7, rfl, op7⟩)
      have H7 := Lib.hid (And.intro op7.sl (H6.out.quiet op7.u))
      have hb7 := ib_length r
      clear op7
      refine ⟨fun _ => HMK.out _ H7.out.2.u, ?_⟩
      repeat (first | (refine wpOrd_load rfl rfl rfl rfl (fun K hK => ?_); go_big_quiet_step (fail); refine wpQuiet_nil ?_; refine hK _ ?_; clear hK K) | (refine wpOrd_free rfl rfl rfl (fun K hK => ?_); go_big_quiet_step (fail); refine wpQuiet_nil ?_; refine hK _ ?_; clear hK K))
      refine wpOrd_fix rfl rfl (fun K hK => ?_)
      go_wp2_with (refine wpList_appS rfl _ _ _ rfl 5 1 1 _ Try.underlying53 infoByte rfl (by decide) _ _ _ rfl H7.out.2.row _ _ _ rfl H7.out.1 (byts_one _) (by simp only [List.length_append]; unfold maxLen; omega) (by simp only [List.length_append]; omega) ?_; intro a8 cap8 w8 o8 u8 k8; simp only [Act.put, List.setIfInBounds_toArray, List.set_cons_zero, List.set_cons_succ])
      have H8 := Lib.hid (H7.out.2.app o8 u8 k8)
      clear o8 u8 k8
      refine ⟨fun _ => HMK.out _ H8.out.u, ?_⟩
      repeat (first | (refine wpOrd_load rfl rfl rfl rfl (fun K hK => ?_); go_big_quiet_step (fail); refine wpQuiet_nil ?_; refine hK _ ?_; clear hK K) | (refine wpOrd_free rfl rfl rfl (fun K hK => ?_); go_big_quiet_step (fail); refine wpQuiet_nil ?_; refine hK _ ?_; clear hK K))
      refine wpOrd_nil ?_
      go_wp2_with fail
      refine ⟨⟨k + 1, by go_num, by omega, ?_⟩, by simp [intOf]; omega⟩
      rw [HEE.out.2 _ HX.out, ← List.append_assoc, HP.out, ← List.append_assoc]
      exact H8.out
    · have hke : k = es.length := by omega
      have hpe : pre = eb vars es := HEE.out.1 hke
      subst hpe
      have y1 := hu.some m1 (by simp)
      clear hke hpl
      go_wp2_with fail
      go_ret
      exact ⟨ao, co, rfl, HO.out⟩
end
end Ref
end Go.Proofs.Ytdhhohnaehdpkaa
end
