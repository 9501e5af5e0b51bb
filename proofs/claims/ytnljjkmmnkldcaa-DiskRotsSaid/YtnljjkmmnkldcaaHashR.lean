/- Walks through the reference of package hash: Words, mix, Sum, Bytes. Conditions: none. -/
import Derived.Lib.ConvBytes
import Derived.Test.YtnljjkmmnkldcaaHashP
import Derived.Test.YtnljjkmmnkldcaaOwnB
import Derived.Test.YtnljjkmmnkldcaaOwn
import Derived.Test.YtnljjkmmnkldcaaSame
set_option linter.unusedVariables false
set_option linter.unusedSimpArgs false
set_option linter.unusedSectionVars false
open Go.RowKit
namespace Go.Proofs.Ytnljjkmmnkldcaa
open L
namespace Hash
open Wire R14 R01
theorem infoU64 : (Try.prog.info? 61).map (fun i => (i.zero, i.size, i.bytes)) = some (some (.int .u64 0), 1, 8) := by kernel_rfl
def u64s (l : List Nat) : List Value := l.map fun (n : Nat) => Value.int .u64 (n : Int)
theorem u64s_one (l : List Nat) : ∀ u ∈ u64s l, u.oneCell' = true := by
  intro u hu
  obtain ⟨_, _, rfl⟩ := List.mem_map.1 hu
  rfl
theorem u64s_get {l : List Nat} {i n : Nat} (h : l[i]? = some n) : (u64s l)[i]? = some (.int .u64 (n : Int)) := by simp [u64s, h]
theorem u64s_append (l m : List Nat) : u64s (l ++ m) = u64s l ++ u64s m := by simp [u64s]
theorem u64s_length (l : List Nat) : (u64s l).length = l.length := by simp [u64s]
section
variable {w : World}
theorem mixv {s v : Nat} (hs : s < 18446744073709551616) (hv : v < 18446744073709551616) :
    bits .xor .u64 (IntKind.u64.wrap (bits .xor .u64 (s : Int) (v : Int) * 11400714819323198485)) (IntKind.u64.wrap (IntKind.u64.wrap (bits .xor .u64 (s : Int) (v : Int) * 11400714819323198485) / 4294967296)) = ((mixN s v : Nat) : Int) := by
  rw [xor_u64 hs hv, mixN_def]
  have e1 : IntKind.u64.wrap (((s ^^^ v : Nat) : Int) * 11400714819323198485) = (((s ^^^ v) * 11400714819323198485 % 18446744073709551616 : Nat) : Int) := by
    rw [IntKind.wrap_u64]; omega
  rw [e1]
  generalize hm : (s ^^^ v) * 11400714819323198485 % 18446744073709551616 = m
  have hm' : m < 18446744073709551616 := by rw [← hm]; exact Nat.mod_lt _ (by omega)
  have e2 : IntKind.u64.wrap ((m : Int) / 4294967296) = ((m / 4294967296 : Nat) : Int) := by rw [IntKind.wrap_u64]; omega
  rw [e2, xor_u64 hm' (by omega)]
theorem mixw {s v : Nat} (hs : s < 18446744073709551616) (hv : v < 18446744073709551616) :
    bits .xor .u64 (IntKind.u64.wrap (bits .xor .u64 (s : Int) (v : Int) * 11400714819323198485)) (IntKind.u64.wrap (bits .xor .u64 (s : Int) (v : Int) * 11400714819323198485) / 4294967296) = ((mixN s v : Nat) : Int) := by
  rw [← mixv hs hv]
  congr 1
  rw [IntKind.wrap_u64, IntKind.wrap_u64]
  omega
set_option maxHeartbeats 1000000 in
theorem MixP_calls (s v : Nat) (hs : s < 18446744073709551616) (hv : v < 18446744073709551616) : Calls Try.prog 56 #[.int .u64 s, .int .u64 v] w fun e w' => e = .returned (.int .u64 (mixN s v : Nat)) ∧ w = w' := by
  have HM := Lib.hid (mixw hs hv)
  clear hs hv
  go_enter Try.func56, Try.ntmps56
  go_wp2_with fail
  go_ret
  exact ⟨ret_int HM.out, rfl⟩
theorem leN_drop {bs : List Int} {j r : Nat} (h : r < ((bs.drop j).take 8).length) (hu : ∀ x ∈ bs, IsU8 x) : ∃ x, bs[j + r]? = some x ∧ IsU8 x ∧ leN (((bs.drop j).take 8).drop r) = x.toNat + 256 * leN (((bs.drop j).take 8).drop (r + 1)) ∧
    x.toNat + 256 * leN (((bs.drop j).take 8).drop (r + 1)) < 18446744073709551616 := by
  have h2 := List.getElem?_eq_getElem h
  have h3 : ((bs.drop j).take 8).drop r = ((bs.drop j).take 8)[r] :: ((bs.drop j).take 8).drop (r + 1) := List.drop_eq_getElem_cons h
  have h4 : ((bs.drop j).take 8)[r]? = bs[j + r]? := by
    have : r < 8 := by rw [List.length_take] at h; omega
    rw [List.getElem?_take, if_pos this, List.getElem?_drop]
  have h5 : ∀ x ∈ (((bs.drop j).take 8).drop r), IsU8 x := fun x hx => take_u8 hu j 8 x (List.mem_of_mem_drop hx)
  have h6 := leN_lt _ h5
  have h7 : (((bs.drop j).take 8).drop r).length ≤ 8 := by rw [List.length_drop, List.length_take]; omega
  have h8 : 256 ^ (((bs.drop j).take 8).drop r).length ≤ 256 ^ 8 := Nat.pow_le_pow_right (by omega) h7
  refine ⟨_, by rw [← h4]; exact h2, take_u8 hu j 8 _ (List.getElem_mem h), by rw [h3, leN], ?_⟩
  rw [h3, leN] at h6
  rw [h3] at h8
  omega
end
/-- The bytes of a label. -/
def labB (s : ByteArray) : List Int := s.data.toList.map fun b => (b.toNat : Int)
theorem labB_length (s : ByteArray) : (labB s).length = s.size := by simp [labB]
theorem labB_u8 (s : ByteArray) : ∀ x ∈ labB s, IsU8 x := by
  intro x hx
  obtain ⟨b, _, rfl⟩ := List.mem_map.1 hx
  have := b.toNat_lt
  unfold IsU8
  omega
def labW (s : ByteArray) : List Nat := wds (labB s) (nw (labB s))
theorem lab_upd (w : World) (s : ByteArray) : Upd [] w (Lib.bytesWorld w 5 s) :=
  ⟨rfl, rfl, rfl, by rw [Lib.bytesWorld_size]; omega, fun k hk _ => Lib.bytesWorld_at_old w 5 s k hk⟩
theorem lab_sl (w : World) (s : ByteArray) (hs : s.size ≤ 1000) : SL (Lib.bytesWorld w 5 s) 1 (.slice (some ⟨w.heap.size, 0, none⟩) s.size (grownCap w s.size 0 5)) s.size (byts (labB s)) := by
  refine ⟨by rw [byts_length, labB_length, Nat.mul_one], _, _, rfl, grownCap_ge _ _ _ _, grownCap_le_maxLen _ _ _ _ (by unfold maxLen; omega), (fun h => by cases h), .inr ⟨_, 0, rfl, fun j u hj => ?_⟩⟩
  have hl : j < s.size := by
    have := (List.getElem?_eq_some_iff.1 hj).1
    rwa [byts_length, labB_length] at this
  rw [Nat.zero_add, Lib.bytesWorld_cell w 5 s j hl]
  rw [← hj]
  have hl2 : j < s.data.toList.length := by simpa using hl
  simp [byts, labB, List.getD, List.getElem?_eq_getElem hl2]
theorem run_lab (w : World) (s : ByteArray) : (convert 9 27 (.string s)).run Try.prog w = .ok (.slice (some ⟨w.heap.size, 0, none⟩) s.size (grownCap w s.size 0 5)) (Lib.bytesWorld w 5 s) :=
  Lib.run_convert_string_bytes w 9 27 5 s Try.underlying9 Try.underlying27 Try.underlying5
/-- A signed number as an unsigned one. -/
def u6 (x : Int) : Nat := (x % 18446744073709551616).toNat
theorem u6_lt (x : Int) : u6 x < 18446744073709551616 := by unfold u6; omega
theorem u6_wrap (x : Int) : IntKind.u64.wrap x = ((u6 x : Nat) : Int) := by rw [IntKind.wrap_u64]; unfold u6; omega
theorem take_mixL {l : List Nat} {i n s : Nat} (h : l[i]? = some n) : mixL s (l.take (i + 1)) = mixN (mixL s (l.take i)) n := by
  rw [List.take_add_one, h, Option.toList_some, mixL_snoc]
section
variable {w : World}
end
/-- An unsigned number as a signed one. -/
def sg (n : Nat) : Int := wrap64 (n : Int)
theorem u6_sg {n : Nat} (h : n < 18446744073709551616) : u6 (sg n) = n := by unfold u6 sg wrap64; omega
theorem u6_sgs : ∀ {l : List Nat}, (∀ n ∈ l, n < 18446744073709551616) → (l.map sg).map u6 = l
  | [], _ => rfl
  | n :: l, h => by rw [List.map_cons, List.map_cons, u6_sg (h n (by simp)), u6_sgs (fun x hx => h x (List.mem_cons_of_mem _ hx))]
theorem u6_nat {n : Nat} (h : n < 18446744073709551616) : u6 (n : Int) = n := by unfold u6; omega
section
variable {w : World}
end
end Hash
end Go.Proofs.Ytnljjkmmnkldcaa
