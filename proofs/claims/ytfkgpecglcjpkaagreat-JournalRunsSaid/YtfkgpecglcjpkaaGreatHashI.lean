/- Walks through package hash: the iterator over words. Conditions: none. -/
import Derived.Test.YtfkgpecglcjpkaaGreatInF
import Derived.Test.YtfkgpecglcjpkaaGreatHashR
set_option linter.unusedVariables false
set_option linter.unusedSimpArgs false
set_option linter.unusedSectionVars false
open Go.RowKit Go.Shelf
namespace Go.Proofs.YtfkgpecglcjpkaaGreat
open L
attribute [local go_sem] Oper.semAt_some
namespace Hash
open Wire R14 R01
theorem or8 {acc k : Nat} {c : Int} (hc : IsU8 c) (hk : k ≤ 7) (ha : acc < 256 ^ k) :
    bits .or .u64 (acc : Int) (IntKind.u64.wrap (c * 2 ^ (8 * k))) = ((acc + c.toNat * 256 ^ k : Nat) : Int) := by
  obtain ⟨h0, h1⟩ := hc
  obtain ⟨n, rfl⟩ := Int.eq_ofNat_of_zero_le h0
  have hp : 256 ^ k ≤ 256 ^ 7 := Nat.pow_le_pow_right (by omega) hk
  have hn : n * 256 ^ k + 256 ^ k ≤ 256 * 256 ^ k := by rw [← Nat.succ_mul]; exact Nat.mul_le_mul_right _ (by omega)
  have e2 : (n : Int) * 2 ^ (8 * k) = ((n * 256 ^ k : Nat) : Int) := by
    rw [Int.natCast_mul, Int.natCast_pow]
    congr 1
    rw [Int.pow_mul]
    rfl
  have e3 : IntKind.u64.wrap ((n * 256 ^ k : Nat) : Int) = ((n * 256 ^ k : Nat) : Int) := by rw [IntKind.wrap_u64]; omega
  rw [e2, e3, Int.toNat_natCast]
  unfold bits
  simp only [IntKind.wrap_u64]
  rw [BitVec.toNat_or, ofInt64 _ (by omega) (by omega), ofInt64 _ (by omega) (by omega), Int.toNat_natCast, Int.toNat_natCast]
  have e4 : acc ||| n * 256 ^ k = acc + n * 256 ^ k := by
    have h := Nat.shiftLeft_add_eq_or_of_lt (b := acc) (i := 8 * k) (by rw [Nat.pow_mul]; exact ha) n
    rw [Nat.shiftLeft_eq, Nat.pow_mul] at h
    rw [Nat.or_comm, ← h, Nat.add_comm]
  rw [e4]
  omega
theorem leN_take {bs : List Int} {j r : Nat} (hr : r < 8) (h : j + r < bs.length) : leN ((bs.drop j).take (r + 1)) = leN ((bs.drop j).take r) + bs[j + r].toNat * 256 ^ r := by
  have e : (bs.drop j).take (r + 1) = (bs.drop j).take r ++ [bs[j + r]] := by
    rw [List.take_add_one, List.getElem?_drop, List.getElem?_eq_getElem h]; rfl
  rw [e, leN_snoc, List.length_take, List.length_drop, Nat.min_eq_left (by omega)]
/-- The blocks of S lie as they lay. -/
def KS (S : List Nat) (A B : World) : Prop := ∀ k ∈ S, B.heap[k]? = A.heap[k]?
theorem KS.refl (S : List Nat) (A : World) : KS S A A := fun _ _ => rfl
theorem KS.trans {S : List Nat} {A B C : World} (h : KS S A B) (k : KS S B C) : KS S A C := fun i hi => (k i hi).trans (h i hi)
theorem KS.cell {S : List Nat} {A B : World} (h : KS S A B) {p : Addr} (hp : p.block ∈ S) : B.cell? p = A.cell? p := World.cell?_of_block (w := A) (h p.block hp)
theorem KS.put {S : List Nat} {w : World} (hS : ∀ k ∈ S, k < w.heap.size) (W : World) (l : Nat) (o o' : Obj) (hl : w.heap.size ≤ l) (_ : W.heap[l]? = some o) (_ : o.isCells = false) (_ : o.isWalk = false) : KS S W (W.putObj l o') :=
  fun k hk => World.putObj_heap_other (fun e => by have := hS k hk; omega)
theorem KS.of_upd {S T : List Nat} {A B : World} (h : Upd T A B) (hS : ∀ k ∈ S, k < A.heap.size) (hT : ∀ k ∈ S, k ∉ T) : KS S A B := fun k hk => h.block k (hS k hk) (hT k hk)
theorem KS.of_below {S : List Nat} {n : Nat} {A B : World} (h : Below n A B) (hS : ∀ k ∈ S, k < n) : KS S A B := fun k hk => h.block k (hS k hk)
theorem SL_ks {S : List Nat} {A B : World} {v : Value} {n k : Nat} {cs : List Value} (h : SL A k v n cs) (hb : ∀ b, v.ownBlock = some b → b ∈ S) (kp : KS S A B) : SL B k v n cs := by
  obtain ⟨h1, a, cap, rfl, h2, h3, h5, h4⟩ := h
  refine ⟨h1, a, cap, rfl, h2, h3, h5, ?_⟩
  rcases h4 with h4 | ⟨b, off, rfl, h4⟩
  · exact .inl h4
  · exact .inr ⟨b, off, rfl, fun j u hj => (kp.cell (p := ⟨b, off + j, none⟩) (hb b rfl)).trans (h4 j u hj)⟩
theorem wds_cut {bs : List Int} {k N A : Nat} (h : k + 1 ≤ N) (hs : wds bs (k + 1) = wds bs k ++ [A]) : wds bs k ++ [A] ++ (List.range (N - (k + 1))).map (fun j => wd bs (8 * (k + 1 + j))) = wds bs N := by
  rw [← hs]
  unfold wds
  conv => rhs; rw [show N = k + 1 + (N - (k + 1)) by omega, List.range_add]
  simp [Function.comp_def]
set_option maxRecDepth 100000 in
set_option maxHeartbeats 4000000 in
theorem words1_in (n : Nat) (hn : 1 ≤ n) (l Bn : Nat) (T : List Nat) (v : Value) (bs : List Int) (hu : ∀ x ∈ bs, IsU8 x) (hl : bs.length ≤ 1000000000) (hBn : Bn ∈ T) (hvb : ∀ b, v.ownBlock = some b → b ∈ T) (J Jx : List Nat → World → Prop)
    (hY : ∀ (pre : List Nat) (x : Nat) W, J pre W → pre.length < nw bs → YieldAt Fence.wide (n - 1) Tryz.prog l #[.int .u64 ((x % 18446744073709551616 : Nat) : Int)] W fun e W' =>
      (e = .returned (.bool true) ∧ J (pre ++ [x]) W' ∧ KS T W W') ∨ (e = .returned (.bool false) ∧ Jx (pre ++ [x]) W'))
    (W : World) (hc : W.cell? ⟨Bn, 0, none⟩ = some v) (hs : SL W 1 v bs.length (byts bs)) (h0 : J [] W) :
    CallsIn Fence.wide n Tryz.prog 70 #[.func (.yield l) #[] #[], .pointer (some ⟨Bn, 0, none⟩)] W fun e W' => (∃ v, e = .returned v) ∧
      ((∃ ys, ys = wds bs (nw bs) ∧ J ys W') ∨ (∃ pre, pre <+: wds bs (nw bs) ∧ Jx pre W')) := by
  have HN := Lib.hid (show nw bs = (bs.length + 7) / 8 from rfl)
  have HU := Lib.hid hu
  have hn0 : nw bs ≤ 125000001 := by unfold nw; omega
  obtain ⟨N, hN⟩ : ∃ N, N = nw bs := ⟨_, rfl⟩
  rw [← hN] at HN hn0 hY ⊢
  clear hN hu
  refine callsIn_of_wp Tryz.func70 rfl trivial ?_ rfl
  simp only [Tryz.ntmps70, List.size_toArray, List.length_cons, List.length_nil, Nat.reduceAdd, Nat.reduceSub, Array.replicate_succ, Array.replicate_zero, List.push_toArray, List.append_toArray, List.nil_append, List.cons_append]
  gi_wp2
  gi_loopw [3] (fun i wr => ∃ k : Nat, k ≤ N ∧ i = .int .i64 ((8 * k : Nat) : Int) ∧ J (wds bs k) wr ∧ KS T W wr) (fun i _ => N - (intOf i).toNat / 8)
  case atStart => exact ⟨0, Nat.zero_le _, rfl, h0, KS.refl _ _⟩
  case round =>
    obtain ⟨wo, rfl⟩ : ∃ wo : World, wo = wr := ⟨_, rfl⟩
    obtain ⟨k, hk, rfl, hJs, hnx⟩ := hrel
    have hc1 : wo.cell? ⟨Bn, 0, none⟩ = some v := (hnx.cell (p := ⟨Bn, 0, none⟩) hBn).trans hc
    have hs1 := SL_ks hs hvb hnx
    obtain ⟨a, cap, rfl, q1, r1, hcc0⟩ := SL.form hs1
    by_cases hlt : k < N
    · have hyy := hY _ (wd bs (8 * k)) wo hJs (by rw [wds_length]; exact hlt)
      rw [Nat.mod_eq_of_lt (wd_lt HU.out _)] at hyy
      obtain ⟨fn, tmps, assign, body, hy, hR⟩ := hyy
      have hjl : 8 * k < bs.length := by have := HN.out; omega
      have hjl' : ((8 * k : Nat) : Int) < bs.length := by omega
      obtain ⟨g, off, rfl, hcc⟩ := hcc0 (by omega)
      clear hcc0
      have HY := Lib.hid (And.intro hy hR)
      have HCC := Lib.hid hcc
      have HJ := Lib.hid (And.intro hJs hs1)
      have HS := Lib.hid (wds_succ bs k)
      clear hy hR hcc hJs hs1 hY h0
      generalize hjj : 8 * k = jj at *
      have HJJ := Lib.hid hjj
      clear hjj
      gi_wp2
      gi_loopw [4, 5] (fun u i wr => ∃ r : Nat, r ≤ 8 ∧ jj + r ≤ bs.length ∧ i = .int .i64 (r : Int) ∧ u = .int .u64 ((leN ((bs.drop jj).take r) : Nat) : Int) ∧ wr = wo) (fun _ i _ => 8 - (intOf i).toNat)
      case atStart => exact ⟨0, by omega, by omega, rfl, rfl, rfl⟩
      case round =>
        obtain ⟨r, hr, hrl, rfl, rfl, hw⟩ := hrel
        obtain rfl : wo = wr := hw.symm
        by_cases hr8 : r < 8 ∧ jj + r < bs.length
        · obtain ⟨hr8, hrl2⟩ := hr8
          have hd := HCC.out (jj + r) _ (byts_get (List.getElem?_eq_getElem hrl2))
          have HT := Lib.hid (leN_take (j := jj) hr8 hrl2)
          have hxu := HU.out _ (List.getElem_mem hrl2)
          have HO := Lib.hid (or8 (acc := leN ((bs.drop jj).take r)) (k := r) hxu (by omega) (by
            have h := leN_lt _ (take_u8 HU.out jj r)
            have h2 : ((bs.drop jj).take r).length = r := by rw [List.length_take, List.length_drop]; omega
            rwa [h2] at h))
          have hr8' : (r : Int) < 8 := by omega
          have hrl2' : (jj : Int) + r < bs.length := by omega
          generalize leN ((bs.drop jj).take r) = A at *
          generalize bs[jj + r] = x at *
          obtain ⟨hx0, hx1⟩ := hxu
          gi_wp2
          refine ⟨⟨r + 1, by omega, by omega, by go_num, ?_, trivial⟩, by simp [intOf]; omega⟩
          rw [HO.out, HT.out]
        · have hr9 : ¬ (r : Int) < 8 ∨ ((r : Int) < 8 ∧ ¬ (jj : Int) + r < bs.length) := by omega
          have hwd : leN ((bs.drop jj).take r) = wd bs jj := by
            unfold wd
            congr 1
            by_cases h8 : r = 8
            · rw [h8]
            · rw [List.take_of_length_le (by rw [List.length_drop]; omega), List.take_of_length_le (by rw [List.length_drop]; omega)]
          rw [hwd]
          clear hwd
          obtain ⟨hy, hR⟩ := HY.out
          generalize hwv : wd bs jj = A at *
          have HWV := Lib.hid hwv
          clear hwv HY
          rcases hr9 with hr9 | ⟨hr9, hr10⟩
          all_goals
            gi_wp2
            refine hR.mono ?_
            rintro e W3 (⟨rfl, hJ3, hk3⟩ | ⟨rfl, hJx3⟩)
            · gi_wp2
              go_roundw
              case rel => exact ⟨k + 1, by omega, by congr 1; have := HJJ.out; omega, by rw [HS.out]; exact hJ3, hnx.trans hk3⟩
              case measure => simp [intOf]; have := HJJ.out; omega
            · gi_wp2
              refine bodyPost_ret (results_none rfl _ _ _) rfl ?_
              exact ⟨⟨_, rfl⟩, .inr ⟨_, ⟨_, wds_cut (show k + 1 ≤ N by omega) HS.out⟩, hJx3⟩⟩
    · obtain rfl : k = N := by omega
      have hge : ¬ ((8 * k : Nat) : Int) < bs.length := by have := HN.out; omega
      gi_wp2
      go_end0
      exact ⟨⟨_, rfl⟩, .inl hJs⟩
theorem words_stops (n : Nat) (hn : 1 ≤ n) (Bn : Nat) (T : List Nat) (v : Value) (bs : List Int) (hu : ∀ x ∈ bs, IsU8 x) (hl : bs.length ≤ 1000000000) (hBn : Bn ∈ T) (hvb : ∀ b, v.ownBlock = some b → b ∈ T) (w : World) (hT : ∀ k ∈ T, k < w.heap.size)
    (hc : w.cell? ⟨Bn, 0, none⟩ = some v) (hs : SL w 1 v bs.length (byts bs)) :
    SeqStopsK Fence.wide n Tryz.prog 70 #[.pointer (some ⟨Bn, 0, none⟩)] (fun x : Nat => #[Value.int .u64 ((x % 18446744073709551616 : Nat) : Int)]) (KS T) (fun ys => ys = wds bs (nw bs)) (fun pre => pre <+: wds bs (nw bs)) (nw bs) w := fun l J Jx W hW _ _ hY h0 => by
  have k := KS.of_below hW hT
  exact words1_in n hn l Bn T v bs hu hl hBn hvb J Jx hY W ((k.cell (p := ⟨Bn, 0, none⟩) hBn).trans hc) (SL_ks hs hvb k) h0
theorem wordsOf_calls {w : World} {a : Option Addr} {len cap : Nat} : Calls Tryz.prog 57 #[.slice a len cap] w fun e w' => e = .returned (.func (.func 70) #[] #[.pointer (some ⟨w.heap.size, 0, none⟩)]) ∧ w' = w.alloc (.cells #[.slice a len cap] 39) := by
  go_enter Tryz.func57, Tryz.ntmps57
  go_wp2_with fail
  go_ret
  exact ⟨rfl, rfl⟩
end Hash
end Go.Proofs.YtfkgpecglcjpkaaGreat
