/- Walks through the reference of package disk: Ops. Conditions: none. -/
import Derived.Test.YtnljjkmmnkldcaaDiskOp
import Derived.Test.YtnljjkmmnkldcaaDiskS
import Derived.Test.YtnljjkmmnkldcaaSame
set_option linter.unusedVariables false
set_option linter.unusedSimpArgs false
set_option linter.unusedSectionVars false
open Go.RowKit
namespace Go.Proofs.Ytnljjkmmnkldcaa
open L
namespace Disk
open Wire R01
attribute [-go_sem] sliced
/-- An operation being built in a box. -/
def OpBox (wo : World) (q : Nat) (w' : World) : Prop :=
  ∃ o vb vk, Blk w' q (opC o vb vk) 48 ∧ OpS wo o vb vk w' ∧ OpOk o ∧ (∀ g, vb.ownBlock = some g → g ≠ q) ∧ (∀ g, vk.ownBlock = some g → g ≠ q) ∧ Upd [] wo w'
theorem SL.uptoZ {w : World} {g cap : Nat} {xs : List Int} {m : Nat} (h : SL w 1 (.slice (some ⟨g, 0, none⟩) xs.length cap) xs.length (ints xs)) (hm : m ≤ xs.length) : SL w 1 (.slice (some ⟨g, 0, none⟩) m cap) (xs.take m).length (ints (xs.take m)) := by
  obtain ⟨h1, a, c, he, h2, h3, h4, h5⟩ := h
  cases he
  have hl : (xs.take m).length = m := by rw [List.length_take]; omega
  rw [hl]
  refine ⟨by rw [ints_length, hl]; omega, _, cap, rfl, by omega, h3, (fun h => by cases h), ?_⟩
  rcases h5 with h5 | ⟨b, o, hb, h5⟩
  · left; omega
  · cases hb
    refine .inr ⟨g, 0, rfl, fun j u hj => h5 j u ?_⟩
    have e : ints (xs.take m) = (ints xs).take m := by simp [ints, List.map_take]
    rw [e, List.getElem?_take] at hj
    split at hj
    · exact hj
    · cases hj
theorem sh_lo {x : Int} (h : IsI64 x) (v : Nat) : -9223372036854775808 ≤ x / 2 ^ v := by
  have hp : (1 : Int) ≤ 2 ^ v := Int.pow_pos (by omega)
  refine Int.le_ediv_of_mul_le (by omega) ?_
  have h1 := h.1
  have : (-9223372036854775808 : Int) * 2 ^ v ≤ -9223372036854775808 * 1 := Int.mul_le_mul_of_nonpos_left (by omega) hp
  omega
theorem sh_hi {x : Int} (h : IsI64 x) (v : Nat) : x / 2 ^ v ≤ 9223372036854775807 := by
  have hp : (1 : Int) ≤ 2 ^ v := Int.pow_pos (by omega)
  refine Int.ediv_le_of_le_mul (by omega) ?_
  have h1 := h.2
  have : (9223372036854775807 : Int) * 1 ≤ 9223372036854775807 * 2 ^ v := Int.mul_le_mul_of_nonneg_left hp (by omega)
  omega
section
variable {w w' : World}
set_option maxRecDepth 100000 in
set_option maxHeartbeats 16000000 in
theorem Ops_calls {v : Value} {xs : List Int} (h0 : SL w 1 v xs.length (ints xs)) (hx : ∀ x ∈ xs, IsI64 x) :
    Calls Try.prog 23 #[v] w fun e w' => ∃ v' ops, e = .returned v' ∧ OwnO w v' ops w' := by
  obtain ⟨hxl0, va, vc, rfl, hv1, hv2, hv3, hcell⟩ := h0
  have hxl : xs.length ≤ 9223372036854775807 := by unfold maxLen at hv2; omega
  have HX := Lib.hid (And.intro hcell hx)
  clear hcell hx hxl0 hv3
  go_enter Try.func23, Try.ntmps23
  go_wp2_with fail
  go_loopw [3, 4] (fun out i wr => ∃ (k : Nat) (ops : List OpD), i = .int .i64 k ∧ k ≤ 16 ∧ k ≤ xs.length ∧ ops.length = k ∧ OwnO w out ops wr) (fun _ i _ => 16 - (intOf i).toNat)
  case atStart => exact ⟨0, [], rfl, by omega, Nat.zero_le _, rfl, OwnO.nil w⟩
  case round =>
    obtain ⟨wo, rfl⟩ : ∃ wo : World, wo = wr := ⟨_, rfl⟩
    obtain ⟨k, ops, rfl, hk, hkl, hol, hO⟩ := hrel
    obtain ⟨cs0, hv0, _⟩ := id hO.ex
    obtain ⟨ao, co, rfl, _⟩ := hv0.sl.val
    have HO := Lib.hid (And.intro hO hol)
    have HU := Lib.hid hO.u
    clear hv0
    by_cases hlt : k < xs.length ∧ k < 16
    · obtain ⟨hl1, hl2⟩ := hlt
      have hl1i : (k : Int) < xs.length := by omega
      have hl2i : (k : Int) < 16 := by omega
      have hkx := List.getElem?_eq_getElem hl1
      have hxi := HX.out.2 _ (List.getElem_mem hl1)
      obtain ⟨ga, oa, rfl⟩ : ∃ g o, va = some ⟨g, o, none⟩ := by
        rcases HX.out.1 with h | ⟨g, o, h, _⟩
        · omega
        · exact ⟨g, o, h⟩
      have dk : w.cell? ⟨ga, oa + k, none⟩ = some (.int .i64 xs[k]) := by
        rcases HX.out.1 with h | ⟨g, o, he, h⟩
        · omega
        · cases he; exact h k _ (ints_get hkx)
      have d0 := HU.out.some dk (by simp)
      have HDK := Lib.hid dk
      have hgl := World.block_lt_of_cell? _ _ d0
      generalize xs[k] = x at *
      have hq64 := isI64_wrap (x.tdiv 16)
      have n0 := around_lo (n := wrap64 (x.tdiv 16)) (k := 4096) (by omega)
      have n1 := around_hi (n := wrap64 (x.tdiv 16)) (k := 4096) (by omega)
      have m0 := around_lo (n := x) (k := 16) (by omega)
      have m1 := around_hi (n := x) (k := 16) (by omega)
      have HA1 := Lib.hid (fun w : World => Around_calls (wrap64 (x.tdiv 16)) 4096 w hq64 (by omega) (by omega))
      have HA2 := Lib.hid (fun w : World => Around_calls x 16 w hxi (by omega) (by omega))
      obtain ⟨n, hn⟩ := Int.eq_ofNat_of_zero_le n0
      obtain ⟨m, hm⟩ := Int.eq_ofNat_of_zero_le m0
      rw [hn] at n1 HA1
      rw [hm] at m1 HA2
      have HXI := Lib.hid hxi
      clear hkx hxi dk hv2 n0 m0 hn hm hq64 hO
      go_upto_block 2 with (first | (go_at_call 12; (with_reducible refine (HA1.out _).mono ?_); rintro e _ ⟨rfl, rfl⟩) | (go_at_call 12; (with_reducible refine (HA2.out _).mono ?_); rintro e _ ⟨rfl, rfl⟩))
      have b2 : Blk (wo.alloc (.cells #[.int .i64 0, .int .i64 ((n : Int) % 3), .int .i64 0, .slice none 0 0, .slice none 0 0] 48)) wo.heap.size [.int .i64 0, .int .i64 ((n : Int) % 3), .int .i64 0, .slice none 0 0, .slice none 0 0] 48 := Blk.new wo _ _
      have u2 : Upd [] wo (wo.alloc (.cells #[.int .i64 0, .int .i64 ((n : Int) % 3), .int .i64 0, .slice none 0 0, .slice none 0 0] 48)) := (Upd.refl _ wo).alloc _
      have H2 := Lib.hid (And.intro b2 u2)
      clear HA1 HA2 b2 u2
      obtain ⟨q, hq⟩ : ∃ q, q = wo.heap.size := ⟨_, rfl⟩
      rw [← hq] at H2 ⊢
      have HQ := Lib.hid hq
      have hgq : ga ≠ q := by omega
      generalize wo.alloc (.cells #[.int .i64 0, .int .i64 ((n : Int) % 3), .int .i64 0, .slice none 0 0, .slice none 0 0] 48) = w2 at *
      clear hq hgl d0
      have n3 : (0 : Int) ≤ (n : Int) % 3 ∧ (n : Int) % 3 < 3 := by omega
      have hnil : SL w2 1 (.slice none 0 0) 0 [] := ⟨rfl, none, 0, rfl, Nat.le_refl _, Nat.zero_le _, fun _ => rfl, .inl rfl⟩
      have HNL := Lib.hid (fun (w' : World) (o : OpD) (h1 : o.b = []) (h2 : o.keep = []) => (⟨by rw [h1]; exact ⟨rfl, none, 0, rfl, Nat.le_refl _, Nat.zero_le _, fun _ => rfl, .inl rfl⟩, by rw [h2]; exact ⟨rfl, none, 0, rfl, Nat.le_refl _, Nat.zero_le _, fun _ => rfl, .inl rfl⟩, by simp [Value.ownBlock], by simp [Value.ownBlock]⟩ : OpS wo o (.slice none 0 0) (.slice none 0 0) w'))
      have e0 := H2.out.1.cell (i := 0) rfl
      have e1 := H2.out.1.cell (i := 1) rfl
      have e2 := H2.out.1.cell (i := 2) rfl
      have e3 := H2.out.1.cell (i := 3) rfl
      have e4 := H2.out.1.cell (i := 4) rfl
      have f0 := H2.out.1.free 0
      have f1 := H2.out.1.free 1
      have f2 := H2.out.1.free 2
      have f3 := H2.out.1.free 3
      have f4 := H2.out.1.free 4
      clear hnil
      go_cut [7] (fun _ w' => OpBox wo q w')
      case first =>
        rcases (show m = 0 ∨ m = 1 ∨ m = 2 ∨ m = 3 ∨ m = 4 ∨ m = 5 ∨ m = 6 ∨ 7 ≤ m by omega) with rfl | rfl | rfl | rfl | rfl | rfl | rfl | hm7
        · go_wp2_with fail
          go_meet
          case rel => exact ⟨⟨1, (n : Int) % 3, 0, [], []⟩, _, _, H2.out.1.set 0 (.int .i64 1), HNL.out _ _ rfl rfl, ⟨⟨by simp only; omega, by simp only; omega⟩, ⟨by simp only; omega, by simp only; omega⟩, ⟨by simp only; omega, by simp only; omega⟩, by simp, by simp, by simp, by simp⟩, by simp [Value.ownBlock], by simp [Value.ownBlock], (H2.out.2.set (.inr (by rw [HQ.out]; exact Nat.le_refl _)) _)⟩
        · go_wp2_with fail
          go_meet
          case rel => exact ⟨⟨1, (n : Int) % 3, 0, [], []⟩, _, _, H2.out.1.set 0 (.int .i64 1), HNL.out _ _ rfl rfl, ⟨⟨by simp only; omega, by simp only; omega⟩, ⟨by simp only; omega, by simp only; omega⟩, ⟨by simp only; omega, by simp only; omega⟩, by simp, by simp, by simp, by simp⟩, by simp [Value.ownBlock], by simp [Value.ownBlock], (H2.out.2.set (.inr (by rw [HQ.out]; exact Nat.le_refl _)) _)⟩
        · go_wp2_with fail
          go_meet
          case rel => exact ⟨⟨2, (n : Int) % 3, (n : Int) / 3 % 9 - 1, [], []⟩, _, _, (H2.out.1.set 0 (.int .i64 2)).set 2 (.int .i64 ((n : Int) / 3 % 9 - 1)), HNL.out _ _ rfl rfl, ⟨⟨by simp only; omega, by simp only; omega⟩, ⟨by simp only; omega, by simp only; omega⟩, ⟨by simp only; omega, by simp only; omega⟩, by simp, by simp, by simp, by simp⟩, by simp [Value.ownBlock], by simp [Value.ownBlock], (H2.out.2.set (.inr (by rw [HQ.out]; exact Nat.le_refl _)) _).set (.inr (by rw [HQ.out]; exact Nat.le_refl _)) _⟩
        · go_wp2_with fail
          go_meet
          case rel => exact ⟨⟨3, (n : Int) % 3, (n : Int) / 3 % 7 - 1, [], []⟩, _, _, (H2.out.1.set 0 (.int .i64 3)).set 2 (.int .i64 ((n : Int) / 3 % 7 - 1)), HNL.out _ _ rfl rfl, ⟨⟨by simp only; omega, by simp only; omega⟩, ⟨by simp only; omega, by simp only; omega⟩, ⟨by simp only; omega, by simp only; omega⟩, by simp, by simp, by simp, by simp⟩, by simp [Value.ownBlock], by simp [Value.ownBlock], (H2.out.2.set (.inr (by rw [HQ.out]; exact Nat.le_refl _)) _).set (.inr (by rw [HQ.out]; exact Nat.le_refl _)) _⟩
        · have hz3 : n / 125 % 4 ≤ 3 := by omega
          have hslz := sliced_pre (a := some ⟨w2.heap.size, 0, none⟩) (.inr ⟨w2.heap.size, 0, rfl⟩) (n / 125 % 4) 3
          have hqlt := H2.out.1.lt
          go_wp2_with fail
          go_meet
          case rel =>
            have hqw : q < w2.heap.size := H2.out.1.lt
            have uA : Upd [] wo ((((w2.setCell ⟨q, 0, none⟩ (.int .i64 4)).setCell ⟨q, 2, none⟩ (.int .i64 ((n : Int) / 4 % 40 - 4))).setCell ⟨q, 4, none⟩ (.slice (some ⟨w2.heap.size, 0, none⟩) 3 3)).setCell ⟨q, 4, none⟩ (.slice (some ⟨w2.heap.size, 0, none⟩) (n / 125 % 4) 3)) := (((H2.out.2.set (.inr (by rw [HQ.out]; exact Nat.le_refl _)) _).set (.inr (by rw [HQ.out]; exact Nat.le_refl _)) _).set (.inr (by rw [HQ.out]; exact Nat.le_refl _)) _).set (.inr (by rw [HQ.out]; exact Nat.le_refl _)) _
            have bA := (((H2.out.1.set 0 (.int .i64 4)).set 2 (.int .i64 ((n : Int) / 4 % 40 - 4))).set 4 (.slice (some ⟨w2.heap.size, 0, none⟩) 3 3)).set 4 (.slice (some ⟨w2.heap.size, 0, none⟩) (n / 125 % 4) 3)
            simp only [List.set_cons_zero, List.set_cons_succ] at bA
            have hsz : ((((w2.setCell ⟨q, 0, none⟩ (.int .i64 4)).setCell ⟨q, 2, none⟩ (.int .i64 ((n : Int) / 4 % 40 - 4))).setCell ⟨q, 4, none⟩ (.slice (some ⟨w2.heap.size, 0, none⟩) 3 3)).setCell ⟨q, 4, none⟩ (.slice (some ⟨w2.heap.size, 0, none⟩) (n / 125 % 4) 3)).heap.size = w2.heap.size := by simp [World.setCell]
            generalize (((w2.setCell ⟨q, 0, none⟩ (.int .i64 4)).setCell ⟨q, 2, none⟩ (.int .i64 ((n : Int) / 4 % 40 - 4))).setCell ⟨q, 4, none⟩ (.slice (some ⟨w2.heap.size, 0, none⟩) 3 3)).setCell ⟨q, 4, none⟩ (.slice (some ⟨w2.heap.size, 0, none⟩) (n / 125 % 4) 3) = wz at *
            have bK : Blk (wz.alloc (.cells #[.int .i64 ((n : Int) % 5 - 1), .int .i64 ((n : Int) / 5 % 5), .int .i64 ((n : Int) / 25 % 5)] 3)) wz.heap.size (ints [(n : Int) % 5 - 1, (n : Int) / 5 % 5, (n : Int) / 25 % 5]) 3 := Blk.new wz (ints [(n : Int) % 5 - 1, (n : Int) / 5 % 5, (n : Int) / 25 % 5]) 3
            have slK := (sl_ints bK (by simp))
            rw [hsz] at slK
            have slZ := SL.uptoZ slK (m := n / 125 % 4) (by simp; omega)
            have hwoq := H2.out.2.size
            refine ⟨⟨4, (n : Int) % 3, (n : Int) / 4 % 40 - 4, [], [(n : Int) % 5 - 1, (n : Int) / 5 % 5, (n : Int) / 25 % 5].take (n / 125 % 4)⟩, .slice none 0 0, .slice (some ⟨w2.heap.size, 0, none⟩) (n / 125 % 4) 3, bA.alloc _, ⟨⟨rfl, none, 0, rfl, Nat.le_refl _, Nat.zero_le _, fun _ => rfl, .inl rfl⟩, slZ, by simp [Value.ownBlock], fun g hg => ?_⟩, ⟨⟨by simp only; omega, by simp only; omega⟩, ⟨by simp only; omega, by simp only; omega⟩, ⟨by simp only; omega, by simp only; omega⟩, by simp, by simp, fun x hx => ?_, by simp only [List.length_take]; simp; omega⟩, by simp [Value.ownBlock], fun g hg => ?_, uA.alloc _⟩
            · simp only [Value.ownBlock, Option.some.injEq] at hg
              subst hg
              refine ⟨hwoq, by simp; omega⟩
            · have := List.mem_of_mem_take hx
              simp only [List.mem_cons, List.not_mem_nil, or_false] at this
              rcases this with rfl | rfl | rfl <;> exact ⟨by omega, by omega⟩
            · simp only [Value.ownBlock, Option.some.injEq] at hg
              omega
        · have hz3 : n / 125 % 4 ≤ 3 := by omega
          have hslz := sliced_pre (a := some ⟨w2.heap.size, 0, none⟩) (.inr ⟨w2.heap.size, 0, rfl⟩) (n / 125 % 4) 3
          have hqlt := H2.out.1.lt
          go_wp2_with fail
          go_meet
          case rel =>
            have hqw : q < w2.heap.size := H2.out.1.lt
            have uA : Upd [] wo ((((w2.setCell ⟨q, 0, none⟩ (.int .i64 4)).setCell ⟨q, 2, none⟩ (.int .i64 ((n : Int) / 4 % 40 - 4))).setCell ⟨q, 4, none⟩ (.slice (some ⟨w2.heap.size, 0, none⟩) 3 3)).setCell ⟨q, 4, none⟩ (.slice (some ⟨w2.heap.size, 0, none⟩) (n / 125 % 4) 3)) := (((H2.out.2.set (.inr (by rw [HQ.out]; exact Nat.le_refl _)) _).set (.inr (by rw [HQ.out]; exact Nat.le_refl _)) _).set (.inr (by rw [HQ.out]; exact Nat.le_refl _)) _).set (.inr (by rw [HQ.out]; exact Nat.le_refl _)) _
            have bA := (((H2.out.1.set 0 (.int .i64 4)).set 2 (.int .i64 ((n : Int) / 4 % 40 - 4))).set 4 (.slice (some ⟨w2.heap.size, 0, none⟩) 3 3)).set 4 (.slice (some ⟨w2.heap.size, 0, none⟩) (n / 125 % 4) 3)
            simp only [List.set_cons_zero, List.set_cons_succ] at bA
            have hsz : ((((w2.setCell ⟨q, 0, none⟩ (.int .i64 4)).setCell ⟨q, 2, none⟩ (.int .i64 ((n : Int) / 4 % 40 - 4))).setCell ⟨q, 4, none⟩ (.slice (some ⟨w2.heap.size, 0, none⟩) 3 3)).setCell ⟨q, 4, none⟩ (.slice (some ⟨w2.heap.size, 0, none⟩) (n / 125 % 4) 3)).heap.size = w2.heap.size := by simp [World.setCell]
            generalize (((w2.setCell ⟨q, 0, none⟩ (.int .i64 4)).setCell ⟨q, 2, none⟩ (.int .i64 ((n : Int) / 4 % 40 - 4))).setCell ⟨q, 4, none⟩ (.slice (some ⟨w2.heap.size, 0, none⟩) 3 3)).setCell ⟨q, 4, none⟩ (.slice (some ⟨w2.heap.size, 0, none⟩) (n / 125 % 4) 3) = wz at *
            have bK : Blk (wz.alloc (.cells #[.int .i64 ((n : Int) % 5 - 1), .int .i64 ((n : Int) / 5 % 5), .int .i64 ((n : Int) / 25 % 5)] 3)) wz.heap.size (ints [(n : Int) % 5 - 1, (n : Int) / 5 % 5, (n : Int) / 25 % 5]) 3 := Blk.new wz (ints [(n : Int) % 5 - 1, (n : Int) / 5 % 5, (n : Int) / 25 % 5]) 3
            have slK := (sl_ints bK (by simp))
            rw [hsz] at slK
            have slZ := SL.uptoZ slK (m := n / 125 % 4) (by simp; omega)
            have hwoq := H2.out.2.size
            refine ⟨⟨4, (n : Int) % 3, (n : Int) / 4 % 40 - 4, [], [(n : Int) % 5 - 1, (n : Int) / 5 % 5, (n : Int) / 25 % 5].take (n / 125 % 4)⟩, .slice none 0 0, .slice (some ⟨w2.heap.size, 0, none⟩) (n / 125 % 4) 3, bA.alloc _, ⟨⟨rfl, none, 0, rfl, Nat.le_refl _, Nat.zero_le _, fun _ => rfl, .inl rfl⟩, slZ, by simp [Value.ownBlock], fun g hg => ?_⟩, ⟨⟨by simp only; omega, by simp only; omega⟩, ⟨by simp only; omega, by simp only; omega⟩, ⟨by simp only; omega, by simp only; omega⟩, by simp, by simp, fun x hx => ?_, by simp only [List.length_take]; simp; omega⟩, by simp [Value.ownBlock], fun g hg => ?_, uA.alloc _⟩
            · simp only [Value.ownBlock, Option.some.injEq] at hg
              subst hg
              refine ⟨hwoq, by simp; omega⟩
            · have := List.mem_of_mem_take hx
              simp only [List.mem_cons, List.not_mem_nil, or_false] at this
              rcases this with rfl | rfl | rfl <;> exact ⟨by omega, by omega⟩
            · simp only [Value.ownBlock, Option.some.injEq] at hg
              omega
        · have hqlt := H2.out.1.lt
          go_wp2_with fail
          go_meet
          case rel =>
            have hqw : q < w2.heap.size := H2.out.1.lt
            have uA : Upd [] wo ((w2.setCell ⟨q, 1, none⟩ (.int .i64 ((n : Int) % 70 - 3))).setCell ⟨q, 3, none⟩ (.slice (some ⟨w2.heap.size, 0, none⟩) 1 1)) := (H2.out.2.set (.inr (by rw [HQ.out]; exact Nat.le_refl _)) _).set (.inr (by rw [HQ.out]; exact Nat.le_refl _)) _
            have bA := (H2.out.1.set 1 (.int .i64 ((n : Int) % 70 - 3))).set 3 (.slice (some ⟨w2.heap.size, 0, none⟩) 1 1)
            simp only [List.set_cons_zero, List.set_cons_succ] at bA
            have hsz : ((w2.setCell ⟨q, 1, none⟩ (.int .i64 ((n : Int) % 70 - 3))).setCell ⟨q, 3, none⟩ (.slice (some ⟨w2.heap.size, 0, none⟩) 1 1)).heap.size = w2.heap.size := by simp [World.setCell]
            generalize (w2.setCell ⟨q, 1, none⟩ (.int .i64 ((n : Int) % 70 - 3))).setCell ⟨q, 3, none⟩ (.slice (some ⟨w2.heap.size, 0, none⟩) 1 1) = wz at *
            have bK : Blk (wz.alloc (.cells #[.int .u8 1] 5)) wz.heap.size (byts [1]) 5 := Blk.new wz (byts [1]) 5
            have slK := (sl_bytes bK (by simp))
            rw [hsz] at slK
            have hwoq := H2.out.2.size
            refine ⟨⟨0, (n : Int) % 70 - 3, 0, [1], []⟩, .slice (some ⟨w2.heap.size, 0, none⟩) 1 1, .slice none 0 0, bA.alloc _, ⟨slK, ⟨rfl, none, 0, rfl, Nat.le_refl _, Nat.zero_le _, fun _ => rfl, .inl rfl⟩, fun g hg => ?_, by simp [Value.ownBlock]⟩, ⟨⟨by simp only; omega, by simp only; omega⟩, ⟨by simp only; omega, by simp only; omega⟩, ⟨by simp only; omega, by simp only; omega⟩, fun x hx => by simp at hx; subst hx; omega, by simp, by simp, by simp⟩, fun g hg => ?_, by simp [Value.ownBlock], uA.alloc _⟩
            · simp only [Value.ownBlock, Option.some.injEq] at hg
              subst hg
              refine ⟨hwoq, by simp; omega⟩
            · simp only [Value.ownBlock, Option.some.injEq] at hg
              omega
        · clear m1 e1 e2 e4 f1 f2 f4
          have hm0 : ((m : Int) == 0) = false := by simp; omega
          have hm1 : ((m : Int) == 1) = false := by simp; omega
          have hm2 : ((m : Int) == 2) = false := by simp; omega
          have hm3 : ((m : Int) == 3) = false := by simp; omega
          have hm4 : ((m : Int) == 4) = false := by simp; omega
          have hm5 : ((m : Int) == 5) = false := by simp; omega
          have hm6 : ((m : Int) == 6) = false := by simp; omega
          go_wp2_with fail
          clear e3 f0 f3 hm0 hm1 hm2 hm3 hm4 hm5 hm6 e0
          go_loopw [7] (fun i wr => ∃ (bs : List Int) (vb : Value), i = .int .i64 (bs.length : Nat) ∧ (bs.length : Int) ≤ n / 3 % 6 ∧ (∀ y ∈ bs, 0 ≤ y ∧ y ≤ 255) ∧ Blk wr q [.int .i64 0, .int .i64 ((n : Int) % 3), .int .i64 0, vb, .slice none 0 0] 48 ∧ OwnV w2 5 1 vb bs.length (byts bs) wr ∧ Upd [] wo wr ∧ w2.heap.size ≤ wr.heap.size) (fun i _ => 10 - (intOf i).toNat)
          case atStart => exact ⟨[], .slice none 0 0, rfl, by simp; omega, by simp, H2.out.1, OwnV.nil _ _ _ _, H2.out.2, Nat.le_refl _⟩
          case round =>
            obtain ⟨wi, rfl⟩ : ∃ wi : World, wi = wr := ⟨_, rfl⟩
            obtain ⟨bs, vb, rfl, hbl, hb8, hB, hO, hu, hz2⟩ := hrel
            obtain ⟨av, cv, rfl, _, _⟩ := hO.sl.val
            have d0 := (HU.out.step hu).some HDK.out (by simp)
            have e3 := hB.cell (i := 3) rfl
            have f3 := hB.free 3
            have hql := hB.lt
            have hq2 := H2.out.1.lt
            have B := Lib.hid (And.intro hB (And.intro hO (And.intro hu hb8)))
            clear hB hO hu hb8
            by_cases hlb : (bs.length : Int) < n / 3 % 6
            · have hb4 : bs.length ≤ 4 := by omega
              have hq0 := sh_lo HXI.out bs.length
              have hq1 := sh_hi HXI.out bs.length
              go_upto_region 11 with fail
              refine wp_region_ord 11 4 [0, 1, 2, 3, 4, 5, 6, 7, 8, 9, 12] [1, 5] [0, 1, 2, 3, 4, 5, 6, 7, 8, 9, 10, 11, 12, 13] (fun w' => ∃ x : Ext wi, w' = x.val) (by kernel_rfl) (by kernel_rfl) (Ext.of (by iterate 25 (first | exact Upd.refl _ _ | assumption | refine Upd.alloc ?_ _ | refine Upd.drew ?_ | refine Upd.drewN ?_ _ | refine Upd.dl ?_ | refine Upd.step ?_ (Ext.upd _) | refine Upd.nil ?_ | skip))) ?_
              repeat (first | (refine wpOrd_load rfl rfl rfl rfl (fun K hK => ?_); go_big_quiet_step (fail); refine wpQuiet_nil ?_; refine hK _ ?_; clear hK K) | (refine wpOrd_free rfl rfl rfl (fun K hK => ?_); go_big_quiet_step (fail); refine wpQuiet_nil ?_; refine hK _ ?_; clear hK K))
              refine wpOrd_fix rfl rfl (fun K hK => ?_)
              go_wp2_with fail
              refine ⟨fun _ => Ext.of (by iterate 25 (first | exact Upd.refl _ _ | assumption | refine Upd.alloc ?_ _ | refine Upd.drew ?_ | refine Upd.drewN ?_ _ | refine Upd.dl ?_ | refine Upd.step ?_ (Ext.upd _) | refine Upd.nil ?_ | skip)), ?_⟩
              repeat (first | (refine wpOrd_load rfl rfl rfl rfl (fun K hK => ?_); go_big_quiet_step (fail); refine wpQuiet_nil ?_; refine hK _ ?_; clear hK K) | (refine wpOrd_free rfl rfl rfl (fun K hK => ?_); go_big_quiet_step (fail); refine wpQuiet_nil ?_; refine hK _ ?_; clear hK K))
              refine wpOrd_fix rfl rfl (fun K hK => ?_)
              have hy0 : 0 ≤ x / 2 ^ bs.length % 256 ∧ x / 2 ^ bs.length % 256 ≤ 255 := by omega
              generalize x / 2 ^ bs.length % 256 = y at *
              have hBn := (Blk.new wi [.int .u8 y] 5).drew
              have hun : Upd [] wi ((wi.alloc (.cells #[.int .u8 y] 5)).drew) := ((Upd.refl [] wi).alloc _).drew
              have hOn := B.out.2.1.upd hun (by simp)
              have B2 := Lib.hid (And.intro (B.out.1.upd hun (by simp)) (And.intro hOn (And.intro (B.out.2.2.1.step hun) hun.size)))
              have BN := Lib.hid hBn
              clear hOn hBn hun d0 e3 f3
              refine wpList_app rfl _ _ _ rfl 5 1 1 _ Try.underlying27 infoByte rfl (by decide) (.slice av bs.length cv) _ _ rfl B2.out.2.1.row _ 1 1 [.int .u8 y] 5 rfl rfl BN.out (byts_one [y]) (by omega) (by unfold maxLen; omega) (by omega) ?_
              intro g7 cap7 w7 o7 u7 k7
              go_wp2_with fail
              simp only [Act.put, List.setIfInBounds_toArray, List.set_cons_zero, List.set_cons_succ]
              refine ⟨fun hC => absurd hC (by decide), ?_⟩
              repeat (first | (refine wpOrd_load rfl rfl rfl rfl (fun K hK => ?_); go_big_quiet_step (fail); refine wpQuiet_nil ?_; refine hK _ ?_; clear hK K) | (refine wpOrd_free rfl rfl rfl (fun K hK => ?_); go_big_quiet_step (fail); refine wpQuiet_nil ?_; refine hK _ ?_; clear hK K))
              have hqn : q ∉ (Value.slice av bs.length cv).ownBlock.toList := fun hm => by
                have h1 := B2.out.2.1.fresh q (by simpa using hm)
                omega
              have hz7 := Nat.le_trans hz2 (Nat.le_trans B2.out.2.2.2 u7.size)
              have N := B2.out.2.1.push (Nat.le_trans hz2 B2.out.2.2.2) o7 (k7.elim .inl (fun h => .inr (Nat.le_of_eq h.symm)))
              have U7 := B2.out.2.2.1.fresh u7 (fun b hb => .inr (by have h1 := B2.out.2.1.fresh b (by simpa using hb); have h3 := H2.out.2.size; omega))
              have b7 := B2.out.1.upd u7 hqn
              have HN := Lib.hid (And.intro N (And.intro U7 b7))
              have hqg : q ≠ g7 := by
                rcases k7 with k7 | k7
                · exact fun e => hqn (by rw [e]; simpa using k7)
                · have := B2.out.2.2.2; omega
              clear N U7 o7 u7 k7 hqn
              have e3 := b7.cell (i := 3) rfl
              have f3 := b7.free 3
              clear b7
              refine wpOrd_fix rfl rfl (fun K hK => ?_)
              go_wp2_with fail
              refine ⟨fun hC => absurd hC (by decide), ?_⟩
              refine wpOrd_nil ?_
              have M3 := HN.out.2.2.set 3 (.slice (some ⟨g7, 0, none⟩) (bs.length + 1) cap7)
              simp only [List.set_cons_zero, List.set_cons_succ] at M3
              have U3 := HN.out.2.1.set (p := ⟨q, 3, none⟩) (.inr (by rw [HQ.out]; exact Nat.le_refl _)) (.slice (some ⟨g7, 0, none⟩) (bs.length + 1) cap7)
              have O3 := HN.out.1.upd ((Upd.refl [q] w7).set (p := ⟨q, 3, none⟩) (.inl (by simp)) (.slice (some ⟨g7, 0, none⟩) (bs.length + 1) cap7)) (fun b hb e => by simp only [List.mem_singleton] at hb; simp only [Value.ownBlock, Option.some.injEq] at e; omega)
              have hz8 := Nat.le_trans hz7 ((Upd.refl [q] w7).set (p := ⟨q, 3, none⟩) (.inl (by simp)) (.slice (some ⟨g7, 0, none⟩) (bs.length + 1) cap7)).size
              have H3 := Lib.hid (And.intro M3 (And.intro U3 O3))
              clear M3 U3 O3 HN e3 f3
              generalize w7.setCell ⟨q, 3, none⟩ (.slice (some ⟨g7, 0, none⟩) (bs.length + 1) cap7) = w8 at *
              go_wp2_with fail
              refine ⟨⟨bs ++ [y], _, by rw [List.length_append, List.length_singleton]; go_num, by rw [List.length_append, List.length_singleton]; omega, fun z hz => ?_, H3.out.1, by rw [List.length_append, List.length_singleton, byts_append]; exact H3.out.2.2, H3.out.2.1, hz8⟩, by simp [intOf]; omega⟩
              rcases List.mem_append.1 hz with hz | hz
              · exact B.out.2.2.2 z hz
              · simp only [List.mem_singleton] at hz
                subst hz
                exact hy0
            · go_wp2_with fail
              go_meet
              case rel =>
                refine ⟨⟨0, (n : Int) % 3, 0, bs, []⟩, .slice av bs.length cv, .slice none 0 0, B.out.1, ⟨B.out.2.1.sl, ⟨rfl, none, 0, rfl, Nat.le_refl _, Nat.zero_le _, fun _ => rfl, .inl rfl⟩, fun g hg => ?_, by simp [Value.ownBlock]⟩, ⟨⟨by simp only; omega, by simp only; omega⟩, ⟨by simp only; omega, by simp only; omega⟩, ⟨by simp only; omega, by simp only; omega⟩, B.out.2.2.2, by simp only; omega, by simp, by simp⟩, fun g hg => ?_, by simp [Value.ownBlock], B.out.2.2.1⟩
                · have h1 := B.out.2.1.fresh g hg
                  have h2 := B.out.2.1.lt g hg
                  have h3 := H2.out.2.size
                  exact ⟨by omega, h2⟩
                · have h1 := B.out.2.1.fresh g hg
                  omega
      case rest =>
        obtain ⟨o, vb, vk, bq, os, ok, hbq, hkq, uc⟩ := hcut
        clear e0 e1 e2 e3 e4 f0 f1 f2 f3 f4 H2 HNL
        obtain ⟨ab, cb, rfl, _⟩ := os.b.val
        obtain ⟨ak, ck, rfl, _⟩ := os.k.val
        have e0 := bq.cell (i := 0) rfl
        have e1 := bq.cell (i := 1) rfl
        have e2 := bq.cell (i := 2) rfl
        have e3 := bq.cell (i := 3) rfl
        have e4 := bq.cell (i := 4) rfl
        have hOc := HO.out.1.quiet uc
        obtain ⟨cs, h1, h2⟩ := hOc.ex
        have HW := Lib.hid (And.intro h1 (And.intro h2 (And.intro hOc (And.intro (os.base HU.out.size) (And.intro ok os)))))
        have hol16 : ops.length < 16 := by omega
        obtain ⟨csz, hz1, _⟩ := HO.out.1.ex
        have HVB := Lib.hid (show ∀ g, (Value.slice ab o.b.length cb).ownBlock = some g → (Value.slice ao ops.length co).ownBlock ≠ some g from fun g hg e => by have h := (os.bn g hg).1; have h2 := hz1.lt g e; omega)
        have HVK := Lib.hid (show ∀ g, (Value.slice ak o.keep.length ck).ownBlock = some g → (Value.slice ao ops.length co).ownBlock ≠ some g from fun g hg e => by have h := (os.kn g hg).1; have h2 := hz1.lt g e; omega)
        clear h1 h2 hOc os ok uc bq hbq hkq hz1
        go_wp2_with (refine wpList_push rfl rfl _ _ _ _ rfl rfl rfl 48 5 72 _ Try.underlying44 infoOp rfl (by decide) (by decide) (.agg #[.int .i64 o.kind, .int .i64 o.file, .int .i64 o.n, .slice ab o.b.length cb, .slice ak o.keep.length ck]) (opC o (.slice ab o.b.length cb) (.slice ak o.keep.length ck)) rfl rfl rfl (by simp [opC, Value.oneCell']) (.slice ao ops.length co) _ _ HW.out.1.row (by rw [hol]; rfl) rfl (by unfold maxLen; omega) (by omega) ?_; intro g7 cap7 w7 o7 u7 k7)
        have N := OwnO.push HW.out.1 HW.out.2.1 HO.out.1.ok HW.out.2.2.1.u HW.out.2.2.2.1 HW.out.2.2.2.2.1 HVB.out HVK.out o7 u7 k7
        refine ⟨⟨k + 1, ops ++ [o], by go_num, by omega, by omega, by simp; omega, by rw [← hol]; exact N⟩, by simp [intOf]; omega⟩
    · have HE := Lib.hid (show OwnO w (.slice ao k co) ops wo by rw [← hol]; exact HO.out.1)
      by_cases h1 : k < xs.length
      · have h1i : (k : Int) < xs.length := by omega
        have h2 : k = 16 := by omega
        subst h2
        clear hlt
        go_wp2_with fail
        go_ret
        exact ⟨.slice ao 16 co, ops, rfl, HE.out⟩
      · have h1i : ¬ (k : Int) < xs.length := by omega
        clear hlt
        go_wp2_with fail
        go_ret
        first | exact ⟨.slice ao k co, ops, rfl, HE.out⟩ | exact ⟨.slice ao k co, rfl, ops, HE.out⟩
end
end Disk
end Go.Proofs.Ytnljjkmmnkldcaa
