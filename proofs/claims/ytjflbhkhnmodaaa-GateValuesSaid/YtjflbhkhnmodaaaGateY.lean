/- Walks through the reference of gates: Value. Conditions: none. -/
import Derived.Test.YtjflbhkhnmodaaaGateV
set_option linter.unusedVariables false
set_option linter.unusedSimpArgs false
set_option linter.unusedSectionVars false
open Go.RowKit
namespace Go.Proofs.Ytjflbhkhnmodaaa
open L
namespace Gate
open R14
def bi (b : Bool) : Int := if b = true then 1 else 0
def bis (bs : List Bool) : List Int := bs.map bi
theorem bi_01 (b : Bool) : bi b = 0 ∨ bi b = 1 := by cases b <;> decide
/-- The number that the inputs make, the first j of them. -/
def numB (bs : List Bool) (j : Nat) : Int := (if 0 < j then bi (bt bs 0) else 0) + (if 1 < j then 2 * bi (bt bs 1) else 0) + (if 2 < j then 4 * bi (bt bs 2) else 0)
theorem bis_get {bs : List Bool} {j : Nat} (h : j < bs.length) : (ints (bis bs))[j]? = some (.int .i64 (bi (bt bs j))) := by
  refine ints_get ?_
  unfold bis bt
  rw [List.getElem?_map, List.getD_eq_getElem?_getD, List.getElem?_eq_getElem h]
  rfl
def tabs : List Value := [.string ⟨#[48, 49]⟩, .string ⟨#[48, 48, 48, 49]⟩, .string ⟨#[48, 49, 49, 49]⟩, .string ⟨#[48, 49, 49, 48]⟩, .string ⟨#[48, 48, 48, 49, 49, 48, 49, 49]⟩, .string ⟨#[48, 49, 49, 48, 49, 48, 48, 49]⟩, .string ⟨#[48, 48, 48, 49, 48, 49, 49, 49]⟩]
theorem numB_lo (bs : List Bool) (j : Nat) : 0 ≤ numB bs j ∧ numB bs j ≤ 7 := by
  have h0 := bi_01 (bt bs 0)
  have h1 := bi_01 (bt bs 1)
  have h2 := bi_01 (bt bs 2)
  unfold numB
  split <;> split <;> split <;> omega
section
variable {w : World}
set_option maxRecDepth 100000 in
set_option maxHeartbeats 8000000 in
theorem RVal_calls {v : Value} {k : Int} {bs : List Bool} (h : SL w 1 v bs.length (ints (bis bs))) (h0 : 0 ≤ k) (h6 : k ≤ 6) (hn : bs.length = ninp k) :
    Calls Try.prog 6 #[.int .i64 k, v] w fun e w' => e = .returned (.int .i64 (bi (gVal k bs))) ∧ Upd [] w w' := by
  have hn3 := ninp_le k
  have hl3 : bs.length ≤ 3 := by omega
  obtain ⟨a, cap, rfl, q1, r1, hc⟩ := SL.elems h
  have HC := Lib.hid (And.intro hc hn)
  clear h hc hn hn3
  go_enter Try.func6, Try.ntmps6
  go_upto_region 2 with fail
  have NB : Blk (w.alloc (.cells #[.string ⟨#[48, 49]⟩, .string ⟨#[48, 48, 48, 49]⟩, .string ⟨#[48, 49, 49, 49]⟩, .string ⟨#[48, 49, 49, 48]⟩, .string ⟨#[48, 48, 48, 49, 49, 48, 49, 49]⟩, .string ⟨#[48, 49, 49, 48, 49, 48, 48, 49]⟩, .string ⟨#[48, 48, 48, 49, 48, 49, 49, 49]⟩] 9)) w.heap.size tabs 9 := Blk.new w tabs 9
  have U1 : Upd [] w (w.alloc (.cells #[.string ⟨#[48, 49]⟩, .string ⟨#[48, 48, 48, 49]⟩, .string ⟨#[48, 49, 49, 49]⟩, .string ⟨#[48, 49, 49, 48]⟩, .string ⟨#[48, 48, 48, 49, 49, 48, 49, 49]⟩, .string ⟨#[48, 49, 49, 48, 49, 48, 48, 49]⟩, .string ⟨#[48, 48, 48, 49, 48, 49, 49, 49]⟩] 9)) := (Upd.refl [] w).alloc (.cells tabs.toArray 9)
  generalize w.alloc (.cells #[.string ⟨#[48, 49]⟩, .string ⟨#[48, 48, 48, 49]⟩, .string ⟨#[48, 49, 49, 49]⟩, .string ⟨#[48, 49, 49, 48]⟩, .string ⟨#[48, 48, 48, 49, 49, 48, 49, 49]⟩, .string ⟨#[48, 49, 49, 48, 49, 48, 48, 49]⟩, .string ⟨#[48, 48, 48, 49, 48, 49, 49, 49]⟩] 9) = w1 at *
  generalize w.heap.size = g1 at *
  have H1 := Lib.hid (And.intro NB U1)
  clear NB U1
  go_wp2_with fail
  go_loopw [6, 7] (fun nv i wr => ∃ j : Nat, i = .int .i64 j ∧ j ≤ bs.length ∧ nv = .int .i64 (numB bs j) ∧ wr = w1) (fun _ i _ => bs.length - (intOf i).toNat)
  case atStart => exact ⟨0, rfl, Nat.zero_le _, rfl, rfl⟩
  case round =>
    obtain ⟨j, rfl, hj, rfl, rfl⟩ := hrel
    by_cases hlt : j < bs.length
    · obtain ⟨g, off, rfl, k1⟩ := HC.out.1 (by omega)
      have e0 := H1.out.2.some (k1 j _ (bis_get hlt)) (by simp)
      have hb := bi_01 (bt bs j)
      have hnb := numB_lo bs j
      have HS : Hid (numB bs (j + 1) = numB bs j + bi (bt bs j) * 2 ^ j) := by
        unfold Hid numB
        rcases (by omega : j = 0 ∨ j = 1 ∨ j = 2) with rfl | rfl | rfl <;> simp <;> omega
      clear k1
      generalize bi (bt bs j) = y at *
      obtain ⟨hnb1, hnb2⟩ := hnb
      have hy0 : 0 ≤ y := by omega
      have hy1 : y ≤ 1 := by omega
      clear hb
      have hs1 : 0 ≤ y * 2 ^ j := by rcases (by omega : j = 0 ∨ j = 1 ∨ j = 2) with rfl | rfl | rfl <;> simp <;> omega
      have hs2 : y * 2 ^ j ≤ 4 := by rcases (by omega : j = 0 ∨ j = 1 ∨ j = 2) with rfl | rfl | rfl <;> simp <;> omega
      generalize numB bs j = nb at *
      go_wp2_with fail
      exact ⟨⟨j + 1, by go_num, by omega, by rw [HS.out], by first | rfl | trivial⟩, by simp [intOf]; omega⟩
    · have hje : j = bs.length := by omega
      subst hje
      obtain ⟨q, hq⟩ : ∃ q, q = numB bs bs.length := ⟨_, rfl⟩
      rw [← hq]
      have HQ := Lib.hid hq
      clear hq
      have hbn := HC.out.2
      rcases (by omega : k = 0 ∨ k = 1 ∨ k = 2 ∨ k = 3 ∨ k = 4 ∨ k = 5 ∨ k = 6) with rfl | rfl | rfl | rfl | rfl | rfl | rfl
      · obtain ⟨a, rfl⟩ : ∃ a, bs = [a] := by
          match bs, hbn with
          | [a], _ => exact ⟨a, rfl⟩
        clear hbn
        have ek := H1.out.1.cell (i := 0) rfl
        cases a
        all_goals
          (first | (obtain rfl : q = 0 := HQ.out) | (obtain rfl : q = 1 := HQ.out) | (obtain rfl : q = 2 := HQ.out) | (obtain rfl : q = 3 := HQ.out) | (obtain rfl : q = 4 := HQ.out) | (obtain rfl : q = 5 := HQ.out) | (obtain rfl : q = 6 := HQ.out) | (obtain rfl : q = 7 := HQ.out))
          go_wp2_with fail
          go_ret
          exact ⟨rfl, H1.out.2⟩
      · obtain ⟨a, b, rfl⟩ : ∃ a b, bs = [a, b] := by
          match bs, hbn with
          | [a, b], _ => exact ⟨a, b, rfl⟩
        clear hbn
        have ek := H1.out.1.cell (i := 1) rfl
        cases a <;> cases b
        all_goals
          (first | (obtain rfl : q = 0 := HQ.out) | (obtain rfl : q = 1 := HQ.out) | (obtain rfl : q = 2 := HQ.out) | (obtain rfl : q = 3 := HQ.out) | (obtain rfl : q = 4 := HQ.out) | (obtain rfl : q = 5 := HQ.out) | (obtain rfl : q = 6 := HQ.out) | (obtain rfl : q = 7 := HQ.out))
          go_wp2_with fail
          go_ret
          exact ⟨rfl, H1.out.2⟩
      · obtain ⟨a, b, rfl⟩ : ∃ a b, bs = [a, b] := by
          match bs, hbn with
          | [a, b], _ => exact ⟨a, b, rfl⟩
        clear hbn
        have ek := H1.out.1.cell (i := 2) rfl
        cases a <;> cases b
        all_goals
          (first | (obtain rfl : q = 0 := HQ.out) | (obtain rfl : q = 1 := HQ.out) | (obtain rfl : q = 2 := HQ.out) | (obtain rfl : q = 3 := HQ.out) | (obtain rfl : q = 4 := HQ.out) | (obtain rfl : q = 5 := HQ.out) | (obtain rfl : q = 6 := HQ.out) | (obtain rfl : q = 7 := HQ.out))
          go_wp2_with fail
          go_ret
          exact ⟨rfl, H1.out.2⟩
      · obtain ⟨a, b, rfl⟩ : ∃ a b, bs = [a, b] := by
          match bs, hbn with
          | [a, b], _ => exact ⟨a, b, rfl⟩
        clear hbn
        have ek := H1.out.1.cell (i := 3) rfl
        cases a <;> cases b
        all_goals
          (first | (obtain rfl : q = 0 := HQ.out) | (obtain rfl : q = 1 := HQ.out) | (obtain rfl : q = 2 := HQ.out) | (obtain rfl : q = 3 := HQ.out) | (obtain rfl : q = 4 := HQ.out) | (obtain rfl : q = 5 := HQ.out) | (obtain rfl : q = 6 := HQ.out) | (obtain rfl : q = 7 := HQ.out))
          go_wp2_with fail
          go_ret
          exact ⟨rfl, H1.out.2⟩
      · obtain ⟨a, b, c, rfl⟩ : ∃ a b c, bs = [a, b, c] := by
          match bs, hbn with
          | [a, b, c], _ => exact ⟨a, b, c, rfl⟩
        clear hbn
        have ek := H1.out.1.cell (i := 4) rfl
        obtain ⟨g, off, rfl, k1⟩ := HC.out.1 (by simp)
        have e0 : wr.cell? ⟨g, off, none⟩ = some (.int .i64 (bi a)) := H1.out.2.some (k1 0 _ rfl) (by simp)
        have e1 : wr.cell? ⟨g, off + 1, none⟩ = some (.int .i64 (bi b)) := H1.out.2.some (k1 1 _ rfl) (by simp)
        have e2 : wr.cell? ⟨g, off + 2, none⟩ = some (.int .i64 (bi c)) := H1.out.2.some (k1 2 _ rfl) (by simp)
        obtain ⟨y0, hy0⟩ : ∃ y, y = bi a := ⟨_, rfl⟩
        obtain ⟨y1, hy1⟩ : ∃ y, y = bi b := ⟨_, rfl⟩
        obtain ⟨y2, hy2⟩ : ∃ y, y = bi c := ⟨_, rfl⟩
        rw [← hy0] at e0
        rw [← hy1] at e1
        rw [← hy2] at e2
        have HY := Lib.hid (And.intro hy0 (And.intro hy1 hy2))
        clear hy0 hy1 hy2 k1 ek
        cases a <;> cases b <;> cases c
        all_goals
          (first | (obtain rfl : q = 0 := HQ.out) | (obtain rfl : q = 1 := HQ.out) | (obtain rfl : q = 2 := HQ.out) | (obtain rfl : q = 3 := HQ.out) | (obtain rfl : q = 4 := HQ.out) | (obtain rfl : q = 5 := HQ.out) | (obtain rfl : q = 6 := HQ.out) | (obtain rfl : q = 7 := HQ.out))
          (first | (obtain rfl : y0 = 0 := HY.out.1) | (obtain rfl : y0 = 1 := HY.out.1))
          (first | (obtain rfl : y1 = 0 := HY.out.2.1) | (obtain rfl : y1 = 1 := HY.out.2.1))
          (first | (obtain rfl : y2 = 0 := HY.out.2.2) | (obtain rfl : y2 = 1 := HY.out.2.2))
          go_wp2_with fail
          refine wp_region_qx (by kernel_rfl) (by kernel_rfl) ?_
          repeat (go_big_quiet_step ((fail)))
          refine wpQuiet_nil ?_
          intro x
          go_wp2_with fail
          go_ret
          exact ⟨rfl, (H1.out.2.step x.upd).alloc _⟩
      · obtain ⟨a, b, c, rfl⟩ : ∃ a b c, bs = [a, b, c] := by
          match bs, hbn with
          | [a, b, c], _ => exact ⟨a, b, c, rfl⟩
        clear hbn
        have ek := H1.out.1.cell (i := 5) rfl
        cases a <;> cases b <;> cases c
        all_goals
          (first | (obtain rfl : q = 0 := HQ.out) | (obtain rfl : q = 1 := HQ.out) | (obtain rfl : q = 2 := HQ.out) | (obtain rfl : q = 3 := HQ.out) | (obtain rfl : q = 4 := HQ.out) | (obtain rfl : q = 5 := HQ.out) | (obtain rfl : q = 6 := HQ.out) | (obtain rfl : q = 7 := HQ.out))
          go_wp2_with fail
          go_ret
          exact ⟨rfl, H1.out.2⟩
      · obtain ⟨a, b, c, rfl⟩ : ∃ a b c, bs = [a, b, c] := by
          match bs, hbn with
          | [a, b, c], _ => exact ⟨a, b, c, rfl⟩
        clear hbn
        have ek := H1.out.1.cell (i := 6) rfl
        cases a <;> cases b <;> cases c
        all_goals
          (first | (obtain rfl : q = 0 := HQ.out) | (obtain rfl : q = 1 := HQ.out) | (obtain rfl : q = 2 := HQ.out) | (obtain rfl : q = 3 := HQ.out) | (obtain rfl : q = 4 := HQ.out) | (obtain rfl : q = 5 := HQ.out) | (obtain rfl : q = 6 := HQ.out) | (obtain rfl : q = 7 := HQ.out))
          go_wp2_with fail
          go_ret
          exact ⟨rfl, H1.out.2⟩
end
end Gate
end Go.Proofs.Ytjflbhkhnmodaaa
