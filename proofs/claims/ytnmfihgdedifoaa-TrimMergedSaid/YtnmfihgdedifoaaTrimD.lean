/- Walks through the reference of package trim: names. Conditions: none. -/
import Derived.Test.YtnmfihgdedifoaaTrimA
set_option linter.unusedVariables false
set_option linter.unusedSimpArgs false
set_option linter.unusedSectionVars false
open Go.RowKit
namespace Go.Proofs.Ytnmfihgdedifoaa
open L
namespace Trim
def strs (l : List ByteArray) : List Value := l.map Value.string
theorem strs_length (l : List ByteArray) : (strs l).length = l.length := by simp [strs]
theorem strs_get {l : List ByteArray} {i : Nat} {x : ByteArray} (h : l[i]? = some x) : (strs l)[i]? = some (.string x) := by simp [strs, h]
theorem infoStr : (Try.prog.info? 9).map (fun i => (i.zero, i.size, i.bytes)) = some (some (.string ⟨#[]⟩), 1, 16) := by kernel_rfl
/-- A list of names whose block is known whole. -/
def NmL (w : World) (v : Value) (l : List ByteArray) : Prop := w.ownsRow 0 9 1 v l.length (strs l)
section
variable {w w' : World} {v v2 : Value}
theorem NmL.ext {l : List ByteArray} (h : NmL w v l) (u : Upd [] w w') : NmL w' v l := ownsRow_updL h u (by simp)
theorem NmL.cells {xs : List ByteArray} (h : NmL w v xs) : ∃ a cap, v = .slice a xs.length cap ∧ xs.length ≤ cap ∧ cap ≤ 9223372036854775807 ∧ ∀ (k : Nat) (x : ByteArray), xs[k]? = some x → ∃ g, a = some ⟨g, 0, none⟩ ∧ w.cell? ⟨g, k, none⟩ = some (.string x) := by
  obtain ⟨_, a, cap, rfl, q, r, _, hc⟩ := SL.of_owns h
  unfold maxLen at r
  refine ⟨a, cap, rfl, q, by omega, fun k x hx => ?_⟩
  have hl := (List.getElem?_eq_some_iff.1 hx).1
  rcases h.2 with ⟨h0, hn⟩ | ⟨g, cap', cur, hv, _, _⟩
  · omega
  · cases hv
    rcases hc with hz | ⟨b, off, hb, hcell⟩
    · omega
    · cases hb
      have := hcell k _ (strs_get hx)
      rw [Nat.zero_add] at this
      exact ⟨g, rfl, this⟩
theorem tl_eq {x s : ByteArray} : x.toList = s.toList ↔ x = s := by
  constructor
  · intro h
    rw [ByteArray.toList_eq, ByteArray.toList_eq] at h
    exact ByteArray.ext (Array.toList_inj.1 h)
  · rintro rfl; rfl
theorem tl_ne {x s : ByteArray} (h : x ≠ s) : (x.toList == s.toList) = false := beq_eq_false_iff_ne.2 (fun e => h (tl_eq.1 e))
theorem tl_refl (x : ByteArray) : (x.toList == x.toList) = true := by simp
def hasN (l : List ByteArray) (s : ByteArray) : Bool := l.any fun x => x.toList == s.toList
theorem hasN_iff {l : List ByteArray} {s : ByteArray} : hasN l s = true ↔ s ∈ l := by
  unfold hasN
  rw [List.any_eq_true]
  constructor
  · rintro ⟨x, hx, h⟩
    have := tl_eq.1 (by simpa using h)
    exact this ▸ hx
  · intro h; exact ⟨s, h, tl_refl s⟩
theorem hasN_no {l : List ByteArray} {s : ByteArray} (h : s ∉ l) : hasN l s = false := by
  cases e : hasN l s with
  | false => rfl
  | true => exact absurd (hasN_iff.1 e) h
theorem has_calls {l : List ByteArray} (h : NmL w v l) (s : ByteArray) : Calls Try.prog 26 #[v, .string s] w fun e w' => e = .returned (.bool (hasN l s)) ∧ w = w' := by
  obtain ⟨a, cap, rfl, q, r, hc⟩ := h.cells
  have HC := Lib.hid hc
  clear h hc
  go_enter Try.func26, Try.ntmps26
  go_wp2_with fail
  go_loop [5] (fun i => ∃ k : Nat, i = .int .i64 k ∧ k ≤ l.length ∧ s ∉ l.take k) (fun i => l.length - (intOf i).toNat)
  case atStart => exact ⟨0, rfl, Nat.zero_le _, by simp⟩
  case round =>
    obtain ⟨k, rfl, hk, hn⟩ := hrel
    have HNN := Lib.hid hn
    clear hn
    by_cases hlt : k < l.length
    · have hli : (k : Int) < l.length := by omega
      have hg := List.getElem?_eq_getElem hlt
      obtain ⟨g, rfl, d⟩ := HC.out k _ hg
      have hts : l.take (k + 1) = l.take k ++ [l[k]] := by rw [List.take_add_one, List.getElem?_eq_getElem hlt]; rfl
      have HG := Lib.hid (And.intro hg hts)
      generalize l[k] = x at *
      clear hg hts
      by_cases hx : x = s
      · subst hx
        have HB := Lib.hid (show hasN l x = true from hasN_iff.2 (List.mem_of_getElem? HG.out.1))
        go_wp2_with fail
        go_ret
        rw [HB.out]
        exact ⟨rfl, rfl⟩
      · have hb := tl_ne hx
        have HN := Lib.hid (show s ∉ l.take (k + 1) from by
          rw [HG.out.2, List.mem_append, List.mem_singleton]
          rintro (h | h)
          · exact HNN.out h
          · exact hx h.symm)
        clear hx
        go_wp2_with fail
        go_round
        case rel => exact ⟨k + 1, by go_num, by omega, HN.out⟩
        case measure => simp [intOf]; omega
    · have hkl : k = l.length := by omega
      subst hkl
      have HB := Lib.hid (show hasN l s = false from hasN_no (by have := HNN.out; rwa [List.take_of_length_le (Nat.le_refl _)] at this))
      clear hlt
      go_wp2_with fail
      go_ret
      rw [HB.out]
      exact ⟨rfl, rfl⟩
def sameN : List ByteArray → List ByteArray → Bool
  | [], [] => true
  | x :: l, y :: m => (x.toList == y.toList) && sameN l m
  | _, _ => false
theorem sameN_iff : ∀ {l m : List ByteArray}, sameN l m = true ↔ l = m
  | [], [] => by simp [sameN]
  | [], _ :: _ => by simp [sameN]
  | _ :: _, [] => by simp [sameN]
  | x :: l, y :: m => by
    unfold sameN
    rw [Bool.and_eq_true, sameN_iff, List.cons.injEq]
    constructor
    · rintro ⟨h, h2⟩; exact ⟨tl_eq.1 (by simpa using h), h2⟩
    · rintro ⟨rfl, h2⟩; exact ⟨tl_refl _, h2⟩
theorem sameN_no {l m : List ByteArray} (h : l ≠ m) : sameN l m = false := by
  cases e : sameN l m with
  | false => rfl
  | true => exact absurd (sameN_iff.1 e) h
theorem takeN {l : List ByteArray} {n : Nat} (hn : n < l.length) : l.take (n + 1) = l.take n ++ [l[n]] := by
  rw [List.take_add_one, List.getElem?_eq_getElem hn]; rfl
set_option maxRecDepth 100000 in
set_option maxHeartbeats 4000000 in
theorem sameN_calls {l m : List ByteArray} (h1 : NmL w v l) (h2 : NmL w v2 m) : Calls Try.prog 14 #[v, v2] w fun e w' => e = .returned (.bool (sameN l m)) ∧ Upd [] w w' := by
  obtain ⟨a1, cap1, rfl, q1, r1, k1⟩ := h1.cells
  obtain ⟨a2, cap2, rfl, q2, r2, k2⟩ := h2.cells
  have HK := Lib.hid (And.intro k1 k2)
  clear h1 h2 k1 k2
  by_cases hlen : l.length = m.length
  · have hb : ((l.length : Int) != (m.length : Int)) = false := by simp [hlen]
    have hle1 : l.length ≤ m.length := by omega
    have hle2 : m.length ≤ l.length := by omega
    clear hlen
    go_enter Try.func14, Try.ntmps14
    go_wp2_with fail
    go_loopw [5] (fun i wr => ∃ k : Nat, i = .int .i64 k ∧ k ≤ l.length ∧ l.take k = m.take k ∧ Upd [] w wr) (fun i _ => l.length - (intOf i).toNat)
    case atStart => exact ⟨0, rfl, Nat.zero_le _, by simp, Upd.refl _ _⟩
    case round =>
      obtain ⟨wo, rfl⟩ : ∃ wo : World, wo = wr := ⟨_, rfl⟩
      obtain ⟨k, rfl, hk, htk, hu⟩ := hrel
      by_cases hlt : k < l.length
      · have hlt' : (k : Int) < l.length := by omega
        have hkm : k < m.length := by omega
        obtain ⟨g, rfl, e1⟩ := HK.out.1 k _ (List.getElem?_eq_getElem hlt)
        obtain ⟨g', rfl, e2⟩ := HK.out.2 k _ (List.getElem?_eq_getElem hkm)
        have d1 := hu.some e1 (by simp)
        have d2 := hu.some e2 (by simp)
        have HT := Lib.hid (And.intro htk (And.intro (takeN hlt) (And.intro (takeN hkm) (show l = m → l[k] = m[k] from fun h => by subst h; rfl))))
        have HU := Lib.hid hu
        generalize l[k] = x at *
        generalize m[k] = y at *
        clear hu e1 e2 htk
        by_cases hxy : x = y
        · subst hxy
          go_wp2_with fail
          refine wp_region_qx (by kernel_rfl) (by kernel_rfl) ?_
          repeat (go_big_quiet_step ((fail)))
          refine wpQuiet_nil ?_
          intro x
          go_wp2_with fail
          exact ⟨⟨k + 1, by go_num, by omega, by rw [HT.out.2.1, HT.out.2.2.1, HT.out.1], HU.out.step (by assumption : Ext wo).upd⟩, by simp [intOf]; omega⟩
        · have hne := tl_ne hxy
          have HD := Lib.hid (show sameN l m = false from sameN_no (fun h => hxy (HT.out.2.2.2 h)))
          clear hxy
          go_wp2_with fail
          refine wp_region_qx (by kernel_rfl) (by kernel_rfl) ?_
          repeat (go_big_quiet_step ((fail)))
          refine wpQuiet_nil ?_
          intro x
          go_wp2_with fail
          go_ret
          rw [HD.out]
          exact ⟨rfl, HU.out.step (by assumption : Ext wo).upd⟩
      · have hkl : k = l.length := by omega
        subst hkl
        rw [List.take_of_length_le (by omega), List.take_of_length_le (by omega)] at htk
        have HD := Lib.hid (show sameN l m = true from sameN_iff.2 htk)
        clear htk
        go_wp2_with fail
        go_ret
        rw [HD.out]
        exact ⟨rfl, hu⟩
  · have hb : ((l.length : Int) != (m.length : Int)) = true := by simp; omega
    have HD := Lib.hid (show sameN l m = false from sameN_no (fun h => hlen (by rw [h])))
    clear hlen
    go_enter Try.func14, Try.ntmps14
    go_wp2_with fail
    go_ret
    rw [HD.out]
    exact ⟨rfl, Upd.refl _ _⟩
end
end Trim
end Go.Proofs.Ytnmfihgdedifoaa
