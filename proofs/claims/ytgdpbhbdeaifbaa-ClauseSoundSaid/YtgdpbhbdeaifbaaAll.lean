/- Walks through the reference of clauses: All. Conditions: none. -/
import Derived.Test.YtgdpbhbdeaifbaaChain
import Derived.Test.YtgdpbhbdeaifbaaLin
set_option linter.unusedVariables false
set_option linter.unusedSimpArgs false
set_option linter.unusedSectionVars false
open Go.RowKit
namespace Go.Proofs.Ytgdpbhbdeaifbaa
open L
namespace Cla
open R01 R14
/-- An assignment of v variables. -/
def Asg (v : Nat) (c : List Int) : Prop := c.length = v + 1 ∧ c.getD 0 0 = 0 ∧ ∀ k, 1 ≤ k → k ≤ v → c.getD k 0 = 1 ∨ c.getD k 0 = -1
theorem asg_zero : Asg 0 [0] := ⟨rfl, rfl, fun k h1 h2 => by omega⟩
theorem asg_push {v : Nat} {c : List Int} {x : Int} (h : Asg v c) (hx : x = 1 ∨ x = -1) : Asg (v + 1) (c ++ [x]) := by
  obtain ⟨h1, h2, h3⟩ := h
  refine ⟨by simp [h1], ?_, fun k hk1 hk2 => ?_⟩
  · rw [List.getD_eq_getElem?_getD, List.getElem?_append_left (by omega), ← List.getD_eq_getElem?_getD]
    exact h2
  · by_cases hk : k ≤ v
    · rw [List.getD_eq_getElem?_getD, List.getElem?_append_left (by omega), ← List.getD_eq_getElem?_getD]
      exact h3 k hk1 hk
    · have : k = v + 1 := by omega
      subst this
      rw [List.getD_eq_getElem?_getD, List.getElem?_append_right (by omega), h1]
      simpa using hx
/-- A row of slices of one's own: the elements lie apart from it. -/
def Nx (w0 : World) (o : Value) (N : List (List Int)) (w : World) : Prop :=
  ∃ vals, OwnV w0 22 1 o N.length vals w ∧ ∀ (i : Nat) (c : List Int), N[i]? = some c → ∃ y, vals[i]? = some y ∧ SL w 1 y c.length (ints c) ∧ ∀ b, y.ownBlock = some b → o.ownBlock ≠ some b ∧ b < w.heap.size
theorem Nx.cl {w0 w : World} {o : Value} {N : List (List Int)} (h : Nx w0 o N w) : CL w o N := by
  obtain ⟨vals, h1, h2⟩ := h
  refine ⟨vals, by have := h1.row.1; omega, h1.sl, fun i c hc => ?_⟩
  obtain ⟨y, hy, hs, _⟩ := h2 i c hc
  exact ⟨y, hy, hs⟩
theorem Nx.quiet {w0 w w' : World} {o : Value} {N : List (List Int)} (h : Nx w0 o N w) (hu : Upd [] w w') : Nx w0 o N w' := by
  obtain ⟨vals, h1, h2⟩ := h
  refine ⟨vals, h1.upd hu (by simp), fun i c hc => ?_⟩
  obtain ⟨y, hy, hs, hb⟩ := h2 i c hc
  exact ⟨y, hy, hs.upd hu (by simp), fun b h => ⟨(hb b h).1, Nat.lt_of_lt_of_le (hb b h).2 hu.size⟩⟩
theorem Nx.push2 {w0 w w' : World} {o y1 y2 : Value} {N : List (List Int)} {c1 c2 : List Int} {vals : List Value} {g cap : Nat} (h1 : OwnV w0 22 1 o N.length vals w)
    (h2 : ∀ (i : Nat) (c : List Int), N[i]? = some c → ∃ y, vals[i]? = some y ∧ SL w 1 y c.length (ints c) ∧ ∀ b, y.ownBlock = some b → o.ownBlock ≠ some b ∧ b < w.heap.size) (hz : w0.heap.size ≤ w.heap.size)
    (s1 : SL w 1 y1 c1.length (ints c1)) (b1 : ∀ b, y1.ownBlock = some b → o.ownBlock ≠ some b ∧ b < w.heap.size) (s2 : SL w 1 y2 c2.length (ints c2)) (b2 : ∀ b, y2.ownBlock = some b → o.ownBlock ≠ some b ∧ b < w.heap.size)
    (o' : w'.ownsRow 0 22 1 (.slice (some ⟨g, 0, none⟩) (N.length + 2) cap) (N.length + 2) (vals ++ [y1, y2])) (u : Upd o.ownBlock.toList w w') (k : o.ownBlock = some g ∨ g = w.heap.size) :
    Nx w0 (.slice (some ⟨g, 0, none⟩) (N.length + 2) cap) (N ++ [c1, c2]) w' := by
  have hl : vals.length = N.length := by have := h1.row.1; omega
  have hs := u.size
  have hg : ∀ (y : Value) (b : Nat), (o.ownBlock ≠ some b ∧ b < w.heap.size) → (Value.slice (some ⟨g, 0, none⟩) (N.length + 2) cap).ownBlock ≠ some b ∧ b < w'.heap.size := fun y b hb => by
    refine ⟨fun h => ?_, by omega⟩
    simp only [Value.ownBlock, Option.some.injEq] at h
    subst h
    rcases k with k | k
    · exact hb.1 k
    · omega
  have hu : ∀ (y : Value) (c : List Int), SL w 1 y c.length (ints c) → (∀ b, y.ownBlock = some b → o.ownBlock ≠ some b ∧ b < w.heap.size) → SL w' 1 y c.length (ints c) := fun y c hy hb => hy.upd u (fun b hm hyb => (hb b hyb).1 (by simpa using hm))
  refine ⟨vals ++ [y1, y2], ⟨by simpa using o', fun j hj => ?_⟩, fun i c hc => ?_⟩
  · simp only [Value.ownBlock, Option.some.injEq] at hj
    subst hj
    rcases k with k | k
    · exact h1.fresh _ k
    · omega
  · rcases Nat.lt_or_ge i N.length with hi | hi
    · rw [List.getElem?_append_left hi] at hc
      obtain ⟨y, hy, hsl, hb⟩ := h2 i c hc
      exact ⟨y, by rw [List.getElem?_append_left (by omega)]; exact hy, hu y c hsl hb, fun b h => hg y b (hb b h)⟩
    · rw [List.getElem?_append_right hi] at hc
      rw [List.getElem?_append_right (by omega), hl]
      match hm : i - N.length with
      | 0 => rw [hm] at hc; simp at hc; subst hc; exact ⟨y1, rfl, hu _ _ s1 b1, fun b h => hg y1 b (b1 b h)⟩
      | 1 => rw [hm] at hc; simp at hc; subst hc; exact ⟨y2, rfl, hu _ _ s2 b2, fun b h => hg y2 b (b2 b h)⟩
      | (m + 2) => rw [hm] at hc; simp at hc
/-- What each of the operations that make memory yields. -/
def XA (c : List Int) : Nat → List Int
  | 6 => c
  | 7 => [1]
  | 8 => c ++ [1]
  | 14 => c
  | 15 => [-1]
  | 16 => c ++ [-1]
  | _ => []
def PO (w0 : World) (xs : List Int) (v : Value) (F : List Nat) (w : World) : Prop := w.ownsRow 0 3 1 v xs.length (ints xs) ∧ F = v.ownBlock.toList ∧ ∀ b ∈ F, w0.heap.size ≤ b
theorem PO.upd {w0 w w' : World} {xs : List Int} {v : Value} {F S : List Nat} (h : PO w0 xs v F w) (hu : Upd S w w') (hS : ∀ b ∈ F, b ∉ S) : PO w0 xs v F w' := by
  obtain ⟨h1, rfl, h3⟩ := h
  exact ⟨ownsRow_updL h1 hu (fun b hb hv => hS b (by simp [hv]) hb), rfl, h3⟩
theorem PO.lt {w0 w : World} {xs : List Int} {v : Value} {F : List Nat} (h : PO w0 xs v F w) : ∀ b ∈ F, w0.heap.size ≤ b ∧ b < w.heap.size := by
  obtain ⟨h1, rfl, h3⟩ := h
  exact fun b hb => ⟨h3 b hb, (h1.lt b (by simpa using hb)).2⟩
theorem po_app {w0 w w' : World} {xs ys : List Int} {v : Value} {F : List Nat} {a : Option Addr} {n cap : Nat} (h1 : PO w0 xs v F w) (hz : w0.heap.size ≤ w.heap.size) (o : w'.ownsRow 0 3 1 (.slice a n cap) n (ints xs ++ ints ys)) (hn : n = xs.length + ys.length)
    (k : (Value.slice a n cap).ownBlock = v.ownBlock ∨ (Value.slice a n cap).ownBlock = some w.heap.size) : PO w0 (xs ++ ys) (.slice a n cap) (Value.slice a n cap).ownBlock.toList w' ∧ ∀ b ∈ (Value.slice a n cap).ownBlock.toList, b ∈ F ∨ w.heap.size ≤ b := by
  obtain ⟨h2, rfl, h3⟩ := h1
  have key : ∀ b ∈ (Value.slice a n cap).ownBlock.toList, b ∈ v.ownBlock.toList ∨ w.heap.size ≤ b := fun b hb => by
    rcases k with k | k
    · rw [k] at hb; exact .inl hb
    · rw [k] at hb; simp at hb; right; omega
  refine ⟨⟨?_, rfl, fun b hb => ?_⟩, key⟩
  · rw [List.length_append, ← hn]
    simpa [ints] using o
  · rcases key b hb with h | h
    · exact h3 b h
    · omega
def useA : Nat → List Nat
  | 6 => [1]
  | 8 => [6, 7]
  | 14 => [9]
  | 16 => [14, 15]
  | _ => []
def AllT (vars : Nat) (w : World) (e : Ending) (w' : World) : Prop := ∃ v L, e = .returned v ∧ CL w' v L ∧ L.length ≤ 2 ^ vars ∧ (∀ c ∈ L, Asg vars c) ∧ Upd [] w w'
section
variable {w : World}
set_option maxRecDepth 100000 in
set_option maxHeartbeats 8000000 in
theorem All_calls (vars : Nat) (hv : vars ≤ 6) : Calls Try.prog 30 #[.int .i64 vars] w (AllT vars w) := by
  go_enter Try.func30, Try.ntmps30
  go_upto_region 1 with fail
  refine wp_region_lit ?_
  refine wpList_cutH 1 (fun K hK => ?_)
  simp only [List.take_succ_cons, List.take_zero]
  go_wp2_with fail
  refine Halt_.intro ?_; try simp only [List.drop_succ_cons, List.drop_zero]
  have B1 := Blk.new w [.int .i64 0] 3
  have U1 := (Upd.refl [] w).alloc (.cells #[.int .i64 0] 3)
  generalize w.alloc (.cells #[.int .i64 0] 3) = w1 at *
  have S1 : SL w1 1 (.slice (some ⟨w.heap.size, 0, none⟩) 1 1) [(0 : Int)].length (ints [0]) := SL.of_blk (pad := []) (by simpa [ints] using B1) rfl (by simp) (by unfold maxLen; omega)
  have B2 := Blk.new w1 [.slice (some ⟨w.heap.size, 0, none⟩) 1 1] 22
  have U2 := (Upd.refl [] w1).alloc (.cells #[.slice (some ⟨w.heap.size, 0, none⟩) 1 1] 22)
  have hC : CL (w1.alloc (.cells #[.slice (some ⟨w.heap.size, 0, none⟩) 1 1] 22)) (.slice (some ⟨w1.heap.size, 0, none⟩) 1 1) [[0]] := CL.of_blk (cs := [[0]]) B2 rfl (by simp) (fun i d hd => by
    match i with
    | 0 => cases hd; exact ⟨_, rfl, S1.upd U2 (by simp)⟩
    | (i + 1) => simp at hd)
  have H0 := Lib.hid (And.intro hC (U1.step U2))
  clear B1 B2 U1 U2 S1 hC
  go_wp2_with fail
  go_loopw [3, 4] (fun o i wr => ∃ (v : Nat) (L : List (List Int)), v ≤ vars ∧ i = .int .i64 v ∧ CL wr o L ∧ L.length ≤ 2 ^ v ∧ (∀ c ∈ L, Asg v c) ∧ Upd [] w wr) (fun _ i _ => vars - (intOf i).toNat)
  case atStart => exact ⟨0, [[0]], by omega, rfl, H0.out.1, by simp, fun c hc => by simp at hc; subst hc; exact asg_zero, H0.out.2⟩
  case round =>
    obtain ⟨v, L, hvv, rfl, hcl, hL2, hLA, hu⟩ := hrel
    obtain ⟨ao, co, rfl, hc1, hc2, hcc⟩ := hcl.form
    have HL := Lib.hid (And.intro hcl (And.intro hcc (And.intro hLA (And.intro hu hL2))))
    have hp : 2 ^ v ≤ 64 := Nat.le_trans (Nat.pow_le_pow_right (by omega) (show v ≤ 6 by omega)) (by decide)
    have hLn : L.length ≤ 64 := by omega
    clear hcl hcc hLA hu hL2 hp
    by_cases hlt : v < vars
    · obtain ⟨wo, rfl⟩ : ∃ wo : World, wo = wr := ⟨_, rfl⟩
      go_wp2_with fail
      go_loopw [5, 6] (fun o i wr => ∃ (k : Nat) (N : List (List Int)), k ≤ L.length ∧ i = .int .i64 k ∧ N.length = 2 * k ∧ Nx wo o N wr ∧ (∀ c ∈ N, Asg (v + 1) c) ∧ Upd [] wo wr) (fun _ i _ => L.length - (intOf i).toNat)
      case atStart => exact ⟨0, [], by omega, rfl, rfl, ⟨[], OwnV.nil _ _ _ _, by simp⟩, by simp, Upd.refl _ _⟩
      case round =>
        obtain ⟨k, N, hk, rfl, hNl, hN, hNA, hu⟩ := hrel
        have HN := Lib.hid (And.intro hN (And.intro hNA (And.intro hu hNl)))
        have hN128 : N.length ≤ 128 := by omega
        by_cases hltk : k < L.length
        · clear hN hNA hu hNl
          obtain ⟨w5, rfl⟩ : ∃ w5 : World, w5 = wr := ⟨_, rfl⟩
          obtain ⟨g, off, ay, capy, rfl, e1, hsl, _, _⟩ := (HL.out.2.1 k hltk).upd HN.out.2.2.1
          have hca := HL.out.2.2.1 _ (gd_memA (d := []) hltk)
          generalize L.getD k [] = c at *
          have hcl10 : c.length ≤ 10 := by have := hca.1; omega
          have HS := Lib.hid (And.intro hsl hca)
          clear hsl hca
          go_wp2_with fail
          refine wp_region_wa 20 18 (fun w' => ∃ x : Ext w5, w' = x.val) (by kernel_rfl) (by kernel_rfl) (Ext.of (by iterate 25 (first | exact Upd.refl _ _ | assumption | refine Upd.alloc ?_ _ | refine Upd.drew ?_ | refine Upd.drewN ?_ _ | refine Upd.dl ?_ | refine Upd.step ?_ (Ext.upd _) | refine Upd.nil ?_ | skip))) ?_
          (refine WA.free 0 rfl rfl (by kernel_rfl) (fun K hK => ?_); go_big_quiet_step (fail); refine wpQuiet_nil ?_; refine hK _ ?_; clear hK K); (refine WA.free 2 rfl rfl (by kernel_rfl) (fun K hK => ?_); go_big_quiet_step (fail); refine wpQuiet_nil ?_; refine hK _ ?_; clear hK K); (refine WA.free 3 rfl rfl (by kernel_rfl) (fun K hK => ?_); go_big_quiet_step (fail); refine wpQuiet_nil ?_; refine hK _ ?_; clear hK K); (refine WA.free 4 rfl rfl (by kernel_rfl) (fun K hK => ?_); go_big_quiet_step (fail); refine wpQuiet_nil ?_; refine hK _ ?_; clear hK K)
          (refine WA.load 5 20 rfl rfl (by kernel_rfl) (by kernel_rfl) (fun K hK => ?_); go_big_quiet_step (fail); refine wpQuiet_nil ?_; refine hK _ ?_; clear hK K)
          (refine WA.free 10 rfl rfl (by kernel_rfl) (fun K hK => ?_); go_big_quiet_step (fail); refine wpQuiet_nil ?_; refine hK _ ?_; clear hK K); (refine WA.free 11 rfl rfl (by kernel_rfl) (fun K hK => ?_); go_big_quiet_step (fail); refine wpQuiet_nil ?_; refine hK _ ?_; clear hK K); (refine WA.free 12 rfl rfl (by kernel_rfl) (fun K hK => ?_); go_big_quiet_step (fail); refine wpQuiet_nil ?_; refine hK _ ?_; clear hK K)
          (refine WA.load 13 20 rfl rfl (by kernel_rfl) (by kernel_rfl) (fun K hK => ?_); go_big_quiet_step (fail); refine wpQuiet_nil ?_; refine hK _ ?_; clear hK K)
          refine WA.linA (w0 := w5) 20 [(1, 21), (6, 26), (7, 27), (8, 28), (9, 29), (14, 34), (15, 35), (16, 36)] useA _ #[true, true, true, true, true, true, true, true, true, true, true, true, true, true, true, true, true, false, false, false] (fun i v F w => PO w5 (XA c i) v F w) 3 11 (by kernel_rfl)
            (fun i v F w w' S h hu hS => PO.upd h hu hS) (fun i v F w h => PO.lt h) ?step ?end' (by iterate 25 (first | exact Upd.refl _ _ | assumption | refine Upd.alloc ?_ _ | refine Upd.drew ?_ | refine Upd.drewN ?_ _ | refine Upd.dl ?_ | refine Upd.step ?_ (Ext.upd _) | refine Upd.nil ?_ | skip))
          case step =>
            intro j hj val F wq hU hP hD
            have hz := hU.size
            simp only [List.map_cons, List.map_nil, List.mem_cons, List.not_mem_nil, or_false] at hj
            rcases hj with rfl | rfl | rfl | rfl | rfl | rfl | rfl | rfl
            · refine wpOp_mk rfl (fun K hK => ?_)
              simp only [setAll, List.setIfInBounds_toArray, List.set_cons_succ, List.set_cons_zero]
              go_wp2_with fail
              exact Halt_.intro ⟨.slice (some ⟨wq.heap.size, 0, none⟩) 0 0, [wq.heap.size], by simp [setAll, updV], ⟨owns_blk (owns_none rfl 3) rfl (by unfold maxLen; omega), rfl, fun b hb => by simp at hb; omega⟩, (Upd.refl _ _).alloc _, fun b hb => .inr (by simp at hb; omega)⟩
            · have h1 := hP 1 (by simp [useA])
              refine wpOp_mk rfl (fun K hK => ?_)
              simp only [setAll, List.setIfInBounds_toArray, List.set_cons_succ, List.set_cons_zero]
              refine wpList_appS rfl _ _ _ rfl 3 1 8 _ Try.underlying22 infoInt rfl (by decide) (val 1) 0 [] rfl h1.1 _ _ _ rfl (HS.out.1.upd hU (by simp)) (ints_one _) (by unfold maxLen; omega) (by omega) ?_
              intro a' cap' w' o u k
              simp only [Act.put, List.setIfInBounds_toArray, List.set_cons_zero, List.set_cons_succ]
              have HQ := Lib.hid (And.intro o (And.intro u k))
              clear o u k
              go_wp2_with fail
              have hpo := po_app (ys := c) h1 hz HQ.out.1 rfl HQ.out.2.2
              exact Halt_.intro ⟨_, _, by simp [setAll, updV], hpo.1, by simpa [useA, h1.2.1] using HQ.out.2.1, fun b hb => by simpa [useA] using hpo.2 b hb⟩
            · refine wpOp_mk rfl (fun K hK => ?_)
              simp only [setAll, List.setIfInBounds_toArray, List.set_cons_succ, List.set_cons_zero]
              go_wp2_with fail
              exact Halt_.intro ⟨.slice (some ⟨wq.heap.size, 0, none⟩) 1 1, [wq.heap.size], by simp [setAll, updV], ⟨owns_blk (n := 1) (Blk.new wq [.int .i64 1] 3) rfl (by unfold maxLen; omega), rfl, fun b hb => by simp at hb; omega⟩, (Upd.refl _ _).alloc _, fun b hb => .inr (by simp at hb; omega)⟩
            · have h1 := hP 6 (by simp [useA])
              have h2 := hP 7 (by simp [useA])
              refine wpOp_mk rfl (fun K hK => ?_)
              simp only [setAll, List.setIfInBounds_toArray, List.set_cons_succ, List.set_cons_zero]
              refine wpList_appS rfl _ _ _ rfl 3 1 8 _ Try.underlying22 infoInt rfl (by decide) (val 6) c.length (ints c) rfl h1.1 (val 7) 1 (ints [1]) rfl (SL.of_owns h2.1) (ints_one _) (by unfold maxLen; omega) (by omega) ?_
              intro a' cap' w' o u k
              simp only [Act.put, List.setIfInBounds_toArray, List.set_cons_zero, List.set_cons_succ]
              have HQ := Lib.hid (And.intro o (And.intro u k))
              clear o u k
              go_wp2_with fail
              have hpo := po_app (ys := [1]) h1 hz HQ.out.1 rfl HQ.out.2.2
              exact Halt_.intro ⟨_, _, by simp [setAll, updV], hpo.1, HQ.out.2.1.wide (fun b hb => .inl (by simp [useA, h1.2.1]; exact .inl (by simpa using hb))), fun b hb => by rcases hpo.2 b hb with h | h; exact .inl (by simp [useA]; exact .inl h); exact .inr h⟩
            · refine wpOp_mk rfl (fun K hK => ?_)
              simp only [setAll, List.setIfInBounds_toArray, List.set_cons_succ, List.set_cons_zero]
              go_wp2_with fail
              exact Halt_.intro ⟨.slice (some ⟨wq.heap.size, 0, none⟩) 0 0, [wq.heap.size], by simp [setAll, updV], ⟨owns_blk (owns_none rfl 3) rfl (by unfold maxLen; omega), rfl, fun b hb => by simp at hb; omega⟩, (Upd.refl _ _).alloc _, fun b hb => .inr (by simp at hb; omega)⟩
            · have h1 := hP 9 (by simp [useA])
              refine wpOp_mk rfl (fun K hK => ?_)
              simp only [setAll, List.setIfInBounds_toArray, List.set_cons_succ, List.set_cons_zero]
              refine wpList_appS rfl _ _ _ rfl 3 1 8 _ Try.underlying22 infoInt rfl (by decide) (val 9) 0 [] rfl h1.1 _ _ _ rfl (HS.out.1.upd hU (by simp)) (ints_one _) (by unfold maxLen; omega) (by omega) ?_
              intro a' cap' w' o u k
              simp only [Act.put, List.setIfInBounds_toArray, List.set_cons_zero, List.set_cons_succ]
              have HQ := Lib.hid (And.intro o (And.intro u k))
              clear o u k
              go_wp2_with fail
              have hpo := po_app (ys := c) h1 hz HQ.out.1 rfl HQ.out.2.2
              exact Halt_.intro ⟨_, _, by simp [setAll, updV], hpo.1, by simpa [useA, h1.2.1] using HQ.out.2.1, fun b hb => by simpa [useA] using hpo.2 b hb⟩
            · refine wpOp_mk rfl (fun K hK => ?_)
              simp only [setAll, List.setIfInBounds_toArray, List.set_cons_succ, List.set_cons_zero]
              go_wp2_with fail
              exact Halt_.intro ⟨.slice (some ⟨wq.heap.size, 0, none⟩) 1 1, [wq.heap.size], by simp [setAll, updV], ⟨owns_blk (n := 1) (Blk.new wq [.int .i64 (-1)] 3) rfl (by unfold maxLen; omega), rfl, fun b hb => by simp at hb; omega⟩, (Upd.refl _ _).alloc _, fun b hb => .inr (by simp at hb; omega)⟩
            · have h1 := hP 14 (by simp [useA])
              have h2 := hP 15 (by simp [useA])
              refine wpOp_mk rfl (fun K hK => ?_)
              simp only [setAll, List.setIfInBounds_toArray, List.set_cons_succ, List.set_cons_zero]
              refine wpList_appS rfl _ _ _ rfl 3 1 8 _ Try.underlying22 infoInt rfl (by decide) (val 14) c.length (ints c) rfl h1.1 (val 15) 1 (ints [-1]) rfl (SL.of_owns h2.1) (ints_one _) (by unfold maxLen; omega) (by omega) ?_
              intro a' cap' w' o u k
              simp only [Act.put, List.setIfInBounds_toArray, List.set_cons_zero, List.set_cons_succ]
              have HQ := Lib.hid (And.intro o (And.intro u k))
              clear o u k
              go_wp2_with fail
              have hpo := po_app (ys := [-1]) h1 hz HQ.out.1 rfl HQ.out.2.2
              exact Halt_.intro ⟨_, _, by simp [setAll, updV], hpo.1, HQ.out.2.1.wide (fun b hb => .inl (by simp [useA, h1.2.1]; exact .inl (by simpa using hb))), fun b hb => by rcases hpo.2 b hb with h | h; exact .inl (by simp [useA]; exact .inl h); exact .inr h⟩
          case end' =>
            intro val F wq hU hP hD
            have h8 : PO w5 (c ++ [1]) (val 8) (F 8) wq := hP 8 (by simp) (by decide)
            have h16 : PO w5 (c ++ [-1]) (val 16) (F 16) wq := hP 16 (by simp) (by decide)
            obtain ⟨_, a8, c8, hv8, _⟩ := SL.of_owns h8.1
            obtain ⟨_, a16, c16, hv16, _⟩ := SL.of_owns h16.1
            have l8 := h8.lt
            have l16 := h16.lt
            rw [hv8] at h8
            rw [hv16] at h16
            have f8 := h8.2.1
            have f16 := h16.2.1
            rw [f8] at l8
            rw [f16] at l16
            have HV := Lib.hid (And.intro (SL.of_owns h8.1) (And.intro (SL.of_owns h16.1) (And.intro l8 (And.intro l16 hU))))
            clear h8 h16 l8 l16 f8 f16 hP hD
            simp only [setAll, List.setIfInBounds_toArray, List.set_cons_succ, List.set_cons_zero]
            rw [hv8, hv16]
            generalize hn8 : (c ++ [1]).length = n8 at *
            generalize hn16 : (c ++ [-1]).length = n16 at *
            have HNN := Lib.hid (And.intro hn8 hn16)
            clear hv8 hv16 hn8 hn16
            refine WA.one 17 (by kernel_rfl) (Do_.mk rfl (fun K hK => ?_))
            go_wp2_with fail
            have B6 := Blk.new wq [.slice a8 n8 c8, .slice a16 n16 c16] 22
            have U6 := (Upd.refl [] wq).alloc (.cells #[.slice a8 n8 c8, .slice a16 n16 c16] 22)
            have hs6 : wq.heap.size < (wq.alloc (.cells #[.slice a8 n8 c8, .slice a16 n16 c16] 22)).heap.size := by simp
            generalize wq.alloc (.cells #[.slice a8 n8 c8, .slice a16 n16 c16] 22) = w6 at *
            refine WA.keep (Ext.of (HV.out.2.2.2.2.step U6)) ?_
            have U56 := HV.out.2.2.2.2.step U6
            have hlt5 : ∀ b, u5.ownBlock = some b → b < w5.heap.size := by
              obtain ⟨_, h, _⟩ := HN.out.1
              exact h.lt
            obtain ⟨vals, h1, h2⟩ := HN.out.1.quiet U56
            have hzo := HN.out.2.2.1.size
            have hz6 := U56.size
            have hfr := h1.fresh
            have s1 := HV.out.1.upd U6 (by simp)
            have s2 := HV.out.2.1.upd U6 (by simp)
            rw [← HNN.out.1] at s1
            rw [← HNN.out.2] at s2
            have b1 : ∀ b, (Value.slice a8 (c ++ [1]).length c8).ownBlock = some b → u5.ownBlock ≠ some b ∧ b < w6.heap.size := fun b hb => by
              have h := HV.out.2.2.1 b (by rw [← HNN.out.1, hb]; simp)
              exact ⟨fun h' => by have := hlt5 b h'; omega, by omega⟩
            have b2 : ∀ b, (Value.slice a16 (c ++ [-1]).length c16).ownBlock = some b → u5.ownBlock ≠ some b ∧ b < w6.heap.size := fun b hb => by
              have h := HV.out.2.2.2.1 b (by rw [← HNN.out.2, hb]; simp)
              exact ⟨fun h' => by have := hlt5 b h'; omega, by omega⟩
            have HB := Lib.hid (And.intro h1 (And.intro h2 (And.intro s1 (And.intro b1 (And.intro s2 b2)))))
            have HB6 := Lib.hid B6
            clear h1 h2 s1 b1 s2 b2 B6 hlt5
            refine WA.one 18 (by kernel_rfl) (Do_.mk rfl (fun K hK => ?_))
            refine wpList_app rfl _ _ _ rfl 22 1 24 _ Try.underlying23 infoInts rfl (by decide) u5 N.length vals rfl HB.out.1.row wq.heap.size 2 2 [.slice a8 n8 c8, .slice a16 n16 c16] 22 rfl rfl HB6.out (by simp [Value.oneCell']) (by omega) (by unfold maxLen; omega) (by omega) ?_
            intro g9 cap9 w9 o9 u9 k9
            simp only [Act.put, List.setIfInBounds_toArray, List.set_cons_zero, List.set_cons_succ]
            rw [← HNN.out.1, ← HNN.out.2] at o9
            have N9 := Nx.push2 HB.out.1 HB.out.2.1 (by omega) HB.out.2.2.1 HB.out.2.2.2.1 HB.out.2.2.2.2.1 HB.out.2.2.2.2.2 o9 u9 k9
            have U9 : Upd [] wo w9 := (HN.out.2.2.1.step U56).fresh u9 (fun b hb => .inr (hfr b (by simpa using hb)))
            have H9 := Lib.hid (And.intro N9 U9)
            clear o9 u9 k9 N9 U9
            go_wp2_with fail
            refine WA.past (by kernel_rfl) ?_
            (refine WA.free 19 rfl rfl (by kernel_rfl) (fun K hK => ?_); go_big_quiet_step (fail); refine wpQuiet_nil ?_; refine hK _ ?_; clear hK K)
            refine WA.nil (by kernel_rfl) ?_
            go_wp2_with fail
            have hNN := HN.out.2.2.2
            refine ⟨⟨k + 1, N ++ [c ++ [1], c ++ [-1]], by omega, by go_num, by simp; omega, H9.out.1, fun d hd => ?_, H9.out.2⟩, by simp [intOf]; omega⟩
            rcases List.mem_append.1 hd with hd | hd
            · exact HN.out.2.1 d hd
            · simp at hd
              rcases hd with rfl | rfl
              · exact asg_push HS.out.2 (.inl rfl)
              · exact asg_push HS.out.2 (.inr rfl)
        · have hNc := hN.cl
          obtain ⟨an, cn, rfl, _, _, _⟩ := hNc.form
          have HF := Lib.hid (And.intro hNc (And.intro hNA (And.intro (HL.out.2.2.2.1.step hu) hNl)))
          clear hN hNA hu hNl hNc
          have hkL : L.length = k := by omega
          have hp2 : 2 * 2 ^ v = 2 ^ (v + 1) := by rw [Nat.pow_succ]; omega
          have HK := Lib.hid (show N.length ≤ 2 ^ (v + 1) by have h1 := HF.out.2.2.2; have h2 := HL.out.2.2.2.2; omega)
          clear hkL hp2
          go_wp2_with fail
          exact ⟨⟨v + 1, N, by omega, by go_num, HF.out.1, HK.out, HF.out.2.1, HF.out.2.2.1⟩, by simp [intOf]; omega⟩
    · have HF := Lib.hid (show v = vars by omega)
      go_wp2_with fail
      go_ret
      exact ⟨_, L, rfl, HL.out.1, by rw [← HF.out]; exact HL.out.2.2.2.2, by rw [← HF.out]; exact HL.out.2.2.1, HL.out.2.2.2.1⟩
end
end Cla
end Go.Proofs.Ytgdpbhbdeaifbaa
