/- Walks through the reference of package disk: a disk in memory, its small functions. Conditions: none. Walks through the reference of package disk: counting, the numbers of files, making a disk. Conditions: none. Walks through the reference of package disk: New. Conditions: none. Walks through the reference of package disk: Append, Truncate, Rot. Conditions: none. -/
import Derived.Test.YtfkgpecglcjpkaaGreatDiskJ
import Derived.Test.YtfkgpecglcjpkaaGreatReg3
set_option linter.unusedVariables false
set_option linter.unusedSimpArgs false
set_option linter.unusedSectionVars false
section
open Go.RowKit
namespace Go.Proofs.YtfkgpecglcjpkaaGreat
open L
namespace Disk
open Wire
/-- A list of the values of a function. -/
def vl {α : Type} (V : Nat → α) : List α := (List.range 64).map V
theorem vl_length {α : Type} (V : Nat → α) : (vl V).length = 64 := by simp [vl]
theorem vl_get {α : Type} (V : Nat → α) {i : Nat} (h : i < 64) : (vl V)[i]? = some (V i) := by simp [vl, h]
theorem vl_set {α : Type} (V : Nat → α) {i : Nat} (v : α) (h : i < 64) : (vl V).set i v = vl (fun j => if j = i then v else V j) := by
  apply List.ext_getElem?
  intro j
  unfold vl
  rw [List.getElem?_set, List.getElem?_map, List.getElem?_map]
  by_cases e : i = j
  · subst e; simp [h]
  · by_cases hj : j < 64
    · have e2 : ¬ j = i := fun h => e h.symm
      rw [if_neg e]; simp [hj, e2]
    · rw [if_neg e]; simp [hj]
/-- The model of a disk at p in memory; S: all its blocks. -/
structure RDk (w : World) (p : Nat) (s : DS) (S : List Nat) : Prop where
  ex : ∃ bB bF V, Blk w p [.int .i64 (s.room : Int), .slice (some ⟨bB, 0, none⟩) 64 64, .slice (some ⟨bF, 0, none⟩) 64 64, .bool s.off, .int .i64 s.plan] 50 ∧ Blk w bB (vl V) 39 ∧ Blk w bF (vl fun i => .int .i64 (s.F i : Int)) 3 ∧
    p ≠ bB ∧ p ≠ bF ∧ bB ≠ bF ∧ p ∈ S ∧ bB ∈ S ∧ bF ∈ S ∧
    (∀ i, i < 64 → w.ownsRow 0 5 1 (V i) (s.B i).length (byts (s.B i)) ∧ ∀ g, (V i).ownBlock = some g → g ∈ S ∧ g ≠ p ∧ g ≠ bB ∧ g ≠ bF) ∧
    (∀ i j, i < 64 → j < 64 → i ≠ j → ∀ g, (V i).ownBlock = some g → (V j).ownBlock ≠ some g)
  ok : s.Ok
  lt : ∀ k ∈ S, k < w.heap.size
section
variable {w w' : World} {p : Nat} {s : DS} {S : List Nat}
theorem RDk.upd {T : List Nat} (h : RDk w p s S) (hu : Upd T w w') (hT : ∀ k ∈ T, k ∉ S) : RDk w' p s S := by
  obtain ⟨⟨bB, bF, V, h1, h2, h3, h4, h5, h6, h7, h8, h9, h10, h11⟩, hok, hlt⟩ := h
  refine ⟨⟨bB, bF, V, h1.upd hu (fun hp => hT p hp h7), h2.upd hu (fun hp => hT _ hp h8), h3.upd hu (fun hp => hT _ hp h9), h4, h5, h6, h7, h8, h9, fun i hi => ?_, h11⟩, hok, fun k hk => Nat.lt_of_lt_of_le (hlt k hk) hu.size⟩
  obtain ⟨a1, a2⟩ := h10 i hi
  exact ⟨ownsRow_updL a1 hu (fun b hb e => hT b hb (a2 b e).1), a2⟩
theorem RDk.quiet (h : RDk w p s S) (hu : Upd [] w w') : RDk w' p s S := h.upd hu (by simp)
theorem RDk.p_mem (h : RDk w p s S) : p ∈ S := by obtain ⟨bB, bF, V, h1, h2, h3, h4, h5, h6, h7, _⟩ := h.ex; exact h7
/-- The room, the switch and the plan may change. -/
theorem RDk.head {s' : DS} (h : RDk w p s S) (hok : s'.Ok) (hB : s'.B = s.B) (hF : s'.F = s.F) (hu : Upd [p] w w')
    (hb : ∀ x y, Blk w p [.int .i64 (s.room : Int), x, y, .bool s.off, .int .i64 s.plan] 50 → Blk w' p [.int .i64 (s'.room : Int), x, y, .bool s'.off, .int .i64 s'.plan] 50) : RDk w' p s' S := by
  obtain ⟨⟨bB, bF, V, h1, h2, h3, h4, h5, h6, h7, h8, h9, h10, h11⟩, _, hlt⟩ := h
  refine ⟨⟨bB, bF, V, hb _ _ h1, h2.upd hu (by simp; exact fun e => h4 e.symm), by rw [hF]; exact h3.upd hu (by simp; exact fun e => h5 e.symm), h4, h5, h6, h7, h8, h9, fun i hi => ?_, h11⟩, hok, fun k hk => Nat.lt_of_lt_of_le (hlt k hk) hu.size⟩
  rw [hB]
  obtain ⟨a1, a2⟩ := h10 i hi
  exact ⟨ownsRow_updL a1 hu (fun b hb e => by simp at hb; exact (a2 b e).2.1 hb), a2⟩
theorem RDk.cells (h : RDk w p s S) : ∃ x y, Blk w p [.int .i64 (s.room : Int), x, y, .bool s.off, .int .i64 s.plan] 50 := by obtain ⟨_, _, _, h1, _⟩ := h.ex; exact ⟨_, _, h1⟩
theorem RFails_calls (h : RDk w p s S) (hoff : s.off = false) (hpl : 0 ≤ s.plan) : Calls Tryz.prog 63 #[.pointer (some ⟨p, 0, none⟩)] w fun e w' => e = .returned (.bool (stepS s).1) ∧ RDk w' p (stepS s).2 S ∧ Upd [p] w w' := by
  have hok := stepS_ok h.ok
  obtain ⟨x, y, h1⟩ := h.cells
  have c3 := h1.cell (i := 3) rfl
  have c4 := h1.cell (i := 4) rfl
  have f4 := h1.free 4
  have f3 := h1.free 3
  have hp := h.ok.plan
  have HH := Lib.hid h
  rw [hoff] at c3
  clear h
  by_cases h0 : s.plan = 0
  · have hr : stepS s = (true, { s with plan := -1, off := true }) := by unfold stepS; rw [if_neg (by omega), if_pos h0]
    have HR := Lib.hid hr
    rw [hr] at hok
    rw [h0] at c4
    have H0 := Lib.hid h0
    clear hr hp h0 hpl hoff
    go_enter Tryz.func63, Tryz.ntmps63
    go_wp2_with fail
    go_ret
    rw [HR.out]
    have hu : Upd [p] w ((w.setCell ⟨p, 4, none⟩ (.int .i64 (-1))).setCell ⟨p, 3, none⟩ (.bool true)) := ((Upd.refl _ w).set (.inl (by simp)) _).set (.inl (by simp)) _
    exact ⟨rfl, HH.out.head hok rfl rfl hu (fun x y hb => (hb.set 4 _).set 3 _), hu⟩
  · have hr : stepS s = (false, { s with plan := s.plan - 1 }) := by unfold stepS; rw [if_neg (by omega), if_neg h0]
    have HR := Lib.hid hr
    rw [hr] at hok
    have hq : 0 ≤ s.plan - 1 := by omega
    have hmx := Lib.hid (show max (s.plan - 1) (-2) = s.plan - 1 by omega)
    have HO := Lib.hid hoff
    clear hr h0 hoff
    go_enter Tryz.func63, Tryz.ntmps63
    go_wp2_with fail
    go_ret
    rw [HR.out, hmx.out]
    have hu : Upd [p] w (w.setCell ⟨p, 4, none⟩ (.int .i64 (s.plan - 1))) := (Upd.refl _ w).set (.inl (by simp)) _
    exact ⟨rfl, HH.out.head hok rfl rfl hu (fun x y hb => hb.set 4 _), hu⟩
theorem RStep_calls (h : RDk w p s S) (hoff : s.off = false) : Calls Tryz.prog 47 #[.pointer (some ⟨p, 0, none⟩)] w fun e w' => e = .returned (.bool (stepS s).1) ∧ RDk w' p (stepS s).2 S ∧ Upd [p] w w' := by
  obtain ⟨x, y, h1⟩ := h.cells
  have c4 := h1.cell (i := 4) rfl
  have HH := Lib.hid h
  by_cases hn : s.plan < 0
  · have HR := Lib.hid (show stepS s = (false, s) by unfold stepS; rw [if_pos hn])
    clear h
    go_enter Tryz.func47, Tryz.ntmps47
    go_wp2_with fail
    go_ret
    rw [HR.out]
    exact ⟨rfl, HH.out, Upd.refl _ _⟩
  · have hq : 0 ≤ s.plan := by omega
    have HF := Lib.hid (RFails_calls h hoff hq)
    clear h
    go_enter Tryz.func47, Tryz.ntmps47
    go_wp2_with (go_at_call 63; refine HF.out.mono ?_; rintro e w1 ⟨rfl, h6, u6⟩)
    go_ret
    exact ⟨rfl, h6, u6⟩
theorem RArm_calls (h : RDk w p s S) {n : Int} (hn : IsI64 n) : Calls Tryz.prog 10 #[.pointer (some ⟨p, 0, none⟩), .int .i64 n] w fun e w' => e = .returned (.tuple #[]) ∧ RDk w' p (armS s n) S ∧ Upd [p] w w' := by
  have hok := armS_ok h.ok hn
  obtain ⟨x, y, h1⟩ := h.cells
  have c3 := h1.cell (i := 3) rfl
  have c4 := h1.cell (i := 4) rfl
  have f4 := h1.free 4
  have HH := Lib.hid h
  clear h
  cases ho : s.off with
  | true =>
    have HR := Lib.hid (show armS s n = s by unfold armS; rw [if_pos ho])
    rw [ho] at c3
    go_enter Tryz.func10, Tryz.ntmps10
    go_wp2_with fail
    go_end0
    rw [HR.out]
    exact ⟨rfl, HH.out, Upd.refl _ _⟩
  | false =>
    have HR := Lib.hid (show armS s n = { s with plan := max n (-1) } by unfold armS; rw [if_neg (by rw [ho]; simp)])
    rw [HR.out] at hok
    rw [ho] at c3
    have HO := Lib.hid ho
    clear ho
    by_cases hm : n < -1
    · have hu : Upd [p] w (w.setCell ⟨p, 4, none⟩ (.int .i64 (-1))) := (Upd.refl _ w).set (.inl (by simp)) _
      have HM := Lib.hid (show max n (-1) = -1 by omega)
      go_enter Tryz.func10, Tryz.ntmps10
      go_wp2_with fail
      go_end0
      rw [HR.out]
      rw [HM.out] at hok ⊢
      exact ⟨rfl, HH.out.head hok rfl rfl hu (fun x y hb => hb.set 4 _), hu⟩
    · have hu : Upd [p] w (w.setCell ⟨p, 4, none⟩ (.int .i64 n)) := (Upd.refl _ w).set (.inl (by simp)) _
      have HM := Lib.hid (show max n (-1) = n by omega)
      go_enter Tryz.func10, Tryz.ntmps10
      go_wp2_with fail
      go_end0
      rw [HR.out]
      rw [HM.out] at hok ⊢
      exact ⟨rfl, HH.out.head hok rfl rfl hu (fun x y hb => hb.set 4 _), hu⟩
end
end Disk
end Go.Proofs.YtfkgpecglcjpkaaGreat
end
section
open Go.RowKit
namespace Go.Proofs.YtfkgpecglcjpkaaGreat
open L
namespace Disk
open Wire
theorem infoInt : (Tryz.prog.info? 3).map (fun i => (i.zero, i.size, i.bytes)) = some (some (.int .i64 0), 1, 8) := by kernel_rfl
section
variable {w w' : World} {p : Nat} {s : DS} {S : List Nat}
set_option maxRecDepth 100000 in
set_option maxHeartbeats 2000000 in
theorem RUsed_calls (h : RDk w p s S) : Calls Tryz.prog 52 #[.pointer (some ⟨p, 0, none⟩)] w fun e w' => e = .returned (.int .i64 (used s : Nat)) ∧ w = w' := by
  obtain ⟨bB, bF, V, h1, h2, h3, _, _, _, _, _, _, h10, _⟩ := h.ex
  have c1 := h1.cell (i := 1) rfl
  have HB := Lib.hid (And.intro h2 h10)
  have HU := Lib.hid (And.intro h.ok.used h.ok.room)
  have HL := Lib.hid h.ok.len
  clear h h1 h2 h3 h10
  go_enter Tryz.func52, Tryz.ntmps52
  go_wp2_with fail
  go_loopw [3, 4] (fun sum i wr => ∃ k : Nat, i = .int .i64 k ∧ k ≤ 64 ∧ sum = .int .i64 (tot (fun i => (s.B i).length) k : Nat) ∧ wr = w) (fun _ i _ => 64 - (intOf i).toNat)
  case atStart => exact ⟨0, rfl, Nat.zero_le _, rfl, rfl⟩
  case round =>
    obtain ⟨k, rfl, hk, rfl, rfl⟩ := hrel
    by_cases hlt : k < 64
    · have hlti : (k : Int) < 64 := by omega
      obtain ⟨_, a, c, hv, _⟩ := SL.of_owns (HB.out.2 k hlt).1
      have d0 := HB.out.1.cell (vl_get V hlt)
      rw [hv] at d0
      have hle := tot_mono2 (g := fun i => (s.B i).length) hlt
      have hsum : tot (fun i => (s.B i).length) k + (s.B k).length ≤ 16777216 := by have := HU.out; unfold used at this; omega
      have hsi : ((tot (fun i => (s.B i).length) k : Nat) : Int) + ((s.B k).length : Int) ≤ 16777216 := by omega
      have hst := Lib.hid (tot_succ (fun i => (s.B i).length) k)
      clear hv hle hsum
      generalize tot (fun i => (s.B i).length) k = tk at *
      generalize (s.B k).length = lk at *
      go_wp2_with fail
      go_roundw
      case rel => exact ⟨k + 1, by go_num, by omega, by rw [hst.out]; go_num, trivial⟩
      case measure => simp [intOf]; omega
    · have hk64 : k = 64 := by omega
      subst hk64
      go_wp2_with fail
      go_ret
      exact ⟨rfl, rfl⟩
set_option maxRecDepth 100000 in
set_option maxHeartbeats 2000000 in
theorem RFiles_calls (h : RDk w p s S) : Calls Tryz.prog 32 #[.pointer (some ⟨p, 0, none⟩)] w fun e w' => ∃ v, e = .returned v ∧ OwnV w 3 1 v (filesS s).length (ints ((filesS s).map Int.ofNat)) w' ∧ Upd [] w w' := by
  have H := Lib.hid h
  obtain ⟨bB, bF, V, h1, h2, h3, _, _, _, _, _, _, h10, _⟩ := h.ex
  have c1 := h1.cell (i := 1) rfl
  have HB := Lib.hid (And.intro h1 (And.intro h2 h10))
  have HL := Lib.hid h.ok.len
  clear h h1 h2 h3 h10
  go_enter Tryz.func32, Tryz.ntmps32
  go_wp2_with fail
  go_loopw [3, 4] (fun v i wr => ∃ k : Nat, i = .int .i64 k ∧ k ≤ 64 ∧ OwnV w 3 1 v (fl_ s.B k).length (ints ((fl_ s.B k).map Int.ofNat)) wr ∧ Upd [] w wr) (fun _ i _ => 64 - (intOf i).toNat)
  case atStart => exact ⟨0, rfl, Nat.zero_le _, OwnV.nil _ _ _ _, Upd.refl _ _⟩
  case round =>
    obtain ⟨wo, rfl⟩ : ∃ wo : World, wo = wr := ⟨_, rfl⟩
    obtain ⟨k, rfl, hk, ho, hu⟩ := hrel
    obtain ⟨_, aO, cO, rfl, _⟩ := SL.of_owns ho.row
    have hfl : (fl_ s.B k).length ≤ k := Nat.le_trans (List.length_filter_le _ _) (by simp)
    by_cases hlt : k < 64
    · have hlti : (k : Int) < 64 := by omega
      obtain ⟨_, a, c, hv, _⟩ := SL.of_owns (HB.out.2.2 k hlt).1
      have d0 := hu.some (HB.out.2.1.cell (vl_get V hlt)) (by simp)
      have c1' := hu.some c1 (by simp)
      rw [hv] at d0
      have hsu := fl_succ s.B k
      have hbl := HL.out k
      have HO := Lib.hid (And.intro ho hu)
      clear hv c1 ho hu
      by_cases hb : s.B k = []
      · rw [if_pos hb, List.append_nil] at hsu
        have hl0 : (s.B k).length = 0 := by rw [hb]; rfl
        rw [hl0] at d0
        have HS := Lib.hid hsu
        clear hsu hl0 hbl
        go_wp2_with fail
        go_roundw
        case rel => exact ⟨k + 1, by go_num, by omega, by rw [HS.out]; exact HO.out.1, HO.out.2⟩
        case measure => simp [intOf]; omega
      · rw [if_neg hb] at hsu
        have hl0 : 0 < (s.B k).length := List.length_pos_iff.2 hb
        have hl1 : (0 : Int) < ((s.B k).length : Int) := by omega
        have HS := Lib.hid hsu
        clear hsu hb
        generalize (s.B k).length = lk at *
        generalize fl_ s.B k = fk at *
        go_wp2_with (refine wpList_push rfl rfl _ _ _ _ rfl rfl rfl 3 1 8 _ Tryz.underlying22 infoInt rfl (by decide) (by decide) (.int .i64 (k : Int)) [.int .i64 (k : Int)] rfl rfl rfl (ints_one [(k : Int)]) (.slice aO fk.length cO) _ _ HO.out.1.row rfl rfl (by unfold maxLen; omega) (by omega) ?_; intro g1 cap1 w1 o1 u1 k1)
        have N := HO.out.1.push HO.out.2.size o1 k1
        have U := HO.out.2.fresh u1 (fun b hb => .inr (HO.out.1.fresh b (by simpa using hb)))
        refine ⟨⟨k + 1, by go_num, by omega, ?_, U⟩, by simp [intOf]; omega⟩
        rw [HS.out, List.length_append, List.map_append, ints_append]
        exact N
    · have hk64 : k = 64 := by omega
      subst hk64
      have HO := Lib.hid (And.intro ho hu)
      clear ho hu
      go_wp2_with fail
      go_ret
      exact ⟨_, rfl, HO.out.1, HO.out.2⟩
end
end Disk
end Go.Proofs.YtfkgpecglcjpkaaGreat
end
section
open Go.RowKit
namespace Go.Proofs.YtfkgpecglcjpkaaGreat
open L
namespace Disk
open Wire
section
variable {w w' : World} {p : Nat} {s : DS} {S : List Nat}
theorem rows_vl (v : Value) : (rows 64 fun _ => [v]) = vl (fun _ => v) := by
  rw [rows_one]
  unfold vl
  rw [List.map_const', List.length_range]
theorem rdk_new {bB bF q room : Nat} (hr : room ≤ 16777216) (h1 : Blk w q [.int .i64 (room : Int), .slice (some ⟨bB, 0, none⟩) 64 64, .slice (some ⟨bF, 0, none⟩) 64 64, .bool false, .int .i64 (-1)] 50) (h2 : Blk w bB (vl fun _ => .slice none 0 0) 39) (h3 : Blk w bF (vl fun _ => .int .i64 0) 3)
    (h4 : q ≠ bB) (h5 : q ≠ bF) (h6 : bB ≠ bF) : RDk w q (newS room) [q, bB, bF] := by
  refine ⟨⟨bB, bF, fun _ => .slice none 0 0, h1, h2, h3, h4, h5, h6, by simp, by simp, by simp, fun i hi => ⟨World.ownsRow_nil _ _ _ _, by simp [Value.ownBlock]⟩, fun i j _ _ _ g hg => by simp [Value.ownBlock] at hg⟩, newS_ok hr, fun k hk => ?_⟩
  simp only [List.mem_cons, List.not_mem_nil, or_false] at hk
  rcases hk with rfl | rfl | rfl
  · exact h1.lt
  · exact h2.lt
  · exact h3.lt
set_option maxRecDepth 100000 in
set_option maxHeartbeats 2000000 in
theorem RNew_calls {room : Nat} (hr : room ≤ 16777216) : Calls Tryz.prog 6 #[.int .i64 (room : Int)] w fun e w' => ∃ q S, e = .returned (.pointer (some ⟨q, 0, none⟩)) ∧ RDk w' q (newS room) S ∧ Upd [] w w' ∧ ∀ k ∈ S, w.heap.size ≤ k := by
  go_enter Tryz.func6, Tryz.ntmps6
  go_wp2_with fail
  refine wp_region_wa 6 6 (fun _ => True) (by kernel_rfl) (by kernel_rfl) trivial ?_
  (refine WA.free 0 rfl rfl (by kernel_rfl) (fun K hK => ?_); go_big_quiet_step (fail); refine wpQuiet_nil ?_; refine hK _ ?_; clear hK K)
  refine WA.two 1 2 (by kernel_rfl) (Do_.mk rfl (fun K hK => ?_)) (Do_.mk rfl (fun K hK => ?_))
  · refine wpList_mk rfl _ _ _ rfl 39 1 24 _ Tryz.underlying29 infoBytes rfl (by decide) _ _ _ _ 64 rfl rfl rfl rfl (by omega) (by omega) ?_
    simp only [Act.put, List.setIfInBounds_toArray, List.set_cons_zero, List.set_cons_succ]
    go_wp2_with fail
    refine WA.keep trivial ?_
    refine WA.one 2 (by kernel_rfl) (Do_.mk rfl (fun K hK => ?_))
    refine wpList_mk rfl _ _ _ rfl 3 1 8 _ Tryz.underlying22 infoInt rfl (by decide) _ _ _ _ 64 rfl rfl rfl rfl (by omega) (by omega) ?_
    simp only [Act.put, List.setIfInBounds_toArray, List.set_cons_zero, List.set_cons_succ]
    go_wp2_with fail
    refine WA.keep trivial ?_
    (refine WA.free 3 rfl rfl (by kernel_rfl) (fun K hK => ?_); go_big_quiet_step (fail); refine wpQuiet_nil ?_; refine hK _ ?_; clear hK K)
    refine WA.one 4 (by kernel_rfl) (Do_.mk rfl (fun K hK => ?_))
    go_wp2_with fail
    refine WA.keep trivial ?_
    (refine WA.free 5 rfl rfl (by kernel_rfl) (fun K hK => ?_); go_big_quiet_step (fail); refine wpQuiet_nil ?_; refine hK _ ?_; clear hK K)
    refine WA.nil (by kernel_rfl) ?_
    go_wp2_with fail
    go_ret
    rw [rows_vl, rows_vl]
    have h1 : Blk (((w.alloc (.cells (vl fun _ => (.slice none 0 0 : Value)).toArray 39)).alloc (.cells (vl fun _ => (.int .i64 0 : Value)).toArray 3)).alloc (.cells #[.int .i64 (room : Int), .slice (some ⟨w.heap.size, 0, none⟩) 64 64, .slice (some ⟨(w.heap.size + 1), 0, none⟩) 64 64, .bool false, .int .i64 (-1)] 50)).drew (w.heap.size + 1 + 1) [.int .i64 (room : Int), .slice (some ⟨w.heap.size, 0, none⟩) 64 64, .slice (some ⟨(w.heap.size + 1), 0, none⟩) 64 64, .bool false, .int .i64 (-1)] 50 := by
      have := (Blk.new ((w.alloc (.cells (vl fun _ => (.slice none 0 0 : Value)).toArray 39)).alloc (.cells (vl fun _ => (.int .i64 0 : Value)).toArray 3)) [.int .i64 (room : Int), .slice (some ⟨w.heap.size, 0, none⟩) 64 64, .slice (some ⟨(w.heap.size + 1), 0, none⟩) 64 64, .bool false, .int .i64 (-1)] 50).drew
      simpa using this
    have h2 := (((Blk.new w (vl fun _ => (.slice none 0 0 : Value)) 39).alloc (.cells (vl fun _ => (.int .i64 0 : Value)).toArray 3)).alloc (.cells #[.int .i64 (room : Int), .slice (some ⟨w.heap.size, 0, none⟩) 64 64, .slice (some ⟨(w.heap.size + 1), 0, none⟩) 64 64, .bool false, .int .i64 (-1)] 50)).drew
    have h3 : Blk (((w.alloc (.cells (vl fun _ => (.slice none 0 0 : Value)).toArray 39)).alloc (.cells (vl fun _ => (.int .i64 0 : Value)).toArray 3)).alloc (.cells #[.int .i64 (room : Int), .slice (some ⟨w.heap.size, 0, none⟩) 64 64, .slice (some ⟨(w.heap.size + 1), 0, none⟩) 64 64, .bool false, .int .i64 (-1)] 50)).drew (w.heap.size + 1) (vl fun _ => (.int .i64 0 : Value)) 3 := by
      have := ((Blk.new (w.alloc (.cells (vl fun _ => (.slice none 0 0 : Value)).toArray 39)) (vl fun _ => (.int .i64 0 : Value)) 3).alloc (.cells #[.int .i64 (room : Int), .slice (some ⟨w.heap.size, 0, none⟩) 64 64, .slice (some ⟨(w.heap.size + 1), 0, none⟩) 64 64, .bool false, .int .i64 (-1)] 50)).drew
      simpa using this
    exact ⟨_, _, rfl, rdk_new hr h1 h2 h3 (by omega) (by omega) (by omega), (by iterate 25 (first | exact Upd.refl _ _ | assumption | refine Upd.alloc ?_ _ | refine Upd.drew ?_ | refine Upd.drewN ?_ _ | refine Upd.dl ?_ | refine Upd.step ?_ (Ext.upd _) | refine Upd.nil ?_ | skip)), by intro k hk; simp at hk; omega⟩
  · refine wpList_mk rfl _ _ _ rfl 3 1 8 _ Tryz.underlying22 infoInt rfl (by decide) _ _ _ _ 64 rfl rfl rfl rfl (by omega) (by omega) ?_
    simp only [Act.put, List.setIfInBounds_toArray, List.set_cons_zero, List.set_cons_succ]
    go_wp2_with fail
    refine WA.keep trivial ?_
    refine WA.one 1 (by kernel_rfl) (Do_.mk rfl (fun K hK => ?_))
    refine wpList_mk rfl _ _ _ rfl 39 1 24 _ Tryz.underlying29 infoBytes rfl (by decide) _ _ _ _ 64 rfl rfl rfl rfl (by omega) (by omega) ?_
    simp only [Act.put, List.setIfInBounds_toArray, List.set_cons_zero, List.set_cons_succ]
    go_wp2_with fail
    refine WA.keep trivial ?_
    (refine WA.free 3 rfl rfl (by kernel_rfl) (fun K hK => ?_); go_big_quiet_step (fail); refine wpQuiet_nil ?_; refine hK _ ?_; clear hK K)
    refine WA.one 4 (by kernel_rfl) (Do_.mk rfl (fun K hK => ?_))
    go_wp2_with fail
    refine WA.keep trivial ?_
    (refine WA.free 5 rfl rfl (by kernel_rfl) (fun K hK => ?_); go_big_quiet_step (fail); refine wpQuiet_nil ?_; refine hK _ ?_; clear hK K)
    refine WA.nil (by kernel_rfl) ?_
    go_wp2_with fail
    go_ret
    rw [rows_vl, rows_vl]
    have h1 : Blk (((w.alloc (.cells (vl fun _ => (.int .i64 0 : Value)).toArray 3)).alloc (.cells (vl fun _ => (.slice none 0 0 : Value)).toArray 39)).alloc (.cells #[.int .i64 (room : Int), .slice (some ⟨(w.heap.size + 1), 0, none⟩) 64 64, .slice (some ⟨w.heap.size, 0, none⟩) 64 64, .bool false, .int .i64 (-1)] 50)).drew (w.heap.size + 1 + 1) [.int .i64 (room : Int), .slice (some ⟨(w.heap.size + 1), 0, none⟩) 64 64, .slice (some ⟨w.heap.size, 0, none⟩) 64 64, .bool false, .int .i64 (-1)] 50 := by
      have := (Blk.new ((w.alloc (.cells (vl fun _ => (.int .i64 0 : Value)).toArray 3)).alloc (.cells (vl fun _ => (.slice none 0 0 : Value)).toArray 39)) [.int .i64 (room : Int), .slice (some ⟨(w.heap.size + 1), 0, none⟩) 64 64, .slice (some ⟨w.heap.size, 0, none⟩) 64 64, .bool false, .int .i64 (-1)] 50).drew
      simpa using this
    have h3 := (((Blk.new w (vl fun _ => (.int .i64 0 : Value)) 3).alloc (.cells (vl fun _ => (.slice none 0 0 : Value)).toArray 39)).alloc (.cells #[.int .i64 (room : Int), .slice (some ⟨(w.heap.size + 1), 0, none⟩) 64 64, .slice (some ⟨w.heap.size, 0, none⟩) 64 64, .bool false, .int .i64 (-1)] 50)).drew
    have h2 : Blk (((w.alloc (.cells (vl fun _ => (.int .i64 0 : Value)).toArray 3)).alloc (.cells (vl fun _ => (.slice none 0 0 : Value)).toArray 39)).alloc (.cells #[.int .i64 (room : Int), .slice (some ⟨(w.heap.size + 1), 0, none⟩) 64 64, .slice (some ⟨w.heap.size, 0, none⟩) 64 64, .bool false, .int .i64 (-1)] 50)).drew (w.heap.size + 1) (vl fun _ => (.slice none 0 0 : Value)) 39 := by
      have := ((Blk.new (w.alloc (.cells (vl fun _ => (.int .i64 0 : Value)).toArray 3)) (vl fun _ => (.slice none 0 0 : Value)) 39).alloc (.cells #[.int .i64 (room : Int), .slice (some ⟨(w.heap.size + 1), 0, none⟩) 64 64, .slice (some ⟨w.heap.size, 0, none⟩) 64 64, .bool false, .int .i64 (-1)] 50)).drew
      simpa using this
    exact ⟨_, _, rfl, rdk_new hr h1 h2 h3 (by omega) (by omega) (by omega), (by iterate 25 (first | exact Upd.refl _ _ | assumption | refine Upd.alloc ?_ _ | refine Upd.drew ?_ | refine Upd.drewN ?_ _ | refine Upd.dl ?_ | refine Upd.step ?_ (Ext.upd _) | refine Upd.nil ?_ | skip)), by intro k hk; simp at hk; omega⟩
end
end Disk
end Go.Proofs.YtfkgpecglcjpkaaGreat
end
section
open Go.RowKit
namespace Go.Proofs.YtfkgpecglcjpkaaGreat
open L
namespace Disk
open Wire
/-- The model of a disk, its state perhaps not whole. -/
structure RDk0 (w : World) (p : Nat) (s : DS) (S : List Nat) : Prop where
  ex : ∃ bB bF V, Blk w p [.int .i64 (s.room : Int), .slice (some ⟨bB, 0, none⟩) 64 64, .slice (some ⟨bF, 0, none⟩) 64 64, .bool s.off, .int .i64 s.plan] 50 ∧ Blk w bB (vl V) 39 ∧ Blk w bF (vl fun i => .int .i64 (s.F i : Int)) 3 ∧
    p ≠ bB ∧ p ≠ bF ∧ bB ≠ bF ∧ p ∈ S ∧ bB ∈ S ∧ bF ∈ S ∧
    (∀ i, i < 64 → w.ownsRow 0 5 1 (V i) (s.B i).length (byts (s.B i)) ∧ ∀ g, (V i).ownBlock = some g → g ∈ S ∧ g ≠ p ∧ g ≠ bB ∧ g ≠ bF) ∧
    (∀ i j, i < 64 → j < 64 → i ≠ j → ∀ g, (V i).ownBlock = some g → (V j).ownBlock ≠ some g)
  lt : ∀ k ∈ S, k < w.heap.size
section
variable {w w' : World} {p : Nat} {s : DS} {S : List Nat}
theorem RDk.to0 (h : RDk w p s S) : RDk0 w p s S := ⟨h.ex, h.lt⟩
theorem RDk0.ok (h : RDk0 w p s S) (hok : s.Ok) : RDk w p s S := ⟨h.ex, hok, h.lt⟩
theorem RDk0.upd {T : List Nat} (h : RDk0 w p s S) (hu : Upd T w w') (hT : ∀ k ∈ T, k ∉ S) : RDk0 w' p s S := by
  obtain ⟨⟨bB, bF, V, h1, h2, h3, h4, h5, h6, h7, h8, h9, h10, h11⟩, hlt⟩ := h
  refine ⟨⟨bB, bF, V, h1.upd hu (fun hp => hT p hp h7), h2.upd hu (fun hp => hT _ hp h8), h3.upd hu (fun hp => hT _ hp h9), h4, h5, h6, h7, h8, h9, fun i hi => ?_, h11⟩, fun k hk => Nat.lt_of_lt_of_le (hlt k hk) hu.size⟩
  obtain ⟨a1, a2⟩ := h10 i hi
  exact ⟨ownsRow_updL a1 hu (fun b hb e => hT b hb (a2 b e).1), a2⟩
theorem row_setU {w : World} {e : TypeId} {g n cap : Nat} {xs : List Value} (h : w.ownsRow 0 e 1 (.slice (some ⟨g, 0, none⟩) n cap) n xs) :
    ∃ cur : List Value, Blk w g cur e ∧ (∀ (j : Nat) (u : Value), xs[j]? = some u → cur[j]? = some u) ∧ ∀ (w' : World) (j : Nat) (u : Value), j < n → Blk w' g (cur.set j u) e → w'.ownsRow 0 e 1 (.slice (some ⟨g, 0, none⟩) n cap) n (xs.set j u) := row_set h
/-- One file opened for a change. -/
theorem RDk0.file (h : RDk0 w p s S) {i : Nat} (hi : i < 64) : ∃ bB a c, w.cell? ⟨p, 1, none⟩ = some (.slice (some ⟨bB, 0, none⟩) 64 64) ∧ w.cell? ⟨bB, i, none⟩ = some (.slice a (s.B i).length c) ∧ w.frozen? ⟨bB, i, none⟩ = false ∧ bB ∈ S ∧
    w.ownsRow 0 5 1 (.slice a (s.B i).length c) (s.B i).length (byts (s.B i)) ∧ (∀ g, (Value.slice a (s.B i).length c).ownBlock = some g → g ∈ S ∧ g ≠ bB ∧ g ≠ p) ∧
    ∀ (T : List Nat) (w1 : World) (v : Value) (b : List Int), (∀ k ∈ T, k ∉ S ∨ (Value.slice a (s.B i).length c).ownBlock = some k) → Upd T w w1 → w1.ownsRow 0 5 1 v b.length (byts b) → (∀ g, v.ownBlock = some g → (g ∉ S ∧ g < w1.heap.size) ∨ (Value.slice a (s.B i).length c).ownBlock = some g) →
      RDk0 (w1.setCell ⟨bB, i, none⟩ v) p { s with B := setB s.B i b } (v.ownBlock.toList ++ S) ∧ Upd (bB :: T) w (w1.setCell ⟨bB, i, none⟩ v) := by
  obtain ⟨⟨bB, bF, V, h1, h2, h3, h4, h5, h6, h7, h8, h9, h10, h11⟩, hlt⟩ := h
  obtain ⟨_, a, c, hv, _⟩ := SL.of_owns (h10 i hi).1
  have hrow := (h10 i hi).1
  have hown := (h10 i hi).2
  have d0 := h2.cell (vl_get V hi)
  rw [hv] at hrow hown d0
  refine ⟨bB, a, c, h1.cell (i := 1) rfl, d0, h2.free i, h8, hrow, fun g hg => ⟨(hown g hg).1, (hown g hg).2.2.1, (hown g hg).2.1⟩, fun T w1 v b hT0 hu row hvb => ?_⟩
  have hT : ∀ k, k ∈ S → (k = p ∨ k = bB ∨ k = bF ∨ (∃ j, j < 64 ∧ j ≠ i ∧ (V j).ownBlock = some k)) → k ∉ T := fun k hk hc hm => by
    rcases hT0 k hm with h | h
    · exact h hk
    · have ho := hown k h
      rcases hc with rfl | rfl | rfl | ⟨j, hj, hne, hV⟩
      · exact ho.2.1 rfl
      · exact ho.2.2.1 rfl
      · exact ho.2.2.2 rfl
      · rw [← hv] at h
        exact h11 i j hi hj (Ne.symm hne) k h hV
  have hu2 : Upd [bB] w1 (w1.setCell ⟨bB, i, none⟩ v) := (Upd.refl _ w1).set (.inl (by simp)) _
  have k1 := h1.upd hu (hT _ h7 (.inl rfl))
  have k2 := (h2.upd hu (hT _ h8 (.inr (.inl rfl)))).set i v
  have k3 := h3.upd hu (hT _ h9 (.inr (.inr (.inl rfl))))
  rw [vl_set V v hi] at k2
  have hvS : ∀ g, v.ownBlock = some g → g ≠ p ∧ g ≠ bB ∧ g ≠ bF ∧ g < w1.heap.size := fun g hg => by
    rcases hvb g hg with h | h
    · exact ⟨fun e => h.1 (e ▸ h7), fun e => h.1 (e ▸ h8), fun e => h.1 (e ▸ h9), h.2⟩
    · have := hown g h
      exact ⟨this.2.1, this.2.2.1, this.2.2.2, Nat.lt_of_lt_of_le (hlt g this.1) hu.size⟩
  refine ⟨⟨⟨bB, bF, fun j => if j = i then v else V j, k1.upd hu2 (by simp; exact h4), k2, k3.upd hu2 (by simp; exact fun e => h6 e.symm), h4, h5, h6, List.mem_append_right _ h7, List.mem_append_right _ h8, List.mem_append_right _ h9, fun j hj => ?_, fun j k hj hk hne g hg => ?_⟩, fun k hk => ?_⟩, ?_⟩
  · by_cases e : j = i
    · subst e
      simp only [if_pos, setB]
      exact ⟨ownsRow_updL row hu2 (fun b' hb' e => (hvS b' e).2.1 (by simpa using hb')), fun g hg => ⟨List.mem_append_left _ (by simp [hg]), (hvS g hg).1, (hvS g hg).2.1, (hvS g hg).2.2.1⟩⟩
    · simp only [if_neg e, setB]
      obtain ⟨a1, a2⟩ := h10 j hj
      exact ⟨ownsRow_updL (ownsRow_updL a1 hu (fun b' hb' e' => hT b' (a2 b' e').1 (.inr (.inr (.inr ⟨j, hj, e, e'⟩))) hb')) hu2 (fun b' hb' e' => (a2 b' e').2.2.1 (by simpa using hb')), fun g hg => ⟨List.mem_append_right _ (a2 g hg).1, (a2 g hg).2⟩⟩
  · have key : ∀ k, k < 64 → k ≠ i → ∀ g, v.ownBlock = some g → (V k).ownBlock ≠ some g := fun k hk hne g hg hV => by
      rcases hvb g hg with h | h
      · exact h.1 ((h10 k hk).2 g hV).1
      · rw [← hv] at h
        exact h11 i k hi hk (Ne.symm hne) g h hV
    by_cases e : j = i
    · subst e
      simp only [if_pos] at hg
      simp only [if_neg (Ne.symm hne)]
      exact key k hk (Ne.symm hne) g hg
    · simp only [if_neg e] at hg
      by_cases e2 : k = i
      · subst e2
        simp only [if_pos]
        exact fun hg2 => key j hj e g hg2 hg
      · simp only [if_neg e2]
        exact h11 j k hj hk hne g hg
  · rcases List.mem_append.1 hk with hk | hk
    · have := (hvS k (by simpa using hk)).2.2.2
      exact Nat.lt_of_lt_of_le this hu2.size
    · exact Nat.lt_of_lt_of_le (hlt k hk) (Nat.le_trans hu.size hu2.size)
  · exact (hu.wide (fun k hk => .inl (List.mem_cons_of_mem _ hk))).set (.inl (by simp)) _
/-- One mark opened for a change. -/
theorem RDk0.mark (h : RDk0 w p s S) {i : Nat} (hi : i < 64) : ∃ bF, w.cell? ⟨p, 2, none⟩ = some (.slice (some ⟨bF, 0, none⟩) 64 64) ∧ w.cell? ⟨bF, i, none⟩ = some (.int .i64 (s.F i : Int)) ∧ w.frozen? ⟨bF, i, none⟩ = false ∧ bF ∈ S ∧
    ∀ (T : List Nat) (w1 : World) (n : Nat), (∀ k ∈ T, k ∉ S) → Upd T w w1 → RDk0 (w1.setCell ⟨bF, i, none⟩ (.int .i64 (n : Int))) p { s with F := setF s.F i n } S ∧ Upd (bF :: T) w (w1.setCell ⟨bF, i, none⟩ (.int .i64 (n : Int))) := by
  obtain ⟨⟨bB, bF, V, h1, h2, h3, h4, h5, h6, h7, h8, h9, h10, h11⟩, hlt⟩ := h
  refine ⟨bF, h1.cell (i := 2) rfl, h3.cell (vl_get (fun i => Value.int .i64 (s.F i : Int)) hi), h3.free i, h9, fun T w1 n hT hu => ?_⟩
  have hu2 : Upd [bF] w1 (w1.setCell ⟨bF, i, none⟩ (.int .i64 (n : Int))) := (Upd.refl _ w1).set (.inl (by simp)) _
  have k3 := (h3.upd hu (fun hm => hT _ hm h9)).set i (.int .i64 (n : Int))
  rw [vl_set _ _ hi] at k3
  refine ⟨⟨⟨bB, bF, V, (h1.upd hu (fun hm => hT _ hm h7)).upd hu2 (by simp; exact h5), (h2.upd hu (fun hm => hT _ hm h8)).upd hu2 (by simp; exact h6), ?_, h4, h5, h6, h7, h8, h9, fun j hj => ?_, h11⟩, fun k hk => Nat.lt_of_lt_of_le (hlt k hk) (Nat.le_trans hu.size hu2.size)⟩, (hu.wide (fun k hk => .inl (List.mem_cons_of_mem _ hk))).set (.inl (by simp)) _⟩
  · have e : (vl fun j => if j = i then Value.int .i64 (n : Int) else Value.int .i64 (s.F j : Int)) = vl fun j => Value.int .i64 ((setF s.F i n j : Nat) : Int) := by
      congr 1; funext j; unfold setF; split <;> rfl
    rw [← e]; exact k3
  · obtain ⟨a1, a2⟩ := h10 j hj
    exact ⟨ownsRow_updL (ownsRow_updL a1 hu (fun b' hb' e' => hT b' hb' (a2 b' e').1)) hu2 (fun b' hb' e' => (a2 b' e').2.2.2 (by simpa using hb')), a2⟩
/-- One byte of a file written in place. -/
theorem RDk0.poke (h : RDk0 w p s S) {i : Nat} (hi : i < 64) (hn : s.B i ≠ []) : ∃ bB g c, w.cell? ⟨p, 1, none⟩ = some (.slice (some ⟨bB, 0, none⟩) 64 64) ∧ w.cell? ⟨bB, i, none⟩ = some (.slice (some ⟨g, 0, none⟩) (s.B i).length c) ∧ g ∈ S ∧
    (∀ (j : Nat) (x : Int), (s.B i)[j]? = some x → w.cell? ⟨g, j, none⟩ = some (.int .u8 x) ∧ w.frozen? ⟨g, j, none⟩ = false) ∧
    ∀ (w1 : World) (j : Nat) (x : Int), Upd [] w w1 → j < (s.B i).length → RDk0 (w1.setCell ⟨g, j, none⟩ (.int .u8 x)) p { s with B := setB s.B i ((s.B i).set j x) } S := by
  obtain ⟨⟨bB, bF, V, h1, h2, h3, h4, h5, h6, h7, h8, h9, h10, h11⟩, hlt⟩ := h
  obtain ⟨g, c, hv, _, _⟩ := owns_form (h10 i hi).1 (List.length_pos_iff.2 hn)
  have hrow := (h10 i hi).1
  have hown := (h10 i hi).2
  have d0 := h2.cell (vl_get V hi)
  rw [hv] at hrow hown d0
  obtain ⟨hgS, hgp, hgB, hgF⟩ := hown g rfl
  obtain ⟨cur, hB, hcur, _⟩ := row_setU hrow
  refine ⟨bB, g, c, h1.cell (i := 1) rfl, d0, hgS, fun j x hj => ⟨hB.cell (hcur j _ (byts_get hj)), hB.free j⟩, fun w1 j x hu hj => ?_⟩
  have hu2 : Upd [g] w1 (w1.setCell ⟨g, j, none⟩ (.int .u8 x)) := (Upd.refl _ w1).set (.inl (by simp)) _
  obtain ⟨cur1, hB1, hcur1, hset1⟩ := row_setU (ownsRow_updL hrow hu (by simp))
  have row2 := hset1 (w1.setCell ⟨g, j, none⟩ (.int .u8 x)) j (.int .u8 x) hj (hB1.set j _)
  refine ⟨⟨bB, bF, V, (h1.upd hu (by simp)).upd hu2 (by simp; exact fun e => hgp e.symm), (h2.upd hu (by simp)).upd hu2 (by simp; exact fun e => hgB e.symm), (h3.upd hu (by simp)).upd hu2 (by simp; exact fun e => hgF e.symm), h4, h5, h6, h7, h8, h9, fun k hk => ?_, h11⟩, fun k hk => Nat.lt_of_lt_of_le (hlt k hk) (Nat.le_trans hu.size hu2.size)⟩
  by_cases e : k = i
  · subst e
    simp only [setB, if_pos]
    refine ⟨?_, (h10 k hk).2⟩
    rw [hv, List.length_set]
    have e2 : byts ((s.B k).set j x) = (byts (s.B k)).set j (.int .u8 x) := by simp [byts, List.map_set]
    rw [e2]; exact row2
  · simp only [setB, if_neg e]
    obtain ⟨a1, a2⟩ := h10 k hk
    refine ⟨ownsRow_updL (ownsRow_updL a1 hu (by simp)) hu2 (fun b hb e' => ?_), a2⟩
    simp only [List.mem_singleton] at hb
    subst hb
    exact h11 k i hk hi e b e' (by rw [hv]; rfl)
end
end Disk
end Go.Proofs.YtfkgpecglcjpkaaGreat
end
