/- Walks through the reference of package disk: New. Conditions: none. -/
import Derived.Test.YtnljjkmmnkldcaaDiskS
set_option linter.unusedVariables false
set_option linter.unusedSimpArgs false
set_option linter.unusedSectionVars false
open Go.RowKit
namespace Go.Proofs.Ytnljjkmmnkldcaa
open L
namespace Disk
open Wire
section
variable {w w' : World} {p : Nat} {s : DS} {S : List Nat}
theorem rows_vl (v : Value) : (rows 64 fun _ => [v]) = vl (fun _ => v) := by
  rw [rows_one]
  unfold vl
  rw [List.map_const', List.length_range]
theorem rdk_new {bB bF q room : Nat} (hr : room ≤ 16777216) (h1 : Blk w q [.int .i64 (room : Int), .slice (some ⟨bB, 0, none⟩) 64 64, .slice (some ⟨bF, 0, none⟩) 64 64, .bool false, .int .i64 (-1)] 58) (h2 : Blk w bB (vl fun _ => .slice none 0 0) 27) (h3 : Blk w bF (vl fun _ => .int .i64 0) 3)
    (h4 : q ≠ bB) (h5 : q ≠ bF) (h6 : bB ≠ bF) : RDk w q (newS room) [q, bB, bF] := by
  refine ⟨⟨bB, bF, fun _ => .slice none 0 0, h1, h2, h3, h4, h5, h6, by simp, by simp, by simp, fun i hi => ⟨World.ownsRow_nil _ _ _ _, by simp [Value.ownBlock]⟩, fun i j _ _ _ g hg => by simp [Value.ownBlock] at hg⟩, newS_ok hr, fun k hk => ?_⟩
  simp only [List.mem_cons, List.not_mem_nil, or_false] at hk
  rcases hk with rfl | rfl | rfl
  · exact h1.lt
  · exact h2.lt
  · exact h3.lt
set_option maxRecDepth 100000 in
set_option maxHeartbeats 2000000 in
theorem RNew_calls {room : Nat} (hr : room ≤ 16777216) : Calls Try.prog 22 #[.int .i64 (room : Int)] w fun e w' => ∃ q S, e = .returned (.pointer (some ⟨q, 0, none⟩)) ∧ RDk w' q (newS room) S ∧ Upd [] w w' ∧ ∀ k ∈ S, w.heap.size ≤ k := by
  go_enter Try.func22, Try.ntmps22
  go_wp2_with fail
  refine wp_region_wa 6 6 (fun _ => True) (by kernel_rfl) (by kernel_rfl) trivial ?_
  (refine WA.free 0 rfl rfl (by kernel_rfl) (fun K hK => ?_); go_big_quiet_step (fail); refine wpQuiet_nil ?_; refine hK _ ?_; clear hK K)
  refine WA.two 1 2 (by kernel_rfl) (Do_.mk rfl (fun K hK => ?_)) (Do_.mk rfl (fun K hK => ?_))
  · refine wpList_mk rfl _ _ _ rfl 27 1 24 _ Try.underlying22 infoBytes rfl (by decide) _ _ _ _ 64 rfl rfl rfl rfl (by omega) (by omega) ?_
    simp only [Act.put, List.setIfInBounds_toArray, List.set_cons_zero, List.set_cons_succ]
    go_wp2_with fail
    refine WA.keep trivial ?_
    refine WA.one 2 (by kernel_rfl) (Do_.mk rfl (fun K hK => ?_))
    refine wpList_mk rfl _ _ _ rfl 3 1 8 _ Try.underlying33 infoInt rfl (by decide) _ _ _ _ 64 rfl rfl rfl rfl (by omega) (by omega) ?_
    simp only [Act.put, List.setIfInBounds_toArray, List.set_cons_zero, List.set_cons_succ]
    go_wp2_with fail
    refine WA.keep trivial ?_
    (refine WA.free 3 rfl rfl (by kernel_rfl) (fun K hK => ?_); go_big_quiet_step (fail); refine wpQuiet_nil ?_; refine hK _ ?_; clear hK K)
    refine WA.one 4 (by kernel_rfl) (Do_.mk rfl (fun K hK => ?_))
    go_wp2_with fail
    refine WA.keep trivial ?_
    (refine WA.free 5 rfl rfl (by kernel_rfl) (fun K hK => ?_); go_big_quiet_step (fail); refine wpQuiet_nil ?_; refine hK _ ?_; clear hK K)
    refine WA.nil (by kernel_rfl) ?_
    go_wp2_with fail
    go_ret
    rw [rows_vl, rows_vl]
    have h1 : Blk (((w.alloc (.cells (vl fun _ => (.slice none 0 0 : Value)).toArray 27)).alloc (.cells (vl fun _ => (.int .i64 0 : Value)).toArray 3)).alloc (.cells #[.int .i64 (room : Int), .slice (some ⟨w.heap.size, 0, none⟩) 64 64, .slice (some ⟨(w.heap.size + 1), 0, none⟩) 64 64, .bool false, .int .i64 (-1)] 58)).drew (w.heap.size + 1 + 1) [.int .i64 (room : Int), .slice (some ⟨w.heap.size, 0, none⟩) 64 64, .slice (some ⟨(w.heap.size + 1), 0, none⟩) 64 64, .bool false, .int .i64 (-1)] 58 := by
      have := (Blk.new ((w.alloc (.cells (vl fun _ => (.slice none 0 0 : Value)).toArray 27)).alloc (.cells (vl fun _ => (.int .i64 0 : Value)).toArray 3)) [.int .i64 (room : Int), .slice (some ⟨w.heap.size, 0, none⟩) 64 64, .slice (some ⟨(w.heap.size + 1), 0, none⟩) 64 64, .bool false, .int .i64 (-1)] 58).drew
      simpa using this
    have h2 := (((Blk.new w (vl fun _ => (.slice none 0 0 : Value)) 27).alloc (.cells (vl fun _ => (.int .i64 0 : Value)).toArray 3)).alloc (.cells #[.int .i64 (room : Int), .slice (some ⟨w.heap.size, 0, none⟩) 64 64, .slice (some ⟨(w.heap.size + 1), 0, none⟩) 64 64, .bool false, .int .i64 (-1)] 58)).drew
    have h3 : Blk (((w.alloc (.cells (vl fun _ => (.slice none 0 0 : Value)).toArray 27)).alloc (.cells (vl fun _ => (.int .i64 0 : Value)).toArray 3)).alloc (.cells #[.int .i64 (room : Int), .slice (some ⟨w.heap.size, 0, none⟩) 64 64, .slice (some ⟨(w.heap.size + 1), 0, none⟩) 64 64, .bool false, .int .i64 (-1)] 58)).drew (w.heap.size + 1) (vl fun _ => (.int .i64 0 : Value)) 3 := by
      have := ((Blk.new (w.alloc (.cells (vl fun _ => (.slice none 0 0 : Value)).toArray 27)) (vl fun _ => (.int .i64 0 : Value)) 3).alloc (.cells #[.int .i64 (room : Int), .slice (some ⟨w.heap.size, 0, none⟩) 64 64, .slice (some ⟨(w.heap.size + 1), 0, none⟩) 64 64, .bool false, .int .i64 (-1)] 58)).drew
      simpa using this
    exact ⟨_, _, rfl, rdk_new hr h1 h2 h3 (by omega) (by omega) (by omega), (by iterate 25 (first | exact Upd.refl _ _ | assumption | refine Upd.alloc ?_ _ | refine Upd.drew ?_ | refine Upd.drewN ?_ _ | refine Upd.dl ?_ | refine Upd.step ?_ (Ext.upd _) | refine Upd.nil ?_ | skip)), by intro k hk; simp at hk; omega⟩
  · refine wpList_mk rfl _ _ _ rfl 3 1 8 _ Try.underlying33 infoInt rfl (by decide) _ _ _ _ 64 rfl rfl rfl rfl (by omega) (by omega) ?_
    simp only [Act.put, List.setIfInBounds_toArray, List.set_cons_zero, List.set_cons_succ]
    go_wp2_with fail
    refine WA.keep trivial ?_
    refine WA.one 1 (by kernel_rfl) (Do_.mk rfl (fun K hK => ?_))
    refine wpList_mk rfl _ _ _ rfl 27 1 24 _ Try.underlying22 infoBytes rfl (by decide) _ _ _ _ 64 rfl rfl rfl rfl (by omega) (by omega) ?_
    simp only [Act.put, List.setIfInBounds_toArray, List.set_cons_zero, List.set_cons_succ]
    go_wp2_with fail
    refine WA.keep trivial ?_
    (refine WA.free 3 rfl rfl (by kernel_rfl) (fun K hK => ?_); go_big_quiet_step (fail); refine wpQuiet_nil ?_; refine hK _ ?_; clear hK K)
    refine WA.one 4 (by kernel_rfl) (Do_.mk rfl (fun K hK => ?_))
    go_wp2_with fail
    refine WA.keep trivial ?_
    (refine WA.free 5 rfl rfl (by kernel_rfl) (fun K hK => ?_); go_big_quiet_step (fail); refine wpQuiet_nil ?_; refine hK _ ?_; clear hK K)
    refine WA.nil (by kernel_rfl) ?_
    go_wp2_with fail
    go_ret
    rw [rows_vl, rows_vl]
    have h1 : Blk (((w.alloc (.cells (vl fun _ => (.int .i64 0 : Value)).toArray 3)).alloc (.cells (vl fun _ => (.slice none 0 0 : Value)).toArray 27)).alloc (.cells #[.int .i64 (room : Int), .slice (some ⟨(w.heap.size + 1), 0, none⟩) 64 64, .slice (some ⟨w.heap.size, 0, none⟩) 64 64, .bool false, .int .i64 (-1)] 58)).drew (w.heap.size + 1 + 1) [.int .i64 (room : Int), .slice (some ⟨(w.heap.size + 1), 0, none⟩) 64 64, .slice (some ⟨w.heap.size, 0, none⟩) 64 64, .bool false, .int .i64 (-1)] 58 := by
      have := (Blk.new ((w.alloc (.cells (vl fun _ => (.int .i64 0 : Value)).toArray 3)).alloc (.cells (vl fun _ => (.slice none 0 0 : Value)).toArray 27)) [.int .i64 (room : Int), .slice (some ⟨(w.heap.size + 1), 0, none⟩) 64 64, .slice (some ⟨w.heap.size, 0, none⟩) 64 64, .bool false, .int .i64 (-1)] 58).drew
      simpa using this
    have h3 := (((Blk.new w (vl fun _ => (.int .i64 0 : Value)) 3).alloc (.cells (vl fun _ => (.slice none 0 0 : Value)).toArray 27)).alloc (.cells #[.int .i64 (room : Int), .slice (some ⟨(w.heap.size + 1), 0, none⟩) 64 64, .slice (some ⟨w.heap.size, 0, none⟩) 64 64, .bool false, .int .i64 (-1)] 58)).drew
    have h2 : Blk (((w.alloc (.cells (vl fun _ => (.int .i64 0 : Value)).toArray 3)).alloc (.cells (vl fun _ => (.slice none 0 0 : Value)).toArray 27)).alloc (.cells #[.int .i64 (room : Int), .slice (some ⟨(w.heap.size + 1), 0, none⟩) 64 64, .slice (some ⟨w.heap.size, 0, none⟩) 64 64, .bool false, .int .i64 (-1)] 58)).drew (w.heap.size + 1) (vl fun _ => (.slice none 0 0 : Value)) 27 := by
      have := ((Blk.new (w.alloc (.cells (vl fun _ => (.int .i64 0 : Value)).toArray 3)) (vl fun _ => (.slice none 0 0 : Value)) 27).alloc (.cells #[.int .i64 (room : Int), .slice (some ⟨(w.heap.size + 1), 0, none⟩) 64 64, .slice (some ⟨w.heap.size, 0, none⟩) 64 64, .bool false, .int .i64 (-1)] 58)).drew
      simpa using this
    exact ⟨_, _, rfl, rdk_new hr h1 h2 h3 (by omega) (by omega) (by omega), (by iterate 25 (first | exact Upd.refl _ _ | assumption | refine Upd.alloc ?_ _ | refine Upd.drew ?_ | refine Upd.drewN ?_ _ | refine Upd.dl ?_ | refine Upd.step ?_ (Ext.upd _) | refine Upd.nil ?_ | skip)), by intro k hk; simp at hk; omega⟩
end
end Disk
end Go.Proofs.Ytnljjkmmnkldcaa
