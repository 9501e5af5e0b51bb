/- Walks through package trail: Lits. Conditions: none. -/
import Derived.Test.YtdhhohnaehdpkaaTrailE
set_option linter.unusedVariables false
set_option linter.unusedSimpArgs false
set_option linter.unusedSectionVars false
open Go.RowKit
namespace Go.Proofs.Ytdhhohnaehdpkaa
open L
namespace Trail
section
variable {w : World} {b vars : Nat} {es : Es} {now : Int} {S : List Nat}
theorem infoInt : (Try.prog.info? 3).map (fun i => (i.zero, i.size, i.bytes)) = some (some (.int .i64 0), 1, 8) := by kernel_rfl
def lits (es : Es) : List Int := es.map (·.1)
theorem lits_at {es : Es} {i : Nat} (h : i < es.length) : (lits es)[i]? = some (at_ es i).1 := by
  unfold lits at_; rw [List.getElem?_map, List.getD_eq_getElem?_getD, List.getElem?_eq_getElem h]; simp

theorem Lits_calls (h : Tr w b vars es now S) :
    Calls Try.prog 16 #[.pointer (some ⟨b, 0, none⟩)] w fun e w' => ∃ g, e = .returned (.slice (some ⟨g, 0, none⟩) es.length es.length) ∧ g = w.heap.size ∧ Blk w' g (ints (lits es)) 3 ∧ Upd [] w w' := by
  have hlen := h.wf.len
  have hv := h.wf.max
  obtain ⟨h0, pb, pcap, lv, pad, rfl, h1, h2, h3, h4, h5, h6, h7, h8⟩ := h
  have c1 := h1.cell (i := 1) rfl
  have hform : ∃ a cap, lv = .slice a es.length cap ∧ (0 < es.length → ∃ g, a = some ⟨g, 0, none⟩ ∧ ∀ i, i < es.length → w.cell? ⟨g, i * 3, none⟩ = some (.int .i64 (at_ es i).1) ∧
      w.cell? ⟨g, i * 3 + 1, none⟩ = some (.int .i64 (lev es i)) ∧ w.cell? ⟨g, i * 3 + 2, none⟩ = some (.int .i64 (at_ es i).2)) := by
    by_cases hz : 0 < es.length
    · obtain ⟨g, cap, rfl, _, _, hlc⟩ := list_cells h5 hz
      exact ⟨_, cap, rfl, fun _ => ⟨g, rfl, hlc⟩⟩
    · obtain ⟨a, cap, rfl, _⟩ := (SL.of_owns h5).val
      exact ⟨a, cap, rfl, fun h => absurd h hz⟩
  obtain ⟨a, cap, rfl, hcells⟩ := hform
  clear h0 h1 h2 h3 h4 h5 h6 h7 h8
  go_enter Try.func16, Try.ntmps16
  go_upto_region 2 with (at_make; refine wpList_mk rfl _ _ _ rfl 3 1 8 _ Try.underlying22 infoInt rfl (by decide) .i64 .i64 es.length es.length es.length rfl rfl (by omega) (by omega) (by omega) (by omega) ?_)
  have N1 := Blk.new w (rows es.length fun _ => [Value.int .i64 0]) 3
  have U1 := (Upd.refl [] w).alloc (.cells (rows es.length fun _ => [Value.int .i64 0]).toArray 3)
  generalize w.alloc (.cells (rows es.length fun _ => [Value.int .i64 0]).toArray 3) = w1 at *
  replace c1 := U1.some c1 (by simp)
  rw [rows_one] at N1
  generalize hg : w.heap.size = g at *
  have HG := Lib.hid hg
  clear hg
  go_wp2_with fail
  go_loopw [17] (fun i wr => ∃ k : Nat, k ≤ es.length ∧ i = .int .i64 k ∧ Upd [g] w1 wr ∧ Blk wr g (ints ((lits es).take k) ++ List.replicate (es.length - k) (.int .i64 0)) 3) (fun i _ => es.length - (intOf i).toNat)
  case atStart => exact ⟨0, Nat.zero_le _, rfl, Upd.refl _ _, by simpa [ints] using N1⟩
  case round =>
    obtain ⟨k, hk, rfl, hu, hb⟩ := hrel
    by_cases hlt : k < es.length
    · obtain ⟨ga, rfl, hc⟩ := hcells (by omega)
      obtain ⟨e0, e1, e2⟩ := hc k hlt
      have hga := World.block_lt_of_cell? w _ e0
      simp only at hga
      have hng : ga ≠ g := by rw [← HG.out]; omega
      replace e0 := hu.some (U1.some e0 (by simp)) (by simpa using hng)
      replace e1 := hu.some (U1.some e1 (by simp)) (by simpa using hng)
      replace e2 := hu.some (U1.some e2 (by simp)) (by simpa using hng)
      have hll : (lits es).length = es.length := by simp [lits]
      have cg : wr.cell? ⟨g, k, none⟩ = some (.int .i64 0) := hb.cell (by
        rw [List.getElem?_append_right (by rw [ints_length, List.length_take]; omega), ints_length, List.length_take, hll, Nat.min_eq_left hk, Nat.sub_self, List.getElem?_replicate, if_pos (by omega)])
      have fg := hb.free k
      have hgl := hb.lt
      have HB : Hid (ints ((lits es).take (k + 1)) ++ List.replicate (es.length - (k + 1)) (Value.int .i64 0) = (ints ((lits es).take k) ++ List.replicate (es.length - k) (Value.int .i64 0)).set k (.int .i64 (at_ es k).1)) := by
        rw [List.take_add_one, lits_at hlt, ints_append, List.set_append_right _ _ (by rw [ints_length, List.length_take]; omega), ints_length, List.length_take, hll, Nat.min_eq_left hk, Nat.sub_self, List.append_assoc]
        congr 1
        rw [show es.length - k = (es.length - (k + 1)) + 1 by omega, List.replicate_succ]
        rfl
      clear hc hcells c1
      generalize (at_ es k).1 = y at *
      generalize (at_ es k).2 = z at *
      generalize lev es k = x at *
      go_wp2_with fail
      refine ⟨⟨k + 1, by omega, by go_num, (hu.set (by simp) _).alloc _, ?_⟩, by simp [intOf]; omega⟩
      rw [HB.out]
      exact (hb.set k _).alloc _
    · have hke : k = es.length := by omega
      subst hke
      have hll : (lits es).length = es.length := by simp [lits]
      rw [List.take_of_length_le (by omega), Nat.sub_self, List.replicate_zero, List.append_nil] at hb
      go_wp2_with fail
      go_ret
      exact ⟨g, rfl, HG.out.symm, hb, U1.fresh hu (by simp [HG.out])⟩
end
end Trail
end Go.Proofs.Ytdhhohnaehdpkaa
