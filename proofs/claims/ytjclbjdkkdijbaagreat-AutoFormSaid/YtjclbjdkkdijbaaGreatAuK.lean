/- Walks through the law of chapter 05: own, plain. Conditions: none. -/
import Derived.Test.YtjclbjdkkdijbaaGreatAuF
set_option linter.unusedVariables false
set_option linter.unusedSimpArgs false
set_option linter.unusedSectionVars false
open Go.RowKit
namespace Go.Proofs.YtjclbjdkkdijbaaGreat
open L
namespace Aut
open Auto
attribute [-go_sem] sliced
section
variable {w : World} {v : Value}
theorem ret_own {w0 : World} {fn : Func} {a : Act} {p : Tmp} {rb : Nat} {cs : List Value} {r : Au} (h : fn.results = #[.cell p 31]) (hp : a.tmps.getD p undef = .pointer (some ⟨rb, 0, none⟩)) (hB : Blk w rb cs 31) (hdf : a.defers = []) (hv : AuF w r cs) (hu : Upd [] w0 w) :
    bodyPost Tryz.prog fn (fun e w' => ∃ v', e = .returned v' ∧ AuV w' r v' ∧ Upd [] w0 w') .ret a w := by
  have hl : (Tryz.prog.info? 31).map (·.size) = some cs.length := by
    obtain ⟨_, _, _, rfl, _⟩ := hv
    kernel_rfl
  exact bodyPost_ret (results_cell_row h a.tmps w rb 31 cs.toArray (0, 0) (.struct _) hp hB Tryz.underlying31 rfl (by simpa using hl)) hdf ⟨_, rfl, ⟨cs, rfl, hv⟩, hu⟩
set_option maxRecDepth 100000 in
set_option maxHeartbeats 4000000 in
theorem own_calls {a : Au} (h : AuV w a v) : Calls Tryz.prog 22 #[v] w fun e w' => ∃ v', e = .returned v' ∧ AuV w' a v' ∧ Upd [] w w' := by
  obtain ⟨a1, c1, a2, c2, a3, c3, rfl, hF⟩ := h.shape
  have HF := Lib.hid hF
  clear h hF
  go_enter Tryz.func22, Tryz.ntmps22
  go_upto_region 1 with fail
  have b1 := (Blk.new w [.slice a1 a.cuts.length c1, .slice a2 a.next.length c2, .slice a3 a.acc.length c3] 39).alloc (.cells #[.slice none 0 0, .slice none 0 0, .slice none 0 0] 31)
  have b2 := Blk.new (w.alloc (.cells #[.slice a1 a.cuts.length c1, .slice a2 a.next.length c2, .slice a3 a.acc.length c3] 39)) [.slice none 0 0, .slice none 0 0, .slice none 0 0] 31
  have u1 := ((Upd.refl [] w).alloc (.cells #[.slice a1 a.cuts.length c1, .slice a2 a.next.length c2, .slice a3 a.acc.length c3] 39)).alloc (.cells #[.slice none 0 0, .slice none 0 0, .slice none 0 0] 31)
  have z1 : (w.alloc (.cells #[.slice a1 a.cuts.length c1, .slice a2 a.next.length c2, .slice a3 a.acc.length c3] 39)).heap.size = w.heap.size + 1 := by simp
  rw [z1] at b2
  change Blk ((w.alloc (.cells #[.slice a1 a.cuts.length c1, .slice a2 a.next.length c2, .slice a3 a.acc.length c3] 39)).alloc (.cells #[.slice none 0 0, .slice none 0 0, .slice none 0 0] 31)) _ _ _ at b1
  change Blk ((w.alloc (.cells #[.slice a1 a.cuts.length c1, .slice a2 a.next.length c2, .slice a3 a.acc.length c3] 39)).alloc (.cells #[.slice none 0 0, .slice none 0 0, .slice none 0 0] 31)) _ _ _ at b2
  generalize ((w.alloc (.cells #[.slice a1 a.cuts.length c1, .slice a2 a.next.length c2, .slice a3 a.acc.length c3] 39)).alloc (.cells #[.slice none 0 0, .slice none 0 0, .slice none 0 0] 31)) = w1 at *
  have k0 := b1.cell (i := 0) rfl
  have k1 := b1.cell (i := 1) rfl
  have k2 := b1.cell (i := 2) rfl
  have r0 := b2.cell (i := 0) rfl
  have r1 := b2.cell (i := 1) rfl
  have r2 := b2.cell (i := 2) rfl
  have rf : ∀ q, w1.frozen? ⟨w.heap.size + 1, q, none⟩ = false := b2.free
  have HB := Lib.hid (And.intro b2 u1)
  clear b1 b2 u1 z1
  generalize hpa : w.heap.size = pa at *
  have HPA := Lib.hid hpa
  clear hpa
  go_wp2_with fail
  have hs := cell3_set (a := .slice a1 a.cuts.length c1) (b := .slice a2 a.next.length c2) (c := .slice a3 a.acc.length c3) HB.out.1
  have hu := HB.out.2.fresh hs.2 (fun b hb => .inr (by simp at hb; subst hb; have := HPA.out; omega))
  exact ret_own rfl rfl hs.1 rfl (HF.out.ext hu) hu
theorem ret_plain {w0 : World} {fn : Func} {a : Act} {p : Tmp} {rb : Nat} {cs : List Value} {r : Au} (h : fn.results = #[.cell p 39]) (hp : a.tmps.getD p undef = .pointer (some ⟨rb, 0, none⟩)) (hB : Blk w rb cs 39) (hdf : a.defers = []) (hv : AuF w r cs) (hu : Upd [] w0 w) :
    bodyPost Tryz.prog fn (fun e w' => ∃ v', e = .returned v' ∧ AuV w' r v' ∧ Upd [] w0 w') .ret a w := by
  have hl : (Tryz.prog.info? 39).map (·.size) = some cs.length := by
    obtain ⟨_, _, _, rfl, _⟩ := hv
    kernel_rfl
  exact bodyPost_ret (results_cell_row h a.tmps w rb 39 cs.toArray (0, 0) (.struct _) hp hB Tryz.underlying39 rfl (by simpa using hl)) hdf ⟨_, rfl, ⟨cs, rfl, hv⟩, hu⟩
set_option maxRecDepth 100000 in
set_option maxHeartbeats 4000000 in
theorem plain_calls {a : Au} (h : AuV w a v) : Calls Tryz.prog 17 #[v] w fun e w' => ∃ v', e = .returned v' ∧ AuV w' a v' ∧ Upd [] w w' := by
  obtain ⟨a1, c1, a2, c2, a3, c3, rfl, hF⟩ := h.shape
  have HF := Lib.hid hF
  clear h hF
  go_enter Tryz.func17, Tryz.ntmps17
  go_upto_region 1 with fail
  have b1 := (Blk.new w [.slice a1 a.cuts.length c1, .slice a2 a.next.length c2, .slice a3 a.acc.length c3] 31).alloc (.cells #[.slice none 0 0, .slice none 0 0, .slice none 0 0] 39)
  have b2 := Blk.new (w.alloc (.cells #[.slice a1 a.cuts.length c1, .slice a2 a.next.length c2, .slice a3 a.acc.length c3] 31)) [.slice none 0 0, .slice none 0 0, .slice none 0 0] 39
  have u1 := ((Upd.refl [] w).alloc (.cells #[.slice a1 a.cuts.length c1, .slice a2 a.next.length c2, .slice a3 a.acc.length c3] 31)).alloc (.cells #[.slice none 0 0, .slice none 0 0, .slice none 0 0] 39)
  have z1 : (w.alloc (.cells #[.slice a1 a.cuts.length c1, .slice a2 a.next.length c2, .slice a3 a.acc.length c3] 31)).heap.size = w.heap.size + 1 := by simp
  rw [z1] at b2
  change Blk ((w.alloc (.cells #[.slice a1 a.cuts.length c1, .slice a2 a.next.length c2, .slice a3 a.acc.length c3] 31)).alloc (.cells #[.slice none 0 0, .slice none 0 0, .slice none 0 0] 39)) _ _ _ at b1
  change Blk ((w.alloc (.cells #[.slice a1 a.cuts.length c1, .slice a2 a.next.length c2, .slice a3 a.acc.length c3] 31)).alloc (.cells #[.slice none 0 0, .slice none 0 0, .slice none 0 0] 39)) _ _ _ at b2
  generalize ((w.alloc (.cells #[.slice a1 a.cuts.length c1, .slice a2 a.next.length c2, .slice a3 a.acc.length c3] 31)).alloc (.cells #[.slice none 0 0, .slice none 0 0, .slice none 0 0] 39)) = w1 at *
  have k0 := b1.cell (i := 0) rfl
  have k1 := b1.cell (i := 1) rfl
  have k2 := b1.cell (i := 2) rfl
  have r0 := b2.cell (i := 0) rfl
  have r1 := b2.cell (i := 1) rfl
  have r2 := b2.cell (i := 2) rfl
  have rf : ∀ q, w1.frozen? ⟨w.heap.size + 1, q, none⟩ = false := b2.free
  have HB := Lib.hid (And.intro b2 u1)
  clear b1 b2 u1 z1
  generalize hpa : w.heap.size = pa at *
  have HPA := Lib.hid hpa
  clear hpa
  go_wp2_with fail
  have hs := cell3_set (a := .slice a1 a.cuts.length c1) (b := .slice a2 a.next.length c2) (c := .slice a3 a.acc.length c3) HB.out.1
  have hu := HB.out.2.fresh hs.2 (fun b hb => .inr (by simp at hb; subst hb; have := HPA.out; omega))
  exact ret_plain rfl rfl hs.1 rfl (HF.out.ext hu) hu
end
end Aut
end Go.Proofs.YtjclbjdkkdijbaaGreat
