/- Three disks: two of the program, one of the reference. Conditions: none. -/
import Derived.Test.YtnljjkmmnkldcaaDiskOpF
import Derived.Test.YtnljjkmmnkldcaaDiskH
set_option linter.unusedVariables false
set_option linter.unusedSimpArgs false
set_option linter.unusedSectionVars false
open Go.RowKit
namespace Go.Proofs.Ytnljjkmmnkldcaa
open L
namespace Disk
open Wire R01
def runS (s : DS) (ops : List OpD) : DS := ops.foldl (fun s o => (doS s o).2) s
theorem runS_take {s : DS} {ops : List OpD} {k : Nat} {o : OpD} (h : ops[k]? = some o) : runS s (ops.take (k + 1)) = (doS (runS s (ops.take k)) o).2 := by
  unfold runS
  rw [List.take_add_one, h]
  simp
structure Three (w0 : World) (lo hi p c q : Nat) (sp sc sq : DS) (v : Value) (ops : List OpD) (w : World) : Prop where
  ex : ∃ S C T, Dk w p sp S ∧ Dk w c sc C ∧ RDk w q sq T ∧ Apart S C ∧ Apart S T ∧ Apart C T ∧ (∀ k ∈ S, w0.heap.size ≤ k ∧ (k < lo ∨ hi ≤ k)) ∧ (∀ k ∈ C, w0.heap.size ≤ k ∧ (k < lo ∨ hi ≤ k)) ∧ (∀ k ∈ T, w0.heap.size ≤ k ∧ (k < lo ∨ hi ≤ k))
  l : OpsL lo hi v ops w
  u : Upd [] w0 w
section
variable {w w' w0 : World} {p c q lo hi : Nat} {sp sc sq : DS} {v : Value} {ops : List OpD}
theorem Three.at (h : Three w0 lo hi p c q sp sc sq v ops w) {i : Nat} {o : OpD} (hi' : ops[i]? = some o) : ∃ g cap ab cb ak ck, v = .slice (some ⟨g, 0, none⟩) ops.length cap ∧ OpAt lo hi g i o ab cb ak ck w := by
  obtain ⟨q0, g, cap, ab, cb, ak, ck, q1, q2, q3, q4, q5, q6, q7, q8⟩ := h.l.2.2 i o hi'
  exact ⟨g, cap, ab, cb, ak, ck, q1, q0, ⟨q2, q3⟩, q4, q5, q6, q7, q8⟩
theorem Three.quiet (h : Three w0 lo hi p c q sp sc sq v ops w) (hu : Upd [] w w') : Three w0 lo hi p c q sp sc sq v ops w' := by
  obtain ⟨S, C, T, h1, h2, h3, h4⟩ := h.ex
  exact ⟨⟨S, C, T, h1.quiet hu, h2.quiet hu, h3.quiet hu, h4⟩, h.l.upd hu (by simp), h.u.step hu⟩
theorem Three.doC (h : Three w0 lo hi p c q sp sc sq v ops w) {g i : Nat} {o : OpD} {ab ak : Option Addr} {cb ck : Nat} (ho : OpAt lo hi g i o ab cb ak ck w) :
    Calls Try.prog 24 #[.pointer (some ⟨c, 0, none⟩), opV o ab cb ak ck] w fun e w' => e = .returned (.int .i64 (doS sc o).1) ∧ Three w0 lo hi p c q sp (doS sc o).2 sq v ops w' ∧ OpAt lo hi g i o ab cb ak ck w' := by
  obtain ⟨S, C, T, h1, h2, h3, a1, a2, a3, b1, b2, b3⟩ := h.ex
  have key : ∀ {x : Value}, (∀ g, x.ownBlock = some g → lo ≤ g ∧ g < hi) → ∀ g, x.ownBlock = some g → g ∉ C := fun hx g hg hm => by have h6 := hx g hg; have h7 := b2 g hm; omega
  refine (do_calls h2 ho.ok ho.b ho.k (key ho.bn) (key ho.kn)).mono ?_
  rintro e w' ⟨rfl, C', d1, d2, d3⟩
  have hz := h.l.1
  have hz0 := h.u.size
  exact ⟨rfl, ⟨⟨S, C', T, h1.upd d2 a1.symm, d1, h3.upd d2 a3, (a1.symm.next d3 h1.lt).symm, a2, a3.next d3 h3.lt, b1, fun k hk => (d3 k hk).elim (b2 k) (fun h => ⟨by omega, by omega⟩), b3⟩, h.l.upd d2 (fun k hk => (b2 k hk).2), h.u.fresh d2 (fun k hk => .inr (b2 k hk).1)⟩, ho.upd d2 (fun k hk => (b2 k hk).2)⟩
theorem Three.rdoC (h : Three w0 lo hi p c q sp sc sq v ops w) {g i : Nat} {o : OpD} {ab ak : Option Addr} {cb ck : Nat} (ho : OpAt lo hi g i o ab cb ak ck w) :
    Calls Try.prog 25 #[.pointer (some ⟨q, 0, none⟩), opV o ab cb ak ck] w fun e w' => e = .returned (.int .i64 (doS sq o).1) ∧ Three w0 lo hi p c q sp sc (doS sq o).2 v ops w' := by
  obtain ⟨S, C, T, h1, h2, h3, a1, a2, a3, b1, b2, b3⟩ := h.ex
  have key : ∀ {x : Value}, (∀ g, x.ownBlock = some g → lo ≤ g ∧ g < hi) → ∀ g, x.ownBlock = some g → g ∉ T := fun hx g hg hm => by have h6 := hx g hg; have h7 := b3 g hm; omega
  refine (RDo_calls h3 ho.ok ho.b ho.k (key ho.bn) (key ho.kn)).mono ?_
  rintro e w' ⟨rfl, T', d1, d2, d3⟩
  have hz := h.l.1
  have hz0 := h.u.size
  exact ⟨rfl, ⟨⟨S, C, T', h1.upd d2 a2.symm, h2.upd d2 a3.symm, d1, a1, (a2.symm.next d3 h1.lt).symm, (a3.symm.next d3 h2.lt).symm, b1, b2, fun k hk => (d3 k hk).elim (b3 k) (fun h => ⟨by omega, by omega⟩)⟩, h.l.upd d2 (fun k hk => (b3 k hk).2), h.u.fresh d2 (fun k hk => .inr (b3 k hk).1)⟩⟩
theorem Three.pairP (h : Three w0 lo hi p c q sp sc sp v ops w) : Pair w0 p q sp w := by
  obtain ⟨S, C, T, h1, h2, h3, a1, a2, a3, b1, b2, b3⟩ := h.ex
  exact ⟨⟨S, T, h1, h3, a2, ⟨h.u, fun k hk => (b1 k hk).1⟩, ⟨h.u, fun k hk => (b3 k hk).1⟩⟩⟩
theorem Three.pairC (h : Three w0 lo hi p c q sp sc sc v ops w) : Pair w0 c q sc w := by
  obtain ⟨S, C, T, h1, h2, h3, a1, a2, a3, b1, b2, b3⟩ := h.ex
  exact ⟨⟨C, T, h2, h3, a3, ⟨h.u, fun k hk => (b2 k hk).1⟩, ⟨h.u, fun k hk => (b3 k hk).1⟩⟩⟩
/-- Copying the first leaves the second and the copy. -/
theorem Three.copyP (h : Three w0 lo hi p c q sp sc sq v ops w) :
    Calls Try.prog 30 #[.pointer (some ⟨p, 0, none⟩)] w fun e w' => ∃ d, e = .returned (.pointer (some ⟨d, 0, none⟩)) ∧ Three w0 lo hi c d q sc sp sq v ops w' := by
  obtain ⟨S, C, T, h1, h2, h3, a1, a2, a3, b1, b2, b3⟩ := h.ex
  refine (Copy_calls h1).mono ?_
  rintro e w' ⟨d, D, rfl, hd, hu, hn⟩
  have hz := h.l.1
  have hz0 := h.u.size
  exact ⟨d, rfl, ⟨⟨C, D, T, h2.quiet hu, hd, h3.quiet hu, (Apart.new hn h2.lt).symm, a3, Apart.new hn h3.lt, b2, fun k hk => ⟨by have := hn k hk; omega, by have := hn k hk; omega⟩, b3⟩, h.l.upd hu (by simp), h.u.step hu⟩⟩
/-- A pair and a copy of its first. -/
structure Trip (w0 : World) (p c q : Nat) (s : DS) (w : World) : Prop where
  ex : ∃ S C T, Dk w p s S ∧ Dk w c s C ∧ RDk w q s T ∧ Apart S C ∧ Apart S T ∧ Apart C T ∧ (∀ k ∈ S, w0.heap.size ≤ k) ∧ (∀ k ∈ C, w0.heap.size ≤ k) ∧ (∀ k ∈ T, w0.heap.size ≤ k)
  u : Upd [] w0 w
theorem Trip.quiet {s : DS} (h : Trip w0 p c q s w) (hu : Upd [] w w') : Trip w0 p c q s w' := by
  obtain ⟨S, C, T, h1, h2, h3, h4⟩ := h.ex
  exact ⟨⟨S, C, T, h1.quiet hu, h2.quiet hu, h3.quiet hu, h4⟩, h.u.step hu⟩
theorem Pair.copy {s : DS} (h : Pair w0 p q s w) :
    Calls Try.prog 30 #[.pointer (some ⟨p, 0, none⟩)] w fun e w' => ∃ c, e = .returned (.pointer (some ⟨c, 0, none⟩)) ∧ Trip w0 p c q s w' := by
  obtain ⟨S, T, h1, h2, h3, h4, h5⟩ := h.ex
  refine (Copy_calls h1).mono ?_
  rintro e w' ⟨d, D, rfl, hd, hu, hn⟩
  exact ⟨d, rfl, ⟨⟨S, D, T, h1.quiet hu, hd, h2.quiet hu, (Apart.new hn h1.lt).symm, h3, Apart.new hn h2.lt, h4.new, fun k hk => Nat.le_trans h4.u.size (hn k hk), h5.new⟩, h4.u.step hu⟩⟩
theorem Trip.pairC {s : DS} (h : Trip w0 p c q s w) : Pair w0 c q s w := by
  obtain ⟨S, C, T, h1, h2, h3, a1, a2, a3, b1, b2, b3⟩ := h.ex
  exact ⟨⟨C, T, h2, h3, a3, ⟨h.u, b2⟩, ⟨h.u, b3⟩⟩⟩
theorem Trip.led {s : DS} (h : Trip w0 p c q s w) {v : Value} {ops : List OpD} (ho : OwnO w v ops w') : Three w0 w.heap.size w'.heap.size p c q s s s v ops w' := by
  obtain ⟨S, C, T, h1, h2, h3, a1, a2, a3, b1, b2, b3⟩ := h.ex
  exact ⟨⟨S, C, T, h1.quiet ho.u, h2.quiet ho.u, h3.quiet ho.u, a1, a2, a3, fun k hk => ⟨b1 k hk, .inl (h1.lt k hk)⟩, fun k hk => ⟨b2 k hk, .inl (h2.lt k hk)⟩, fun k hk => ⟨b3 k hk, .inl (h3.lt k hk)⟩⟩, ho.opsL, h.u.step ho.u⟩
theorem Pair.u {s : DS} (h : Pair w0 p q s w) : Upd [] w0 w := by obtain ⟨_, _, _, _, _, h4, _⟩ := h.ex; exact h4.u
end
end Disk
end Go.Proofs.Ytnljjkmmnkldcaa
