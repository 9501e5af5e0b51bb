/- Two disks led alike: the law's made. Conditions: none. -/
import Derived.Test.YtnljjkmmnkldcaaDiskOpC
import Derived.Test.YtnljjkmmnkldcaaDiskOpB
import Derived.Test.YtnljjkmmnkldcaaDiskT
set_option linter.unusedVariables false
set_option linter.unusedSimpArgs false
set_option linter.unusedSectionVars false
open Go.RowKit
namespace Go.Proofs.Ytnljjkmmnkldcaa
open L
namespace Disk
open Wire R01
def opV (o : OpD) (ab : Option Addr) (cb : Nat) (ak : Option Addr) (ck : Nat) : Value := .agg #[.int .i64 o.kind, .int .i64 o.file, .int .i64 o.n, .slice ab o.b.length cb, .slice ak o.keep.length ck]
/-- One operation at its place in memory. -/
structure OpAt (lo hi g i : Nat) (o : OpD) (ab : Option Addr) (cb : Nat) (ak : Option Addr) (ck : Nat) (w : World) : Prop where
  ok : OpOk o
  gg : lo ≤ g ∧ g < hi
  c : ∀ j u, (opC o (.slice ab o.b.length cb) (.slice ak o.keep.length ck))[j]? = some u → w.cell? ⟨g, i * 5 + j, none⟩ = some u
  b : SL w 1 (.slice ab o.b.length cb) o.b.length (byts o.b)
  k : SL w 1 (.slice ak o.keep.length ck) o.keep.length (ints o.keep)
  bn : ∀ g, (Value.slice ab o.b.length cb).ownBlock = some g → lo ≤ g ∧ g < hi
  kn : ∀ g, (Value.slice ak o.keep.length ck).ownBlock = some g → lo ≤ g ∧ g < hi
theorem OpAt.upd {lo hi g i : Nat} {o : OpD} {ab ak : Option Addr} {cb ck : Nat} {w w' : World} {T : List Nat} (h : OpAt lo hi g i o ab cb ak ck w) (hu : Upd T w w') (hT : ∀ k ∈ T, k < lo ∨ hi ≤ k) : OpAt lo hi g i o ab cb ak ck w' := by
  have key : ∀ b, lo ≤ b ∧ b < hi → b ∉ T := fun b hb hm => by have := hT b hm; omega
  exact ⟨h.ok, h.gg, fun j u hj => hu.some (h.c j u hj) (key g h.gg), h.b.upd hu (fun b hb e => key b (h.bn b e) hb), h.k.upd hu (fun b hb e => key b (h.kn b e) hb), h.bn, h.kn⟩
/-- Two disks and a list of operations, each apart from the others. -/
structure Two (w0 : World) (lo hi p q : Nat) (s t : DS) (v : Value) (ops : List OpD) (w : World) : Prop where
  ex : ∃ S T, Dk w p s S ∧ RDk w q t T ∧ Apart S T ∧ (∀ k ∈ S, w0.heap.size ≤ k ∧ (k < lo ∨ hi ≤ k)) ∧ (∀ k ∈ T, w0.heap.size ≤ k ∧ (k < lo ∨ hi ≤ k))
  l : OpsL lo hi v ops w
  u : Upd [] w0 w
section
variable {w w' w0 : World} {p q lo hi : Nat} {s t : DS} {v : Value} {ops : List OpD}
theorem Two.at (h : Two w0 lo hi p q s t v ops w) {i : Nat} {o : OpD} (hi' : ops[i]? = some o) : ∃ g cap ab cb ak ck, v = .slice (some ⟨g, 0, none⟩) ops.length cap ∧ OpAt lo hi g i o ab cb ak ck w := by
  obtain ⟨q0, g, cap, ab, cb, ak, ck, q1, q2, q3, q4, q5, q6, q7, q8⟩ := h.l.2.2 i o hi'
  exact ⟨g, cap, ab, cb, ak, ck, q1, q0, ⟨q2, q3⟩, q4, q5, q6, q7, q8⟩
theorem Two.quiet (h : Two w0 lo hi p q s t v ops w) (hu : Upd [] w w') : Two w0 lo hi p q s t v ops w' := by
  obtain ⟨S, T, h1, h2, h3, h4, h5⟩ := h.ex
  exact ⟨⟨S, T, h1.quiet hu, h2.quiet hu, h3, h4, h5⟩, h.l.upd hu (by simp), h.u.step hu⟩
theorem Two.doC (h : Two w0 lo hi p q s t v ops w) {g i : Nat} {o : OpD} {ab ak : Option Addr} {cb ck : Nat} (ho : OpAt lo hi g i o ab cb ak ck w) :
    Calls Try.prog 24 #[.pointer (some ⟨p, 0, none⟩), opV o ab cb ak ck] w fun e w' => e = .returned (.int .i64 (doS s o).1) ∧ Two w0 lo hi p q (doS s o).2 t v ops w' ∧ OpAt lo hi g i o ab cb ak ck w' := by
  obtain ⟨S, T, h1, h2, h3, h4, h5⟩ := h.ex
  have key : ∀ {x : Value}, (∀ g, x.ownBlock = some g → lo ≤ g ∧ g < hi) → ∀ g, x.ownBlock = some g → g ∉ S := fun hx g hg hm => by have h6 := hx g hg; have h7 := h4 g hm; omega
  refine (do_calls h1 ho.ok ho.b ho.k (key ho.bn) (key ho.kn)).mono ?_
  rintro e w' ⟨rfl, S', d1, d2, d3⟩
  have hz := h.l.1
  have hz0 := h.u.size
  exact ⟨rfl, ⟨⟨S', T, d1, h2.upd d2 h3, h3.next d3 h2.lt, fun k hk => (d3 k hk).elim (h4 k) (fun h => ⟨by omega, by omega⟩), h5⟩, h.l.upd d2 (fun k hk => (h4 k hk).2), h.u.fresh d2 (fun k hk => .inr (h4 k hk).1)⟩, ho.upd d2 (fun k hk => (h4 k hk).2)⟩
theorem Two.rdoC (h : Two w0 lo hi p q s t v ops w) {g i : Nat} {o : OpD} {ab ak : Option Addr} {cb ck : Nat} (ho : OpAt lo hi g i o ab cb ak ck w) :
    Calls Try.prog 25 #[.pointer (some ⟨q, 0, none⟩), opV o ab cb ak ck] w fun e w' => e = .returned (.int .i64 (doS t o).1) ∧ Two w0 lo hi p q s (doS t o).2 v ops w' := by
  obtain ⟨S, T, h1, h2, h3, h4, h5⟩ := h.ex
  have key : ∀ {x : Value}, (∀ g, x.ownBlock = some g → lo ≤ g ∧ g < hi) → ∀ g, x.ownBlock = some g → g ∉ T := fun hx g hg hm => by have h6 := hx g hg; have h7 := h5 g hm; omega
  refine (RDo_calls h2 ho.ok ho.b ho.k (key ho.bn) (key ho.kn)).mono ?_
  rintro e w' ⟨rfl, T', d1, d2, d3⟩
  have hz := h.l.1
  have hz0 := h.u.size
  exact ⟨rfl, ⟨⟨S, T', h1.upd d2 h3.symm, d1, (h3.symm.next d3 h1.lt).symm, h4, fun k hk => (d3 k hk).elim (h5 k) (fun h => ⟨by omega, by omega⟩)⟩, h.l.upd d2 (fun k hk => (h5 k hk).2), h.u.fresh d2 (fun k hk => .inr (h5 k hk).1)⟩⟩
/-- Two disks led alike. -/
structure Pair (w0 : World) (p q : Nat) (s : DS) (w : World) : Prop where
  ex : ∃ S T, Dk w p s S ∧ RDk w q s T ∧ Apart S T ∧ Fr w0 S w ∧ Fr w0 T w
theorem Two.pair (h : Two w0 lo hi p q s s v ops w) : Pair w0 p q s w := by
  obtain ⟨S, T, h1, h2, h3, h4, h5⟩ := h.ex
  exact ⟨⟨S, T, h1, h2, h3, ⟨h.u, fun k hk => (h4 k hk).1⟩, ⟨h.u, fun k hk => (h5 k hk).1⟩⟩⟩
set_option maxRecDepth 100000 in
set_option maxHeartbeats 8000000 in
theorem made_calls {x : Int} (hx : IsI64 x) {vl : Value} {xs : List Int} (h0 : SL w 1 vl xs.length (ints xs)) (hxs : ∀ x ∈ xs, IsI64 x) :
    Calls Try.prog 27 #[.int .i64 x, vl] w fun e w' => ∃ p q s, e = .returned (.tuple #[.pointer (some ⟨p, 0, none⟩), .pointer (some ⟨q, 0, none⟩)]) ∧ Pair w p q s w' := by
  have n0 := around_lo (n := x) (k := 40) (by omega)
  have n1 := around_hi (n := x) (k := 40) (by omega)
  have HA := Lib.hid (fun w : World => Around_calls x 40 w hx (by omega) (by omega))
  obtain ⟨n, hn⟩ := Int.eq_ofNat_of_zero_le n0
  rw [hn] at n1 HA
  clear n0 hn hx
  obtain ⟨va, vc, rfl, _⟩ := h0.val
  have H0 := Lib.hid (And.intro h0 hxs)
  clear h0 hxs
  have HN := Lib.hid (fun w : World => New_good (w := w) (room := 12 + n) (by omega))
  have HR := Lib.hid (fun w : World => RNew_calls (w := w) (room := 12 + n) (by omega))
  rw [show ((12 + n : Nat) : Int) = 12 + (n : Int) by omega] at HN HR
  go_enter Try.func27, Try.ntmps27
  go_upto_region 5 with (first
    | (go_at_call 12; (with_reducible refine (HA.out _).mono ?_); rintro e _ ⟨rfl, rfl⟩)
    | (go_at_call 11; (with_reducible refine (HN.out _).mono ?_); rintro e w1 ⟨p, S, rfl, h1, u1, k1⟩))
  have H1 := Lib.hid (And.intro h1 (And.intro u1 k1))
  clear h1 u1 k1
  go_upto_region 6 with (go_at_call 22; (with_reducible refine (HR.out _).mono ?_); rintro e w2 ⟨q, T, rfl, h2, u2, k2⟩)
  have hap := Apart.new k2 H1.out.1.lt
  have F2 := Lib.hid (And.intro (H1.out.1.quiet u2) (And.intro h2 (And.intro hap (And.intro (H1.out.2.1.step u2) (fun k hk => Nat.le_trans H1.out.2.1.size (k2 k hk))))))
  have HO := Lib.hid (Ops_calls (H0.out.1.upd F2.out.2.2.2.1 (by simp)) H0.out.2)
  clear h2 u2 k2 hap
  go_upto_region 7 with (go_at_call 23; refine HO.out.mono ?_; rintro e w3 ⟨vo, ops, rfl, ho⟩)
  have hT := Lib.hid (show Two w w2.heap.size w3.heap.size p q (newS (12 + n)) (newS (12 + n)) vo ops w3 from ⟨⟨S, T, F2.out.1.quiet ho.u, F2.out.2.1.quiet ho.u, F2.out.2.2.1.symm, fun k hk => ⟨H1.out.2.2 k hk, .inl (F2.out.1.lt k hk)⟩, fun k hk => ⟨F2.out.2.2.2.2 k hk, .inl (F2.out.2.1.lt k hk)⟩⟩, ho.opsL, F2.out.2.2.2.1.step ho.u⟩)
  obtain ⟨ao, co, hvo⟩ := ho.opsL.2.1
  have hol : ops.length ≤ maxLen := by obtain ⟨cs, hz, _⟩ := ho.ex; obtain ⟨_, _, _, _, z1, z2, _⟩ := hz.sl; omega
  clear ho HO F2 H1 H0 HN HR HA
  subst hvo
  generalize newS (12 + n) = s0 at *
  generalize w2.heap.size = lo at *
  generalize w3.heap.size = hi at *
  unfold maxLen at hol
  go_wp2_with fail
  go_loopw [11] (fun i wr => ∃ (k : Nat) (s : DS), i = .int .i64 k ∧ k ≤ ops.length ∧ Two w lo hi p q s s (.slice ao ops.length co) ops wr) (fun i _ => ops.length - (intOf i).toNat)
  case atStart => exact ⟨0, s0, rfl, Nat.zero_le _, hT.out⟩
  case round =>
    obtain ⟨wo, rfl⟩ : ∃ wo : World, wo = wr := ⟨_, rfl⟩
    obtain ⟨k, s, rfl, hk, hTw⟩ := hrel
    by_cases hlt : k < ops.length
    · have hli : (k : Int) < ops.length := by omega
      obtain ⟨g, cap, ab, cb, ak, ck, he, hat⟩ := hTw.at (List.getElem?_eq_getElem hlt)
      cases he
      generalize ops[k] = o at *
      have c0 := hat.c 0 _ rfl
      have c1 := hat.c 1 _ rfl
      have c2 := hat.c 2 _ rfl
      have c3 := hat.c 3 _ rfl
      have c4 := hat.c 4 _ rfl
      rw [Nat.add_zero] at c0
      have HT := Lib.hid (And.intro hTw hat)
      have HC := Lib.hid (Two.doC hTw hat)
      clear hTw hat
      go_upto_region 11 with (go_at_call 24; refine HC.out.mono ?_; rintro e w4 ⟨rfl, h4, a4⟩)
      have HR4 := Lib.hid (Two.rdoC h4 a4)
      clear c0 c1 c2 c3 c4 HC
      have c0 := a4.c 0 _ rfl
      have c1 := a4.c 1 _ rfl
      have c2 := a4.c 2 _ rfl
      have c3 := a4.c 3 _ rfl
      have c4 := a4.c 4 _ rfl
      rw [Nat.add_zero] at c0
      clear h4 a4
      go_upto_region 9 with (go_at_call 25; refine HR4.out.mono ?_; rintro e w5 ⟨rfl, h5⟩)
      have H5 := Lib.hid h5
      clear h5 c0 c1 c2 c3 c4 HR4 HT
      go_wp2_with fail
      exact ⟨⟨k + 1, (doS s o).2, by go_num, by omega, H5.out⟩, by simp [intOf]; omega⟩
    · have hli : ¬ (k : Int) < ops.length := by omega
      have HT := Lib.hid hTw.pair
      clear hTw
      go_wp2_with fail
      go_ret2
      exact ⟨p, q, rfl, s, HT.out⟩
end
end Disk
end Go.Proofs.Ytnljjkmmnkldcaa
