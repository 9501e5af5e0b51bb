/- Making and appending inside a fence: the twins of the plain laws. No program is named. Conditions: none. -/
import Derived.RangeFuncNested
import Derived.RangeFuncBound
import Derived.RangeFuncCalls
import Derived.RangeFuncLeaves
import Derived.RangeFuncBox
import Derived.Shelf.Abstract
import Derived.Shelf.RegionOpen
import Derived.WalkKit
import Derived.OwnWalkIn
import Derived.TacticsInMore
import Derived.LoopNIn
import Derived.LoopIn
import Derived.Maps.AppendAt
import Derived.Test.YtnmfihgdedifoaaLib2
import Derived.Test.YtnmfihgdedifoaaLists
set_option linter.unusedVariables false
set_option linter.unusedSimpArgs false
set_option linter.unusedSectionVars false
open Go.RowKit Go.Shelf
namespace Go.Proofs.Ytnmfihgdedifoaa
namespace L
section
variable {F : Fence} {nF : Nat} {P : Program} {w : World} {ops : Array Oper} {rest : List Oper} {Q : Exit → Act → World → Prop}
theorem wpListIn_mk0 {o : Oper} {a : Act} (hg : o.guard = none) (l c : Operand) (t : TypeId) (hop : o.op = Op.makeSlice t l c)
    (e : TypeId) (size bytes : Nat) (z : Value) (ht : P.underlying t = some (.slice e)) (hinfo : (P.info? e).map (fun i => (i.zero, i.size, i.bytes)) = some (some z, size, bytes)) (hzs : z.cells.size = size) (hsz : 0 < size)
    (kl kc : IntKind) (L C : Int) (n : Nat) (hl : a.eval l = .int kl L) (hc : a.eval c = .int kc C) (hL : L = 0) (hC : C = n) (hbytes : bytes * n ≤ 281474976710656) (h63 : n ≤ 9223372036854775807)
    (hK : wpListIn F nF P ops Q rest (a.put o.dst (.slice (some ⟨w.heap.size, 0, none⟩) 0 n)) (w.alloc (.cells (rows n fun _ => z.cells.toList).toArray e))) :
    wpListIn F nF P ops Q (o :: rest) a w := by
  obtain ⟨i, hi, hz, hs, hb⟩ := info_of hinfo
  subst hL hC
  refine wpListIn_plain hg fun K hK' => ?_
  have hb' : (i.bytes : Int) * (n : Int) ≤ 281474976710656 := by
    have h : ((i.bytes * n : Nat) : Int) ≤ 281474976710656 := by rw [hb]; omega
    rwa [Int.natCast_mul] at h
  have hr := run_make (P := P) w t e i z ht hi hz kl kc 0 n (by omega) (by omega) hb' (by omega)
  rw [Int.toNat_natCast, hs, ← hzs, made_rows z.cells n (by omega)] at hr
  unfold Oper.wpIn
  refine ⟨by simp [Oper.about, hop], ?_⟩
  rw [Oper.semAt_plain F _ _ (by rw [hop]; intro c hc'; cases hc')]
  simp only [execOp, hop, hl, hc, Sem.run_bind, Sem.run_pure, Result.andThen_ok, hr]
  exact hK' _ _ hK
theorem wpListIn_app {o : Oper} {a : Act} (hgd : o.guard = none) (s x : Operand) (t : TypeId)
    (ho : o.op = .call { callee := .builtin .append, args := #[s, x], argTypes := #[t, t] })
    (e : TypeId) (size bytes : Nat) (z : Value) (ht : P.underlying t = some (.slice e)) (hinfo : (P.info? e).map (fun i => (i.zero, i.size, i.bytes)) = some (some z, size, bytes))
    (hzs : z.cells.size = size) (hsz : 0 < size) (v : Value) (n : Nat) (xs : List Value) (hs : a.eval s = v) (hown : w.ownsRow 0 e size v n xs)
    (g0 m c : Nat) (news : List Value) (et : TypeId) (hx : a.eval x = .slice (some ⟨g0, 0, none⟩) m c) (hl : news.length = m * size) (hblk : Blk w g0 news et) (h1 : ∀ u ∈ news, u.oneCell' = true)
    (hm : 0 < m) (h63 : n + m ≤ maxLen) (hbytes : (n + m) * bytes ≤ 140737488355328)
    (h : ∀ g cap w', w'.ownsRow 0 e size (.slice (some ⟨g, 0, none⟩) (n + m) cap) (n + m) (xs ++ news) → Upd v.ownBlock.toList w w' → (v.ownBlock = some g ∨ g = w.heap.size) →
      wpListIn F nF P ops Q rest (a.put o.dst (.slice (some ⟨g, 0, none⟩) (n + m) cap)) w') : wpListIn F nF P ops Q (o :: rest) a w := by
  refine wpListIn_plain hgd fun K hK => ?_
  have hnews : ∀ j u, news[j]? = some u → w.cell? ((⟨g0, 0, none⟩ : Addr).add j) = some u := by
    intro j u hj
    have : (⟨g0, 0, none⟩ : Addr).add j = ⟨g0, j, none⟩ := by unfold Addr.add; split <;> simp_all
    rw [this]; exact hblk.cell hj
  obtain ⟨v', w', hr, h2, h3, h4⟩ := run_app (P := P) t o.type e size bytes z ht hinfo hzs hsz v n xs hown ⟨g0, 0, none⟩ m c news hl hnews h1 h63 hbytes
  obtain ⟨g, cap, rfl, _, _⟩ := owns_form h2 (by omega)
  unfold Oper.wpIn
  refine ⟨by simp [Oper.about, ho, resolve, Target.leads, Sem.run_pure], ?_⟩
  rw [Oper.semAt_plain F _ _ (by rw [ho]; intro c hc'; cases hc')]
  simp only [execOp, ho, resolve, invoke, builtin, Sem.run_bind, Sem.run_pure, Result.andThen_ok, List.map_toArray, List.map_cons, List.map_nil, hs, hx, hr]
  refine hK _ _ (h g cap w' h2 h3 ?_)
  rcases h4 with h4 | h4
  · exact .inl h4.symm
  · simp only [Value.ownBlock, Option.some.injEq] at h4; exact .inr h4
theorem wpListIn_push {o1 o2 : Oper} {a : Act} (g1 : o1.guard = none) (g2 : o2.guard = none) (s x : Operand) (t : Nat) (T : TypeId)
    (h1 : o1.op = .buildSlice T 1 #[(0, x)]) (d1 : o1.dst = some t) (h2 : o2.op = .call { callee := .builtin .append, args := #[s, .tmp t], argTypes := #[T, T] })
    (e : TypeId) (size bytes : Nat) (z : Value) (ht : P.underlying T = some (.slice e)) (hinfo : (P.info? e).map (fun i => (i.zero, i.size, i.bytes)) = some (some z, size, bytes))
    (hzs : z.cells.size = size) (hsz : 0 < size) (hs24 : size ≤ 16777216) (xv : Value) (news : List Value) (hx : a.eval x = xv) (hxc : xv.cells = news.toArray) (hxs : news.length = size) (h1c : ∀ u ∈ news, u.oneCell' = true)
    (v : Value) (n : Nat) (xs : List Value) (hown : w.ownsRow 0 e size v n xs) (hs : (a.put (some t) (.slice (some ⟨w.heap.size, 0, none⟩) 1 1)).eval s = v)
    (hxt : (a.put (some t) (.slice (some ⟨w.heap.size, 0, none⟩) 1 1)).eval (.tmp t) = .slice (some ⟨w.heap.size, 0, none⟩) 1 1)
    (h63 : n + 1 ≤ maxLen) (hbytes : (n + 1) * bytes ≤ 140737488355328)
    (h : ∀ g cap w', w'.ownsRow 0 e size (.slice (some ⟨g, 0, none⟩) (n + 1) cap) (n + 1) (xs ++ news) → Upd v.ownBlock.toList w w' → (v.ownBlock = some g ∨ w.heap.size ≤ g) →
      wpListIn F nF P ops Q rest ((a.put (some t) (.slice (some ⟨w.heap.size, 0, none⟩) 1 1)).put o2.dst (.slice (some ⟨g, 0, none⟩) (n + 1) cap)) w') : wpListIn F nF P ops Q (o1 :: o2 :: rest) a w := by
  refine wpListIn_plain g1 fun K hK => ?_
  have hr := run_bs1 (P := P) (w := w) ht hinfo hzs hsz hs24 xv (by rw [hxc]; simpa using hxs)
  rw [hxc] at hr
  have he : (#[(0, x)] : Array (Nat × Operand)).map (fun p => (p.1, a.eval p.2)) = #[(0, xv)] := by simp [hx]
  have hr' : (Instr.buildSlice T 1 ((#[(0, x)] : Array (Nat × Operand)).map (fun p => (p.1, a.eval p.2)))).run P w = .ok (.slice (some ⟨w.heap.size, 0, none⟩) 1 1) (w.alloc (.cells news.toArray e)) := by rw [he]; exact hr
  unfold Oper.wpIn
  refine ⟨by simp [Oper.about, h1], ?_⟩
  rw [Oper.semAt_plain F _ _ (by rw [h1]; intro c hc'; cases hc')]
  simp only [execOp, h1, Sem.run_bind, hr', Result.andThen_ok, Sem.run_pure]
  refine hK _ _ ?_
  rw [d1]
  have own1 : (w.alloc (.cells news.toArray e)).ownsRow 0 e size v n xs := by
    have hu := (Upd.refl [] w).alloc (.cells news.toArray e)
    refine ⟨hown.1, ?_⟩
    rcases hown.2 with hw | ⟨g, cap, cur, rfl, hb, hg, hr⟩
    · exact .inl hw
    · refine .inr ⟨g, cap, cur, rfl, hb, ?_, hr⟩
      rw [hu.block g (Array.getElem?_eq_some_iff.1 hg).1 (by simp)]
      exact hg
  refine wpListIn_app g2 s (.tmp t) T h2 e size bytes z ht hinfo hzs hsz v n xs hs own1 w.heap.size 1 1 news e hxt (by rw [hxs, Nat.one_mul]) (Blk.new w news e) h1c (by omega) h63 hbytes ?_
  intro g cap w' o u k
  refine h g cap w' o ⟨u.os, u.tape, u.output, by have := u.size; simp at this; omega, fun j hj hn => ?_⟩ ?_
  · rw [u.block j (by simp; omega) hn]
    exact ((Upd.refl [] w).alloc (.cells news.toArray e)).block j hj (by simp)
  · rcases k with k | k
    · exact .inl k
    · right; simp at k; omega
end
end L
end Go.Proofs.Ytnmfihgdedifoaa
