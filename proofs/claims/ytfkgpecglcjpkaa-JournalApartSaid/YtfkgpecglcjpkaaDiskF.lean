/- Walks through package disk: invert, Rot, Sync. Conditions: none. -/
import Derived.Test.YtfkgpecglcjpkaaDiskE
set_option linter.unusedVariables false
set_option linter.unusedSimpArgs false
set_option linter.unusedSectionVars false
open Go.RowKit
namespace Go.Proofs.Ytfkgpecglcjpkaa
open L
namespace Disk
open Wire
section
variable {w w' : World} {p : Nat} {s : DS} {S : List Nat}
/-- invert changes one cell. -/
theorem invert_calls {g off n cap k : Nat} {y : Int} {c : List Value} {e : TypeId} (hb : Blk w g c e) (hc : c[off + k / 8]? = some (.int .u8 y)) (hy : 0 ≤ y ∧ y ≤ 255) (hk : k < 8 * n) (hn : n ≤ 1000000000) :
    Calls Try.prog 58 #[.slice (some ⟨g, off, none⟩) n cap, .int .i64 (k : Int)] w fun e' w' => e' = .returned (.tuple #[]) ∧ Blk w' g (c.set (off + k / 8) (.int .u8 (flipB y k))) e ∧ Upd [g] w w' := by
  have d0 := hb.cell hc
  have d1 := hb.free (off + k / 8)
  have hki : (k : Int) < 8 * n := by omega
  have hq0 : (0 : Int) ≤ (128 : Int) / 2 ^ (k % 8) := Int.ediv_nonneg (by omega) (Int.le_of_lt (Int.pow_pos (by omega)))
  have H := Lib.hid (And.intro hb hc)
  clear hb hc
  go_enter Try.func58, Try.ntmps58
  go_wp2_with fail
  refine wp_region_ord 10 1 [0, 1, 2, 3, 4, 5, 6, 7, 8, 9] [4] [0, 1, 2, 3, 4, 5, 6, 7, 8, 9, 10] (fun w' => ∃ x : Ext w, w' = x.val) (by kernel_rfl) (by kernel_rfl) (Ext.of (by iterate 25 (first | exact Upd.refl _ _ | assumption | refine Upd.alloc ?_ _ | refine Upd.drew ?_ | refine Upd.drewN ?_ _ | refine Upd.dl ?_ | refine Upd.step ?_ (Ext.upd _) | refine Upd.nil ?_ | skip))) ?_
  repeat (first | (refine wpOrd_load rfl rfl rfl rfl (fun K hK => ?_); go_big_quiet_step (fail); refine wpQuiet_nil ?_; refine hK _ ?_; clear hK K) | (refine wpOrd_free rfl rfl rfl (fun K hK => ?_); go_big_quiet_step (fail); refine wpQuiet_nil ?_; refine hK _ ?_; clear hK K))
  refine wpOrd_fix rfl rfl (fun K hK => ?_)
  go_wp2_with fail
  refine ⟨fun hC => absurd hC (by decide), ?_⟩
  refine wpOrd_nil ?_
  go_end0
  refine ⟨rfl, H.out.1.drew.set _ _, ((Upd.refl _ w).drew).set (.inl (by simp)) _⟩
theorem rotS_eq {i k : Nat} (hi : i < 64) (hk : k < 8 * (s.B i).length) : rotS s (i : Int) (k : Int) = (0, { s with B := setB s.B i (flipL (s.B i) k) }) := by
  unfold rotS
  rw [if_neg (by rw [show isF (i : Int) = true from isF_iff.2 ⟨by omega, by omega⟩, Int.toNat_natCast]; simp; omega), Int.toNat_natCast, Int.toNat_natCast]
/-- One file changed in place. -/
theorem Dk.flip {m : Nat} {f : Int → Option Value} {v : Value} {i : Nat} {b : List Int} (h : DkW w p m f s S i v.ownBlock.toList) (hm : MF Try.prog 3 w m 64 f)
    (hval : (f (i : Int)).getD (.agg #[.slice none 0 0, .int .i64 0]) = .agg #[v, .int .i64 (s.F i : Int)]) (hne : s.B i ≠ []) (hbl : b.length = (s.B i).length) (hne2 : v ≠ .slice none 0 0)
    (hu : Upd v.ownBlock.toList w w') (row : w'.ownsRow 0 5 1 v b.length (byts b)) (hok : ({ s with B := setB s.B i b } : DS).Ok) : Dk w' p { s with B := setB s.B i b } S := by
  have h2 := h.upd hu (fun k hk => .inl hk)
  have hmv : m ∉ v.ownBlock.toList := fun hm => (h.own m hm).2.2 rfl
  have hm2 := hm.upd hu hmv
  have hb : b ≠ [] := by intro e; rw [e] at hbl; exact hne (List.eq_nil_of_length_eq_zero hbl.symm)
  have hff : f (i : Int) = some (.agg #[v, .int .i64 (s.F i : Int)]) := by
    cases hf : f (i : Int) with
    | none =>
      rw [hf] at hval
      simp only [Option.getD_none, Value.agg.injEq] at hval
      have := congrArg (fun a : Array Value => a.toList) hval
      simp at this
      exact absurd this.1.symm hne2
    | some u => rw [hf] at hval; simpa using hval
  have h3 := h2.close (b := b) (n := s.F i) (v := v) (Upd.refl [m] w') (hm2.congr (fun x => by
    by_cases e : x = i
    · subst e; rw [if_pos rfl, if_neg hb, hff]
    · rw [if_neg e])) row (fun g hg => by rw [hg]; simp) (by rw [setF_self]; exact hok)
  rw [setF_self] at h3
  exact h3
theorem row_set {e : TypeId} {g n cap : Nat} {xs : List Value} (h : w.ownsRow 0 e 1 (.slice (some ⟨g, 0, none⟩) n cap) n xs) :
    ∃ cur : List Value, Blk w g cur e ∧ (∀ (j : Nat) (u : Value), xs[j]? = some u → cur[j]? = some u) ∧ ∀ (w' : World) (j : Nat) (u : Value), j < n → Blk w' g (cur.set j u) e → w'.ownsRow 0 e 1 (.slice (some ⟨g, 0, none⟩) n cap) n (xs.set j u) := by
  rcases h.2 with ⟨h1, _⟩ | ⟨g', cap', cur, hv, hb, hg, hnc, hcm, hcs, htake⟩
  · cases h1
  · simp only [Value.slice.injEq, Option.some.injEq, Addr.mk.injEq, and_true] at hv
    obtain ⟨rfl, _, rfl⟩ := hv
    rw [Nat.mul_one] at htake
    refine ⟨cur.toList, by unfold Blk; rw [hg], fun j u hj => ?_, fun w' j u hj hB => ?_⟩
    · rw [← htake, List.getElem?_take] at hj
      split at hj
      · exact hj
      · cases hj
    · refine ⟨by rw [List.length_set]; exact h.1, .inr ⟨g, cap, (cur.toList.set j u).toArray, rfl, hb, hB, hnc, hcm, by simpa using hcs, ?_⟩⟩
      rw [Nat.mul_one, ← htake]
      simp [List.take_set]
theorem flipL_set {l : List Int} {k : Nat} {y : Int} (h : l[k / 8]? = some y) : byts (flipL l k) = (byts l).set (k / 8) (.int .u8 (flipB y k)) := by
  unfold flipL byts
  apply List.ext_getElem?
  intro j
  rw [List.getElem?_map, List.getElem?_modify, List.getElem?_set, List.getElem?_map, List.length_map]
  have hk := (List.getElem?_eq_some_iff.1 h).1
  by_cases e : k / 8 = j
  · subst e
    have h2 : l[k / 8] = y := by rw [List.getElem?_eq_getElem hk] at h; exact Option.some.inj h
    simp [hk, h2]
  · simp [e]
theorem Trunc_calls (h : Dk w p s S) {f z : Int} (hf : IsI64 f) (hz : IsI64 z) :
    Calls Try.prog 51 #[.pointer (some ⟨p, 0, none⟩), .int .i64 f, .int .i64 z] w fun e w' => e = .returned (.int .i64 (truncS s f z).1) ∧ Dk w' p (truncS s f z).2 S ∧ Upd S w w' := by
  by_cases hb : isF f = false ∨ z < 0 ∨ ((s.B f.toNat).length : Int) < z
  · have hr : truncS s f z = (1, s) := by unfold truncS; rw [if_pos hb]
    rw [hr]
    exact (Trunc_bad h hf hz hb).mono fun e w' ⟨h1, h2⟩ => ⟨h1, h2 ▸ h, h2 ▸ Upd.refl _ _⟩
  · simp only [not_or, Bool.not_eq_false, Int.not_lt] at hb
    have h64 := isF_iff.1 hb.1
    obtain ⟨i, rfl⟩ := Int.eq_ofNat_of_zero_le h64.1
    obtain ⟨k, rfl⟩ := Int.eq_ofNat_of_zero_le hb.2.1
    rw [Int.toNat_natCast] at hb
    exact Trunc_good h (by omega) (by omega)
end
end Disk
end Go.Proofs.Ytfkgpecglcjpkaa
