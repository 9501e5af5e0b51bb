/- Walks through package trim: renumbered; plain words on picking. Conditions: none. -/
import Derived.Test.YtnmfihgdedifoaaTrimO
import Derived.Test.YtnmfihgdedifoaaTrimL
set_option linter.unusedVariables false
set_option linter.unusedSimpArgs false
set_option linter.unusedSectionVars false
open Go.RowKit
namespace Go.Proofs.Ytnmfihgdedifoaa
open L R01
namespace Trim
/-- How many below a place are chosen. -/
def cnt (q : Nat → Bool) : Nat → Nat
  | 0 => 0
  | k + 1 => cnt q k + (if q k then 1 else 0)
/-- The chosen elements below a place. -/
def keepTo {α : Type} (q : Nat → Bool) (l : List α) : Nat → List α
  | 0 => []
  | k + 1 => keepTo q l k ++ (if q k then (l[k]?).toList else [])
theorem keepTo_length {α : Type} {q : Nat → Bool} {l : List α} : ∀ {k : Nat}, k ≤ l.length → (keepTo q l k).length = cnt q k
  | 0, _ => rfl
  | k + 1, h => by
    rw [keepTo, cnt, List.length_append, keepTo_length (by omega)]
    congr 1
    split
    · rw [List.getElem?_eq_getElem (by omega)]; rfl
    · rfl
theorem cnt_le (q : Nat → Bool) : ∀ k, cnt q k ≤ k
  | 0 => Nat.le_refl _
  | k + 1 => by
    have := cnt_le q k
    rw [cnt]
    split <;> omega
def stepNo (u : Nat → Bool) (i : Nat) : Int := if u i then (cnt u i : Int) else -1
def lemNo (q : Nat → Bool) (j : Nat) : Int := if q j then (cnt q j : Int) else 0
/-- A step with other numbers. -/
def renS (sn ln : Nat → Int) (s : StepD) : StepD := { s with hints := s.hints.map (fun h => sn h.toNat), node := if s.kind = 4 then ln s.node.toNat else s.node }
/-- The lemmas to which a chosen step refers. -/
def refTo (l : List StepD) (u : Nat → Bool) : Nat → Nat → Bool
  | 0, _ => false
  | k + 1, j => refTo l u k j || (match l[k]? with
    | some s => u k && (s.kind == 4 && s.node == (j : Int))
    | none => false)
def pickP (p : PrfD) (u : Nat → Bool) : PrfD :=
  ⟨keepTo (refTo p.steps u p.steps.length) p.lemmas p.lemmas.length, keepTo u (p.steps.map (renS (stepNo u) (lemNo (refTo p.steps u p.steps.length)))) p.steps.length⟩
/-- The numbers of a function below n. -/
def tabI (n : Nat) (f : Nat → Int) : List Int := (List.range n).map f
theorem tabI_length (n : Nat) (f : Nat → Int) : (tabI n f).length = n := by simp [tabI]
theorem tabI_get {n : Nat} {f : Nat → Int} {k : Nat} (h : k < n) : (tabI n f)[k]? = some (f k) := by simp [tabI, h]
theorem tabI_set {n : Nat} {f : Nat → Int} {k : Nat} {x : Int} : (ints (tabI n f)).set k (.int .i64 x) = ints (tabI n (fun j => if j = k then x else f j)) := by
  apply List.ext_getElem?
  intro j
  unfold ints tabI
  rw [List.getElem?_set]
  by_cases hj : j < n
  · by_cases e : k = j
    · subst e; simp [hj]
    · simp [hj, e, Ne.symm e]
  · have h1 : ¬ j < (List.map (Value.int IntKind.i64) (List.map f (List.range n))).length := by simp; omega
    by_cases e : k = j
    · subst e; simp [hj]
    · simp [hj, e]
theorem tabI_congr {n : Nat} {f g : Nat → Int} (h : ∀ k, k < n → f k = g k) : tabI n f = tabI n g := by
  unfold tabI
  exact List.map_congr_left (fun k hk => h k (List.mem_range.1 hk))
theorem tabI_zero (n : Nat) : ints (tabI n fun _ => 0) = rows n fun _ => [.int .i64 0] := by
  rw [rows_one]
  apply List.ext_getElem?
  intro j
  unfold ints tabI
  by_cases hj : j < n
  · simp [hj]
  · simp [hj]
theorem tabI_map {l : List Int} {g : Int → Int} : tabI l.length (fun j => g (l.getD j 0)) = l.map g := by
  apply List.ext_getElem?
  intro j
  unfold tabI
  by_cases hj : j < l.length
  · simp [hj]
  · simp [hj]
theorem rowI_fresh {w : World} {g : Nat} {xs : List Int} (h : Blk w g (ints xs) 3) (hn : xs.length ≤ 4000000) : RowI w (.slice (some ⟨g, 0, none⟩) xs.length xs.length) xs := owns_blk h (by simp [ints]) (by unfold maxLen; omega)
theorem fill7 {W : World} {rb : Nat} {o0 o1 o2 o3 o4 o5 o6 : Value} {e : TypeId} (v0 v1 v2 v3 v4 v5 v6 : Value) (h : Blk W rb [o0, o1, o2, o3, o4, o5, o6] e) : Blk (((((((W.setCell ⟨rb, 0, none⟩ v0).setCell ⟨rb, 1, none⟩ v1).setCell ⟨rb, 2, none⟩ v2).setCell ⟨rb, 3, none⟩ v3).setCell ⟨rb, 4, none⟩ v4).setCell ⟨rb, 5, none⟩ v5).setCell ⟨rb, 6, none⟩ v6) rb [v0, v1, v2, v3, v4, v5, v6] e ∧ Upd [rb] W (((((((W.setCell ⟨rb, 0, none⟩ v0).setCell ⟨rb, 1, none⟩ v1).setCell ⟨rb, 2, none⟩ v2).setCell ⟨rb, 3, none⟩ v3).setCell ⟨rb, 4, none⟩ v4).setCell ⟨rb, 5, none⟩ v5).setCell ⟨rb, 6, none⟩ v6) :=
  ⟨((((((h.set 0 v0).set 1 v1).set 2 v2).set 3 v3).set 4 v4).set 5 v5).set 6 v6, ((((((((Upd.refl [rb] W).set (.inl (by simp)) v0).set (.inl (by simp)) v1).set (.inl (by simp)) v2).set (.inl (by simp)) v3).set (.inl (by simp)) v4).set (.inl (by simp)) v5).set (.inl (by simp)) v6)⟩
theorem rowI_fin {W : World} {g : Nat} {l : List Int} {f : Int → Int} (h : Blk W g (ints (l.map f)) 3) (hl : l.length ≤ 1000000) : RowI W (.slice (some ⟨g, 0, none⟩) l.length l.length) (l.map f) := by
  have := rowI_fresh h (by rw [List.length_map]; omega)
  rwa [List.length_map] at this
section
variable {w : World}
set_option maxRecDepth 100000 in
set_option maxHeartbeats 8000000 in
theorem ren_calls {s : StepD} {vp vl vh : Value} {ga gb na nb : Nat} {sn ln : Nat → Int} (hF : StF w s vp vl vh) (hA : Blk w ga (ints (tabI na sn)) 3) (hB : Blk w gb (ints (tabI nb ln)) 3) (hh : ∀ h ∈ s.hints, 0 ≤ h ∧ h < (na : Int)) (hk : s.kind = 4 → 0 ≤ s.node ∧ s.node < (nb : Int)) (hlen : s.hints.length ≤ 1000000)
    (hsn : ∀ j, IsI64 (sn j)) (hln : ∀ j, IsI64 (ln j)) :
    Calls Try.prog 51 #[.agg (stC s vp vl vh).toArray, .slice (some ⟨ga, 0, none⟩) na na, .slice (some ⟨gb, 0, none⟩) nb nb] w fun e w' => ∃ g, e = .returned (.agg (stC (renS sn ln s) vp vl (.slice (some ⟨g, 0, none⟩) s.hints.length s.hints.length)).toArray) ∧ RowI w' (.slice (some ⟨g, 0, none⟩) s.hints.length s.hints.length) (renS sn ln s).hints ∧ w.heap.size ≤ g ∧ Upd [] w w' := by
  obtain ⟨ap, cp, rfl, _⟩ := hF.1.cells
  obtain ⟨al, cl, rfl, _⟩ := hF.2.1.cells
  obtain ⟨ah, ch, rfl, qh, rh, hc⟩ := hF.2.2.1.cells
  have HH := Lib.hid (And.intro hA (And.intro hB (And.intro hc (And.intro hh (And.intro hsn hln)))))
  clear hA hB hc hh hF hsn hln
  have Bs := (Blk.new w (stC s (.slice ap s.params.length cp) (.slice al s.lits.length cl) (.slice ah s.hints.length ch)) 56).alloc (.cells #[.int .i64 0, .int .i64 0, .int .i64 0, .slice none 0 0, .string ⟨#[]⟩, .slice none 0 0, .slice none 0 0] 56)
  have Br := Blk.new (w.alloc (.cells (stC s (.slice ap s.params.length cp) (.slice al s.lits.length cl) (.slice ah s.hints.length ch)).toArray 56)) [.int .i64 0, .int .i64 0, .int .i64 0, .slice none 0 0, .string ⟨#[]⟩, .slice none 0 0, .slice none 0 0] 56
  have U2 := ((Upd.refl [] w).alloc (.cells (stC s (.slice ap s.params.length cp) (.slice al s.lits.length cl) (.slice ah s.hints.length ch)).toArray 56)).alloc (.cells #[.int .i64 0, .int .i64 0, .int .i64 0, .slice none 0 0, .string ⟨#[]⟩, .slice none 0 0, .slice none 0 0] 56)
  rw [show (w.alloc (.cells (stC s (.slice ap s.params.length cp) (.slice al s.lits.length cl) (.slice ah s.hints.length ch)).toArray 56)).heap.size = w.heap.size + 1 by simp] at Br
  have hz2 : ((w.alloc (.cells (stC s (.slice ap s.params.length cp) (.slice al s.lits.length cl) (.slice ah s.hints.length ch)).toArray 56)).alloc (.cells #[.int .i64 0, .int .i64 0, .int .i64 0, .slice none 0 0, .string ⟨#[]⟩, .slice none 0 0, .slice none 0 0] 56)).heap.size = w.heap.size + 2 := by simp
  go_enter Try.func51, Try.ntmps51
  go_upto_region 1 with fail
  change Code.wp _ _ _ _ ((w.alloc (.cells (stC s (.slice ap s.params.length cp) (.slice al s.lits.length cl) (.slice ah s.hints.length ch)).toArray 56)).alloc (.cells #[.int .i64 0, .int .i64 0, .int .i64 0, .slice none 0 0, .string ⟨#[]⟩, .slice none 0 0, .slice none 0 0] 56))
  generalize ((w.alloc (.cells (stC s (.slice ap s.params.length cp) (.slice al s.lits.length cl) (.slice ah s.hints.length ch)).toArray 56)).alloc (.cells #[.int .i64 0, .int .i64 0, .int .i64 0, .slice none 0 0, .string ⟨#[]⟩, .slice none 0 0, .slice none 0 0] 56)) = w2 at *
  have d6 := Bs.cell (i := 6) rfl
  have B3 := Blk.new w2 (ints (tabI s.hints.length fun _ => 0)) 3
  rw [hz2] at B3
  have U3 := (Upd.refl [] w2).alloc (.cells (ints (tabI s.hints.length fun _ => 0)).toArray 3)
  have d6' := U3.some d6 (by simp)
  have H3 := Lib.hid (And.intro B3 (And.intro (Bs.upd U3 (by simp)) (And.intro (Br.upd U3 (by simp)) (U2.step U3))))
  clear B3 U3 Bs Br U2
  go_upto_region 2 with (refine wpList_mk rfl _ _ _ rfl 3 1 8 _ Try.underlying22 infoInt rfl (by decide) _ _ _ _ s.hints.length rfl rfl rfl rfl (by omega) (by omega) ?_; change wpList _ _ _ _ _ (w2.alloc (.cells (rows s.hints.length fun _ => [.int .i64 0]).toArray 3)); rw [← tabI_zero])
  generalize (w2.alloc (.cells (ints (tabI s.hints.length fun _ => 0)).toArray 3)) = w3 at *
  go_wp2_with fail
  go_loopw [17] (fun i wr => ∃ k : Nat, i = .int .i64 k ∧ k ≤ s.hints.length ∧ Blk wr (w.heap.size + 2) (ints (tabI s.hints.length fun j => if j < k then sn (s.hints.getD j 0).toNat else 0)) 3 ∧ Blk wr w.heap.size (stC s (.slice ap s.params.length cp) (.slice al s.lits.length cl) (.slice ah s.hints.length ch)) 56 ∧ Blk wr (w.heap.size + 1) [.int .i64 0, .int .i64 0, .int .i64 0, .slice none 0 0, .string ⟨#[]⟩, .slice none 0 0, .slice none 0 0] 56 ∧ Upd [] w wr) (fun i _ => s.hints.length - (intOf i).toNat)
  case atStart => exact ⟨0, rfl, Nat.zero_le _, by simpa using H3.out.1, H3.out.2⟩
  case round =>
    obtain ⟨wo, rfl⟩ : ∃ wo : World, wo = wr := ⟨_, rfl⟩
    obtain ⟨k, rfl, hkn, hB, hBs, hBr, hU⟩ := hrel
    have HI := Lib.hid (And.intro hB (And.intro hBs (And.intro hBr hU)))
    have d6 := hBs.cell (i := 6) rfl
    clear H3 d6'
    by_cases hlt : k < s.hints.length
    · have hki : (k : Int) < s.hints.length := by omega
      have hg := List.getElem?_eq_getElem hlt
      obtain ⟨z0, z1⟩ := HH.out.2.2.2.1 _ (List.getElem_mem hlt)
      obtain ⟨gh, rfl, hcx⟩ := HH.out.2.2.1 k _ hg
      have hgd : s.hints.getD k 0 = s.hints[k] := by rw [List.getD_eq_getElem?_getD, hg]; rfl
      generalize s.hints[k] = y at *
      obtain ⟨yn, rfl⟩ := Int.eq_ofNat_of_zero_le z0
      have hyn : yn < na := by omega
      have dh := hU.some hcx (by simp)
      have da := (HH.out.1.upd hU (by simp)).cell (i := yn) (ints_get (tabI_get hyn))
      have dk := hB.cell (i := k) (ints_get (tabI_get (f := fun j => if j < k then sn (s.hints.getD j 0).toNat else 0) hlt))
      have fk := hB.free k
      have hB2 := hB.set k (.int .i64 (sn yn))
      rw [tabI_set, tabI_congr (g := fun j => if j < k + 1 then sn (s.hints.getD j 0).toNat else 0) (fun j _ => by
        by_cases e : j = k
        · subst e; rw [if_pos rfl, if_pos (by omega), hgd]; rfl
        · rw [if_neg e]
          by_cases e2 : j < k
          · rw [if_pos e2, if_pos (by omega)]
          · rw [if_neg e2, if_neg (by omega)])] at hB2
      have us : Upd [w.heap.size + 2] wo (wo.setCell ⟨w.heap.size + 2, k, none⟩ (.int .i64 (sn yn))) := (Upd.refl _ wo).set (.inl (by simp)) _
      have H4 := Lib.hid (And.intro hB2 (And.intro (hBs.upd us (by simp)) (And.intro (hBr.upd us (by simp)) (hU.fresh us (fun b hb => .inr (by simp at hb; omega))))))
      clear hB hBs hBr hU hB2 us hcx hg hgd z0
      go_wp2_with fail
      exact ⟨⟨k + 1, by go_num, by omega, H4.out⟩, by simp [intOf]; omega⟩
    · have hki : ¬ (k : Int) < s.hints.length := by omega
      have hfin : tabI s.hints.length (fun j => if j < k then sn (s.hints.getD j 0).toNat else 0) = s.hints.map (fun h => sn h.toNat) := by
        rw [tabI_congr (g := fun j => (fun h : Int => sn h.toNat) (s.hints.getD j 0)) (fun j hj => by rw [if_pos (by omega)])]
        exact (tabI_map (l := s.hints) (g := fun h => sn h.toNat))
      rw [hfin] at hB
      have f6 := hBs.free 6
      have us : Upd [w.heap.size] wo (wo.setCell ⟨w.heap.size, 6, none⟩ (.slice (some ⟨w.heap.size + 2, 0, none⟩) s.hints.length s.hints.length)) := (Upd.refl _ wo).set (.inl (by simp)) _
      have H7 := Lib.hid (And.intro (hB.upd us (by simp)) (And.intro (show Blk _ w.heap.size [.int .i64 s.kind, .int .i64 s.node, .int .i64 s.rule, .slice ap s.params.length cp, .string s.name, .slice al s.lits.length cl, .slice (some ⟨w.heap.size + 2, 0, none⟩) s.hints.length s.hints.length] 56 from hBs.set 6 (.slice (some ⟨w.heap.size + 2, 0, none⟩) s.hints.length s.hints.length)) (And.intro (hBr.upd us (by simp)) (hU.fresh us (fun b hb => .inr (by simp at hb; omega))))))
      clear HI hB hBs hBr hU us hfin
      go_upto_region 8 with fail
      generalize (wo.setCell ⟨w.heap.size, 6, none⟩ (.slice (some ⟨w.heap.size + 2, 0, none⟩) s.hints.length s.hints.length)) = w7 at *
      by_cases hk4 : s.kind = 4
      · obtain ⟨n0, n1⟩ := hk hk4
        have hb4 : (s.kind == 4) = true := by simp [hk4]
        obtain ⟨nd, hnd⟩ := Int.eq_ofNat_of_zero_le n0
        have HK := Lib.hid (show renS sn ln s = { s with hints := s.hints.map (fun h => sn h.toNat), node := ln nd } by unfold renS; rw [if_pos hk4, hnd]; rfl)
        have hnb : nd < nb := by omega
        have dn := (HH.out.2.1.upd H7.out.2.2.2 (by simp)).cell (i := nd) (ints_get (tabI_get hnb))
        have d0 := H7.out.2.1.cell (i := 0) rfl
        have d1 := H7.out.2.1.cell (i := 1) rfl
        rw [hnd] at d1
        have f1 := H7.out.2.1.free 1
        have us : Upd [w.heap.size] w7 (w7.setCell ⟨w.heap.size, 1, none⟩ (.int .i64 (ln nd))) := (Upd.refl _ w7).set (.inl (by simp)) _
        have H8 := Lib.hid (And.intro (H7.out.1.upd us (by simp)) (And.intro (show Blk _ w.heap.size [.int .i64 s.kind, .int .i64 (ln nd), .int .i64 s.rule, .slice ap s.params.length cp, .string s.name, .slice al s.lits.length cl, .slice (some ⟨w.heap.size + 2, 0, none⟩) s.hints.length s.hints.length] 56 from H7.out.2.1.set 1 (.int .i64 (ln nd))) (And.intro (H7.out.2.2.1.upd us (by simp)) (H7.out.2.2.2.fresh us (fun b hb => .inr (by simp at hb; omega))))))
        clear us hk4 hnd n0 n1
        go_upto_region 10 with fail
        generalize (w7.setCell ⟨w.heap.size, 1, none⟩ (.int .i64 (ln nd))) = w8 at *
        clear d0 d1 f1 dn
        have x0 := H8.out.2.1.cell (i := 0) rfl
        have x1 := H8.out.2.1.cell (i := 1) rfl
        have x2 := H8.out.2.1.cell (i := 2) rfl
        have x3 := H8.out.2.1.cell (i := 3) rfl
        have x4 := H8.out.2.1.cell (i := 4) rfl
        have x5 := H8.out.2.1.cell (i := 5) rfl
        have x6 := H8.out.2.1.cell (i := 6) rfl
        have r0 := H8.out.2.2.1.cell (i := 0) rfl
        have r1 := H8.out.2.2.1.cell (i := 1) rfl
        have r2 := H8.out.2.2.1.cell (i := 2) rfl
        have r3 := H8.out.2.2.1.cell (i := 3) rfl
        have r4 := H8.out.2.2.1.cell (i := 4) rfl
        have r5 := H8.out.2.2.1.cell (i := 5) rfl
        have r6 := H8.out.2.2.1.cell (i := 6) rfl
        have fr0 := H8.out.2.2.1.free 0
        have fr1 := H8.out.2.2.1.free 1
        have fr2 := H8.out.2.2.1.free 2
        have fr3 := H8.out.2.2.1.free 3
        have fr4 := H8.out.2.2.1.free 4
        have fr5 := H8.out.2.2.1.free 5
        have fr6 := H8.out.2.2.1.free 6
        have HF7 := Lib.hid (fill7 (.int .i64 s.kind) (.int .i64 (ln nd)) (.int .i64 s.rule) (.slice ap s.params.length cp) (.string s.name) (.slice al s.lits.length cl) (.slice (some ⟨w.heap.size + 2, 0, none⟩) s.hints.length s.hints.length) H8.out.2.2.1)
        clear hb4
        go_wp2_with fail
        exact ret_rowT rfl rfl HF7.out.1 Try.underlying56 (by kernel_rfl) rfl ⟨w.heap.size + 2, by rw [HK.out]; rfl, rowI_fin (H8.out.1.upd HF7.out.2 (by simp)) hlen, by omega, H8.out.2.2.2.fresh HF7.out.2 (fun b hb => .inr (by simp at hb; omega))⟩
      · have hb4 : (s.kind == 4) = false := by simpa using hk4
        have HK := Lib.hid (show renS sn ln s = { s with hints := s.hints.map (fun h => sn h.toNat) } by unfold renS; rw [if_neg hk4])
        clear hk4
        have x0 := H7.out.2.1.cell (i := 0) rfl
        have x1 := H7.out.2.1.cell (i := 1) rfl
        have x2 := H7.out.2.1.cell (i := 2) rfl
        have x3 := H7.out.2.1.cell (i := 3) rfl
        have x4 := H7.out.2.1.cell (i := 4) rfl
        have x5 := H7.out.2.1.cell (i := 5) rfl
        have x6 := H7.out.2.1.cell (i := 6) rfl
        have r0 := H7.out.2.2.1.cell (i := 0) rfl
        have r1 := H7.out.2.2.1.cell (i := 1) rfl
        have r2 := H7.out.2.2.1.cell (i := 2) rfl
        have r3 := H7.out.2.2.1.cell (i := 3) rfl
        have r4 := H7.out.2.2.1.cell (i := 4) rfl
        have r5 := H7.out.2.2.1.cell (i := 5) rfl
        have r6 := H7.out.2.2.1.cell (i := 6) rfl
        have fr0 := H7.out.2.2.1.free 0
        have fr1 := H7.out.2.2.1.free 1
        have fr2 := H7.out.2.2.1.free 2
        have fr3 := H7.out.2.2.1.free 3
        have fr4 := H7.out.2.2.1.free 4
        have fr5 := H7.out.2.2.1.free 5
        have fr6 := H7.out.2.2.1.free 6
        have HF7 := Lib.hid (fill7 (.int .i64 s.kind) (.int .i64 s.node) (.int .i64 s.rule) (.slice ap s.params.length cp) (.string s.name) (.slice al s.lits.length cl) (.slice (some ⟨w.heap.size + 2, 0, none⟩) s.hints.length s.hints.length) H7.out.2.2.1)
        go_wp2_with fail
        exact ret_rowT rfl rfl HF7.out.1 Try.underlying56 (by kernel_rfl) rfl ⟨w.heap.size + 2, by rw [HK.out]; rfl, rowI_fin (H7.out.1.upd HF7.out.2 (by simp)) hlen, by omega, H7.out.2.2.2.fresh HF7.out.2 (fun b hb => .inr (by simp at hb; omega))⟩
end
end Trim
end Go.Proofs.Ytnmfihgdedifoaa
