/- Walks through package gate: Clauses. Conditions: none. -/
import Derived.Test.YtjflbhkhnmodaaaGateB
set_option linter.unusedVariables false
set_option linter.unusedSimpArgs false
set_option linter.unusedSectionVars false
open Go.RowKit
namespace Go.Proofs.Ytjflbhkhnmodaaa
open L
namespace Gate
open Cla R14
/-- What Clauses returns. -/
def ClsT (k o : Int) (xs : List Int) (w : World) (e : Ending) (w' : World) : Prop :=
  (gOk k o xs = false → e = .returned (.tuple #[.slice none 0 0, .int .i64 1]) ∧ Upd [] w w') ∧
  (gOk k o xs = true → ∃ v, e = .returned (.tuple #[v, .int .i64 0]) ∧ CL w' v (gCl k o xs) ∧ Upd [] w w')
/-- Slices that are made one after the other, and the slice of them. -/
def allocs (w : World) : List (List Int) → World
  | [] => w
  | c :: cs => allocs (w.alloc (.cells (ints c).toArray 3)) cs
def litVals (s : Nat) : List (List Int) → List Value
  | [] => []
  | c :: cs => .slice (some ⟨s, 0, none⟩) c.length c.length :: litVals (s + 1) cs
def bump (s : Nat) : List (List Int) → Nat
  | [] => s
  | _ :: cs => bump (s + 1) cs
theorem litVals_length (s : Nat) : ∀ Ls, (litVals s Ls).length = Ls.length := by
  intro Ls
  induction Ls generalizing s with
  | nil => rfl
  | cons c cs ih => simp [litVals, ih]
theorem allocs_ok (Ls : List (List Int)) : ∀ w : World, (∀ c ∈ Ls, c.length ≤ 1000) → Upd [] w (allocs w Ls) ∧ (allocs w Ls).heap.size = bump w.heap.size Ls ∧
    ∀ (i : Nat) (c : List Int), Ls[i]? = some c → ∃ v, (litVals w.heap.size Ls)[i]? = some v ∧ SL (allocs w Ls) 1 v c.length (ints c) := by
  induction Ls with
  | nil => intro w _; exact ⟨Upd.refl _ _, rfl, by simp⟩
  | cons c cs ih =>
    intro w hl
    have U := (Upd.refl [] w).alloc (.cells (ints c).toArray 3)
    have B := Blk.new w (ints c) 3
    obtain ⟨h1, h2, h3⟩ := ih (w.alloc (.cells (ints c).toArray 3)) (fun d hd => hl d (List.mem_cons_of_mem _ hd))
    have hs : (w.alloc (.cells (ints c).toArray 3)).heap.size = w.heap.size + 1 := by simp
    rw [hs] at h2 h3
    refine ⟨U.step h1, h2, fun i d hd => ?_⟩
    cases i with
    | zero =>
      simp only [List.getElem?_cons_zero, Option.some.injEq] at hd
      subst hd
      have hc := hl c (by simp)
      exact ⟨_, rfl, (SL.of_blk (pad := []) (by simpa using B) (by simp [ints]) (Nat.le_refl _) (by unfold maxLen; omega) : SL (w.alloc (.cells (ints c).toArray 3)) 1 (.slice (some ⟨w.heap.size, 0, none⟩) c.length c.length) c.length (ints c)).upd h1 (by simp)⟩
    | succ i =>
      simp only [List.getElem?_cons_succ] at hd
      exact h3 i d hd
theorem lits_cl (w : World) (Ls : List (List Int)) (h : ∀ c ∈ Ls, c.length ≤ 1000) (hl : Ls.length ≤ 1000) :
    CL ((allocs w Ls).alloc (.cells (litVals w.heap.size Ls).toArray 24)) (.slice (some ⟨bump w.heap.size Ls, 0, none⟩) Ls.length Ls.length) Ls ∧ Upd [] w ((allocs w Ls).alloc (.cells (litVals w.heap.size Ls).toArray 24)) := by
  obtain ⟨h1, h2, h3⟩ := allocs_ok Ls w h
  have U := (Upd.refl [] (allocs w Ls)).alloc (.cells (litVals w.heap.size Ls).toArray 24)
  have B := Blk.new (allocs w Ls) (litVals w.heap.size Ls) 24
  rw [h2] at B
  refine ⟨CL.of_blk B (litVals_length _ _) hl fun i c hc => ?_, h1.step U⟩
  obtain ⟨v, hv, hs⟩ := h3 i c hc
  exact ⟨v, hv, hs.upd U (by simp)⟩
section
variable {w : World}
set_option maxRecDepth 100000 in
set_option maxHeartbeats 4000000 in
theorem GClauses0 {xv : Value} {o a : Int} (h : SL w 1 xv 1 (ints [a])) (hg : gOk 0 o [a] = true) :
    Calls Try.prog 17 #[.agg #[.int .i64 0, .int .i64 o, xv]] w (ClsT 0 o [a] w) := by
  have HV := Lib.hid (fun (w : World) (h : SL w 1 xv [a].length (ints [a])) => GValid_calls (k := 0) (o := o) h)
  have HR := Lib.hid (And.intro (show gRaw 0 o [a] = [[-o, a], [o, -a]] from rfl) (gRaw_ok hg))
  obtain ⟨av, cap, rfl, q1, r1, hc⟩ := SL.elems h
  obtain ⟨g, off, rfl, k1⟩ := hc (by omega)
  have e0 : w.cell? ⟨g, off, none⟩ = some (.int .i64 a) := k1 0 _ rfl
  have HS := Lib.hid h
  obtain ⟨_, ⟨ho1, ho2⟩, _, hx⟩ := gOk_iff.1 hg
  obtain ⟨ha1, ha2⟩ := (hx a (by simp)).1.2
  have HG := Lib.hid (And.intro hg (gErr_good hg))
  clear h hc k1 hg hx
  go_enter Try.func17, Try.ntmps17
  go_upto_region 1 with fail
  have NB := Blk.new w [.int .i64 0, .int .i64 o, .slice (some ⟨g, off, none⟩) 1 cap] 42
  have U1 := (Upd.refl [] w).alloc (.cells #[.int .i64 0, .int .i64 o, .slice (some ⟨g, off, none⟩) 1 cap] 42)
  generalize w.alloc (.cells #[.int .i64 0, .int .i64 o, .slice (some ⟨g, off, none⟩) 1 cap] 42) = w1 at *
  generalize w.heap.size = bb at *
  have H1 := Lib.hid (And.intro U1 (And.intro NB (HS.out.upd U1 (by simp))))
  have c0 := NB.cell (i := 0) rfl
  have c1 := NB.cell (i := 1) rfl
  have c2 := NB.cell (i := 2) rfl
  clear U1 NB
  go_wp2_with fail
  refine (HV.out _ H1.out.2.2).mono ?_
  rintro e w2 ⟨rfl, u2⟩
  rw [HG.out.2]
  have e0' := (H1.out.1.step u2).some e0 (by simp)
  have NB := H1.out.2.1.upd u2 (by simp)
  have H2 := Lib.hid (H1.out.1.step u2)
  replace c0 := NB.cell (i := 0) rfl
  replace c1 := NB.cell (i := 1) rfl
  replace c2 := NB.cell (i := 2) rfl
  clear e0 NB u2
  go_wp2_with fail
  refine wp_region_qx (by kernel_rfl) (by kernel_rfl) ?_
  repeat (go_big_quiet_step ((fail)))
  refine wpQuiet_nil ?_
  intro x
  have H3 := Lib.hid (H2.out.step x.upd)
  go_wp2_with fail
  have hcl := lits_cl x.val (gRaw 0 o [a]) (fun c hc => by have := (HR.out.2.1 c hc).2.2.1; omega) (by have := HR.out.2.2; omega)
  have hN := normal_calls hcl.1 (fun c hc => ⟨(HR.out.2.1 c hc).1, (HR.out.2.1 c hc).2.1⟩) (by have := HR.out.2.2; omega)
  rw [HR.out.1] at hN hcl
  refine hN.mono ?_
  rintro e w3 ⟨v3, rfl, hcl3, u3⟩
  obtain ⟨a3, cap3, rfl, _⟩ := hcl3.form
  have H4 := Lib.hid (And.intro hcl3 ((H3.out.step hcl.2).step u3))
  have HK := Lib.hid (show gCl 0 o [a] = keep [[-o, a], [o, -a]] by unfold gCl; rw [HR.out.1])
  clear hcl3 u3 hcl hN c0 c1 c2 e0'
  generalize keep [[-o, a], [o, -a]] = KL at *
  go_wp2_with fail
  go_ret2
  exact ⟨fun h => absurd (HG.out.1.symm.trans h) (by decide), fun _ => ⟨_, rfl, by rw [HK.out]; exact H4.out.1, H4.out.2⟩⟩
set_option maxRecDepth 100000 in
set_option maxHeartbeats 4000000 in
theorem GClauses1 {xv : Value} {o a b : Int} (h : SL w 1 xv 2 (ints [a, b])) (hg : gOk 1 o [a, b] = true) :
    Calls Try.prog 17 #[.agg #[.int .i64 1, .int .i64 o, xv]] w (ClsT 1 o [a, b] w) := by
  have HV := Lib.hid (fun (w : World) (h : SL w 1 xv [a, b].length (ints [a, b])) => GValid_calls (k := 1) (o := o) h)
  have HR := Lib.hid (And.intro (show gRaw 1 o [a, b] = [[-o, a], [-o, b], [o, -a, -b]] from rfl) (gRaw_ok hg))
  obtain ⟨av, cap, rfl, q1, r1, hc⟩ := SL.elems h
  obtain ⟨g, off, rfl, k1⟩ := hc (by omega)
  have e0 : w.cell? ⟨g, off, none⟩ = some (.int .i64 a) := k1 0 _ rfl
  have e1 := k1 1 _ rfl
  have HS := Lib.hid h
  obtain ⟨_, ⟨ho1, ho2⟩, _, hx⟩ := gOk_iff.1 hg
  obtain ⟨ha1, ha2⟩ := (hx a (by simp)).1.2
  obtain ⟨hb1, hb2⟩ := (hx b (by simp)).1.2
  have HG := Lib.hid (And.intro hg (gErr_good hg))
  clear h hc k1 hg hx
  go_enter Try.func17, Try.ntmps17
  go_upto_region 1 with fail
  have NB := Blk.new w [.int .i64 1, .int .i64 o, .slice (some ⟨g, off, none⟩) 2 cap] 42
  have U1 := (Upd.refl [] w).alloc (.cells #[.int .i64 1, .int .i64 o, .slice (some ⟨g, off, none⟩) 2 cap] 42)
  generalize w.alloc (.cells #[.int .i64 1, .int .i64 o, .slice (some ⟨g, off, none⟩) 2 cap] 42) = w1 at *
  generalize w.heap.size = bb at *
  have H1 := Lib.hid (And.intro U1 (And.intro NB (HS.out.upd U1 (by simp))))
  have c0 := NB.cell (i := 0) rfl
  have c1 := NB.cell (i := 1) rfl
  have c2 := NB.cell (i := 2) rfl
  clear U1 NB
  go_wp2_with fail
  refine (HV.out _ H1.out.2.2).mono ?_
  rintro e w2 ⟨rfl, u2⟩
  rw [HG.out.2]
  have e0' := (H1.out.1.step u2).some e0 (by simp)
  have e1' := (H1.out.1.step u2).some e1 (by simp)
  have NB := H1.out.2.1.upd u2 (by simp)
  have H2 := Lib.hid (H1.out.1.step u2)
  replace c0 := NB.cell (i := 0) rfl
  replace c1 := NB.cell (i := 1) rfl
  replace c2 := NB.cell (i := 2) rfl
  clear e0 e1 NB u2
  go_wp2_with fail
  refine wp_region_qx (by kernel_rfl) (by kernel_rfl) ?_
  repeat (go_big_quiet_step ((fail)))
  refine wpQuiet_nil ?_
  intro x
  have H3 := Lib.hid (H2.out.step x.upd)
  go_wp2_with fail
  have hcl := lits_cl x.val (gRaw 1 o [a, b]) (fun c hc => by have := (HR.out.2.1 c hc).2.2.1; omega) (by have := HR.out.2.2; omega)
  have hN := normal_calls hcl.1 (fun c hc => ⟨(HR.out.2.1 c hc).1, (HR.out.2.1 c hc).2.1⟩) (by have := HR.out.2.2; omega)
  rw [HR.out.1] at hN hcl
  refine hN.mono ?_
  rintro e w3 ⟨v3, rfl, hcl3, u3⟩
  obtain ⟨a3, cap3, rfl, _⟩ := hcl3.form
  have H4 := Lib.hid (And.intro hcl3 ((H3.out.step hcl.2).step u3))
  have HK := Lib.hid (show gCl 1 o [a, b] = keep [[-o, a], [-o, b], [o, -a, -b]] by unfold gCl; rw [HR.out.1])
  clear hcl3 u3 hcl hN c0 c1 c2 e0' e1'
  generalize keep [[-o, a], [-o, b], [o, -a, -b]] = KL at *
  go_wp2_with fail
  go_ret2
  exact ⟨fun h => absurd (HG.out.1.symm.trans h) (by decide), fun _ => ⟨_, rfl, by rw [HK.out]; exact H4.out.1, H4.out.2⟩⟩
set_option maxRecDepth 100000 in
set_option maxHeartbeats 4000000 in
theorem GClauses2 {xv : Value} {o a b : Int} (h : SL w 1 xv 2 (ints [a, b])) (hg : gOk 2 o [a, b] = true) :
    Calls Try.prog 17 #[.agg #[.int .i64 2, .int .i64 o, xv]] w (ClsT 2 o [a, b] w) := by
  have HV := Lib.hid (fun (w : World) (h : SL w 1 xv [a, b].length (ints [a, b])) => GValid_calls (k := 2) (o := o) h)
  have HR := Lib.hid (And.intro (show gRaw 2 o [a, b] = [[o, -a], [o, -b], [-o, a, b]] from rfl) (gRaw_ok hg))
  obtain ⟨av, cap, rfl, q1, r1, hc⟩ := SL.elems h
  obtain ⟨g, off, rfl, k1⟩ := hc (by omega)
  have e0 : w.cell? ⟨g, off, none⟩ = some (.int .i64 a) := k1 0 _ rfl
  have e1 := k1 1 _ rfl
  have HS := Lib.hid h
  obtain ⟨_, ⟨ho1, ho2⟩, _, hx⟩ := gOk_iff.1 hg
  obtain ⟨ha1, ha2⟩ := (hx a (by simp)).1.2
  obtain ⟨hb1, hb2⟩ := (hx b (by simp)).1.2
  have HG := Lib.hid (And.intro hg (gErr_good hg))
  clear h hc k1 hg hx
  go_enter Try.func17, Try.ntmps17
  go_upto_region 1 with fail
  have NB := Blk.new w [.int .i64 2, .int .i64 o, .slice (some ⟨g, off, none⟩) 2 cap] 42
  have U1 := (Upd.refl [] w).alloc (.cells #[.int .i64 2, .int .i64 o, .slice (some ⟨g, off, none⟩) 2 cap] 42)
  generalize w.alloc (.cells #[.int .i64 2, .int .i64 o, .slice (some ⟨g, off, none⟩) 2 cap] 42) = w1 at *
  generalize w.heap.size = bb at *
  have H1 := Lib.hid (And.intro U1 (And.intro NB (HS.out.upd U1 (by simp))))
  have c0 := NB.cell (i := 0) rfl
  have c1 := NB.cell (i := 1) rfl
  have c2 := NB.cell (i := 2) rfl
  clear U1 NB
  go_wp2_with fail
  refine (HV.out _ H1.out.2.2).mono ?_
  rintro e w2 ⟨rfl, u2⟩
  rw [HG.out.2]
  have e0' := (H1.out.1.step u2).some e0 (by simp)
  have e1' := (H1.out.1.step u2).some e1 (by simp)
  have NB := H1.out.2.1.upd u2 (by simp)
  have H2 := Lib.hid (H1.out.1.step u2)
  replace c0 := NB.cell (i := 0) rfl
  replace c1 := NB.cell (i := 1) rfl
  replace c2 := NB.cell (i := 2) rfl
  clear e0 e1 NB u2
  go_wp2_with fail
  refine wp_region_qx (by kernel_rfl) (by kernel_rfl) ?_
  repeat (go_big_quiet_step ((fail)))
  refine wpQuiet_nil ?_
  intro x
  have H3 := Lib.hid (H2.out.step x.upd)
  go_wp2_with fail
  have hcl := lits_cl x.val (gRaw 2 o [a, b]) (fun c hc => by have := (HR.out.2.1 c hc).2.2.1; omega) (by have := HR.out.2.2; omega)
  have hN := normal_calls hcl.1 (fun c hc => ⟨(HR.out.2.1 c hc).1, (HR.out.2.1 c hc).2.1⟩) (by have := HR.out.2.2; omega)
  rw [HR.out.1] at hN hcl
  refine hN.mono ?_
  rintro e w3 ⟨v3, rfl, hcl3, u3⟩
  obtain ⟨a3, cap3, rfl, _⟩ := hcl3.form
  have H4 := Lib.hid (And.intro hcl3 ((H3.out.step hcl.2).step u3))
  have HK := Lib.hid (show gCl 2 o [a, b] = keep [[o, -a], [o, -b], [-o, a, b]] by unfold gCl; rw [HR.out.1])
  clear hcl3 u3 hcl hN c0 c1 c2 e0' e1'
  generalize keep [[o, -a], [o, -b], [-o, a, b]] = KL at *
  go_wp2_with fail
  go_ret2
  exact ⟨fun h => absurd (HG.out.1.symm.trans h) (by decide), fun _ => ⟨_, rfl, by rw [HK.out]; exact H4.out.1, H4.out.2⟩⟩
set_option maxRecDepth 100000 in
set_option maxHeartbeats 4000000 in
theorem GClauses3 {xv : Value} {o a b : Int} (h : SL w 1 xv 2 (ints [a, b])) (hg : gOk 3 o [a, b] = true) :
    Calls Try.prog 17 #[.agg #[.int .i64 3, .int .i64 o, xv]] w (ClsT 3 o [a, b] w) := by
  have HV := Lib.hid (fun (w : World) (h : SL w 1 xv [a, b].length (ints [a, b])) => GValid_calls (k := 3) (o := o) h)
  have HR := Lib.hid (And.intro (show gRaw 3 o [a, b] = [[-o, a, b], [-o, -a, -b], [o, -a, b], [o, a, -b]] from rfl) (gRaw_ok hg))
  obtain ⟨av, cap, rfl, q1, r1, hc⟩ := SL.elems h
  obtain ⟨g, off, rfl, k1⟩ := hc (by omega)
  have e0 : w.cell? ⟨g, off, none⟩ = some (.int .i64 a) := k1 0 _ rfl
  have e1 := k1 1 _ rfl
  have HS := Lib.hid h
  obtain ⟨_, ⟨ho1, ho2⟩, _, hx⟩ := gOk_iff.1 hg
  obtain ⟨ha1, ha2⟩ := (hx a (by simp)).1.2
  obtain ⟨hb1, hb2⟩ := (hx b (by simp)).1.2
  have HG := Lib.hid (And.intro hg (gErr_good hg))
  clear h hc k1 hg hx
  go_enter Try.func17, Try.ntmps17
  go_upto_region 1 with fail
  have NB := Blk.new w [.int .i64 3, .int .i64 o, .slice (some ⟨g, off, none⟩) 2 cap] 42
  have U1 := (Upd.refl [] w).alloc (.cells #[.int .i64 3, .int .i64 o, .slice (some ⟨g, off, none⟩) 2 cap] 42)
  generalize w.alloc (.cells #[.int .i64 3, .int .i64 o, .slice (some ⟨g, off, none⟩) 2 cap] 42) = w1 at *
  generalize w.heap.size = bb at *
  have H1 := Lib.hid (And.intro U1 (And.intro NB (HS.out.upd U1 (by simp))))
  have c0 := NB.cell (i := 0) rfl
  have c1 := NB.cell (i := 1) rfl
  have c2 := NB.cell (i := 2) rfl
  clear U1 NB
  go_wp2_with fail
  refine (HV.out _ H1.out.2.2).mono ?_
  rintro e w2 ⟨rfl, u2⟩
  rw [HG.out.2]
  have e0' := (H1.out.1.step u2).some e0 (by simp)
  have e1' := (H1.out.1.step u2).some e1 (by simp)
  have NB := H1.out.2.1.upd u2 (by simp)
  have H2 := Lib.hid (H1.out.1.step u2)
  replace c0 := NB.cell (i := 0) rfl
  replace c1 := NB.cell (i := 1) rfl
  replace c2 := NB.cell (i := 2) rfl
  clear e0 e1 NB u2
  go_wp2_with fail
  refine wp_region_qx (by kernel_rfl) (by kernel_rfl) ?_
  repeat (go_big_quiet_step ((fail)))
  refine wpQuiet_nil ?_
  intro x
  have H3 := Lib.hid (H2.out.step x.upd)
  go_wp2_with fail
  have hcl := lits_cl x.val (gRaw 3 o [a, b]) (fun c hc => by have := (HR.out.2.1 c hc).2.2.1; omega) (by have := HR.out.2.2; omega)
  have hN := normal_calls hcl.1 (fun c hc => ⟨(HR.out.2.1 c hc).1, (HR.out.2.1 c hc).2.1⟩) (by have := HR.out.2.2; omega)
  rw [HR.out.1] at hN hcl
  refine hN.mono ?_
  rintro e w3 ⟨v3, rfl, hcl3, u3⟩
  obtain ⟨a3, cap3, rfl, _⟩ := hcl3.form
  have H4 := Lib.hid (And.intro hcl3 ((H3.out.step hcl.2).step u3))
  have HK := Lib.hid (show gCl 3 o [a, b] = keep [[-o, a, b], [-o, -a, -b], [o, -a, b], [o, a, -b]] by unfold gCl; rw [HR.out.1])
  clear hcl3 u3 hcl hN c0 c1 c2 e0' e1'
  generalize keep [[-o, a, b], [-o, -a, -b], [o, -a, b], [o, a, -b]] = KL at *
  go_wp2_with fail
  go_ret2
  exact ⟨fun h => absurd (HG.out.1.symm.trans h) (by decide), fun _ => ⟨_, rfl, by rw [HK.out]; exact H4.out.1, H4.out.2⟩⟩
set_option maxRecDepth 100000 in
set_option maxHeartbeats 4000000 in
theorem GClauses4 {xv : Value} {o a b c : Int} (h : SL w 1 xv 3 (ints [a, b, c])) (hg : gOk 4 o [a, b, c] = true) :
    Calls Try.prog 17 #[.agg #[.int .i64 4, .int .i64 o, xv]] w (ClsT 4 o [a, b, c] w) := by
  have HV := Lib.hid (fun (w : World) (h : SL w 1 xv [a, b, c].length (ints [a, b, c])) => GValid_calls (k := 4) (o := o) h)
  have HR := Lib.hid (And.intro (show gRaw 4 o [a, b, c] = [[-a, -b, o], [-a, b, -o], [a, -c, o], [a, c, -o]] from rfl) (gRaw_ok hg))
  obtain ⟨av, cap, rfl, q1, r1, hc⟩ := SL.elems h
  obtain ⟨g, off, rfl, k1⟩ := hc (by omega)
  have e0 : w.cell? ⟨g, off, none⟩ = some (.int .i64 a) := k1 0 _ rfl
  have e1 := k1 1 _ rfl
  have e2 := k1 2 _ rfl
  have HS := Lib.hid h
  obtain ⟨_, ⟨ho1, ho2⟩, _, hx⟩ := gOk_iff.1 hg
  obtain ⟨ha1, ha2⟩ := (hx a (by simp)).1.2
  obtain ⟨hb1, hb2⟩ := (hx b (by simp)).1.2
  obtain ⟨hc1, hc2⟩ := (hx c (by simp)).1.2
  have HG := Lib.hid (And.intro hg (gErr_good hg))
  clear h hc k1 hg hx
  go_enter Try.func17, Try.ntmps17
  go_upto_region 1 with fail
  have NB := Blk.new w [.int .i64 4, .int .i64 o, .slice (some ⟨g, off, none⟩) 3 cap] 42
  have U1 := (Upd.refl [] w).alloc (.cells #[.int .i64 4, .int .i64 o, .slice (some ⟨g, off, none⟩) 3 cap] 42)
  generalize w.alloc (.cells #[.int .i64 4, .int .i64 o, .slice (some ⟨g, off, none⟩) 3 cap] 42) = w1 at *
  generalize w.heap.size = bb at *
  have H1 := Lib.hid (And.intro U1 (And.intro NB (HS.out.upd U1 (by simp))))
  have c0 := NB.cell (i := 0) rfl
  have c1 := NB.cell (i := 1) rfl
  have c2 := NB.cell (i := 2) rfl
  clear U1 NB
  go_wp2_with fail
  refine (HV.out _ H1.out.2.2).mono ?_
  rintro e w2 ⟨rfl, u2⟩
  rw [HG.out.2]
  have e0' := (H1.out.1.step u2).some e0 (by simp)
  have e1' := (H1.out.1.step u2).some e1 (by simp)
  have e2' := (H1.out.1.step u2).some e2 (by simp)
  have NB := H1.out.2.1.upd u2 (by simp)
  have H2 := Lib.hid (H1.out.1.step u2)
  replace c0 := NB.cell (i := 0) rfl
  replace c1 := NB.cell (i := 1) rfl
  replace c2 := NB.cell (i := 2) rfl
  clear e0 e1 e2 NB u2
  go_wp2_with fail
  refine wp_region_qx (by kernel_rfl) (by kernel_rfl) ?_
  repeat (go_big_quiet_step ((fail)))
  refine wpQuiet_nil ?_
  intro x
  have H3 := Lib.hid (H2.out.step x.upd)
  go_wp2_with fail
  have hcl := lits_cl x.val (gRaw 4 o [a, b, c]) (fun c hc => by have := (HR.out.2.1 c hc).2.2.1; omega) (by have := HR.out.2.2; omega)
  have hN := normal_calls hcl.1 (fun c hc => ⟨(HR.out.2.1 c hc).1, (HR.out.2.1 c hc).2.1⟩) (by have := HR.out.2.2; omega)
  rw [HR.out.1] at hN hcl
  refine hN.mono ?_
  rintro e w3 ⟨v3, rfl, hcl3, u3⟩
  obtain ⟨a3, cap3, rfl, _⟩ := hcl3.form
  have H4 := Lib.hid (And.intro hcl3 ((H3.out.step hcl.2).step u3))
  have HK := Lib.hid (show gCl 4 o [a, b, c] = keep [[-a, -b, o], [-a, b, -o], [a, -c, o], [a, c, -o]] by unfold gCl; rw [HR.out.1])
  clear hcl3 u3 hcl hN c0 c1 c2 e0' e1' e2'
  generalize keep [[-a, -b, o], [-a, b, -o], [a, -c, o], [a, c, -o]] = KL at *
  go_wp2_with fail
  go_ret2
  exact ⟨fun h => absurd (HG.out.1.symm.trans h) (by decide), fun _ => ⟨_, rfl, by rw [HK.out]; exact H4.out.1, H4.out.2⟩⟩
set_option maxRecDepth 100000 in
set_option maxHeartbeats 4000000 in
theorem GClauses5 {xv : Value} {o a b c : Int} (h : SL w 1 xv 3 (ints [a, b, c])) (hg : gOk 5 o [a, b, c] = true) :
    Calls Try.prog 17 #[.agg #[.int .i64 5, .int .i64 o, xv]] w (ClsT 5 o [a, b, c] w) := by
  have HV := Lib.hid (fun (w : World) (h : SL w 1 xv [a, b, c].length (ints [a, b, c])) => GValid_calls (k := 5) (o := o) h)
  have HR := Lib.hid (And.intro (show gRaw 5 o [a, b, c] = [[o, -a, b, c], [o, a, -b, c], [o, a, b, -c], [o, -a, -b, -c], [-o, a, b, c], [-o, a, -b, -c], [-o, -a, b, -c], [-o, -a, -b, c]] from rfl) (gRaw_ok hg))
  obtain ⟨av, cap, rfl, q1, r1, hc⟩ := SL.elems h
  obtain ⟨g, off, rfl, k1⟩ := hc (by omega)
  have e0 : w.cell? ⟨g, off, none⟩ = some (.int .i64 a) := k1 0 _ rfl
  have e1 := k1 1 _ rfl
  have e2 := k1 2 _ rfl
  have HS := Lib.hid h
  obtain ⟨_, ⟨ho1, ho2⟩, _, hx⟩ := gOk_iff.1 hg
  obtain ⟨ha1, ha2⟩ := (hx a (by simp)).1.2
  obtain ⟨hb1, hb2⟩ := (hx b (by simp)).1.2
  obtain ⟨hc1, hc2⟩ := (hx c (by simp)).1.2
  have HG := Lib.hid (And.intro hg (gErr_good hg))
  clear h hc k1 hg hx
  go_enter Try.func17, Try.ntmps17
  go_upto_region 1 with fail
  have NB := Blk.new w [.int .i64 5, .int .i64 o, .slice (some ⟨g, off, none⟩) 3 cap] 42
  have U1 := (Upd.refl [] w).alloc (.cells #[.int .i64 5, .int .i64 o, .slice (some ⟨g, off, none⟩) 3 cap] 42)
  generalize w.alloc (.cells #[.int .i64 5, .int .i64 o, .slice (some ⟨g, off, none⟩) 3 cap] 42) = w1 at *
  generalize w.heap.size = bb at *
  have H1 := Lib.hid (And.intro U1 (And.intro NB (HS.out.upd U1 (by simp))))
  have c0 := NB.cell (i := 0) rfl
  have c1 := NB.cell (i := 1) rfl
  have c2 := NB.cell (i := 2) rfl
  clear U1 NB
  go_wp2_with fail
  refine (HV.out _ H1.out.2.2).mono ?_
  rintro e w2 ⟨rfl, u2⟩
  rw [HG.out.2]
  have e0' := (H1.out.1.step u2).some e0 (by simp)
  have e1' := (H1.out.1.step u2).some e1 (by simp)
  have e2' := (H1.out.1.step u2).some e2 (by simp)
  have NB := H1.out.2.1.upd u2 (by simp)
  have H2 := Lib.hid (H1.out.1.step u2)
  replace c0 := NB.cell (i := 0) rfl
  replace c1 := NB.cell (i := 1) rfl
  replace c2 := NB.cell (i := 2) rfl
  clear e0 e1 e2 NB u2
  go_wp2_with fail
  refine wp_region_qx (by kernel_rfl) (by kernel_rfl) ?_
  repeat (go_big_quiet_step ((fail)))
  refine wpQuiet_nil ?_
  intro x
  have H3 := Lib.hid (H2.out.step x.upd)
  go_wp2_with fail
  have hcl := lits_cl x.val (gRaw 5 o [a, b, c]) (fun c hc => by have := (HR.out.2.1 c hc).2.2.1; omega) (by have := HR.out.2.2; omega)
  have hN := normal_calls hcl.1 (fun c hc => ⟨(HR.out.2.1 c hc).1, (HR.out.2.1 c hc).2.1⟩) (by have := HR.out.2.2; omega)
  rw [HR.out.1] at hN hcl
  refine hN.mono ?_
  rintro e w3 ⟨v3, rfl, hcl3, u3⟩
  obtain ⟨a3, cap3, rfl, _⟩ := hcl3.form
  have H4 := Lib.hid (And.intro hcl3 ((H3.out.step hcl.2).step u3))
  have HK := Lib.hid (show gCl 5 o [a, b, c] = keep [[o, -a, b, c], [o, a, -b, c], [o, a, b, -c], [o, -a, -b, -c], [-o, a, b, c], [-o, a, -b, -c], [-o, -a, b, -c], [-o, -a, -b, c]] by unfold gCl; rw [HR.out.1])
  clear hcl3 u3 hcl hN c0 c1 c2 e0' e1' e2'
  generalize keep [[o, -a, b, c], [o, a, -b, c], [o, a, b, -c], [o, -a, -b, -c], [-o, a, b, c], [-o, a, -b, -c], [-o, -a, b, -c], [-o, -a, -b, c]] = KL at *
  go_wp2_with fail
  go_ret2
  exact ⟨fun h => absurd (HG.out.1.symm.trans h) (by decide), fun _ => ⟨_, rfl, by rw [HK.out]; exact H4.out.1, H4.out.2⟩⟩
set_option maxRecDepth 100000 in
set_option maxHeartbeats 4000000 in
theorem GClauses6 {xv : Value} {o a b c : Int} (h : SL w 1 xv 3 (ints [a, b, c])) (hg : gOk 6 o [a, b, c] = true) :
    Calls Try.prog 17 #[.agg #[.int .i64 6, .int .i64 o, xv]] w (ClsT 6 o [a, b, c] w) := by
  have HV := Lib.hid (fun (w : World) (h : SL w 1 xv [a, b, c].length (ints [a, b, c])) => GValid_calls (k := 6) (o := o) h)
  have HR := Lib.hid (And.intro (show gRaw 6 o [a, b, c] = [[o, -a, -b], [o, -a, -c], [o, -b, -c], [-o, a, b], [-o, a, c], [-o, b, c]] from rfl) (gRaw_ok hg))
  obtain ⟨av, cap, rfl, q1, r1, hc⟩ := SL.elems h
  obtain ⟨g, off, rfl, k1⟩ := hc (by omega)
  have e0 : w.cell? ⟨g, off, none⟩ = some (.int .i64 a) := k1 0 _ rfl
  have e1 := k1 1 _ rfl
  have e2 := k1 2 _ rfl
  have HS := Lib.hid h
  obtain ⟨_, ⟨ho1, ho2⟩, _, hx⟩ := gOk_iff.1 hg
  obtain ⟨ha1, ha2⟩ := (hx a (by simp)).1.2
  obtain ⟨hb1, hb2⟩ := (hx b (by simp)).1.2
  obtain ⟨hc1, hc2⟩ := (hx c (by simp)).1.2
  have HG := Lib.hid (And.intro hg (gErr_good hg))
  clear h hc k1 hg hx
  go_enter Try.func17, Try.ntmps17
  go_upto_region 1 with fail
  have NB := Blk.new w [.int .i64 6, .int .i64 o, .slice (some ⟨g, off, none⟩) 3 cap] 42
  have U1 := (Upd.refl [] w).alloc (.cells #[.int .i64 6, .int .i64 o, .slice (some ⟨g, off, none⟩) 3 cap] 42)
  generalize w.alloc (.cells #[.int .i64 6, .int .i64 o, .slice (some ⟨g, off, none⟩) 3 cap] 42) = w1 at *
  generalize w.heap.size = bb at *
  have H1 := Lib.hid (And.intro U1 (And.intro NB (HS.out.upd U1 (by simp))))
  have c0 := NB.cell (i := 0) rfl
  have c1 := NB.cell (i := 1) rfl
  have c2 := NB.cell (i := 2) rfl
  clear U1 NB
  go_wp2_with fail
  refine (HV.out _ H1.out.2.2).mono ?_
  rintro e w2 ⟨rfl, u2⟩
  rw [HG.out.2]
  have e0' := (H1.out.1.step u2).some e0 (by simp)
  have e1' := (H1.out.1.step u2).some e1 (by simp)
  have e2' := (H1.out.1.step u2).some e2 (by simp)
  have NB := H1.out.2.1.upd u2 (by simp)
  have H2 := Lib.hid (H1.out.1.step u2)
  replace c0 := NB.cell (i := 0) rfl
  replace c1 := NB.cell (i := 1) rfl
  replace c2 := NB.cell (i := 2) rfl
  clear e0 e1 e2 NB u2
  go_wp2_with fail
  refine wp_region_qx (by kernel_rfl) (by kernel_rfl) ?_
  repeat (go_big_quiet_step ((fail)))
  refine wpQuiet_nil ?_
  intro x
  have H3 := Lib.hid (H2.out.step x.upd)
  go_wp2_with fail
  have hcl := lits_cl x.val (gRaw 6 o [a, b, c]) (fun c hc => by have := (HR.out.2.1 c hc).2.2.1; omega) (by have := HR.out.2.2; omega)
  have hN := normal_calls hcl.1 (fun c hc => ⟨(HR.out.2.1 c hc).1, (HR.out.2.1 c hc).2.1⟩) (by have := HR.out.2.2; omega)
  rw [HR.out.1] at hN hcl
  refine hN.mono ?_
  rintro e w3 ⟨v3, rfl, hcl3, u3⟩
  obtain ⟨a3, cap3, rfl, _⟩ := hcl3.form
  have H4 := Lib.hid (And.intro hcl3 ((H3.out.step hcl.2).step u3))
  have HK := Lib.hid (show gCl 6 o [a, b, c] = keep [[o, -a, -b], [o, -a, -c], [o, -b, -c], [-o, a, b], [-o, a, c], [-o, b, c]] by unfold gCl; rw [HR.out.1])
  clear hcl3 u3 hcl hN c0 c1 c2 e0' e1' e2'
  generalize keep [[o, -a, -b], [o, -a, -c], [o, -b, -c], [-o, a, b], [-o, a, c], [-o, b, c]] = KL at *
  go_wp2_with fail
  go_ret2
  exact ⟨fun h => absurd (HG.out.1.symm.trans h) (by decide), fun _ => ⟨_, rfl, by rw [HK.out]; exact H4.out.1, H4.out.2⟩⟩
set_option maxRecDepth 100000 in
set_option maxHeartbeats 4000000 in
theorem GClauses_calls {xv : Value} {k o : Int} {xs : List Int} (h : SL w 1 xv xs.length (ints xs)) :
    Calls Try.prog 17 #[.agg #[.int .i64 k, .int .i64 o, xv]] w (ClsT k o xs w) := by
  cases hg : gOk k o xs with
  | true =>
    obtain ⟨⟨h0, h6⟩, _, hn, _⟩ := gOk_iff.1 hg
    rcases (by omega : k = 0 ∨ k = 1 ∨ k = 2 ∨ k = 3 ∨ k = 4 ∨ k = 5 ∨ k = 6) with rfl | rfl | rfl | rfl | rfl | rfl | rfl
    · obtain ⟨a, rfl⟩ : ∃ a, xs = [a] := by
        match xs, hn with
        | [a], _ => exact ⟨a, rfl⟩
      exact GClauses0 h hg
    · obtain ⟨a, b, rfl⟩ : ∃ a b, xs = [a, b] := by
        match xs, hn with
        | [a, b], _ => exact ⟨a, b, rfl⟩
      exact GClauses1 h hg
    · obtain ⟨a, b, rfl⟩ : ∃ a b, xs = [a, b] := by
        match xs, hn with
        | [a, b], _ => exact ⟨a, b, rfl⟩
      exact GClauses2 h hg
    · obtain ⟨a, b, rfl⟩ : ∃ a b, xs = [a, b] := by
        match xs, hn with
        | [a, b], _ => exact ⟨a, b, rfl⟩
      exact GClauses3 h hg
    · obtain ⟨a, b, c, rfl⟩ : ∃ a b c, xs = [a, b, c] := by
        match xs, hn with
        | [a, b, c], _ => exact ⟨a, b, c, rfl⟩
      exact GClauses4 h hg
    · obtain ⟨a, b, c, rfl⟩ : ∃ a b c, xs = [a, b, c] := by
        match xs, hn with
        | [a, b, c], _ => exact ⟨a, b, c, rfl⟩
      exact GClauses5 h hg
    · obtain ⟨a, b, c, rfl⟩ : ∃ a b c, xs = [a, b, c] := by
        match xs, hn with
        | [a, b, c], _ => exact ⟨a, b, c, rfl⟩
      exact GClauses6 h hg
  | false =>
    have HG := Lib.hid (And.intro hg (gErr_bad hg))
    obtain ⟨a, cap, rfl, q1, r1, _⟩ := SL.elems h
    have HS := Lib.hid h
    clear h hg
    go_enter Try.func17, Try.ntmps17
    go_upto_region 1 with fail
    have NB := Blk.new w [.int .i64 k, .int .i64 o, .slice a xs.length cap] 42
    have U1 := (Upd.refl [] w).alloc (.cells #[.int .i64 k, .int .i64 o, .slice a xs.length cap] 42)
    generalize w.alloc (.cells #[.int .i64 k, .int .i64 o, .slice a xs.length cap] 42) = w1 at *
    generalize w.heap.size = bb at *
    have H1 := Lib.hid (And.intro U1 (HS.out.upd U1 (by simp)))
    have c0 := NB.cell (i := 0) rfl
    have c1 := NB.cell (i := 1) rfl
    have c2 := NB.cell (i := 2) rfl
    clear U1 NB
    go_wp2_with fail
    refine (GValid_calls (k := k) (o := o) H1.out.2).mono ?_
    rintro e w2 ⟨rfl, u2⟩
    rw [HG.out.2]
    have H2 := Lib.hid (H1.out.1.step u2)
    clear u2
    go_wp2_with fail
    go_ret2
    exact ⟨fun _ => ⟨rfl, H2.out⟩, fun h => absurd (HG.out.1.symm.trans h) (by decide)⟩
end
end Gate
end Go.Proofs.Ytjflbhkhnmodaaa
