/- Walks through the reference of package trim: Rests. Conditions: none. -/
import Derived.Test.YtnmfihgdedifoaaTrimB
set_option linter.unusedVariables false
set_option linter.unusedSimpArgs false
set_option linter.unusedSectionVars false
open Go.RowKit
namespace Go.Proofs.Ytnmfihgdedifoaa
open L
namespace Trim
theorem infoBool : (Try.prog.info? 4).map (fun i => (i.zero, i.size, i.bytes)) = some (some (.bool false), 1, 1) := by kernel_rfl
/-- The values of a function below n. -/
def tab (n : Nat) (u : Nat → Bool) : List Bool := (List.range n).map u
theorem tab_length (n : Nat) (u : Nat → Bool) : (tab n u).length = n := by simp [tab]
theorem tab_get {n : Nat} {u : Nat → Bool} {k : Nat} (h : k < n) : (tab n u)[k]? = some (u k) := by simp [tab, h]
theorem tab_set {n : Nat} {u : Nat → Bool} {k : Nat} (h : k < n) : (bools (tab n u)).set k (.bool true) = bools (tab n (fun j => u j || j == k)) := by
  apply List.ext_getElem?
  intro j
  unfold bools tab
  rw [List.getElem?_set]
  by_cases hj : j < n
  · by_cases e : k = j
    · subst e; simp [h]
    · simp [hj, e, Ne.symm e]
  · have : ¬ k = j := by omega
    simp [hj, this]
theorem tab_false (n : Nat) : bools (tab n fun _ => false) = rows n fun _ => [.bool false] := by
  rw [rows_one]
  apply List.ext_getElem?
  intro j
  unfold bools tab
  by_cases hj : j < n
  · simp [hj]
  · simp [hj]
theorem tab_congr {n : Nat} {u v : Nat → Bool} (h : ∀ k, k < n → u k = v k) : tab n u = tab n v := by
  unfold tab
  exact List.map_congr_left (fun k hk => h k (List.mem_range.1 hk))
section
variable {w w' : World} {v : Value}
set_option maxRecDepth 100000 in
set_option maxHeartbeats 8000000 in
theorem rests_calls {p : PrfD} (h : PrL w v p) (hwf : Wf p) {s : Int} (hs : IsI64 s) : Calls Try.prog 16 #[v, .int .i64 s] w fun e w' => ∃ g, e = .returned (.slice (some ⟨g, 0, none⟩) p.steps.length p.steps.length) ∧ Blk w' g (bools (tab p.steps.length (down p.steps p.steps.length (fun k => decide ((k : Int) = s))))) 4 ∧ w.heap.size ≤ g ∧ Upd [] w w' := by
  obtain ⟨vl, vs, rfl, hL, hS⟩ := h
  obtain ⟨al, cl, rfl, ql, rl⟩ := hL.form
  obtain ⟨a2, c2, rfl, qs, rs, hat⟩ := hS.at_
  have HS := Lib.hid hat
  have hlen := hwf.len
  have HW := Lib.hid hwf
  clear hL hS hat hwf
  generalize hn : p.steps.length = n at *
  have HN := Lib.hid hn
  clear hn
  have HI := Lib.hid hs
  go_enter Try.func16, Try.ntmps16
  go_upto_region 1 with fail
  have b1 := Blk.new w [.slice al p.lemmas.length cl, .slice a2 n c2] 30
  have u1 := (Upd.refl [] w).alloc (.cells #[.slice al p.lemmas.length cl, .slice a2 n c2] 30)
  have hz1 : (w.alloc (.cells #[.slice al p.lemmas.length cl, .slice a2 n c2] 30)).heap.size = w.heap.size + 1 := by simp
  have c1 := b1.cell (i := 1) rfl
  have HU1 := Lib.hid (And.intro u1 (And.intro b1 hz1))
  clear b1 u1 hz1
  generalize (w.alloc (.cells #[.slice al p.lemmas.length cl, .slice a2 n c2] 30)) = w1 at *
  go_upto_region 2 with (refine wpList_mk rfl _ _ _ rfl 4 1 1 _ Try.underlying31 infoBool rfl (by decide) .i64 .i64 (n : Int) (n : Int) n rfl rfl rfl rfl (by omega) (by omega) ?_)
  have b2 := Blk.new w1 (rows n fun _ => [.bool false]) 4
  rw [← tab_false] at b2 ⊢
  have u2 := (Upd.refl [] w1).alloc (.cells (bools (tab n fun _ => false)).toArray 4)
  have HB2 := Lib.hid (And.intro b2 (And.intro (HU1.out.2.1.upd u2 (by simp)) (HU1.out.1.step u2)))
  have c1' := u2.some c1 (by simp)
  have hgz : w1.heap.size = w.heap.size + 1 := HU1.out.2.2
  clear b2 u2 c1
  generalize (w1.alloc (.cells (bools (tab n fun _ => false)).toArray 4)) = w2 at *
  rw [hgz] at HB2 ⊢
  have HGZ := Lib.hid (show w.heap.size ≤ w.heap.size + 1 by omega)
  clear hgz HU1
  obtain ⟨pb, hpb⟩ : ∃ pb, pb = w.heap.size := ⟨_, rfl⟩
  rw [← hpb] at c1' HB2 ⊢
  have HPB := Lib.hid hpb
  clear hpb
  have hsl : -9223372036854775808 ≤ s := hs.1
  clear hs
  have key : ∀ w3, Blk w3 (pb + 1) (bools (tab n fun k => decide ((k : Int) = s))) 4 ∧ Blk w3 pb [.slice al p.lemmas.length cl, .slice a2 n c2] 30 ∧ Upd [] w w3 → True := fun _ _ => trivial
  have htab0 : ¬ (0 ≤ s ∧ s < n) → tab n (fun _ => false) = tab n fun k => decide ((k : Int) = s) := fun h => tab_congr (fun k hk => by symm; apply decide_eq_false; omega)
  have htab1 : ∀ z : Nat, s = (z : Int) → z < n → (bools (tab n fun _ => false)).set z (.bool true) = bools (tab n fun k => decide ((k : Int) = s)) := fun z hz hzn => by
    rw [tab_set hzn]
    congr 1
    refine tab_congr (fun k hk => ?_)
    rw [Bool.false_or, hz]
    by_cases e : k = z
    · subst e; simp
    · have e2 : ¬ (k : Int) = (z : Int) := by omega
      simp [e, e2]
  have HT := Lib.hid (And.intro htab0 htab1)
  clear key htab0 htab1
  have hcs : (∃ z : Nat, s = (z : Int) ∧ z < n) ∨ s < 0 ∨ ((0 : Int) ≤ s ∧ (n : Int) ≤ s) := by
    by_cases h1 : s < 0
    · exact .inr (.inl h1)
    · by_cases h2 : (n : Int) ≤ s
      · exact .inr (.inr ⟨by omega, h2⟩)
      · exact .inl ⟨s.toNat, by omega, by omega⟩
  rcases hcs with ⟨z, rfl, hz⟩ | hneg | ⟨h0, hge⟩
  · have hzi : (z : Int) < n := by omega
    have d := HB2.out.1.cell (i := z) (bools_get (tab_get hz))
    have fr := HB2.out.1.free z
    have hB := HB2.out.1.set z (.bool true)
    rw [HT.out.2 z rfl hz] at hB
    have us : Upd [pb + 1] w2 (w2.setCell ⟨pb + 1, z, none⟩ (.bool true)) := (Upd.refl _ w2).set (.inl (by simp)) _
    have H3 := Lib.hid (And.intro hB (And.intro (HB2.out.2.1.upd us (by simp)) (HB2.out.2.2.fresh us (fun k hk => .inr (by simp at hk; have := HPB.out; omega)))))
    clear hB us
    go_upto_region 4 with fail
    go_wp2_with fail
    go_loopw [6] (fun i wr => ∃ (m : Nat) (x : Int) (u : Nat → Bool), i = .int .i64 x ∧ x + 1 = (m : Int) ∧ m ≤ n ∧ down p.steps m u = down p.steps n (fun k => decide ((k : Int) = (z : Int))) ∧ Blk wr (pb + 1) (bools (tab n u)) 4 ∧ Blk wr pb [.slice al p.lemmas.length cl, .slice a2 n c2] 30 ∧ Upd [] w wr) (fun i _ => (intOf i + 1).toNat)
    case atStart => exact ⟨n, _, _, rfl, by omega, Nat.le_refl _, rfl, H3.out⟩
    case round =>
      obtain ⟨wo, rfl⟩ : ∃ wo : World, wo = wr := ⟨_, rfl⟩
      obtain ⟨m, x, u, rfl, hx, hm, hd, hB, hP, hU⟩ := hrel
      have HD := Lib.hid hd
      have HBP := Lib.hid (And.intro hB (And.intro hP hU))
      have g1 := hP.cell (i := 1) rfl
      clear hd hB hP hU H3
      cases m with
      | zero =>
        obtain rfl : x = -1 := by omega
        clear hx
        go_wp2_with fail
        go_ret
        refine ⟨pb + 1, rfl, ?_, by have := HPB.out; omega, HBP.out.2.2⟩
        rw [← HD.out]
        exact HBP.out.1
      | succ m =>
        obtain rfl : x = (m : Int) := by omega
        clear hx
        have hmn : m < p.steps.length := by have := HN.out; omega
        have hs' := List.getElem?_eq_getElem hmn
        obtain ⟨g, vp, vl, vh, rfl, hcell, hR⟩ := HS.out m _ hs'
        generalize p.steps[m] = st at *
        have hho : hintsOf p.steps m = st.hints := by unfold hintsOf; rw [hs']
        have hmi : (m : Int) < n := by omega
        obtain ⟨ah, ch, rfl, qh, rh, hh⟩ := hR.2.2.1.cells
        have HC6 := Lib.hid (hcell 6 _ rfl)
        have e6 := HBP.out.2.2.some (hcell 6 _ rfl) (by simp)
        have HHI := Lib.hid (And.intro hho (And.intro hh (HW.out.hint m st hs')))
        clear hcell hR hh hho hs'
        have dm := HBP.out.1.cell (i := m) (bools_get (tab_get (u := u) (show m < n by omega)))
        cases hu : u m with
        | false =>
          rw [hu] at dm
          have HM := Lib.hid (show mark p.steps m u = u by unfold mark; rw [hu]; rfl)
          clear hu
          have hle : (0 : Int) ≤ st.hints.length := by omega
          go_wp2_with fail
          go_loopw [7] (fun i wr => i = .int .i64 0 ∧ wr = wo) (fun _ _ => 0)
          case atStart => exact ⟨rfl, rfl⟩
          case round =>
            obtain ⟨rfl, rfl⟩ := hrel
            have HRL := Lib.hid (show ∃ (m' : Nat) (x : Int) (u' : Nat → Bool), Value.int .i64 ((m : Int) - 1) = .int .i64 x ∧ x + 1 = (m' : Int) ∧ m' ≤ n ∧ down p.steps m' u' = down p.steps n (fun k => decide ((k : Int) = (z : Int))) ∧ Blk wr (pb + 1) (bools (tab n u')) 4 ∧ Blk wr pb [.slice al p.lemmas.length cl, .slice (some ⟨g, 0, none⟩) n c2] 30 ∧ Upd [] w wr from
              ⟨m, (m : Int) - 1, u, rfl, by omega, by omega, by rw [← HD.out, down, HM.out], HBP.out⟩)
            by_cases hz : 0 < st.hints.length
            · have hzi : (0 : Int) < st.hints.length := by omega
              go_wp2_with fail
              exact ⟨HRL.out, by simp [intOf]⟩
            · have hzi : ¬ (0 : Int) < st.hints.length := by omega
              go_wp2_with fail
              exact ⟨HRL.out, by simp [intOf]⟩
        | true =>
          rw [hu] at dm
          have HM := Lib.hid (show mark p.steps m u = fun k => u k || (hintsOf p.steps m).contains (k : Int) by unfold mark; rw [hu]; rfl)
          have HU := Lib.hid hu
          clear hu
          go_wp2_with fail
          go_loopw [7] (fun i wr => ∃ t : Nat, i = .int .i64 t ∧ t ≤ st.hints.length ∧ Blk wr (pb + 1) (bools (tab n fun j => u j || (st.hints.take t).contains (j : Int))) 4 ∧ Blk wr pb [.slice al p.lemmas.length cl, .slice (some ⟨g, 0, none⟩) n c2] 30 ∧ Upd [] w wr) (fun i _ => st.hints.length - (intOf i).toNat)
          case atStart => exact ⟨0, rfl, Nat.zero_le _, by simpa using HBP.out.1, HBP.out.2⟩
          case round =>
            obtain ⟨wi, rfl⟩ : ∃ wi : World, wi = wr := ⟨_, rfl⟩
            obtain ⟨t, rfl, ht, hB, hP, hU⟩ := hrel
            have HI := Lib.hid (And.intro hB (And.intro hP hU))
            have g1 := hP.cell (i := 1) rfl
            have e6 := hU.some HC6.out (by simp)
            have dm := hB.cell (i := m) (bools_get (tab_get (u := fun j => u j || (st.hints.take t).contains (j : Int)) (show m < n by omega)))
            simp only [HU.out, Bool.true_or] at dm
            clear hB hP
            by_cases hz : t < st.hints.length
            · have hzi : (t : Int) < st.hints.length := by omega
              have hg := List.getElem?_eq_getElem hz
              obtain ⟨z0, z1⟩ := HHI.out.2.2 _ (List.getElem_mem hz)
              obtain ⟨gh, rfl, hc⟩ := HHI.out.2.1 t _ hg
              have htk : st.hints.take (t + 1) = st.hints.take t ++ [st.hints[t]] := by rw [List.take_add_one, List.getElem?_eq_getElem hz]; rfl
              generalize st.hints[t] = y at *
              obtain ⟨yn, rfl⟩ := Int.eq_ofNat_of_zero_le z0
              have hyn : yn < n := by omega
              have hyi : (yn : Int) < n := by omega
              have dh := hU.some hc (by simp)
              have dy := HI.out.1.cell (i := yn) (bools_get (tab_get (u := fun j => u j || (st.hints.take t).contains (j : Int)) hyn))
              have fy := HI.out.1.free yn
              have hB := HI.out.1.set yn (.bool true)
              rw [tab_set hyn] at hB
              have htb : tab n (fun j => (u j || (st.hints.take t).contains (j : Int)) || j == yn) = tab n (fun j => u j || (st.hints.take (t + 1)).contains (j : Int)) := tab_congr (fun j hj => by
                rw [htk, List.contains_eq_any_beq, List.contains_eq_any_beq, List.any_append, Bool.or_assoc]
                congr 1
                congr 1
                by_cases e : j = yn
                · subst e; simp
                · have e2 : (j : Int) ≠ (yn : Int) := by omega
                  show (j == yn) = (((j : Int) == (yn : Int)) || false)
                  rw [beq_eq_false_iff_ne.2 e, beq_eq_false_iff_ne.2 e2]
                  rfl)
              rw [htb] at hB
              have us : Upd [pb + 1] wi (wi.setCell ⟨pb + 1, yn, none⟩ (.bool true)) := (Upd.refl _ wi).set (.inl (by simp)) _
              have H4 := Lib.hid (And.intro hB (And.intro (HI.out.2.1.upd us (by simp)) (HI.out.2.2.fresh us (fun k hk => .inr (by simp at hk; have := HPB.out; omega)))))
              clear hB us htb htk hc hU hg z0 hyn
              go_wp2_with fail
              exact ⟨⟨t + 1, by go_num, by omega, H4.out⟩, by simp [intOf]; omega⟩
            · have htl : t = st.hints.length := by omega
              subst htl
              have hzi : ¬ (st.hints.length : Int) < st.hints.length := by omega
              have HRL := Lib.hid (show ∃ (m' : Nat) (x : Int) (u' : Nat → Bool), Value.int .i64 ((m : Int) - 1) = .int .i64 x ∧ x + 1 = (m' : Int) ∧ m' ≤ n ∧ down p.steps m' u' = down p.steps n (fun k => decide ((k : Int) = (z : Int))) ∧ Blk wi (pb + 1) (bools (tab n u')) 4 ∧ Blk wi pb [.slice al p.lemmas.length cl, .slice (some ⟨g, 0, none⟩) n c2] 30 ∧ Upd [] w wi from
                ⟨m, (m : Int) - 1, _, rfl, by omega, by omega, by rw [← HD.out, down, HM.out, HHI.out.1], by have h := HI.out.1; rwa [List.take_of_length_le (Nat.le_refl _)] at h, HI.out.2⟩)
              clear hz hU
              go_wp2_with fail
              exact ⟨HRL.out, by simp [intOf]⟩
  · skip
    have H3 := Lib.hid (And.intro (show Blk w2 (pb + 1) (bools (tab n fun k => decide ((k : Int) = s))) 4 from by rw [← HT.out.1 (by omega)]; exact HB2.out.1) HB2.out.2)
    go_upto_region 4 with fail
    go_wp2_with fail
    go_loopw [6] (fun i wr => ∃ (m : Nat) (x : Int) (u : Nat → Bool), i = .int .i64 x ∧ x + 1 = (m : Int) ∧ m ≤ n ∧ down p.steps m u = down p.steps n (fun k => decide ((k : Int) = s)) ∧ Blk wr (pb + 1) (bools (tab n u)) 4 ∧ Blk wr pb [.slice al p.lemmas.length cl, .slice a2 n c2] 30 ∧ Upd [] w wr) (fun i _ => (intOf i + 1).toNat)
    case atStart => exact ⟨n, _, _, rfl, by omega, Nat.le_refl _, rfl, H3.out⟩
    case round =>
      obtain ⟨wo, rfl⟩ : ∃ wo : World, wo = wr := ⟨_, rfl⟩
      obtain ⟨m, x, u, rfl, hx, hm, hd, hB, hP, hU⟩ := hrel
      have HD := Lib.hid hd
      have HBP := Lib.hid (And.intro hB (And.intro hP hU))
      have g1 := hP.cell (i := 1) rfl
      clear hd hB hP hU H3
      cases m with
      | zero =>
        obtain rfl : x = -1 := by omega
        clear hx
        go_wp2_with fail
        go_ret
        refine ⟨pb + 1, rfl, ?_, by have := HPB.out; omega, HBP.out.2.2⟩
        rw [← HD.out]
        exact HBP.out.1
      | succ m =>
        obtain rfl : x = (m : Int) := by omega
        clear hx
        have hmn : m < p.steps.length := by have := HN.out; omega
        have hs' := List.getElem?_eq_getElem hmn
        obtain ⟨g, vp, vl, vh, rfl, hcell, hR⟩ := HS.out m _ hs'
        generalize p.steps[m] = st at *
        have hho : hintsOf p.steps m = st.hints := by unfold hintsOf; rw [hs']
        have hmi : (m : Int) < n := by omega
        obtain ⟨ah, ch, rfl, qh, rh, hh⟩ := hR.2.2.1.cells
        have HC6 := Lib.hid (hcell 6 _ rfl)
        have e6 := HBP.out.2.2.some (hcell 6 _ rfl) (by simp)
        have HHI := Lib.hid (And.intro hho (And.intro hh (HW.out.hint m st hs')))
        clear hcell hR hh hho hs'
        have dm := HBP.out.1.cell (i := m) (bools_get (tab_get (u := u) (show m < n by omega)))
        cases hu : u m with
        | false =>
          rw [hu] at dm
          have HM := Lib.hid (show mark p.steps m u = u by unfold mark; rw [hu]; rfl)
          clear hu
          have hle : (0 : Int) ≤ st.hints.length := by omega
          go_wp2_with fail
          go_loopw [7] (fun i wr => i = .int .i64 0 ∧ wr = wo) (fun _ _ => 0)
          case atStart => exact ⟨rfl, rfl⟩
          case round =>
            obtain ⟨rfl, rfl⟩ := hrel
            have HRL := Lib.hid (show ∃ (m' : Nat) (x : Int) (u' : Nat → Bool), Value.int .i64 ((m : Int) - 1) = .int .i64 x ∧ x + 1 = (m' : Int) ∧ m' ≤ n ∧ down p.steps m' u' = down p.steps n (fun k => decide ((k : Int) = s)) ∧ Blk wr (pb + 1) (bools (tab n u')) 4 ∧ Blk wr pb [.slice al p.lemmas.length cl, .slice (some ⟨g, 0, none⟩) n c2] 30 ∧ Upd [] w wr from
              ⟨m, (m : Int) - 1, u, rfl, by omega, by omega, by rw [← HD.out, down, HM.out], HBP.out⟩)
            by_cases hz : 0 < st.hints.length
            · have hzi : (0 : Int) < st.hints.length := by omega
              go_wp2_with fail
              exact ⟨HRL.out, by simp [intOf]⟩
            · have hzi : ¬ (0 : Int) < st.hints.length := by omega
              go_wp2_with fail
              exact ⟨HRL.out, by simp [intOf]⟩
        | true =>
          rw [hu] at dm
          have HM := Lib.hid (show mark p.steps m u = fun k => u k || (hintsOf p.steps m).contains (k : Int) by unfold mark; rw [hu]; rfl)
          have HU := Lib.hid hu
          clear hu
          go_wp2_with fail
          go_loopw [7] (fun i wr => ∃ t : Nat, i = .int .i64 t ∧ t ≤ st.hints.length ∧ Blk wr (pb + 1) (bools (tab n fun j => u j || (st.hints.take t).contains (j : Int))) 4 ∧ Blk wr pb [.slice al p.lemmas.length cl, .slice (some ⟨g, 0, none⟩) n c2] 30 ∧ Upd [] w wr) (fun i _ => st.hints.length - (intOf i).toNat)
          case atStart => exact ⟨0, rfl, Nat.zero_le _, by simpa using HBP.out.1, HBP.out.2⟩
          case round =>
            obtain ⟨wi, rfl⟩ : ∃ wi : World, wi = wr := ⟨_, rfl⟩
            obtain ⟨t, rfl, ht, hB, hP, hU⟩ := hrel
            have HI := Lib.hid (And.intro hB (And.intro hP hU))
            have g1 := hP.cell (i := 1) rfl
            have e6 := hU.some HC6.out (by simp)
            have dm := hB.cell (i := m) (bools_get (tab_get (u := fun j => u j || (st.hints.take t).contains (j : Int)) (show m < n by omega)))
            simp only [HU.out, Bool.true_or] at dm
            clear hB hP
            by_cases hz : t < st.hints.length
            · have hzi : (t : Int) < st.hints.length := by omega
              have hg := List.getElem?_eq_getElem hz
              obtain ⟨z0, z1⟩ := HHI.out.2.2 _ (List.getElem_mem hz)
              obtain ⟨gh, rfl, hc⟩ := HHI.out.2.1 t _ hg
              have htk : st.hints.take (t + 1) = st.hints.take t ++ [st.hints[t]] := by rw [List.take_add_one, List.getElem?_eq_getElem hz]; rfl
              generalize st.hints[t] = y at *
              obtain ⟨yn, rfl⟩ := Int.eq_ofNat_of_zero_le z0
              have hyn : yn < n := by omega
              have hyi : (yn : Int) < n := by omega
              have dh := hU.some hc (by simp)
              have dy := HI.out.1.cell (i := yn) (bools_get (tab_get (u := fun j => u j || (st.hints.take t).contains (j : Int)) hyn))
              have fy := HI.out.1.free yn
              have hB := HI.out.1.set yn (.bool true)
              rw [tab_set hyn] at hB
              have htb : tab n (fun j => (u j || (st.hints.take t).contains (j : Int)) || j == yn) = tab n (fun j => u j || (st.hints.take (t + 1)).contains (j : Int)) := tab_congr (fun j hj => by
                rw [htk, List.contains_eq_any_beq, List.contains_eq_any_beq, List.any_append, Bool.or_assoc]
                congr 1
                congr 1
                by_cases e : j = yn
                · subst e; simp
                · have e2 : (j : Int) ≠ (yn : Int) := by omega
                  show (j == yn) = (((j : Int) == (yn : Int)) || false)
                  rw [beq_eq_false_iff_ne.2 e, beq_eq_false_iff_ne.2 e2]
                  rfl)
              rw [htb] at hB
              have us : Upd [pb + 1] wi (wi.setCell ⟨pb + 1, yn, none⟩ (.bool true)) := (Upd.refl _ wi).set (.inl (by simp)) _
              have H4 := Lib.hid (And.intro hB (And.intro (HI.out.2.1.upd us (by simp)) (HI.out.2.2.fresh us (fun k hk => .inr (by simp at hk; have := HPB.out; omega)))))
              clear hB us htb htk hc hU hg z0 hyn
              go_wp2_with fail
              exact ⟨⟨t + 1, by go_num, by omega, H4.out⟩, by simp [intOf]; omega⟩
            · have htl : t = st.hints.length := by omega
              subst htl
              have hzi : ¬ (st.hints.length : Int) < st.hints.length := by omega
              have HRL := Lib.hid (show ∃ (m' : Nat) (x : Int) (u' : Nat → Bool), Value.int .i64 ((m : Int) - 1) = .int .i64 x ∧ x + 1 = (m' : Int) ∧ m' ≤ n ∧ down p.steps m' u' = down p.steps n (fun k => decide ((k : Int) = s)) ∧ Blk wi (pb + 1) (bools (tab n u')) 4 ∧ Blk wi pb [.slice al p.lemmas.length cl, .slice (some ⟨g, 0, none⟩) n c2] 30 ∧ Upd [] w wi from
                ⟨m, (m : Int) - 1, _, rfl, by omega, by omega, by rw [← HD.out, down, HM.out, HHI.out.1], by have h := HI.out.1; rwa [List.take_of_length_le (Nat.le_refl _)] at h, HI.out.2⟩)
              clear hz hU
              go_wp2_with fail
              exact ⟨HRL.out, by simp [intOf]⟩
  · have hn0 : ¬ s < 0 := by omega
    have H3 := Lib.hid (And.intro (show Blk w2 (pb + 1) (bools (tab n fun k => decide ((k : Int) = s))) 4 from by rw [← HT.out.1 (by omega)]; exact HB2.out.1) HB2.out.2)
    go_upto_region 4 with fail
    go_wp2_with fail
    go_loopw [6] (fun i wr => ∃ (m : Nat) (x : Int) (u : Nat → Bool), i = .int .i64 x ∧ x + 1 = (m : Int) ∧ m ≤ n ∧ down p.steps m u = down p.steps n (fun k => decide ((k : Int) = s)) ∧ Blk wr (pb + 1) (bools (tab n u)) 4 ∧ Blk wr pb [.slice al p.lemmas.length cl, .slice a2 n c2] 30 ∧ Upd [] w wr) (fun i _ => (intOf i + 1).toNat)
    case atStart => exact ⟨n, _, _, rfl, by omega, Nat.le_refl _, rfl, H3.out⟩
    case round =>
      obtain ⟨wo, rfl⟩ : ∃ wo : World, wo = wr := ⟨_, rfl⟩
      obtain ⟨m, x, u, rfl, hx, hm, hd, hB, hP, hU⟩ := hrel
      have HD := Lib.hid hd
      have HBP := Lib.hid (And.intro hB (And.intro hP hU))
      have g1 := hP.cell (i := 1) rfl
      clear hd hB hP hU H3
      cases m with
      | zero =>
        obtain rfl : x = -1 := by omega
        clear hx
        go_wp2_with fail
        go_ret
        refine ⟨pb + 1, rfl, ?_, by have := HPB.out; omega, HBP.out.2.2⟩
        rw [← HD.out]
        exact HBP.out.1
      | succ m =>
        obtain rfl : x = (m : Int) := by omega
        clear hx
        have hmn : m < p.steps.length := by have := HN.out; omega
        have hs' := List.getElem?_eq_getElem hmn
        obtain ⟨g, vp, vl, vh, rfl, hcell, hR⟩ := HS.out m _ hs'
        generalize p.steps[m] = st at *
        have hho : hintsOf p.steps m = st.hints := by unfold hintsOf; rw [hs']
        have hmi : (m : Int) < n := by omega
        obtain ⟨ah, ch, rfl, qh, rh, hh⟩ := hR.2.2.1.cells
        have HC6 := Lib.hid (hcell 6 _ rfl)
        have e6 := HBP.out.2.2.some (hcell 6 _ rfl) (by simp)
        have HHI := Lib.hid (And.intro hho (And.intro hh (HW.out.hint m st hs')))
        clear hcell hR hh hho hs'
        have dm := HBP.out.1.cell (i := m) (bools_get (tab_get (u := u) (show m < n by omega)))
        cases hu : u m with
        | false =>
          rw [hu] at dm
          have HM := Lib.hid (show mark p.steps m u = u by unfold mark; rw [hu]; rfl)
          clear hu
          have hle : (0 : Int) ≤ st.hints.length := by omega
          go_wp2_with fail
          go_loopw [7] (fun i wr => i = .int .i64 0 ∧ wr = wo) (fun _ _ => 0)
          case atStart => exact ⟨rfl, rfl⟩
          case round =>
            obtain ⟨rfl, rfl⟩ := hrel
            have HRL := Lib.hid (show ∃ (m' : Nat) (x : Int) (u' : Nat → Bool), Value.int .i64 ((m : Int) - 1) = .int .i64 x ∧ x + 1 = (m' : Int) ∧ m' ≤ n ∧ down p.steps m' u' = down p.steps n (fun k => decide ((k : Int) = s)) ∧ Blk wr (pb + 1) (bools (tab n u')) 4 ∧ Blk wr pb [.slice al p.lemmas.length cl, .slice (some ⟨g, 0, none⟩) n c2] 30 ∧ Upd [] w wr from
              ⟨m, (m : Int) - 1, u, rfl, by omega, by omega, by rw [← HD.out, down, HM.out], HBP.out⟩)
            by_cases hz : 0 < st.hints.length
            · have hzi : (0 : Int) < st.hints.length := by omega
              go_wp2_with fail
              exact ⟨HRL.out, by simp [intOf]⟩
            · have hzi : ¬ (0 : Int) < st.hints.length := by omega
              go_wp2_with fail
              exact ⟨HRL.out, by simp [intOf]⟩
        | true =>
          rw [hu] at dm
          have HM := Lib.hid (show mark p.steps m u = fun k => u k || (hintsOf p.steps m).contains (k : Int) by unfold mark; rw [hu]; rfl)
          have HU := Lib.hid hu
          clear hu
          go_wp2_with fail
          go_loopw [7] (fun i wr => ∃ t : Nat, i = .int .i64 t ∧ t ≤ st.hints.length ∧ Blk wr (pb + 1) (bools (tab n fun j => u j || (st.hints.take t).contains (j : Int))) 4 ∧ Blk wr pb [.slice al p.lemmas.length cl, .slice (some ⟨g, 0, none⟩) n c2] 30 ∧ Upd [] w wr) (fun i _ => st.hints.length - (intOf i).toNat)
          case atStart => exact ⟨0, rfl, Nat.zero_le _, by simpa using HBP.out.1, HBP.out.2⟩
          case round =>
            obtain ⟨wi, rfl⟩ : ∃ wi : World, wi = wr := ⟨_, rfl⟩
            obtain ⟨t, rfl, ht, hB, hP, hU⟩ := hrel
            have HI := Lib.hid (And.intro hB (And.intro hP hU))
            have g1 := hP.cell (i := 1) rfl
            have e6 := hU.some HC6.out (by simp)
            have dm := hB.cell (i := m) (bools_get (tab_get (u := fun j => u j || (st.hints.take t).contains (j : Int)) (show m < n by omega)))
            simp only [HU.out, Bool.true_or] at dm
            clear hB hP
            by_cases hz : t < st.hints.length
            · have hzi : (t : Int) < st.hints.length := by omega
              have hg := List.getElem?_eq_getElem hz
              obtain ⟨z0, z1⟩ := HHI.out.2.2 _ (List.getElem_mem hz)
              obtain ⟨gh, rfl, hc⟩ := HHI.out.2.1 t _ hg
              have htk : st.hints.take (t + 1) = st.hints.take t ++ [st.hints[t]] := by rw [List.take_add_one, List.getElem?_eq_getElem hz]; rfl
              generalize st.hints[t] = y at *
              obtain ⟨yn, rfl⟩ := Int.eq_ofNat_of_zero_le z0
              have hyn : yn < n := by omega
              have hyi : (yn : Int) < n := by omega
              have dh := hU.some hc (by simp)
              have dy := HI.out.1.cell (i := yn) (bools_get (tab_get (u := fun j => u j || (st.hints.take t).contains (j : Int)) hyn))
              have fy := HI.out.1.free yn
              have hB := HI.out.1.set yn (.bool true)
              rw [tab_set hyn] at hB
              have htb : tab n (fun j => (u j || (st.hints.take t).contains (j : Int)) || j == yn) = tab n (fun j => u j || (st.hints.take (t + 1)).contains (j : Int)) := tab_congr (fun j hj => by
                rw [htk, List.contains_eq_any_beq, List.contains_eq_any_beq, List.any_append, Bool.or_assoc]
                congr 1
                congr 1
                by_cases e : j = yn
                · subst e; simp
                · have e2 : (j : Int) ≠ (yn : Int) := by omega
                  show (j == yn) = (((j : Int) == (yn : Int)) || false)
                  rw [beq_eq_false_iff_ne.2 e, beq_eq_false_iff_ne.2 e2]
                  rfl)
              rw [htb] at hB
              have us : Upd [pb + 1] wi (wi.setCell ⟨pb + 1, yn, none⟩ (.bool true)) := (Upd.refl _ wi).set (.inl (by simp)) _
              have H4 := Lib.hid (And.intro hB (And.intro (HI.out.2.1.upd us (by simp)) (HI.out.2.2.fresh us (fun k hk => .inr (by simp at hk; have := HPB.out; omega)))))
              clear hB us htb htk hc hU hg z0 hyn
              go_wp2_with fail
              exact ⟨⟨t + 1, by go_num, by omega, H4.out⟩, by simp [intOf]; omega⟩
            · have htl : t = st.hints.length := by omega
              subst htl
              have hzi : ¬ (st.hints.length : Int) < st.hints.length := by omega
              have HRL := Lib.hid (show ∃ (m' : Nat) (x : Int) (u' : Nat → Bool), Value.int .i64 ((m : Int) - 1) = .int .i64 x ∧ x + 1 = (m' : Int) ∧ m' ≤ n ∧ down p.steps m' u' = down p.steps n (fun k => decide ((k : Int) = s)) ∧ Blk wi (pb + 1) (bools (tab n u')) 4 ∧ Blk wi pb [.slice al p.lemmas.length cl, .slice (some ⟨g, 0, none⟩) n c2] 30 ∧ Upd [] w wi from
                ⟨m, (m : Int) - 1, _, rfl, by omega, by omega, by rw [← HD.out, down, HM.out, HHI.out.1], by have h := HI.out.1; rwa [List.take_of_length_le (Nat.le_refl _)] at h, HI.out.2⟩)
              clear hz hU
              go_wp2_with fail
              exact ⟨HRL.out, by simp [intOf]⟩
end
end Trim
end Go.Proofs.Ytnmfihgdedifoaa
