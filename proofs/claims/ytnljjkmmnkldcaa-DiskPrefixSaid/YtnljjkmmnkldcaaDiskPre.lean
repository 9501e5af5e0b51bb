/- The law DiskPrefix: its walk. Conditions: none. -/
import Derived.Test.YtnljjkmmnkldcaaDiskPreP
set_option linter.unusedVariables false
set_option linter.unusedSimpArgs false
set_option linter.unusedSectionVars false
open Go.RowKit
namespace Go.Proofs.Ytnljjkmmnkldcaa
open L
namespace Disk
open Wire R01
attribute [-go_sem] sliced
/-- A slice of byte slices that came in. -/
def BS (w : World) (v : Value) (l : List (List Int)) : Prop :=
  ∃ vals, SL w 1 v l.length vals ∧ ∀ (i : Nat) (c : List Int), l[i]? = some c → (∀ x ∈ c, 0 ≤ x ∧ x ≤ 255) ∧ ∃ y, vals[i]? = some y ∧ SL w 1 y c.length (byts c)
theorem BS.upd {w w' : World} {v : Value} {l : List (List Int)} (h : BS w v l) (hu : Upd [] w w') : BS w' v l := by
  obtain ⟨vals, h1, h2⟩ := h
  exact ⟨vals, h1.upd hu (by simp), fun i c hi => ⟨(h2 i c hi).1, by obtain ⟨_, y, h3, h4⟩ := h2 i c hi; exact ⟨y, h3, h4.upd hu (by simp)⟩⟩⟩
/-- An owned row with the block it lies in. -/
def PRow (e : TypeId) (k : Nat) (v : Value) (n : Nat) (cs : List Value) : Pr where
  P w S := w.ownsRow 0 e k v n cs ∧ (∀ g, v.ownBlock = some g → g ∈ S) ∧ ∀ g ∈ S, g < w.heap.size
  upd h hu hT := ⟨ownsRow_updL h.1 hu (fun b hb e => hT b hb (h.2.1 b e)), h.2.1, fun g hg => Nat.lt_of_lt_of_le (h.2.2 g hg) hu.size⟩
  lt h := h.2.2
section
variable {w w' : World}
theorem sep_ints {w0 : World} {ps : List Pr} {bs : List Int} (h : L.Sep w0 ps w) (hu : Upd [] w w') (hb : Blk w' w.heap.size (ints bs) 3) (hl : bs.length ≤ 1000) : L.Sep w0 (PSL 1 (.slice (some ⟨w.heap.size, 0, none⟩) bs.length bs.length) bs.length (ints bs) :: ps) w' :=
  h.new (S := [w.heap.size]) hu ⟨sl_ints hb (by omega), fun g hg => by simp [Value.ownBlock] at hg; simp [hg], fun g hg => by simp at hg; subst hg; exact hb.lt⟩ (fun g hg => by simp at hg; omega)
theorem sep_app {w0 : World} {ps : List Pr} {e : TypeId} {k n n' : Nat} {v v' : Value} {cs cs' : List Value} (h : L.Sep w0 (PRow e k v n cs :: ps) w) (o : w'.ownsRow 0 e k v' n' cs') (u : Upd v.ownBlock.toList w w') (kk : v'.ownBlock = v.ownBlock ∨ v'.ownBlock = some w.heap.size) : L.Sep w0 (PRow e k v' n' cs' :: ps) w' :=
  h.next (S := []) (S' := []) fun S hS _ => ⟨S ++ v'.ownBlock.toList, ⟨o, fun g hg => by simp [hg], fun g hg => by
    rcases List.mem_append.1 hg with hg | hg
    · exact Nat.lt_of_lt_of_le (hS.2.2 g hg) u.size
    · exact (show OwnV ({ w with heap := #[] } : World) e k v' n' cs' w' from ⟨o, fun _ _ => Nat.zero_le _⟩).lt g (by simpa using hg)⟩, u.wide (fun g hg => .inl (hS.2.1 g (by simpa using hg))), fun g hg => by
    rcases List.mem_append.1 hg with hg | hg
    · exact .inl hg
    · have hg : v'.ownBlock = some g := by simpa using hg
      rcases kk with kk | kk
      · exact .inl (hS.2.1 g (by rw [← kk]; exact hg))
      · rw [hg] at kk; simp at kk; exact .inr (by omega)⟩
/-- The first loop's state. -/
def PreT (w : World) (p : Nat) (all : List Int) (firm : Nat) (va : Value) (W : World) : Prop :=
  Sep w [PDk p (preS all firm), PRow 5 1 va all.length (byts all)] W ∧ firm ≤ all.length ∧ (∀ x ∈ all, 0 ≤ x ∧ x ≤ 255)
set_option maxRecDepth 100000 in
set_option maxHeartbeats 8000000 in
theorem DiskPrefix_calls {v : Value} {l : List (List Int)} {sy keep flip : Int} (h0 : BS w v l) (hsy : IsI64 sy) (hk : IsI64 keep) (hf : IsI64 flip) :
    Calls Try.prog 3 #[v, .int .i64 sy, .int .i64 keep, .int .i64 flip] w fun e w' => e = .returned (.bool true) ∧ Upd [] w w' := by
  obtain ⟨vals, z1, z2⟩ := h0
  obtain ⟨va, vc, rfl, _⟩ := z1.val
  have hlx : l.length ≤ 2 ^ 63 - 1 := by obtain ⟨_, _, _, he, z3, z4, _⟩ := z1; unfold maxLen at z4; omega
  have HP := Lib.hid (And.intro z1 (And.intro z2 (And.intro hk hf)))
  have HN := Lib.hid (show Calls Try.prog 11 #[.int .i64 1000] w _ from New_good (w := w) (room := 1000) (by omega))
  have HA := Lib.hid (fun w : World => Around_calls sy 6 w hsy (by omega) (by omega))
  have m0 := around_lo (n := sy) (k := 6) (by omega)
  have m1 := around_hi (n := sy) (k := 6) (by omega)
  generalize around sy 6 = at_ at *
  clear z1 z2 hsy hk hf
  go_enter Try.func3, Try.ntmps3
  go_upto_region 7 with (first
    | (go_at_call 11; (with_reducible refine HN.out.mono ?_); rintro e w1 ⟨p, S1, rfl, d1, u1, k1⟩)
    | (go_at_call 12; (with_reducible refine (HA.out _).mono ?_); rintro e _ ⟨rfl, rfl⟩))
  have hT : PreT w p [] 0 (.slice none 0 0) w1 := by
    refine ⟨?_, Nat.le_refl _, by simp⟩
    rw [pre_nil]
    have h1 : Sep w [PRow 5 1 (.slice none 0 0) 0 []] w := (Sep.nil (Upd.refl _ w)).new (S := []) (Upd.refl _ w) ⟨World.ownsRow_nil _ _ _ _, by simp [Value.ownBlock], by simp⟩ (by simp)
    exact h1.new (p := PDk p (newS 1000)) u1 d1 k1
  have HT := Lib.hid hT
  clear HN HA d1 u1 k1 hT
  go_upto_block 0 with fail
  go_cut [11, 12, 14] (fun va fi i w' => ∃ (all : List Int) (firm : Nat) (a : Option Addr) (c : Nat), va = .slice a all.length c ∧ fi = .int .i64 firm ∧ all.length ≤ 200 ∧ PreT w p all firm va w')
  case first =>
    go_wp2_with fail
    go_loopw [11, 12, 14] (fun vx fi i wr => ∃ (k : Nat) (all : List Int) (firm : Nat) (a : Option Addr) (c : Nat), i = .int .i64 k ∧ k ≤ 6 ∧ all.length ≤ 20 * k ∧ vx = .slice a all.length c ∧ fi = .int .i64 firm ∧ PreT w p all firm vx wr) (fun _ _ i _ => 6 - (intOf i).toNat)
    case atStart => exact ⟨0, [], 0, none, 0, rfl, Nat.zero_le _, Nat.zero_le _, rfl, rfl, HT.out⟩
    case round =>
      obtain ⟨wo, rfl⟩ : ∃ wo : World, wo = wr := ⟨_, rfl⟩
      obtain ⟨k, all, firm, aa, ca, rfl, hk6, hal, rfl, rfl, hp⟩ := hrel
      by_cases hlt : k < l.length ∧ k < 6
      · obtain ⟨hl1, hl2⟩ := hlt
        have hi1 : (k : Int) < l.length := by omega
        have hi2 : (k : Int) < 6 := by omega
        have hu := hp.1.u
        obtain ⟨hu8, y, hy, hsy⟩ := HP.out.2.1 k _ (List.getElem?_eq_getElem hl1)
        obtain ⟨_, _, hva, hq2, _, hcc⟩ := SL.form (HP.out.1.upd hu (by simp))
        cases hva
        obtain ⟨b2, off2, rfl, hcell⟩ := hcc (by omega)
        have c0 := hcell k _ hy
        obtain ⟨_, ay, cy, rfl, _⟩ := id hsy
        have HF := Lib.hid (Few_calls (hsy.upd hu (by simp)) 20 (by omega))
        have hb8 : ∀ x ∈ (l[k]).take 20, 0 ≤ x ∧ x ≤ 255 := fun x hx => hu8 x (List.mem_of_mem_take hx)
        have hbl : ((l[k]).take 20).length ≤ 20 := by rw [List.length_take]; omega
        have HB8 := Lib.hid hb8
        have HPT := Lib.hid hp
        clear hp hu8 hsy hcell hy hb8
        generalize (l[k]).take 20 = bb at *
        generalize (l[k]).length = nk at *
        go_upto_region 11 with (go_at_call 13; refine HF.out.mono ?_; rintro e w2 ⟨a2, cc2, rfl, o2, u2⟩)
        have s2 := (Sep.slice HPT.out.1 u2 o2).pull 1 rfl
        have HF2 := Lib.hid HPT.out.2
        have HAP := Lib.hid (Sep.append s2 (f := 9) ⟨by omega, by omega⟩ HB8.out (by omega))
        rw [pre_append (by omega)] at HAP
        clear s2 o2 u2 HF HPT
        go_upto_region 12 with (go_at_call 14; refine HAP.out.mono ?_; rintro e w3 ⟨rfl, s3⟩)
        have HS3 := Lib.hid (show Sep w [PRow 5 1 (.slice aa all.length ca) all.length (byts all), PDk p (preS (all ++ bb) firm), PSL 1 (.slice a2 bb.length cc2) bb.length (byts bb)] w3 from s3.pull 2 rfl)
        clear s3 HAP
        go_upto_region 13 with (refine wpList_appS rfl _ _ _ rfl 5 1 1 _ Try.underlying27 infoByte rfl (by decide) (.slice aa all.length ca) all.length (byts all) rfl (by obtain ⟨S, h, _⟩ := HS3.out.head; exact h.1) (.slice a2 bb.length cc2) bb.length (byts bb) rfl (by obtain ⟨S, h, _⟩ := (HS3.out.pull 2 rfl).head; exact h.1) (byts_one _) (by unfold maxLen; omega) (by omega) ?_; intro a4 c4 w4 o4 u4 k4; simp only [Act.put, List.setIfInBounds_toArray, List.set_cons_zero, List.set_cons_succ])
        have el : (all ++ bb).length = all.length + bb.length := List.length_append
        have s4 := sep_app HS3.out o4 u4 k4
        have e4 : byts all ++ byts bb = byts (all ++ bb) := by simp [byts]
        rw [e4, ← el] at s4
        rw [← el]
        have hu8 : ∀ x ∈ all ++ bb, 0 ≤ x ∧ x ≤ 255 := fun x hx => (List.mem_append.1 hx).elim (HF2.out.2 x) (HB8.out x)
        have HU8 := Lib.hid (And.intro hu8 (show firm ≤ (all ++ bb).length by have := HF2.out.1; omega))
        have HS4 := Lib.hid (show Sep w [PDk p (preS (all ++ bb) firm), PRow 5 1 (.slice a4 (all ++ bb).length c4) (all ++ bb).length (byts (all ++ bb))] w4 from (s4.pull 2 rfl).drop.pull 1 rfl)
        have hal2 : (all ++ bb).length ≤ 20 * (k + 1) := by omega
        clear s4 e4 o4 u4 k4 HS3 el hu8 HF2 hal hbl HB8
        generalize all ++ bb = al2 at *
        by_cases hka : (k : Int) = at_
        · have HSY := Lib.hid (Sep.sync HS4.out)
          rw [pre_sync] at HSY
          go_wp2_with (go_at_call 15; refine HSY.out.mono ?_; rintro e w5 ⟨rfl, s5⟩)
          exact ⟨⟨k + 1, al2, al2.length, a4, c4, by go_num, by omega, by omega, rfl, rfl, s5, Nat.le_refl _, HU8.out.1⟩, by simp [intOf]; omega⟩
        · go_wp2_with fail
          exact ⟨⟨k + 1, al2, firm, a4, c4, by go_num, by omega, by omega, rfl, rfl, HS4.out, HU8.out.2, HU8.out.1⟩, by simp [intOf]; omega⟩
      · have HPT := Lib.hid hp
        clear hp
        by_cases hl1 : k < l.length
        · have hi1 : (k : Int) < l.length := by omega
          have hi2 : ¬ (k : Int) < 6 := by omega
          go_wp2_with fail
          go_meet
          exact ⟨all, firm, aa, ca, rfl, rfl, by omega, HPT.out⟩
        · have hi1 : ¬ (k : Int) < l.length := by omega
          go_wp2_with fail
          go_meet
          exact ⟨all, firm, aa, ca, rfl, rfl, by omega, HPT.out⟩
  case rest =>
    obtain ⟨all, firm, ax, cx, rfl, rfl, hal, hPT⟩ := hcut
    obtain ⟨m, hm⟩ : ∃ m, m = min keep.toNat (all.length - firm) := ⟨_, rfl⟩
    obtain ⟨n, hn⟩ : ∃ n, n = firm + m := ⟨_, rfl⟩
    have hfa := hPT.2.1
    have hcr := pre_crash all firm keep flip n (by omega)
    have hm1 : max 0 (min keep ((all.length : Int) - (firm : Int))) = (m : Int) := by omega
    have hn1 : (firm : Int) + (m : Int) = (n : Int) := by omega
    have hna : n ≤ all.length := by omega
    have hmn : m = n - firm := by omega
    obtain ⟨X, hX⟩ : ∃ X, X = (crashS (preS all firm) [keep] flip).B 9 := ⟨_, rfl⟩
    have hrd : readS (crashS (preS all firm) [keep] flip) 9 = (X, 0) := by rw [hX]; rfl
    rw [← hX] at hcr
    have hXl : X.length = n := by
      rw [hcr]; split
      · rw [flipL_length, List.length_take]; omega
      · rw [List.length_take]; omega
    have hfn : firm ≤ n := by omega
    have HF := Lib.hid (And.intro hcr (And.intro hPT.2.2 hXl))
    clear hm hn hmn hX hcr hfa
    go_upto_region 16 with fail
    have sI := sep_ints (bs := [keep]) hPT.1 ((Upd.refl [] wc).alloc (.cells #[.int .i64 keep] 3)) (Blk.new wc (ints [keep]) 3) (by simp)
    have HCR := Lib.hid (Sep.crash (n := 0) (sI.pull 1 rfl) (fp := flip) (by simpa using HP.out.2.2.1) HP.out.2.2.2)
    clear sI hPT HT
    go_upto_region 17 with (go_at_call 16; refine HCR.out.mono ?_; rintro e w5 ⟨rfl, s5⟩)
    have HS5 := Lib.hid s5
    have HRD := Lib.hid (Sep.read s5 (f := 9) ⟨by omega, by omega⟩)
    rw [hrd] at HRD
    clear s5 HCR hrd
    go_upto_region 18 with (go_at_call 17; (with_reducible refine HRD.out.mono ?_); rintro e w6 ⟨v6, rfl, o6, u6⟩; obtain ⟨_, a6, c6, rfl, _⟩ := SL.of_owns o6.row)
    rw [hXl] at o6
    have HS6 := Lib.hid (And.intro (HS5.out.quiet u6) o6.sl)
    clear o6 u6 HRD HS5 hXl
    go_upto_block 2 with fail
    have sall : SL w6 1 (.slice ax all.length cx) all.length (byts all) := by obtain ⟨S, h, _⟩ := (HS6.out.1.pull 2 rfl).head; exact SL.of_owns h.1
    obtain ⟨_, _, hva, hq2, _, hcc⟩ := SL.form sall
    cases hva
    obtain ⟨_, _, hvb, hq3, _, hcd⟩ := SL.form HS6.out.2
    cases hvb
    have HCC := Lib.hid (And.intro sall (And.intro hcc hcd))
    clear hcc hcd hm1 hn1 sall
    go_wp2_with fail
    go_loopw [19, 20] (fun tv i wr => ∃ k : Nat, i = .int .i64 k ∧ k ≤ n ∧ tv = .int .i64 (diff X all k : Nat) ∧ diff X all k ≤ 8 * k ∧ Upd [] w6 wr) (fun _ i _ => n - (intOf i).toNat)
    case atStart => exact ⟨0, rfl, Nat.zero_le _, rfl, Nat.zero_le _, Upd.refl _ _⟩
    case round =>
      obtain ⟨wo, rfl⟩ : ∃ wo : World, wo = wr := ⟨_, rfl⟩
      obtain ⟨k, rfl, hk, rfl, hd8, hu⟩ := hrel
      by_cases hlt : k < n
      · have hli : (k : Int) < n := by omega
        obtain ⟨b1, f1, rfl, g1⟩ := HCC.out.2.1 (by omega)
        obtain ⟨b2, f2, rfl, g2⟩ := HCC.out.2.2 (by omega)
        have hka : k < all.length := by omega
        have hkx : k < X.length := by rw [HF.out.2.2]; omega
        have c0 := hu.some (g1 k _ (byts_get (List.getElem?_eq_getElem hka))) (by simp)
        have c1 := hu.some (g2 k _ (byts_get (List.getElem?_eq_getElem hkx))) (by simp)
        clear g1 g2
        have hX8 : ∀ x ∈ X, 0 ≤ x ∧ x ≤ 255 := by
          intro x hx
          rw [HF.out.1] at hx
          split at hx
          · exact flipL_u8 (fun x hx => HF.out.2.1 x (List.mem_of_mem_take hx)) _ x hx
          · exact HF.out.2.1 x (List.mem_of_mem_take hx)
        obtain ⟨x1, x2⟩ := xr_u8 (hX8 _ (List.getElem_mem hkx)) (HF.out.2.1 _ (List.getElem_mem hka))
        have hds := diff_succ X all k
        rw [List.getD_eq_getElem?_getD, List.getElem?_eq_getElem hkx, List.getD_eq_getElem?_getD, List.getElem?_eq_getElem hka, Option.getD_some, Option.getD_some] at hds
        generalize X[k] = xa at *
        generalize all[k] = ya at *
        generalize xr xa ya = v0 at *
        have hp8 := pc_le x2
        generalize hdk : diff X all k = dk at *
        generalize hdk1 : diff X all (k + 1) = dk1 at *
        have HDS := Lib.hid (And.intro hds hp8)
        have HDK1 := Lib.hid hdk1
        have HU := Lib.hid hu
        clear hX8 hds hp8 hdk hdk1 hu
        go_upto_region 25 with fail
        refine wp_region_qx (by kernel_rfl) (by kernel_rfl) ?_
        repeat (go_big_quiet_step ((fail)))
        refine wpQuiet_nil ?_
        intro x
        have hx0 : Upd [] w6 x.val := HU.out.step x.property
        have HX0 := Lib.hid hx0
        clear hx0 c0 c1
        go_wp2_with fail
        go_loopw [19, 21] (fun tv vv wr2 => ∃ v t : Nat, vv = .int .u8 v ∧ tv = .int .i64 t ∧ t + pc v = dk + pc v0 ∧ v ≤ 255 ∧ Upd [] w6 wr2) (fun _ vv _ => (intOf vv).toNat)
        case atStart => exact ⟨v0, dk, rfl, rfl, rfl, x2, HX0.out⟩
        case round =>
          obtain ⟨v, t, rfl, rfl, htv, hv, hu⟩ := hrel
          have hp8 := HDS.out.2
          by_cases hv0 : v = 0
          · subst hv0
            have HU2 := Lib.hid hu
            rw [pc_zero] at htv
            have htv2 : t = diff X all (k + 1) := by rw [HDK1.out, HDS.out.1]; omega
            have HT2 := Lib.hid htv2
            clear hu htv htv2
            go_wp2_with fail
            exact ⟨⟨k + 1, by go_num, by omega, by rw [HT2.out], by have := HT2.out; have h1 := HDS.out.1; have h2 := HDK1.out; omega, HU2.out⟩, by simp [intOf]; omega⟩
          · have hv1 : (v : Int) > 0 := by omega
            have hpv := pc_pos hv0
            have HPV := Lib.hid (And.intro hpv htv)
            have HU2 := Lib.hid hu
            have ht1 : (t : Int) ≤ 2000 := by omega
            clear hu htv hpv
            go_wp2_with fail
            exact ⟨⟨v / 2, t + v % 2, by simp, by simp, by have h1 := HPV.out.1; have h2 := HPV.out.2; omega, by omega, HU2.out⟩, by simp [intOf]; omega⟩
      · have hkn : k = n := by omega
        subst hkn
        have HU := Lib.hid hu
        clear hu hd8
        have hx := HF.out.1
        by_cases hB : 0 ≤ flip ∧ firm < k
        · rw [if_pos hB] at hx
          have hm := Nat.mod_lt flip.toNat (show 0 < 8 * (k - firm) by omega)
          have hd : diff X all k = 1 := by rw [hx]; exact diff_flip HF.out.2.1 hna (by omega)
          have htx : X.take firm = all.take firm := by rw [hx, flipL_take (by omega), List.take_take, Nat.min_eq_left hfn]
          have hi1 : flip ≥ 0 := hB.1
          have hi2 : (k : Int) > firm := by omega
          have hlx : (X.take firm).length = firm := by rw [List.length_take, HF.out.2.2]; omega
          have hla : (all.take firm).length = firm := by rw [List.length_take]; omega
          have HSB := Lib.hid (fun (w' : World) (hu : Upd [] wo w') => show Calls Try.prog 18 #[sliced a6 0 firm c6 1, sliced ax 0 firm cx 1] w' (fun e w2 => e = .returned (.bool true) ∧ Upd [] w' w2) from by
            have u0 := HU.out.step hu
            have h1 := sl_pre0 (HS6.out.2.upd u0 (by simp)) hfn
            have h2 := sl_pre0 (HCC.out.1.upd u0 (by simp)) (show firm ≤ all.length by omega)
            have e1 : (byts X).take firm = byts (X.take firm) := by simp [byts, List.map_take]
            have e2 : (byts all).take firm = byts (all.take firm) := by simp [byts, List.map_take]
            rw [e1] at h1
            rw [e2] at h2
            have h := SameBytes_calls (xs := X.take firm) (ys := all.take firm) (by rw [hlx]; exact h1) (by rw [hla]; exact h2)
            rw [decide_eq_true htx] at h
            exact h)
          have hc6 : (firm : Int) ≤ c6 := by omega
          have hcx : (firm : Int) ≤ cx := by omega
          rw [hd]
          clear hd htx hx hm hlx hla hB
          go_upto_region 30 with fail
          refine wp_region_qx (by kernel_rfl) (by kernel_rfl) ?_
          repeat (go_big_quiet_step (((first | (go_at_call 18; exact qx (HSB.out _ (Ext.upd _))) | (go_at_call 19; exact qx (lives_calls))))))
          refine wpQuiet_nil ?_
          intro x
          go_wp2_with fail
          go_ret
          exact ⟨rfl, HS6.out.1.u.step (HU.out.step x.property)⟩
        · rw [if_neg hB] at hx
          have hd : diff X all k = 0 := by rw [hx]; exact diff_none HF.out.2.1 hna
          rw [hd]
          clear hd hx
          by_cases hf0 : flip ≥ 0
          · have hi2 : ¬ (k : Int) > firm := by omega
            clear hB
            go_wp2_with (go_at_call 19; refine lives_calls.mono ?_; rintro e w9 ⟨rfl, u9⟩)
            go_ret
            exact ⟨rfl, HS6.out.1.u.step (HU.out.step u9)⟩
          · clear hB
            go_wp2_with (go_at_call 19; refine lives_calls.mono ?_; rintro e w9 ⟨rfl, u9⟩)
            go_ret
            exact ⟨rfl, HS6.out.1.u.step (HU.out.step u9)⟩
end
end Disk
end Go.Proofs.Ytnljjkmmnkldcaa
