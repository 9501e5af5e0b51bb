/- Walks through the reference of package journal: Scan, SameLists, Records. Conditions: none. -/
import Derived.Test.YtfkgpecglcjpkaaGreatJourC
set_option linter.unusedVariables false
set_option linter.unusedSimpArgs false
set_option linter.unusedSectionVars false
open Go.RowKit
namespace Go.Proofs.YtfkgpecglcjpkaaGreat
open L
namespace Jour
open Wire Hash R01 R02
attribute [-go_sem] sliced
theorem list_snoc_get {l : List (List Int)} {x c : List Int} {i : Nat} (h : (l ++ [x])[i]? = some c) : (i < l.length ∧ l[i]? = some c) ∨ (i = l.length ∧ c = x) := by
  rcases Nat.lt_or_ge i l.length with hi | hi
  · left; rw [List.getElem?_append_left hi] at h; exact ⟨hi, h⟩
  · right
    rw [List.getElem?_append_right hi] at h
    have h0 := (List.getElem?_eq_some_iff.1 h).1
    simp only [List.length_singleton] at h0
    have hi2 : i - l.length = 0 := by omega
    rw [hi2] at h
    simp at h
    exact ⟨by omega, h.symm⟩
theorem take_snocL {l : List (List Int)} {n : Nat} (hn : n < l.length) : l.take (n + 1) = l.take n ++ [l[n]] := by
  rw [List.take_add_one, List.getElem?_eq_getElem hn]; rfl
section
variable {w : World}
set_option maxRecDepth 100000 in
set_option maxHeartbeats 4000000 in
theorem ScanR_callsO {v : Value} {b : List Int} (hs : SL w 1 v b.length (byts b)) (hb : ∀ x ∈ b, IsU8 x) (hl : b.length ≤ 100000000) (hv : ∀ g, v.ownBlock = some g → g < w.heap.size) :
    Calls Tryz.prog 26 #[v] w fun e w' => ∃ (l : List (List Int)) (a : Option Addr) (cap : Nat), e = .returned (.tuple #[.slice a l.length cap, .int .i64 ((cat 0 l).length : Nat)]) ∧ Scn b l ∧ (∃ vals, OwnV w 39 1 (.slice a l.length cap) l.length vals w' ∧ ∀ (i : Nat) (c : List Int), l[i]? = some c → ∃ y, vals[i]? = some y ∧ SL w' 1 y c.length (byts c)) ∧ Upd [] w w' := by
  obtain ⟨a, cap, rfl, q1, r1, _⟩ := SL.form hs
  have HV := Lib.hid (And.intro hs (And.intro hb hv))
  clear hs hb hv
  go_enter Tryz.func26, Tryz.ntmps26
  go_wp2_with fail
  go_loopw [4, 5] (fun o i wr => ∃ (l : List (List Int)) (vals : List Value), i = .int .i64 ((cat 0 l).length : Nat) ∧ cat 0 l <+: b ∧ OwnV w 39 1 o l.length vals wr ∧ (∀ (i : Nat) (c : List Int), l[i]? = some c → ∃ y, vals[i]? = some y ∧ SL wr 1 y c.length (byts c) ∧ ∀ g, y.ownBlock = some g → (Value.slice a b.length cap).ownBlock = some g) ∧ Upd [] w wr) (fun _ i _ => b.length - (intOf i).toNat)
  case atStart => exact ⟨[], [], rfl, by simp [cat], OwnV.nil _ _ _ _, by simp, Upd.refl _ _⟩
  case round =>
    obtain ⟨wo, rfl⟩ : ∃ wo : World, wo = wr := ⟨_, rfl⟩
    obtain ⟨l, vals, rfl, hpre, hO, hel, hU⟩ := hrel
    obtain ⟨ao, co, rfl, _, _⟩ := hO.sl.val
    have hpl := hpre.length_le
    have hcl := cat_len 0 l
    have HC := Lib.hid (And.intro hpre (And.intro hO (And.intro hel hU)))
    have hs1 := HV.out.1.upd hU (by simp)
    have hli : IsI64 (l.length : Nat) := by unfold IsI64; omega
    obtain ⟨a1, k1, hs2, _⟩ := (SL.from_ hs1 hpl).val
    have hsl := SL.from_ hs1 hpl
    rw [hs2, byts_drop'] at hsl
    have hdl : (b.drop (cat 0 l).length).length = b.length - (cat 0 l).length := List.length_drop
    rw [← hdl] at hsl hs2
    have hown : ∀ g, (Value.slice a1 (b.drop (cat 0 l).length).length k1).ownBlock = some g → (Value.slice a b.length cap).ownBlock = some g := fun g hg => sliced_own a _ b.length cap 1 b.length g (by rw [hs2]; exact hg)
    have HF := Lib.hid (FirstR_calls (w := wo) (l.length : Nat) hli hsl (fun x hx => HV.out.2.1 x (List.mem_of_mem_drop hx)) (by omega) (fun g hg => Nat.lt_of_lt_of_le (HV.out.2.2 g (hown g hg)) hU.size))
    have HOW := Lib.hid hown
    have HDL := Lib.hid hdl
    unfold FrT at HF
    rw [fst_eq hli (by omega)] at HF
    clear hpre hO hel hU hs1 hsl hown hdl
    generalize he : (cat 0 l).length = en at *
    have HE := Lib.hid he
    generalize hd : b.drop en = d at *
    have HD := Lib.hid hd
    clear he hd
    by_cases hlt : en < b.length
    · have hlt' : (en : Int) < b.length := by omega
      have hec : (en : Int) ≤ cap := by omega
      cases hf : fstP (l.length : Nat) d with
      | none =>
        rw [hf] at HF
        simp only at HF
        have HFF := Lib.hid hf
        clear hf
        go_wp2_with (go_at_call 46; refine HF.out.mono ?_; rintro e w' ⟨u1, rfl⟩)
        go_ret2
        refine ⟨l, ao, co, by rw [HE.out]; rfl, ⟨HC.out.1, fun x hx => ?_⟩, ⟨vals, HC.out.2.1.upd u1 (by simp), fun i c hi => ?_⟩, HC.out.2.2.2.step u1⟩
        · rw [HE.out, HD.out] at hx
          rw [(fstP_iff hli (by rw [HDL.out]; omega)).2 hx] at HFF
          exact absurd HFF.out (by simp)
        · obtain ⟨y, h1, h2, _⟩ := HC.out.2.2.1 i c hi
          exact ⟨y, h1, h2.upd u1 (by simp)⟩
      | some x =>
        rw [hf] at HF
        simp only at HF
        have hfx := (fstP_iff hli (by rw [HDL.out]; omega)).1 hf
        have hxl := hfx.length_le
        have hfl := frB_length (l.length : Nat) x
        have HFX := Lib.hid hfx
        have hx8 : ∀ y ∈ x, IsU8 y := by
          obtain ⟨t, ht⟩ := hfx
          intro y hy
          refine HV.out.2.1 y (List.mem_of_mem_drop (i := en) ?_)
          rw [HD.out, ← ht]
          refine List.mem_append_left _ ?_
          unfold frB rb coreB rb
          simp [hy]
        have HX8 := Lib.hid hx8
        clear hf hfx hx8
        have hxl2 : x.length ≤ 100000000 := by have := HDL.out; omega
        have hlen2 : (frB (l.length : Nat) x).length ≤ b.length - en := by have := HDL.out; omega
        have HLX := Lib.hid (show ∀ L, (frB (l.length : Nat) x).length = L → (cat 0 (l ++ [x])).length = en + L from fun L hL => by rw [cat_snoc, List.length_append, HE.out, Nat.zero_add, hL])
        go_wp2_with (first | (go_at_call 46; refine HF.out.mono ?_; rintro e w' ⟨u1, a3, c3, rfl, s3, g3⟩; have H3 := Lib.hid (And.intro u1 (And.intro s3 (And.intro g3 (HC.out.2.1.upd u1 (by simp))))); clear u1 s3 g3) | (go_at_call 37; refine (FrameR_calls (l.length : Nat) hli H3.out.2.1 HX8.out hxl2).mono ?_; rintro e w5 ⟨a5, c5, rfl, o5⟩; have H5 := Lib.hid (And.intro o5.u (H3.out.2.2.2.upd o5.u (by simp))); clear o5) | (refine wpList_push rfl rfl _ _ _ _ rfl rfl rfl 39 1 24 _ Tryz.underlying29 infoBytes rfl (by decide) (by decide) (.slice _ _ _) [.slice _ _ _] rfl rfl rfl (by simp [Value.oneCell']) _ _ _ H5.out.2.row rfl rfl (by unfold maxLen; omega) (by omega) ?_; intro g7 cap7 w7 o7 u7 k7))
        have U5 := (HC.out.2.2.2.step H3.out.1).step H5.out.1
        have N := H5.out.2.push (by have := U5.size; omega) o7 k7
        have U7 := U5.fresh u7 (fun k hk => .inr (HC.out.2.1.fresh k (by simpa using hk)))
        have hsep : ∀ (y : Value), (∀ g, y.ownBlock = some g → (Value.slice a b.length cap).ownBlock = some g) → ∀ g ∈ (Value.slice ao l.length co).ownBlock.toList, y.ownBlock ≠ some g := fun y hy g hg h => by
          have h1 := HV.out.2.2 g (hy g h)
          have h2 := HC.out.2.1.fresh g (by simpa using hg)
          omega
        have hgx : ∀ g, (Value.slice a3 x.length c3).ownBlock = some g → (Value.slice a b.length cap).ownBlock = some g := fun g hg => HOW.out g (H3.out.2.2.1 g hg)
        refine ⟨⟨l ++ [x], vals ++ [.slice a3 x.length c3], by rw [HLX.out _ rfl]; go_num, step_pre HC.out.1 (by rw [HE.out, HD.out]; exact HFX.out), by rw [List.length_append, List.length_singleton]; exact N, fun i c hi => ?_, U7⟩, by simp [intOf]; omega⟩
        have hvl : vals.length = l.length := by have := HC.out.2.1.row.1; omega
        rcases list_snoc_get hi with ⟨h1, h2⟩ | ⟨rfl, rfl⟩
        · obtain ⟨y, hy, hsy, hgy⟩ := HC.out.2.2.1 i c h2
          exact ⟨y, by rw [List.getElem?_append_left (by omega)]; exact hy, ((hsy.upd H3.out.1 (by simp)).upd H5.out.1 (by simp)).upd u7 (hsep y hgy), hgy⟩
        · exact ⟨_, by rw [← hvl, List.getElem?_append_right (Nat.le_refl _), Nat.sub_self]; rfl, (H3.out.2.1.upd H5.out.1 (by simp)).upd u7 (hsep _ hgx), hgx⟩
    · have hge : ¬ (en : Int) < b.length := by omega
      clear HF
      go_wp2_with fail
      go_ret2
      refine ⟨l, ao, co, by rw [HE.out]; rfl, ⟨HC.out.1, fun x hx => ?_⟩, ⟨vals, HC.out.2.1, fun i c hi => ?_⟩, HC.out.2.2.2⟩
      · rw [HE.out, HD.out] at hx
        have h1 := hx.length_le
        have h2 := frB_length (l.length : Nat) x
        have := HDL.out
        omega
      · obtain ⟨y, h1, h2, _⟩ := HC.out.2.2.1 i c hi
        exact ⟨y, h1, h2⟩
theorem ScanR_calls {v : Value} {b : List Int} (hs : SL w 1 v b.length (byts b)) (hb : ∀ x ∈ b, IsU8 x) (hl : b.length ≤ 100000000) (hv : ∀ g, v.ownBlock = some g → g < w.heap.size) :
    Calls Tryz.prog 26 #[v] w fun e w' => ∃ (l : List (List Int)) (a : Option Addr) (cap : Nat), e = .returned (.tuple #[.slice a l.length cap, .int .i64 ((cat 0 l).length : Nat)]) ∧ Scn b l ∧ BL w' (.slice a l.length cap) l ∧ Upd [] w w' :=
  (ScanR_callsO hs hb hl hv).mono fun _ _ ⟨l, a, cap, h1, h2, ⟨vals, h3, h4⟩, h5⟩ => ⟨l, a, cap, h1, h2, ⟨vals, h3.sl, h4⟩, h5⟩
theorem BL.upd {w w' : World} {v : Value} {l : List (List Int)} (h : BL w v l) (u : Upd [] w w') : BL w' v l := by
  obtain ⟨vals, h1, h2⟩ := h
  exact ⟨vals, h1.upd u (by simp), fun i c hi => by obtain ⟨y, h3, h4⟩ := h2 i c hi; exact ⟨y, h3, h4.upd u (by simp)⟩⟩
theorem BL.at_ {w : World} {v : Value} {l : List (List Int)} (h : BL w v l) : ∃ a cap, v = .slice a l.length cap ∧ l.length ≤ cap ∧ cap ≤ 9223372036854775807 ∧ ∀ (k : Nat) (c : List Int), l[k]? = some c → ∃ g off ac cc, a = some ⟨g, off, none⟩ ∧ w.cell? ⟨g, off + k, none⟩ = some (.slice ac c.length cc) ∧ SL w 1 (.slice ac c.length cc) c.length (byts c) := by
  obtain ⟨vals, h1, h2⟩ := h
  obtain ⟨a, cap, rfl, q, r, hc⟩ := SL.form h1
  refine ⟨a, cap, rfl, q, r, fun k c hk => ?_⟩
  have hkl := (List.getElem?_eq_some_iff.1 hk).1
  obtain ⟨g, off, rfl, hcc⟩ := hc (by omega)
  obtain ⟨y, h3, h4⟩ := h2 k c hk
  obtain ⟨ac, cc, rfl, _⟩ := h4.val
  exact ⟨g, off, ac, cc, rfl, hcc k _ h3, h4⟩
set_option maxRecDepth 100000 in
set_option maxHeartbeats 4000000 in
theorem SameL_calls {v1 v2 : Value} {l m : List (List Int)} (h1 : BL w v1 l) (h2 : BL w v2 m) : Calls Tryz.prog 13 #[v1, v2] w fun e w' => e = .returned (.bool (decide (l = m))) ∧ Upd [] w w' := by
  have HB := Lib.hid (And.intro h1 h2)
  obtain ⟨a1, cap1, rfl, q1, r1, k1⟩ := h1.at_
  obtain ⟨a2, cap2, rfl, q2, r2, k2⟩ := h2.at_
  have HK := Lib.hid (And.intro k1 k2)
  clear h1 h2 k1 k2
  by_cases hlen : l.length = m.length
  · have hb : ((l.length : Int) != (m.length : Int)) = false := by simp [hlen]
    have hle1 : l.length ≤ m.length := by omega
    have hle2 : m.length ≤ l.length := by omega
    clear hlen
    go_enter Tryz.func13, Tryz.ntmps13
    go_wp2_with fail
    go_loopw [5] (fun i wr => ∃ k : Nat, i = .int .i64 k ∧ k ≤ l.length ∧ l.take k = m.take k ∧ Upd [] w wr) (fun i _ => l.length - (intOf i).toNat)
    case atStart => exact ⟨0, rfl, Nat.zero_le _, by simp, Upd.refl _ _⟩
    case round =>
      obtain ⟨wo, rfl⟩ : ∃ wo : World, wo = wr := ⟨_, rfl⟩
      obtain ⟨k, rfl, hk, htk, hu⟩ := hrel
      by_cases hlt : k < l.length
      · have hlt' : (k : Int) < l.length := by omega
        have hkm : k < m.length := by omega
        obtain ⟨g, off, ac, cc, rfl, e1, s1⟩ := HK.out.1 k _ (List.getElem?_eq_getElem hlt)
        obtain ⟨g', off', ac', cc', rfl, e2, s2⟩ := HK.out.2 k _ (List.getElem?_eq_getElem hkm)
        have d1 := hu.some e1 (by simp)
        have d2 := hu.some e2 (by simp)
        have HT := Lib.hid (And.intro htk (And.intro (take_snocL hlt) (And.intro (take_snocL hkm) (show l = m → l[k] = m[k] from fun h => by subst h; rfl))))
        have HS := Lib.hid (And.intro hu (And.intro (s1.upd hu (by simp)) (s2.upd hu (by simp))))
        generalize l[k] = x at *
        generalize m[k] = y at *
        clear hu s1 s2 e1 e2 htk
        by_cases hxy : x = y
        · subst hxy
          go_wp2_with fail
          refine wp_region_qx (by kernel_rfl) (by kernel_rfl) ?_
          repeat (go_big_quiet_step (((go_at_call 20; exact qx ((SameBytes_calls (HS.out.2.1.upd (Ext.upd _) (by simp)) (HS.out.2.2.upd (Ext.upd _) (by simp))).mono (fun e w' h => by simpa using h))))))
          refine wpQuiet_nil ?_
          intro x
          go_wp2_with fail
          exact ⟨⟨k + 1, by go_num, by omega, by rw [HT.out.2.1, HT.out.2.2.1, HT.out.1], HS.out.1.step x.upd⟩, by simp [intOf]; omega⟩
        · have HNE := Lib.hid (show decide (x = y) = false from decide_eq_false hxy)
          have HD := Lib.hid (show decide (l = m) = false from decide_eq_false (fun h => hxy (HT.out.2.2.2 h)))
          clear hxy
          go_wp2_with fail
          refine wp_region_qx (by kernel_rfl) (by kernel_rfl) ?_
          repeat (go_big_quiet_step (((go_at_call 20; exact qx ((SameBytes_calls (HS.out.2.1.upd (Ext.upd _) (by simp)) (HS.out.2.2.upd (Ext.upd _) (by simp))).mono (fun e w' h => by rw [HNE.out] at h; exact h))))))
          refine wpQuiet_nil ?_
          intro x
          go_wp2_with fail
          go_ret
          rw [HD.out]
          exact ⟨rfl, HS.out.1.step x.upd⟩
      · have hkl : k = l.length := by omega
        subst hkl
        rw [List.take_of_length_le (by omega), List.take_of_length_le (by omega)] at htk
        have HD := Lib.hid (show decide (l = m) = true from decide_eq_true htk)
        clear htk
        go_wp2_with fail
        go_ret
        rw [HD.out]
        exact ⟨rfl, hu⟩
  · have hb : ((l.length : Int) != (m.length : Int)) = true := by simp; omega
    have HD := Lib.hid (show decide (l = m) = false from decide_eq_false (fun h => hlen (by rw [h])))
    clear hlen
    go_enter Tryz.func13, Tryz.ntmps13
    go_wp2_with fail
    go_ret
    rw [HD.out]
    exact ⟨rfl, Upd.refl _ _⟩
end
end Jour
end Go.Proofs.YtfkgpecglcjpkaaGreat
