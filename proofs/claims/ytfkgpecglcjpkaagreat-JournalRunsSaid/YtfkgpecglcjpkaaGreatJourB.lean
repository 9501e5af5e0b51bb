/- Walks through package journal: core, first; and the reference's first. Conditions: none. -/
import Derived.Test.YtfkgpecglcjpkaaGreatJourA
import Derived.Test.YtfkgpecglcjpkaaGreatSameB
set_option linter.unusedVariables false
set_option linter.unusedSimpArgs false
set_option linter.unusedSectionVars false
open Go.RowKit
namespace Go.Proofs.YtfkgpecglcjpkaaGreat
open L
namespace Jour
open Wire Hash R01 R02
attribute [-go_sem] sliced
theorem SL_part {w : World} {a : Option Addr} {i n m cap : Nat} {cs : List Value} (h : SL w 1 (.slice a n cap) n cs) (hm : m ≤ n) (hi : i ≤ m) : SL w 1 (sliced a i m cap 1) (m - i) ((cs.take m).drop i) := by
  have h' : SL w 1 (.slice a m cap) m (cs.take m) := by
    obtain ⟨h1, a', cap', he, h2, h3, h5, h4⟩ := h
    cases he
    refine ⟨by rw [List.length_take]; omega, a, cap, rfl, by omega, h3, h5, ?_⟩
    rcases h4 with h4 | ⟨b, off, rfl, h4⟩
    · left; omega
    · right
      refine ⟨b, off, rfl, fun j u hj => h4 j u ?_⟩
      rw [List.getElem?_take] at hj
      split at hj
      · exact hj
      · cases hj
  exact h'.from_ hi
section
variable {w : World}
/-- What core leaves. -/
def CoT (bl : Option Nat) (b : List Int) (w : World) (e : Ending) (w' : World) : Prop :=
  Upd [] w w' ∧ match corP b with
  | none => e = .returned (.tuple #[.slice none 0 0, .bool false])
  | some c => ∃ a cap, e = .returned (.tuple #[.slice a c.length cap, .bool true]) ∧ SL w' 1 (.slice a c.length cap) c.length (byts c) ∧ ∀ g, (Value.slice a c.length cap).ownBlock = some g → bl = some g
theorem take_u8' {b : List Int} (h : ∀ x ∈ b, IsU8 x) (n : Nat) : ∀ x ∈ b.take n, IsU8 x := fun x hx => h x (List.mem_of_mem_take hx)
set_option maxRecDepth 100000 in
set_option maxHeartbeats 4000000 in
theorem Core_calls {v : Value} {b : List Int} (hs : SL w 1 v b.length (byts b)) (hb : ∀ x ∈ b, IsU8 x) (hl : b.length ≤ 1000000000) : Calls Tryz.prog 72 #[v] w (CoT v.ownBlock b w) := by
  obtain ⟨a, cap, rfl, q1, r1, _⟩ := SL.form hs
  have HX := Lib.hid (And.intro hs hb)
  obtain ⟨m, hm⟩ : ∃ m, m = (b.take 10).length := ⟨_, rfl⟩
  have hm2 : m = min b.length 10 := by rw [hm, List.length_take, Nat.min_comm]
  have hm1 : m ≤ b.length := by omega
  have hmi : min (b.length : Int) 10 = (m : Int) := by omega
  have hmc : (m : Int) ≤ cap := by omega
  have hm3 : byts (b.take 10) = (byts b).take m := by rw [hm2, byts_take, Nat.min_comm, List.take_eq_take_min, Nat.min_comm]
  obtain ⟨a1, k1, hs1, _⟩ := (SL.uptoV hs hm1).val
  have hsl1 := SL.uptoV hs hm1
  rw [hs1, ← hm3, hm] at hsl1
  have HRD := Lib.hid (Read_calls hsl1 (take_u8' hb 10) (by rw [← hm]; omega))
  rw [← hm] at HRD
  have HMI := Lib.hid hmi
  have hlt := rdU_lt (p := 0) (e := 0) (take_u8' hb 10)
  have HCP := Lib.hid (show corP b = if ub (rdU (b.take 10) 0 0).1 <+: b ∧ (rdU (b.take 10) 0 0).1 ≤ b.length - (ub (rdU (b.take 10) 0 0).1).length then some ((b.drop (ub (rdU (b.take 10) 0 0).1).length).take (rdU (b.take 10) 0 0).1) else none from rfl)
  clear hs hb hm hm2 hm3 hsl1
  unfold CoT
  generalize corP b = res at *
  go_enter Tryz.func72, Tryz.ntmps72
  generalize hrd : rdU (b.take 10) 0 0 = r at *
  obtain ⟨n, p1, e1⟩ := r
  simp only at hlt HCP
  have HRDD := Lib.hid hrd
  clear hrd
  go_wp2_with (go_at_call 73; refine HRD.out.mono ?_; rintro e w1 ⟨q, S, rfl, r1, u1, k1⟩; have H1 := Lib.hid (And.intro (Uint_r_calls r1) (And.intro u1 (k1 _ r1.q_memB))); clear r1 u1 k1)
  refine H1.out.1.mono ?_
  rw [HRDD.out]
  rintro e w2 ⟨rfl, r2, u2⟩
  simp only
  have U2 := H1.out.2.1.fresh u2 (fun j hj => .inr (by simp at hj; subst hj; exact H1.out.2.2))
  have H2 := Lib.hid U2
  clear U2 u2 r2 H1 HRD hmi hs1
  have s3 := WtF.start w2
  have hsz3 : (w2.alloc (.cells #[.slice none 0 0] 74)).heap.size = w2.heap.size + 1 := by simp
  have H3 := Lib.hid s3
  have hul := ub_length n
  have hub8 := ub_u8 hlt
  clear s3 hsz3
  go_upto_region 3 with fail
  generalize hq3 : w2.heap.size = q3 at *
  generalize w2.alloc (.cells #[.slice none 0 0] 74) = w3 at *
  go_wp2_with (go_at_call 41; refine (Uint_f H3.out n hlt (by simp)).mono ?_; rintro e w4 ⟨rfl, s4⟩; rw [List.nil_append] at s4; have H4 := Lib.hid s4; clear s4)
  obtain ⟨S4, t4, f4⟩ := H4.out.ex
  have HD := Lib.hid (Done_calls t4 (by omega))
  clear t4 f4
  have HPI := Lib.hid (show ∀ h : (ub n).length ≤ b.length, (b.take (ub n).length = ub n) = (ub n <+: b) from fun _ => propext ⟨fun h => List.prefix_iff_eq_take.2 h.symm, fun h => (List.prefix_iff_eq_take.1 h).symm⟩)
  generalize hhd : ub n = hd at *
  have HHD := Lib.hid hhd
  clear hhd
  go_wp2_with (go_at_call 43; refine HD.out.mono ?_; rintro e w5 ⟨a5, c5, rfl, o5, u5⟩)
  have U5 := (H2.out.step H4.out.u).step u5
  have H5 := Lib.hid (And.intro (HX.out.1.upd U5 (by simp)) (And.intro o5.sl U5))
  clear u5 U5 o5 HD H4
  have hc5 : hd.length ≤ c5 := by obtain ⟨_, a', c', he, h2, _⟩ := H5.out.2.1; cases he; exact h2
  have HS := Lib.hid (Has_calls H5.out.1 H5.out.2.1 HX.out.2 hub8)
  by_cases hp : hd <+: b
  · rw [decide_eq_true hp] at HS
    have hle := hp.length_le
    have hlei : (hd.length : Int) ≤ b.length := by omega
    by_cases hn : n ≤ b.length - hd.length
    · obtain rfl : res = some ((b.drop hd.length).take n) := by rw [HCP.out, if_pos ⟨hp, hn⟩]
      have hni : (n : Int) ≤ b.length - hd.length := by omega
      have hnm : hd.length + n ≤ b.length := by omega
      obtain ⟨a9, k9, hs9, _⟩ := (SL_part H5.out.1 hnm (Nat.le_add_right hd.length n)).val
      rw [show hd.length + n - hd.length = n by omega] at hs9
      have hsl9 := SL_part H5.out.1 hnm (Nat.le_add_right hd.length n)
      rw [hs9, show hd.length + n - hd.length = n by omega] at hsl9
      have HSL := Lib.hid hsl9
      have HS9 := Lib.hid hs9
      have hncap : (hd.length : Int) + n ≤ cap := by omega
      have hnb : (n : Int) ≤ 1000000000 := by omega
      have hhb : (hd.length : Int) ≤ 10 := by omega
      have hdrop : ((b.drop hd.length).take n).length = n := by rw [List.length_take, List.length_drop]; omega
      have HDR := Lib.hid hdrop
      have hcs : ((byts b).take (hd.length + n)).drop hd.length = byts ((b.drop hd.length).take n) := by rw [byts_take, byts_drop, List.drop_take, Nat.add_sub_cancel_left]
      have HCS := Lib.hid hcs
      clear hsl9 HCP hp hdrop hcs
      go_wp2_with (go_at_call 77; refine HS.out.mono ?_; rintro e _ ⟨rfl, rfl⟩)
      go_ret2
      refine ⟨H5.out.2.2, ?_⟩
      simp only
      have hl := HSL.out
      rw [HCS.out] at hl
      first | rw [HDR.out] | skip
      exact ⟨a9, k9, rfl, hl, fun g hg => sliced_own a hd.length (hd.length + n) cap 1 b.length g (by rw [HS9.out]; exact hg)⟩
    · obtain rfl : res = none := by rw [HCP.out, if_neg (fun h => hn h.2)]
      have hni : (b.length : Int) - hd.length < n := by omega
      clear HCP hp
      go_wp2_with (go_at_call 77; refine HS.out.mono ?_; rintro e _ ⟨rfl, rfl⟩)
      go_ret2
      exact ⟨H5.out.2.2, rfl⟩
  · rw [decide_eq_false hp] at HS
    obtain rfl : res = none := by rw [HCP.out, if_neg (fun h => hp h.1)]
    clear HCP hp
    go_wp2_with (go_at_call 77; refine HS.out.mono ?_; rintro e _ ⟨rfl, rfl⟩)
    go_ret2
    exact ⟨H5.out.2.2, rfl⟩
theorem corP_mem {b c : List Int} (h : corP b = some c) : (∀ x ∈ c, x ∈ b) ∧ c.length ≤ b.length := by
  unfold corP at h
  split at h
  · cases h
    refine ⟨fun x hx => List.mem_of_mem_drop (List.mem_of_mem_take hx), ?_⟩
    rw [List.length_take, List.length_drop]; omega
  · cases h
/-- What first leaves. -/
def FiT (k : Int) (b : List Int) (w : World) (e : Ending) (w' : World) : Prop :=
  Upd [] w w' ∧ match fstP k b with
  | none => ∃ (a : Option Addr) (n cap : Nat) (m : Int), e = .returned (.tuple #[.slice a n cap, .int .i64 m, .bool false])
  | some x => ∃ a cap, e = .returned (.tuple #[.slice a x.length cap, .int .i64 ((frB k x).length : Nat), .bool true]) ∧ OwnV w 5 1 (.slice a x.length cap) x.length (byts x) w'
theorem FiT.no {k : Int} {b : List Int} {w w' : World} {e : Ending} {a : Option Addr} {n cap : Nat} {m : Int} (h : fstP k b = none) (hu : Upd [] w w') (he : e = .returned (.tuple #[.slice a n cap, .int .i64 m, .bool false])) : FiT k b w e w' := by
  unfold FiT
  rw [h]
  exact ⟨hu, a, n, cap, m, he⟩
theorem FiT.yes {k : Int} {b x : List Int} {w w' : World} {e : Ending} {a : Option Addr} {cap : Nat} (h : fstP k b = some x) (hu : Upd [] w w') (he : e = .returned (.tuple #[.slice a x.length cap, .int .i64 ((frB k x).length : Nat), .bool true])) (ho : OwnV w 5 1 (.slice a x.length cap) x.length (byts x) w') : FiT k b w e w' := by
  unfold FiT
  rw [h]
  exact ⟨hu, a, cap, he, ho⟩
set_option maxRecDepth 100000 in
set_option maxHeartbeats 4000000 in
theorem First_calls (k : Int) (hk : IsI64 k) {v : Value} {b : List Int} (hs : SL w 1 v b.length (byts b)) (hb : ∀ x ∈ b, IsU8 x) (hl : b.length ≤ 100000000) : Calls Tryz.prog 60 #[.int .i64 k, v] w (FiT k b w) := by
  obtain ⟨a, cap, rfl, q1, r1, _⟩ := SL.form hs
  have HC := Lib.hid (Core_calls hs hb (by omega))
  have HX := Lib.hid (And.intro hs hb)
  clear hs
  have HF := Lib.hid (show fstP k b = (match corP b with | none => none | some c => if (rdR c (rdU c 0 0).2.1 (rdU c 0 0).2.2).2.2 = 0 ∧ ¬ (rdR c (rdU c 0 0).2.1 (rdU c 0 0).2.2).2.1 < c.length ∧ uzz (rdU c 0 0).1 = k ∧ frB k (rdR c (rdU c 0 0).2.1 (rdU c 0 0).2.2).1 <+: b then some (rdR c (rdU c 0 0).2.1 (rdU c 0 0).2.2).1 else none) from rfl)
  unfold CoT at HC
  cases hcp : corP b with
  | none =>
    rw [hcp] at HC HF
    have hfn : fstP k b = none := HF.out
    have HFN := Lib.hid hfn
    clear hcp HF hfn
    go_enter Tryz.func60, Tryz.ntmps60
    go_wp2_with (go_at_call 72; refine HC.out.mono ?_; rintro e w1 ⟨u1, rfl⟩)
    go_ret3
    exact FiT.no HFN.out u1 rfl
  | some c =>
    rw [hcp] at HC HF
    obtain ⟨hcm, hcl⟩ := corP_mem hcp
    have hc8 : ∀ x ∈ c, IsU8 x := fun x hx => hb x (hcm x hx)
    have HC8 := Lib.hid hc8
    clear hb hcm hc8 hcp
    go_enter Tryz.func60, Tryz.ntmps60
    go_wp2_with (go_at_call 72; refine HC.out.mono ?_; rintro e w1 ⟨u1, a1, c1, rfl, s1, g1⟩; have H1 := Lib.hid (And.intro u1 (And.intro (Read_calls s1 HC8.out (by omega)) s1)); clear u1 s1 g1)
    refine H1.out.2.1.mono ?_
    rintro e w2 ⟨q, S, rfl, r2, u2, k2⟩
    have HR2 := Lib.hid (And.intro (Int_r_calls r2 (rdU_lt HC8.out)) (And.intro (H1.out.1.step u2) (fun j hj => Nat.le_trans H1.out.1.size (k2 j hj))))
    have hqS := r2.q_memB
    clear r2 u2 k2 H1
    generalize rdU c 0 0 = ru at *
    obtain ⟨n0, p1, e1⟩ := ru
    simp only at HF
    go_wp2_with (go_at_call 74; refine HR2.out.1.mono ?_; rintro e w3 ⟨rfl, r3, u3⟩; simp only at r3; have HR3 := Lib.hid (And.intro (RRaw_calls r3 (by omega)) (HR2.out.2.1.fresh u3 (fun j hj => .inr (by simp at hj; subst hj; exact HR2.out.2.2 _ hqS)))); clear r3 u3)
    refine HR3.out.1.mono ?_
    rintro e w4 ⟨v4, rfl, r4, o4, u4⟩
    have hz3 := HR3.out.2.size
    have H4 := Lib.hid (And.intro (End_calls r4) (And.intro o4 (HR3.out.2.fresh u4 (fun j hj => .inr (by simp at hj; subst hj; exact HR2.out.2.2 _ hqS)))))
    have hpl := r4.pl
    have hrm : ∀ x ∈ (rdR c p1 e1).1, x ∈ c := rdR_mem
    have hrl : (rdR c p1 e1).1.length ≤ c.length := rdR_len
    have HRM := Lib.hid hrm
    obtain ⟨a4, c4, rfl, _⟩ := o4.sl.val
    clear r4 u4 o4 hrm HR3 HR2
    generalize rdR c p1 e1 = rr at *
    obtain ⟨x, p2, e2⟩ := rr
    simp only at HF hpl hrl H4 HRM
    have HXF := Lib.hid (frB_length k x)
    go_wp2_with fail
    refine H4.out.1.mono ?_
    rintro e w5 ⟨rfl, u5⟩
    have H5 := Lib.hid (H4.out.2.2.step u5)
    have o5 := H4.out.2.1.upd u5 (by simp)
    have HO5 := Lib.hid o5
    clear o5 u5
    by_cases hbad : e2 = 0 ∧ ¬ p2 < c.length
    · obtain ⟨rfl, hp2⟩ := hbad
      rw [if_neg (by simp), if_neg hp2]
      by_cases hku : uzz n0 = k
      · have hbk : (uzz n0 != k) = false := by simp [hku]
        have hx8 : ∀ y ∈ x, IsU8 y := fun y hy => HC8.out y (HRM.out y hy)
        have hv5 : ∀ g, (Value.slice a4 x.length c4).ownBlock = some g → g < w5.heap.size := HO5.out.lt
        have HFR := Lib.hid (Frame_calls k hk HO5.out.sl hx8 (by omega) hv5)
        have hfr8 := frB_u8 hk hx8 (by omega)
        have HF8 := Lib.hid hfr8
        have HFK := Lib.hid (show fstP k b = if frB k x <+: b then some x else none by rw [HF.out, hku]; simp [hp2])
        have hfl := HXF.out
        clear hx8 hv5 hfr8 HF hku
        generalize hfk : frB k x = f at *
        have HFF := Lib.hid hfk
        clear hfk
        go_wp2_with (go_at_call 35; refine HFR.out.mono ?_; rintro e w6 ⟨a6, c6, rfl, o6⟩; have H6 := Lib.hid (And.intro o6 (HO5.out.upd o6.u (by simp))); clear o6)
        refine (Has_calls (HX.out.1.upd (H5.out.step H6.out.1.u) (by simp)) H6.out.1.sl HX.out.2 HF8.out).mono ?_
        rintro e _ ⟨rfl, rfl⟩
        go_wp2_with fail
        go_ret3
        by_cases hpre : f <+: b
        · refine FiT.yes (by rw [HFK.out, if_pos hpre]) (H5.out.step H6.out.1.u) (a := a4) (cap := c4) ?_ ⟨H6.out.2.row, fun g hg => Nat.le_trans hz3 (H6.out.2.fresh g hg)⟩
          rw [HFF.out, decide_eq_true hpre]; rfl
        · refine FiT.no (a := a4) (n := x.length) (cap := c4) (m := f.length) (by rw [HFK.out, if_neg hpre]) (H5.out.step H6.out.1.u) ?_
          rw [decide_eq_false hpre]; rfl
      · have hbk : (uzz n0 != k) = true := by simp [hku]
        have hfn : fstP k b = none := by rw [HF.out, if_neg (fun h => hku h.2.2.1)]
        have HFN := Lib.hid hfn
        clear HF hfn hku
        go_wp2_with fail
        go_ret3
        exact FiT.no HFN.out H5.out rfl
    · have hfn : fstP k b = none := by rw [HF.out, if_neg (fun h => hbad ⟨h.1, h.2.1⟩)]
      have HFN := Lib.hid hfn
      obtain ⟨ee, hee, hne⟩ : ∃ ee, (if e2 ≠ 0 then e2 else if p2 < c.length then 2 else 0) = ee ∧ (ee != 0) = true := by
        refine ⟨_, rfl, ?_⟩
        by_cases h2 : e2 = 0
        · rw [if_neg (by simpa using h2), if_pos (by omega)]; rfl
        · rw [if_pos h2]; simpa using h2
      rw [hee]
      clear HF hfn hbad hee
      go_wp2_with fail
      go_ret3
      exact FiT.no HFN.out H5.out rfl
/-- What the reference's first leaves. -/
def FrT (bl : Option Nat) (k : Int) (b : List Int) (w : World) (e : Ending) (w' : World) : Prop :=
  Upd [] w w' ∧ match fstR k b with
  | none => e = .returned (.tuple #[.slice none 0 0, .bool false])
  | some x => ∃ a cap, e = .returned (.tuple #[.slice a x.length cap, .bool true]) ∧ SL w' 1 (.slice a x.length cap) x.length (byts x) ∧ ∀ g, (Value.slice a x.length cap).ownBlock = some g → bl = some g
theorem FrT.no {bl : Option Nat} {k : Int} {b : List Int} {w w' : World} {e : Ending} (h : fstR k b = none) (hu : Upd [] w w') (he : e = .returned (.tuple #[.slice none 0 0, .bool false])) : FrT bl k b w e w' := by
  unfold FrT
  rw [h]
  exact ⟨hu, he⟩
theorem FrT.yes {bl : Option Nat} {k : Int} {b x : List Int} {w w' : World} {e : Ending} {a : Option Addr} {cap : Nat} (h : fstR k b = some x) (hu : Upd [] w w') (he : e = .returned (.tuple #[.slice a x.length cap, .bool true])) (hs : SL w' 1 (.slice a x.length cap) x.length (byts x)) (hg : ∀ g, (Value.slice a x.length cap).ownBlock = some g → bl = some g) : FrT bl k b w e w' := by
  unfold FrT
  rw [h]
  exact ⟨hu, a, cap, he, hs, hg⟩
theorem RR.start {w : World} {v : Value} {b : List Int} (hs : SL w 1 v b.length (byts b)) (hb : ∀ x ∈ b, IsU8 x) (hl : b.length ≤ 1000000000) (hv : ∀ g, v.ownBlock = some g → g < w.heap.size) : RR (w.alloc (.cells #[v, .int .i64 0] 100)) w.heap.size v.ownBlock.toList b 0 := by
  have u := (Upd.refl [] w).alloc (.cells #[v, .int .i64 0] 100)
  exact ⟨hb, hl, ⟨v, Blk.new w [v, .int .i64 0] 100, hs.upd u (by simp), fun g hg => by simp [hg]⟩, fun hm => by have := hv _ (by simpa using hm); omega⟩
set_option maxRecDepth 100000 in
set_option maxHeartbeats 4000000 in
theorem FirstR_calls (k : Int) (hk : IsI64 k) {v : Value} {b : List Int} (hs : SL w 1 v b.length (byts b)) (hb : ∀ x ∈ b, IsU8 x) (hl : b.length ≤ 100000000) (hv : ∀ g, v.ownBlock = some g → g < w.heap.size) : Calls Tryz.prog 46 #[.int .i64 k, v] w (FrT v.ownBlock k b w) := by
  have HX := Lib.hid (And.intro hs (And.intro hb hv))
  have r1 := RR.start hs hb (by omega) hv
  have u1 := (Upd.refl [] w).alloc (.cells #[v, .int .i64 0] 100)
  have z1 : (w.alloc (.cells #[v, .int .i64 0] 100)).heap.size = w.heap.size + 1 := by simp
  obtain ⟨a, cap, rfl, q1, r1', _⟩ := SL.form hs
  have HF := Lib.hid (show fstR k b = if (rdR b 0 0).2.2 = 0 ∧ (rdR (rdR b 0 0).1 (rdU (rdR b 0 0).1 0 0).2.1 (rdU (rdR b 0 0).1 0 0).2.2).2.2 = 0 ∧ (frB k (rdR (rdR b 0 0).1 (rdU (rdR b 0 0).1 0 0).2.1 (rdU (rdR b 0 0).1 0 0).2.2).1).length ≤ b.length ∧ frB k (rdR (rdR b 0 0).1 (rdU (rdR b 0 0).1 0 0).2.1 (rdU (rdR b 0 0).1 0 0).2.2).1 = b.take (frB k (rdR (rdR b 0 0).1 (rdU (rdR b 0 0).1 0 0).2.1 (rdU (rdR b 0 0).1 0 0).2.2).1).length then some (rdR (rdR b 0 0).1 (rdU (rdR b 0 0).1 0 0).2.1 (rdU (rdR b 0 0).1 0 0).2.2).1 else none from rfl)
  have HR1 := Lib.hid (And.intro (RRaw_calls r1) (And.intro u1 z1))
  have hcm : ∀ x ∈ (rdR b 0 0).1, x ∈ b := rdR_mem
  have hcl : (rdR b 0 0).1.length ≤ b.length := rdR_len
  have hc8 : ∀ x ∈ (rdR b 0 0).1, IsU8 x := fun x hx => hb x (hcm x hx)
  have HC8 := Lib.hid hc8
  clear hs hb hv r1 u1 z1 hcm hc8
  generalize rdR b 0 0 = rc at *
  obtain ⟨c, p1, e1⟩ := rc
  simp only at HF HR1 hcl HC8
  go_enter Tryz.func46, Tryz.ntmps46
  go_upto_region 2 with fail
  generalize hq1 : w.heap.size = q at *
  generalize w.alloc (.cells #[.slice a b.length cap, .int .i64 0] 100) = w1 at *
  go_wp2_with fail
  refine HR1.out.1.mono ?_
  rintro e w2 ⟨v2, rfl, s2, t2, r2, u2⟩
  obtain ⟨a2, c2, rfl, _⟩ := s2.val
  have U2 : Upd [] w w2 := HR1.out.2.1.fresh u2 (fun j hj => .inr (by simp at hj; omega))
  have hv2 : ∀ g, (Value.slice a2 c.length c2).ownBlock = some g → g < q := fun g hg => by
    have := t2 g hg
    simp only [Option.mem_toList] at this
    exact HX.out.2.2 g this
  have hz2 := HR1.out.2.2
  have hzz := u2.size
  have r3 := RR.start s2 HC8.out (by omega) (fun g hg => by have := hv2 g hg; omega)
  have u3 := (Upd.refl [] w2).alloc (.cells #[.slice a2 c.length c2, .int .i64 0] 100)
  have r2' := r2.upd u3 (by simp) (by simp)
  have s2' := s2.upd u3 (by simp)
  have H3 := Lib.hid (And.intro (Int_r_calls r3) (And.intro (U2.step u3) (And.intro r2' (And.intro s2' (And.intro t2 hv2)))))
  clear r2 u2 r3 u3 r2' s2' s2 t2 hv2 HR1 U2
  go_upto_region 4 with fail
  generalize hq3 : w2.heap.size = q3 at *
  generalize w2.alloc (.cells #[.slice a2 c.length c2, .int .i64 0] 100) = w3 at *
  have HRD := Lib.hid (rdR_drop (bs := c) (p := (rdU c 0 0).2.1) (e := (rdU c 0 0).2.2) (rdU_le (Nat.zero_le _)))
  generalize rdU c 0 0 = ru at *
  obtain ⟨n0, p2, e2⟩ := ru
  simp only at HF HRD
  go_wp2_with fail
  refine H3.out.1.mono ?_
  rintro e w4 ⟨rfl, r4, u4⟩
  try simp only at r4
  have hqq : q3 ≠ q := by omega
  have H4 := Lib.hid (And.intro (RRaw_calls r4) (And.intro (H3.out.2.1.fresh u4 (fun j hj => .inr (by simp at hj; omega))) (And.intro (H3.out.2.2.1.upd u4 (by simpa using Ne.symm hqq) (by intro g hg hm; simp at hg; subst hg; simp only [Option.mem_toList] at hm; have := HX.out.2.2 _ hm; omega)) u4.size)))
  have hlx : (rdR (c.drop p2) 0 e2).1.length ≤ c.length := by have := rdR_len (bs := c.drop p2) (p := 0) (e := e2); rw [List.length_drop] at this; omega
  have hxm : ∀ y ∈ (rdR (c.drop p2) 0 e2).1, IsU8 y := fun y hy => HC8.out y (List.mem_of_mem_drop (rdR_mem y hy))
  have HXM := Lib.hid hxm
  clear r4 u4 hxm
  rw [HRD.out] at HF
  clear HRD
  simp only at HF
  generalize rdR (c.drop p2) 0 e2 = rr at *
  obtain ⟨x, p3, e3⟩ := rr
  simp only at HF H4 hlx HXM
  go_wp2_with fail
  refine H4.out.1.mono ?_
  rintro e w5 ⟨v5, rfl, s5, t5, r5, u5⟩
  obtain ⟨a5, c5, rfl, _⟩ := s5.val
  have U5 : Upd [] w w5 := H4.out.2.1.fresh u5 (fun j hj => .inr (by simp at hj; omega))
  have rq := H4.out.2.2.1.upd u5 (by simpa using Ne.symm hqq) (by intro g hg hm; simp at hg; subst hg; simp only [Option.mem_toList] at hm; have := HX.out.2.2 _ hm; omega)
  obtain ⟨sv1, B1, _, _⟩ := rq.ex
  obtain ⟨sv3, B3, _, _⟩ := r5.ex
  have c1 := B1.cell (i := 1) rfl
  have c3 := B3.cell (i := 1) rfl
  have hbl : ∀ g, (Value.slice a5 x.length c5).ownBlock = some g → (Value.slice a b.length cap).ownBlock = some g := fun g hg => by
    have h1 := t5 g hg
    simp only [Option.mem_toList] at h1
    have h2 := H3.out.2.2.2.2.1 g h1
    simpa only [Option.mem_toList] using h2
  have H5 := Lib.hid (And.intro U5 (And.intro s5 (And.intro hbl (HX.out.1.upd U5 (by simp)))))
  clear r5 u5 rq U5 s5 t5 hbl B1 B3
  by_cases hbad : e1 = 0 ∧ e3 = 0
  · obtain ⟨rfl, rfl⟩ := hbad
    have HFK := Lib.hid (show fstR k b = if (frB k x).length ≤ b.length ∧ frB k x = b.take (frB k x).length then some x else none by rw [HF.out]; simp)
    have HFR := Lib.hid (FrameR_calls k hk H5.out.2.1 HXM.out (by omega))
    have hfl := frB_length k x
    clear HF
    generalize frB k x = f at *
    by_cases hlen : f.length ≤ b.length
    · have hli : (f.length : Int) ≤ b.length := by omega
      have hlc : (f.length : Int) ≤ cap := by omega
      obtain ⟨a7, k7, hs7, _⟩ := (SL.uptoV H5.out.2.2.2 hlen).val
      have hsl7 := SL.uptoV H5.out.2.2.2 hlen
      rw [hs7, byts_take] at hsl7
      have hl7 : (b.take f.length).length = f.length := by rw [List.length_take]; omega
      have H7 := Lib.hid (And.intro hsl7 hl7)
      clear hsl7 hl7
      by_cases heq : f = b.take f.length
      · have HEQ := Lib.hid (decide_eq_true heq)
        have HYE := Lib.hid (show fstR k b = some x by rw [HFK.out, if_pos ⟨hlen, heq⟩])
        clear heq HFK
        go_wp2_with (first | (go_at_call 37; refine HFR.out.mono ?_; rintro e w6 ⟨a6, c6, rfl, o6⟩; have H6 := Lib.hid o6; clear o6) | (go_at_call 20; refine (SameBytes_calls (xs := f) (ys := b.take f.length) H6.out.sl (by rw [H7.out.2]; exact H7.out.1.upd H6.out.u (by simp))).mono ?_; rintro e w8 ⟨rfl, u8⟩; rw [HEQ.out]))
        go_ret2
        have U8 := (H5.out.1.step H6.out.u).step u8
        exact FrT.yes HYE.out U8 rfl ((H5.out.2.1.upd H6.out.u (by simp)).upd u8 (by simp)) H5.out.2.2.1
      · have HEQ := Lib.hid (decide_eq_false heq)
        have HNO := Lib.hid (show fstR k b = none by rw [HFK.out, if_neg (fun h => heq h.2)])
        clear heq HFK
        go_wp2_with (first | (go_at_call 37; refine HFR.out.mono ?_; rintro e w6 ⟨a6, c6, rfl, o6⟩; have H6 := Lib.hid o6; clear o6) | (go_at_call 20; refine (SameBytes_calls (xs := f) (ys := b.take f.length) H6.out.sl (by rw [H7.out.2]; exact H7.out.1.upd H6.out.u (by simp))).mono ?_; rintro e w8 ⟨rfl, u8⟩; rw [HEQ.out]))
        go_ret2
        exact FrT.no HNO.out ((H5.out.1.step H6.out.u).step u8) rfl
    · have hli : (b.length : Int) < f.length := by omega
      go_wp2_with (go_at_call 37; refine HFR.out.mono ?_; rintro e w6 ⟨a6, c6, rfl, o6⟩; have H6 := Lib.hid o6; clear o6)
      go_ret2
      exact FrT.no (by rw [HFK.out, if_neg (fun h => hlen h.1)]) (H5.out.1.step H6.out.u) rfl
  · have HFN := Lib.hid (show fstR k b = none by rw [HF.out, if_neg (fun h => hbad ⟨h.1, h.2.1⟩)])
    clear HF
    by_cases he1 : e1 = 0
    · subst he1
      have he3 : (e3 != 0) = true := by simp; exact fun h => hbad ⟨rfl, h⟩
      clear hbad
      go_wp2_with fail
      go_ret2
      exact FrT.no HFN.out H5.out.1 rfl
    · have he3 : (e1 != 0) = true := by simpa using he1
      clear hbad
      go_wp2_with fail
      go_ret2
      exact FrT.no HFN.out H5.out.1 rfl
end
end Jour
end Go.Proofs.YtfkgpecglcjpkaaGreat
