/- Walks through the laws of journals: JournalFrames. Conditions: none. -/
import Derived.Test.YtfkgpecglcjpkaaJourL
set_option linter.unusedVariables false
set_option linter.unusedSimpArgs false
set_option linter.unusedSectionVars false
open Go.RowKit
namespace Go.Proofs.Ytfkgpecglcjpkaa
open L
namespace Jour
open Wire Hash R01 R02
attribute [-go_sem] sliced
section
variable {w : World}
theorem u8_take {b : List Int} (h : ∀ x ∈ b, IsU8 x) (n : Nat) : ∀ x ∈ b.take n, IsU8 x := fun x hx => h x (List.mem_of_mem_take hx)
theorem cat_take {x : List (List Int)} {k : Nat} (h : k < x.length) : cat 0 (x.take (k + 1)) = cat 0 (x.take k) ++ frB (k : Nat) x[k] := by
  rw [take_snocL h, cat_snoc, Nat.zero_add, List.length_take, Nat.min_eq_left (by omega)]
theorem BO.base {w0 w1 w : World} {v : Value} {R : List (List Int)} (h : BO w1 v R w) (u : Upd [] w0 w1) : BO w0 v R w := by
  obtain ⟨vals, h1, h2⟩ := h.ex
  exact ⟨vals, ⟨h1.row, fun g hg => Nat.le_trans u.size (h1.fresh g hg)⟩, fun i c hi => by
    obtain ⟨y, h3, h4⟩ := h2 i c hi
    exact ⟨y, h3, h4.row, fun g hg => Nat.le_trans u.size (h4.fresh g hg)⟩⟩
theorem BO.at_ {w0 w : World} {v : Value} {l : List (List Int)} (h : BO w0 v l w) : ∃ a cap, v = .slice a l.length cap ∧ l.length ≤ cap ∧ cap ≤ 9223372036854775807 ∧ ∀ (k : Nat) (c : List Int), l[k]? = some c → ∃ g off ac cc, a = some ⟨g, off, none⟩ ∧ w.cell? ⟨g, off + k, none⟩ = some (.slice ac c.length cc) ∧ SL w 1 (.slice ac c.length cc) c.length (byts c) ∧ ∀ j, (Value.slice ac c.length cc).ownBlock = some j → j < w.heap.size := by
  obtain ⟨vals, h1, h2⟩ := h.ex
  obtain ⟨a, cap, rfl, q, r, hc⟩ := SL.form h1.sl
  refine ⟨a, cap, rfl, q, r, fun k c hk => ?_⟩
  have hkl := (List.getElem?_eq_some_iff.1 hk).1
  obtain ⟨g, off, rfl, hcc⟩ := hc (by omega)
  obtain ⟨y, h3, h4⟩ := h2 k c hk
  obtain ⟨ac, cc, rfl, _⟩ := h4.sl.val
  exact ⟨g, off, ac, cc, rfl, hcc k _ h3, h4.sl, h4.lt⟩
theorem BL.take_ {w : World} {a : Option Addr} {n cap m : Nat} {l : List (List Int)} (h : BL w (.slice a n cap) l) (hn : n = l.length) (hm : m ≤ n) : BL w (sliced a 0 m cap 1) (l.take m) := by
  subst hn
  obtain ⟨vals, h1, h2⟩ := h
  have hl : (l.take m).length = m := by rw [List.length_take]; omega
  refine ⟨vals.take m, by rw [hl]; exact SL.uptoV h1 hm, fun i c hi => ?_⟩
  rw [List.getElem?_take] at hi ⊢
  split at hi
  · obtain ⟨y, h3, h4⟩ := h2 i c hi
    rw [if_pos (by assumption)]
    exact ⟨y, h3, h4⟩
  · cases hi
theorem cat_mono {x l : List (List Int)} (h : x <+: l) : (cat 0 x).length ≤ (cat 0 l).length := by
  obtain ⟨t, rfl⟩ := h
  rw [cat_append, List.length_append]
  omega
theorem cat_bound {x : List (List Int)} (h : ∀ c ∈ x, c.length ≤ 200) : ∀ k, (cat k x).length ≤ 240 * x.length := by
  induction x with
  | nil => intro k; simp [cat]
  | cons c x ih =>
    intro k
    have h1 := ih (fun d hd => h d (List.mem_cons_of_mem _ hd)) (k + 1)
    have h2 := frB_length k c
    have h3 := h c (by simp)
    rw [cat, List.length_append, List.length_cons]
    omega
theorem cat_u8 {x : List (List Int)} (h : ∀ c ∈ x, (∀ y ∈ c, IsU8 y) ∧ c.length ≤ 200) : ∀ k, k + x.length ≤ 1000 → ∀ y ∈ cat k x, IsU8 y := by
  induction x with
  | nil => intro k _ y hy; simp [cat] at hy
  | cons c x ih =>
    intro k hk y hy
    simp only [List.length_cons] at hk
    rw [cat] at hy
    rcases List.mem_append.1 hy with hy | hy
    · exact frB_u8 ⟨by omega, by omega⟩ (h c (by simp)).1 (by have := (h c (by simp)).2; omega) y hy
    · exact ih (fun d hd => h d (List.mem_cons_of_mem _ hd)) (k + 1) (by omega) y hy
set_option maxRecDepth 100000 in
set_option maxHeartbeats 16000000 in
theorem JournalFrames_calls {v0 v2 v3 : Value} {l bb rest : List Int} {number : Int} (h0 : SL w 1 v0 l.length (ints l)) (hi : ∀ x ∈ l, IsI64 x) (hn : IsI64 number) (h2 : SL w 1 v2 bb.length (byts bb)) (hb : ∀ x ∈ bb, IsU8 x) (h3 : SL w 1 v3 rest.length (byts rest)) (hr : ∀ x ∈ rest, IsU8 x) :
    Calls Try.prog 3 #[v0, .int .i64 number, v2, v3] w fun e w' => e = .returned (.bool true) ∧ Upd [] w w' := by
  obtain ⟨a0, c0, rfl, _⟩ := h0.val
  obtain ⟨a2, c2, rfl, _⟩ := h2.val
  obtain ⟨a3, c3, rfl, _⟩ := h3.val
  have HH := Lib.hid (And.intro h0 (And.intro hi (And.intro h2 (And.intro hb (And.intro h3 hr)))))
  have HN := Lib.hid hn
  clear h0 hi hn h2 hb h3 hr
  have hol : (bb.take 200).length ≤ 200 := by rw [List.length_take]; omega
  have HO8 := Lib.hid (u8_take HH.out.2.2.2.1 200)
  have HFW := Lib.hid (Few_calls HH.out.2.2.1 200 (by omega))
  generalize bb.take 200 = own at *
  go_enter Try.func3, Try.ntmps3
  go_upto_region 2 with (go_at_call 10; refine HFW.out.mono ?_; rintro e w1 ⟨a1, c1, rfl, o1, u1⟩; have H1 := Lib.hid (And.intro o1 u1); clear o1 u1)
  have HF1 := Lib.hid (Frame_calls (w := w1) number HN.out H1.out.1.sl HO8.out (by omega) H1.out.1.lt)
  have hfl := frB_length number own
  have HFR := Lib.hid (fun (w : World) (h : SL w 1 (.slice a1 own.length c1) own.length (byts own)) => FrameR_calls (w := w) number HN.out h HO8.out (by omega))
  generalize frB number own = f at *
  go_upto_region 4 with (first | (go_at_call 12; refine HF1.out.mono ?_; rintro e w2 ⟨ax, cx, rfl, o2⟩; have H2 := Lib.hid o2; clear o2) | (go_at_call 13; refine (HFR.out _ (H1.out.1.upd H2.out.u (by simp)).sl).mono ?_; rintro e w3 ⟨ay, cy, rfl, o3⟩; have H3 := Lib.hid o3; clear o3) | (go_at_call 11; refine (SameBytes_calls (H2.out.sl.upd H3.out.u (by simp)) H3.out.sl).mono ?_; rintro e w4 ⟨rfl, u4⟩))
  have U4 := ((H1.out.2.step H2.out.u).step H3.out.u).step u4
  have O4 := ((H1.out.1.upd H2.out.u (by simp)).upd H3.out.u (by simp)).upd u4 (by simp)
  have HRC := Lib.hid (Recs_calls (HH.out.1.upd U4 (by simp)) HH.out.2.1)
  have H4 := Lib.hid (And.intro U4 O4)
  clear u4 U4 O4 H1 H2 H3 HF1 HFR HFW
  go_wp2_with (first | (go_at_call 14; refine HRC.out.mono ?_; rintro e w5 ⟨R, a5, c5, rfl, hR6, hRs, hRB, u5⟩; have h5 := hRB.base H4.out.1; obtain ⟨vals, b1, b2⟩ := h5.ex; have H5 := Lib.hid (And.intro b1 (And.intro b2 (And.intro (H4.out.2.upd u5 (by simp)) (And.intro (H4.out.1.step u5) hRs)))); clear hRB u5 h5 b1 b2 hRs) | (refine wpList_push rfl rfl _ _ _ _ rfl rfl rfl 23 1 24 _ Try.underlying27 infoBytes rfl (by decide) (by decide) (.slice _ _ _) [.slice _ _ _] rfl rfl rfl (by simp [Value.oneCell']) _ _ _ H5.out.1.row rfl rfl (by unfold maxLen; omega) (by omega) ?_; intro g6 cap6 w6 o6 u6 k6))
  have NB := BO.push H5.out.1 H5.out.2.1 H5.out.2.2.2.1.size H5.out.2.2.1 o6 u6 k6
  have U6 := H5.out.2.2.2.1.fresh u6 (fun q hq => .inr (H5.out.1.fresh q (by simpa using hq)))
  have hXl : (R ++ [own]).length = R.length + 1 := by simp
  have hXs : ∀ c ∈ R ++ [own], (∀ y ∈ c, IsU8 y) ∧ c.length ≤ 200 := by
    intro c hc
    rcases List.mem_append.1 hc with hc | hc
    · have h := H5.out.2.2.2.2 c hc
      exact ⟨h.1, by have := h.2; omega⟩
    · simp only [List.mem_singleton] at hc
      subst hc
      exact ⟨HO8.out, hol⟩
  rw [← hXl] at NB ⊢
  have hX7 : (R ++ [own]).length ≤ 7 := by omega
  clear u6 k6 o6 H5 H4 HRC hXl hR6
  generalize R ++ [own] = X at *
  have HX := Lib.hid (And.intro NB (And.intro U6 hXs))
  clear NB U6 hXs
  obtain ⟨ax6, cx6, he6, q6, r6, k6⟩ := HX.out.1.at_
  cases he6
  have HK6 := Lib.hid k6
  clear k6
  have hb200 := Lib.hid (fun x (h : ∀ c ∈ x, c.length ≤ 200) => cat_bound (x := x) h 0)
  go_loopw [11, 12] (fun o i wr => ∃ k : Nat, i = .int .i64 k ∧ k ≤ X.length ∧ OwnB w6 o (cat 0 (X.take k)) wr) (fun _ i _ => X.length - (intOf i).toNat)
  case atStart => exact ⟨0, rfl, Nat.zero_le _, by simpa [cat] using OwnB.nil w6⟩
  case round =>
    obtain ⟨wo, rfl⟩ : ∃ wo : World, wo = wr := ⟨_, rfl⟩
    obtain ⟨k, rfl, hk, hO⟩ := hrel
    have hcl : (cat 0 (X.take k)).length ≤ 240 * 7 := by
      have h1 := hb200.out (X.take k) (fun c hc => (HX.out.2.2 c (List.mem_of_mem_take hc)).2)
      have h2 : (X.take k).length ≤ 7 := by rw [List.length_take]; omega
      omega
    by_cases hlt : k < X.length
    · have hlt' : (k : Int) < X.length := by omega
      obtain ⟨g, off, ac, cc, he, hd, hsl, hjl⟩ := HK6.out k _ (List.getElem?_eq_getElem hlt)
      cases he
      rw [Nat.zero_add] at hd
      have hxm := HX.out.2.2 _ (List.getElem_mem hlt)
      have HT := Lib.hid (cat_take hlt)
      generalize X[k] = x at *
      have hd2 := hO.u.some hd (by simp)
      have hfl2 := frB_length (k : Nat) x
      have HFK := Lib.hid (Frame_calls (w := wo) (k : Nat) ⟨by omega, by omega⟩ (hsl.upd hO.u (by simp)) hxm.1 (by have := hxm.2; omega) (fun j hj => Nat.lt_of_lt_of_le (hjl j hj) hO.u.size))
      generalize frB (k : Nat) x = fx at *
      generalize cat 0 (X.take k) = pre at *
      obtain ⟨ao, co, rfl, _⟩ := hO.form
      have HO := Lib.hid hO
      obtain ⟨hx8, hx200⟩ := hxm
      clear hO hd hsl hx8 hjl
      go_wp2_with (first | (go_at_call 12; refine HFK.out.mono ?_; rintro e w8 ⟨a8, c8, rfl, o8⟩; have H8 := Lib.hid (And.intro o8.sl (HO.out.quiet o8.u)); clear o8) | (refine wpList_appS rfl _ _ _ rfl 5 1 1 _ Try.underlying23 infoByte rfl (by decide) (.slice ao pre.length co) pre.length (byts pre) rfl H8.out.2.row (.slice a8 fx.length c8) fx.length (byts fx) rfl H8.out.1 (byts_one _) (by unfold maxLen; omega) (by omega) ?_; intro a9 cap9 w9 o9 u9 k9))
      have N9 := app_B H8.out.2 o9 u9 k9
      rw [List.length_append] at N9
      refine ⟨⟨k + 1, by go_num, by omega, ?_⟩, by simp [intOf]; omega⟩
      rw [HT.out]
      exact N9
    · have hkX : k = X.length := by omega
      subst hkX
      rw [List.take_of_length_le (Nat.le_refl _)] at hO hcl
      have hall8 : ∀ y ∈ cat 0 X, IsU8 y := cat_u8 HX.out.2.2 0 (by omega)
      have hHI := Lib.hid (And.intro hall8 (fun (l : List (List Int)) (h : X <+: l) => And.intro (cat_mono h) h.length_le))
      have HHX := Lib.hid (fun (b : List Int) (l : List (List Int)) (h : Scn b l) (hb : b.length < 1000000000000) (hp : cat 0 X <+: b) => h.has hb X hp)
      clear hall8
      generalize cat 0 X = all at *
      obtain ⟨ao, co, rfl, _⟩ := hO.form
      have HO := Lib.hid hO
      have hr30 : (rest.take 30).length ≤ 30 := by rw [List.length_take]; omega
      have HR8 := Lib.hid (u8_take HH.out.2.2.2.2.2 30)
      have HFW := Lib.hid (Few_calls (HH.out.2.2.2.2.1.upd (HX.out.2.1.step hO.u) (by simp)) 30 (by omega))
      generalize rest.take 30 = r30 at *
      clear hO
      go_upto_region 12 with (first | (go_at_call 10; refine HFW.out.mono ?_; rintro e w8 ⟨a8, c8, rfl, o8, u8⟩; have H8 := Lib.hid (And.intro o8.sl (HO.out.quiet u8)); clear o8 u8) | (refine wpList_appS rfl _ _ _ rfl 5 1 1 _ Try.underlying23 infoByte rfl (by decide) (.slice ao all.length co) all.length (byts all) rfl H8.out.2.row (.slice a8 r30.length c8) r30.length (byts r30) rfl H8.out.1 (byts_one _) (by unfold maxLen; omega) (by omega) ?_; intro a9 cap9 w9 o9 u9 k9))
      have N9 := app_B H8.out.2 o9 u9 k9
      have hl9 : (all ++ r30).length = all.length + r30.length := List.length_append
      have H9 := Lib.hid N9
      rw [← hl9]
      clear o9 u9 k9 N9 H8 HFW
      have hb8 : ∀ y ∈ all ++ r30, IsU8 y := fun y hy => by
        rcases List.mem_append.1 hy with hy | hy
        · exact hHI.out.1 y hy
        · exact HR8.out y hy
      have hpre : all <+: all ++ r30 := ⟨_, rfl⟩
      have HPR := Lib.hid (And.intro hb8 hpre)
      clear hb8 hpre
      have hl10 : (all ++ r30).length ≤ 2000 := by omega
      have HL9 := Lib.hid hl9
      clear hl9
      generalize all ++ r30 = b at *
      have HS1 := Lib.hid (Scan_calls H9.out.sl HPR.out.1 (by omega) (fun g hg => (H9.out.row.lt g hg).2))
      go_upto_region 13 with (go_at_call 15; refine HS1.out.mono ?_; rintro e w10 ⟨l1, a10, c10, rfl, s10, b10, u10⟩)
      have H10 := Lib.hid (And.intro s10 (And.intro b10 (H9.out.quiet u10)))
      clear s10 b10 u10 HS1
      have HS2 := Lib.hid (ScanR_calls H10.out.2.2.sl HPR.out.1 (by omega) (fun g hg => (H10.out.2.2.row.lt g hg).2))
      go_upto_region 14 with (go_at_call 16; refine HS2.out.mono ?_; rintro e w11 ⟨l2, a11, c11, rfl, s11, b11, u11⟩)
      obtain rfl : l1 = l2 := H10.out.1.uniq s11 (by omega)
      have hpx := HHX.out b l1 s11 (by omega) HPR.out.2
      obtain ⟨hx1, hx2⟩ := hHI.out.2 l1 hpx
      have hx1' : (all.length : Int) ≤ ((cat 0 l1).length : Nat) := by omega
      have hx2' : (X.length : Int) ≤ l1.length := by omega
      have htk : l1.take X.length = X := (List.prefix_iff_eq_take.1 hpx).symm
      have U11 := HX.out.2.1.step ((H10.out.2.2.quiet u11).u)
      have hg11 := H10.out.2.1.upd u11
      obtain ⟨a12, c12, hs12, hjunk⟩ := (BL.take_ hg11 rfl hx2).choose_spec.1.val
      clear hjunk
      have ht12 := BL.take_ hg11 rfl hx2
      rw [hs12, htk] at ht12
      have HB := Lib.hid (And.intro hg11 (And.intro b11 (And.intro ht12 (And.intro (HX.out.1.bl.upd (H10.out.2.2.quiet u11).u) U11))))
      have hx2c : (X.length : Int) ≤ c10 := by
        obtain ⟨a', c', he, hq, _⟩ := hg11.at_
        cases he
        omega
      clear s11 b11 u11 U11 hg11 ht12 H10 HS2 hpx htk
      generalize (cat 0 l1).length = N at *
      go_wp2_with (first | (go_at_call 17; with_reducible refine (SameL_calls HB.out.1 HB.out.2.1).mono ?_; rintro e w12 ⟨rfl, u12⟩) | (go_at_call 17; with_reducible refine (SameL_calls (HB.out.2.2.1.upd u12) (HB.out.2.2.2.1.upd u12)).mono ?_; rintro e w13 ⟨rfl, u13⟩) | (go_at_call 18; refine lives_calls.mono ?_; rintro e w14 ⟨rfl, u14⟩))
      go_ret
      exact ⟨rfl, ((HB.out.2.2.2.2.step u12).step u13).step u14⟩
end
end Jour
end Go.Proofs.Ytfkgpecglcjpkaa
