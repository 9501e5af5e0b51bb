/- Walks through package journal: Open. Conditions: none. -/
import Derived.Test.YtfkgpecglcjpkaaGreatJourM
set_option linter.unusedVariables false
set_option linter.unusedSimpArgs false
set_option linter.unusedSectionVars false
open Go.RowKit
namespace Go.Proofs.YtfkgpecglcjpkaaGreat
open L
namespace Jour
open Wire Hash R01 R02 Disk
attribute [-go_sem] sliced
/-- A slice of byte slices with all its blocks. -/
def PBL (v : Value) (l : List (List Int)) : Pr where
  P w S := (∃ vals, SL w 1 v l.length vals ∧ ∀ (i : Nat) (c : List Int), l[i]? = some c → ∃ y, vals[i]? = some y ∧ SL w 1 y c.length (byts c) ∧ ∀ g, y.ownBlock = some g → g ∈ S) ∧ (∀ g, v.ownBlock = some g → g ∈ S) ∧ ∀ g ∈ S, g < w.heap.size
  upd h hu hT := by
    obtain ⟨⟨vals, h1, h2⟩, h3, h4⟩ := h
    refine ⟨⟨vals, h1.upd hu (fun b hb e => hT b hb (h3 b e)), fun i c hi => ?_⟩, h3, fun g hg => Nat.lt_of_lt_of_le (h4 g hg) hu.size⟩
    obtain ⟨y, h5, h6, h7⟩ := h2 i c hi
    exact ⟨y, h5, h6.upd hu (fun b hb e => hT b hb (h7 b e)), h7⟩
  lt h := h.2.2
section
variable {w0 w w' : World} {ps : List Pr} {p q : Nat} {s : DS} {v : Value} {l : List (List Int)}
theorem pbl_bl {S : List Nat} (h : (PBL v l).P w S) : BL w v l := by
  obtain ⟨⟨vals, h1, h2⟩, _⟩ := h
  exact ⟨vals, h1, fun i c hi => by obtain ⟨y, h3, h4, _⟩ := h2 i c hi; exact ⟨y, h3, h4⟩⟩
theorem Sep.bl (n : Nat) (h : L.Sep w0 ps w) (hn : ps[n]? = some (PBL v l)) : BL w v l := by
  obtain ⟨S, h1, _⟩ := (h.pull n hn).head
  exact pbl_bl h1
/-- A list just made. -/
theorem Sep.list (h : L.Sep w0 ps w) (hu : Upd [] w w') (hb : BO w v l w') : L.Sep w0 (PBL v l :: ps) w' := by
  obtain ⟨vals, h1, h2⟩ := hb.ex
  have mem : ∀ g, w.heap.size ≤ g → g < w'.heap.size → g ∈ (List.range w'.heap.size).filter (fun g => decide (w.heap.size ≤ g)) := fun g h1 h2 => by simp; exact ⟨h2, h1⟩
  refine h.new (S := (List.range w'.heap.size).filter (fun g => decide (w.heap.size ≤ g))) hu ⟨⟨vals, h1.sl, fun i c hi => ?_⟩, fun g hg => mem g (h1.fresh g hg) (h1.lt g hg), fun g hg => by simp at hg; exact hg.1⟩ (fun g hg => by simp at hg; exact hg.2)
  obtain ⟨y, h3, h4⟩ := h2 i c hi
  exact ⟨y, h3, h4.sl, fun g hg => mem g (h4.fresh g hg) (h4.lt g hg)⟩
theorem Sep.trunc (h : L.Sep w0 (PDk p s :: ps) w) {f z : Int} (hf : IsI64 f) (hz : IsI64 z) : Calls Tryz.prog 24 #[.pointer (some ⟨p, 0, none⟩), .int .i64 f, .int .i64 z] w fun e w' => e = .returned (.int .i64 (truncS s f z).1) ∧ L.Sep w0 (PDk p (truncS s f z).2 :: ps) w' := by
  refine (L.Sep.call (p' := PDk p (truncS s f z).2) (Q := fun e _ => e = .returned (.int .i64 (truncS s f z).1)) h fun S hS => (Trunc_calls hS hf hz).mono fun e w' ⟨h1, h2, h3⟩ => ⟨h1, S, h2, h3, fun k hk => .inl hk⟩)
theorem Open_nil (f : Int) : Calls Tryz.prog 7 #[.pointer none, .int .i64 f] w fun e w' => e = .returned (.tuple #[.pointer none, .slice none 0 0, .int .i64 1]) ∧ w = w' := by
  go_enter Tryz.func7, Tryz.ntmps7
  go_wp2_with fail
  exact bodyPost_ret (results_tmp3 rfl _ _ _) rfl ⟨rfl, rfl⟩
/-- What Open hands back. -/
def OpT (w0 : World) (p : Nat) (f : Int) (ps : List Pr) (r : List (List Int) × Int × DS) (e : Ending) (w' : World) : Prop :=
  if r.2.1 = 0 then ∃ (q : Nat) (a : Option Addr) (cap : Nat), e = .returned (.tuple #[.pointer (some ⟨q, 0, none⟩), .slice a r.1.length cap, .int .i64 0]) ∧ L.Sep w0 (PDk p r.2.2 :: PLg q p ⟨f, r.1.length, true⟩ :: PBL (.slice a r.1.length cap) r.1 :: ps) w'
  else e = .returned (.tuple #[.pointer none, .slice none 0 0, .int .i64 r.2.1]) ∧ L.Sep w0 (PDk p r.2.2 :: ps) w'
set_option maxRecDepth 100000 in
set_option maxHeartbeats 4000000 in
theorem Open_calls (h : L.Sep w0 (PDk p s :: ps) w) {f : Int} (hf : IsI64 f) : Calls Tryz.prog 7 #[.pointer (some ⟨p, 0, none⟩), .int .i64 f] w (OpT w0 p f ps (openS s f)) := by
  have HR := Lib.hid (Sep.read h hf)
  have H := Lib.hid (And.intro h hf)
  have hok := Sep.ok h
  clear h hf
  by_cases hn : isF f = false ∨ s.off = true
  · obtain ⟨er, e1, e2, e0⟩ : ∃ er : Int, readS s f = ([], er) ∧ openS s f = ([], er, s) ∧ (er != 0) = true := by
      rcases hn with hn | hn
      · exact ⟨1, by unfold readS; rw [if_pos hn], by unfold openS; rw [if_pos hn], rfl⟩
      · by_cases hi : isF f = false
        · exact ⟨1, by unfold readS; rw [if_pos hi], by unfold openS; rw [if_pos hi], rfl⟩
        · exact ⟨23, by unfold readS; rw [if_neg hi, if_pos hn], by unfold openS; rw [if_neg hi, if_pos hn], rfl⟩
    rw [e1] at HR
    rw [e2]
    clear hn e1 e2 hok
    go_enter Tryz.func7, Tryz.ntmps7
    go_wp2_with (go_at_call 19; refine HR.out.mono ?_; rintro e w1 ⟨v1, rfl, o1, u1⟩)
    refine bodyPost_ret (results_tmp3 rfl _ _ _) rfl ?_
    unfold OpT
    rw [if_neg (by simpa using e0)]
    exact ⟨rfl, H.out.1.quiet u1⟩
  · simp only [not_or, Bool.not_eq_false, Bool.not_eq_true] at hn
    obtain ⟨hi, ho⟩ := hn
    have e1 : readS s f = (s.B f.toNat, 0) := by unfold readS; rw [if_neg (by simp [hi]), if_neg (by simp [ho])]
    have HJ := Lib.hid (show openS s f = _ by unfold openS; rw [if_neg (by simp [hi]), if_neg (by simp [ho])])
    have hC : (cat 0 (scanL (s.B f.toNat))).length < (s.B f.toNat).length ∧ cutS s f = truncS s f ((cat 0 (scanL (s.B f.toNat))).length : Nat) ∨ ¬ (cat 0 (scanL (s.B f.toNat))).length < (s.B f.toNat).length ∧ cutS s f = (0, s) := by
      by_cases hc : (cat 0 (scanL (s.B f.toNat))).length < (s.B f.toNat).length
      · exact .inl ⟨hc, by unfold cutS; rw [if_pos hc]⟩
      · exact .inr ⟨hc, by unfold cutS; rw [if_neg hc]⟩
    rw [e1] at HR
    have h8 := hok.u8 f.toNat
    have hl := hok.len f.toNat
    have H8 := Lib.hid h8
    clear e1 hi ho hok h8
    generalize s.B f.toNat = b at *
    go_enter Tryz.func7, Tryz.ntmps7
    go_upto_region 6 with (go_at_call 19; refine HR.out.mono ?_; rintro e w1 ⟨v1, rfl, o1, u1⟩; obtain ⟨_, a1, c1, rfl, _⟩ := o1.sl)
    have s1 := H.out.1.quiet u1
    have HS := Lib.hid (Scan_callsO o1.sl H8.out (by omega) o1.lt)
    have HS1 := Lib.hid s1
    clear s1 o1 u1 HR
    go_upto_region 7 with (go_at_call 23; refine HS.out.mono ?_; rintro e w2 ⟨l, a2, c2, rfl, hsc, hB, u2⟩)
    obtain rfl : scanL b = l := scanL_eq hsc (by omega)
    have HS2 := Lib.hid (Sep.list HS1.out u2 hB)
    have hsl := scanL_len b
    clear hsc hB u2 HS HS1
    generalize scanL b = l at *
    have hz : IsI64 ((cat 0 l).length : Nat) := ⟨by omega, by omega⟩
    have HT := Lib.hid (Sep.trunc (HS2.out.pull 1 rfl) H.out.2 hz)
    clear hz
    generalize (cat 0 l).length = z at *
    rcases hC with ⟨hc, hcu⟩ | ⟨hc, hcu⟩
    · have hci : (z : Int) < b.length := by omega
      rw [hcu] at HJ
      generalize htr : truncS s f (z : Int) = tr at *
      clear htr hcu hc
      by_cases h0 : tr.1 = 0
      · have HJ2 := Lib.hid (show openS s f = _ by rw [HJ.out, if_neg (by rw [h0]; simp)])
        rw [h0] at HT
        clear HJ h0
        go_upto_region 11 with (go_at_call 24; refine HT.out.mono ?_; rintro e w3 ⟨rfl, s3⟩)
        have HY := Lib.hid (Sep.sync s3)
        generalize hsy : syncS tr.2 = sy at *
        clear hsy
        by_cases hs0 : sy.1 = 0
        · have HJ3 := Lib.hid (show openS s f = (l, 0, sy.2) by rw [HJ2.out, if_neg (by rw [hs0]; simp)])
          rw [hs0] at HY
          clear HJ2 hs0
          go_upto_region 14 with (go_at_call 25; refine HY.out.mono ?_; rintro e w5 ⟨rfl, s5⟩)
          have s6 := Sep.alloc s5 (lgC p ⟨f, l.length, true⟩) 59
          have HS6 := Lib.hid s6
          clear s5 s6
          go_wp2_with fail
          refine bodyPost_ret (results_tmp3 rfl _ _ _) rfl ?_
          rw [HJ3.out]
          unfold OpT
          rw [if_pos rfl]
          exact ⟨w5.heap.size, a2, c2, rfl, HS6.out.pull 1 rfl⟩
        · have HJ3 := Lib.hid (show openS s f = ([], sy.1, sy.2) by rw [HJ2.out, if_pos hs0])
          have hb0 : (sy.1 != 0) = true := by simpa using hs0
          have H0 := Lib.hid hs0
          clear HJ2 hs0
          go_wp2_with (go_at_call 25; refine HY.out.mono ?_; rintro e w5 ⟨rfl, s5⟩)
          refine bodyPost_ret (results_tmp3 rfl _ _ _) rfl ?_
          rw [HJ3.out]
          unfold OpT
          rw [if_neg H0.out]
          exact ⟨rfl, (s5.pull 1 rfl).drop⟩
      · have HJ3 := Lib.hid (show openS s f = ([], tr.1, tr.2) by rw [HJ.out, if_pos h0])
        have hb0 : (tr.1 != 0) = true := by simpa using h0
        have H0 := Lib.hid h0
        clear HJ h0
        go_wp2_with (go_at_call 24; refine HT.out.mono ?_; rintro e w3 ⟨rfl, s3⟩)
        refine bodyPost_ret (results_tmp3 rfl _ _ _) rfl ?_
        rw [HJ3.out]
        unfold OpT
        rw [if_neg H0.out]
        exact ⟨rfl, (s3.pull 1 rfl).drop⟩
    · have hci : ¬ (z : Int) < b.length := by omega
      have HJ2 := Lib.hid (show openS s f = _ by rw [HJ.out, hcu, if_neg (by simp)])
      clear HT hcu hc HJ
      have HY := Lib.hid (Sep.sync (HS2.out.pull 1 rfl))
      generalize hsy : syncS s = sy at HJ2 HY ⊢
      clear hsy
      by_cases hs0 : sy.1 = 0
      · have HJ3 := Lib.hid (show openS s f = (l, 0, sy.2) by rw [HJ2.out, if_neg (by rw [hs0]; simp)])
        rw [hs0] at HY
        clear HJ2 hs0
        go_upto_region 14 with (go_at_call 25; refine HY.out.mono ?_; rintro e w5 ⟨rfl, s5⟩)
        have s6 := Sep.alloc s5 (lgC p ⟨f, l.length, true⟩) 59
        have HS6 := Lib.hid s6
        clear s5 s6
        go_wp2_with fail
        refine bodyPost_ret (results_tmp3 rfl _ _ _) rfl ?_
        rw [HJ3.out]
        unfold OpT
        rw [if_pos rfl]
        exact ⟨w5.heap.size, a2, c2, rfl, HS6.out.pull 1 rfl⟩
      · have HJ3 := Lib.hid (show openS s f = ([], sy.1, sy.2) by rw [HJ2.out, if_pos hs0])
        have hb0 : (sy.1 != 0) = true := by simpa using hs0
        have H0 := Lib.hid hs0
        clear HJ2 hs0
        go_wp2_with (go_at_call 25; refine HY.out.mono ?_; rintro e w5 ⟨rfl, s5⟩)
        refine bodyPost_ret (results_tmp3 rfl _ _ _) rfl ?_
        rw [HJ3.out]
        unfold OpT
        rw [if_neg H0.out]
        exact ⟨rfl, (s5.pull 1 rfl).drop⟩
end
end Jour
end Go.Proofs.YtfkgpecglcjpkaaGreat
