/- The law JournalRuns: its walk. Conditions: none. -/
import Derived.Test.YtfkgpecglcjpkaaGreatJourX
set_option linter.unusedVariables false
set_option linter.unusedSimpArgs false
set_option linter.unusedSectionVars false
open Go.RowKit
namespace Go.Proofs.YtfkgpecglcjpkaaGreat
open L
namespace Jour
open Wire Hash R01 R02 Disk
attribute [-go_sem] sliced
theorem Sep.only2 {w0 w : World} {a b : Pr} {ps : List Pr} (h : L.Sep w0 (a :: b :: ps) w) : L.Sep w0 [a, b] w := by
  obtain ⟨l, h1, h2, h3⟩ := h.ex
  obtain ⟨x, m, rfl, rfl, h5⟩ := List.map_eq_cons_iff.1 h1
  obtain ⟨y, n, rfl, rfl, h6⟩ := List.map_eq_cons_iff.1 h5
  exact ⟨⟨[x, y], rfl, h2.sublist (by simp), fun z hz => h3 z (by simp at hz ⊢; rcases hz with h | h <;> simp [h])⟩, h.u⟩
theorem sepi {w0 w w' : World} {ps : List Pr} {bs : List Int} (h : L.Sep w0 ps w) (hu : Upd [] w w') (hb : Blk w' w.heap.size (ints bs) 3) (hl : bs.length ≤ 1000) : L.Sep w0 (PSL 1 (.slice (some ⟨w.heap.size, 0, none⟩) bs.length bs.length) bs.length (ints bs) :: ps) w' := sep_ints h hu hb hl
theorem scan_bound {s : DS} (h : s.Ok) (i : Nat) : (scanL (s.B i)).length ≤ 16777216 := by
  have h1 := scanL_len (s.B i)
  have h2 := cat_len 0 (scanL (s.B i))
  have h3 := h.len i
  omega
theorem openS_len {s : DS} (h : s.Ok) (f : Nat) : (openS s (f : Int)).1.length ≤ 16777216 := by
  have h1 := scan_bound h f
  unfold openS
  split
  · simp
  · split
    · simp
    · split
      · simp
      · split
        · simp
        · rw [Int.toNat_natCast]; exact h1
theorem japp_log (s : DS) (l : LS) (b : List Int) : (jappS s l b).2.1.file = l.file ∧ (jappS s l b).2.1.n ≤ l.n + 1 := by
  unfold jappS
  split
  · exact ⟨rfl, Nat.le_succ _⟩
  · split
    · exact ⟨rfl, Nat.le_succ _⟩
    · split
      · exact ⟨rfl, Nat.le_succ _⟩
      · split
        · exact ⟨rfl, Nat.le_succ _⟩
        · exact ⟨rfl, Nat.le_refl _⟩
theorem bl_nil (w : World) : BL w (.slice none 0 0) [] := ⟨[], SL.of_owns (World.ownsRow_nil w 0 39 1), by simp⟩
theorem read_on {s : DS} (h : s.off = false) : readS s 2 = (s.B 2, 0) := by unfold readS; rw [if_neg (by decide), if_neg (by simp [h])]; rfl
theorem read_off {s : DS} (h : s.off = true) : readS s 2 = ([], 23) := by unfold readS; rw [if_neg (by decide), if_pos h]
/-- What the loop of JournalRuns holds. -/
def JrT (w : World) (p m : Nat) (lp np e f : Value) (k : Nat) (W : World) : Prop :=
  ∃ (s : DS) (er : Int), e = .int .i64 er ∧ f = .int .i64 er ∧ ((lp = .pointer none ∧ np = .pointer none ∧ L.Sep w [PDk p s, PRD m s] W) ∨
    ∃ (q r n : Nat) (up : Bool), lp = .pointer (some ⟨q, 0, none⟩) ∧ np = .pointer (some ⟨r, 0, none⟩) ∧ n ≤ 16777216 + k ∧ L.Sep w [PDk p s, PRD m s, PLg q p ⟨2, n, up⟩, PRL r m ⟨2, n, up⟩] W)
theorem JrT.quiet {w W W' : World} {p m k : Nat} {lp np e f : Value} (h : JrT w p m lp np e f k W) (u : Upd [] W W') : JrT w p m lp np e f k W' := by
  obtain ⟨s, er, h1, h2, h3⟩ := h
  rcases h3 with ⟨h3, h4, h5⟩ | ⟨q, r, n, up, h3, h4, h5, h6⟩
  · exact ⟨s, er, h1, h2, .inl ⟨h3, h4, h5.quiet u⟩⟩
  · exact ⟨s, er, h1, h2, .inr ⟨q, r, n, up, h3, h4, h5, h6.quiet u⟩⟩
/-- The disks alone. -/
theorem JrT.disks {w W : World} {p m k : Nat} {lp np e f : Value} (h : JrT w p m lp np e f k W) : ∃ (s : DS) (ps : List Pr), L.Sep w (PDk p s :: PRD m s :: ps) W := by
  obtain ⟨s, er, h1, h2, h3⟩ := h
  rcases h3 with ⟨h3, h4, h5⟩ | ⟨q, r, n, up, h3, h4, h5, h6⟩
  · exact ⟨s, _, h5⟩
  · exact ⟨s, _, h6⟩
/-- Both logs behind their last operations. -/
theorem JrT.both {w W : World} {p m q r : Nat} {s : DS} {n : Nat} {up : Bool} {ps : List Pr} (k : Nat) (er : Int) (h : L.Sep w (PRD m s :: PRL r m ⟨2, n, up⟩ :: PDk p s :: PLg q p ⟨2, n, up⟩ :: ps) W) (hl : n ≤ 16777216 + k) :
    JrT w p m (.pointer (some ⟨q, 0, none⟩)) (.pointer (some ⟨r, 0, none⟩)) (.int .i64 er) (.int .i64 er) k W := by
  refine ⟨s, er, rfl, rfl, .inr ⟨q, r, n, up, rfl, rfl, hl, ?_⟩⟩
  have h1 : L.Sep w (PRL r m ⟨2, n, up⟩ :: PLg q p ⟨2, n, up⟩ :: PRD m s :: PDk p s :: ps) W := ((h.pull 1 rfl).pull 3 rfl).pull 1 rfl
  have h2 : L.Sep w (PDk p s :: PRD m s :: PLg q p ⟨2, n, up⟩ :: PRL r m ⟨2, n, up⟩ :: ps) W := (((h1.pull 1 rfl).pull 2 rfl).pull 3 rfl)
  obtain ⟨L, e1, e2, e3⟩ := h2.ex
  refine ⟨⟨L.take 4, by rw [List.map_take, e1]; rfl, e2.sublist (List.take_sublist _ _), fun x hx => e3 x (List.mem_of_mem_take hx)⟩, h2.u⟩
/-- Both logs behind two openings that went well. -/
theorem JrT.opened {w W : World} {p m q r : Nat} {s : DS} {l : List (List Int)} {ps : List Pr} (k : Nat) (h : L.Sep w (PRD m s :: PRL r m ⟨2, l.length, true⟩ :: PDk p s :: PLg q p ⟨2, l.length, true⟩ :: ps) W) (hl : l.length ≤ 16777216) :
    JrT w p m (.pointer (some ⟨q, 0, none⟩)) (.pointer (some ⟨r, 0, none⟩)) (.int .i64 0) (.int .i64 0) k W := JrT.both k 0 h (by omega)
section
variable {w w' : World}
set_option maxRecDepth 100000 in
set_option maxHeartbeats 16000000 in
theorem JournalRuns_calls {v1 : Value} {room : Int} {ops : List Int} (hr : IsI64 room) (h1 : SL w 1 v1 ops.length (ints ops)) (hi : ∀ x ∈ ops, IsI64 x) :
    Calls Tryz.prog 3 #[.int .i64 room, v1] w fun e w' => e = .returned (.bool true) ∧ Upd [] w w' := by
  obtain ⟨a1, c1, rfl, hq1, hr1, hc1⟩ := SL.form h1
  have HH := Lib.hid (And.intro hc1 (And.intro h1 hi))
  have m0 := around_lo (n := room) (k := 200) (by omega)
  have m1 := around_hi (n := room) (k := 200) (by omega)
  have HA := Lib.hid (Around_calls room 200 w hr (by omega) (by omega))
  clear h1 hi hr hc1
  generalize around room 200 = kz at *
  obtain ⟨R0, rfl⟩ := Int.eq_ofNat_of_zero_le m0
  obtain ⟨R, hR⟩ : ∃ R : Nat, R = 40 + R0 := ⟨_, rfl⟩
  have hRi : (40 : Int) + (R0 : Int) = (R : Int) := by omega
  have hR300 : R ≤ 300 := by omega
  have HRI := Lib.hid hRi
  have HF := Lib.hid (fresh_calls (w := w) (room := R) (by omega))
  clear hR hRi
  go_enter Tryz.func3, Tryz.ntmps3
  go_upto_region 2 with (go_at_call 4; refine HA.out.mono ?_; rintro e _ ⟨rfl, rfl⟩)
  rw [HRI.out]
  clear HA m0 m1
  go_upto_region 5 with (go_at_call 5; refine HF.out.mono ?_; rintro e w1 ⟨p, rfl, s1⟩)
  have HS1 := Lib.hid s1
  have HN := Lib.hid (RNew_calls (w := w1) (room := R) (by omega))
  clear s1 HF
  go_upto_region 6 with (go_at_call 6; refine HN.out.mono ?_; rintro e w2 ⟨m, S, rfl, hd, u2, hn⟩)
  have s2 := (HS1.out.new (p := PRD m (newS R)) u2 hd hn).pull 1 rfl
  have HO := Open_calls s2 (f := 2) ⟨by omega, by omega⟩
  rw [show openS (firmP R (fun _ => []) (-1)) 2 = _ from open_new R 2 (by omega)] at HO
  unfold OpT at HO
  simp only [if_pos] at HO
  have HO := Lib.hid HO
  clear s2 hd u2 hn HN HS1
  go_upto_region 7 with (go_at_call 7; refine HO.out.mono ?_; rintro e w3 ⟨q, ax, cx, rfl, s3⟩)
  have HO2 := ROpen_calls (s3.pull 3 rfl) (i := 2) (by omega)
  rw [newS_firm, show openS (firmP R (fun _ => []) (-1)) ((2 : Nat) : Int) = _ from open_new R 2 (by omega)] at HO2
  unfold ROpT at HO2
  simp only [if_pos] at HO2
  have HO2 := Lib.hid HO2
  clear s3 HO
  go_upto_region 8 with (go_at_call 8; refine HO2.out.mono ?_; rintro e w4 ⟨r, ay, cy, rfl, s4, _⟩)
  have HT := Lib.hid (JrT.opened (l := []) 0 s4 (by simp))
  clear s4 HO2
  go_wp2_with fail
  go_loopw [8, 11, 10, 13, 14] (fun lp np e f i wr => ∃ k : Nat, i = .int .i64 k ∧ k ≤ 14 ∧ JrT w p m lp np e f k wr) (fun _ _ _ _ i _ => 14 - (intOf i).toNat)
  case atStart => exact ⟨0, rfl, Nat.zero_le _, HT.out⟩
  case round => as_aux_lemma =>
    obtain ⟨wo, rfl⟩ : ∃ wo : World, wo = wr := ⟨_, rfl⟩
    obtain ⟨k, rfl, hk, hT⟩ := hrel
    clear HT
    by_cases hlt : k < ops.length ∧ k < 14
    · obtain ⟨hlt1, hlt2⟩ := hlt
      have hl1 : (k : Int) < ops.length := by omega
      have hl2 : (k : Int) < 14 := by omega
      have hq : (ops.length : Int) ≤ c1 := by omega
      have hwu : Upd [] w wo := by obtain ⟨_, _, h⟩ := hT.disks; exact h.u
      obtain ⟨g, off, rfl, hcc⟩ := HH.out.1 (by omega)
      have d0 := hwu.some (hcc k _ (ints_get (List.getElem?_eq_getElem hlt1))) (by simp)
      have hx := HH.out.2.2 _ (List.getElem_mem hlt1)
      generalize ops[k] = y at *
      have HX := Lib.hid (fun w : World => Around_calls (wrap64 (y.tdiv 8)) 1048576 w (isI64_wrap _) (by omega) (by omega))
      have n0 := around_lo (n := wrap64 (y.tdiv 8)) (k := 1048576) (by omega)
      have n1 := around_hi (n := wrap64 (y.tdiv 8)) (k := 1048576) (by omega)
      have HC := Lib.hid (fun w : World => Around_calls y 8 w hx (by omega) (by omega))
      have k0 := around_lo (n := y) (k := 8) (by omega)
      have k1 := around_hi (n := y) (k := 8) (by omega)
      generalize around (wrap64 (y.tdiv 8)) 1048576 = x at *
      generalize around y 8 = c at *
      clear hcc hwu hlt1 hlt2 hx
      obtain ⟨s, er, rfl, rfl, hcase⟩ := hT
      rcases hcase with ⟨rfl, rfl, hS⟩ | ⟨q1, r1, n, up, rfl, rfl, hn, hS⟩
      · have HB := Lib.hid (fun (s' : DS) (W : World) (h : L.Sep w [PDk p s', PRD m s'] W) => show JrT w p m (.pointer none) (.pointer none) (.int .i64 er) (.int .i64 er) (k + 1) W from ⟨s', er, rfl, rfl, .inl ⟨rfl, rfl, h⟩⟩)
        have HS := Lib.hid hS
        clear hS
        go_upto_block 2 with (first
          | (go_at_call 4; (with_reducible refine (HX.out _).mono ?_); rintro e _ ⟨rfl, rfl⟩)
          | (go_at_call 4; (with_reducible refine (HC.out _).mono ?_); rintro e _ ⟨rfl, rfl⟩))
        clear d0 HX HC
        go_cut [8, 10, 11, 13] (fun lp e np f w' => JrT w p m lp np e f (k + 1) w')
        case first => as_aux_lemma =>
          by_cases hc0 : c = 0
          · subst hc0
            have HA := Lib.hid (Sep.arm HS.out (n := x % 5) ⟨by omega, by omega⟩)
            go_wp2_with (first
              | (go_at_call 9; refine HA.out.mono ?_; rintro e w5 ⟨rfl, s5⟩; have HB2 := Lib.hid (Sep.rarm (s5.pull 1 rfl) (n := x % 5) ⟨by omega, by omega⟩); clear s5)
              | (go_at_call 10; refine HB2.out.mono ?_; rintro e w6 ⟨rfl, s6⟩; have HS6 := Lib.hid (s6.pull 1 rfl); clear s6))
            go_meet
            exact HB.out _ _ HS6.out
          · have hb0 : (c == 0) = false := by simpa using hc0
            by_cases hc12 : c = 1 ∨ c = 2
            · have HD := Lib.hid (Sep.only2 HS.out)
              rcases hc12 with rfl | rfl
              all_goals
                go_upto_region 25 with fail
                have s8 := sep_ints HD.out ((Upd.refl [] wo).alloc (.cells #[.int .i64 (x % 30)] 3)) (show Blk _ _ (ints [x % 30]) 3 from Blk.new wo [.int .i64 (x % 30)] 3) (by simp)
                have HCR := Lib.hid (Sep.crash (n := 0) (s8.pull 1 rfl) (fp := x / 30 % 300 - 100) (by intro z hz; simp at hz; subst hz; exact ⟨by omega, by omega⟩) ⟨by omega, by omega⟩)
                clear s8
                go_upto_region 26 with (go_at_call 11; refine HCR.out.mono ?_; rintro e w5 ⟨rfl, s5⟩)
                have HCR2 := Lib.hid (Sep.rcrash ((s5.pull 1 rfl).pull 2 rfl) (fp := x / 30 % 300 - 100) (by intro z hz; simp at hz; subst hz; exact ⟨by omega, by omega⟩) ⟨by omega, by omega⟩)
                clear s5 HCR
                go_upto_region 27 with (go_at_call 12; refine HCR2.out.mono ?_; rintro e w6 ⟨rfl, s6⟩)
                have s7 : L.Sep w [PDk p (crashS s [x % 30] (x / 30 % 300 - 100)), PRD m (crashS s [x % 30] (x / 30 % 300 - 100))] w6 := (s6.pull 1 rfl).drop.pull 1 rfl
                have hok := Sep.ok s7
                have hco : ∃ B : Nat → List Int, crashS s [x % 30] (x / 30 % 300 - 100) = firmP s.room B (-1) := ⟨_, crashS_firm _ _ _⟩
                obtain ⟨B, hB⟩ := hco
                rw [hB] at s7 hok
                have hbd := scan_bound hok 2
                have hop := open_firm (room := s.room) (B := B) (f := 2) (by omega)
                obtain ⟨L, hL⟩ : ∃ L : List (List Int), L = scanL (B 2) := ⟨_, rfl⟩
                obtain ⟨t, ht⟩ : ∃ t : DS, t = firmP s.room (setB B 2 (cat 0 (scanL (B 2)))) (-1) := ⟨_, rfl⟩
                rw [← ht, ← hL] at hop
                rw [show (firmP s.room B (-1)).B 2 = B 2 from rfl, ← hL] at hbd
                generalize firmP s.room B (-1) = s' at *
                have HO := Open_calls s7 (f := 2) ⟨by omega, by omega⟩
                rw [show openS s' 2 = _ from hop] at HO
                unfold OpT at HO
                simp only [if_pos] at HO
                have HO := Lib.hid HO
                have HOP := Lib.hid hop
                clear s6 s7 hok hB hL ht hop HCR2
                go_upto_region 28 with (go_at_call 7; refine HO.out.mono ?_; rintro e w7 ⟨q2, a5, c5, rfl, s8⟩)
                have HO2 := ROpen_calls (s8.pull 3 rfl) (i := 2) (by omega)
                rw [HOP.out] at HO2
                unfold ROpT at HO2
                simp only [if_pos] at HO2
                have HO2 := Lib.hid HO2
                clear s8 HO
                go_wp2_with (go_at_call 8; refine HO2.out.mono ?_; rintro e w8 ⟨r2, a6, c6, rfl, s9, _⟩; have HS9 := Lib.hid s9; clear s9)
                go_meet
                exact JrT.opened (k + 1) HS9.out hbd
            · by_cases hc3 : c = 3
              · subst hc3
                have HD := Sep.only2 HS.out
                have hbd := openS_len (Sep.ok HD) 2
                rw [show openS s ((2 : Nat) : Int) = openS s 2 from rfl] at hbd
                by_cases hr0 : (openS s 2).2.1 = 0
                · have HO := Open_calls HD (f := 2) ⟨by omega, by omega⟩
                  have hop : ∃ (L : List (List Int)) (t : DS), openS s 2 = (L, 0, t) ∧ L.length ≤ 16777216 := ⟨(openS s 2).1, (openS s 2).2.2, Prod.ext rfl (Prod.ext hr0 rfl), hbd⟩
                  obtain ⟨L, t, hop, hbL⟩ := hop
                  rw [hop] at HO
                  unfold OpT at HO
                  simp only [if_pos] at HO
                  have HO := Lib.hid HO
                  have HOP := Lib.hid hop
                  clear HD hop hbd hr0
                  go_upto_region 33 with (go_at_call 7; refine HO.out.mono ?_; rintro e w7 ⟨q2, a5, c5, rfl, s8⟩)
                  have HO2 := ROpen_calls (s8.pull 3 rfl) (i := 2) (by omega)
                  rw [show openS s ((2 : Nat) : Int) = _ from HOP.out] at HO2
                  unfold ROpT at HO2
                  simp only [if_pos] at HO2
                  have HO2 := Lib.hid HO2
                  clear s8 HO
                  go_upto_region 34 with (go_at_call 8; refine HO2.out.mono ?_; rintro e w8 ⟨r2, a6, c6, rfl, s9, b9⟩)
                  have HSL := SameL_calls (Sep.bl 4 s9 rfl) b9
                  rw [decide_eq_true rfl] at HSL
                  have HSL := Lib.hid HSL
                  have HS9 := Lib.hid s9
                  clear s9 b9 HO2
                  go_wp2_with (go_at_call 13; refine HSL.out.mono ?_; rintro e w9 ⟨rfl, u9⟩; have HU9 := Lib.hid u9; clear u9)
                  go_meet
                  exact JrT.opened (k + 1) (HS9.out.quiet HU9.out) hbL
                · have HO := Open_calls HD (f := 2) ⟨by omega, by omega⟩
                  have hop : ∃ (L : List (List Int)) (e : Int) (t : DS), openS s 2 = (L, e, t) ∧ e ≠ 0 := ⟨(openS s 2).1, (openS s 2).2.1, (openS s 2).2.2, rfl, hr0⟩
                  obtain ⟨L, er2, t, hop, her2⟩ := hop
                  rw [hop] at HO
                  unfold OpT at HO
                  simp only [her2, if_false] at HO
                  have HO := Lib.hid HO
                  have HOP := Lib.hid (And.intro hop her2)
                  clear HD hop hbd hr0 her2
                  go_upto_region 33 with (go_at_call 7; refine HO.out.mono ?_; rintro e w7 ⟨rfl, s8⟩)
                  have HO2 := ROpen_calls (s8.pull 1 rfl) (i := 2) (by omega)
                  rw [show openS s ((2 : Nat) : Int) = _ from HOP.out.1] at HO2
                  unfold ROpT at HO2
                  simp only [HOP.out.2, if_false] at HO2
                  have HO2 := Lib.hid HO2
                  clear s8 HO
                  go_upto_region 34 with (go_at_call 8; refine HO2.out.mono ?_; rintro e w8 ⟨rfl, s9⟩)
                  have HSL := SameL_calls (bl_nil w8) (bl_nil w8)
                  rw [decide_eq_true rfl] at HSL
                  have HSL := Lib.hid HSL
                  have HS9 := Lib.hid (s9.pull 1 rfl)
                  clear s9 HO2
                  go_wp2_with (go_at_call 13; refine HSL.out.mono ?_; rintro e w9 ⟨rfl, u9⟩; have HU9 := Lib.hid u9; clear u9)
                  go_meet
                  exact ⟨t, er2, rfl, rfl, .inl ⟨rfl, rfl, HS9.out.quiet HU9.out⟩⟩
              · have hb1 : (c == 1) = false := by simp; omega
                have hb2 : (c == 2) = false := by simp; omega
                have hb3 : (c == 3) = false := by simpa using hc3
                clear hc0 hc12 hc3
                go_wp2_with fail
                go_roundw
                case rel => exact ⟨k + 1, by go_num, by omega, HB.out _ _ HS.out⟩
                case measure => simp [intOf]; omega
        case rest => as_aux_lemma =>
          obtain ⟨s, ps, hS⟩ := hcut.disks
          have HT := Lib.hid hcut
          have HR := Sep.read hS (f := 2) ⟨by omega, by omega⟩
          obtain ⟨S, hd, _⟩ := (hS.pull 1 rfl).head
          obtain ⟨bB, aB, cB, e1, e2, sl3, _, e3⟩ := RDk.at_ hd (i := 2) (by omega)
          clear hd hS hcut
          cases hoff : s.off
          · rw [read_on hoff] at HR
            have HR := Lib.hid HR
            rw [hoff] at e3
            have hlB := sl3
            have HSL := Lib.hid sl3
            clear hoff hlB sl3
            generalize s.B 2 = bs at *
            go_upto_region 37 with (go_at_call 19; refine HR.out.mono ?_; rintro e w5 ⟨v5, rfl, o5, u5⟩; obtain ⟨_, a5, c5, rfl, _⟩ := o5.sl)
            have f1 := u5.some e1 (by simp)
            have f2 := u5.some e2 (by simp)
            have f3 := u5.some e3 (by simp)
            have HSB := SameBytes_calls o5.sl (HSL.out.upd u5 (by simp))
            rw [decide_eq_true rfl] at HSB
            have HSB := Lib.hid HSB
            have HU5 := Lib.hid u5
            clear e1 e2 e3 o5 u5 HR
            have HF3 := Lib.hid (fun (W : World) (u : Upd [] w5 W) => u.some f3 (by simp))
            go_wp2_with (go_at_call 20; refine HSB.out.mono ?_; rintro e w6 ⟨rfl, u6⟩; have g3 := HF3.out _ u6; have HU6 := Lib.hid u6; clear u6)
            go_roundw
            case rel => exact ⟨k + 1, by go_num, by omega, HT.out.quiet (HU5.out.step HU6.out)⟩
            case measure => simp [intOf]; omega
          · rw [read_off hoff] at HR
            have HR := Lib.hid HR
            rw [hoff] at e3
            clear hoff sl3
            go_upto_region 37 with (go_at_call 19; refine HR.out.mono ?_; rintro e w5 ⟨v5, rfl, o5, u5⟩; obtain ⟨_, a5, c5, rfl, _⟩ := o5.sl)
            have f3 := u5.some e3 (by simp)
            have HU5 := Lib.hid u5
            clear e1 e2 e3 o5 u5 HR
            go_wp2_with fail
            go_roundw
            case rel => exact ⟨k + 1, by go_num, by omega, HT.out.quiet HU5.out⟩
            case measure => simp [intOf]; omega
      · have HB := Lib.hid (fun (s' : DS) (W : World) (h : L.Sep w [PDk p s', PRD m s', PLg q1 p ⟨2, n, up⟩, PRL r1 m ⟨2, n, up⟩] W) => show JrT w p m (.pointer (some ⟨q1, 0, none⟩)) (.pointer (some ⟨r1, 0, none⟩)) (.int .i64 er) (.int .i64 er) (k + 1) W from ⟨s', er, rfl, rfl, .inr ⟨q1, r1, n, up, rfl, rfl, by omega, h⟩⟩)
        have HS := Lib.hid hS
        clear hS
        go_upto_block 2 with (first
          | (go_at_call 4; (with_reducible refine (HX.out _).mono ?_); rintro e _ ⟨rfl, rfl⟩)
          | (go_at_call 4; (with_reducible refine (HC.out _).mono ?_); rintro e _ ⟨rfl, rfl⟩))
        clear d0 HX HC
        go_cut [8, 10, 11, 13] (fun lp e np f w' => JrT w p m lp np e f (k + 1) w')
        case first => as_aux_lemma =>
          by_cases hc0 : c = 0
          · subst hc0
            have HA := Lib.hid (Sep.arm HS.out (n := x % 5) ⟨by omega, by omega⟩)
            go_wp2_with (first
              | (go_at_call 9; refine HA.out.mono ?_; rintro e w5 ⟨rfl, s5⟩; have HB2 := Lib.hid (Sep.rarm (s5.pull 1 rfl) (n := x % 5) ⟨by omega, by omega⟩); clear s5)
              | (go_at_call 10; refine HB2.out.mono ?_; rintro e w6 ⟨rfl, s6⟩; have HS6 := Lib.hid (s6.pull 1 rfl); clear s6))
            go_meet
            exact HB.out _ _ HS6.out
          · have hb0 : (c == 0) = false := by simpa using hc0
            by_cases hc12 : c = 1 ∨ c = 2
            · have HD := Lib.hid (Sep.only2 HS.out)
              rcases hc12 with rfl | rfl
              all_goals
                go_upto_region 25 with fail
                have s8 := sep_ints HD.out ((Upd.refl [] wo).alloc (.cells #[.int .i64 (x % 30)] 3)) (show Blk _ _ (ints [x % 30]) 3 from Blk.new wo [.int .i64 (x % 30)] 3) (by simp)
                have HCR := Lib.hid (Sep.crash (n := 0) (s8.pull 1 rfl) (fp := x / 30 % 300 - 100) (by intro z hz; simp at hz; subst hz; exact ⟨by omega, by omega⟩) ⟨by omega, by omega⟩)
                clear s8
                go_upto_region 26 with (go_at_call 11; refine HCR.out.mono ?_; rintro e w5 ⟨rfl, s5⟩)
                have HCR2 := Lib.hid (Sep.rcrash ((s5.pull 1 rfl).pull 2 rfl) (fp := x / 30 % 300 - 100) (by intro z hz; simp at hz; subst hz; exact ⟨by omega, by omega⟩) ⟨by omega, by omega⟩)
                clear s5 HCR
                go_upto_region 27 with (go_at_call 12; refine HCR2.out.mono ?_; rintro e w6 ⟨rfl, s6⟩)
                have s7 : L.Sep w [PDk p (crashS s [x % 30] (x / 30 % 300 - 100)), PRD m (crashS s [x % 30] (x / 30 % 300 - 100))] w6 := (s6.pull 1 rfl).drop.pull 1 rfl
                have hok := Sep.ok s7
                have hco : ∃ B : Nat → List Int, crashS s [x % 30] (x / 30 % 300 - 100) = firmP s.room B (-1) := ⟨_, crashS_firm _ _ _⟩
                obtain ⟨B, hB⟩ := hco
                rw [hB] at s7 hok
                have hbd := scan_bound hok 2
                have hop := open_firm (room := s.room) (B := B) (f := 2) (by omega)
                obtain ⟨L, hL⟩ : ∃ L : List (List Int), L = scanL (B 2) := ⟨_, rfl⟩
                obtain ⟨t, ht⟩ : ∃ t : DS, t = firmP s.room (setB B 2 (cat 0 (scanL (B 2)))) (-1) := ⟨_, rfl⟩
                rw [← ht, ← hL] at hop
                rw [show (firmP s.room B (-1)).B 2 = B 2 from rfl, ← hL] at hbd
                generalize firmP s.room B (-1) = s' at *
                have HO := Open_calls s7 (f := 2) ⟨by omega, by omega⟩
                rw [show openS s' 2 = _ from hop] at HO
                unfold OpT at HO
                simp only [if_pos] at HO
                have HO := Lib.hid HO
                have HOP := Lib.hid hop
                clear s6 s7 hok hB hL ht hop HCR2
                go_upto_region 28 with (go_at_call 7; refine HO.out.mono ?_; rintro e w7 ⟨q2, a5, c5, rfl, s8⟩)
                have HO2 := ROpen_calls (s8.pull 3 rfl) (i := 2) (by omega)
                rw [HOP.out] at HO2
                unfold ROpT at HO2
                simp only [if_pos] at HO2
                have HO2 := Lib.hid HO2
                clear s8 HO
                go_wp2_with (go_at_call 8; refine HO2.out.mono ?_; rintro e w8 ⟨r2, a6, c6, rfl, s9, _⟩; have HS9 := Lib.hid s9; clear s9)
                go_meet
                exact JrT.opened (k + 1) HS9.out hbd
            · by_cases hc3 : c = 3
              · subst hc3
                have HD := Sep.only2 HS.out
                have hbd := openS_len (Sep.ok HD) 2
                rw [show openS s ((2 : Nat) : Int) = openS s 2 from rfl] at hbd
                by_cases hr0 : (openS s 2).2.1 = 0
                · have HO := Open_calls HD (f := 2) ⟨by omega, by omega⟩
                  have hop : ∃ (L : List (List Int)) (t : DS), openS s 2 = (L, 0, t) ∧ L.length ≤ 16777216 := ⟨(openS s 2).1, (openS s 2).2.2, Prod.ext rfl (Prod.ext hr0 rfl), hbd⟩
                  obtain ⟨L, t, hop, hbL⟩ := hop
                  rw [hop] at HO
                  unfold OpT at HO
                  simp only [if_pos] at HO
                  have HO := Lib.hid HO
                  have HOP := Lib.hid hop
                  clear HD hop hbd hr0
                  go_upto_region 33 with (go_at_call 7; refine HO.out.mono ?_; rintro e w7 ⟨q2, a5, c5, rfl, s8⟩)
                  have HO2 := ROpen_calls (s8.pull 3 rfl) (i := 2) (by omega)
                  rw [show openS s ((2 : Nat) : Int) = _ from HOP.out] at HO2
                  unfold ROpT at HO2
                  simp only [if_pos] at HO2
                  have HO2 := Lib.hid HO2
                  clear s8 HO
                  go_upto_region 34 with (go_at_call 8; refine HO2.out.mono ?_; rintro e w8 ⟨r2, a6, c6, rfl, s9, b9⟩)
                  have HSL := SameL_calls (Sep.bl 4 s9 rfl) b9
                  rw [decide_eq_true rfl] at HSL
                  have HSL := Lib.hid HSL
                  have HS9 := Lib.hid s9
                  clear s9 b9 HO2
                  go_wp2_with (go_at_call 13; refine HSL.out.mono ?_; rintro e w9 ⟨rfl, u9⟩; have HU9 := Lib.hid u9; clear u9)
                  go_meet
                  exact JrT.opened (k + 1) (HS9.out.quiet HU9.out) hbL
                · have HO := Open_calls HD (f := 2) ⟨by omega, by omega⟩
                  have hop : ∃ (L : List (List Int)) (e : Int) (t : DS), openS s 2 = (L, e, t) ∧ e ≠ 0 := ⟨(openS s 2).1, (openS s 2).2.1, (openS s 2).2.2, rfl, hr0⟩
                  obtain ⟨L, er2, t, hop, her2⟩ := hop
                  rw [hop] at HO
                  unfold OpT at HO
                  simp only [her2, if_false] at HO
                  have HO := Lib.hid HO
                  have HOP := Lib.hid (And.intro hop her2)
                  clear HD hop hbd hr0 her2
                  go_upto_region 33 with (go_at_call 7; refine HO.out.mono ?_; rintro e w7 ⟨rfl, s8⟩)
                  have HO2 := ROpen_calls (s8.pull 1 rfl) (i := 2) (by omega)
                  rw [show openS s ((2 : Nat) : Int) = _ from HOP.out.1] at HO2
                  unfold ROpT at HO2
                  simp only [HOP.out.2, if_false] at HO2
                  have HO2 := Lib.hid HO2
                  clear s8 HO
                  go_upto_region 34 with (go_at_call 8; refine HO2.out.mono ?_; rintro e w8 ⟨rfl, s9⟩)
                  have HSL := SameL_calls (bl_nil w8) (bl_nil w8)
                  rw [decide_eq_true rfl] at HSL
                  have HSL := Lib.hid HSL
                  have HS9 := Lib.hid (s9.pull 1 rfl)
                  clear s9 HO2
                  go_wp2_with (go_at_call 13; refine HSL.out.mono ?_; rintro e w9 ⟨rfl, u9⟩; have HU9 := Lib.hid u9; clear u9)
                  go_meet
                  exact ⟨t, er2, rfl, rfl, .inl ⟨rfl, rfl, HS9.out.quiet HU9.out⟩⟩
              · have hb1 : (c == 1) = false := by simp; omega
                have hb2 : (c == 2) = false := by simp; omega
                have hb3 : (c == 3) = false := by simpa using hc3
                clear hc0 hc12 hc3
                have hwx : Upd [] wo (wo.alloc (.cells #[.int .i64 x] 3)) := (Upd.refl [] wo).alloc _
                have hbx : Blk (wo.alloc (.cells #[.int .i64 x] 3)) wo.heap.size (ints [x]) 3 := Blk.new wo [.int .i64 x] 3
                have hsx : SL (wo.alloc (.cells #[.int .i64 x] 3)) 1 (.slice (some ⟨wo.heap.size, 0, none⟩) 1 1) [x].length (ints [x]) := SL.of_blk (pad := []) (e := 3) (by rw [List.append_nil]; exact hbx) (by simp [ints]) (Nat.le_refl _) (by unfold maxLen; omega)
                have HRE := Lib.hid (Recs_callsN hsx (by intro z hz; simp at hz; subst hz; exact ⟨by omega, by omega⟩))
                have HSX := Lib.hid (HS.out.quiet hwx)
                clear hwx hbx hsx
                go_upto_region 17 with (go_at_call 14; refine HRE.out.mono ?_; rintro e w5 ⟨X, a5, c5, rfl, hXn, hX6, hXm, o5, u5⟩; obtain ⟨b, rfl⟩ : ∃ b, X = [b] := List.length_eq_one_iff.1 (by simpa using hXn); obtain ⟨vals, s5⟩ := Sep.listV HSX.out u5 o5; obtain ⟨_, _, he, hq5, _, hel⟩ := Sep.atV 0 s5 rfl; cases he; obtain ⟨g5, off5, ac, cc, rfl, hv5, d5, sl5, lt5⟩ := hel 0 b rfl; have HV5 := Lib.hid hv5; clear hv5; rw [Nat.add_zero] at d5; have HS5 := Lib.hid (And.intro s5 (And.intro sl5 lt5)); have hbm := hXm b (by simp); clear hXn hX6 hXm o5 u5 s5 hel sl5 lt5)
                have ud : Upd [] w5 w5.drew := (by iterate 25 (first | exact Upd.refl _ _ | assumption | refine Upd.alloc ?_ _ | refine Upd.drew ?_ | refine Upd.drewN ?_ _ | refine Upd.dl ?_ | refine Upd.step ?_ (Ext.upd _) | refine Upd.nil ?_ | skip))
                have HA := LApp_calls ((((HS5.out.1.quiet ud).pull 3 rfl)).pull 2 rfl) (HS5.out.2.1.upd ud (by simp)) HS5.out.2.2 (show IsI64 2 from ⟨by omega, by omega⟩) (by show n ≤ _; omega) hbm.1 (by have := hbm.2; omega)
                have hjl := japp_log s ⟨2, n, up⟩ b
                have HBM := Lib.hid (And.intro hbm.1 hbm.2)
                have HRL := Lib.hid (fun (ps : List Pr) (W : World) (v : Value) (h : L.Sep w (PRD m s :: PRL r1 m ⟨2, n, up⟩ :: ps) W) (hv : SL W 1 v b.length (byts b)) => RLApp_calls h hv (show IsI64 2 from ⟨by omega, by omega⟩) (by show n ≤ _; omega) hbm.1 (by have := hbm.2; omega))
                generalize jappS s ⟨2, n, up⟩ b = ja at *
                obtain ⟨er1, ⟨fl, n2, up2⟩, s2⟩ := ja
                dsimp only at HA hjl HRL
                obtain ⟨rfl, hn2⟩ := hjl
                have HA := Lib.hid HA
                clear hbm ud
                refine wp_region_wa 25 25 (fun _ => True) (by kernel_rfl) (by kernel_rfl) trivial ?_
                (refine WA.free 0 rfl rfl (by kernel_rfl) (fun K hK => ?_); go_big_quiet_step (fail); refine wpQuiet_nil ?_; refine hK _ ?_; clear hK K); (refine WA.free 1 rfl rfl (by kernel_rfl) (fun K hK => ?_); go_big_quiet_step (fail); refine wpQuiet_nil ?_; refine hK _ ?_; clear hK K); (refine WA.free 3 rfl rfl (by kernel_rfl) (fun K hK => ?_); go_big_quiet_step (fail); refine wpQuiet_nil ?_; refine hK _ ?_; clear hK K); (refine WA.free 4 rfl rfl (by kernel_rfl) (fun K hK => ?_); go_big_quiet_step (fail); refine wpQuiet_nil ?_; refine hK _ ?_; clear hK K)
                refine WA.one 2 (by kernel_rfl) (Do_.mk rfl (fun K hK => ?_))
                go_wp2_with (go_at_call 15; (with_reducible refine HA.out.mono ?_); rintro e w6 ⟨rfl, s6⟩)
                have s6' : L.Sep w [PRD m s, PRL r1 m ⟨2, n, up⟩, PDk p s2, PLg q1 p ⟨2, n2, up2⟩, PBV (.slice (some ⟨g5, off5, none⟩) 1 c5) [b] vals] w6 := (s6.pull 4 rfl).pull 4 rfl
                obtain ⟨_, _, he, _, _, hel⟩ := Sep.atV 4 s6' rfl
                cases he
                obtain ⟨g6, off6, ac6, cc6, he2, hv6, d6, sl6, lt6⟩ := hel 0 b rfl
                cases he2
                rw [HV5.out] at hv6
                cases hv6
                rw [Nat.add_zero] at d6
                have HB2 := Lib.hid (HRL.out _ _ _ s6' sl6)
                clear s6 s6' hel sl6 lt6 HA HRL
                refine WA.keep trivial ?_
                refine WA.one 5 (by kernel_rfl) (Do_.mk rfl (fun K hK => ?_))
                go_wp2_with (go_at_call 16; (with_reducible refine HB2.out.mono ?_); rintro e w7 ⟨rfl, s7⟩)
                have HS7 := Lib.hid s7
                have kr : Blk w7 r1 (rlC m ⟨2, n2, up2⟩) 44 := Sep.blk 1 s7 rfl
                have r2 := kr.cell (i := 2) rfl
                have r3 := kr.cell (i := 3) rfl
                have HLn := Lib.hid (fun (W : World) (u : Upd [] w7 W) => Len_calls (w := W) 3 (s7.quiet u) rfl)
                have HUp := Lib.hid (fun (W : World) (u : Upd [] w7 W) => Up_calls (w := W) 3 (s7.quiet u) rfl)
                clear kr s7 HB2 d5 d6
                refine WA.ext (fun _ => trivial) ?_
                (refine WA.free 6 rfl rfl (by kernel_rfl) (fun K hK => ?_); go_big_quiet_step (fail); refine wpQuiet_nil ?_; refine hK _ ?_; clear hK K); (refine WA.free 7 rfl rfl (by kernel_rfl) (fun K hK => ?_); go_big_quiet_step (fail); refine wpQuiet_nil ?_; refine hK _ ?_; clear hK K); (refine WA.free 8 rfl rfl (by kernel_rfl) (fun K hK => ?_); go_big_quiet_step (fail); refine wpQuiet_nil ?_; refine hK _ ?_; clear hK K); (refine WA.free 10 rfl rfl (by kernel_rfl) (fun K hK => ?_); go_big_quiet_step (fail); refine wpQuiet_nil ?_; refine hK _ ?_; clear hK K); (refine WA.free 11 rfl rfl (by kernel_rfl) (fun K hK => ?_); go_big_quiet_step (fail); refine wpQuiet_nil ?_; refine hK _ ?_; clear hK K); (refine WA.free 12 rfl rfl (by kernel_rfl) (fun K hK => ?_); go_big_quiet_step (fail); refine wpQuiet_nil ?_; refine hK _ ?_; clear hK K)
                (refine WA.load 13 25 rfl rfl (by kernel_rfl) (by kernel_rfl) (fun K hK => ?_); go_big_quiet_step (fail); refine wpQuiet_nil ?_; refine hK _ ?_; clear hK K)
                refine WA.one 9 (by kernel_rfl) (Do_.mk rfl (fun K hK => ?_))
                go_wp2_with (go_at_call 17; refine (HLn.out _ (Upd.refl _ _)).mono ?_; rintro e _ ⟨rfl, rfl⟩)
                refine WA.keep (Ext.of (Upd.refl _ _)) ?_
                (refine WA.free 14 rfl rfl (by kernel_rfl) (fun K hK => ?_); go_big_quiet_step (fail); refine wpQuiet_nil ?_; refine hK _ ?_; clear hK K); (refine WA.free 15 rfl rfl (by kernel_rfl) (fun K hK => ?_); go_big_quiet_step (fail); refine wpQuiet_nil ?_; refine hK _ ?_; clear hK K); (refine WA.free 16 rfl rfl (by kernel_rfl) (fun K hK => ?_); go_big_quiet_step (fail); refine wpQuiet_nil ?_; refine hK _ ?_; clear hK K); (refine WA.free 17 rfl rfl (by kernel_rfl) (fun K hK => ?_); go_big_quiet_step (fail); refine wpQuiet_nil ?_; refine hK _ ?_; clear hK K); (refine WA.free 19 rfl rfl (by kernel_rfl) (fun K hK => ?_); go_big_quiet_step (fail); refine wpQuiet_nil ?_; refine hK _ ?_; clear hK K); (refine WA.free 20 rfl rfl (by kernel_rfl) (fun K hK => ?_); go_big_quiet_step (fail); refine wpQuiet_nil ?_; refine hK _ ?_; clear hK K); (refine WA.free 21 rfl rfl (by kernel_rfl) (fun K hK => ?_); go_big_quiet_step (fail); refine wpQuiet_nil ?_; refine hK _ ?_; clear hK K)
                (refine WA.load 22 25 rfl rfl (by kernel_rfl) (by kernel_rfl) (fun K hK => ?_); go_big_quiet_step (fail); refine wpQuiet_nil ?_; refine hK _ ?_; clear hK K)
                refine WA.one 18 (by kernel_rfl) (Do_.mk rfl (fun K hK => ?_))
                go_wp2_with (go_at_call 18; refine (HUp.out _ (Upd.refl _ _)).mono ?_; rintro e _ ⟨rfl, rfl⟩)
                refine WA.keep (Ext.of (Upd.refl _ _)) ?_
                have hne : (up2 == !up2) = false := by cases up2 <;> rfl
                (refine WA.free 23 rfl rfl (by kernel_rfl) (fun K hK => ?_); go_big_quiet_step (fail); refine wpQuiet_nil ?_; refine hK _ ?_; clear hK K); (refine WA.free 24 rfl rfl (by kernel_rfl) (fun K hK => ?_); go_big_quiet_step (fail); refine wpQuiet_nil ?_; refine hK _ ?_; clear hK K)
                refine WA.nil (by kernel_rfl) ?_
                go_wp2_with fail
                go_meet
                exact JrT.both (k + 1) er HS7.out (by omega)
        case rest => as_aux_lemma =>
          obtain ⟨s, ps, hS⟩ := hcut.disks
          have HT := Lib.hid hcut
          have HR := Sep.read hS (f := 2) ⟨by omega, by omega⟩
          obtain ⟨S, hd, _⟩ := (hS.pull 1 rfl).head
          obtain ⟨bB, aB, cB, e1, e2, sl3, _, e3⟩ := RDk.at_ hd (i := 2) (by omega)
          clear hd hS hcut
          cases hoff : s.off
          · rw [read_on hoff] at HR
            have HR := Lib.hid HR
            rw [hoff] at e3
            have hlB := sl3
            have HSL := Lib.hid sl3
            clear hoff hlB sl3
            generalize s.B 2 = bs at *
            go_upto_region 37 with (go_at_call 19; refine HR.out.mono ?_; rintro e w5 ⟨v5, rfl, o5, u5⟩; obtain ⟨_, a5, c5, rfl, _⟩ := o5.sl)
            have f1 := u5.some e1 (by simp)
            have f2 := u5.some e2 (by simp)
            have f3 := u5.some e3 (by simp)
            have HSB := SameBytes_calls o5.sl (HSL.out.upd u5 (by simp))
            rw [decide_eq_true rfl] at HSB
            have HSB := Lib.hid HSB
            have HU5 := Lib.hid u5
            clear e1 e2 e3 o5 u5 HR
            have HF3 := Lib.hid (fun (W : World) (u : Upd [] w5 W) => u.some f3 (by simp))
            go_wp2_with (go_at_call 20; refine HSB.out.mono ?_; rintro e w6 ⟨rfl, u6⟩; have g3 := HF3.out _ u6; have HU6 := Lib.hid u6; clear u6)
            go_roundw
            case rel => exact ⟨k + 1, by go_num, by omega, HT.out.quiet (HU5.out.step HU6.out)⟩
            case measure => simp [intOf]; omega
          · rw [read_off hoff] at HR
            have HR := Lib.hid HR
            rw [hoff] at e3
            clear hoff sl3
            go_upto_region 37 with (go_at_call 19; refine HR.out.mono ?_; rintro e w5 ⟨v5, rfl, o5, u5⟩; obtain ⟨_, a5, c5, rfl, _⟩ := o5.sl)
            have f3 := u5.some e3 (by simp)
            have HU5 := Lib.hid u5
            clear e1 e2 e3 o5 u5 HR
            go_wp2_with fail
            go_roundw
            case rel => exact ⟨k + 1, by go_num, by omega, HT.out.quiet HU5.out⟩
            case measure => simp [intOf]; omega

    · obtain ⟨s, er, rfl, rfl, hcase⟩ := hT
      have hge : ¬ (k : Int) < ops.length ∨ ((k : Int) < ops.length ∧ ¬ (k : Int) < 14) := by omega
      have hwu : Upd [] w wo := by
        rcases hcase with ⟨_, _, hS⟩ | ⟨_, _, _, _, _, _, _, hS⟩ <;> exact hS.u
      have HU := Lib.hid hwu
      clear hwu hcase hlt
      rcases hge with hge | ⟨hge1, hge2⟩
      all_goals
        go_wp2_with (go_at_call 21; refine lives_calls.mono ?_; rintro e w9 ⟨rfl, u9⟩)
        go_ret
        exact ⟨rfl, HU.out.step u9⟩
end
end Jour
end Go.Proofs.YtfkgpecglcjpkaaGreat
