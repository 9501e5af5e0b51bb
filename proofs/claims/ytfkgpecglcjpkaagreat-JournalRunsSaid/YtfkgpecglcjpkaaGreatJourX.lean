/- Walks through the reference of package journal: a log's model, Append. Conditions: none. -/
import Derived.Test.YtfkgpecglcjpkaaGreatJourS
import Derived.Test.YtfkgpecglcjpkaaGreatDkRb
set_option linter.unusedVariables false
set_option linter.unusedSimpArgs false
set_option linter.unusedSectionVars false
open Go.RowKit
namespace Go.Proofs.YtfkgpecglcjpkaaGreat
open L
namespace Jour
open Wire Hash R01 R02 Disk
attribute [-go_sem] sliced
def PRD (p : Nat) (s : DS) : Pr := ⟨fun w S => RDk w p s S, fun h hu hT => h.upd hu hT, fun h => h.lt⟩
def rlC (m : Nat) (l : LS) : List Value := [.pointer (some ⟨m, 0, none⟩), .int .i64 l.file, .int .i64 (l.n : Nat), .bool (!l.up)]
def PRL (q m : Nat) (l : LS) : Pr := PBlk q (rlC m l) 44
section
variable {w0 w w' : World} {ps : List Pr} {m q : Nat} {s : DS} {l : LS}
theorem Sep.rok (h : L.Sep w0 (PRD m s :: ps) w) : s.Ok := by obtain ⟨S, h1, _⟩ := h.head; exact RDk.ok h1
theorem Sep.rarm (h : L.Sep w0 (PRD m s :: ps) w) {n : Int} (hn : IsI64 n) : Calls Tryz.prog 10 #[.pointer (some ⟨m, 0, none⟩), .int .i64 n] w fun e w' => e = .returned (.tuple #[]) ∧ L.Sep w0 (PRD m (armS s n) :: ps) w' := by
  refine (L.Sep.call (p' := PRD m (armS s n)) (Q := fun e _ => e = .returned (.tuple #[])) h fun S hS => (RArm_calls hS hn).mono fun e w' ⟨h1, h2, h3⟩ => ⟨h1, S, h2, h3.wide (fun k hk => .inl (by simp at hk; subst hk; exact RDk.p_mem hS)), fun k hk => .inl hk⟩)
theorem Sep.rsync (h : L.Sep w0 (PRD m s :: ps) w) : Calls Tryz.prog 28 #[.pointer (some ⟨m, 0, none⟩)] w fun e w' => e = .returned (.int .i64 (syncS s).1) ∧ L.Sep w0 (PRD m (syncS s).2 :: ps) w' := by
  refine (L.Sep.call (p' := PRD m (syncS s).2) (Q := fun e _ => e = .returned (.int .i64 (syncS s).1)) h fun S hS => (RSync_calls hS).mono fun e w' ⟨h1, h2, h3⟩ => ⟨h1, S, h2, h3, fun k hk => .inl hk⟩)
theorem Sep.rcrash {v : Value} {keep : List Int} {fp : Int} (h : L.Sep w0 (PRD m s :: PSL 1 v keep.length (ints keep) :: ps) w) (hk : ∀ x ∈ keep, IsI64 x) (hfp : IsI64 fp) :
    Calls Tryz.prog 12 #[.pointer (some ⟨m, 0, none⟩), v, .int .i64 fp] w fun e w' => e = .returned (.tuple #[]) ∧ L.Sep w0 (PRD m (crashS s keep fp) :: PSL 1 v keep.length (ints keep) :: ps) w' := by
  refine (L.Sep.call2 (p' := PRD m (crashS s keep fp)) (Q := fun e _ => e = .returned (.tuple #[])) h fun S T hS hT ha => (RCrash_calls hS hT.1 (fun g hg hm => ha g hm (hT.2.1 g hg)) hk hfp).mono fun e w' ⟨h1, S', h2, h3, h4⟩ => ⟨h1, S', h2, h3, h4⟩)
theorem Sep.rappend {v : Value} {b : List Int} {f : Int} (h : L.Sep w0 (PRD m s :: PSL 1 v b.length (byts b) :: ps) w) (hf : IsI64 f) (hb : ∀ x ∈ b, 0 ≤ x ∧ x ≤ 255) (hl : b.length ≤ 1000000000) :
    Calls Tryz.prog 36 #[.pointer (some ⟨m, 0, none⟩), .int .i64 f, v] w fun e w' => e = .returned (.int .i64 (appendS s f b).1) ∧ L.Sep w0 (PRD m (appendS s f b).2 :: PSL 1 v b.length (byts b) :: ps) w' := by
  refine (L.Sep.call2 (p' := PRD m (appendS s f b).2) (Q := fun e _ => e = .returned (.int .i64 (appendS s f b).1)) h fun S T hS hT ha => (RAppend_calls hS hf hT.1 hb hl (fun g hg hm => ha g hm (hT.2.1 g hg))).mono fun e w' ⟨h1, S', h2, h3, h4⟩ => ⟨h1, S', h2, h3, h4⟩)
set_option maxRecDepth 100000 in
set_option maxHeartbeats 4000000 in
theorem RLApp_calls {v : Value} {b : List Int} (h : L.Sep w0 (PRD m s :: PRL q m l :: ps) w) (hv : SL w 1 v b.length (byts b)) (hf : IsI64 l.file) (hn : l.n ≤ 1000000000000) (hb : ∀ x ∈ b, IsU8 x) (hl : b.length ≤ 100000000) :
    Calls Tryz.prog 16 #[.pointer (some ⟨q, 0, none⟩), v] w fun e w' => e = .returned (.int .i64 (jappS s l b).1) ∧ L.Sep w0 (PRD m (jappS s l b).2.2 :: PRL q m (jappS s l b).2.1 :: ps) w' := by
  obtain ⟨va, vc, rfl, _⟩ := hv.val
  have HV := Lib.hid (And.intro h hv)
  have kq : Blk w q (rlC m l) 44 := Sep.blk 1 h rfl
  have d0 := kq.cell (i := 0) rfl
  have d1 := kq.cell (i := 1) rfl
  have d2 := kq.cell (i := 2) rfl
  have d3 := kq.cell (i := 3) rfl
  clear h kq hv
  by_cases hlim : 65536 < b.length
  · have HR := Lib.hid (japp_limit s l hlim)
    have hl' : (65536 : Int) < b.length := by omega
    go_enter Tryz.func16, Tryz.ntmps16
    go_wp2_with fail
    go_ret
    rw [HR.out]
    exact ⟨rfl, HV.out.1⟩
  · have hl' : (b.length : Int) ≤ 65536 := by omega
    cases hup : l.up with
    | false =>
      have HR := Lib.hid (show jappS s l b = (23, l, s) by unfold jappS; rw [if_neg hlim, if_pos hup])
      rw [hup] at d3
      simp only [Bool.not_false] at d3
      clear hup
      go_enter Tryz.func16, Tryz.ntmps16
      go_wp2_with fail
      go_ret
      rw [HR.out]
      exact ⟨rfl, HV.out.1⟩
    | true =>
      rw [hup] at d3
      simp only [Bool.not_true] at d3
      have hn64 : IsI64 (l.n : Nat) := ⟨by omega, by omega⟩
      have HP := Lib.hid (And.intro hf (And.intro hn64 hb))
      have hfl := frB_length (l.n : Nat) b
      have HJ := Lib.hid (show jappS s l b = _ by unfold jappS; rw [if_neg hlim, if_neg (by simp [hup])])
      have f8 : ∀ x ∈ frB (l.n : Nat) b, IsU8 x := frB_u8 hn64 hb (by omega)
      have HF8 := Lib.hid f8
      have HUP := Lib.hid hup
      clear hf hn64 hb hup hlim f8
      generalize hfr : frB (l.n : Nat) b = fr at *
      have HFR := Lib.hid hfr
      clear hfr
      go_enter Tryz.func16, Tryz.ntmps16
      go_upto_region 5 with fail
      refine wp_region_ord 14 2 [0, 1, 2, 3, 4, 5, 6, 7, 8, 9, 10, 11, 12, 15] [3, 7, 11] [0, 1, 2, 3, 4, 5, 6, 7, 8, 9, 10, 11, 12, 13, 14, 15] (fun w' => ∃ x : Ext w, w' = x.val) (by kernel_rfl) (by kernel_rfl) (Ext.of (by iterate 25 (first | exact Upd.refl _ _ | assumption | refine Upd.alloc ?_ _ | refine Upd.drew ?_ | refine Upd.drewN ?_ _ | refine Upd.dl ?_ | refine Upd.step ?_ (Ext.upd _) | refine Upd.nil ?_ | skip))) ?_
      repeat (first | (refine wpOrd_load rfl rfl rfl rfl (fun K hK => ?_); go_big_quiet_step (fail); refine wpQuiet_nil ?_; refine hK _ ?_; clear hK K) | (refine wpOrd_free rfl rfl rfl (fun K hK => ?_); go_big_quiet_step (fail); refine wpQuiet_nil ?_; refine hK _ ?_; clear hK K))
      refine wpOrd_fix rfl rfl (fun K hK => ?_)
      have ud : Upd [] w w.drew := (by iterate 25 (first | exact Upd.refl _ _ | assumption | refine Upd.alloc ?_ _ | refine Upd.drew ?_ | refine Upd.drewN ?_ _ | refine Upd.dl ?_ | refine Upd.step ?_ (Ext.upd _) | refine Upd.nil ?_ | skip))
      have HFC := Lib.hid (FrameR_calls (l.n : Nat) HP.out.2.1 (HV.out.2.upd ud (by simp)) HP.out.2.2 (by omega))
      rw [HFR.out] at HFC
      clear ud
      go_wp2_with (go_at_call 37; refine HFC.out.mono ?_; rintro e w3 ⟨a3, c3, rfl, o3⟩)
      have s7 := Sep.slice (HV.out.1.quiet (show Upd [] w w.drew from (by iterate 25 (first | exact Upd.refl _ _ | assumption | refine Upd.alloc ?_ _ | refine Upd.drew ?_ | refine Upd.drewN ?_ _ | refine Upd.dl ?_ | refine Upd.step ?_ (Ext.upd _) | refine Upd.nil ?_ | skip)))) o3.u o3.toV
      have U3 := Lib.hid ((show Upd [] w w.drew from (by iterate 25 (first | exact Upd.refl _ _ | assumption | refine Upd.alloc ?_ _ | refine Upd.drew ?_ | refine Upd.drewN ?_ _ | refine Upd.dl ?_ | refine Upd.step ?_ (Ext.upd _) | refine Upd.nil ?_ | skip))).step o3.u)
      have HA := Lib.hid (Sep.rappend (s7.pull 1 rfl) HP.out.1 HF8.out (by omega))
      clear s7 o3 HFC
      refine ⟨fun _ => Ext.of U3.out, ?_⟩
      repeat (first | (refine wpOrd_load rfl rfl rfl rfl (fun K hK => ?_); go_big_quiet_step (fail); refine wpQuiet_nil ?_; refine hK _ ?_; clear hK K) | (refine wpOrd_free rfl rfl rfl (fun K hK => ?_); go_big_quiet_step (fail); refine wpQuiet_nil ?_; refine hK _ ?_; clear hK K))
      refine wpOrd_fix rfl rfl (fun K hK => ?_)
      generalize hap : appendS s l.file fr = ap at *
      clear hap
      go_wp2_with (go_at_call 36; refine HA.out.mono ?_; rintro e w4 ⟨rfl, s4⟩)
      have HS4 := Lib.hid (show L.Sep w0 (PRD m ap.2 :: PRL q m l :: ps) w4 from (s4.pull 1 rfl).drop)
      have kq : Blk w4 q (rlC m l) 44 := Sep.blk 1 HS4.out rfl
      clear s4 HA U3 d0 d1 d2 d3
      refine ⟨fun h => (by cases h), ?_⟩
      repeat (first | (refine wpOrd_load rfl rfl rfl rfl (fun K hK => ?_); go_big_quiet_step (fail); refine wpQuiet_nil ?_; refine hK _ ?_; clear hK K) | (refine wpOrd_free rfl rfl rfl (fun K hK => ?_); go_big_quiet_step (fail); refine wpQuiet_nil ?_; refine hK _ ?_; clear hK K))
      refine wpOrd_nil ?_
      have d0 := kq.cell (i := 0) rfl
      have f3 := kq.free 3
      have d3 := kq.cell (i := 3) rfl
      clear kq
      by_cases h0 : ap.1 = 0
      · rw [h0]
        have HJ2 := Lib.hid (show jappS s l b = _ by rw [HJ.out, if_neg (by rw [h0]; simp)])
        have HS := Lib.hid (Sep.rsync HS4.out)
        generalize hsy : syncS ap.2 = sy at *
        have hse : sy.1 = 0 ∨ sy.1 = 23 := by rw [← hsy]; exact syncS_err _
        clear hsy h0 HJ f3 d3
        go_upto_region 8 with (go_at_call 28; refine HS.out.mono ?_; rintro e w5 ⟨rfl, s5⟩)
        have HS5 := Lib.hid s5
        clear s5 HS d0 HS4
        have kq : Blk w5 q (rlC m l) 44 := Sep.blk 1 HS5.out rfl
        have f3 := kq.free 3
        have d3 := kq.cell (i := 3) rfl
        have x3 := kq.set 3 (.bool false)
        have d2 := x3.cell (i := 2) rfl
        have f2 := x3.free 2
        rcases hse with hse | hse
        · have HJ3 := Lib.hid (show jappS s l b = _ by rw [HJ2.out, if_neg (by rw [hse]; simp)])
          have s6 := Sep.set (Sep.set (HS5.out.pull 1 rfl) 3 (.bool false)) 2 (.int .i64 ((l.n + 1 : Nat) : Int))
          have HS6 := Lib.hid (show L.Sep w0 (PRD m sy.2 :: PRL q m { l with n := l.n + 1 } :: ps) _ from by
            have h := s6.pull 1 rfl
            have e : ((rlC m l).set 3 (.bool false)).set 2 (.int .i64 ((l.n + 1 : Nat) : Int)) = rlC m { l with n := l.n + 1 } := by
              unfold rlC; rw [HUP.out]; rfl
            rw [e] at h
            exact h)
          rw [hse]
          clear HJ2 hse kq x3 s6
          go_wp2_with fail
          go_ret
          rw [HJ3.out]
          exact ⟨rfl, by have h := HS6.out; rw [show ((l.n + 1 : Nat) : Int) = (l.n : Int) + 1 from by omega] at h; exact h⟩
        · have HJ3 := Lib.hid (show jappS s l b = _ by rw [HJ2.out, if_pos (by rw [hse]; simp)])
          have HS6 := Lib.hid (show L.Sep w0 (PRD m sy.2 :: PRL q m { l with up := false } :: ps) _ from (Sep.set (HS5.out.pull 1 rfl) 3 (.bool true)).pull 1 rfl)
          have HSE := Lib.hid hse
          rw [hse]
          clear HJ2 hse kq x3 d2 f2
          go_wp2_with fail
          go_ret
          rw [HJ3.out]
          exact ⟨by rw [HSE.out]; rfl, HS6.out⟩
      · have HJ2 := Lib.hid (show jappS s l b = _ by rw [HJ.out, if_pos h0])
        have hb0 : (ap.1 == 0) = false := by simpa using h0
        have HS6 := Lib.hid (show L.Sep w0 (PRD m ap.2 :: PRL q m { l with up := decide (ap.1 ≠ 23) } :: ps) _ from by
          have h := (Sep.set (HS4.out.pull 1 rfl) 3 (.bool (ap.1 == 23))).pull 1 rfl
          have e : (rlC m l).set 3 (.bool (ap.1 == 23)) = rlC m { l with up := decide (ap.1 ≠ 23) } := by
            unfold rlC
            by_cases h23 : ap.1 = 23 <;> simp [h23]
          rw [e] at h
          exact h)
        clear h0 HJ
        go_wp2_with fail
        go_ret
        rw [HJ2.out]
        exact ⟨rfl, HS6.out⟩
theorem SL.kb {v : Value} {xs : List Int} (h : SL w 1 v xs.length (byts xs)) (k : KB w w') : SL w' 1 v xs.length (byts xs) := by
  obtain ⟨h1, a, cap, rfl, h2, h3, hz, h4⟩ := h
  refine ⟨h1, a, cap, rfl, h2, h3, hz, ?_⟩
  rcases h4 with h4 | ⟨b, off, rfl, h4⟩
  · exact .inl h4
  · refine .inr ⟨b, off, rfl, fun j u hj => ?_⟩
    have hx := h4 j u hj
    have : ∃ x, u = .int .u8 x := by
      simp only [byts, List.getElem?_map, Option.map_eq_some_iff] at hj
      obtain ⟨x, _, rfl⟩ := hj
      exact ⟨x, rfl⟩
    obtain ⟨x, rfl⟩ := this
    exact k _ _ x hx
/-- The bytes of a file of the model, where they lie. -/
theorem RDk.at_ {S : List Nat} (h : RDk w m s S) {i : Nat} (hi : i < 64) : ∃ bB a c, w.cell? ⟨m, 1, none⟩ = some (.slice (some ⟨bB, 0, none⟩) 64 64) ∧ w.cell? ⟨bB, i, none⟩ = some (.slice a (s.B i).length c) ∧ SL w 1 (.slice a (s.B i).length c) (s.B i).length (byts (s.B i)) ∧ (∀ g, (Value.slice a (s.B i).length c).ownBlock = some g → g < w.heap.size) ∧ w.cell? ⟨m, 3, none⟩ = some (.bool s.off) := by
  obtain ⟨x, y, h1⟩ := h.cells
  obtain ⟨bB, a, c, d1, d2, _, _, hrow, hown, _⟩ := h.to0.file hi
  exact ⟨bB, a, c, d1, d2, SL.of_owns hrow, fun g hg => h.lt g (hown g hg).1, h1.cell (i := 3) rfl⟩
/-- What the model's Open hands back. -/
def ROpT (w0 : World) (m : Nat) (f : Int) (ps : List Pr) (r : List (List Int) × Int × DS) (e : Ending) (w' : World) : Prop :=
  if r.2.1 = 0 then ∃ (q : Nat) (a : Option Addr) (cap : Nat), e = .returned (.tuple #[.pointer (some ⟨q, 0, none⟩), .slice a r.1.length cap, .int .i64 0]) ∧ L.Sep w0 (PRD m r.2.2 :: PRL q m ⟨f, r.1.length, true⟩ :: ps) w' ∧ BL w' (.slice a r.1.length cap) r.1
  else e = .returned (.tuple #[.pointer none, .slice none 0 0, .int .i64 r.2.1]) ∧ L.Sep w0 (PRD m r.2.2 :: ps) w'
theorem Sep.rsyncK (h : L.Sep w0 (PRD m s :: ps) w) : Calls Tryz.prog 28 #[.pointer (some ⟨m, 0, none⟩)] w fun e w' => (e = .returned (.int .i64 (syncS s).1) ∧ KB w w') ∧ L.Sep w0 (PRD m (syncS s).2 :: ps) w' := by
  refine (L.Sep.call (p' := PRD m (syncS s).2) (Q := fun e w' => e = .returned (.int .i64 (syncS s).1) ∧ KB w w') h fun S hS => (RSync_callsK hS).mono fun e w' ⟨h1, h2, h3, h4⟩ => ⟨⟨h1, h4⟩, S, h2, h3, fun k hk => .inl hk⟩)
theorem Sep.rtruncK (h : L.Sep w0 (PRD m s :: ps) w) {i z : Nat} (hi : i < 64) (hz : z ≤ (s.B i).length) : Calls Tryz.prog 27 #[.pointer (some ⟨m, 0, none⟩), .int .i64 (i : Int), .int .i64 (z : Int)] w fun e w' => (e = .returned (.int .i64 (truncS s i z).1) ∧ KB w w') ∧ L.Sep w0 (PRD m (truncS s i z).2 :: ps) w' := by
  refine (L.Sep.call (p' := PRD m (truncS s i z).2) (Q := fun e w' => e = .returned (.int .i64 (truncS s i z).1) ∧ KB w w') h fun S hS => (RTrunc_goodK hS hi hz).mono fun e w' ⟨h1, h2, h3, h4⟩ => ⟨⟨h1, h4⟩, S, h2, h3, fun k hk => .inl hk⟩)
/-- The elements of a list. -/
def Els (w : World) (vals : List Value) (l : List (List Int)) : Prop := ∀ (i : Nat) (c : List Int), l[i]? = some c → ∃ y, vals[i]? = some y ∧ SL w 1 y c.length (byts c)
theorem Els.kb {vals : List Value} {l : List (List Int)} (h : Els w vals l) (k : KB w w') : Els w' vals l := fun i c hi => by
  obtain ⟨y, h1, h2⟩ := h i c hi
  exact ⟨y, h1, SL.kb h2 k⟩
theorem Els.bl {vals : List Value} {l : List (List Int)} {v : Value} (n : Nat) (h : Els w vals l) (hs : L.Sep w0 ps w) (hn : ps[n]? = some (PRw 39 1 v l.length vals)) : BL w v l := ⟨vals, SL.of_owns (Sep.row n hs hn), h⟩
set_option maxRecDepth 100000 in
set_option maxHeartbeats 4000000 in
theorem ROpen_calls (h : L.Sep w0 (PRD m s :: ps) w) {i : Nat} (hi : i < 64) : Calls Tryz.prog 8 #[.pointer (some ⟨m, 0, none⟩), .int .i64 (i : Int)] w (ROpT w0 m i ps (openS s i)) := by
  have H := Lib.hid h
  have hok := Sep.rok h
  obtain ⟨S, hd, _⟩ := h.head
  obtain ⟨bB, aB, cB, d1, d2, hsl, hlt, d3⟩ := RDk.at_ hd hi
  clear hd h
  have hfile : isF (i : Int) = true := isF_nat hi
  have hii : (i : Int) < 64 := by omega
  cases hoff : s.off with
  | true =>
    rw [hoff] at d3
    have HJ := Lib.hid (show openS s i = ([], 23, s) by unfold openS; rw [if_neg (by simp [hfile]), if_pos hoff])
    clear hoff hfile hok
    go_enter Tryz.func8, Tryz.ntmps8
    go_wp2_with fail
    refine bodyPost_ret (results_tmp3 rfl _ _ _) rfl ?_
    rw [HJ.out]
    unfold ROpT
    rw [if_neg (by simp)]
    exact ⟨rfl, H.out⟩
  | false =>
    rw [hoff] at d3
    have HJ := Lib.hid (show openS s i = _ by unfold openS; rw [if_neg (by simp [hfile]), if_neg (by simp [hoff])])
    have hC : (cat 0 (scanL (s.B i))).length < (s.B i).length ∧ cutS s i = truncS s i ((cat 0 (scanL (s.B i))).length : Nat) ∨ ¬ (cat 0 (scanL (s.B i))).length < (s.B i).length ∧ cutS s i = (0, s) := by
      by_cases hc : (cat 0 (scanL (s.B i))).length < (s.B i).length
      · exact .inl ⟨hc, by unfold cutS; rw [Int.toNat_natCast, if_pos hc]⟩
      · exact .inr ⟨hc, by unfold cutS; rw [Int.toNat_natCast, if_neg hc]⟩
    rw [Int.toNat_natCast] at HJ
    have hl := hok.len i
    have HZ := Lib.hid (scanL_len (s.B i))
    have HT := Lib.hid (fun (w : World) (ps : List Pr) (h : L.Sep w0 (PRD m s :: ps) w) => Sep.rtruncK h hi (scanL_len (s.B i)))
    have HS := Lib.hid (ScanR_callsO hsl (hok.u8 i) (by omega) hlt)
    have hsl := scanL_len (s.B i)
    clear hoff hfile hok hlt
    generalize s.B i = b at *
    go_enter Tryz.func8, Tryz.ntmps8
    go_upto_region 4 with (go_at_call 26; refine HS.out.mono ?_; rintro e w2 ⟨l, a2, c2, rfl, hsc, ⟨vals, hO, hE⟩, u2⟩)
    obtain rfl : scanL b = l := scanL_eq hsc (by omega)
    have s2 := H.out.new (p := PRw 39 1 (.slice a2 (scanL b).length c2) (scanL b).length vals) (S := (Value.slice a2 (scanL b).length c2).ownBlock.toList) u2 ⟨hO.row, fun g hg => by simp [hg], fun g hg => hO.lt g (by simpa using hg)⟩ (fun g hg => hO.fresh g (by simpa using hg))
    have HS2 := Lib.hid (And.intro (s2.pull 1 rfl) (show Els w2 vals (scanL b) from hE))
    have e1 := u2.some d1 (by simp)
    have e2 := u2.some d2 (by simp)
    have HT2 := Lib.hid (HT.out _ _ HS2.out.1)
    clear hsc hO hE u2 s2 HS d1 d2 d3 HT HZ
    generalize scanL b = l at *
    generalize (cat 0 l).length = z at *
    rcases hC with ⟨hc, hcu⟩ | ⟨hc, hcu⟩
    · have hci : (z : Int) < b.length := by omega
      rw [hcu] at HJ
      generalize htr : truncS s (i : Int) (z : Int) = tr at *
      clear htr hcu hc
      by_cases h0 : tr.1 = 0
      · have HJ2 := Lib.hid (show openS s i = _ by rw [HJ.out, if_neg (by rw [h0]; simp)])
        rw [h0] at HT2
        clear HJ h0
        go_upto_region 7 with (go_at_call 27; refine HT2.out.mono ?_; rintro e w3 ⟨⟨rfl, k3⟩, s3⟩)
        have HEL := Lib.hid (HS2.out.2.kb k3)
        clear k3
        have HY := Lib.hid (Sep.rsyncK s3)
        generalize hsy : syncS tr.2 = sy at *
        clear hsy
        by_cases hs0 : sy.1 = 0
        · have HJ3 := Lib.hid (show openS s i = (l, 0, sy.2) by rw [HJ2.out, if_neg (by rw [hs0]; simp)])
          rw [hs0] at HY
          clear HJ2 hs0
          go_upto_region 11 with (go_at_call 28; refine HY.out.mono ?_; rintro e w5 ⟨⟨rfl, k5⟩, s5⟩)
          have HE5 := Lib.hid (HEL.out.kb k5)
          have s6 := Sep.alloc s5 (rlC m ⟨i, l.length, true⟩) 44
          have HS6 := Lib.hid s6
          clear s5 s6 k5
          go_wp2_with fail
          refine bodyPost_ret (results_tmp3 rfl _ _ _) rfl ?_
          rw [HJ3.out]
          unfold ROpT
          rw [if_pos rfl]
          refine ⟨w5.heap.size, a2, c2, rfl, (((HS6.out.pull 2 rfl).drop.pull 1 rfl)), ?_⟩
          exact Els.bl 2 (HE5.out.kb (KB.nil ((Upd.refl [] w5).alloc _))) HS6.out rfl
        · have HJ3 := Lib.hid (show openS s i = ([], sy.1, sy.2) by rw [HJ2.out, if_pos hs0])
          have hb0 : (sy.1 != 0) = true := by simpa using hs0
          have H0 := Lib.hid hs0
          clear HJ2 hs0
          go_wp2_with (go_at_call 28; refine HY.out.mono ?_; rintro e w5 ⟨⟨rfl, k5⟩, s5⟩)
          refine bodyPost_ret (results_tmp3 rfl _ _ _) rfl ?_
          rw [HJ3.out]
          unfold ROpT
          rw [if_neg H0.out]
          exact ⟨rfl, (s5.pull 1 rfl).drop⟩
      · have HJ3 := Lib.hid (show openS s i = ([], tr.1, tr.2) by rw [HJ.out, if_pos h0])
        have hb0 : (tr.1 == 0) = false := by simpa using h0
        have hb1 : (tr.1 != 0) = true := by simpa using h0
        have H0 := Lib.hid h0
        clear HJ h0
        go_wp2_with (go_at_call 27; refine HT2.out.mono ?_; rintro e w3 ⟨⟨rfl, k3⟩, s3⟩)
        refine bodyPost_ret (results_tmp3 rfl _ _ _) rfl ?_
        rw [HJ3.out]
        unfold ROpT
        rw [if_neg H0.out]
        exact ⟨rfl, (s3.pull 1 rfl).drop⟩
    · have hci : ¬ (z : Int) < b.length := by omega
      have HJ2 := Lib.hid (show openS s i = _ by rw [HJ.out, hcu, if_neg (by simp)])
      have HEL := Lib.hid HS2.out.2
      clear HT2 hcu hc HJ
      have HY := Lib.hid (Sep.rsyncK HS2.out.1)
      generalize hsy : syncS s = sy at HJ2 HY ⊢
      clear hsy
      by_cases hs0 : sy.1 = 0
      · have HJ3 := Lib.hid (show openS s i = (l, 0, sy.2) by rw [HJ2.out, if_neg (by rw [hs0]; simp)])
        rw [hs0] at HY
        clear HJ2 hs0
        go_upto_region 11 with (go_at_call 28; refine HY.out.mono ?_; rintro e w5 ⟨⟨rfl, k5⟩, s5⟩)
        have HE5 := Lib.hid (HEL.out.kb k5)
        have s6 := Sep.alloc s5 (rlC m ⟨i, l.length, true⟩) 44
        have HS6 := Lib.hid s6
        clear s5 s6 k5
        go_wp2_with fail
        refine bodyPost_ret (results_tmp3 rfl _ _ _) rfl ?_
        rw [HJ3.out]
        unfold ROpT
        rw [if_pos rfl]
        refine ⟨w5.heap.size, a2, c2, rfl, (((HS6.out.pull 2 rfl).drop.pull 1 rfl)), ?_⟩
        exact Els.bl 2 (HE5.out.kb (KB.nil ((Upd.refl [] w5).alloc _))) HS6.out rfl
      · have HJ3 := Lib.hid (show openS s i = ([], sy.1, sy.2) by rw [HJ2.out, if_pos hs0])
        have hb0 : (sy.1 != 0) = true := by simpa using hs0
        have H0 := Lib.hid hs0
        clear HJ2 hs0
        go_wp2_with (go_at_call 28; refine HY.out.mono ?_; rintro e w5 ⟨⟨rfl, k5⟩, s5⟩)
        refine bodyPost_ret (results_tmp3 rfl _ _ _) rfl ?_
        rw [HJ3.out]
        unfold ROpT
        rw [if_neg H0.out]
        exact ⟨rfl, (s5.pull 1 rfl).drop⟩
end
end Jour
end Go.Proofs.YtfkgpecglcjpkaaGreat
