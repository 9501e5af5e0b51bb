/- Walks through package journal: a log in memory, Append, Len, Up. Conditions: none. -/
import Derived.Test.YtfkgpecglcjpkaaGreatJourE
import Derived.Test.YtfkgpecglcjpkaaGreatJourI
import Derived.Test.YtfkgpecglcjpkaaGreatDiskSepA
import Derived.Defers
set_option linter.unusedVariables false
set_option linter.unusedSimpArgs false
set_option linter.unusedSectionVars false
open Go.RowKit
namespace Go.Proofs.YtfkgpecglcjpkaaGreat
open L
namespace L
section
variable {w0 w w' : World} {ps : List Pr} {g : Nat} {c : List Value} {e : TypeId}
theorem Sep.alloc (h : Sep w0 ps w) (c : List Value) (e : TypeId) : Sep w0 (PBlk w.heap.size c e :: ps) (w.alloc (.cells c.toArray e)) :=
  h.new (S := [w.heap.size]) ((Upd.refl [] w).alloc _) ⟨Blk.new w c e, rfl⟩ (fun k hk => by simp at hk; omega)
theorem Sep.set (h : Sep w0 (PBlk g c e :: ps) w) (i : Nat) (v : Value) : Sep w0 (PBlk g (c.set i v) e :: ps) (w.setCell ⟨g, i, none⟩ v) :=
  h.next (S := []) (S' := []) (p' := PBlk g (c.set i v) e) fun S hS _ => ⟨[g], ⟨hS.1.set i v, rfl⟩, (Upd.refl S w).set (.inl (by rw [hS.2]; simp)) v, fun k hk => .inl (by rw [hS.2]; exact hk)⟩
theorem Sep.blk (n : Nat) (h : Sep w0 ps w) (hn : ps[n]? = some (PBlk g c e)) : Blk w g c e := by
  obtain ⟨S, h1, _⟩ := (h.pull n hn).head
  exact h1.1
theorem Sep.psl {k m : Nat} {v : Value} {cs : List Value} (n : Nat) (h : Sep w0 ps w) (hn : ps[n]? = some (PSL k v m cs)) : SL w k v m cs ∧ ∀ g, v.ownBlock = some g → g < w.heap.size := by
  obtain ⟨S, h1, _⟩ := (h.pull n hn).head
  exact ⟨h1.1, fun g hg => h1.2.2 g (h1.2.1 g hg)⟩
end
end L
namespace Jour
open Wire Hash R01 R02 Disk
attribute [-go_sem] sliced
/-- A log's cells. -/
def lgC (p : Nat) (l : LS) : List Value := [.pointer (some ⟨p, 0, none⟩), .int .i64 l.file, .int .i64 (l.n : Nat), .bool l.up]
def PLg (q p : Nat) (l : LS) : Pr := PBlk q (lgC p l) 59
section
variable {w0 w w' : World} {ps : List Pr} {p q : Nat} {s : DS} {l : LS}
theorem Len_calls (n : Nat) (h : L.Sep w0 ps w) (hn : ps[n]? = some (PLg q p l)) : Calls Tryz.prog 17 #[.pointer (some ⟨q, 0, none⟩)] w fun e w' => e = .returned (.int .i64 (l.n : Nat)) ∧ w = w' := by
  have hb : Blk w q (lgC p l) 59 := Sep.blk n h hn
  have c2 := hb.cell (i := 2) rfl
  clear hb h
  go_enter Tryz.func17, Tryz.ntmps17
  go_wp2_with fail
  go_ret
  exact ⟨rfl, rfl⟩
theorem Up_calls (n : Nat) (h : L.Sep w0 ps w) (hn : ps[n]? = some (PLg q p l)) : Calls Tryz.prog 18 #[.pointer (some ⟨q, 0, none⟩)] w fun e w' => e = .returned (.bool l.up) ∧ w = w' := by
  have hb : Blk w q (lgC p l) 59 := Sep.blk n h hn
  have c2 := hb.cell (i := 3) rfl
  clear hb h
  go_enter Tryz.func18, Tryz.ntmps18
  go_wp2_with fail
  go_ret
  exact ⟨rfl, rfl⟩
/-- The deferred closure: the log goes down with ErrDown. -/
theorem app1_down {g2 g4 : Nat} {x : Bool} (c4 : w.cell? ⟨g4, 0, none⟩ = some (.int .i64 23)) (c2 : w.cell? ⟨g2, 0, none⟩ = some (.pointer (some ⟨q, 0, none⟩))) (c3 : w.cell? ⟨q, 3, none⟩ = some (.bool x)) (f3 : w.frozen? ⟨q, 3, none⟩ = false) :
    CallsD Tryz.prog 33 #[.pointer (some ⟨g4, 0, none⟩), .pointer (some ⟨g2, 0, none⟩)] .returning w fun e u' w' => u' = .returning ∧ (e = .returned (.tuple #[]) ∧ w' = w.setCell ⟨q, 3, none⟩ (.bool false)) := by
  go_enter_d Tryz.func33, Tryz.ntmps33
  go_wp2_with fail
  go_end0
  exact ⟨rfl, rfl⟩
theorem app1_else {g2 g4 : Nat} {y : Int} (hy : (y == 23) = false) (c4 : w.cell? ⟨g4, 0, none⟩ = some (.int .i64 y)) :
    CallsD Tryz.prog 33 #[.pointer (some ⟨g4, 0, none⟩), .pointer (some ⟨g2, 0, none⟩)] .returning w fun e u' w' => u' = .returning ∧ (e = .returned (.tuple #[]) ∧ w' = w) := by
  go_enter_d Tryz.func33, Tryz.ntmps33
  go_wp2_with fail
  go_end0
  exact ⟨rfl, rfl⟩
/-- The things at work in Append. -/
def apL (g4 g2 p q : Nat) (y : Int) (s : DS) (l : LS) (ps : List Pr) : List Pr := PBlk g4 [.int .i64 y] 30 :: PBlk g2 [.pointer (some ⟨q, 0, none⟩)] 28 :: PDk p s :: PLg q p l :: ps
theorem apL_start {ps : List Pr} (h : L.Sep w0 (PDk p s :: PLg q p l :: ps) w) : ∃ w2, w2 = (w.alloc (.cells #[.pointer (some ⟨q, 0, none⟩)] 28)).alloc (.cells #[.int .i64 0] 30) ∧ L.Sep w0 (apL (w.heap.size + 1) w.heap.size p q 0 s l ps) w2 := by
  have h1 := Sep.alloc h [.pointer (some ⟨q, 0, none⟩)] 28
  have h2 := Sep.alloc h1 [.int .i64 0] 30
  refine ⟨_, rfl, ?_⟩
  have e : (w.alloc (.cells [Value.pointer (some ⟨q, 0, none⟩)].toArray 28)).heap.size = w.heap.size + 1 := by simp
  rw [e] at h2
  exact h2
theorem app_res (tmps : Array Value) (w : World) {g : Nat} {v : Int} (hp : tmps.getD 4 undef = .pointer (some ⟨g, 0, none⟩)) (hc : w.cell? ⟨g, 0, none⟩ = some (.int .i64 v)) : (results Tryz.f15 tmps).run Tryz.prog w = .ok (.int .i64 v) w := by
  have hp' : tmps[4]?.getD undef = .pointer (some ⟨g, 0, none⟩) := by simpa using hp
  simp [results, Tryz.results15, hp', asAddr, go_sem, hc]
theorem apL_end {g4 g2 : Nat} {y : Int} {w : World} (h : L.Sep w0 (apL g4 g2 p q y s l ps) w) : L.Sep w0 (PDk p s :: PLg q p l :: ps) w := h.drop.drop
theorem apL_set {g4 g2 : Nat} {y : Int} {w : World} (h : L.Sep w0 (apL g4 g2 p q y s l ps) w) (z : Int) : L.Sep w0 (apL g4 g2 p q z s l ps) (w.setCell ⟨g4, 0, none⟩ (.int .i64 z)) := Sep.set h 0 _
theorem apL_cell {g4 g2 : Nat} {y : Int} {w : World} (h : L.Sep w0 (apL g4 g2 p q y s l ps) w) : w.cell? ⟨g4, 0, none⟩ = some (.int .i64 y) := (Sep.blk 0 h rfl).cell (i := 0) rfl
/-- The door, nothing deferred. -/
theorem app_door {R : Ending → World → Prop} {tmps : Array Value} {w : World} {g4 g2 : Nat} {y : Int} (h : L.Sep w0 (apL g4 g2 p q y s l ps) w) (hp : tmps.getD 4 undef = .pointer (some ⟨g4, 0, none⟩)) (hR : R (.returned (.int .i64 y)) w) :
    bodyPostD Tryz.prog Tryz.f15 R Exit.ret { tmps := tmps, defers := [] } w := ⟨_, app_res tmps w hp (apL_cell h), hR⟩
/-- The door, the closure deferred. -/
theorem app_door1 {R : Ending → World → Prop} {tmps : Array Value} {w : World} {g4 g2 : Nat} {y : Int} (h : L.Sep w0 (apL g4 g2 p q y s l ps) w) (hp : tmps.getD 4 undef = .pointer (some ⟨g4, 0, none⟩))
    (hR : ∀ w', L.Sep w0 (PDk p s :: PLg q p (if y = 23 then { l with up := false } else l) :: ps) w' → R (.returned (.int .i64 y)) w') :
    bodyPostD Tryz.prog Tryz.f15 R Exit.ret { tmps := tmps, defers := [{ target := Target.fn (Fn.func 33) #[.pointer (some ⟨g4, 0, none⟩), .pointer (some ⟨g2, 0, none⟩)], args := #[] }] } w := by
  have k2 : Blk w g2 [.pointer (some ⟨q, 0, none⟩)] 28 := Sep.blk 1 h rfl
  have kq : Blk w q (lgC p l) 59 := Sep.blk 3 h rfl
  refine leaves_cons (f := 33) (args := #[.pointer (some ⟨g4, 0, none⟩), .pointer (some ⟨g2, 0, none⟩)]) (by simp) (by simp [go_sem]) ?_
  by_cases hy : y = 23
  · subst hy
    refine (app1_down (apL_cell h) (k2.cell (i := 0) rfl) (kq.cell (i := 3) rfl) (kq.free 3)).mono ?_
    rintro e u' w' ⟨rfl, rfl, rfl⟩
    have h1 := h.pull 3 rfl
    have h2 : L.Sep w0 (PBlk q ((lgC p l).set 3 (.bool false)) 59 :: PBlk g4 [.int .i64 23] 30 :: PBlk g2 [.pointer (some ⟨q, 0, none⟩)] 28 :: PDk p s :: ps) (w.setCell ⟨q, 3, none⟩ (.bool false)) := Sep.set h1 3 (.bool false)
    have h3 : L.Sep w0 (apL g4 g2 p q 23 s { l with up := false } ps) (w.setCell ⟨q, 3, none⟩ (.bool false)) := ((h2.pull 3 rfl).pull 3 rfl).pull 3 rfl
    exact ⟨_, app_res tmps _ hp (apL_cell h3), hR _ (by rw [if_pos rfl]; exact apL_end h3)⟩
  · refine (app1_else (by simpa using hy) (apL_cell h)).mono ?_
    rintro e u' w' ⟨rfl, rfl, rfl⟩
    exact ⟨_, app_res tmps _ hp (apL_cell h), hR _ (by rw [if_neg hy]; exact apL_end h)⟩
set_option maxRecDepth 100000 in
set_option maxHeartbeats 4000000 in
theorem LApp_calls {v : Value} {b : List Int} (h : L.Sep w0 (PDk p s :: PLg q p l :: ps) w) (hv : SL w 1 v b.length (byts b)) (hlt : ∀ g, v.ownBlock = some g → g < w.heap.size) (hf : IsI64 l.file) (hn : l.n ≤ 1000000000000) (hb : ∀ x ∈ b, IsU8 x) (hl : b.length ≤ 100000000) :
    Calls Tryz.prog 15 #[.pointer (some ⟨q, 0, none⟩), v] w fun e w' => e = .returned (.int .i64 (jappS s l b).1) ∧ L.Sep w0 (PDk p (jappS s l b).2.2 :: PLg q p (jappS s l b).2.1 :: ps) w' := by
  obtain ⟨va, vc, rfl, _⟩ := hv.val
  have HV := Lib.hid (And.intro hv hlt)
  obtain ⟨w2, e2, h2⟩ := apL_start h
  have E2 := Lib.hid e2
  have H2 := Lib.hid h2
  have k4 : Blk w2 (w.heap.size + 1) [.int .i64 0] 30 := Sep.blk 0 h2 rfl
  have k2 : Blk w2 w.heap.size [.pointer (some ⟨q, 0, none⟩)] 28 := Sep.blk 1 h2 rfl
  have kq : Blk w2 q (lgC p l) 59 := Sep.blk 3 h2 rfl
  have c4 := k4.cell (i := 0) rfl
  have f4 := k4.free 0
  have c2 := k2.cell (i := 0) rfl
  have d0 := kq.cell (i := 0) rfl
  have d1 := kq.cell (i := 1) rfl
  have d2 := kq.cell (i := 2) rfl
  have d3 := kq.cell (i := 3) rfl
  clear h h2 e2 k4 k2 kq hv hlt
  by_cases hlim : 65536 < b.length
  · have HR := Lib.hid (japp_limit s l hlim)
    have hl' : (65536 : Int) < b.length := by omega
    go_enter_defers Tryz.func15, Tryz.ntmps15
    go_upto_region 1 with fail
    rw [← E2.out]
    go_wp2_with fail
    refine app_door (apL_set H2.out 4) rfl ?_
    rw [HR.out]
    exact ⟨rfl, apL_end (apL_set H2.out 4)⟩
  · have hl' : (b.length : Int) ≤ 65536 := by omega
    cases hup : l.up with
    | false =>
      have HR := Lib.hid (show jappS s l b = (23, l, s) by unfold jappS; rw [if_neg hlim, if_pos hup])
      rw [hup] at d3
      clear hup
      go_enter_defers Tryz.func15, Tryz.ntmps15
      go_upto_region 1 with fail
      rw [← E2.out]
      go_wp2_with fail
      refine app_door (apL_set H2.out 23) rfl ?_
      rw [HR.out]
      exact ⟨rfl, apL_end (apL_set H2.out 23)⟩
    | true =>
      rw [hup] at d3
      have hn64 : IsI64 (l.n : Nat) := ⟨by omega, by omega⟩
      have HP := Lib.hid (And.intro hf (And.intro hn64 hb))
      have hfl := frB_length (l.n : Nat) b
      have HJ := Lib.hid (show jappS s l b = _ by unfold jappS; rw [if_neg hlim, if_neg (by simp [hup])])
      have f8 : ∀ x ∈ frB (l.n : Nat) b, IsU8 x := frB_u8 hn64 hb (by omega)
      have HF8 := Lib.hid f8
      have HUP := Lib.hid hup
      clear hf hn64 hb hup hlim f8
      generalize hfr : frB (l.n : Nat) b = fr at *
      have HFR := Lib.hid hfr
      clear hfr
      go_enter_defers Tryz.func15, Tryz.ntmps15
      go_upto_region 1 with fail
      rw [← E2.out]
      go_upto_region 6 with fail
      refine wp_region_ord 14 6 [0, 1, 2, 3, 4, 5, 6, 7, 8, 9, 10, 11, 12, 15] [0, 3, 4, 7, 8, 11] [0, 1, 2, 3, 4, 5, 6, 7, 8, 9, 10, 11, 12, 13, 14, 15] (fun w' => ∃ x : Ext w2, w' = x.val) (by kernel_rfl) (by kernel_rfl) (Ext.of (by iterate 25 (first | exact Upd.refl _ _ | assumption | refine Upd.alloc ?_ _ | refine Upd.drew ?_ | refine Upd.drewN ?_ _ | refine Upd.dl ?_ | refine Upd.step ?_ (Ext.upd _) | refine Upd.nil ?_ | skip))) ?_
      repeat (first | (refine wpOrd_load rfl rfl rfl rfl (fun K hK => ?_); go_big_quiet_step (fail); refine wpQuiet_nil ?_; refine hK _ ?_; clear hK K) | (refine wpOrd_free rfl rfl rfl (fun K hK => ?_); go_big_quiet_step (fail); refine wpQuiet_nil ?_; refine hK _ ?_; clear hK K))
      refine wpOrd_fix rfl rfl (fun K hK => ?_)
      have s6 := H2.out.quiet (show Upd [] w2 w2.drew from (by iterate 25 (first | exact Upd.refl _ _ | assumption | refine Upd.alloc ?_ _ | refine Upd.drew ?_ | refine Upd.drewN ?_ _ | refine Upd.dl ?_ | refine Upd.step ?_ (Ext.upd _) | refine Upd.nil ?_ | skip)))
      have HS6 := Lib.hid s6
      have uv : Upd [] w w2.drew := by rw [E2.out]; exact (by iterate 25 (first | exact Upd.refl _ _ | assumption | refine Upd.alloc ?_ _ | refine Upd.drew ?_ | refine Upd.drewN ?_ _ | refine Upd.dl ?_ | refine Upd.step ?_ (Ext.upd _) | refine Upd.nil ?_ | skip))
      have HFC := Lib.hid (Frame_calls (l.n : Nat) HP.out.2.1 (HV.out.1.upd uv (by simp)) HP.out.2.2 (by omega) (fun g hg => Nat.lt_of_lt_of_le (HV.out.2 g hg) uv.size))
      rw [HFR.out] at HFC
      clear s6 uv
      go_wp2_with (go_at_call 35; refine HFC.out.mono ?_; rintro e w3 ⟨a3, c3, rfl, o3⟩)
      have s7 := Sep.slice HS6.out o3.u o3.toV
      have U3 := Lib.hid ((show Upd [] w2 w2.drew from (by iterate 25 (first | exact Upd.refl _ _ | assumption | refine Upd.alloc ?_ _ | refine Upd.drew ?_ | refine Upd.drewN ?_ _ | refine Upd.dl ?_ | refine Upd.step ?_ (Ext.upd _) | refine Upd.nil ?_ | skip))).step o3.u)
      have HA := Lib.hid (Sep.append (s7.pull 3 rfl) HP.out.1 HF8.out (by omega))
      clear s7 o3 HFC HS6
      refine ⟨fun _ => Ext.of U3.out, ?_⟩
      repeat (first | (refine wpOrd_load rfl rfl rfl rfl (fun K hK => ?_); go_big_quiet_step (fail); refine wpQuiet_nil ?_; refine hK _ ?_; clear hK K) | (refine wpOrd_free rfl rfl rfl (fun K hK => ?_); go_big_quiet_step (fail); refine wpQuiet_nil ?_; refine hK _ ?_; clear hK K))
      refine wpOrd_fix rfl rfl (fun K hK => ?_)
      generalize hap : appendS s l.file fr = ap at *
      have HAP := Lib.hid hap
      clear hap
      go_wp2_with (go_at_call 34; refine HA.out.mono ?_; rintro e w4 ⟨rfl, s4⟩)
      have HS4 := Lib.hid (show L.Sep w0 (apL (w.heap.size + 1) w.heap.size p q 0 ap.2 l ps) w4 from ((s4.pull 1 rfl).drop.pull 2 rfl).pull 2 rfl)
      clear s4 HA U3 c4 f4 c2 d0 d1 d2 d3
      refine ⟨fun h => (by cases h), ?_⟩
      repeat (first | (refine wpOrd_load rfl rfl rfl rfl (fun K hK => ?_); go_big_quiet_step (fail); refine wpQuiet_nil ?_; refine hK _ ?_; clear hK K) | (refine wpOrd_free rfl rfl rfl (fun K hK => ?_); go_big_quiet_step (fail); refine wpQuiet_nil ?_; refine hK _ ?_; clear hK K))
      refine wpOrd_nil ?_
      by_cases h0 : ap.1 = 0
      · rw [h0]
        have HJ2 := Lib.hid (show jappS s l b = _ by rw [HJ.out, if_neg (by rw [h0]; simp)])
        have HS := Lib.hid (Sep.sync (HS4.out.pull 2 rfl))
        generalize hsy : syncS ap.2 = sy at *
        have hse : sy.1 = 0 ∨ sy.1 = 23 := by rw [← hsy]; exact syncS_err _
        clear hsy h0 HJ HAP
        have q2 : Blk w4 w.heap.size [.pointer (some ⟨q, 0, none⟩)] 28 := Sep.blk 1 HS4.out rfl
        have q3 : Blk w4 q (lgC p l) 59 := Sep.blk 3 HS4.out rfl
        have c2 := q2.cell (i := 0) rfl
        have d0 := q3.cell (i := 0) rfl
        clear q2 q3
        go_upto_region 10 with (go_at_call 25; refine HS.out.mono ?_; rintro e w5 ⟨rfl, s5⟩)
        have HS5 := Lib.hid (show L.Sep w0 (apL (w.heap.size + 1) w.heap.size p q 0 sy.2 l ps) w5 from (s5.pull 2 rfl).pull 2 rfl)
        clear s5 HS c2 d0 HS4
        rcases hse with hse | hse
        · have HJ3 := Lib.hid (show jappS s l b = _ by rw [HJ2.out, if_neg (by rw [hse]; simp)])
          rw [hse]
          clear HJ2 hse
          have q2 : Blk w5 w.heap.size [.pointer (some ⟨q, 0, none⟩)] 28 := Sep.blk 1 HS5.out rfl
          have q3 : Blk w5 q (lgC p l) 59 := Sep.blk 3 HS5.out rfl
          have q4 : Blk w5 (w.heap.size + 1) [.int .i64 0] 30 := Sep.blk 0 HS5.out rfl
          have c2 := q2.cell (i := 0) rfl
          have d2 := q3.cell (i := 2) rfl
          have f2 := q3.free 2
          have x2 := (q3.set 2 (.int .i64 ((l.n : Int) + 1)))
          have s6 : L.Sep w0 (apL (w.heap.size + 1) w.heap.size p q 0 sy.2 { l with n := l.n + 1 } ps) (w5.setCell ⟨q, 2, none⟩ (.int .i64 ((l.n : Int) + 1))) := by
            have e1 : ((l.n : Int) + 1) = ((l.n + 1 : Nat) : Int) := by omega
            rw [e1]
            exact (((Sep.set (HS5.out.pull 3 rfl) 2 (.int .i64 ((l.n + 1 : Nat) : Int))).pull 3 rfl).pull 3 rfl).pull 3 rfl
          have c4 := apL_cell s6
          have f4 := (Sep.blk 0 s6 rfl).free 0
          have HS6 := Lib.hid (apL_set s6 0)
          clear q2 q3 q4 x2 s6
          go_wp2_with fail
          refine app_door1 HS6.out rfl (fun w' h => ?_)
          rw [HJ3.out]
          exact ⟨rfl, h⟩
        · have HJ3 := Lib.hid (show jappS s l b = _ by rw [HJ2.out, if_pos (by rw [hse]; simp)])
          rw [hse]
          have c4 := apL_cell HS5.out
          have f4 := (Sep.blk 0 HS5.out rfl).free 0
          have HE := Lib.hid hse
          clear HJ2 hse
          go_wp2_with fail
          refine app_door1 (apL_set HS5.out 23) rfl (fun w' h => ?_)
          rw [HJ3.out]
          rw [if_pos rfl] at h
          exact ⟨by rw [HE.out], h⟩
      · have HJ2 := Lib.hid (show jappS s l b = (ap.1, (if ap.1 = 23 then { l with up := false } else l), ap.2) by
          rw [HJ.out, if_pos h0]
          by_cases h23 : ap.1 = 23
          · simp [h23]
          · rw [if_neg h23]; simp [h23]; rw [← HUP.out])
        have hb0 : (ap.1 != 0) = true := by simpa using h0
        have c4 := apL_cell HS4.out
        have f4 := (Sep.blk 0 HS4.out rfl).free 0
        clear h0 HJ HAP
        go_wp2_with fail
        refine app_door1 (apL_set HS4.out ap.1) rfl (fun w' h => ?_)
        rw [HJ2.out]
        exact ⟨rfl, h⟩
end
end Jour
end Go.Proofs.YtfkgpecglcjpkaaGreat
