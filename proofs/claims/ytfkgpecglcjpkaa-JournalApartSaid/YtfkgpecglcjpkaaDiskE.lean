/- Walks through package disk: Read, Truncate. Conditions: none. -/
import Derived.Test.YtfkgpecglcjpkaaDiskD
set_option linter.unusedVariables false
set_option linter.unusedSimpArgs false
set_option linter.unusedSectionVars false
open Go.RowKit
namespace Go.Proofs.Ytfkgpecglcjpkaa
open L
namespace Disk
open Wire
theorem field_file (v u : Value) (w : World) : (Instr.field 91 (.agg #[v, u]) 0).run Try.prog w = .ok v w := by kernel_rfl
attribute [-go_sem] sliced
theorem sliced_pre {a : Option Addr} (h : a = none ∨ ∃ g off, a = some ⟨g, off, none⟩) (m cap : Nat) : sliced a 0 m cap 1 = .slice a m cap := by
  unfold sliced
  rcases h with rfl | ⟨g, off, rfl⟩
  · simp
  · simp [addr_add]
theorem owns_addr {w : World} {base : Nat} {e : TypeId} {size n m cap : Nat} {a : Option Addr} {xs : List Value} (h : w.ownsRow base e size (.slice a n cap) m xs) : (a = none ∧ cap = 0) ∨ ∃ g, a = some ⟨g, 0, none⟩ := by
  rcases h.2 with ⟨h1, _⟩ | ⟨g, cap', cur, hv, _⟩
  · cases h1; exact .inl ⟨rfl, rfl⟩
  · cases hv; exact .inr ⟨g, rfl⟩
theorem own_pre {w : World} {base : Nat} {e : TypeId} {size : Nat} {a : Option Addr} {n m cap : Nat} {xs : List Value} (h : w.ownsRow base e size (.slice a n cap) n xs) (hm : m ≤ n) :
    w.ownsRow base e size (.slice a m cap) m (xs.take (m * size)) := by
  rcases owns_addr h with ⟨rfl, rfl⟩ | ⟨g, rfl⟩
  · have h0 : n = 0 := by
      rcases h.2 with ⟨h1, h2⟩ | ⟨g, cap', cur, hv, _⟩
      · exact h2
      · cases hv
    have hm0 : m = 0 := by omega
    subst hm0
    simp only [Nat.zero_mul, List.take_zero]
    exact World.ownsRow_nil _ _ _ _
  · exact own_take h hm
theorem ob_eq (a : Option Addr) (n m c d : Nat) : (Value.slice a n c).ownBlock = (Value.slice a m d).ownBlock := by cases a <;> rfl
theorem byts_take (xs : List Int) (n : Nat) : (byts xs).take n = byts (xs.take n) := by simp [byts, List.map_take]
section
variable {w w' : World} {p : Nat} {s : DS} {S : List Nat}
theorem isF_iff {f : Int} : isF f = true ↔ 0 ≤ f ∧ f < 64 := by simp [isF]
theorem Dk.cells (h : Dk w p s S) : ∃ m, Blk w p [.int .i64 (s.room : Int), .map (some m), .bool s.off, .int .i64 s.plan] 89 := by obtain ⟨m, _, _, h1, _⟩ := h.ex; exact ⟨m, h1⟩
set_option maxRecDepth 100000 in
set_option maxHeartbeats 4000000 in
theorem Read_calls (h : Dk w p s S) {f : Int} (hf : IsI64 f) :
    Calls Try.prog 50 #[.pointer (some ⟨p, 0, none⟩), .int .i64 f] w fun e w' => ∃ v, e = .returned (.tuple #[v, .int .i64 (readS s f).2]) ∧ OwnV w 5 1 v (readS s f).1.length (byts (readS s f).1) w' ∧ Upd [] w w' := by
  have H := Lib.hid h
  cases hfile : isF f with
  | false =>
    have HR := Lib.hid (show readS s f = ([], 1) by unfold readS; rw [if_pos hfile])
    have HI := Lib.hid (isFile_calls (w := w) f)
    rw [hfile] at HI
    clear hfile h
    go_enter Try.func50, Try.ntmps50
    go_wp2_with (go_at_call 54; refine (HI.out).mono ?_; rintro e w' ⟨rfl, rfl⟩)
    go_ret2
    rw [HR.out]
    exact ⟨_, rfl, OwnV.nil w w 5 1, Upd.refl _ _⟩
  | true =>
    have HI := Lib.hid (isFile_calls (w := w) f)
    rw [hfile] at HI
    cases hoff : s.off with
    | true =>
      have HR := Lib.hid (show readS s f = ([], 23) by unfold readS; rw [if_neg (by rw [hfile]; simp), if_pos hoff])
      obtain ⟨m, h1⟩ := h.cells
      have c2 := h1.cell (i := 2) rfl
      rw [hoff] at c2
      clear hfile hoff h h1
      go_enter Try.func50, Try.ntmps50
      go_wp2_with (go_at_call 54; refine (HI.out).mono ?_; rintro e w' ⟨rfl, rfl⟩)
      go_ret2
      rw [HR.out]
      exact ⟨_, rfl, OwnV.nil w w 5 1, Upd.refl _ _⟩
    | false =>
      have h64 := isF_iff.1 hfile
      obtain ⟨i, rfl⟩ := Int.eq_ofNat_of_zero_le h64.1
      have hi : i < 64 := by omega
      have HR := Lib.hid (show readS s (i : Int) = (s.B i, 0) by unfold readS; rw [if_neg (by rw [hfile]; simp), if_neg (by rw [hoff]; simp), Int.toNat_natCast])
      obtain ⟨m1, fm, v1, hW, hM, hval, hrow, _⟩ := h.out hi
      obtain ⟨_, va1, vc1, rfl, _⟩ := SL.of_owns hrow
      have h1 : Blk w p [.int .i64 (s.room : Int), .map (some m1), .bool s.off, .int .i64 s.plan] 89 := by obtain ⟨_, _, h1, _⟩ := hW.ex; exact h1
      have c1 := h1.cell (i := 1) rfl
      have c2 := h1.cell (i := 2) rfl
      rw [hoff] at c2
      have hlB := h.ok.len i
      have HC := Lib.hid (Clone_calls (SL.of_owns hrow) (by omega))
      have HM := Lib.hid hM
      have HV := Lib.hid hval
      have hfd := field_file (.slice va1 (s.B i).length vc1) (.int .i64 (s.F i : Int))
      clear hW hrow hM hval h1 h hfile hoff
      go_enter Try.func50, Try.ntmps50
      go_wp2_with (first | (go_at_call 54; refine (HI.out).mono ?_; rintro e w' ⟨rfl, rfl⟩) | (at_lookup; refine wpList_mflook (k := 3) Try.underlying3 Try.underlying87 infoFile _ _ rfl rfl m1 64 fm (i : Int) rfl rfl HM.out ⟨by omega, by omega⟩ ?_; rw [HV.out]) | (go_at_call 44; refine HC.out.mono ?_; rintro e w1 ⟨a2, c2, rfl, o2, u2⟩) | go_in)
      go_ret2
      rw [HR.out]
      exact ⟨_, rfl, o2, u2⟩
theorem trunc_F {s : DS} {i z : Nat} (hok : s.Ok) (hz : z ≤ (s.B i).length) : ({ s with B := setB s.B i ((s.B i).take z), F := setF s.F i (min (s.F i) z) } : DS).Ok := by
  have h := truncS_ok (s := { s with off := false, plan := -1 }) ⟨hok.out, hok.firm, hok.u8, ⟨by simp, by simp⟩, hok.room, hok.used⟩ (f := (i : Int)) (z := (z : Int))
  have hlen : ∀ j, (setB s.B i ((s.B i).take z) j).length ≤ (s.B j).length := fun j => by
    simp only [setB]
    split
    · rename_i e; subst e; rw [List.length_take]; omega
    · exact Nat.le_refl _
  refine ⟨fun j hj => ?_, fun j => ?_, fun j x hx => ?_, hok.plan, hok.room, used_less hok hlen⟩
  · have := hlen j
    rw [hok.out j hj] at this
    exact List.eq_nil_of_length_eq_zero (by simpa using this)
  · simp only [setB, setF]
    split
    · rw [List.length_take]; have := hok.firm i; omega
    · exact hok.firm j
  · simp only [setB] at hx
    split at hx
    · exact hok.u8 _ x (List.mem_of_mem_take hx)
    · exact hok.u8 j x hx
set_option maxRecDepth 100000 in
set_option maxHeartbeats 4000000 in
theorem Trunc_bad (h : Dk w p s S) {f z : Int} (hf : IsI64 f) (hz : IsI64 z) (hbad : isF f = false ∨ z < 0 ∨ ((s.B f.toNat).length : Int) < z) :
    Calls Try.prog 51 #[.pointer (some ⟨p, 0, none⟩), .int .i64 f, .int .i64 z] w fun e w' => e = .returned (.int .i64 1) ∧ w = w' := by
  cases hfile : isF f with
  | false =>
    have HI := Lib.hid (isFile_calls (w := w) f)
    rw [hfile] at HI
    clear hfile h hbad
    go_enter Try.func51, Try.ntmps51
    go_wp2_with (go_at_call 54; refine (HI.out).mono ?_; rintro e w' ⟨rfl, rfl⟩)
    go_ret
    exact ⟨rfl, rfl⟩
  | true =>
    have HI := Lib.hid (isFile_calls (w := w) f)
    rw [hfile] at HI
    have h64 := isF_iff.1 hfile
    obtain ⟨i, rfl⟩ := Int.eq_ofNat_of_zero_le h64.1
    have hi : i < 64 := by omega
    rw [Int.toNat_natCast] at hbad
    by_cases hz0 : z < 0
    · clear hfile h hbad h64
      go_enter Try.func51, Try.ntmps51
      go_wp2_with (go_at_call 54; refine (HI.out).mono ?_; rintro e w' ⟨rfl, rfl⟩)
      go_ret
      exact ⟨rfl, rfl⟩
    · have hz2 : ((s.B i).length : Int) < z := by rcases hbad with h | h | h <;> first | exact h | omega | (rw [hfile] at h; cases h)
      have hz1 : 0 ≤ z := by omega
      obtain ⟨m1, fm, v1, hW, hM, hval, hrow, _⟩ := h.out hi
      obtain ⟨_, va1, vc1, rfl, _⟩ := SL.of_owns hrow
      have h1 : Blk w p [.int .i64 (s.room : Int), .map (some m1), .bool s.off, .int .i64 s.plan] 89 := by obtain ⟨_, _, h1, _⟩ := hW.ex; exact h1
      have c1 := h1.cell (i := 1) rfl
      have hlk := MF.look hM Try.underlying3 Try.underlying87 infoFile (key := (i : Int)) ⟨by omega, by omega⟩
      rw [hval] at hlk
      have hfd := field_file (.slice va1 (s.B i).length vc1) (.int .i64 (s.F i : Int))
      clear hW hrow hM hval h1 h hfile hbad h64 hz0
      go_enter Try.func51, Try.ntmps51
      go_wp2_with (go_at_call 54; refine (HI.out).mono ?_; rintro e w' ⟨rfl, rfl⟩)
      go_ret
      exact ⟨rfl, rfl⟩
set_option maxRecDepth 100000 in
set_option maxHeartbeats 4000000 in
theorem Trunc_good (h : Dk w p s S) {i z : Nat} (hi : i < 64) (hz : z ≤ (s.B i).length) :
    Calls Try.prog 51 #[.pointer (some ⟨p, 0, none⟩), .int .i64 (i : Int), .int .i64 (z : Int)] w fun e w' => e = .returned (.int .i64 (truncS s (i : Int) (z : Int)).1) ∧ Dk w' p (truncS s (i : Int) (z : Int)).2 S ∧ Upd S w w' := by
  have hfile : isF (i : Int) = true := isF_iff.2 ⟨by omega, by omega⟩
  have HI := Lib.hid (isFile_calls (w := w) (i : Int))
  rw [hfile] at HI
  have hnb : ¬ (isF (i : Int) = false ∨ (z : Int) < 0 ∨ ((s.B (i : Int).toNat).length : Int) < (z : Int)) := by rw [hfile, Int.toNat_natCast]; simp; omega
  have hzi : (z : Int) ≤ ((s.B i).length : Int) := by omega
  obtain ⟨m1, fm, v1, hW, hM, hval, hrow, _⟩ := h.out hi
  obtain ⟨_, va1, vc1, rfl, _⟩ := SL.of_owns hrow
  have h1 : Blk w p [.int .i64 (s.room : Int), .map (some m1), .bool s.off, .int .i64 s.plan] 89 := by obtain ⟨_, _, h1, _⟩ := hW.ex; exact h1
  have c1 := h1.cell (i := 1) rfl
  have c2 := h1.cell (i := 2) rfl
  have hlk := MF.look hM Try.underlying3 Try.underlying87 infoFile (key := (i : Int)) ⟨by omega, by omega⟩
  rw [hval] at hlk
  have hfd := field_file (.slice va1 (s.B i).length vc1) (.int .i64 (s.F i : Int))
  have hlB := h.ok.len i
  have H := Lib.hid h
  clear hW hrow hM hval h1 h hfile
  cases hoff : s.off with
  | true =>
    have HR := Lib.hid (show truncS s (i : Int) (z : Int) = (23, s) by unfold truncS; rw [if_neg hnb, if_pos hoff])
    rw [hoff] at c2
    clear hoff hnb
    go_enter Try.func51, Try.ntmps51
    go_wp2_with (go_at_call 54; refine (HI.out).mono ?_; rintro e w' ⟨rfl, rfl⟩)
    go_ret
    rw [HR.out]
    exact ⟨rfl, H.out, Upd.refl _ _⟩
  | false =>
    rw [hoff] at c2
    have HFA := Lib.hid (fails_calls H.out)
    have hpS := Lib.hid H.out.p_mem
    cases hst : (stepS s).1 with
    | true =>
      have HR := Lib.hid (show truncS s (i : Int) (z : Int) = (23, (stepS s).2) by unfold truncS; rw [if_neg hnb, if_neg (by rw [hoff]; simp), if_pos hst])
      rw [hst] at HFA
      clear hoff hnb hst
      go_enter Try.func51, Try.ntmps51
      go_wp2_with (first | (go_at_call 54; refine (HI.out).mono ?_; rintro e w' ⟨rfl, rfl⟩) | (go_at_call 56; refine HFA.out.mono ?_; rintro e w1 ⟨rfl, h6, u6⟩))
      go_ret
      rw [HR.out]
      exact ⟨rfl, h6, u6.wide (fun k hk => by simp at hk; subst hk; exact .inl hpS.out)⟩
    | false =>
      have HR := Lib.hid (show truncS s (i : Int) (z : Int) = (0, { (stepS s).2 with B := setB s.B i ((s.B i).take z), F := setF s.F i (min (s.F i) z) }) by
        unfold truncS; rw [if_neg hnb, if_neg (by rw [hoff]; simp), if_neg (by rw [hst]; simp), Int.toNat_natCast, Int.toNat_natCast])
      rw [hst] at HFA
      obtain ⟨hB, hF, hrm⟩ := stepS_B s
      rw [← hB, ← hF] at HR
      rw [← hB] at hz hlB
      generalize hs1 : (stepS s).2 = s1 at *
      have HK := Lib.hid (And.intro hz hs1)
      clear hoff hnb hst hs1 hB hF hrm
      go_enter Try.func51, Try.ntmps51
      go_upto_region 5 with (first | (go_at_call 54; refine (HI.out).mono ?_; rintro e w' ⟨rfl, rfl⟩) | (go_at_call 56; refine HFA.out.mono ?_; rintro e w1 ⟨rfl, h6, u6⟩))
      have HUA := Lib.hid (And.intro h6 u6)
      clear c1 c2 hlk hfd h6 u6
      obtain ⟨m2, f2, v2, hW, hM, hval, hrow, _⟩ := HUA.out.1.out hi
      obtain ⟨_, va2, vc2, rfl, hcap, _⟩ := SL.of_owns hrow
      have h1 : Blk w1 p [.int .i64 (s1.room : Int), .map (some m2), .bool s1.off, .int .i64 s1.plan] 89 := by obtain ⟨_, _, h1, _⟩ := hW.ex; exact h1
      have c1 := h1.cell (i := 1) rfl
      have hlt := h1.lt
      have hsl := sliced_pre ((owns_addr hrow).elim (fun h => .inl h.1) (fun ⟨g, hg⟩ => .inr ⟨g, 0, hg⟩)) z vc2
      have hzc : (z : Int) ≤ vc2 := by have := HK.out.1; omega
      have HM := Lib.hid hM
      have HV := Lib.hid hval
      have HW := Lib.hid (And.intro hW hrow)
      clear hW hrow hM hval h1
      go_upto_region 6 with (first | (at_lookup; refine wpList_mflook (k := 3) Try.underlying3 Try.underlying87 infoFile _ _ rfl rfl m2 64 f2 (i : Int) rfl rfl HM.out ⟨by omega, by omega⟩ ?_; rw [HV.out]) | go_in)
      have ubx : Upd [] w1 (w1.alloc (.cells #[.slice va2 (s1.B i).length vc2, .int .i64 (s1.F i : Int)] 91)) := (Upd.refl _ w1).alloc _
      have bbx := Blk.new w1 [.slice va2 (s1.B i).length vc2, .int .i64 (s1.F i : Int)] 91
      have hqS : w1.heap.size ∉ S := fun hm => by have := HW.out.1.lt _ hm; omega
      have hqw : w.heap.size ≤ w1.heap.size := HUA.out.2.size
      have HX := Lib.hid (And.intro (HW.out.1.upd ubx (by simp)) (And.intro (ownsRow_updL HW.out.2 ubx (by simp)) (And.intro ((HUA.out.2.wide (T := S) (fun k hk => by simp at hk; subst hk; exact .inl hpS.out)).step ubx) (And.intro bbx (And.intro hqS hqw)))))
      clear ubx bbx hqS hqw HW HV HM c1 hlt
      generalize hq : w1.heap.size = q at *
      have e0 := HX.out.2.2.2.1.cell (i := 0) rfl
      have e1 := HX.out.2.2.2.1.cell (i := 1) rfl
      have g0 := HX.out.2.2.2.1.free 0
      have g1 := HX.out.2.2.2.1.free 1
      generalize w1.alloc (.cells #[.slice va2 (s1.B i).length vc2, .int .i64 (s1.F i : Int)] 91) = w2 at *
      clear hq
      have hmn : min (s1.F i : Int) (z : Int) = ((min (s1.F i) z : Nat) : Int) := by omega
      have HMN := Lib.hid hmn
      clear hmn
      go_upto_region 8 with fail
      rw [HMN.out]
      have b4 := (HX.out.2.2.2.1.set 0 (.slice va2 z vc2)).set 1 (.int .i64 (min (s1.F i) z : Nat))
      have U24 : Upd [q] w2 ((w2.setCell ⟨q, 0, none⟩ (.slice va2 z vc2)).setCell ⟨q, 1, none⟩ (.int .i64 (min (s1.F i) z : Nat))) := ((Upd.refl _ w2).set (.inl (by simp)) _).set (.inl (by simp)) _
      simp only [List.set_cons_zero, List.set_cons_succ] at b4
      have hW4 := HX.out.1.upd U24 (fun k hk => .inr (by simp at hk; subst hk; exact HX.out.2.2.2.2.1))
      have row4 := ownsRow_updL (own_pre HX.out.2.1 HK.out.1) U24 (fun b hb e => HX.out.2.2.2.2.1 (by simp only [List.mem_singleton] at hb; subst hb; exact (HX.out.1.own b (by rw [ob_eq va2 _ z vc2 vc2, e]; simp)).1))
      rw [Nat.mul_one, byts_take] at row4
      have Uall : Upd S w ((w2.setCell ⟨q, 0, none⟩ (.slice va2 z vc2)).setCell ⟨q, 1, none⟩ (.int .i64 (min (s1.F i) z : Nat))) := (HX.out.2.2.1).fresh U24 (fun k hk => .inr (by simp at hk; subst hk; exact HX.out.2.2.2.2.2))
      have H4 := Lib.hid (And.intro hW4 (And.intro row4 Uall))
      clear hW4 row4 Uall U24 e0 e1 g0 g1
      have d0 := b4.cell (i := 0) rfl
      have d1 := b4.cell (i := 1) rfl
      clear b4
      generalize (w2.setCell ⟨q, 0, none⟩ (.slice va2 z vc2)).setCell ⟨q, 1, none⟩ (.int .i64 (min (s1.F i) z : Nat)) = w4 at *
      have htl : ((s1.B i).take z).length = z := by rw [List.length_take]; have := HK.out.1; omega
      have HPC := Lib.hid (put_calls (b := (s1.B i).take z) (n := min (s1.F i) z) (v := .slice va2 z vc2) H4.out.1 (by rw [htl]; exact H4.out.2.1) (fun g hg => by rw [ob_eq va2 _ z vc2 vc2, hg]; simp) (trunc_F HUA.out.1.ok HK.out.1))
      have hm2 : m2 ∈ S := by obtain ⟨_, _, _, _, _, _, _, h6, _⟩ := H4.out.1.ex; exact h6
      have HM2 := Lib.hid hm2
      clear hm2
      go_wp2_with (go_at_call 55; refine HPC.out.mono ?_; rintro e w5 ⟨rfl, h5, u5⟩)
      go_ret
      rw [HR.out]
      exact ⟨rfl, h5, H4.out.2.2.trans (u5.wide (fun k hk => by simp at hk; subst hk; exact .inl HM2.out))⟩
end
end Disk
end Go.Proofs.Ytfkgpecglcjpkaa
