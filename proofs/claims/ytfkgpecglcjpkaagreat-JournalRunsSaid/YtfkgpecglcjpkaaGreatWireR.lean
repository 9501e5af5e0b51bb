/- Walks through package wire: the reader. Conditions: none. -/
import Derived.Test.YtfkgpecglcjpkaaGreatWireW
import Derived.Test.YtfkgpecglcjpkaaGreatSame
set_option linter.unusedVariables false
set_option linter.unusedSimpArgs false
set_option linter.unusedSectionVars false
open Go.RowKit
namespace Go.Proofs.YtfkgpecglcjpkaaGreat
open L
namespace Wire
open R01
/-- A reader at block q over the bytes bs, at place p, with error e; S are its blocks. -/
structure Rd (w : World) (q : Nat) (bs : List Int) (p : Nat) (e : Int) (S : List Nat) : Prop where
  u8 : ∀ x ∈ bs, IsU8 x
  len : bs.length ≤ 70368744177664
  ex : ∃ sv, S = q :: sv.ownBlock.toList ∧ Blk w q [sv, .int .i64 p, .int .i64 e] 118 ∧ SL w 1 sv bs.length (byts bs) ∧ sv.ownBlock ≠ some q
  pl : p ≤ bs.length
  lt : ∀ k ∈ S, k < w.heap.size
section
variable {w w' : World} {q : Nat} {bs : List Int} {p : Nat} {e : Int} {S : List Nat}
theorem Rd.upd {T : List Nat} (h : Rd w q bs p e S) (hu : Upd T w w') (hd : ∀ k ∈ S, k ∉ T) : Rd w' q bs p e S := by
  obtain ⟨sv, rfl, h1, h2, h3⟩ := h.ex
  exact ⟨h.u8, h.len, ⟨sv, rfl, h1.upd hu (hd _ (by simp)), h2.upd hu (fun k hk hv => hd k (by simp [hv]) hk), h3⟩, h.pl, fun k hk => Nat.lt_of_lt_of_le (h.lt k hk) hu.size⟩
theorem Rd.set {p' : Nat} {e' : Int} {sv : Value} (h : Rd w q bs p e (q :: sv.ownBlock.toList)) (hB : Blk w' q [sv, .int .i64 p', .int .i64 e'] 118) (h2 : SL w 1 sv bs.length (byts bs)) (h3 : sv.ownBlock ≠ some q) (hu : Upd [q] w w') (hp : p' ≤ bs.length) :
    Rd w' q bs p' e' (q :: sv.ownBlock.toList) :=
  ⟨h.u8, h.len, ⟨sv, rfl, hB, h2.upd hu (by simpa using h3), h3⟩, hp, fun k hk => Nat.lt_of_lt_of_le (h.lt k hk) hu.size⟩
def RdT (q : Nat) (bs : List Int) (S : List Nat) (w : World) (r : Nat × Nat × Int) (v : Value) (e : Ending) (w' : World) : Prop :=
  e = .returned v ∧ Rd w' q bs r.2.1 r.2.2 S ∧ Upd [q] w w'
set_option maxRecDepth 100000 in
set_option maxHeartbeats 2000000 in
theorem Uint_r_calls (h : Rd w q bs p e S) : Calls Tryz.prog 86 #[.pointer (some ⟨q, 0, none⟩)] w (RdT q bs S w (rdU bs p e) (.int .u64 (rdU bs p e).1)) := by
  obtain ⟨sv, rfl, hB, hO, hne⟩ := h.ex
  obtain ⟨a, cap, rfl, q1, r1, hc⟩ := SL.form hO
  have c0 := hB.cell (i := 0) rfl
  have c1 := hB.cell (i := 1) rfl
  have c2 := hB.cell (i := 2) rfl
  have hql := hB.lt
  have hpl := h.pl
  have hbl := h.len
  have HH := Lib.hid (And.intro h (And.intro hB hO))
  have HC := Lib.hid hc
  clear h hB hO hc
  by_cases he : e = 0
  · subst he
    have HE := Lib.hid (show rdU bs p 0 = rdF bs p 10 0 0 by simp [rdU])
    go_enter Tryz.func86, Tryz.ntmps86
    go_wp2_with fail
    go_loopw [3, 4] (fun n i wr => ∃ k acc : Nat, k ≤ 9 ∧ i = .int .i64 k ∧ n = .int .u64 acc ∧ acc < 128 ^ k ∧ rdU bs p 0 = rdF bs p (10 - k) k acc ∧ Upd [] w wr) (fun _ i _ => 10 - (intOf i).toNat)
    case atStart => exact ⟨0, 0, by omega, rfl, rfl, by omega, HE.out, Upd.refl _ _⟩
    case round =>
      obtain ⟨k, acc, hk, rfl, rfl, hacc, hrd, hu⟩ := hrel
      have HA := Lib.hid (And.intro hacc hrd)
      clear hacc hrd
      have d0 := hu.some c0 (by simp)
      have d1 := hu.some c1 (by simp)
      have d2 := hu.some c2 (by simp)
      have hql2 : q < wr.heap.size := by have := hu.size; omega
      by_cases hlt : p + k < bs.length
      · obtain ⟨g, off, rfl, hcc⟩ := HC.out (by omega)
        have d3 := hu.some (hcc (p + k) _ (byts_get (List.getElem?_eq_getElem hlt))) (by simp)
        have hcu := HH.out.1.u8 _ (List.getElem_mem hlt)
        have hcg : bs[p + k]? = some bs[p + k] := List.getElem?_eq_getElem hlt
        have HG := Lib.hid hcg
        generalize bs[p + k] = c at *
        clear hcc hcg
        obtain ⟨hc0, hc1⟩ := hcu
        have hlt2 : (p : Int) + k < bs.length := by omega
        have e1 : ((p : Int) + k).toNat = p + k := by omega
        go_wp2_with fail
        refine wp_region_qx (by kernel_rfl) (by kernel_rfl) ?_
        repeat (go_big_quiet_step ((fail)))
        refine wpQuiet_nil ?_
        intro x
        have hu1 := hu.step x.upd
        go_wp2_with fail
        refine wp_region_qx (by kernel_rfl) (by kernel_rfl) ?_
        repeat (go_big_quiet_step ((fail)))
        refine wpQuiet_nil ?_
        intro x
        have hu2 := hu1.step x.upd
        generalize x.val = w2 at *
        clear d0 d1 d2 d3 e1 hu1 x hu
        go_upto_region 10 with fail
        go_cut [53] (fun t w3 => w3 = w2 ∧ t = .bool (decide ((k = 9 ∧ 1 < c) ∨ (0 < k ∧ c = 0))))
        case first =>
          rcases (by omega : (k = 9 ∧ 1 < c) ∨ (k = 9 ∧ c = 0) ∨ (k = 9 ∧ c = 1) ∨ (k < 9 ∧ 0 < k ∧ c = 0) ∨ (k < 9 ∧ 0 < k ∧ 0 < c) ∨ k = 0) with ⟨h1, h2⟩ | ⟨h1, h2⟩ | ⟨h1, h2⟩ | ⟨h1, h2, h3⟩ | ⟨h1, h2, h3⟩ | h1
          · subst h1
            go_wp2_with fail
            go_meet
            case rel => exact ⟨rfl, by simp [h2]⟩
          · subst h1; subst h2
            go_wp2_with fail
            go_meet
            case rel => exact ⟨rfl, by simp⟩
          · subst h1; subst h2
            go_wp2_with fail
            go_meet
            case rel => exact ⟨rfl, by simp⟩
          · subst h3
            have b9 : ((k : Int) == 9) = false := by simp; omega
            go_wp2_with fail
            go_meet
            case rel => exact ⟨rfl, by simp [h2]⟩
          · have b9 : ((k : Int) == 9) = false := by simp; omega
            have b0 : (c == 0) = false := by simp; omega
            go_wp2_with fail
            go_meet
            case rel => exact ⟨rfl, by rw [decide_eq_false (by omega)]⟩
          · subst h1
            go_wp2_with fail
            go_meet
            case rel => exact ⟨rfl, by rw [decide_eq_false (by omega)]⟩
        case rest =>
        obtain ⟨rfl, rfl⟩ := hcut
        have B1 := HH.out.2.1.upd hu2 (by simp)
        have c0' := B1.cell (i := 0) rfl
        have c1' := B1.cell (i := 1) rfl
        have c2' := B1.cell (i := 2) rfl
        have f2 := B1.free 2
        have f1 := B1.free 1
        by_cases hbad : (k = 9 ∧ 1 < c) ∨ (0 < k ∧ c = 0)
        · rw [decide_eq_true hbad]
          have er : rdU bs p 0 = (0, p, 2) := by
            rw [HA.out.2, show 10 - k = (9 - k) + 1 by omega, rdF, HG.out]
            simp only [if_pos hbad]
          clear hbad
          go_wp2_with fail
          go_ret
          rw [er]
          have us := (Upd.refl [q] wc).set (p := ⟨q, 2, none⟩) (by simp) (.int .i64 2)
          exact ⟨rfl, Rd.set HH.out.1 (B1.set 2 _) HH.out.2.2 hne ((hu2.nil).trans us) hpl, (hu2.nil).trans us⟩
        · rw [decide_eq_false hbad]
          have hor := or_acc (acc := acc) (k := k) (c := c) ⟨hc0, hc1⟩ hk HA.out.1 (fun h => by omega)
          have HB := Lib.hid (And.intro hbad hor)
          clear hbad hor
          by_cases hc128 : c < 128
          · have er : rdU bs p 0 = (acc + c.toNat % 128 * 128 ^ k, p + k + 1, 0) := by
              rw [HA.out.2, show 10 - k = (9 - k) + 1 by omega, rdF, HG.out]
              simp only [if_neg HB.out.1, if_pos hc128]
            go_wp2_with fail
            go_ret
            rw [er]
            have us := (Upd.refl [q] wc).set (p := ⟨q, 1, none⟩) (by simp) (.int .i64 ((p : Int) + ((k : Int) + 1)))
            have B2 := B1.set 1 (.int .i64 ((p : Int) + ((k : Int) + 1)))
            rw [show (p : Int) + ((k : Int) + 1) = ((p + k + 1 : Nat) : Int) by omega] at B2 us ⊢
            exact ⟨ret_int HB.out.2, Rd.set HH.out.1 B2 HH.out.2.2 hne ((hu2.nil).trans us) (show p + k + 1 ≤ bs.length by omega), (hu2.nil).trans us⟩
          · go_wp2_with fail
            have hk9 : k < 9 := by have := HB.out.1; omega
            refine ⟨⟨k + 1, acc + c.toNat % 128 * 128 ^ k, by omega, by go_num, by rw [HB.out.2], acc_lt HA.out.1 (by omega), ?_, hu2⟩, by simp [intOf]; omega⟩
            rw [HA.out.2, show 10 - k = (9 - k) + 1 by omega, rdF, HG.out]
            simp only [if_neg HB.out.1, if_neg hc128]
            congr 1
            omega
      · have hge : ¬ (p : Int) + k < bs.length := by omega
        go_wp2_with fail
        refine wp_region_qx (by kernel_rfl) (by kernel_rfl) ?_
        repeat (go_big_quiet_step ((fail)))
        refine wpQuiet_nil ?_
        intro x
        have B1 := HH.out.2.1.upd (hu.step x.upd) (by simp)
        have f2 := B1.free 2
        go_wp2_with fail
        go_ret
        have er : rdU bs p 0 = (0, p, 3) := by
          rw [HA.out.2, show 10 - k = (9 - k) + 1 by omega, rdF, List.getElem?_eq_none (by omega)]
        rw [er]
        have us := (Upd.refl [q] x.val).set (p := ⟨q, 2, none⟩) (by simp) (.int .i64 3)
        exact ⟨rfl, Rd.set HH.out.1 (B1.set 2 _) HH.out.2.2 hne (((hu.step x.upd).nil).trans us) hpl, ((hu.step x.upd).nil).trans us⟩
  · have HE := Lib.hid (show rdU bs p e = (0, p, e) by simp [rdU, he])
    go_enter Tryz.func86, Tryz.ntmps86
    go_wp2_with fail
    go_ret
    rw [HE.out]
    exact ⟨rfl, HH.out.1, Upd.refl _ _⟩
/-- Reading a signed number. -/
def rdI (bs : List Int) (p : Nat) (e : Int) : Int × Nat × Int := (uzz (rdU bs p e).1, (rdU bs p e).2)
theorem Int_r_calls (h : Rd w q bs p e S) (hlt : (rdU bs p e).1 < 18446744073709551616) : Calls Tryz.prog 74 #[.pointer (some ⟨q, 0, none⟩)] w (RdT q bs S w (rdU bs p e) (.int .i64 (uzz (rdU bs p e).1))) := by
  have HU := Lib.hid (Uint_r_calls h)
  generalize rdU bs p e = r at *
  obtain ⟨u, p', e'⟩ := r
  simp only at hlt HU ⊢
  have HX := Lib.hid (xor_uzz hlt)
  have HA := Lib.hid (and1 u hlt)
  clear hlt h
  go_enter Tryz.func74, Tryz.ntmps74
  go_wp2_with fail
  refine HU.out.mono ?_
  rintro e w1 ⟨rfl, hr⟩
  have HR := Lib.hid hr
  clear hr
  go_wp2_with fail
  go_ret
  refine ⟨ret_int ?_, HR.out⟩
  have hx := HX.out
  rw [IntWalk.i64_left, IntWalk.i64_left, show ((u / 2 : Nat) : Int) = (u : Int) / 2 by omega] at hx
  rw [HA.out, IntWalk.wrap64_in ((u % 2 : Nat) : Int) (by omega), hx]
theorem End_calls (h : Rd w q bs p e S) : Calls Tryz.prog 76 #[.pointer (some ⟨q, 0, none⟩)] w fun e' w' => e' = .returned (.int .i64 (if e ≠ 0 then e else if p < bs.length then 2 else 0)) ∧ Upd [] w w' := by
  obtain ⟨sv, rfl, hB, hO, hne⟩ := h.ex
  obtain ⟨a, cap, rfl, q1, r1, hc⟩ := SL.form hO
  have c0 := hB.cell (i := 0) rfl
  have c1 := hB.cell (i := 1) rfl
  have c2 := hB.cell (i := 2) rfl
  have hpl := h.pl
  clear h hB hO hc
  by_cases he : e = 0
  · subst he
    by_cases hlt : p < bs.length
    · have hlt2 : (p : Int) < bs.length := by omega
      go_enter Tryz.func76, Tryz.ntmps76
      go_wp2_with fail
      refine wp_region_qx (by kernel_rfl) (by kernel_rfl) ?_
      repeat (go_big_quiet_step ((fail)))
      refine wpQuiet_nil ?_
      intro x
      go_wp2_with fail
      go_ret
      exact ⟨ret_int (by simp [hlt]), x.upd⟩
    · have hlt2 : ¬ (p : Int) < bs.length := by omega
      go_enter Tryz.func76, Tryz.ntmps76
      go_wp2_with fail
      refine wp_region_qx (by kernel_rfl) (by kernel_rfl) ?_
      repeat (go_big_quiet_step ((fail)))
      refine wpQuiet_nil ?_
      intro x
      go_wp2_with fail
      go_ret
      exact ⟨ret_int (by simp [hlt]), x.upd⟩
  · have hb : (e != 0) = true := by simpa using he
    go_enter Tryz.func76, Tryz.ntmps76
    go_wp2_with fail
    go_ret
    exact ⟨ret_int (by simp [he]), Upd.refl _ _⟩
theorem Read_calls {v : Value} {xs : List Int} (h : SL w 1 v xs.length (byts xs)) (hx : ∀ x ∈ xs, IsU8 x) (hl : xs.length ≤ 70368744177664) :
    Calls Tryz.prog 73 #[v] w fun e w' => ∃ q S, e = .returned (.pointer (some ⟨q, 0, none⟩)) ∧ Rd w' q xs 0 0 S ∧ Upd [] w w' ∧ ∀ j ∈ S, w.heap.size ≤ j := by
  have HC := Lib.hid (Clone_calls h hl)
  go_enter Tryz.func73, Tryz.ntmps73
  go_wp2_with fail
  refine HC.out.mono ?_
  rintro e w1 ⟨a, cap, rfl, ho, hu⟩
  go_wp2_with fail
  go_ret
  have u2 := (Upd.refl [] w1).alloc (.cells #[.slice a xs.length cap, .int .i64 0, .int .i64 0] 118)
  have ol := ho.lt
  have hs := hu.size
  refine ⟨w1.heap.size, w1.heap.size :: (Value.slice a xs.length cap).ownBlock.toList, rfl, ⟨hx, hl, ⟨_, rfl, Blk.new w1 [.slice a xs.length cap, .int .i64 ((0 : Nat) : Int), .int .i64 0] 118, (ho.upd u2 (by simp)).sl, fun hh => by have := ol _ hh; omega⟩, Nat.zero_le _, fun k hk => by
    simp only [List.mem_cons, Option.mem_toList] at hk
    rcases hk with rfl | hk
    · simp
    · have := ol _ hk; simp; omega⟩, hu.step u2, fun j hj => ?_⟩
  simp only [List.mem_cons, Option.mem_toList] at hj
  rcases hj with rfl | hj
  · exact hs
  · exact ho.fresh j hj
end
end Wire
end Go.Proofs.YtfkgpecglcjpkaaGreat
