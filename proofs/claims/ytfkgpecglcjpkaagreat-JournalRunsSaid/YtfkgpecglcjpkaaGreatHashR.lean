/- Walks through the reference of package hash: Words, mix, Sum, Bytes. Conditions: none. -/
import Derived.Lib.ConvBytes
import Derived.Test.YtfkgpecglcjpkaaGreatHashP
import Derived.Test.YtfkgpecglcjpkaaGreatOwnB
import Derived.Test.YtfkgpecglcjpkaaGreatOwn
import Derived.Test.YtfkgpecglcjpkaaGreatSame
set_option linter.unusedVariables false
set_option linter.unusedSimpArgs false
set_option linter.unusedSectionVars false
open Go.RowKit
namespace Go.Proofs.YtfkgpecglcjpkaaGreat
open L
namespace Hash
open Wire R14 R01
theorem infoU64 : (Tryz.prog.info? 77).map (fun i => (i.zero, i.size, i.bytes)) = some (some (.int .u64 0), 1, 8) := by kernel_rfl
def u64s (l : List Nat) : List Value := l.map fun (n : Nat) => Value.int .u64 (n : Int)
theorem u64s_one (l : List Nat) : ∀ u ∈ u64s l, u.oneCell' = true := by
  intro u hu
  obtain ⟨_, _, rfl⟩ := List.mem_map.1 hu
  rfl
theorem u64s_get {l : List Nat} {i n : Nat} (h : l[i]? = some n) : (u64s l)[i]? = some (.int .u64 (n : Int)) := by simp [u64s, h]
theorem u64s_append (l m : List Nat) : u64s (l ++ m) = u64s l ++ u64s m := by simp [u64s]
theorem u64s_length (l : List Nat) : (u64s l).length = l.length := by simp [u64s]
section
variable {w : World}
theorem mixv {s v : Nat} (hs : s < 18446744073709551616) (hv : v < 18446744073709551616) :
    bits .xor .u64 (IntKind.u64.wrap (bits .xor .u64 (s : Int) (v : Int) * 11400714819323198485)) (IntKind.u64.wrap (IntKind.u64.wrap (bits .xor .u64 (s : Int) (v : Int) * 11400714819323198485) / 4294967296)) = ((mixN s v : Nat) : Int) := by
  rw [xor_u64 hs hv, mixN_def]
  have e1 : IntKind.u64.wrap (((s ^^^ v : Nat) : Int) * 11400714819323198485) = (((s ^^^ v) * 11400714819323198485 % 18446744073709551616 : Nat) : Int) := by
    rw [IntKind.wrap_u64]; omega
  rw [e1]
  generalize hm : (s ^^^ v) * 11400714819323198485 % 18446744073709551616 = m
  have hm' : m < 18446744073709551616 := by rw [← hm]; exact Nat.mod_lt _ (by omega)
  have e2 : IntKind.u64.wrap ((m : Int) / 4294967296) = ((m / 4294967296 : Nat) : Int) := by rw [IntKind.wrap_u64]; omega
  rw [e2, xor_u64 hm' (by omega)]
theorem mixw {s v : Nat} (hs : s < 18446744073709551616) (hv : v < 18446744073709551616) :
    bits .xor .u64 (IntKind.u64.wrap (bits .xor .u64 (s : Int) (v : Int) * 11400714819323198485)) (IntKind.u64.wrap (bits .xor .u64 (s : Int) (v : Int) * 11400714819323198485) / 4294967296) = ((mixN s v : Nat) : Int) := by
  rw [← mixv hs hv]
  congr 1
  rw [IntKind.wrap_u64, IntKind.wrap_u64]
  omega
set_option maxHeartbeats 1000000 in
theorem Mix_calls (s v : Nat) (hs : s < 18446744073709551616) (hv : v < 18446744073709551616) : Calls Tryz.prog 85 #[.int .u64 s, .int .u64 v] w fun e w' => e = .returned (.int .u64 (mixN s v : Nat)) ∧ w = w' := by
  have HM := Lib.hid (mixv hs hv)
  clear hs hv
  go_enter Tryz.func85, Tryz.ntmps85
  go_wp2_with fail
  go_ret
  exact ⟨ret_int HM.out, rfl⟩
set_option maxHeartbeats 1000000 in
theorem MixP_calls (s v : Nat) (hs : s < 18446744073709551616) (hv : v < 18446744073709551616) : Calls Tryz.prog 71 #[.int .u64 s, .int .u64 v] w fun e w' => e = .returned (.int .u64 (mixN s v : Nat)) ∧ w = w' := by
  have HM := Lib.hid (mixw hs hv)
  clear hs hv
  go_enter Tryz.func71, Tryz.ntmps71
  go_wp2_with fail
  go_ret
  exact ⟨ret_int HM.out, rfl⟩
theorem leN_drop {bs : List Int} {j r : Nat} (h : r < ((bs.drop j).take 8).length) (hu : ∀ x ∈ bs, IsU8 x) : ∃ x, bs[j + r]? = some x ∧ IsU8 x ∧ leN (((bs.drop j).take 8).drop r) = x.toNat + 256 * leN (((bs.drop j).take 8).drop (r + 1)) ∧
    x.toNat + 256 * leN (((bs.drop j).take 8).drop (r + 1)) < 18446744073709551616 := by
  have h2 := List.getElem?_eq_getElem h
  have h3 : ((bs.drop j).take 8).drop r = ((bs.drop j).take 8)[r] :: ((bs.drop j).take 8).drop (r + 1) := List.drop_eq_getElem_cons h
  have h4 : ((bs.drop j).take 8)[r]? = bs[j + r]? := by
    have : r < 8 := by rw [List.length_take] at h; omega
    rw [List.getElem?_take, if_pos this, List.getElem?_drop]
  have h5 : ∀ x ∈ (((bs.drop j).take 8).drop r), IsU8 x := fun x hx => take_u8 hu j 8 x (List.mem_of_mem_drop hx)
  have h6 := leN_lt _ h5
  have h7 : (((bs.drop j).take 8).drop r).length ≤ 8 := by rw [List.length_drop, List.length_take]; omega
  have h8 : 256 ^ (((bs.drop j).take 8).drop r).length ≤ 256 ^ 8 := Nat.pow_le_pow_right (by omega) h7
  refine ⟨_, by rw [← h4]; exact h2, take_u8 hu j 8 _ (List.getElem_mem h), by rw [h3, leN], ?_⟩
  rw [h3, leN] at h6
  rw [h3] at h8
  omega
set_option maxRecDepth 100000 in
set_option maxHeartbeats 4000000 in
theorem Words_calls {v : Value} {bs : List Int} (hs : SL w 1 v bs.length (byts bs)) (hu : ∀ x ∈ bs, IsU8 x) (hl : bs.length ≤ 70368744177664) :
    Calls Tryz.prog 68 #[v] w fun e w' => ∃ a cap, e = .returned (.slice a (nw bs) cap) ∧ OwnV w 77 1 (.slice a (nw bs) cap) (nw bs) (u64s (wds bs (nw bs))) w' ∧ Upd [] w w' := by
  obtain ⟨a, cap, rfl, q1, r1, hc⟩ := SL.form hs
  have HC := Lib.hid (And.intro hc hu)
  have HN := Lib.hid (show nw bs = (bs.length + 7) / 8 from rfl)
  have hn0 : nw bs ≤ 8796093022209 := by unfold nw; omega
  clear hs hc hu
  generalize nw bs = n at *
  go_enter Tryz.func68, Tryz.ntmps68
  go_wp2_with fail
  go_loopw [3, 4] (fun o i wr => ∃ j : Nat, i = .int .i64 ((8 * j : Nat) : Int) ∧ j ≤ n ∧ OwnV w 77 1 o j (u64s (wds bs j)) wr ∧ Upd [] w wr) (fun _ i _ => n - (intOf i).toNat / 8)
  case atStart => exact ⟨0, rfl, Nat.zero_le _, OwnV.nil _ _ _ _, Upd.refl _ _⟩
  case round =>
    obtain ⟨wo, rfl⟩ : ∃ wk : World, wk = wr := ⟨_, rfl⟩
    obtain ⟨j, rfl, hj, hO, hU⟩ := hrel
    have HO := Lib.hid (And.intro hO hU)
    obtain ⟨ao, co, rfl, _, _⟩ := hO.sl.val
    clear hO hU
    by_cases hlt : j < n
    · have hlt2 : 8 * j < bs.length := by have := HN.out; omega
      have hlt3 : ((8 * j : Nat) : Int) < bs.length := by omega
      obtain ⟨m, hm1, hm2⟩ : ∃ m : Nat, m = ((bs.drop (8 * j)).take 8).length ∧ (min (((8 * j : Nat) : Int) + 8) bs.length) = ((8 * j + m : Nat) : Int) := ⟨_, rfl, by rw [List.length_take, List.length_drop]; omega⟩
      have HM := Lib.hid hm1
      have hm3 : 8 * j + m ≤ bs.length := by rw [hm1, List.length_take, List.length_drop]; omega
      have hm4 : m ≤ 8 := by rw [hm1, List.length_take]; omega
      have HM2 := Lib.hid hm2
      clear hm1 hm2
      generalize hjj : 8 * j = jj at *
      have HJ := Lib.hid hjj
      clear hjj
      go_upto_region 6 with fail
      go_cut [6] (fun k w' => k = .int .i64 (((jj + m : Nat) : Int) - 1) ∧ w' = wo)
      case first =>
        go_wp2_with fail
        all_goals
          go_meet
          case rel => exact ⟨by congr 1; have := HM2.out; omega, rfl⟩
      case rest =>
      obtain ⟨rfl, rfl⟩ := hcut
      go_wp2_with fail
      go_loopw [5, 6] (fun u k wr => ∃ r : Nat, k = .int .i64 (((jj + r : Nat) : Int) - 1) ∧ r ≤ m ∧ u = .int .u64 ((leN (((bs.drop jj).take 8).drop r) : Nat) : Int) ∧ Upd [] wc wr) (fun _ k _ => (intOf k + 1 - jj).toNat)
      case atStart => exact ⟨m, rfl, Nat.le_refl _, by rw [List.drop_eq_nil_of_le (by have := HM.out; omega)]; rfl, Upd.refl _ _⟩
      case round =>
        obtain ⟨r, rfl, hr, rfl, hu⟩ := hrel
        by_cases hr0 : 0 < r
        · obtain ⟨x, hx1, hx2, hx3, hx4⟩ := leN_drop (bs := bs) (j := jj) (r := r - 1) (by have := HM.out; omega) HC.out.2
          rw [show r - 1 + 1 = r by omega] at hx3 hx4
          obtain ⟨g, off, rfl, hcc⟩ := HC.out.1 (by omega)
          have hd := (HO.out.2.step hu).some (hcc _ _ (byts_get hx1)) (by simp)
          have HX := Lib.hid hx3
          generalize leN (((bs.drop jj).take 8).drop r) = A at *
          have e1 : ((jj + r : Nat) : Int) - 1 = ((jj + (r - 1) : Nat) : Int) := by omega
          rw [e1]
          generalize hq : jj + (r - 1) = q at *
          have hql : q < bs.length := (List.getElem?_eq_some_iff.1 hx1).1
          have HQ := Lib.hid hq
          have HU := Lib.hid hu
          have hge : (jj : Int) ≤ (q : Int) := by omega
          obtain ⟨hx0, hx5⟩ := hx2
          have hxn : (x.toNat : Int) = x := by omega
          have hsum : 256 * (A : Int) + x < 18446744073709551616 := by omega
          have HXN := Lib.hid hxn
          clear hx1 hx3 hx4 hcc hq e1 hu hxn
          go_wp2_with fail
          refine ⟨⟨r - 1, ?_, by omega, ?_, HU.out⟩, by simp [intOf]; have := HQ.out; omega⟩
          · rw [HQ.out]
          · rw [HX.out]; congr 1; have := HXN.out; omega
        · have hr1 : r = 0 := by omega
          subst hr1
          rw [List.drop_zero]
          have HU := Lib.hid (HO.out.2.step hu)
          have HO2 := Lib.hid (HO.out.1.upd hu (by simp))
          have hsz := hu.size
          have HW := Lib.hid (show leN ((bs.drop jj).take 8) = wd bs jj from rfl)
          rw [HW.out]
          generalize hwd : wd bs jj = A at *
          have HA := Lib.hid hwd
          clear hwd HW
          have hz := HO.out.2.size
          have hneg : ¬ (jj : Int) ≤ ((jj + 0 : Nat) : Int) - 1 := by omega
          clear hu
          go_wp2_with (refine wpList_push rfl rfl _ _ _ _ rfl rfl rfl 77 1 8 _ Tryz.underlying103 infoU64 rfl (by decide) (by decide) (.int .u64 _) [.int .u64 _] rfl rfl rfl (u64s_one [A]) _ _ _ HO2.out.row rfl rfl (by unfold maxLen; omega) (by omega) ?_; intro g4 cap4 w4 o4 u4 k4)
          have N1 := HO2.out.push (by omega) o4 k4
          have U4 := HU.out.fresh u4 (fun q hq => .inr (HO.out.1.fresh q (by simpa using hq)))
          refine ⟨⟨j + 1, ?_, by omega, ?_, U4⟩, by simp [intOf]; have := HJ.out; omega⟩
          · congr 1; have := HJ.out; omega
          · rw [wds_succ, u64s_append, HJ.out, HA.out]; exact N1
    · have hjn : j = n := by omega
      subst hjn
      have hge : ¬ ((8 * j : Nat) : Int) < bs.length := by have := HN.out; omega
      go_wp2_with fail
      go_ret
      exact ⟨_, _, rfl, HO.out.1, HO.out.2⟩
end
/-- The bytes of a label. -/
def labB (s : ByteArray) : List Int := s.data.toList.map fun b => (b.toNat : Int)
theorem labB_length (s : ByteArray) : (labB s).length = s.size := by simp [labB]
theorem labB_u8 (s : ByteArray) : ∀ x ∈ labB s, IsU8 x := by
  intro x hx
  obtain ⟨b, _, rfl⟩ := List.mem_map.1 hx
  have := b.toNat_lt
  unfold IsU8
  omega
def labW (s : ByteArray) : List Nat := wds (labB s) (nw (labB s))
theorem lab_upd (w : World) (s : ByteArray) : Upd [] w (Lib.bytesWorld w 5 s) :=
  ⟨rfl, rfl, rfl, by rw [Lib.bytesWorld_size]; omega, fun k hk _ => Lib.bytesWorld_at_old w 5 s k hk⟩
theorem lab_sl (w : World) (s : ByteArray) (hs : s.size ≤ 1000) : SL (Lib.bytesWorld w 5 s) 1 (.slice (some ⟨w.heap.size, 0, none⟩) s.size (grownCap w s.size 0 5)) s.size (byts (labB s)) := by
  refine ⟨by rw [byts_length, labB_length, Nat.mul_one], _, _, rfl, grownCap_ge _ _ _ _, grownCap_le_maxLen _ _ _ _ (by unfold maxLen; omega), (fun h => by cases h), .inr ⟨_, 0, rfl, fun j u hj => ?_⟩⟩
  have hl : j < s.size := by
    have := (List.getElem?_eq_some_iff.1 hj).1
    rwa [byts_length, labB_length] at this
  rw [Nat.zero_add, Lib.bytesWorld_cell w 5 s j hl]
  rw [← hj]
  have hl2 : j < s.data.toList.length := by simpa using hl
  simp [byts, labB, List.getD, List.getElem?_eq_getElem hl2]
theorem run_lab (w : World) (s : ByteArray) : (convert 9 39 (.string s)).run Tryz.prog w = .ok (.slice (some ⟨w.heap.size, 0, none⟩) s.size (grownCap w s.size 0 5)) (Lib.bytesWorld w 5 s) :=
  Lib.run_convert_string_bytes w 9 39 5 s Tryz.underlying9 Tryz.underlying39 Tryz.underlying5
/-- A signed number as an unsigned one. -/
def u6 (x : Int) : Nat := (x % 18446744073709551616).toNat
theorem u6_lt (x : Int) : u6 x < 18446744073709551616 := by unfold u6; omega
theorem u6_wrap (x : Int) : IntKind.u64.wrap x = ((u6 x : Nat) : Int) := by rw [IntKind.wrap_u64]; unfold u6; omega
theorem take_mixL {l : List Nat} {i n s : Nat} (h : l[i]? = some n) : mixL s (l.take (i + 1)) = mixN (mixL s (l.take i)) n := by
  rw [List.take_add_one, h, Option.toList_some, mixL_snoc]
section
variable {w : World}
set_option maxRecDepth 100000 in
set_option maxHeartbeats 4000000 in
theorem Sum_calls {v : Value} {l : List Int} (s : ByteArray) (hs : s.size ≤ 1000) (hv : SL w 1 v l.length (ints l)) (hl : l.length ≤ 70368744177664) :
    Calls Tryz.prog 69 #[.string s, v] w fun e w' => e = .returned (.int .u64 (sumN (labW s) s.size (l.map u6) : Nat)) ∧ Upd [] w w' := by
  obtain ⟨a, cap, rfl, q1, r1, hc⟩ := SL.form hv
  have HC := Lib.hid hc
  clear hv hc
  have hcv := run_lab w s
  have hsl := lab_sl w s hs
  have hup := lab_upd w s
  rw [← labB_length s] at hsl
  have HW := Lib.hid (Words_calls hsl (labB_u8 s) (by rw [labB_length]; omega))
  rw [labB_length] at HW
  have hn0 : nw (labB s) ≤ 1000 := by unfold nw; rw [labB_length]; omega
  have HWU := Lib.hid (show ∀ x ∈ labW s, x < 18446744073709551616 from fun x hx => wds_lt (labB_u8 s) hx)
  have hln : (labW s).length = nw (labB s) := wds_length _ _
  rw [show wds (labB s) (nw (labB s)) = labW s from rfl] at HW
  generalize nw (labB s) = n at *
  generalize labW s = lw at *
  generalize hwb : Lib.bytesWorld w 5 s = w1 at *
  have HU := Lib.hid hup
  have HS := Lib.hid (show sumN lw s.size (l.map u6) = mixN (mixL (mixN (mixN (mixL 0 lw) s.size) l.length) (l.map u6)) 0 by unfold sumN; rw [List.length_map])
  generalize sumN lw s.size (l.map u6) = res at *
  clear hsl hup hwb
  have hlz : s.size < 18446744073709551616 := by omega
  have hll : l.length < 18446744073709551616 := by omega
  have hlen0 : lw.length = n := hln
  have HLN := Lib.hid hln
  clear hln hlen0
  have hls : (s.size : Int) < 18446744073709551616 := by omega
  have hll2 : (l.length : Int) < 18446744073709551616 := by omega
  go_enter Tryz.func69, Tryz.ntmps69
  go_wp2_with (go_at_call 68; refine HW.out.mono ?_; rintro e w2 ⟨a2, c2, rfl, o2, u2⟩)
  have H2 := Lib.hid (And.intro o2 (HU.out.step u2))
  have hz := HU.out.size
  clear u2 o2 HW hcv
  go_loopw [5, 7] (fun u i wr => ∃ j : Nat, i = .int .i64 j ∧ j ≤ n ∧ u = .int .u64 ((mixL 0 (lw.take j) : Nat) : Int) ∧ wr = w2) (fun _ i _ => n - (intOf i).toNat)
  case atStart => exact ⟨0, rfl, Nat.zero_le _, by simp [mixL], rfl⟩
  case round =>
    obtain ⟨j, rfl, hj, rfl, hw⟩ := hrel
    obtain rfl : w2 = wr := hw.symm
    by_cases hlt : j < n
    · have hlt' : (j : Int) < n := by omega
      have hget : lw[j]? = some lw[j]! := by have := HLN.out; rw [List.getElem?_eq_getElem (by omega)]; simp [List.getElem!_eq_getElem?_getD, List.getElem?_eq_getElem (show j < lw.length by omega)]
      have hx := HWU.out _ (List.mem_of_getElem? hget)
      have HT := Lib.hid (take_mixL (s := 0) hget)
      have hxi : (lw[j]! : Int) < 18446744073709551616 := by omega
      have hcell := H2.out.1.sl
      obtain ⟨a2', c2', he2, _, _, hcc0⟩ := SL.form hcell
      cases he2
      obtain ⟨g, off, rfl, hcc⟩ := hcc0 (by omega)
      clear hcc0
      have hd := hcc j _ (u64s_get hget)
      have hm := mixL_lt (lw.take j) (s := 0) (by omega)
      generalize mixL 0 (lw.take j) = A at *
      generalize lw[j]! = B at *
      clear hcc hcell hget
      go_wp2_with (go_at_call 85; refine (Mix_calls A B hm hx).mono ?_; rintro e _ ⟨rfl, rfl⟩)
      exact ⟨⟨j + 1, by go_num, by omega, by rw [HT.out], by trivial⟩, by simp [intOf]; omega⟩
    · have hjn : j = n := by omega
      subst hjn
      rw [List.take_of_length_le (by have := HLN.out; omega)]
      have hm0 := mixL_lt lw (s := 0) (by omega)
      have HM0 := Lib.hid (show mixN (mixL 0 lw) s.size < 18446744073709551616 from mixN_lt _ _)
      have HM1 := Lib.hid (show mixN (mixN (mixL 0 lw) s.size) l.length < 18446744073709551616 from mixN_lt _ _)
      generalize mixL 0 lw = A0 at *
      have hAi : (A0 : Int) < 18446744073709551616 := by omega
      go_wp2_with (first | (go_at_call 85; with_reducible refine (Mix_calls A0 s.size hm0 hlz).mono ?_; rintro e _ ⟨rfl, rfl⟩) | (go_at_call 85; with_reducible refine (Mix_calls _ l.length HM0.out hll).mono ?_; rintro e _ ⟨rfl, rfl⟩))
      have hA1l := HM1.out
      generalize mixN (mixN A0 s.size) l.length = A1 at *
      go_loopw [5, 8] (fun u i wr => ∃ j : Nat, i = .int .i64 j ∧ j ≤ l.length ∧ u = .int .u64 ((mixL A1 ((l.map u6).take j) : Nat) : Int) ∧ wr = w2) (fun _ i _ => l.length - (intOf i).toNat)
      case atStart => exact ⟨0, rfl, Nat.zero_le _, by simp [mixL], rfl⟩
      case round =>
        obtain ⟨j, rfl, hj, rfl, hw⟩ := hrel
        obtain rfl : w2 = wr := hw.symm
        by_cases hlt : j < l.length
        · have hlt' : (j : Int) < l.length := by omega
          have hget : l[j]? = some l[j] := List.getElem?_eq_getElem hlt
          have HT := Lib.hid (take_mixL (s := A1) (show (l.map u6)[j]? = some (u6 l[j]) by rw [List.getElem?_map, hget]; rfl))
          obtain ⟨g, off, rfl, hcc⟩ := HC.out (by omega)
          have hd := H2.out.2.some (hcc j _ (ints_get hget)) (by simp)
          have hm := mixL_lt ((l.map u6).take j) hA1l
          have hx := u6_lt l[j]
          have HX := Lib.hid (u6_wrap l[j])
          generalize mixL A1 ((l.map u6).take j) = A at *
          generalize l[j] = B at *
          clear hcc hget
          go_wp2_with (go_at_call 85; rw [HX.out]; refine (Mix_calls A (u6 B) hm hx).mono ?_; rintro e _ ⟨rfl, rfl⟩)
          exact ⟨⟨j + 1, by go_num, by omega, by rw [HT.out], by trivial⟩, by simp [intOf]; omega⟩
        · have hjn : j = l.length := by omega
          subst hjn
          rw [List.take_of_length_le (by rw [List.length_map]; omega)]
          have hm := mixL_lt (l.map u6) hA1l
          generalize mixL A1 (l.map u6) = A at *
          go_wp2_with (go_at_call 85; refine (Mix_calls A 0 hm (by omega)).mono ?_; rintro e _ ⟨rfl, rfl⟩)
          go_ret
          exact ⟨ret_int (by rw [HS.out]), H2.out.2⟩
end
/-- An unsigned number as a signed one. -/
def sg (n : Nat) : Int := wrap64 (n : Int)
theorem u6_sg {n : Nat} (h : n < 18446744073709551616) : u6 (sg n) = n := by unfold u6 sg wrap64; omega
theorem u6_sgs : ∀ {l : List Nat}, (∀ n ∈ l, n < 18446744073709551616) → (l.map sg).map u6 = l
  | [], _ => rfl
  | n :: l, h => by rw [List.map_cons, List.map_cons, u6_sg (h n (by simp)), u6_sgs (fun x hx => h x (List.mem_cons_of_mem _ hx))]
theorem u6_nat {n : Nat} (h : n < 18446744073709551616) : u6 (n : Int) = n := by unfold u6; omega
section
variable {w : World}
set_option maxRecDepth 100000 in
set_option maxHeartbeats 4000000 in
theorem Bytes_calls {v : Value} {bs : List Int} (s : ByteArray) (hs : s.size ≤ 1000) (hv : SL w 1 v bs.length (byts bs)) (hu : ∀ x ∈ bs, IsU8 x) (hl : bs.length ≤ 1000000000) :
    Calls Tryz.prog 56 #[.string s, v] w fun e w' => e = .returned (.int .u64 (bytesN (labW s) s.size bs : Nat)) ∧ Upd [] w w' := by
  obtain ⟨a, cap, rfl, q1, r1, _⟩ := SL.form hv
  have HW := Lib.hid (Words_calls hv hu (by omega))
  have HWU := Lib.hid (show ∀ x ∈ wds bs (nw bs), x < 18446744073709551616 from fun x hx => wds_lt hu hx)
  have hn0 : nw bs ≤ 125000001 := by unfold nw; omega
  have HLN := Lib.hid (wds_length bs (nw bs))
  have HR := Lib.hid (show bytesN (labW s) s.size bs = sumN (labW s) s.size (((wds bs (nw bs)).map sg ++ [(bs.length : Int)]).map u6) by
    rw [List.map_append, u6_sgs HWU.out, List.map_singleton, u6_nat (by omega)]; rfl)
  generalize bytesN (labW s) s.size bs = res at *
  generalize wds bs (nw bs) = lw at *
  generalize nw bs = n at *
  clear hv hu
  go_enter Tryz.func56, Tryz.ntmps56
  go_wp2_with (go_at_call 68; refine HW.out.mono ?_; rintro e w2 ⟨a2, c2, rfl, o2, u2⟩)
  have HO := Lib.hid (And.intro o2 u2)
  have hsl := o2.sl
  obtain ⟨a2', c2', he2, _, _, hcc⟩ := SL.form hsl
  cases he2
  have HCC := Lib.hid hcc
  clear hcc hsl o2 u2 HW
  go_loopw [6, 7] (fun o i wr => ∃ j : Nat, i = .int .i64 j ∧ j ≤ n ∧ Own w2 o ((lw.map sg).take j) wr) (fun _ i _ => n - (intOf i).toNat)
  case atStart => exact ⟨0, rfl, Nat.zero_le _, Own.nil _⟩
  case round =>
    obtain ⟨j, rfl, hj, hO⟩ := hrel
    obtain ⟨ao, co, rfl, _⟩ := hO.form
    by_cases hlt : j < n
    · have hlt' : (j : Int) < n := by omega
      have hget : lw[j]? = some lw[j]! := by have := HLN.out; rw [List.getElem?_eq_getElem (by omega)]; simp [List.getElem!_eq_getElem?_getD, List.getElem?_eq_getElem (show j < lw.length by omega)]
      have hx := HWU.out _ (List.mem_of_getElem? hget)
      have HT := Lib.hid (show (lw.map sg).take (j + 1) = (lw.map sg).take j ++ [sg lw[j]!] by rw [List.take_add_one, List.getElem?_map, hget]; rfl)
      obtain ⟨g, off, rfl, hcc⟩ := HCC.out (by omega)
      have hd := hO.u.some (hcc j _ (u64s_get hget)) (by simp)
      have hlen : ((lw.map sg).take j).length = j := by rw [List.length_take, List.length_map]; have := HLN.out; omega
      have HSG := Lib.hid (show wrap64 ((lw[j]! : Nat) : Int) = sg lw[j]! from rfl)
      generalize lw[j]! = B at *
      generalize (lw.map sg).take j = pre at *
      have HP := Lib.hid hO
      have HL := Lib.hid hlen
      clear hcc hget hO hlen
      go_wp2_with (refine wpList_push rfl rfl _ _ _ _ rfl rfl rfl 3 1 8 _ Tryz.underlying22 infoInt rfl (by decide) (by decide) (.int .i64 _) [.int .i64 _] rfl rfl rfl (ints_one [_]) _ _ _ HP.out.row rfl rfl (by rw [HL.out]; unfold maxLen; omega) (by rw [HL.out]; omega) ?_; intro g1 cap1 w4 o4 u4 k4)
      have N := HP.out.push o4 u4 k4
      refine ⟨⟨j + 1, by go_num, by omega, ?_⟩, by simp [intOf]; omega⟩
      rw [HT.out]
      exact N
    · have hjn : j = n := by omega
      subst hjn
      have hlm : (lw.map sg).length = j := by rw [List.length_map]; exact HLN.out
      rw [List.take_of_length_le (by omega)] at hO ⊢
      have HP := Lib.hid hO
      have HL := Lib.hid hlm
      clear hO hlm
      generalize lw.map sg = pre at *
      have hbi : (bs.length : Int) ≤ 1000000000 := by omega
      go_wp2_with (first | (refine wpList_push rfl rfl _ _ _ _ rfl rfl rfl 3 1 8 _ Tryz.underlying22 infoInt rfl (by decide) (by decide) (.int .i64 _) [.int .i64 _] rfl rfl rfl (ints_one [_]) _ _ _ HP.out.row rfl rfl (by rw [HL.out]; unfold maxLen; omega) (by rw [HL.out]; omega) ?_; intro g1 cap1 w4 o4 u4 k4; have N := Lib.hid (HP.out.push o4 u4 k4); clear o4 u4 k4) | (go_at_call 69; refine (Sum_calls s hs (l := pre ++ [(bs.length : Int)]) (by have h := N.out.sl; rw [List.length_append] at h ⊢; exact h) (by rw [List.length_append, HL.out, List.length_singleton]; omega)).mono ?_; rintro e w5 ⟨rfl, u5⟩))
      go_ret
      have hr := HR.out.symm
      rw [List.map_append, List.map_singleton] at hr
      exact ⟨congrArg (fun n : Nat => Ending.returned (.int .u64 (n : Int))) hr, (HO.out.2.step N.out.u).step u5⟩
end
end Hash
end Go.Proofs.YtfkgpecglcjpkaaGreat
