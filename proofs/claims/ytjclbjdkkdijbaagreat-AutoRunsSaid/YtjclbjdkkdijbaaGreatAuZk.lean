/- Walks through the reference of automata: Class, Run. Conditions: none. Walks through the law of chapter 05: AutoRuns. Conditions: none. -/
import Derived.Test.YtjclbjdkkdijbaaGreatAuZd
import Derived.Test.YtjclbjdkkdijbaaGreatRfZf
import Derived.Test.YtjclbjdkkdijbaaGreatAuU
import Derived.Test.YtjclbjdkkdijbaaGreatAuK
import Derived.Test.YtjclbjdkkdijbaaGreatAuZg
set_option linter.unusedVariables false
set_option linter.unusedSimpArgs false
set_option linter.unusedSectionVars false
section
open Go.RowKit
namespace Go.Proofs.YtjclbjdkkdijbaaGreat
open L
namespace Aut
open Auto
attribute [-go_sem] sliced
theorem cls_at {cs : List Int} {c : Int} {k : Nat} (hs : cs.Pairwise (· < ·)) (hk : k + 1 ≤ cs.length) (h1 : ∀ i, i < k + 1 → cs.getD i 0 ≤ c) (h2 : k + 1 < cs.length → ¬ cs.getD (k + 1) 0 ≤ c) : cls cs c = k := by
  have g : ∀ j, (hj : j < cs.length) → cs.getD j 0 = cs[j] := fun j hj => by rw [List.getD_eq_getElem?_getD, List.getElem?_eq_getElem hj]; rfl
  have := countP_take (k := k + 1) hs hk (fun i hi hi2 => by rw [← g i hi2]; exact h1 i hi) (fun h => by have := h2 h; rw [g _ h] at this; omega)
  unfold cls
  omega
section
variable {w w' : World} {v : Value}
set_option maxRecDepth 100000 in
theorem ClassR_calls {cs : List Int} {c : Int} (h : SL w 1 v cs.length (ints cs)) (h0 : (0 : Int) ∈ cs) (hl : cs.length ≤ 1000000) (hs : cs.Pairwise (· < ·)) (hc : 0 ≤ c) (hc2 : c ≤ 255) :
    Calls Tryz.prog 65 #[v, .int .i64 c] w fun e w' => e = .returned (.int .i64 (cls cs c : Nat)) ∧ Upd [] w w' := by
  obtain ⟨a, cap, rfl, _, _, hcc⟩ := h.elems
  obtain ⟨g, off, rfl, kk⟩ := hcc (List.length_pos_of_mem h0)
  have hmin : ∀ i, (hi : i < cs.length) → cs[0]'(List.length_pos_of_mem h0) ≤ cs[i] := fun i hi => by
    rcases Nat.eq_zero_or_pos i with h1 | h1
    · subst h1; exact Int.le_refl _
    · exact Int.le_of_lt (List.pairwise_iff_getElem.1 hs 0 i (List.length_pos_of_mem h0) hi h1)
  have hz : cs.getD 0 0 ≤ c := by
    obtain ⟨i, hi, he⟩ := List.getElem_of_mem h0
    have := hmin i hi
    rw [List.getD_eq_getElem?_getD, List.getElem?_eq_getElem (List.length_pos_of_mem h0), Option.getD_some]
    omega
  have HC := Lib.hid (And.intro kk (And.intro hs (List.length_pos_of_mem h0)))
  have hpos := List.length_pos_of_mem h0
  have HZ0 := Lib.hid (show ∀ i, i < 0 + 1 → cs.getD i 0 ≤ c from fun i hi => by
    have h1 : i = 0 := by omega
    rw [h1]
    exact hz)
  clear h h0 hs hcc kk hmin
  go_enter Tryz.func65, Tryz.ntmps65
  go_wp2_with fail
  go_loopw [5] (fun s5 wr => ∃ k : Nat, s5 = .int .i64 k ∧ k < cs.length ∧ Hid ((∀ i, i < k + 1 → cs.getD i 0 ≤ c) ∧ Upd [] w wr)) (fun s5 _ => cs.length - (intOf s5).toNat)
  case atStart => exact ⟨0, rfl, hpos, Lib.hid ⟨HZ0.out, Upd.refl _ _⟩⟩
  case round =>
    obtain ⟨k, rfl, hk, HI⟩ := hrel
    by_cases hlt : k + 1 < cs.length
    · have hli : (k : Int) + 1 < cs.length := by omega
      have hcell := HI.out.2.some (HC.out.1 (k + 1) _ (ints_get (gd_some (d := 0) hlt))) (by simp)
      by_cases hx : cs.getD (k + 1) 0 ≤ c
      · have HX := Lib.hid (show ∀ i, i < k + 1 + 1 → cs.getD i 0 ≤ c from fun i hi => by
          rcases Nat.lt_or_ge i (k + 1) with h | h
          · exact HI.out.1 i h
          · have : i = k + 1 := by omega
            subst this; exact hx)
        generalize cs.getD (k + 1) 0 = x at *
        go_wp2_with fail
        exact ⟨⟨k + 1, by go_num, by omega, Lib.hid ⟨HX.out, HI.out.2⟩⟩, by simp [intOf]; omega⟩
      · have HE := Lib.hid (cls_at HC.out.2.1 (by omega) HI.out.1 (fun h => by omega))
        generalize cs.getD (k + 1) 0 = x at *
        go_wp2_with fail
        go_ret
        exact ⟨by rw [HE.out]; rfl, HI.out.2⟩
    · have hli : ¬ ((k : Int) + 1 < cs.length) := by omega
      have HE := Lib.hid (cls_at HC.out.2.1 (by omega) HI.out.1 (fun h => absurd h hlt))
      go_wp2_with fail
      go_ret
      exact ⟨by rw [HE.out]; rfl, HI.out.2⟩
set_option maxRecDepth 100000 in
set_option maxHeartbeats 4000000 in
theorem RunR_calls {a : Au} {st0 : Nat} (h : AuV w a v) (hok : Ok a) (hst0 : st0 < a.next.length) (s : ByteArray) (hs : s.size ≤ 9223372036854775807) :
    Calls Tryz.prog 33 #[v, .int .i64 st0, .string s] w fun e w' => e = .returned (.int .i64 (runA a st0 (byt s) : Nat)) ∧ Upd [] w w' := by
  obtain ⟨a1, c1, a2, c2, a3, c3, rfl, hF⟩ := h.shape
  have HF := Lib.hid hF
  have HOK := Lib.hid hok
  have HS := Lib.hid hs
  clear h hF hok
  go_enter Tryz.func33, Tryz.ntmps33
  go_upto_region 1 with fail
  have b1 := Blk.new w [.slice a1 a.cuts.length c1, .slice a2 a.next.length c2, .slice a3 a.acc.length c3] 39
  have u1 := (Upd.refl [] w).alloc (.cells #[.slice a1 a.cuts.length c1, .slice a2 a.next.length c2, .slice a3 a.acc.length c3] 39)
  change Blk (w.alloc (.cells #[.slice a1 a.cuts.length c1, .slice a2 a.next.length c2, .slice a3 a.acc.length c3] 39)) _ _ _ at b1
  generalize (w.alloc (.cells #[.slice a1 a.cuts.length c1, .slice a2 a.next.length c2, .slice a3 a.acc.length c3] 39)) = w1 at *
  have k0 := b1.cell (i := 0) rfl
  have k1 := b1.cell (i := 1) rfl
  have HU := Lib.hid u1
  clear b1
  generalize w.heap.size = pa at *
  go_wp2_with fail
  go_loopw [1, 7] (fun s5 s6 wr => ∃ (i st : Nat), s5 = .int .i64 st ∧ s6 = .int .i64 i ∧ i ≤ s.size ∧ st < a.next.length ∧ Hid (st = runA a st0 ((byt s).take i) ∧ Upd [] w1 wr)) (fun _ s6 _ => s.size - (intOf s6).toNat)
  case atStart => exact ⟨0, st0, rfl, rfl, Nat.zero_le _, hst0, Lib.hid ⟨rfl, Upd.refl _ _⟩⟩
  case round =>
    obtain ⟨i, st, rfl, rfl, hi, hst, HI⟩ := hrel
    by_cases hlt : i < s.size
    · have hli : (i : Int) < s.size := by omega
      obtain ⟨g, off, ar, cr, he, hc, hrow⟩ := (HF.out.ext HU.out).row hst
      cases he
      have hgt := byt_get hlt
      have hb0 := byt_rng _ (List.mem_of_getElem? hgt)
      have HRW := HOK.out.rows _ (gd_memA (d := []) hst)
      have HCL := Lib.hid (fun (w5 : World) (u5 : Upd [] wr w5) => ClassR_calls (w := w5) (v := .slice a1 a.cuts.length c1) (by
        obtain ⟨cv, nv, av, he, h3, _, _⟩ := HF.out
        cases he
        exact ((h3.upd HU.out (by simp)).upd HI.out.2 (by simp)).upd u5 (by simp)) HOK.out.mem0 (by have := cuts_len HOK.out; omega) HOK.out.inc hb0.1 hb0.2)
      have hcl := HOK.out
      have hkl : cls a.cuts ((s[i]'hlt).toNat : Int) < a.cuts.length := (cut_of hcl.inc hcl.mem0 hb0.1).1
      have HST := Lib.hid (show runA a st0 ((byt s).take (i + 1)) = ((a.next.getD st []).getD (cls a.cuts ((s[i]'hlt).toNat : Int)) 0).toNat by
        rw [List.take_add_one, hgt, Option.toList_some, runA_snoc, ← HI.out.1]
        rfl)
      generalize cls a.cuts ((s[i]'hlt).toNat : Int) = k at *
      generalize a.next.getD st [] = row at *
      obtain ⟨ra, rc, he, q1, r1, hce⟩ := hrow.elems
      cases he
      obtain ⟨g2, off2, rfl, kk⟩ := hce (by omega)
      have hxm : row.getD k 0 ∈ row := gd_memA (by omega)
      have hx := HRW.2 _ hxm
      have hcx := kk k _ (by rw [ints_get (gd_some (d := 0) (by omega : k < row.length))])
      generalize row.getD k 0 = x at *
      have hw1 := HI.out.2.some hcx (by simp)
      have hw2 := HI.out.2.some hc (by simp)
      have hp0 := HI.out.2.some k0 (by simp)
      have hp1 := HI.out.2.some k1 (by simp)
      have HRL := Lib.hid (And.intro HRW.1 hrow)
      have hkr : k < row.length := by omega
      clear hrow hce kk HRW hcl hgt hxm q1 r1 hc hcx
      obtain ⟨xn, rfl⟩ : ∃ xn : Nat, x = xn := ⟨x.toNat, by omega⟩
      go_upto_region 4 with fail
      refine wp_region_qx (by kernel_rfl) (by kernel_rfl) ?_
      repeat (go_big_quiet_step (((go_at_call 65; exact qx (HCL.out _ (Ext.upd _))))))
      refine wpQuiet_nil ?_
      intro x
      go_wp2_with fail
      refine ⟨⟨i + 1, xn, rfl, by go_num, by omega, by omega, Lib.hid ⟨by rw [HST.out]; simp, HI.out.2.step x.upd⟩⟩, by simp [intOf]; omega⟩
    · have hie : i = s.size := by omega
      subst hie
      have hni : ¬ ((s.size : Int) < s.size) := by omega
      go_wp2_with fail
      go_ret
      refine ⟨?_, HU.out.step HI.out.2⟩
      have hr := HI.out.1
      rw [List.take_of_length_le (by rw [byt_len]; exact Nat.le_refl _)] at hr
      rw [← hr]
      rfl
end
end Aut
end Go.Proofs.YtjclbjdkkdijbaaGreat
end
section
open Go.RowKit
namespace Go.Proofs.YtjclbjdkkdijbaaGreat
open L
namespace Law
open Aut Auto R01 Rgx
attribute [-go_sem] sliced
section
variable {w w' : World} {v v2 : Value}
set_option maxRecDepth 100000 in
set_option maxHeartbeats 16000000 in
theorem AutoRuns_calls {xs ys : List Int} {at_ how by_ wn : Int} {raw : ByteArray} (hx : ∀ x ∈ xs, IsI64 x) (hl : SL w 1 v xs.length (ints xs)) (hy : ∀ x ∈ ys, IsI64 x) (hl2 : SL w 1 v2 ys.length (ints ys)) (h1 : IsI64 at_) (h2 : IsI64 how) (h3 : IsI64 by_) (h4 : IsI64 wn) (hr : raw.size ≤ 9223372036854775807) :
    Calls Tryz.prog 5 #[v, v2, .int .i64 at_, .int .i64 how, .int .i64 by_, .int .i64 wn, .string raw] w fun e w' => e = .returned (.bool true) ∧ Upd [] w w' := by
  have HC1 := Lib.hid (some_calls hx hl hy hl2 h1 h2 h3)
  have HCW := Lib.hid (fun (w' : World) => Word_calls (w := w') wn h4)
  have HRW := Lib.hid hr
  have hl5 : (someL xs ys at_ how by_).length ≤ 5 := Nat.le_refl _
  have HL5 := Lib.hid hl5
  clear hl5
  generalize someL xs ys at_ how by_ = ls at *
  clear hx hl hy hl2 h1 h2 h3 h4
  go_enter Tryz.func5, Tryz.ntmps5
  go_upto_region 2 with ((with_reducible refine HC1.out.mono ?_); rintro e w1 ⟨v1, rfl, hls, u1⟩)
  obtain ⟨lg, lc, rfl, hc1⟩ := id hls
  have HLS := Lib.hid (And.intro hls (And.intro u1 hc1))
  clear hls u1 hc1
  have hrs : (raw.size : Int) ≤ 9223372036854775807 := by omega
  have hrs0 : (0 : Int) ≤ (raw.size : Int) := by omega
  refine wp_region_ord 1 1 [0, 2, 3, 4, 5, 6, 8] [] [0, 2, 3, 4, 5, 6, 1, 7, 8] (fun w' => ∃ x : Ext w1, w' = x.val) (by kernel_rfl) (by kernel_rfl) (Ext.of (by iterate 25 (first | exact Upd.refl _ _ | assumption | refine Upd.alloc ?_ _ | refine Upd.drew ?_ | refine Upd.drewN ?_ _ | refine Upd.dl ?_ | refine Upd.step ?_ (Ext.upd _) | refine Upd.nil ?_ | skip))) ?_
  repeat (first | (refine wpOrd_load rfl rfl rfl rfl (fun K hK => ?_); go_big_quiet_step (fail); refine wpQuiet_nil ?_; refine hK _ ?_; clear hK K) | (refine wpOrd_free rfl rfl rfl (fun K hK => ?_); go_big_quiet_step (fail); refine wpQuiet_nil ?_; refine hK _ ?_; clear hK K))
  have hs2s : (raw.extract 0 (min (raw.size : Int) 40).toNat).size ≤ 9223372036854775807 := by
    rw [ByteArray.size_extract]
    have := HRW.out
    omega
  generalize raw.extract 0 (min (raw.size : Int) 40).toNat = s2 at *
  have HS2 := Lib.hid hs2s
  clear hs2s hrs hrs0
  refine wpOrd_fix rfl rfl (fun K hK => ?_)
  go_wp2_with (go_at_call 29; refine (HCW.out _).mono ?_; rintro e w2 ⟨s1, rfl, hs1, u2⟩)
  have HS1 := Lib.hid (And.intro hs1 (show Upd [] w1 w2 from Upd.step (by iterate 25 (first | exact Upd.refl _ _ | assumption | refine Upd.alloc ?_ _ | refine Upd.drew ?_ | refine Upd.drewN ?_ _ | refine Upd.dl ?_ | refine Upd.step ?_ (Ext.upd _) | refine Upd.nil ?_ | skip)) u2))
  clear hs1 u2
  refine ⟨fun h => absurd h (by decide), ?_⟩
  repeat (first | (refine wpOrd_load rfl rfl rfl rfl (fun K hK => ?_); go_big_quiet_step (fail); refine wpQuiet_nil ?_; refine hK _ ?_; clear hK K) | (refine wpOrd_free rfl rfl rfl (fun K hK => ?_); go_big_quiet_step (fail); refine wpQuiet_nil ?_; refine hK _ ?_; clear hK K))
  refine wpOrd_fix rfl rfl (fun K hK => ?_)
  go_wp2_with fail
  have HB := Lib.hid (show Blk (w2.alloc (.cells #[.string { data := #[] }, .string s1, .string s2] 9)) w2.heap.size [.string { data := #[] }, .string s1, .string s2] 9 ∧ Upd [] w2 (w2.alloc (.cells #[.string { data := #[] }, .string s1, .string s2] 9)) from ⟨Blk.new w2 [.string { data := #[] }, .string s1, .string s2] _, (Upd.refl [] w2).alloc _⟩)
  generalize (w2.alloc (.cells #[.string { data := #[] }, .string s1, .string s2] 9)) = w3 at *
  generalize w2.heap.size = wb at *
  have HU3 := Lib.hid ((HLS.out.2.1.step HS1.out.2).step HB.out.2)
  have HCL := Lib.hid (show ∀ (i : Nat) (a : Au), ls[i]? = some a → ∃ x y z, AuF w3 a [x, y, z] ∧ w3.cell? ⟨lg, i * 3, none⟩ = some x ∧ w3.cell? ⟨lg, i * 3 + 1, none⟩ = some y ∧ w3.cell? ⟨lg, i * 3 + 2, none⟩ = some z from by
    obtain ⟨g, c, he, h⟩ := (HLS.out.1.ext HS1.out.2).ext HB.out.2
    cases he
    exact h)
  refine ⟨fun h => absurd h (by decide), ?_⟩
  repeat (first | (refine wpOrd_load rfl rfl rfl rfl (fun K hK => ?_); go_big_quiet_step (fail); refine wpQuiet_nil ?_; refine hK _ ?_; clear hK K) | (refine wpOrd_free rfl rfl rfl (fun K hK => ?_); go_big_quiet_step (fail); refine wpQuiet_nil ?_; refine hK _ ?_; clear hK K))
  refine wpOrd_nil ?_
  go_wp2_with fail
  go_loopw [17] (fun iv wr => ∃ m : Nat, iv = .int .i64 m ∧ m ≤ ls.length ∧ ∃ x : Ext w3, wr = x.val) (fun iv _ => ls.length - (intOf iv).toNat)
  case atStart => exact ⟨0, rfl, Nat.zero_le _, Ext.of (by iterate 25 (first | exact Upd.refl _ _ | assumption | refine Upd.alloc ?_ _ | refine Upd.drew ?_ | refine Upd.drewN ?_ _ | refine Upd.dl ?_ | refine Upd.step ?_ (Ext.upd _) | refine Upd.nil ?_ | skip))⟩
  case round =>
    obtain ⟨m, rfl, hm, x, rfl⟩ := hrel
    have HXU := Lib.hid x.upd
    generalize x.val = wq at *
    by_cases hlt : m < ls.length
    · have hli : (m : Int) < ls.length := by omega
      have hm5 : (m : Int) ≤ 5 := by have := HL5.out; omega
      have ha := List.getElem?_eq_getElem hlt
      generalize ls[m] = a at *
      obtain ⟨y0, y1, y2, hF, e0, e1, e2⟩ := HCL.out m a ha
      obtain ⟨a1, c1, a2, c2, a3, c3, hve, hFF⟩ := AuV.shape (show AuV w3 a (.agg #[y0, y1, y2]) from ⟨_, rfl, hF⟩)
      cases hve
      have HAU := Lib.hid (fun (w' : World) (u : Upd [] w3 w') => show AuV w' a (.agg #[.slice a1 a.cuts.length c1, .slice a2 a.next.length c2, .slice a3 a.acc.length c3]) from ⟨_, rfl, hFF.ext u⟩)
      have HCE := Lib.hid (And.intro e0 (And.intro e1 e2))
      have HON := Lib.hid (fun (w' : World) (u : Upd [] w3 w') => own_calls (HAU.out w' u))
      obtain ⟨er, hee⟩ : ∃ er, vErr a = er := ⟨_, rfl⟩
      by_cases he : er = 0
      · subst he
        have HOK := Lib.hid (vErr_ok hee)
        have HRV := Lib.hid (show Calls Tryz.prog 20 #[.agg #[.slice a1 a.cuts.length c1, .slice a2 a.next.length c2, .slice a3 a.acc.length c3]] wq fun e w' => e = .returned (.int .i64 0) ∧ Upd [] wq w' from by have h := rValid_calls (HAU.out wq HXU.out); rwa [hee] at h)
        have f0 := HXU.out.some e0 (by simp)
        have f1 := HXU.out.some e1 (by simp)
        have f2 := HXU.out.some e2 (by simp)
        clear hF hFF e0 e1 e2 ha
        go_upto_region 7 with ((with_reducible refine HRV.out.mono ?_); rintro e w5 ⟨rfl, u5⟩)
        have HX5 := Lib.hid (HXU.out.step u5)
        have f0 := u5.some f0 (by simp)
        have f1 := u5.some f1 (by simp)
        have f2 := u5.some f2 (by simp)
        have HON5 := Lib.hid (HON.out w5 HX5.out)
        clear u5
        have her : ((0 : Int) != 0) = false := by simp
        go_upto_region 9 with (first | ((with_reducible refine HON5.out.mono ?_); rintro e w6 ⟨v6, rfl, o6, u6⟩; have HVC := Lib.hid (hee ▸ Valid_calls o6); have HU6 := Lib.hid u6; clear u6 o6) | ((with_reducible refine HVC.out.mono ?_); rintro e w7 ⟨rfl, u7⟩))
        have HX7 := Lib.hid ((HX5.out.step HU6.out).step u7)
        clear f0 f1 f2 u7
        go_wp2_with fail
        go_loopw [19] (fun kv wr => ∃ k : Nat, kv = .int .i64 k ∧ k ≤ 3 ∧ ∃ x : Ext w7, wr = x.val) (fun kv _ => 3 - (intOf kv).toNat)
        case atStart => exact ⟨0, rfl, by omega, Ext.of (by iterate 25 (first | exact Upd.refl _ _ | assumption | refine Upd.alloc ?_ _ | refine Upd.drew ?_ | refine Upd.drewN ?_ _ | refine Upd.dl ?_ | refine Upd.step ?_ (Ext.upd _) | refine Upd.nil ?_ | skip))⟩
        case round =>
          obtain ⟨k, rfl, hk, x, rfl⟩ := hrel
          have HX8 := Lib.hid (HX7.out.step x.upd)
          have HY8 := Lib.hid x.upd
          generalize x.val = wa at *
          by_cases hk3 : k < 3
          · have hki : (k : Int) < 3 := by omega
            obtain ⟨sw, hw, hsw⟩ : ∃ sw : ByteArray, ([.string { data := #[] }, .string s1, .string s2] : List Value)[k]? = some (.string sw) ∧ sw.size ≤ 9223372036854775807 := by
              have q1 := HS1.out.1
              have q2 := HS2.out
              rcases (by omega : k = 0 ∨ k = 1 ∨ k = 2) with rfl | rfl | rfl
              · exact ⟨_, rfl, by simp [ByteArray.size]⟩
              · exact ⟨_, rfl, by omega⟩
              · exact ⟨_, rfl, q2⟩
            have wc0 := (HB.out.1.upd HX8.out (by simp)).cell hw
            have f0 := HX8.out.some HCE.out.1 (by simp)
            have f1 := HX8.out.some HCE.out.2.1 (by simp)
            have f2 := HX8.out.some HCE.out.2.2 (by simp)
            have hrun : Aut.runN a sw = (runA a 0 (byt sw) : Nat) := by unfold Aut.runN; rw [if_neg (by simpa using hee)]
            have hacn : Aut.accN a sw = a.acc.getD (runA a 0 (byt sw)) false := by unfold Aut.accN; rw [if_neg (by simpa using hee)]
            have hpl := (HOK.out).run (byt sw) HOK.out.some_ (fun c hc => (byt_rng c hc).1)
            have HRR := Lib.hid (fun (w' : World) (u : Upd [] w3 w') => show Calls Tryz.prog 33 #[.agg #[.slice a1 a.cuts.length c1, .slice a2 a.next.length c2, .slice a3 a.acc.length c3], .int .i64 0, .string sw] w' fun e w2 => e = .returned (.int .i64 (runA a 0 (byt sw) : Nat)) ∧ Upd [] w' w2 from RunR_calls (st0 := 0) (HAU.out w' u) HOK.out HOK.out.some_ sw hsw)
            have hru2 : ∀ (w' : World) (v' : Value), AuV w' a v' → Calls Tryz.prog 31 #[v', .string sw] w' fun e w2 => e = .returned (.tuple #[.int .i64 (runA a 0 (byt sw) : Nat), .int .i64 0]) ∧ Upd [] w' w2 := fun w' v' h => by
              have h9 := Run_calls h sw hsw
              rwa [hee, hrun] at h9
            have hac2 : ∀ (w' : World) (v' : Value), AuV w' a v' → Calls Tryz.prog 32 #[v', .string sw] w' fun e w2 => e = .returned (.tuple #[.bool (a.acc.getD (runA a 0 (byt sw)) false), .int .i64 0]) ∧ Upd [] w' w2 := fun w' v' h => by
              have h9 := Accepts_calls h sw hsw
              rwa [hee, hacn] at h9
            generalize runA a 0 (byt sw) = p at *
            have hpl2 : p < a.acc.length := by have := HOK.out.acc; omega
            have HPL := Lib.hid hpl2
            obtain ⟨ab, hab⟩ : ∃ ab, a.acc.getD p false = ab := ⟨_, rfl⟩
            rw [hab] at hac2
            have HAB := Lib.hid hab
            have HR2 := Lib.hid (And.intro hru2 hac2)
            clear hru2 hac2
            clear hrun hacn hpl hab
            have HW8 := Lib.hid hw
            have HXB := Lib.hid HX8.out
            clear hw
            go_upto_region 12 with fail
            refine wp_region_ord 9 2 [0, 1, 2, 3, 5, 6, 7, 8, 10, 11, 12, 13, 14] [3, 8] [0, 1, 2, 3, 5, 6, 7, 8, 4, 9, 10, 11, 12, 13, 14] (fun w' => ∃ x : Ext wa, w' = x.val) (by kernel_rfl) (by kernel_rfl) (Ext.of (by iterate 25 (first | exact Upd.refl _ _ | assumption | refine Upd.alloc ?_ _ | refine Upd.drew ?_ | refine Upd.drewN ?_ _ | refine Upd.dl ?_ | refine Upd.step ?_ (Ext.upd _) | refine Upd.nil ?_ | skip))) ?_
            repeat (first | (refine wpOrd_load rfl rfl rfl rfl (fun K hK => ?_); go_big_quiet_step (fail); refine wpQuiet_nil ?_; refine hK _ ?_; clear hK K) | (refine wpOrd_free rfl rfl rfl (fun K hK => ?_); go_big_quiet_step (fail); refine wpQuiet_nil ?_; refine hK _ ?_; clear hK K))
            refine wpOrd_fix rfl rfl (fun K hK => ?_)
            go_wp2_with (go_at_call 22; refine (HON.out _ (HXB.out.step (by iterate 25 (first | exact Upd.refl _ _ | assumption | refine Upd.alloc ?_ _ | refine Upd.drew ?_ | refine Upd.drewN ?_ _ | refine Upd.dl ?_ | refine Upd.step ?_ (Ext.upd _) | refine Upd.nil ?_ | skip)))).mono ?_; rintro e w6 ⟨v6, rfl, o6, u6⟩)
            have HU6 := Lib.hid (And.intro (show Upd [] wa w6 from Upd.step (by iterate 25 (first | exact Upd.refl _ _ | assumption | refine Upd.alloc ?_ _ | refine Upd.drew ?_ | refine Upd.drewN ?_ _ | refine Upd.dl ?_ | refine Upd.step ?_ (Ext.upd _) | refine Upd.nil ?_ | skip)) u6) o6)
            clear u6 o6
            refine ⟨fun _ => Ext.of HU6.out.1, ?_⟩
            repeat (first | (refine wpOrd_load rfl rfl rfl rfl (fun K hK => ?_); go_big_quiet_step (fail); refine wpQuiet_nil ?_; refine hK _ ?_; clear hK K) | (refine wpOrd_free rfl rfl rfl (fun K hK => ?_); go_big_quiet_step (fail); refine wpQuiet_nil ?_; refine hK _ ?_; clear hK K))
            refine wpOrd_fix rfl rfl (fun K hK => ?_)
            go_wp2_with (go_at_call 31; refine (HR2.out.1 _ _ HU6.out.2).mono ?_; rintro e w7b ⟨rfl, u7⟩)
            have HU7 := Lib.hid (HU6.out.1.step u7)
            clear u7
            refine ⟨fun hC => absurd hC (by decide), ?_⟩
            repeat (first | (refine wpOrd_load rfl rfl rfl rfl (fun K hK => ?_); go_big_quiet_step (fail); refine wpQuiet_nil ?_; refine hK _ ?_; clear hK K) | (refine wpOrd_free rfl rfl rfl (fun K hK => ?_); go_big_quiet_step (fail); refine wpQuiet_nil ?_; refine hK _ ?_; clear hK K))
            refine wpOrd_nil ?_
            have HXC := Lib.hid (HX8.out.step HU7.out)
            have HXB := HXC
            have HYC := Lib.hid (HY8.out.step HU7.out)
            clear f0 f1 f2 wc0
            have wc0 := (HB.out.1.upd HXC.out (by simp)).cell HW8.out
            have f0 := HXC.out.some HCE.out.1 (by simp)
            have f1 := HXC.out.some HCE.out.2.1 (by simp)
            have f2 := HXC.out.some HCE.out.2.2 (by simp)
            go_upto_region 13 with fail
            refine wp_region_ord 9 2 [0, 1, 2, 3, 5, 6, 7, 8, 10, 11, 12, 13, 14] [3, 8] [0, 1, 2, 3, 5, 6, 7, 8, 4, 9, 10, 11, 12, 13, 14] (fun w' => ∃ x : Ext w7b, w' = x.val) (by kernel_rfl) (by kernel_rfl) (Ext.of (by iterate 25 (first | exact Upd.refl _ _ | assumption | refine Upd.alloc ?_ _ | refine Upd.drew ?_ | refine Upd.drewN ?_ _ | refine Upd.dl ?_ | refine Upd.step ?_ (Ext.upd _) | refine Upd.nil ?_ | skip))) ?_
            repeat (first | (refine wpOrd_load rfl rfl rfl rfl (fun K hK => ?_); go_big_quiet_step (fail); refine wpQuiet_nil ?_; refine hK _ ?_; clear hK K) | (refine wpOrd_free rfl rfl rfl (fun K hK => ?_); go_big_quiet_step (fail); refine wpQuiet_nil ?_; refine hK _ ?_; clear hK K))
            refine wpOrd_fix rfl rfl (fun K hK => ?_)
            go_wp2_with (go_at_call 22; refine (HON.out _ (HXB.out.step (by iterate 25 (first | exact Upd.refl _ _ | assumption | refine Upd.alloc ?_ _ | refine Upd.drew ?_ | refine Upd.drewN ?_ _ | refine Upd.dl ?_ | refine Upd.step ?_ (Ext.upd _) | refine Upd.nil ?_ | skip)))).mono ?_; rintro e w6 ⟨v6, rfl, o6, u6⟩)
            have HU6 := Lib.hid (And.intro (show Upd [] w7b w6 from Upd.step (by iterate 25 (first | exact Upd.refl _ _ | assumption | refine Upd.alloc ?_ _ | refine Upd.drew ?_ | refine Upd.drewN ?_ _ | refine Upd.dl ?_ | refine Upd.step ?_ (Ext.upd _) | refine Upd.nil ?_ | skip)) u6) o6)
            clear u6 o6
            refine ⟨fun _ => Ext.of HU6.out.1, ?_⟩
            repeat (first | (refine wpOrd_load rfl rfl rfl rfl (fun K hK => ?_); go_big_quiet_step (fail); refine wpQuiet_nil ?_; refine hK _ ?_; clear hK K) | (refine wpOrd_free rfl rfl rfl (fun K hK => ?_); go_big_quiet_step (fail); refine wpQuiet_nil ?_; refine hK _ ?_; clear hK K))
            refine wpOrd_fix rfl rfl (fun K hK => ?_)
            go_wp2_with (go_at_call 32; refine (HR2.out.2 _ _ HU6.out.2).mono ?_; rintro e w8b ⟨rfl, u7⟩)
            have HU7 := Lib.hid (HU6.out.1.step u7)
            clear u7
            refine ⟨fun hC => absurd hC (by decide), ?_⟩
            repeat (first | (refine wpOrd_load rfl rfl rfl rfl (fun K hK => ?_); go_big_quiet_step (fail); refine wpQuiet_nil ?_; refine hK _ ?_; clear hK K) | (refine wpOrd_free rfl rfl rfl (fun K hK => ?_); go_big_quiet_step (fail); refine wpQuiet_nil ?_; refine hK _ ?_; clear hK K))
            refine wpOrd_nil ?_
            have HXD := Lib.hid (HXC.out.step HU7.out)
            have HYD := Lib.hid (HYC.out.step HU7.out)
            clear f0 f1 f2 wc0
            have wc0 := (HB.out.1.upd HXD.out (by simp)).cell HW8.out
            have f0 := HXD.out.some HCE.out.1 (by simp)
            have f1 := HXD.out.some HCE.out.2.1 (by simp)
            have f2 := HXD.out.some HCE.out.2.2 (by simp)
            obtain ⟨ag, ao, hage, hacell⟩ := AuF.acc (show AuF w8b a [.slice a1 a.cuts.length c1, .slice a2 a.next.length c2, .slice a3 a.acc.length c3] from by
              obtain ⟨cs, hcs, hf⟩ := HAU.out w8b HXD.out
              cases hcs
              exact hf) HPL.out
            subst hage
            rw [HAB.out] at hacell
            go_upto_region 17 with fail
            refine wp_region_ord 8 1 [0, 1, 2, 3, 4, 5, 6, 7, 9] [3, 7] [0, 1, 2, 3, 4, 5, 6, 7, 8, 9] (fun w' => ∃ x : Ext w8b, w' = x.val) (by kernel_rfl) (by kernel_rfl) (Ext.of (by iterate 25 (first | exact Upd.refl _ _ | assumption | refine Upd.alloc ?_ _ | refine Upd.drew ?_ | refine Upd.drewN ?_ _ | refine Upd.dl ?_ | refine Upd.step ?_ (Ext.upd _) | refine Upd.nil ?_ | skip))) ?_
            repeat (first | (refine wpOrd_load rfl rfl rfl rfl (fun K hK => ?_); go_big_quiet_step (fail); refine wpQuiet_nil ?_; refine hK _ ?_; clear hK K) | (refine wpOrd_free rfl rfl rfl (fun K hK => ?_); go_big_quiet_step (fail); refine wpQuiet_nil ?_; refine hK _ ?_; clear hK K))
            refine wpOrd_fix rfl rfl (fun K hK => ?_)
            go_wp2_with (go_at_call 33; refine (HRR.out _ (HXD.out.step (by iterate 25 (first | exact Upd.refl _ _ | assumption | refine Upd.alloc ?_ _ | refine Upd.drew ?_ | refine Upd.drewN ?_ _ | refine Upd.dl ?_ | refine Upd.step ?_ (Ext.upd _) | refine Upd.nil ?_ | skip)))).mono ?_; rintro e w9b ⟨rfl, u7⟩)
            have HU9 := Lib.hid (show Upd [] w8b w9b from Upd.step (by iterate 25 (first | exact Upd.refl _ _ | assumption | refine Upd.alloc ?_ _ | refine Upd.drew ?_ | refine Upd.drewN ?_ _ | refine Upd.dl ?_ | refine Upd.step ?_ (Ext.upd _) | refine Upd.nil ?_ | skip)) u7)
            have hacell := HU9.out.some hacell (by simp)
            have g0 := HU9.out.some f0 (by simp)
            have g1 := HU9.out.some f1 (by simp)
            have g2 := HU9.out.some f2 (by simp)
            clear u7 f0 f1 f2 wc0
            have hpa : (p : Int) < a.acc.length := by have := HPL.out; omega
            refine ⟨fun hC => absurd hC (by decide), ?_⟩
            repeat (first | (refine wpOrd_load rfl rfl rfl rfl (fun K hK => ?_); go_big_quiet_step (fail); refine wpQuiet_nil ?_; refine hK _ ?_; clear hK K) | (refine wpOrd_free rfl rfl rfl (fun K hK => ?_); go_big_quiet_step (fail); refine wpQuiet_nil ?_; refine hK _ ?_; clear hK K))
            refine wpOrd_nil ?_
            cases ab
            all_goals
              go_wp2_with fail
              exact ⟨⟨k + 1, by go_num, by omega, Ext.of (HYD.out.step HU9.out)⟩, by simp [intOf]; omega⟩
          · have hke : k = 3 := by omega
            subst hke
            go_wp2_with fail
            exact ⟨⟨m + 1, by go_num, by omega, Ext.of HX8.out⟩, by simp [intOf]; omega⟩
      · have heb : (er != 0) = true := by simpa using he
        have HRV := Lib.hid (show Calls Tryz.prog 20 #[.agg #[.slice a1 a.cuts.length c1, .slice a2 a.next.length c2, .slice a3 a.acc.length c3]] wq fun e w' => e = .returned (.int .i64 er) ∧ Upd [] wq w' from by have h := rValid_calls (HAU.out wq HXU.out); rwa [hee] at h)
        have f0 := HXU.out.some e0 (by simp)
        have f1 := HXU.out.some e1 (by simp)
        have f2 := HXU.out.some e2 (by simp)
        clear hF hFF e0 e1 e2 ha
        go_upto_region 7 with ((with_reducible refine HRV.out.mono ?_); rintro e w5 ⟨rfl, u5⟩)
        have HX5 := Lib.hid (HXU.out.step u5)
        have f0 := u5.some f0 (by simp)
        have f1 := u5.some f1 (by simp)
        have f2 := u5.some f2 (by simp)
        have HON5 := Lib.hid (HON.out w5 HX5.out)
        clear u5
        have her : ((er : Int) != er) = false := by simp
        go_upto_region 9 with (first | ((with_reducible refine HON5.out.mono ?_); rintro e w6 ⟨v6, rfl, o6, u6⟩; have HVC := Lib.hid (hee ▸ Valid_calls o6); have HU6 := Lib.hid u6; clear u6 o6) | ((with_reducible refine HVC.out.mono ?_); rintro e w7 ⟨rfl, u7⟩))
        have HX7 := Lib.hid ((HX5.out.step HU6.out).step u7)
        clear f0 f1 f2 u7
        go_wp2_with fail
        go_loopw [19] (fun kv wr => ∃ k : Nat, kv = .int .i64 k ∧ k ≤ 3 ∧ ∃ x : Ext w7, wr = x.val) (fun kv _ => 3 - (intOf kv).toNat)
        case atStart => exact ⟨0, rfl, by omega, Ext.of (by iterate 25 (first | exact Upd.refl _ _ | assumption | refine Upd.alloc ?_ _ | refine Upd.drew ?_ | refine Upd.drewN ?_ _ | refine Upd.dl ?_ | refine Upd.step ?_ (Ext.upd _) | refine Upd.nil ?_ | skip))⟩
        case round =>
          obtain ⟨k, rfl, hk, x, rfl⟩ := hrel
          have HX8 := Lib.hid (HX7.out.step x.upd)
          have HY8 := Lib.hid x.upd
          generalize x.val = wa at *
          by_cases hk3 : k < 3
          · have hki : (k : Int) < 3 := by omega
            obtain ⟨sw, hw, hsw⟩ : ∃ sw : ByteArray, ([.string { data := #[] }, .string s1, .string s2] : List Value)[k]? = some (.string sw) ∧ sw.size ≤ 9223372036854775807 := by
              have q1 := HS1.out.1
              have q2 := HS2.out
              rcases (by omega : k = 0 ∨ k = 1 ∨ k = 2) with rfl | rfl | rfl
              · exact ⟨_, rfl, by simp [ByteArray.size]⟩
              · exact ⟨_, rfl, by omega⟩
              · exact ⟨_, rfl, q2⟩
            have wc0 := (HB.out.1.upd HX8.out (by simp)).cell hw
            have f0 := HX8.out.some HCE.out.1 (by simp)
            have f1 := HX8.out.some HCE.out.2.1 (by simp)
            have f2 := HX8.out.some HCE.out.2.2 (by simp)
            have hrun : Aut.runN a sw = 0 := by unfold Aut.runN; rw [if_pos (by rw [hee]; exact he)]
            have hacn : Aut.accN a sw = false := by unfold Aut.accN; rw [if_pos (by rw [hee]; exact he)]
            have hru2 : ∀ (w' : World) (v' : Value), AuV w' a v' → Calls Tryz.prog 31 #[v', .string sw] w' fun e w2 => e = .returned (.tuple #[.int .i64 0, .int .i64 er]) ∧ Upd [] w' w2 := fun w' v' h => by
              have h9 := Run_calls h sw hsw
              rwa [hee, hrun] at h9
            have hac2 : ∀ (w' : World) (v' : Value), AuV w' a v' → Calls Tryz.prog 32 #[v', .string sw] w' fun e w2 => e = .returned (.tuple #[.bool false, .int .i64 er]) ∧ Upd [] w' w2 := fun w' v' h => by
              have h9 := Accepts_calls h sw hsw
              rwa [hee, hacn] at h9
            clear hrun hacn
            have HR2 := Lib.hid (And.intro hru2 hac2)
            clear hru2 hac2
            have HW8 := Lib.hid hw
            have HXB := Lib.hid HX8.out
            clear hw
            go_upto_region 12 with fail
            refine wp_region_ord 9 2 [0, 1, 2, 3, 5, 6, 7, 8, 10, 11, 12, 13, 14] [3, 8] [0, 1, 2, 3, 5, 6, 7, 8, 4, 9, 10, 11, 12, 13, 14] (fun w' => ∃ x : Ext wa, w' = x.val) (by kernel_rfl) (by kernel_rfl) (Ext.of (by iterate 25 (first | exact Upd.refl _ _ | assumption | refine Upd.alloc ?_ _ | refine Upd.drew ?_ | refine Upd.drewN ?_ _ | refine Upd.dl ?_ | refine Upd.step ?_ (Ext.upd _) | refine Upd.nil ?_ | skip))) ?_
            repeat (first | (refine wpOrd_load rfl rfl rfl rfl (fun K hK => ?_); go_big_quiet_step (fail); refine wpQuiet_nil ?_; refine hK _ ?_; clear hK K) | (refine wpOrd_free rfl rfl rfl (fun K hK => ?_); go_big_quiet_step (fail); refine wpQuiet_nil ?_; refine hK _ ?_; clear hK K))
            refine wpOrd_fix rfl rfl (fun K hK => ?_)
            go_wp2_with (go_at_call 22; refine (HON.out _ (HXB.out.step (by iterate 25 (first | exact Upd.refl _ _ | assumption | refine Upd.alloc ?_ _ | refine Upd.drew ?_ | refine Upd.drewN ?_ _ | refine Upd.dl ?_ | refine Upd.step ?_ (Ext.upd _) | refine Upd.nil ?_ | skip)))).mono ?_; rintro e w6 ⟨v6, rfl, o6, u6⟩)
            have HU6 := Lib.hid (And.intro (show Upd [] wa w6 from Upd.step (by iterate 25 (first | exact Upd.refl _ _ | assumption | refine Upd.alloc ?_ _ | refine Upd.drew ?_ | refine Upd.drewN ?_ _ | refine Upd.dl ?_ | refine Upd.step ?_ (Ext.upd _) | refine Upd.nil ?_ | skip)) u6) o6)
            clear u6 o6
            refine ⟨fun _ => Ext.of HU6.out.1, ?_⟩
            repeat (first | (refine wpOrd_load rfl rfl rfl rfl (fun K hK => ?_); go_big_quiet_step (fail); refine wpQuiet_nil ?_; refine hK _ ?_; clear hK K) | (refine wpOrd_free rfl rfl rfl (fun K hK => ?_); go_big_quiet_step (fail); refine wpQuiet_nil ?_; refine hK _ ?_; clear hK K))
            refine wpOrd_fix rfl rfl (fun K hK => ?_)
            go_wp2_with (go_at_call 31; refine (HR2.out.1 _ _ HU6.out.2).mono ?_; rintro e w7b ⟨rfl, u7⟩)
            have HU7 := Lib.hid (HU6.out.1.step u7)
            clear u7
            refine ⟨fun hC => absurd hC (by decide), ?_⟩
            repeat (first | (refine wpOrd_load rfl rfl rfl rfl (fun K hK => ?_); go_big_quiet_step (fail); refine wpQuiet_nil ?_; refine hK _ ?_; clear hK K) | (refine wpOrd_free rfl rfl rfl (fun K hK => ?_); go_big_quiet_step (fail); refine wpQuiet_nil ?_; refine hK _ ?_; clear hK K))
            refine wpOrd_nil ?_
            have HXC := Lib.hid (HX8.out.step HU7.out)
            have HXB := HXC
            have HYC := Lib.hid (HY8.out.step HU7.out)
            clear f0 f1 f2 wc0
            have wc0 := (HB.out.1.upd HXC.out (by simp)).cell HW8.out
            have f0 := HXC.out.some HCE.out.1 (by simp)
            have f1 := HXC.out.some HCE.out.2.1 (by simp)
            have f2 := HXC.out.some HCE.out.2.2 (by simp)
            go_upto_region 13 with fail
            refine wp_region_ord 9 2 [0, 1, 2, 3, 5, 6, 7, 8, 10, 11, 12, 13, 14] [3, 8] [0, 1, 2, 3, 5, 6, 7, 8, 4, 9, 10, 11, 12, 13, 14] (fun w' => ∃ x : Ext w7b, w' = x.val) (by kernel_rfl) (by kernel_rfl) (Ext.of (by iterate 25 (first | exact Upd.refl _ _ | assumption | refine Upd.alloc ?_ _ | refine Upd.drew ?_ | refine Upd.drewN ?_ _ | refine Upd.dl ?_ | refine Upd.step ?_ (Ext.upd _) | refine Upd.nil ?_ | skip))) ?_
            repeat (first | (refine wpOrd_load rfl rfl rfl rfl (fun K hK => ?_); go_big_quiet_step (fail); refine wpQuiet_nil ?_; refine hK _ ?_; clear hK K) | (refine wpOrd_free rfl rfl rfl (fun K hK => ?_); go_big_quiet_step (fail); refine wpQuiet_nil ?_; refine hK _ ?_; clear hK K))
            refine wpOrd_fix rfl rfl (fun K hK => ?_)
            go_wp2_with (go_at_call 22; refine (HON.out _ (HXB.out.step (by iterate 25 (first | exact Upd.refl _ _ | assumption | refine Upd.alloc ?_ _ | refine Upd.drew ?_ | refine Upd.drewN ?_ _ | refine Upd.dl ?_ | refine Upd.step ?_ (Ext.upd _) | refine Upd.nil ?_ | skip)))).mono ?_; rintro e w6 ⟨v6, rfl, o6, u6⟩)
            have HU6 := Lib.hid (And.intro (show Upd [] w7b w6 from Upd.step (by iterate 25 (first | exact Upd.refl _ _ | assumption | refine Upd.alloc ?_ _ | refine Upd.drew ?_ | refine Upd.drewN ?_ _ | refine Upd.dl ?_ | refine Upd.step ?_ (Ext.upd _) | refine Upd.nil ?_ | skip)) u6) o6)
            clear u6 o6
            refine ⟨fun _ => Ext.of HU6.out.1, ?_⟩
            repeat (first | (refine wpOrd_load rfl rfl rfl rfl (fun K hK => ?_); go_big_quiet_step (fail); refine wpQuiet_nil ?_; refine hK _ ?_; clear hK K) | (refine wpOrd_free rfl rfl rfl (fun K hK => ?_); go_big_quiet_step (fail); refine wpQuiet_nil ?_; refine hK _ ?_; clear hK K))
            refine wpOrd_fix rfl rfl (fun K hK => ?_)
            go_wp2_with (go_at_call 32; refine (HR2.out.2 _ _ HU6.out.2).mono ?_; rintro e w8b ⟨rfl, u7⟩)
            have HU7 := Lib.hid (HU6.out.1.step u7)
            clear u7
            refine ⟨fun hC => absurd hC (by decide), ?_⟩
            repeat (first | (refine wpOrd_load rfl rfl rfl rfl (fun K hK => ?_); go_big_quiet_step (fail); refine wpQuiet_nil ?_; refine hK _ ?_; clear hK K) | (refine wpOrd_free rfl rfl rfl (fun K hK => ?_); go_big_quiet_step (fail); refine wpQuiet_nil ?_; refine hK _ ?_; clear hK K))
            refine wpOrd_nil ?_
            have HXD := Lib.hid (HXC.out.step HU7.out)
            have HYD := Lib.hid (HYC.out.step HU7.out)
            clear f0 f1 f2 wc0
            have wc0 := (HB.out.1.upd HXD.out (by simp)).cell HW8.out
            have f0 := HXD.out.some HCE.out.1 (by simp)
            have f1 := HXD.out.some HCE.out.2.1 (by simp)
            have f2 := HXD.out.some HCE.out.2.2 (by simp)
            go_wp2_with fail
            exact ⟨⟨k + 1, by go_num, by omega, Ext.of HYD.out⟩, by simp [intOf]; omega⟩
          · have hke : k = 3 := by omega
            subst hke
            go_wp2_with fail
            exact ⟨⟨m + 1, by go_num, by omega, Ext.of HX8.out⟩, by simp [intOf]; omega⟩
    · have hme : m = ls.length := by omega
      subst hme
      have HLV := Lib.hid (lives_calls (w := wq))
      go_wp2_with ((with_reducible refine HLV.out.mono ?_); rintro e w8 ⟨rfl, u8⟩)
      go_ret
      exact ⟨rfl, (HU3.out.step HXU.out).step u8⟩
end
end Law
end Go.Proofs.YtjclbjdkkdijbaaGreat
end
