/- Walks through package auto: number, at states with blocks as keys. Conditions: none. Walks through package auto: blocks. Conditions: none. Automata under construction in memory, as Minimal makes them: rows that grow in place. Conditions: none. -/
import Derived.Test.YtjclbjdkkdijbaaGreatAuZf
import Derived.Test.YtjclbjdkkdijbaaGreatAutoY
import Derived.Test.YtjclbjdkkdijbaaGreatAuZb
import Derived.Test.YtjclbjdkkdijbaaGreatBstr
import Derived.Test.YtjclbjdkkdijbaaGreatRfT
set_option linter.unusedVariables false
set_option linter.unusedSimpArgs false
set_option linter.unusedSectionVars false
section
open Go.RowKit
namespace Go.Proofs.YtjclbjdkkdijbaaGreat
open L
namespace Aut
open Auto
attribute [-go_sem] sliced
theorem iLit_wf {n : Nat} (h : n < 1048576) : (Lit.int .i64 (n : Int)).wf = true := lit_i64 ⟨by omega, by omega⟩
/-- Small numbers as keys. -/
def iE : KE Tryz.prog 3 Nat where
  key n := .int .i64 n
  lit n := .int .i64 n
  ok n := n < 1048576
  kd := Go.Maps.int_keyed Tryz.underlying3
  enc n h := by
    have := iLit_wf h
    unfold keyOf
    rw [Tryz.underlying3]
    simp [mapKey, Tryz.underlying3, this]
  inj x y _ _ h := by
    have : (x : Int) = y := by simpa using h
    omega
theorem keys_few {S : List Nat} {key : Nat → Nat} (h : (S.map key).Nodup) (hk : ∀ s ∈ S, key s < 256) : S.length ≤ 256 := by
  have := nodup_lt 256 _ h fun x hx => by
    obtain ⟨s, hs, rfl⟩ := List.mem_map.1 hx
    exact hk s hs
  simpa using this
/-- What comes next, and the block of a state. -/
def blkN (bl : List Nat) (s : Nat) : Nat := bl.getD s 0
section
variable {w w' : World} {v : Value}
set_option maxRecDepth 100000 in
theorem Min1_calls {bl : List Nat} {bb s : Nat} {vb : Value} (hb : w.cell? ⟨bb, 0, none⟩ = some vb) (hs : SL w 1 vb bl.length (ints (bl.map Int.ofNat))) (h : s < bl.length) : Calls Tryz.prog 68 #[.int .i64 s, .pointer (some ⟨bb, 0, none⟩)] w fun e w' => e = .returned (.int .i64 (blkN bl s : Nat)) ∧ Upd [] w w' := by
  obtain ⟨a, cap, rfl, _, _, hc⟩ := hs.elems
  obtain ⟨g, off, rfl, hc2⟩ := hc (by omega)
  have hcell := hc2 s (.int .i64 (blkN bl s : Nat)) (by
    refine ints_get ?_
    rw [List.getElem?_map, gd_some (d := 0) h]
    rfl)
  generalize blkN bl s = x at *
  have hi : (s : Int) < bl.length := by omega
  clear hs hc hc2
  go_enter Tryz.func68, Tryz.ntmps68
  go_wp2_with fail
  go_ret
  exact ⟨rfl, Upd.refl _ _⟩
set_option maxRecDepth 100000 in
theorem Min2_calls {a : Au} {ab s k : Nat} {x y : Value} {a2 : Option Addr} {c2 : Nat} (ha : AuF w a [x, .slice a2 a.next.length c2, y]) (oa : Ok a) (p1 : w.cell? ⟨ab, 1, none⟩ = some (.slice a2 a.next.length c2)) (hs : s < a.next.length) (hk : k < a.cuts.length) :
    Calls Tryz.prog 69 #[.int .i64 s, .int .i64 k, .pointer (some ⟨ab, 0, none⟩)] w fun e w' => e = .returned (.tuple #[.int .i64 (rowA a s k : Nat), .int .i64 0]) ∧ Upd [] w w' := by
  obtain ⟨g, off, ar, cr, rfl, hc, hrow⟩ := ha.row hs
  have hr := oa.rows _ (gd_memA (d := []) hs)
  have HR := Lib.hid (show rowA a s k = ((a.next.getD s []).getD k 0).toNat from rfl)
  generalize a.next.getD s [] = row at *
  obtain ⟨_, _, he, _, _, hce⟩ := hrow.elems
  cases he
  obtain ⟨g2, o2, rfl, kk⟩ := hce (by omega)
  have ht := kk k _ (ints_get (gd_some (d := 0) (by omega)))
  have hn := (hr.2 _ (gd_memA (d := 0) (by omega : k < row.length))).1
  obtain ⟨t, ht'⟩ : ∃ t : Nat, row.getD k 0 = t := ⟨_, (Int.toNat_of_nonneg hn).symm⟩
  rw [ht', Int.toNat_natCast] at HR
  rw [ht'] at ht
  have hkr : k < row.length := by omega
  have hsi : (s : Int) < a.next.length := by omega
  have hki : (k : Int) < row.length := by omega
  clear ha oa hrow hr hce kk hn ht'
  go_enter Tryz.func69, Tryz.ntmps69
  go_wp2_with fail
  go_ret2
  rw [HR.out]
  exact ⟨rfl, Upd.refl _ _⟩
set_option maxRecDepth 100000 in
set_option maxHeartbeats 16000000 in
theorem numberI_calls {a : Au} {bl : List Nat} {ab bb : Nat} {x y vb : Value} {a2 : Option Addr} {c2 : Nat} (ha : AuF w a [x, .slice a2 a.next.length c2, y]) (oa : Ok a) (p1 : w.cell? ⟨ab, 1, none⟩ = some (.slice a2 a.next.length c2)) (hb : w.cell? ⟨bb, 0, none⟩ = some vb) (hbs : SL w 1 vb bl.length (ints (bl.map Int.ofNat))) (hbl : bl.length = a.next.length) (hbr : ∀ n ∈ bl, n < 256) :
    Calls Tryz.prog 67 #[.int .i64 0, .int .i64 a.cuts.length, .func (.func 68) #[] #[.pointer (some ⟨bb, 0, none⟩)], .func (.func 69) #[] #[.pointer (some ⟨ab, 0, none⟩)]] w fun e w' =>
      ∃ S T sv tv, upToK (blkN bl) 0 a.cuts.length (rowA a) S.length = (S, T) ∧ e = .returned (.tuple #[sv, tv, .int .i64 0]) ∧ OwW 3 1 S.length w (.slice none 0 0) sv (ints (S.map Int.ofNat)) w' ∧ CL w' tv (natRows T) ∧ S.length ≤ 256 ∧ (∀ s ∈ S, s < a.next.length) ∧ (∀ (U : List Nat) (w2 : World), Upd U w' w2 → (∀ b ∈ U, b < w.heap.size ∨ w'.heap.size ≤ b) → CL w2 tv (natRows T)) := by
  have hm : a.cuts.length ≤ 256 := cuts_len oa
  have HNX := Lib.hid (show ∀ (w5 : World), Upd [] w w5 → ∀ s k, s < a.next.length → k < a.cuts.length → Calls Tryz.prog 69 #[.int .i64 s, .int .i64 k, .pointer (some ⟨ab, 0, none⟩)] w5 fun e w' => e = .returned (.tuple #[.int .i64 (rowA a s k : Nat), .int .i64 0]) ∧ Upd [] w5 w' from fun w5 u5 s k hs hk =>
    Min2_calls (ha.ext u5) oa (u5.some p1 (by simp)) hs hk)
  have HNG := Lib.hid (show ∀ (s k : Nat), s < a.next.length → k < a.cuts.length → rowA a s k < a.next.length from fun s k hs hk => by
    have h1 := oa.rows _ (gd_memA (d := []) hs)
    have h2 := h1.2 _ (gd_memA (d := 0) (by omega : k < (a.next.getD s []).length))
    show ((a.next.getD s []).getD k 0).toNat < _
    omega)
  have HKB := Lib.hid (show ∀ s, s < a.next.length → blkN bl s < 256 from fun s hs => hbr _ (gd_memA (d := 0) (by omega)))
  have HAB := Lib.hid (And.intro oa.some_ oa.few)
  have HK := Lib.hid (show ∀ (w5 : World), Upd [] w w5 → ∀ s : Nat, s < a.next.length → Calls Tryz.prog 68 #[.int .i64 s, .pointer (some ⟨bb, 0, none⟩)] w5 fun e w' => e = .returned (.int .i64 (blkN bl s : Nat)) ∧ Upd [] w5 w' from fun w5 u5 s hs => Min1_calls (u5.some hb (by simp)) (hbs.upd u5 (by simp)) (by omega))
  clear ha oa p1 hb hbs hbl hbr
  generalize hcs : a.cuts.length = m at *
  clear hcs
  go_enter Tryz.func67, Tryz.ntmps67
  go_upto_region 2 with fail
  have b2 := Blk.new w [.int .i64 0] 3
  have u2 := (Upd.refl [] w).alloc (.cells #[.int .i64 0] 3)
  have z2 : (w.alloc (.cells #[.int .i64 0] 3)).heap.size = w.heap.size + 1 := by simp
  change Code.wp _ _ _ _ (w.alloc (.cells #[.int .i64 0] 3))
  change Blk (w.alloc (.cells #[.int .i64 0] 3)) _ _ _ at b2
  generalize (w.alloc (.cells #[.int .i64 0] 3)) = w2 at *
  generalize hsb : w.heap.size = sb at *
  have H2 := Lib.hid (And.intro b2 (And.intro u2 (And.intro z2 hsb)))
  clear b2 u2 z2 hsb
  have hmm := @run_makeMap Tryz.prog
  have HM0 := Lib.hid (GM.new iE w2)
  have HM1 := Lib.hid ((Upd.refl [] w2).alloc (.map #[] 0))
  have HK0 := Lib.hid (show Calls Tryz.prog 68 #[.int .i64 0, .pointer (some ⟨bb, 0, none⟩)] (w2.alloc (.map #[] 0)) fun e w' => e = .returned (.int .i64 (blkN bl 0 : Nat)) ∧ Upd [] (w2.alloc (.map #[] 0)) w' from HK.out _ (H2.out.2.1.step HM1.out) 0 HAB.out.1)
  have HB0 := Lib.hid (show blkN bl 0 < 1048576 by have := HKB.out 0 HAB.out.1; omega)
  go_upto_region 3 with (first | ((with_reducible refine HK0.out.mono ?_); rintro e w5 ⟨rfl, u5⟩; have HU5 := Lib.hid u5; clear u5) | (refine wpList_gmins (E := iE) Tryz.underlying148 rfl _ _ _ rfl _ 0 _ (blkN bl 0) (.int .i64 0) rfl rfl rfl (HM0.out.upd HU5.out (by simp)) (by unfold maxLen; omega) HB0.out ?_; intro w7 m7 u7))
  have hz2 := H2.out.2.2.1
  have hsb := H2.out.2.2.2
  have hN0 : Np iE 3 1 w w2.heap.size (.slice (some ⟨sb, 0, none⟩) 1 1) (.slice none 0 0) 1 1 (ints [0]) [] [] [] (pmap [blkN bl 0]) w7 := by
    have U7 : Upd [w2.heap.size] w2 w7 := (Upd.nil (HM1.out.step HU5.out)).trans u7
    have hB7 := H2.out.1.upd U7 (by simp; omega)
    refine ⟨⟨⟨by decide, .inr ⟨sb, 1, #[.int .i64 0], rfl, Nat.zero_le _, hB7, Nat.le_refl _, by decide, by decide, by simp [ints]⟩⟩, ?_, fun g hg => ?_⟩, m7.congr fun y => by rw [← pmap_one], by omega, fun q hq => ?_, OwnL.nil _ _ _, ⟨by simp, by simp [Value.ownBlock], by simp⟩, by simp, by simp⟩
    · exact H2.out.2.1.fresh U7 (fun b hb => .inr (by simp at hb; omega))
    · simp only [Value.ownBlock, Option.some.injEq] at hg; exact .inr (by omega)
    · simp only [Value.ownBlock, Option.some.injEq] at hq
      exact ⟨by omega, by simp, by simp [Value.ownBlock], by simp⟩
  have HN0 := Lib.hid hN0
  clear hN0 m7 u7 hmm HM0 HM1 HK0 HU5 H2 hz2 hsb
  generalize w2.heap.size = mb at *
  go_wp2_with fail
  go_loopw [11, 13, 14] (fun sw tw iv wr => ∃ (i : Nat) (S : List Nat) (T : List (List Nat)) (F : List Nat) (sv tv : Value), sv = sw ∧ tv = tw ∧ iv = .int .i64 i ∧ i ≤ S.length ∧ Hid (upToK (blkN bl) 0 m (rowA a) i = (S, T) ∧ (S.map (blkN bl)).Nodup ∧ (∀ s ∈ S, s < a.next.length) ∧ Np iE 3 1 w mb sv tv S.length S.length (ints (S.map Int.ofNat)) T F [] (pmap (S.map (blkN bl))) wr ∧ T.length ≤ i)) (fun _ _ iv _ => 256 - (intOf iv).toNat)
  case atStart => exact ⟨0, [0], [], [], _, _, rfl, rfl, rfl, Nat.zero_le _, Lib.hid ⟨rfl, by simp, fun s hs => by simp at hs; subst hs; exact HAB.out.1, HN0.out, Nat.le_refl _⟩⟩
  case round =>
    obtain ⟨i, S, T, F, sv, tv, rfl, rfl, rfl, hi, HI⟩ := hrel
    obtain ⟨asv, csv, rfl, _⟩ := id HI.out.2.2.2.1.st.form
    have hS256 := keys_few HI.out.2.1 (fun s hs => HKB.out s (HI.out.2.2.1 s hs))
    by_cases hlt : i < S.length
    · have hli : (i : Int) < S.length := by omega
      have hmI : ((m : Nat) : Int) ≤ 256 := by omega
      go_upto_region 8 with (at_make; refine wpList_mk rfl _ _ _ rfl 3 1 8 _ Tryz.underlying22 infoInt rfl (by decide) .i64 .i64 m m m rfl rfl (by omega) (by omega) (by omega) (by omega) ?_)
      have hrep : (rows m fun _ => [Value.int .i64 0]) = ints (List.replicate m 0) := by rw [rows_one]; simp [ints]
      change Code.wp _ _ _ _ (wr.alloc (.cells (rows m fun _ => [Value.int .i64 0]).toArray 3))
      rw [hrep]
      have bR := Blk.new wr (ints (List.replicate m 0)) 3
      have uR := (Upd.refl [] wr).alloc (.cells (ints (List.replicate m 0)).toArray 3)
      have hzR : wr.heap.size < (wr.alloc (.cells (ints (List.replicate m 0)).toArray 3)).heap.size := by simp
      have hNr := HI.out.2.2.2.1.row uR hzR
      generalize (wr.alloc (.cells (ints (List.replicate m 0)).toArray 3)) = wq at *
      generalize wr.heap.size = rb at *
      have hs0 := List.getElem?_eq_getElem hlt
      generalize S[i] = s at *
      have HQ := Lib.hid (And.intro bR (And.intro hNr hs0))
      clear hrep bR uR hzR hNr hs0
      go_wp2_with fail
      go_loopw [11, 37] (fun sw kv wk => ∃ (k : Nat) (S' : List Nat) (row : List Nat) (sv' : Value), sv' = sw ∧ kv = .int .i64 k ∧ k ≤ m ∧ Hid (scanK (blkN bl) (rowA a s) k S = (S', row) ∧ (S'.map (blkN bl)).Nodup ∧ (∀ s ∈ S', s < a.next.length) ∧ S'[i]? = some s ∧ Np iE 3 1 w mb sv' tv S'.length S'.length (ints (S'.map Int.ofNat)) T F [rb] (pmap (S'.map (blkN bl))) wk ∧ Blk wk rb (ints (row.map Int.ofNat ++ List.replicate (m - k) 0)) 3 ∧ row.length = k)) (fun _ kv _ => m - (intOf kv).toNat)
      case atStart => exact ⟨0, S, [], _, rfl, rfl, Nat.zero_le _, Lib.hid ⟨rfl, HI.out.2.1, HI.out.2.2.1, HQ.out.2.2, HQ.out.2.1, by simpa using HQ.out.1, rfl⟩⟩
      case round =>
        obtain ⟨k, S', row, sv', rfl, rfl, hk, HJ⟩ := hrel
        obtain ⟨asv', csv', rfl, _, _, hcell⟩ := id HJ.out.2.2.2.2.1.st.form
        have hS' := keys_few HJ.out.2.1 (fun s hs => HKB.out s (HJ.out.2.2.1 s hs))
        by_cases hkl : k < m
        · have hki : (k : Int) < m := by omega
          have hi' : i < S'.length := (List.getElem?_eq_some_iff.1 HJ.out.2.2.2.1).1
          obtain ⟨g, rfl, hcell2⟩ := hcell (by omega) (by decide)
          have hii : (i : Int) < S'.length := by omega
          have e0 := hcell2 i (.int .i64 s) (by refine ints_get ?_; rw [List.getElem?_map, HJ.out.2.2.2.1]; rfl)
          have hgs := HJ.out.2.2.1 _ (List.mem_of_getElem? HJ.out.2.2.2.1)
          have HC2 := Lib.hid (HNX.out _ HJ.out.2.2.2.2.1.u s k hgs hkl)
          have hgx := HNG.out s k hgs hkl
          have HSO := Lib.hid (fun hm => scanK_old HJ.out.1 (f := rowA a s) hm)
          have HSN := Lib.hid (fun hm => scanK_new HJ.out.1 (f := rowA a s) hm)
          have HND := Lib.hid (addK_nodup HJ.out.2.1 (rowA a s k))
          generalize rowA a s k = q at *
          have hbq := HKB.out q hgx
          have HOK := Lib.hid (show blkN bl q < 1048576 by omega)
          have HG := Lib.hid (And.intro hgx (And.intro hi' hbq))
          clear hcell hcell2 hgs hi' hbq
          go_upto_region 14 with ((with_reducible refine HC2.out.mono ?_); rintro e w6 ⟨rfl, u6⟩)
          have HX6 := Lib.hid (And.intro (HJ.out.2.2.2.2.1.quiet u6) (HJ.out.2.2.2.2.2.1.upd u6 (by simp)))
          have HKQ := Lib.hid (fun (w7 : World) (u7 : Upd [] w6 w7) => HK.out w7 (HX6.out.1.u.step u7) q hgx)
          clear u6 e0 HC2 hgx
          by_cases hmem : blkN bl q ∈ S'.map (blkN bl)
          · have HL := Lib.hid (And.intro (show pmap (S'.map (blkN bl)) (blkN bl q) = some (.int .i64 (place (S'.map (blkN bl)) (blkN bl q) : Nat)) by unfold pmap; rw [if_pos hmem]) (HSO.out hmem))
            clear hmem HSO HSN HND
            generalize blkN bl q = bq at *
            generalize place (S'.map (blkN bl)) bq = pl at *
            go_upto_region 21 with (first | ((with_reducible refine (HKQ.out _ (Upd.refl _ _)).mono ?_); rintro e w7 ⟨rfl, u7⟩; have HU7 := Lib.hid u7; clear u7) | (refine wpList_gmlook_ok (E := iE) Tryz.underlying148 infoInt _ _ rfl rfl mb S'.length (pmap (S'.map (blkN bl))) bq rfl rfl (HX6.out.1.mp.upd HU7.out (by simp)) HOK.out ?_; rw [HL.out.1]; simp only [Option.getD_some, Option.isSome_some]))
            have bR := HX6.out.2.upd HU7.out (by simp)
            have c8 : w7.cell? ⟨rb, k, none⟩ = some (.int .i64 0) := bR.cell (row_zero HJ.out.2.2.2.2.2.2 hkl)
            have f8 : ∀ q, w7.frozen? ⟨rb, q, none⟩ = false := bR.free
            have HBR := Lib.hid bR
            clear bR
            go_wp2_with fail
            have uS : Upd [rb] w7 (w7.setCell ⟨rb, k, none⟩ (.int .i64 (pl : Nat))) := (Upd.refl [rb] w7).set (p := ⟨rb, k, none⟩) (by simp) _
            refine ⟨⟨k + 1, S', row ++ [pl], _, rfl, by go_num, by omega, Lib.hid ⟨HL.out.2, HJ.out.2.1, HJ.out.2.2.1, HJ.out.2.2.2.1, (HX6.out.1.quiet HU7.out).set uS, ?_, by simp [HJ.out.2.2.2.2.2.2]⟩⟩, by simp [intOf]; omega⟩
            have := HBR.out.set k (.int .i64 (pl : Nat))
            rw [row_set HJ.out.2.2.2.2.2.2 hkl] at this
            exact this
          · have HL := Lib.hid (And.intro (show pmap (S'.map (blkN bl)) (blkN bl q) = none by unfold pmap; rw [if_neg hmem]) (And.intro (HSN.out hmem) (pmap_push hmem)))
            have HND2 := Lib.hid (show ((S' ++ [q]).map (blkN bl)).Nodup by
              have h1 := HND.out
              unfold addK at h1
              rw [if_neg hmem] at h1
              exact h1)
            have h255 : S'.length < 256 := by
              have h2 := keys_few HND2.out (fun s hs => by
                rcases List.mem_append.1 hs with h | h
                · exact HKB.out s (HJ.out.2.2.1 s h)
                · simp at h; subst h; exact HG.out.2.2)
              rw [List.length_append, List.length_singleton] at h2
              omega
            have hbb : ((S'.length : Int) == 256) = false := by simp; omega
            clear hmem HSO HSN HND
            generalize hbq : blkN bl q = bq at *
            have HBQ := Lib.hid hbq
            clear hbq
            go_upto_region 21 with (first
              | ((with_reducible refine (HKQ.out w6 (Upd.refl _ _)).mono ?_); rintro e w7 ⟨rfl, u7⟩; have HU7 := Lib.hid u7; clear u7)
              | (refine wpList_gmlook_ok (E := iE) Tryz.underlying148 infoInt _ _ rfl rfl mb S'.length (pmap (S'.map (blkN bl))) bq rfl rfl (HX6.out.1.mp.upd HU7.out (by simp)) HOK.out ?_; rw [HL.out.1]; simp only [Option.getD_none, Option.isSome_none])
              | ((with_reducible refine (HKQ.out w7 HU7.out).mono ?_); rintro e w8 ⟨rfl, u8⟩; have HU8 := Lib.hid (HU7.out.step u8); clear u8)
              | (refine wpList_gmput (E := iE) Tryz.underlying148 rfl _ _ _ rfl mb S'.length (pmap (S'.map (blkN bl))) bq (.int .i64 (S'.length : Nat)) rfl rfl rfl (HX6.out.1.mp.upd HU8.out (by simp)) (by unfold maxLen; omega) HOK.out ?_; intro w9 m9 u9; have HU9 := Lib.hid (And.intro m9 u9); have HNP := Lib.hid ((HX6.out.1.quiet HU8.out).put u9 (f' := pmap (S'.map (blkN bl) ++ [bq])) (m' := S'.length + 1) (m9.congr (fun z => by have := HL.out.2.2 z; rw [List.length_map] at this; exact this))); clear m9 u9)
              | (refine wpList_push rfl rfl _ _ _ _ rfl rfl rfl 3 1 8 _ Tryz.underlying22 infoInt rfl (by decide) (by decide) (.int .i64 q) [.int .i64 q] rfl rfl rfl (by simp [Value.oneCell']) _ _ _ HNP.out.st.row rfl rfl (by unfold maxLen; omega) (by omega) ?_; intro g4 c4 w10 o10 u10 k10))
            have hnn := HNP.out.push o10 u10 k10
            have hrbm : rb ∉ [mb] := fun h => HNP.out.mf.2.2 (by simp at h; simp [h])
            have bR := ((HX6.out.2.upd HU8.out (by simp)).upd HU9.out.2 hrbm).upd u10 (fun h => (HNP.out.sm rb (by simpa using h)).2.2.2 (by simp))
            have c8 : w10.cell? ⟨rb, k, none⟩ = some (.int .i64 0) := bR.cell (row_zero HJ.out.2.2.2.2.2.2 hkl)
            have f8 : ∀ q, w10.frozen? ⟨rb, q, none⟩ = false := bR.free
            have HBR := Lib.hid (And.intro bR hnn)
            have hl1 : (S' ++ [q]).length = S'.length + 1 := by simp
            have HL1 := Lib.hid (And.intro hl1 h255)
            clear bR hnn hrbm o10 u10 k10 hl1 hbb
            go_wp2_with fail
            have uS : Upd [rb] w10 (w10.setCell ⟨rb, k, none⟩ (.int .i64 (S'.length : Nat))) := (Upd.refl [rb] w10).set (p := ⟨rb, k, none⟩) (by simp) _
            refine ⟨⟨k + 1, S' ++ [q], row ++ [S'.length], _, rfl, by go_num, by omega, Lib.hid ⟨HL.out.2.1, HND2.out, fun z hz => ?_, by rw [List.getElem?_append_left HG.out.2.1]; exact HJ.out.2.2.2.1, ?_, ?_, by simp [HJ.out.2.2.2.2.2.2]⟩⟩, by simp [intOf]; omega⟩
            · rcases List.mem_append.1 hz with hz | hz
              · exact HJ.out.2.2.1 z hz
              · simp at hz; subst hz; exact HG.out.1
            · rw [HL1.out.1, show (S' ++ [q]).map (blkN bl) = S'.map (blkN bl) ++ [bq] by rw [List.map_append, List.map_singleton, HBQ.out], show ints ((S' ++ [q]).map Int.ofNat) = ints (S'.map Int.ofNat) ++ [.int .i64 q] by simp [ints]]
              exact HBR.out.2.set uS
            · have := HBR.out.1.set k (.int .i64 (S'.length : Nat))
              rw [row_set HJ.out.2.2.2.2.2.2 hkl] at this
              exact this
        · have hke : k = m := by omega
          subst hke
          obtain ⟨vals, hv1, hv2⟩ := HJ.out.2.2.2.2.1.tb.ex
          have hTl : (natRows T).length ≤ 256 := by
            have h2 := HI.out.2.2.2.2
            unfold natRows
            rw [List.length_map]
            omega
          have HV := Lib.hid (And.intro hv1 hv2)
          have HTL := Lib.hid hTl
          clear hv1 hv2 hTl hcell
          go_wp2_with (refine wpList_push rfl rfl _ _ _ _ rfl rfl rfl 22 1 24 _ Tryz.underlying28 infoInts rfl (by decide) (by decide) (.slice (some ⟨rb, 0, none⟩) k k) [.slice (some ⟨rb, 0, none⟩) k k] rfl rfl rfl (by simp [Value.oneCell']) _ _ _ HV.out.1.row rfl rfl (by have := HTL.out; unfold maxLen; omega) (by have := HTL.out; omega) ?_; intro g4 c4 w10 o10 u10 k10)
          have hy : SL wr 1 (.slice (some ⟨rb, 0, none⟩) k k) row.length (ints (row.map Int.ofNat)) := by
            have := HJ.out.2.2.2.2.2.1
            rw [Nat.sub_self, List.replicate_zero, List.append_nil] at this
            have h2 := SL.of_blk (pad := []) (k := 1) (n := row.length) (cap := k) (xs := ints (row.map Int.ofNat)) (by simpa using this) (by simp [ints]) (by rw [HJ.out.2.2.2.2.2.2]; exact Nat.le_refl _) (by unfold maxLen; omega)
            rw [HJ.out.2.2.2.2.2.2] at h2 ⊢
            exact h2
          have hnn := HJ.out.2.2.2.2.1.done HV.out.1 HV.out.2 hy rfl o10 u10 k10
          have hTT := HI.out.2.2.2.2
          refine ⟨⟨i + 1, S', T ++ [row], F ++ [rb], _, _, rfl, rfl, by go_num, (List.getElem?_eq_some_iff.1 HJ.out.2.2.2.1).1, Lib.hid ⟨upToK_step HI.out.1 HQ.out.2.2 HJ.out.1, HJ.out.2.1, HJ.out.2.2.1, hnn, by simp; omega⟩⟩, by simp [intOf]; omega⟩
    · have hme : i = S.length := by omega
      subst hme
      go_wp2_with fail
      go_ret3
      refine ⟨S, T, _, _, HI.out.1, rfl, HI.out.2.2.2.1.st, HI.out.2.2.2.1.tb.cl, hS256, HI.out.2.2.1, fun U w2 hU hb => ?_⟩
      refine (HI.out.2.2.2.1.tb.upd hU fun c hc => ?_).cl
      rcases hb c hc with h | h
      · exact ⟨fun hf => by have := HI.out.2.2.2.1.fn c hf; omega, fun hv => by have := HI.out.2.2.2.1.tn c hv; omega⟩
      · exact ⟨fun hf => by have := HI.out.2.2.2.1.tb.lt c hf; omega, fun hv => by have := HI.out.2.2.2.1.tb.own_lt c hv; omega⟩
end
end Aut
end Go.Proofs.YtjclbjdkkdijbaaGreat
end
section
open Go.RowKit
namespace Go.Proofs.YtjclbjdkkdijbaaGreat
namespace L
open Go.Maps
/-- A map from string of exactly n keys, which is f. -/
def MSX (P : Program) (k : TypeId) (w : World) (b n : Nat) (f : List UInt8 → Option Value) : Prop :=
  ∃ D : DataW Value, w.ownsMap P k heldS b n D ∧ MSD D f ∧ Maps.size D = n
section
variable {P : Program} {k e : TypeId} {w w' : World} {b n : Nat} {f : List UInt8 → Option Value}
theorem MSX.ms (h : MSX P k w b n f) : MS P k w b n f := by
  obtain ⟨D, h1, h2, _⟩ := h
  exact ⟨D, h1, h2⟩
theorem MSX.new (w : World) (P : Program) (k : TypeId) : MSX P k (w.alloc (.map #[] 0)) w.heap.size 0 (fun _ => none) :=
  ⟨.map [], World.ownsMap_made w P k _, ⟨fun _ _ => rfl, fun _ _ h => by simp at h⟩, rfl⟩
theorem MSX.upd {S : List Nat} (h : MSX P k w b n f) (hu : Upd S w w') (hb : b ∉ S) : MSX P k w' b n f := by
  obtain ⟨D, ⟨es, clock, h1, h2⟩, h3⟩ := h
  exact ⟨D, ⟨es, clock, by rw [hu.block b (Array.getElem?_eq_some_iff.1 h1).1 hb]; exact h1, h2⟩, h3⟩
theorem MSX.congr {f' : List UInt8 → Option Value} (h : MSX P k w b n f) (he : ∀ x, f x = f' x) : MSX P k w b n f' := by
  obtain rfl : f = f' := funext he
  exact h
theorem MSX.put {t : TypeId} (h : MSX P k w b n f) (hk : P.underlying k = some .string) (ht : P.underlying t = some (.map k e)) (hn : n < maxLen) {key : ByteArray} (hi : key.size ≤ maxLen) (hnew : f key.data.toList = none) (v : Value) :
    ∃ w', (Instr.mapUpdate t (.map (some b)) (.string key) v).run P w = .ok () w' ∧ MSX P k w' b (n + 1) (fun x => if x = key.data.toList then some v else f x) ∧ Upd [b] w w' := by
  obtain ⟨D, h1, h2, h5⟩ := h
  obtain ⟨w', hrun, h3, h4⟩ := h1.update (string_keyed hk) ht hn (WideMaps.keyOf_string_mk hk hi) (show heldS v = some (.held v, []) from rfl)
  refine ⟨w', hrun, ⟨_, h3, ⟨fun x hf => ?_, fun x u hf z => ?_⟩, ?_⟩, (Upd.refl _ w).grown h4 (fun j hj => by cases hj; exact .inl (by simp))⟩
  · by_cases e1 : x = key.data.toList
    · rw [if_pos e1] at hf; cases hf
    · rw [if_neg e1] at hf
      rw [has_put_other (by intro h; cases h; exact e1 rfl)]
      exact h2.no x hf
  · by_cases e1 : x = key.data.toList
    · rw [if_pos e1] at hf
      cases hf
      subst e1
      exact atKey_put_same h1.isMap (show WideAt.IsKeyLit (.string key.data.toList) from trivial) _ _
    · rw [if_neg e1] at hf
      rw [atKey_put_other (by intro h; cases h; exact e1 rfl)]
      exact h2.yes x u hf z
  · rw [size_put (h1.tidy (string_keyed hk)), h2.no _ hnew, h5]
    rfl
section
variable {ops : Array Oper} {rest : List Oper} {o : Oper} {a : Act} {Q : Exit → Act → World → Prop}
theorem wpList_msxput {t : TypeId} (hk : P.underlying k = some .string) (ht : P.underlying t = some (.map k e)) (hg : o.guard = none) (m x v : Operand) (hop : o.op = Op.mapUpdate t m x v)
    (b n : Nat) (f : List UInt8 → Option Value) (key : ByteArray) (val : Value) (hm : a.eval m = .map (some b)) (hx : a.eval x = .string key) (hv : a.eval v = val) (h : MSX P k w b n f) (hn : n < maxLen) (hi : key.size ≤ maxLen) (hnew : f key.data.toList = none)
    (hK : ∀ w', MSX P k w' b (n + 1) (fun y => if y = key.data.toList then some val else f y) → Upd [b] w w' → wpList P ops Q rest (a.put o.dst undef) w') : wpList P ops Q (o :: rest) a w := by
  refine wpList_plain hg fun K' hK' => ?_
  obtain ⟨w', hrun, h1, h2⟩ := MSX.put h hk ht hn hi hnew val
  unfold Oper.wp
  simp [execOp, hop, hm, hx, hv, hrun, Result.andThen]
  exact hK' _ _ (hK w' h1 h2)
theorem wpList_msxlen (hg : o.guard = none) (m : Operand) (t : TypeId) (hop : o.op = Op.call { callee := Callee.builtin Builtin.len, args := #[m], argTypes := #[t] })
    (ht : P.underlying t = some (.map k e)) (b n : Nat) (f : List UInt8 → Option Value) (hm : a.eval m = .map (some b)) (h : MSX P k w b n f)
    (hK : wpList P ops Q rest (a.put o.dst (.int .i64 n)) w) : wpList P ops Q (o :: rest) a w := by
  obtain ⟨D, h1, _, h3⟩ := h
  refine wpList_len_own w hg m t hop k e ht _ b n D hm h1 ?_
  rw [h3]
  exact hK
end
end
end L
open L
namespace Auto
def kB (l : List Nat) : List UInt8 := l.map UInt8.ofNat
theorem kB_inj : ∀ {x y : List Nat}, (∀ v ∈ x, v < 256) → (∀ v ∈ y, v < 256) → kB x = kB y → x = y
  | [], [], _, _, _ => rfl
  | [], _ :: _, _, _, h => by simp [kB] at h
  | _ :: _, [], _, _, h => by simp [kB] at h
  | a :: x, b :: y, hx, hy, h => by
    have h1 := (List.cons.inj h).1
    have h2 := kB_inj (fun v hv => hx v (by simp [hv])) (fun v hv => hy v (by simp [hv])) (List.cons.inj h).2
    have h3 := congrArg UInt8.toNat h1
    have a1 := hx a (by simp)
    have b1 := hy b (by simp)
    simp only [UInt8.toNat_ofNat'] at h3
    rw [h2]
    congr 1
    omega
/-- The bytes of the keys number as the keys do. -/
theorem scan_kB {f : Nat → List Nat} {n : Nat} (hf : ∀ s, s < n → ∀ v ∈ f s, v < 256) : (scan (fun s => kB (f s)) n []).2 = (scan f n []).2 ∧ (scan (fun s => kB (f s)) n []).1.length = (scan f n []).1.length := by
  have h := Rl.scan (R := fun (x : List Nat) (y : List UInt8) => (∀ v ∈ x, v < 256) ∧ y = kB x) (l := []) (l' := []) ⟨rfl, fun i x y hx => by simp at hx⟩ (fun x y x' y' h1 h2 => ⟨fun e => by rw [h1.2, h2.2, e], fun e => kB_inj h1.1 h2.1 (by rw [← h1.2, ← h2.2, e])⟩) (f := f) (g := fun s => kB (f s)) (k := n) (fun j hj => ⟨hf j hj, rfl⟩)
  exact ⟨h.2.symm, h.1.1.symm⟩
theorem keyB_lt {a : Au} {bl : List Nat} (h : ∀ x ∈ bl, x < 256) (s : Nat) : ∀ v ∈ keyB a bl s, v < 256 := fun v hv => by
  have g : ∀ t, bl.getD t 0 < 256 := fun t => by
    rcases Nat.lt_or_ge t bl.length with h1 | h1
    · exact h _ (gd_memA h1)
    · rw [List.getD_eq_getElem?_getD, List.getElem?_eq_none h1]; decide
  rcases List.mem_cons.1 hv with h1 | h1
  · subst h1; exact g _
  · obtain ⟨t, _, rfl⟩ := List.mem_map.1 h1
    exact g _
end Auto
namespace Aut
open Auto
attribute [-go_sem] sliced
section
variable {w w' : World} {v : Value}
/-- The blocks after i states were looked at. -/
def accI (a : Au) (i : Nat) : List Int := ((blkS a 0).take i).map Int.ofNat ++ List.replicate (a.acc.length - i) 0
theorem bcs_one {n : Nat} (h : n < 256) : bcs [UInt8.ofNat n] = [.int .u8 n] := by
  simp only [bcs, List.map_cons, List.map_nil, UInt8.toNat_ofNat']
  congr 2
  omega
theorem byte_own (w : World) {n : Nat} (h : n < 256) : OwW 5 1 1 w (.slice none 0 0) (.slice (some ⟨w.heap.size, 0, none⟩) 1 1) (bcs (kB [n])) (w.alloc (.cells #[.int .u8 n] 5)) := by
  refine ⟨?_, (Upd.refl [] w).alloc _, fun g hg => ?_⟩
  · show (w.alloc (.cells #[.int .u8 n] 5)).ownsRow 0 5 1 _ 1 (bcs [UInt8.ofNat n])
    rw [bcs_one h]
    exact OwW.of_blk (pad := []) (Blk.new w [.int .u8 n] 5) rfl rfl (by decide)
  · simp only [Value.ownBlock, Option.some.injEq] at hg
    exact .inr (by omega)
theorem accI_succ {a : Au} {i : Nat} (hi : i < a.acc.length) : accI a (i + 1) = (((blkS a 0).take i).map Int.ofNat ++ [if a.acc.getD i false then 1 else 0]) ++ List.replicate (a.acc.length - (i + 1)) 0 := by
  have hg : (blkS a 0)[i]? = some (if a.acc.getD i false then 1 else 0) := by
    unfold blkS
    rw [List.getElem?_map, gd_some (d := false) hi]
    rfl
  unfold accI
  rw [List.take_add_one, hg]
  simp only [Option.toList_some, List.map_append, List.map_singleton]
  cases a.acc.getD i false <;> rfl
theorem accI_now {a : Au} {i : Nat} (hi : i < a.acc.length) : accI a i = ((blkS a 0).take i).map Int.ofNat ++ (0 :: List.replicate (a.acc.length - (i + 1)) 0) := by
  unfold accI
  rw [← List.replicate_succ]
  congr 2
  omega
theorem accI_false {a : Au} {i : Nat} (hi : i < a.acc.length) (h : a.acc.getD i false = false) : accI a (i + 1) = accI a i := by
  rw [accI_succ hi, accI_now hi, h]
  simp
theorem accI_true {a : Au} {i : Nat} (hi : i < a.acc.length) (h : a.acc.getD i false = true) : (ints (accI a i)).set i (.int .i64 1) = ints (accI a (i + 1)) := by
  have hl : (((blkS a 0).take i).map Int.ofNat).length = i := by simp [blkS]; omega
  rw [accI_succ hi, accI_now hi, h]
  unfold ints
  rw [← List.map_set, List.set_append_right _ _ (by omega), hl, Nat.sub_self, List.set_cons_zero]
  simp
theorem accI_at {a : Au} {i : Nat} (hi : i < a.acc.length) : (accI a i)[i]? = some 0 := by
  have hl : (((blkS a 0).take i).map Int.ofNat).length = i := by simp [blkS]; omega
  rw [accI_now hi, List.getElem?_append_right (by omega), hl, Nat.sub_self]
  rfl
theorem accI_full (a : Au) : accI a a.acc.length = (blkS a 0).map Int.ofNat := by
  unfold accI
  rw [List.take_of_length_le (by simp [blkS]), Nat.sub_self]
  simp
set_option maxRecDepth 100000 in
set_option maxHeartbeats 16000000 in
theorem blocks_calls {a : Au} (h : AuV w a v) (hok : Ok a) : Calls Tryz.prog 66 #[v] w fun e w' => ∃ v', e = .returned v' ∧ ∃ j, cntS a (j + 1) = cntS a j ∧ OwW 3 1 a.next.length w (.slice none 0 0) v' (ints ((blkS a (j + 1)).map Int.ofNat)) w' := by
  obtain ⟨a1, c1, a2, c2, a3, c3, rfl, hF⟩ := h.shape
  have HF := Lib.hid hF
  have HOK := Lib.hid hok
  clear h hF hok
  go_enter Tryz.func66, Tryz.ntmps66
  go_upto_region 1 with fail
  have b1 := Blk.new w [.slice a1 a.cuts.length c1, .slice a2 a.next.length c2, .slice a3 a.acc.length c3] 31
  have u1 := (Upd.refl [] w).alloc (.cells #[.slice a1 a.cuts.length c1, .slice a2 a.next.length c2, .slice a3 a.acc.length c3] 31)
  change Blk (w.alloc (.cells #[.slice a1 a.cuts.length c1, .slice a2 a.next.length c2, .slice a3 a.acc.length c3] 31)) _ _ _ at b1
  generalize (w.alloc (.cells #[.slice a1 a.cuts.length c1, .slice a2 a.next.length c2, .slice a3 a.acc.length c3] 31)) = w1 at *
  have k0 := b1.cell (i := 0) rfl
  have k1 := b1.cell (i := 1) rfl
  have k2 := b1.cell (i := 2) rfl
  have HU := Lib.hid u1
  have HKK := Lib.hid (And.intro k1 k2)
  clear b1 u1
  generalize w.heap.size = pa at *
  have hfew : ((a.next.length : Nat) : Int) ≤ 256 := by have := HOK.out.few; omega
  go_upto_region 2 with (at_make; refine wpList_mk rfl _ _ _ rfl 3 1 8 _ Tryz.underlying22 infoInt rfl (by decide) .i64 .i64 a.next.length a.next.length a.next.length rfl rfl (by omega) (by omega) (by omega) (by omega) ?_)
  have hrep : (rows a.next.length fun _ => [Value.int .i64 0]) = ints (accI a 0) := by rw [rows_one]; unfold accI; rw [HOK.out.acc]; simp [ints]
  change Code.wp _ _ _ _ (w1.alloc (.cells (rows a.next.length fun _ => [Value.int .i64 0]).toArray 3))
  rw [hrep]
  have bN := Blk.new w1 (ints (accI a 0)) 3
  have uN := (Upd.refl [] w1).alloc (.cells (ints (accI a 0)).toArray 3)
  generalize (w1.alloc (.cells (ints (accI a 0)).toArray 3)) = wn at *
  generalize hnb : w1.heap.size = nb at bN ⊢
  have n2 := uN.some k2 (by simp)
  have HNB := Lib.hid (And.intro bN (And.intro uN (Nat.le_of_eq hnb)))
  clear bN uN hnb hrep k0 k1 k2
  go_wp2_with fail
  go_loopw [23] (fun kv wr => ∃ i : Nat, kv = .int .i64 i ∧ i ≤ a.acc.length ∧ Hid (Blk wr nb (ints (accI a i)) 3 ∧ Upd [] w1 wr)) (fun kv _ => a.acc.length - (intOf kv).toNat)
  case atStart => exact ⟨0, rfl, Nat.zero_le _, Lib.hid ⟨HNB.out.1, HNB.out.2.1⟩⟩
  case round =>
    obtain ⟨i, rfl, hi, HI⟩ := hrel
    by_cases hlt : i < a.acc.length
    · have hli : (i : Int) < a.acc.length := by omega
      have hin : (i : Int) < a.next.length := by have := HOK.out.acc; omega
      obtain ⟨g, off, he, hc⟩ := (HF.out.ext HU.out).acc hlt
      cases he
      have hc' := HI.out.2.some hc (by simp)
      have n0 : wr.cell? ⟨nb, i, none⟩ = some (.int .i64 0) := HI.out.1.cell (ints_get (accI_at hlt))
      have nf : ∀ q, wr.frozen? ⟨nb, q, none⟩ = false := HI.out.1.free
      clear hc
      cases hx : a.acc.getD i false with
      | false =>
        have HX := Lib.hid (accI_false hlt hx)
        rw [hx] at hc'
        clear hx
        go_wp2_with fail
        exact ⟨⟨i + 1, by go_num, by omega, Lib.hid ⟨by rw [HX.out]; exact HI.out.1, HI.out.2⟩⟩, by simp [intOf]; omega⟩
      | true =>
        have HX := Lib.hid (accI_true hlt hx)
        rw [hx] at hc'
        clear hx
        go_wp2_with fail
        exact ⟨⟨i + 1, by go_num, by omega, Lib.hid ⟨by rw [← HX.out]; exact HI.out.1.set i (.int .i64 1), HI.out.2.fresh ((Upd.refl [nb] wr).set (p := ⟨nb, i, none⟩) (by simp) _) (fun b hb => .inr (by simp at hb; subst hb; exact HNB.out.2.2))⟩⟩, by simp [intOf]; omega⟩
    · have hie : i = a.acc.length := by omega
      subst hie
      have hni : ¬ ((a.acc.length : Int) < a.acc.length) := by omega
      have HI0 := Lib.hid (show Blk wr nb (ints ((blkS a 0).map Int.ofNat)) 3 ∧ Upd [] w1 wr from ⟨by rw [← accI_full]; exact HI.out.1, HI.out.2⟩)
      have HW := Lib.hid (HI0.out.2)
      have hmm := @run_makeMap Tryz.prog
      go_wp2_with fail
      go_loopw [3, 6] (fun s3 s6 wr2 => ∃ (j nb2 : Nat), s3 = .slice (some ⟨nb2, 0, none⟩) a.next.length a.next.length ∧ s6 = .int .i64 (cntS a j : Nat) ∧ Hid (Blk wr2 nb2 (ints ((blkS a j).map Int.ofNat)) 3 ∧ Upd [] w1 wr2 ∧ w1.heap.size ≤ nb2)) (fun _ s6 _ => 300 - (intOf s6).toNat)
      case atStart => exact ⟨0, nb, rfl, rfl, Lib.hid ⟨HI0.out.1, HI0.out.2, HNB.out.2.2⟩⟩
      case round =>
        obtain ⟨j, nb2, rfl, rfl, HJ⟩ := hrel
        have hcb := cntS_le HOK.out j
        have hlb := blkS_lt HOK.out j
        have hll := blkS_len HOK.out j
        have HCM := Lib.hid (And.intro (cntS_mono a) (And.intro hlb hll))
        have HSB := Lib.hid (show (scan (fun s => kB (keyB a (blkS a j) s)) a.next.length []).2 = blkS a (j + 1) ∧ (scan (fun s => kB (keyB a (blkS a j) s)) a.next.length []).1.length = cntS a (j + 1) from scan_kB (f := keyB a (blkS a j)) (n := a.next.length) (fun s _ => keyB_lt hlb s))
        generalize hbf : cntS a j = bf at *
        have HBF := Lib.hid hbf
        clear hbf hlb hll
        obtain ⟨wo, rfl⟩ : ∃ wo : World, wo = wr := ⟨_, rfl⟩
        have HM0 := Lib.hid (MSX.new wo Tryz.prog 9)
        have hj1 := HJ.out.2.1.some HKK.out.1 (by simp)
        go_upto_region 10 with fail
        have uM := (Upd.refl [] wo).alloc (.map #[] 0)
        have hzM : (wo.alloc (.map #[] 0)).heap.size = wo.heap.size + 1 := by simp
        generalize (wo.alloc (.map #[] 0)) = w2 at *
        generalize hmb : wo.heap.size = mb at *
        go_upto_region 11 with (at_make; refine wpList_mk rfl _ _ _ rfl 3 1 8 _ Tryz.underlying22 infoInt rfl (by decide) .i64 .i64 a.next.length a.next.length a.next.length rfl rfl (by omega) (by omega) (by omega) (by omega) ?_)
        have hrep : (rows a.next.length fun _ => [Value.int .i64 0]) = ints (List.replicate a.next.length 0) := by rw [rows_one]; simp [ints]
        change Code.wp _ _ _ _ (w2.alloc (.cells (rows a.next.length fun _ => [Value.int .i64 0]).toArray 3))
        rw [hrep]
        have bN := Blk.new w2 (ints (List.replicate a.next.length 0)) 3
        have uN := (Upd.refl [] w2).alloc (.cells (ints (List.replicate a.next.length 0)).toArray 3)
        generalize (w2.alloc (.cells (ints (List.replicate a.next.length 0)).toArray 3)) = w3 at *
        rw [hzM] at bN
        generalize hn3 : mb + 1 = nb3 at bN ⊢
        have H3 := Lib.hid (And.intro bN (And.intro (uM.step uN) (And.intro (HM0.out.upd uN (by simp)) (And.intro (Nat.le_of_eq hmb) (show mb < nb3 by omega)))))
        have hj2 := (uM.step uN).some hj1 (by simp)
        clear bN uM uN hrep hzM hmb hn3 HM0 hj1
        have HJ2 := Lib.hid (HJ.out.2.1.step H3.out.2.1)
        obtain ⟨w13, rfl⟩ : ∃ w13 : World, w13 = w3 := ⟨_, rfl⟩
        go_wp2_with fail
        go_loopw [40] (fun kv wr3 => ∃ (s : Nat) (K : List (List UInt8)) (row : List Nat), kv = .int .i64 s ∧ s ≤ a.next.length ∧ Hid (scan (fun s => kB (keyB a (blkS a j) s)) s [] = (K, row) ∧ MSX Tryz.prog 9 wr3 mb K.length (pmap K) ∧ Blk wr3 nb3 (ints (row.map Int.ofNat ++ List.replicate (a.next.length - s) 0)) 3 ∧ Upd [] wo wr3 ∧ row.length = s)) (fun kv _ => a.next.length - (intOf kv).toNat)
        case atStart => exact ⟨0, [], [], rfl, Nat.zero_le _, Lib.hid ⟨rfl, H3.out.2.2.1.congr (fun y => by simp [pmap]), by simpa using H3.out.1, H3.out.2.1, rfl⟩⟩
        case round =>
          obtain ⟨s, K, row, rfl, hs, HS⟩ := hrel
          by_cases hlt : s < a.next.length
          · have hli : (s : Int) < a.next.length := by omega
            have hKl : K.length ≤ s := by
              have := scan_le (fun s => kB (keyB a (blkS a j) s)) s []
              rw [HS.out.1] at this
              simpa using this
            obtain ⟨g, off, ar, cr, he, hrc, hrow⟩ := (HF.out.ext (HU.out.step (HJ.out.2.1.step HS.out.2.2.2.1))).row hlt
            cases he
            have HROW := Lib.hid (And.intro (HOK.out.rows _ (gd_memA (d := []) hlt)) hrow)
            have HKE := Lib.hid (show keyB a (blkS a j) s = (blkS a j).getD s 0 :: (a.next.getD s []).map (fun t => (blkS a j).getD t.toNat 0) from rfl)
            have hcl := cuts_len HOK.out
            have hbl : ∀ t, t < a.next.length → wr.cell? ⟨nb2, t, none⟩ = some (.int .i64 ((blkS a j).getD t 0 : Nat)) := fun t ht => by
              refine HS.out.2.2.2.1.some (HJ.out.1.cell (ints_get ?_)) (by simp)
              rw [List.getElem?_map, gd_some (d := 0) (by rw [HCM.out.2.2]; exact ht)]
              rfl
            have hb256 : ∀ t, t < a.next.length → (blkS a j).getD t 0 < 256 := fun t ht => HCM.out.2.1 _ (gd_memA (by rw [HCM.out.2.2]; exact ht))
            have HBL := Lib.hid (And.intro hbl hb256)
            have hx := hb256 s hlt
            have hcx := hbl s hlt
            generalize a.next.getD s [] = rw_ at *
            have hrl : rw_.length ≤ 256 := by rw [HROW.out.1.1]; exact hcl
            generalize (blkS a j).getD s 0 = bs at *
            have hxi : (bs : Int) ≤ 255 := by omega
            clear hbl hb256 hrow hcl
            obtain ⟨wk, rfl⟩ : ∃ wk : World, wk = wr := ⟨_, rfl⟩
            go_upto_region 15 with fail
            change Code.wp _ _ _ _ (wk.alloc (.cells #[.int .u8 bs] 5))
            have HOK0 := Lib.hid (byte_own wk hx)
            generalize (wk.alloc (.cells #[.int .u8 bs] 5)) = w4 at *
            generalize wk.heap.size = kb at HOK0 ⊢
            have HKT := Lib.hid (show (keyB a (blkS a j) s).take 1 = [bs] by rw [HKE.out]; rfl)
            go_wp2_with fail
            go_loopw [11, 53] (fun s11 s53 wr4 => ∃ k : Nat, s53 = .int .i64 k ∧ k ≤ rw_.length ∧ Hid (OwW 5 1 (k + 1) wk (.slice none 0 0) s11 (bcs (kB ((keyB a (blkS a j) s).take (k + 1)))) wr4)) (fun _ s53 _ => rw_.length - (intOf s53).toNat)
            case atStart => exact ⟨0, rfl, Nat.zero_le _, Lib.hid (by rw [HKT.out]; exact HOK0.out)⟩
            case round =>
              obtain ⟨k, rfl, hk, HO⟩ := hrel
              by_cases hkl : k < rw_.length
              · have hkli : (k : Int) < rw_.length := by omega
                have htn := (HROW.out.1.2 _ (gd_memA (d := 0) hkl))
                obtain ⟨_, _, he, _, _, hce⟩ := HROW.out.2.elems
                cases he
                obtain ⟨g5, o5, rfl, kk⟩ := hce (by omega)
                have hcx2 := HO.out.fresh.some (kk k _ (ints_get (gd_some (d := 0) hkl))) (by simp)
                obtain ⟨tn, htx⟩ : ∃ tn : Nat, rw_.getD k 0 = tn := ⟨(rw_.getD k 0).toNat, by omega⟩
                have HKT2 := Lib.hid (show (keyB a (blkS a j) s).take (k + 2) = (keyB a (blkS a j) s).take (k + 1) ++ [(blkS a j).getD tn 0] by
                  rw [HKE.out, List.take_succ_cons, List.take_succ_cons, List.take_add_one, List.getElem?_map, gd_some (d := 0) hkl, htx]
                  rfl)
                rw [htx] at hcx2 htn
                have htn' : tn < a.next.length := by omega
                have hti : (tn : Int) < a.next.length := by omega
                have hbt := HO.out.fresh.some (HBL.out.1 tn htn') (by simp)
                have hb256 := HBL.out.2 tn htn'
                generalize (blkS a j).getD tn 0 = bt at *
                have hbti : (bt : Int) ≤ 255 := by omega
                have HBC := Lib.hid (bcs_one hb256)
                have hk256 : k ≤ 256 := by omega
                clear hce kk htx htn'
                go_wp2_with (refine wpList_push rfl rfl _ _ _ _ rfl rfl rfl 5 1 1 _ Tryz.underlying92 infoByte rfl (by decide) (by decide) (.int .u8 (bt : Nat)) [.int .u8 (bt : Nat)] rfl rfl rfl (by simp [Value.oneCell']) u11 _ _ HO.out.row rfl rfl (by unfold maxLen; omega) (by omega) ?_; intro g7 c7 w7 o7 u7 k7; have HP := Lib.hid (HO.out.push o7 u7 k7); clear o7 u7 k7)
                refine ⟨⟨k + 1, by go_num, by omega, Lib.hid ?_⟩, by simp [intOf]; omega⟩
                rw [HKT2.out]
                have := HP.out
                rw [← HBC.out] at this
                simpa [bcs, kB] using this
              · have hke : k = rw_.length := by omega
                have hkn : ¬ ((k : Int) < rw_.length) := by omega
                have HKF := Lib.hid (show (keyB a (blkS a j) s).take (k + 1) = keyB a (blkS a j) s ∧ (kB (keyB a (blkS a j) s)).length = k + 1 by
                  have hl : (keyB a (blkS a j) s).length = k + 1 := by rw [HKE.out]; simp [hke]
                  exact ⟨List.take_of_length_le (by omega), by simp [kB, hl]⟩)
                have hk256 : k ≤ 256 := by omega
                have HR := Lib.hid (show OwW 5 1 (kB (keyB a (blkS a j) s)).length wk (.slice none 0 0) u11 (bcs (kB (keyB a (blkS a j) s))) wr by have := HO.out; rw [HKF.out.1] at this; rw [HKF.out.2]; exact this)
                have HKS := Lib.hid (show (ByteArray.mk (kB (keyB a (blkS a j) s)).toArray).size ≤ maxLen by
                  have := HKF.out.2
                  simp [ByteArray.size, this]
                  unfold maxLen
                  omega)
                have HSO := Lib.hid (fun hm => scan_old' HS.out.1 (f := fun s => kB (keyB a (blkS a j) s)) hm)
                have HSN := Lib.hid (fun hm => scan_new' HS.out.1 (f := fun s => kB (keyB a (blkS a j) s)) hm)
                have HMX := Lib.hid (HS.out.2.1.upd HR.out.fresh (by simp))
                have bR := HS.out.2.2.1.upd HR.out.fresh (by simp)
                have HBR := Lib.hid bR
                generalize kB (keyB a (blkS a j) s) = key at *
                clear hke hkl bR
                by_cases hmem : key ∈ K
                · have HL := Lib.hid (And.intro (show pmap K key = some (.int .i64 (place K key : Nat)) by unfold pmap; rw [if_pos hmem]) (HSO.out hmem))
                  clear hmem HSO HSN
                  generalize place K key = pl at *
                  go_upto_region 24 with (first | (refine wpList_bstr Tryz.underlying92 Tryz.underlying5 Tryz.underlying9 _ rfl rfl u11 key rfl HR.out.row ?_) | (refine wpList_mslook_ok Tryz.underlying9 Tryz.underlying139 infoInt _ _ rfl rfl mb K.length (pmap K) ⟨key.toArray⟩ rfl rfl HMX.out.ms HKS.out ?_; rw [show pmap K (ByteArray.mk key.toArray).data.toList = some (.int .i64 (pl : Nat)) from HL.out.1]; simp only [Option.getD_some, Option.isSome_some]))
                  have c8 : wr.cell? ⟨nb3, s, none⟩ = some (.int .i64 0) := HBR.out.cell (row_zero HS.out.2.2.2.2 hlt)
                  have f8 : ∀ q, wr.frozen? ⟨nb3, q, none⟩ = false := HBR.out.free
                  go_wp2_with fail
                  have uS : Upd [nb3] wr (wr.setCell ⟨nb3, s, none⟩ (.int .i64 (pl : Nat))) := (Upd.refl [nb3] wr).set (p := ⟨nb3, s, none⟩) (by simp) _
                  refine ⟨⟨s + 1, K, row ++ [pl], by go_num, by omega, Lib.hid ⟨HL.out.2, HMX.out.upd uS (by have := H3.out.2.2.2.2; simp; omega), ?_, (HS.out.2.2.2.1.step HR.out.fresh).fresh uS (fun b hb => .inr (by simp at hb; subst hb; have := H3.out.2.2.2.1; have := H3.out.2.2.2.2; omega)), by simp [HS.out.2.2.2.2]⟩⟩, by simp [intOf]; omega⟩
                  have := HBR.out.set s (.int .i64 (pl : Nat))
                  rw [row_set HS.out.2.2.2.2 hlt] at this
                  exact this
                · have HL := Lib.hid (And.intro (show pmap K key = none by unfold pmap; rw [if_neg hmem]) (And.intro (HSN.out hmem) (pmap_push hmem)))
                  clear hmem HSO HSN
                  have hKm : K.length < 1000 := by have := hKl; omega
                  go_upto_region 24 with (first
                    | (refine wpList_bstr Tryz.underlying92 Tryz.underlying5 Tryz.underlying9 _ rfl rfl u11 key rfl HR.out.row ?_)
                    | (refine wpList_mslook_ok Tryz.underlying9 Tryz.underlying139 infoInt _ _ rfl rfl mb K.length (pmap K) ⟨key.toArray⟩ rfl rfl HMX.out.ms HKS.out ?_; rw [show pmap K (ByteArray.mk key.toArray).data.toList = none from HL.out.1]; simp only [Option.getD_none, Option.isSome_none])
                    | (refine wpList_msxlen rfl _ _ rfl Tryz.underlying139 mb K.length (pmap K) rfl HMX.out ?_)
                    | (refine wpList_msxput Tryz.underlying9 Tryz.underlying139 rfl _ _ _ rfl mb K.length (pmap K) ⟨key.toArray⟩ (.int .i64 (K.length : Nat)) rfl rfl rfl HMX.out (by unfold maxLen; omega) HKS.out HL.out.1 ?_; intro w9 m9 u9; have HU9 := Lib.hid (And.intro m9 u9); clear m9 u9))
                  have bR := HBR.out.upd HU9.out.2 (by have := H3.out.2.2.2.2; simp; omega)
                  have c8 : w9.cell? ⟨nb3, s, none⟩ = some (.int .i64 0) := bR.cell (row_zero HS.out.2.2.2.2 hlt)
                  have f8 : ∀ q, w9.frozen? ⟨nb3, q, none⟩ = false := bR.free
                  have HBR9 := Lib.hid bR
                  clear bR
                  go_wp2_with fail
                  have uS : Upd [nb3] w9 (w9.setCell ⟨nb3, s, none⟩ (.int .i64 (K.length : Nat))) := (Upd.refl [nb3] w9).set (p := ⟨nb3, s, none⟩) (by simp) _
                  have hKK : (K ++ [key]).length = K.length + 1 := by simp
                  refine ⟨⟨s + 1, K ++ [key], row ++ [K.length], by go_num, by omega, Lib.hid ⟨HL.out.2.1, ?_, ?_, ((HS.out.2.2.2.1.step HR.out.fresh).fresh HU9.out.2 (fun b hb => .inr (by simp at hb; subst hb; exact H3.out.2.2.2.1))).fresh uS (fun b hb => .inr (by simp at hb; subst hb; have := H3.out.2.2.2.1; have := H3.out.2.2.2.2; omega)), by simp [HS.out.2.2.2.2]⟩⟩, by simp [intOf]; omega⟩
                  · rw [hKK]
                    exact (HU9.out.1.congr (fun z => HL.out.2.2 z)).upd uS (by have := H3.out.2.2.2.2; simp; omega)
                  · have := HBR9.out.set s (.int .i64 (K.length : Nat))
                    rw [row_set HS.out.2.2.2.2 hlt] at this
                    exact this
          · have hse : s = a.next.length := by omega
            have hsn : ¬ ((s : Int) < a.next.length) := by omega
            have HFN := Lib.hid (show K.length = cntS a (j + 1) ∧ row = blkS a (j + 1) by
              have h1 := HSB.out
              rw [← hse, HS.out.1] at h1
              exact ⟨h1.2, h1.1⟩)
            have HBR := Lib.hid (show Blk wr nb3 (ints ((blkS a (j + 1)).map Int.ofNat)) 3 by
              have h1 := HS.out.2.2.1
              rw [hse, Nat.sub_self, List.replicate_zero, List.append_nil, HFN.out.2] at h1
              exact h1)
            have HMX := Lib.hid HS.out.2.1
            have HUO := Lib.hid HS.out.2.2.2.1
            have hc1 := cntS_le HOK.out (j + 1)
            have hc0 := cntS_up HOK.out j
            rw [HFN.out.1] at HMX
            generalize hcn : cntS a (j + 1) = cn at *
            have HCN := Lib.hid hcn
            clear hse hlt HS HFN hcn
            by_cases hst : cn = bf
            · have hbb : ((cn : Int) == (bf : Int)) = true := by simp; omega
              have HEQ := Lib.hid (show cntS a (j + 1) = cntS a j by rw [HCN.out, HBF.out]; exact hst)
              clear hst
              go_wp2_with (at_len; refine wpList_msxlen rfl _ _ rfl Tryz.underlying139 mb cn _ rfl HMX.out ?_)
              go_ret
              have z1 := HU.out.size
              have z2 := HJ.out.2.1.size
              have z3 := H3.out.2.2.2.1
              have z4 := H3.out.2.2.2.2
              have hbl := blkS_len HOK.out (j + 1)
              refine ⟨.slice (some ⟨nb3, 0, none⟩) a.next.length a.next.length, rfl, j, HEQ.out, OwW.of_blk (pad := []) (cap := a.next.length) (by simpa using HBR.out) (by simp [ints, hbl]) (by simp [ints, hbl]) (by unfold maxLen; omega), HU.out.step (HJ.out.2.1.step HUO.out), fun q hq => ?_⟩
              simp only [Value.ownBlock, Option.some.injEq] at hq
              exact .inr (by omega)
            · have hbb : ((cn : Int) == (bf : Int)) = false := by simp; omega
              have hlt' : bf < cn := by have := HBF.out; omega
              clear hst
              go_wp2_with (at_len; refine wpList_msxlen rfl _ _ rfl Tryz.underlying139 mb cn _ rfl HMX.out ?_)
              have z2 := HJ.out.2.1.size
              have z3 := H3.out.2.2.2.1
              have z4 := H3.out.2.2.2.2
              exact ⟨⟨j + 1, nb3, rfl, by rw [HCN.out], Lib.hid ⟨HBR.out, HJ.out.2.1.step HUO.out, by omega⟩⟩, by simp [intOf]; omega⟩
end
end Aut
end Go.Proofs.YtjclbjdkkdijbaaGreat
end
section
open Go.RowKit
namespace Go.Proofs.YtjclbjdkkdijbaaGreat
open L
namespace Aut
open Auto R01
/-- A world in which three cells hold what they held. -/
def Tri (p0 p1 p2 : Addr) (v0 v1 v2 : Value) : Type := { w : World // w.cell? p0 = some v0 ∧ w.cell? p1 = some v1 ∧ w.cell? p2 = some v2 }
section
variable {p0 p1 p2 : Addr} {v0 v1 v2 : Value}
def Tri.val (x : Tri p0 p1 p2 v0 v1 v2) : World := x.1
theorem Tri.c0 (x : Tri p0 p1 p2 v0 v1 v2) : x.val.cell? p0 = some v0 := x.2.1
theorem Tri.c1 (x : Tri p0 p1 p2 v0 v1 v2) : x.val.cell? p1 = some v1 := x.2.2.1
theorem Tri.c2 (x : Tri p0 p1 p2 v0 v1 v2) : x.val.cell? p2 = some v2 := x.2.2.2
attribute [go_sem] Tri.c0 Tri.c1 Tri.c2
theorem Tri.of {w : World} (h0 : w.cell? p0 = some v0) (h1 : w.cell? p1 = some v1) (h2 : w.cell? p2 = some v2) : ∃ x : Tri p0 p1 p2 v0 v1 v2, w = x.val := ⟨⟨w, h0, h1, h2⟩, rfl⟩
end
section
variable {w0 w w' w1 : World} {e e' : TypeId} {k k' n n' b g cap : Nat} {v v' cv nv av y : Value} {x x' c rvs : List Value} {cs rw_ : List Int} {ns : List (List Int)} {bs : List Bool} {U : List Nat} {ab : Nat}
structure SpA (w0 : World) (ab : Nat) (cv nv av : Value) (cs : List Int) (ns : List (List Int)) (bs : List Bool) (rvs : List Value) (w : World) : Prop where
  bx : Blk w ab [cv, nv, av] 31
  cu : w.ownsRow 0 3 1 cv cs.length (ints cs)
  tb : w.ownsRow 0 22 1 nv ns.length rvs
  ac : w.ownsRow 0 4 1 av bs.length (bools bs)
  rw : ∀ (i : Nat) (c : List Int) (y : Value), ns[i]? = some c → rvs[i]? = some y → w.ownsRow 0 3 1 y c.length (ints c)
  ds : ∀ (i j : Nat) (y z : Value) (q : Nat), rvs[i]? = some y → rvs[j]? = some z → y.ownBlock = some q → z.ownBlock = some q → i = j
  cd : ∀ (i : Nat) (y : Value) (q : Nat), rvs[i]? = some y → y.ownBlock = some q → cv.ownBlock ≠ some q
  nw : w0.heap.size ≤ ab ∧ (∀ q, cv.ownBlock = some q → w0.heap.size ≤ q) ∧ (∀ q, nv.ownBlock = some q → w0.heap.size ≤ q) ∧ (∀ q, av.ownBlock = some q → w0.heap.size ≤ q) ∧ ∀ (i : Nat) (y : Value) (q : Nat), rvs[i]? = some y → y.ownBlock = some q → w0.heap.size ≤ q
  u : Upd [] w0 w
theorem SpA.len (h : SpA w0 ab cv nv av cs ns bs rvs w) : rvs.length = ns.length := by have := h.tb.1; omega
theorem SpA.val (h : SpA w0 ab cv nv av cs ns bs rvs w) {i : Nat} {c : List Int} (hc : ns[i]? = some c) : ∃ y, rvs[i]? = some y ∧ w.ownsRow 0 3 1 y c.length (ints c) := by
  have hi := (List.getElem?_eq_some_iff.1 hc).1
  have hl := h.len
  exact ⟨rvs[i], List.getElem?_eq_getElem (by omega), h.rw i c _ hc (List.getElem?_eq_getElem (by omega))⟩
theorem SpA.quiet (h : SpA w0 ab cv nv av cs ns bs rvs w) (hu : Upd [] w w') : SpA w0 ab cv nv av cs ns bs rvs w' :=
  ⟨h.bx.upd hu (by simp), ownsRow_updL h.cu hu (by simp), ownsRow_updL h.tb hu (by simp), ownsRow_updL h.ac hu (by simp), fun i c y h1 h2 => ownsRow_updL (h.rw i c y h1 h2) hu (by simp), h.ds, h.cd, h.nw, h.u.step hu⟩
theorem SpA.cl_ (h : SpA w0 ab cv nv av cs ns bs rvs w) (hu : Upd U w w') (h1 : ∀ b ∈ U, nv.ownBlock ≠ some b) (h2 : ∀ (i : Nat) (y : Value), rvs[i]? = some y → ∀ b ∈ U, y.ownBlock ≠ some b) : CL w' nv ns := by
  refine ⟨rvs, h.len, SL.of_owns (ownsRow_updL h.tb hu h1), fun i c hc => ?_⟩
  obtain ⟨y, hy, ho⟩ := h.val hc
  exact ⟨y, hy, SL.of_owns (ownsRow_updL ho hu (h2 i y hy))⟩
theorem SpA.setCut {cv' : Value} {cs' : List Int} (h : SpA w0 ab cv nv av cs ns bs rvs w) (o : w1.ownsRow 0 3 1 cv' cs'.length (ints cs')) (hu : Upd cv.ownBlock.toList w w1) (hk : ∀ q, cv'.ownBlock = some q → cv.ownBlock = some q ∨ w.heap.size ≤ q) :
    SpA w0 ab cv' nv av cs' ns bs rvs (w1.setCell ⟨ab, 0, none⟩ cv') := by
  have us : Upd [ab] w1 (w1.setCell ⟨ab, 0, none⟩ cv') := (Upd.refl [ab] w1).set (p := ⟨ab, 0, none⟩) (by simp) _
  have hz := h.u.size
  have hb1 : Blk w1 ab [cv, nv, av] 31 := h.bx.upd hu (fun hm => own_bne h.cu h.bx (by decide) (g := ab) (by simpa using hm) rfl)
  refine ⟨hb1.set 0 _, ownsRow_updL o us (fun b hb hq => ?_), ownsRow_updL (ownsRow_updL h.tb hu (fun b hb hq => own_ne h.tb h.cu (by decide) hq (by simpa using hb))) us (fun b hb hq => own_bne h.tb h.bx (by decide) hq (by simpa using hb)), ownsRow_updL (ownsRow_updL h.ac hu (fun b hb hq => own_ne h.ac h.cu (by decide) hq (by simpa using hb))) us (fun b hb hq => own_bne h.ac h.bx (by decide) hq (by simpa using hb)), fun i c y h1 h2 => ownsRow_updL (ownsRow_updL (h.rw i c y h1 h2) hu (fun b hb hq => h.cd i y b h2 hq (by simpa using hb))) us (fun b hb hq => own_bne (h.rw i c y h1 h2) h.bx (by decide) hq (by simpa using hb)), h.ds, fun i y q h1 h2 h3 => ?_, ⟨h.nw.1, fun q hq => ?_, h.nw.2.2.1, h.nw.2.2.2.1, h.nw.2.2.2.2⟩, (h.u.fresh hu (fun b hb => .inr (h.nw.2.1 b (by simpa using hb)))).fresh us (fun b hb => .inr (by simp at hb; subst hb; exact h.nw.1))⟩
  · simp at hb
    subst hb
    rcases hk _ hq with h1 | h1
    · exact own_bne h.cu h.bx (by decide) h1 rfl
    · have := h.bx.lt; omega
  · rcases hk _ h3 with h4 | h4
    · exact h.cd i y q h1 h2 h4
    · have hi := (List.getElem?_eq_some_iff.1 h1).1
      have hl := h.len
      have ho := h.rw i ns[i] y (List.getElem?_eq_getElem (by omega)) h1
      have := (ho.lt q h2).2
      omega
  · rcases hk _ hq with h1 | h1
    · exact h.nw.2.1 _ h1
    · omega
theorem SpA.setAcc {av' : Value} {bs' : List Bool} (h : SpA w0 ab cv nv av cs ns bs rvs w) (o : w1.ownsRow 0 4 1 av' bs'.length (bools bs')) (hu : Upd av.ownBlock.toList w w1) (hk : ∀ q, av'.ownBlock = some q → av.ownBlock = some q ∨ w.heap.size ≤ q) :
    SpA w0 ab cv nv av' cs ns bs' rvs (w1.setCell ⟨ab, 2, none⟩ av') := by
  have us : Upd [ab] w1 (w1.setCell ⟨ab, 2, none⟩ av') := (Upd.refl [ab] w1).set (p := ⟨ab, 2, none⟩) (by simp) _
  have hz := h.u.size
  have hb1 : Blk w1 ab [cv, nv, av] 31 := h.bx.upd hu (fun hm => own_bne h.ac h.bx (by decide) (g := ab) (by simpa using hm) rfl)
  refine ⟨hb1.set 2 _, ownsRow_updL (ownsRow_updL h.cu hu (fun b hb hq => own_ne h.cu h.ac (by decide) hq (by simpa using hb))) us (fun b hb hq => own_bne h.cu h.bx (by decide) hq (by simpa using hb)), ownsRow_updL (ownsRow_updL h.tb hu (fun b hb hq => own_ne h.tb h.ac (by decide) hq (by simpa using hb))) us (fun b hb hq => own_bne h.tb h.bx (by decide) hq (by simpa using hb)), ownsRow_updL o us (fun b hb hq => ?_), fun i c y h1 h2 => ownsRow_updL (ownsRow_updL (h.rw i c y h1 h2) hu (fun b hb hq => own_ne (h.rw i c y h1 h2) h.ac (by decide) hq (by simpa using hb))) us (fun b hb hq => own_bne (h.rw i c y h1 h2) h.bx (by decide) hq (by simpa using hb)), h.ds, h.cd, ⟨h.nw.1, h.nw.2.1, h.nw.2.2.1, fun q hq => ?_, h.nw.2.2.2.2⟩, (h.u.fresh hu (fun b hb => .inr (h.nw.2.2.2.1 b (by simpa using hb)))).fresh us (fun b hb => .inr (by simp at hb; subst hb; exact h.nw.1))⟩
  · simp at hb
    subst hb
    rcases hk _ hq with h1 | h1
    · exact own_bne h.ac h.bx (by decide) h1 rfl
    · have := h.bx.lt; omega
  · rcases hk _ hq with h1 | h1
    · exact h.nw.2.2.2.1 _ h1
    · omega
theorem SpA.rowPush {s gn : Nat} {c : List Int} {y' : Value} {z : Int} (h : SpA w0 ab cv (.slice (some ⟨gn, 0, none⟩) ns.length cap) av cs ns bs rvs w) (hc : ns[s]? = some c) (hy : rvs[s]? = some y) (o : w1.ownsRow 0 3 1 y' (c.length + 1) (ints c ++ [.int .i64 z])) (hu : Upd y.ownBlock.toList w w1) (hk : ∀ q, y'.ownBlock = some q → y.ownBlock = some q ∨ w.heap.size ≤ q) :
    SpA w0 ab cv (.slice (some ⟨gn, 0, none⟩) ns.length cap) av cs (ns.set s (c ++ [z])) bs (rvs.set s y') (w1.setCell ⟨gn, s, none⟩ y') := by
  have us : Upd [gn] w1 (w1.setCell ⟨gn, s, none⟩ y') := (Upd.refl [gn] w1).set (p := ⟨gn, s, none⟩) (by simp) _
  have ho := h.rw s c _ hc hy
  have hz := h.u.size
  have hs := (List.getElem?_eq_some_iff.1 hc).1
  have hl := h.len
  have hnv : (Value.slice (some ⟨gn, 0, none⟩) ns.length cap).ownBlock = some gn := rfl
  have hgn := (h.tb.lt gn hnv).2
  have hb1 : Blk w1 ab [cv, .slice (some ⟨gn, 0, none⟩) ns.length cap, av] 31 := h.bx.upd hu (fun hm => own_bne ho h.bx (by decide) (g := ab) (by simpa using hm) rfl)
  have ht1 := ownsRow_updL h.tb hu (fun b hb hq => own_ne h.tb ho (by decide) hq (by simpa using hb))
  have hget : ∀ {i : Nat} {u : Value}, (rvs.set s y')[i]? = some u → (i = s ∧ u = y') ∨ (i ≠ s ∧ rvs[i]? = some u) := fun {i u} h1 => by
    by_cases e : i = s
    · subst e
      rw [List.getElem?_set_self (by omega)] at h1
      exact .inl ⟨rfl, by simpa using h1.symm⟩
    · rw [List.getElem?_set_ne (fun h2 => e h2.symm)] at h1
      exact .inr ⟨e, h1⟩
  have hlt : ∀ {i : Nat} {u : Value} {q : Nat}, rvs[i]? = some u → u.ownBlock = some q → q < w.heap.size := fun {i u q} h1 h2 => by
    have hi := (List.getElem?_eq_some_iff.1 h1).1
    exact ((h.rw i ns[i] u (List.getElem?_eq_getElem (by omega)) h1).lt q h2).2
  refine ⟨hb1.upd us (fun hm => own_bne h.tb h.bx (by decide) hnv (by simpa using Eq.symm (List.mem_singleton.1 hm))), ownsRow_updL (ownsRow_updL h.cu hu (fun b hb hq => h.cd s y b hy (by simpa using hb) hq)) us (fun b hb hq => own_ne h.cu h.tb (by decide) hq (by simp at hb; subst hb; exact hnv)), by rw [List.length_set]; exact own_cell ht1 hs _, ownsRow_updL (ownsRow_updL h.ac hu (fun b hb hq => own_ne h.ac ho (by decide) hq (by simpa using hb))) us (fun b hb hq => own_ne h.ac h.tb (by decide) hq (by simp at hb; subst hb; exact hnv)), fun i c' u h1 h2 => ?_, fun i j u1 u2 q h1 h2 h3 h4 => ?_, fun i u q h1 h2 h3 => ?_, ⟨h.nw.1, h.nw.2.1, h.nw.2.2.1, h.nw.2.2.2.1, fun i u q h1 h2 => ?_⟩, (h.u.fresh hu (fun b hb => .inr (h.nw.2.2.2.2 s y b hy (by simpa using hb)))).fresh us (fun b hb => .inr (by simp at hb; subst hb; exact h.nw.2.2.1 _ hnv))⟩
  · rcases hget h2 with ⟨rfl, rfl⟩ | ⟨hne, h2⟩
    · rw [List.getElem?_set_self hs] at h1
      cases h1
      rw [show (c ++ [z]).length = c.length + 1 by simp, show ints (c ++ [z]) = ints c ++ [.int .i64 z] by simp [ints]]
      exact ownsRow_updL o us (fun b hb hq => by
        simp at hb; subst hb
        rcases hk _ hq with h5 | h5
        · exact own_ne ho h.tb (by decide) h5 hnv
        · omega)
    · rw [List.getElem?_set_ne (fun e => hne e.symm)] at h1
      have hi := h.rw i c' u h1 h2
      exact ownsRow_updL (ownsRow_updL hi hu (fun b hb hq => hne (h.ds i s u y b h2 hy hq (by simpa using hb)))) us (fun b hb hq => own_ne hi h.tb (by decide) hq (by simp at hb; subst hb; exact hnv))
  · rcases hget h1 with ⟨rfl, rfl⟩ | ⟨hn1, h1'⟩
    · rcases hget h2 with ⟨rfl, rfl⟩ | ⟨hn2, h2⟩
      · rfl
      · rcases hk _ h3 with h5 | h5
        · exact h.ds _ _ _ _ q hy h2 h5 h4
        · have := hlt h2 h4; omega
    · rcases hget h2 with ⟨rfl, rfl⟩ | ⟨hn2, h2'⟩
      · rcases hk _ h4 with h5 | h5
        · exact h.ds _ _ _ _ q h1' hy h3 h5
        · have := hlt h1' h3; omega
      · exact h.ds i j u1 u2 q h1' h2' h3 h4
  · rcases hget h1 with ⟨rfl, rfl⟩ | ⟨hn1, h1⟩
    · rcases hk _ h2 with h5 | h5
      · exact h.cd _ _ q hy h5 h3
      · have := (h.cu.lt q h3).2; omega
    · exact h.cd i u q h1 h2 h3
  · rcases hget h1 with ⟨rfl, rfl⟩ | ⟨hn1, h1⟩
    · rcases hk _ h2 with h5 | h5
      · exact h.nw.2.2.2.2 _ _ q hy h5
      · omega
    · exact h.nw.2.2.2.2 i u q h1 h2
/-- What is read at the end. -/
theorem SpA.fin (h : SpA w0 ab cv nv av cs ns bs rvs w) (hu : Upd U w w') (hU : ∀ b ∈ U, b < w0.heap.size) : AuF w' ⟨cs, ns, bs⟩ [cv, nv, av] :=
  ⟨_, _, _, rfl, SL.of_owns (ownsRow_updL h.cu hu (fun b hb hq => by have := h.nw.2.1 b hq; have := hU b hb; omega)), h.cl_ hu (fun b hb hq => by have := h.nw.2.2.1 b hq; have := hU b hb; omega) (fun i y hy b hb hq => by have := h.nw.2.2.2.2 i y b hy hq; have := hU b hb; omega), SL.of_owns (ownsRow_updL h.ac hu (fun b hb hq => by have := h.nw.2.2.2.1 b hq; have := hU b hb; omega))⟩
theorem SpA.begin {nb : Nat} {av : Value} (hb : Blk w ab [.slice none 0 0, .slice (some ⟨nb, 0, none⟩) n n, av] 31) (hn : Blk w nb (List.replicate n (.slice none 0 0)) 22) (hl : n ≤ 256) (h1 : w0.heap.size ≤ ab) (h2 : w0.heap.size ≤ nb) (hu : Upd [] w0 w) (ha : av = .slice none 0 0) : SpA w0 ab (.slice none 0 0) (.slice (some ⟨nb, 0, none⟩) n n) av [] (List.replicate n []) [] (List.replicate n (.slice none 0 0)) w := by
  have hg : ∀ {i : Nat} {y : Value}, (List.replicate n (Value.slice none 0 0))[i]? = some y → y = .slice none 0 0 := fun {i y} h => by
    rw [List.getElem?_replicate] at h
    split at h
    · simpa using h.symm
    · cases h
  refine ⟨hb, World.ownsRow_nil _ _ _ _, ⟨by simp, .inr ⟨nb, n, (List.replicate n (Value.slice none 0 0)).toArray, by simp, Nat.zero_le _, hn, by simp, by unfold maxLen; omega, by simp, by simp⟩⟩, (by subst ha; exact World.ownsRow_nil _ _ _ _), fun i c y h3 h4 => ?_, fun i j y z q h3 h4 h5 => ?_, fun i y q h3 h4 => ?_, ⟨h1, fun q hq => by simp [Value.ownBlock] at hq, fun q hq => by simp [Value.ownBlock] at hq; omega, fun q hq => by subst ha; simp [Value.ownBlock] at hq, fun i y q h3 h4 => ?_⟩, hu⟩
  · rw [List.getElem?_replicate] at h3
    split at h3
    · cases h3
      rw [hg h4]
      exact World.ownsRow_nil _ _ _ _
    · cases h3
  · rw [hg h3] at h5; simp [Value.ownBlock] at h5
  · rw [hg h3] at h4; simp [Value.ownBlock] at h4
  · rw [hg h3] at h4; simp [Value.ownBlock] at h4
structure SpM (w0 : World) (ab : Nat) (cv nv av : Value) (cs : List Int) (ns : List (List Int)) (bs : List Bool) (rvs : List Value) (w : World) : Prop where
  bx : Blk w ab [cv, nv, av] 39
  cu : w.ownsRow 0 3 1 cv cs.length (ints cs)
  tb : w.ownsRow 0 22 1 nv ns.length rvs
  ac : True
  rw : ∀ (i : Nat) (c : List Int) (y : Value), ns[i]? = some c → rvs[i]? = some y → w.ownsRow 0 3 1 y c.length (ints c)
  ds : ∀ (i j : Nat) (y z : Value) (q : Nat), rvs[i]? = some y → rvs[j]? = some z → y.ownBlock = some q → z.ownBlock = some q → i = j
  cd : ∀ (i : Nat) (y : Value) (q : Nat), rvs[i]? = some y → y.ownBlock = some q → cv.ownBlock ≠ some q
  nw : w0.heap.size ≤ ab ∧ (∀ q, cv.ownBlock = some q → w0.heap.size ≤ q) ∧ (∀ q, nv.ownBlock = some q → w0.heap.size ≤ q) ∧ True ∧ ∀ (i : Nat) (y : Value) (q : Nat), rvs[i]? = some y → y.ownBlock = some q → w0.heap.size ≤ q
  u : Upd [] w0 w
theorem SpM.len (h : SpM w0 ab cv nv av cs ns bs rvs w) : rvs.length = ns.length := by have := h.tb.1; omega
theorem SpM.val (h : SpM w0 ab cv nv av cs ns bs rvs w) {i : Nat} {c : List Int} (hc : ns[i]? = some c) : ∃ y, rvs[i]? = some y ∧ w.ownsRow 0 3 1 y c.length (ints c) := by
  have hi := (List.getElem?_eq_some_iff.1 hc).1
  have hl := h.len
  exact ⟨rvs[i], List.getElem?_eq_getElem (by omega), h.rw i c _ hc (List.getElem?_eq_getElem (by omega))⟩
theorem SpM.quiet (h : SpM w0 ab cv nv av cs ns bs rvs w) (hu : Upd [] w w') : SpM w0 ab cv nv av cs ns bs rvs w' :=
  ⟨h.bx.upd hu (by simp), ownsRow_updL h.cu hu (by simp), ownsRow_updL h.tb hu (by simp), trivial, fun i c y h1 h2 => ownsRow_updL (h.rw i c y h1 h2) hu (by simp), h.ds, h.cd, h.nw, h.u.step hu⟩
theorem SpM.cl_ (h : SpM w0 ab cv nv av cs ns bs rvs w) (hu : Upd U w w') (h1 : ∀ b ∈ U, nv.ownBlock ≠ some b) (h2 : ∀ (i : Nat) (y : Value), rvs[i]? = some y → ∀ b ∈ U, y.ownBlock ≠ some b) : CL w' nv ns := by
  refine ⟨rvs, h.len, SL.of_owns (ownsRow_updL h.tb hu h1), fun i c hc => ?_⟩
  obtain ⟨y, hy, ho⟩ := h.val hc
  exact ⟨y, hy, SL.of_owns (ownsRow_updL ho hu (h2 i y hy))⟩
theorem SpM.setCut {cv' : Value} {cs' : List Int} (h : SpM w0 ab cv nv av cs ns bs rvs w) (o : w1.ownsRow 0 3 1 cv' cs'.length (ints cs')) (hu : Upd cv.ownBlock.toList w w1) (hk : ∀ q, cv'.ownBlock = some q → cv.ownBlock = some q ∨ w.heap.size ≤ q) :
    SpM w0 ab cv' nv av cs' ns bs rvs (w1.setCell ⟨ab, 0, none⟩ cv') := by
  have us : Upd [ab] w1 (w1.setCell ⟨ab, 0, none⟩ cv') := (Upd.refl [ab] w1).set (p := ⟨ab, 0, none⟩) (by simp) _
  have hz := h.u.size
  have hb1 : Blk w1 ab [cv, nv, av] 39 := h.bx.upd hu (fun hm => own_bne h.cu h.bx (by decide) (g := ab) (by simpa using hm) rfl)
  refine ⟨hb1.set 0 _, ownsRow_updL o us (fun b hb hq => ?_), ownsRow_updL (ownsRow_updL h.tb hu (fun b hb hq => own_ne h.tb h.cu (by decide) hq (by simpa using hb))) us (fun b hb hq => own_bne h.tb h.bx (by decide) hq (by simpa using hb)), trivial, fun i c y h1 h2 => ownsRow_updL (ownsRow_updL (h.rw i c y h1 h2) hu (fun b hb hq => h.cd i y b h2 hq (by simpa using hb))) us (fun b hb hq => own_bne (h.rw i c y h1 h2) h.bx (by decide) hq (by simpa using hb)), h.ds, fun i y q h1 h2 h3 => ?_, ⟨h.nw.1, fun q hq => ?_, h.nw.2.2.1, h.nw.2.2.2.1, h.nw.2.2.2.2⟩, (h.u.fresh hu (fun b hb => .inr (h.nw.2.1 b (by simpa using hb)))).fresh us (fun b hb => .inr (by simp at hb; subst hb; exact h.nw.1))⟩
  · simp at hb
    subst hb
    rcases hk _ hq with h1 | h1
    · exact own_bne h.cu h.bx (by decide) h1 rfl
    · have := h.bx.lt; omega
  · rcases hk _ h3 with h4 | h4
    · exact h.cd i y q h1 h2 h4
    · have hi := (List.getElem?_eq_some_iff.1 h1).1
      have hl := h.len
      have ho := h.rw i ns[i] y (List.getElem?_eq_getElem (by omega)) h1
      have := (ho.lt q h2).2
      omega
  · rcases hk _ hq with h1 | h1
    · exact h.nw.2.1 _ h1
    · omega
theorem SpM.rowPush {s gn : Nat} {c : List Int} {y' : Value} {z : Int} (h : SpM w0 ab cv (.slice (some ⟨gn, 0, none⟩) ns.length cap) av cs ns bs rvs w) (hc : ns[s]? = some c) (hy : rvs[s]? = some y) (o : w1.ownsRow 0 3 1 y' (c.length + 1) (ints c ++ [.int .i64 z])) (hu : Upd y.ownBlock.toList w w1) (hk : ∀ q, y'.ownBlock = some q → y.ownBlock = some q ∨ w.heap.size ≤ q) :
    SpM w0 ab cv (.slice (some ⟨gn, 0, none⟩) ns.length cap) av cs (ns.set s (c ++ [z])) bs (rvs.set s y') (w1.setCell ⟨gn, s, none⟩ y') := by
  have us : Upd [gn] w1 (w1.setCell ⟨gn, s, none⟩ y') := (Upd.refl [gn] w1).set (p := ⟨gn, s, none⟩) (by simp) _
  have ho := h.rw s c _ hc hy
  have hz := h.u.size
  have hs := (List.getElem?_eq_some_iff.1 hc).1
  have hl := h.len
  have hnv : (Value.slice (some ⟨gn, 0, none⟩) ns.length cap).ownBlock = some gn := rfl
  have hgn := (h.tb.lt gn hnv).2
  have hb1 : Blk w1 ab [cv, .slice (some ⟨gn, 0, none⟩) ns.length cap, av] 39 := h.bx.upd hu (fun hm => own_bne ho h.bx (by decide) (g := ab) (by simpa using hm) rfl)
  have ht1 := ownsRow_updL h.tb hu (fun b hb hq => own_ne h.tb ho (by decide) hq (by simpa using hb))
  have hget : ∀ {i : Nat} {u : Value}, (rvs.set s y')[i]? = some u → (i = s ∧ u = y') ∨ (i ≠ s ∧ rvs[i]? = some u) := fun {i u} h1 => by
    by_cases e : i = s
    · subst e
      rw [List.getElem?_set_self (by omega)] at h1
      exact .inl ⟨rfl, by simpa using h1.symm⟩
    · rw [List.getElem?_set_ne (fun h2 => e h2.symm)] at h1
      exact .inr ⟨e, h1⟩
  have hlt : ∀ {i : Nat} {u : Value} {q : Nat}, rvs[i]? = some u → u.ownBlock = some q → q < w.heap.size := fun {i u q} h1 h2 => by
    have hi := (List.getElem?_eq_some_iff.1 h1).1
    exact ((h.rw i ns[i] u (List.getElem?_eq_getElem (by omega)) h1).lt q h2).2
  refine ⟨hb1.upd us (fun hm => own_bne h.tb h.bx (by decide) hnv (by simpa using Eq.symm (List.mem_singleton.1 hm))), ownsRow_updL (ownsRow_updL h.cu hu (fun b hb hq => h.cd s y b hy (by simpa using hb) hq)) us (fun b hb hq => own_ne h.cu h.tb (by decide) hq (by simp at hb; subst hb; exact hnv)), by rw [List.length_set]; exact own_cell ht1 hs _, trivial, fun i c' u h1 h2 => ?_, fun i j u1 u2 q h1 h2 h3 h4 => ?_, fun i u q h1 h2 h3 => ?_, ⟨h.nw.1, h.nw.2.1, h.nw.2.2.1, h.nw.2.2.2.1, fun i u q h1 h2 => ?_⟩, (h.u.fresh hu (fun b hb => .inr (h.nw.2.2.2.2 s y b hy (by simpa using hb)))).fresh us (fun b hb => .inr (by simp at hb; subst hb; exact h.nw.2.2.1 _ hnv))⟩
  · rcases hget h2 with ⟨rfl, rfl⟩ | ⟨hne, h2⟩
    · rw [List.getElem?_set_self hs] at h1
      cases h1
      rw [show (c ++ [z]).length = c.length + 1 by simp, show ints (c ++ [z]) = ints c ++ [.int .i64 z] by simp [ints]]
      exact ownsRow_updL o us (fun b hb hq => by
        simp at hb; subst hb
        rcases hk _ hq with h5 | h5
        · exact own_ne ho h.tb (by decide) h5 hnv
        · omega)
    · rw [List.getElem?_set_ne (fun e => hne e.symm)] at h1
      have hi := h.rw i c' u h1 h2
      exact ownsRow_updL (ownsRow_updL hi hu (fun b hb hq => hne (h.ds i s u y b h2 hy hq (by simpa using hb)))) us (fun b hb hq => own_ne hi h.tb (by decide) hq (by simp at hb; subst hb; exact hnv))
  · rcases hget h1 with ⟨rfl, rfl⟩ | ⟨hn1, h1'⟩
    · rcases hget h2 with ⟨rfl, rfl⟩ | ⟨hn2, h2⟩
      · rfl
      · rcases hk _ h3 with h5 | h5
        · exact h.ds _ _ _ _ q hy h2 h5 h4
        · have := hlt h2 h4; omega
    · rcases hget h2 with ⟨rfl, rfl⟩ | ⟨hn2, h2'⟩
      · rcases hk _ h4 with h5 | h5
        · exact h.ds _ _ _ _ q h1' hy h3 h5
        · have := hlt h1' h3; omega
      · exact h.ds i j u1 u2 q h1' h2' h3 h4
  · rcases hget h1 with ⟨rfl, rfl⟩ | ⟨hn1, h1⟩
    · rcases hk _ h2 with h5 | h5
      · exact h.cd _ _ q hy h5 h3
      · have := (h.cu.lt q h3).2; omega
    · exact h.cd i u q h1 h2 h3
  · rcases hget h1 with ⟨rfl, rfl⟩ | ⟨hn1, h1⟩
    · rcases hk _ h2 with h5 | h5
      · exact h.nw.2.2.2.2 _ _ q hy h5
      · omega
    · exact h.nw.2.2.2.2 i u q h1 h2
theorem SpM.begin {nb : Nat} {av : Value} (hb : Blk w ab [.slice none 0 0, .slice (some ⟨nb, 0, none⟩) n n, av] 39) (hn : Blk w nb (List.replicate n (.slice none 0 0)) 22) (hl : n ≤ 256) (h1 : w0.heap.size ≤ ab) (h2 : w0.heap.size ≤ nb) (hu : Upd [] w0 w) : SpM w0 ab (.slice none 0 0) (.slice (some ⟨nb, 0, none⟩) n n) av [] (List.replicate n []) [] (List.replicate n (.slice none 0 0)) w := by
  have hg : ∀ {i : Nat} {y : Value}, (List.replicate n (Value.slice none 0 0))[i]? = some y → y = .slice none 0 0 := fun {i y} h => by
    rw [List.getElem?_replicate] at h
    split at h
    · simpa using h.symm
    · cases h
  refine ⟨hb, World.ownsRow_nil _ _ _ _, ⟨by simp, .inr ⟨nb, n, (List.replicate n (Value.slice none 0 0)).toArray, by simp, Nat.zero_le _, hn, by simp, by unfold maxLen; omega, by simp, by simp⟩⟩, trivial, fun i c y h3 h4 => ?_, fun i j y z q h3 h4 h5 => ?_, fun i y q h3 h4 => ?_, ⟨h1, fun q hq => by simp [Value.ownBlock] at hq, fun q hq => by simp [Value.ownBlock] at hq; omega, trivial, fun i y q h3 h4 => ?_⟩, hu⟩
  · rw [List.getElem?_replicate] at h3
    split at h3
    · cases h3
      rw [hg h4]
      exact World.ownsRow_nil _ _ _ _
    · cases h3
  · rw [hg h3] at h5; simp [Value.ownBlock] at h5
  · rw [hg h3] at h4; simp [Value.ownBlock] at h4
  · rw [hg h3] at h4; simp [Value.ownBlock] at h4
/-- What is read at the end: the truth values are old. -/
theorem SpM.fin (h : SpM w0 ab cv nv av cs ns bs rvs w) (hu : Upd U w w') (hU : ∀ b ∈ U, b < w0.heap.size) {zs : List Bool} (ha : SL w' 1 av zs.length (bools zs)) : AuF w' ⟨cs, ns, zs⟩ [cv, nv, av] :=
  ⟨_, _, _, rfl, SL.of_owns (ownsRow_updL h.cu hu (fun b hb hq => by have := h.nw.2.1 b hq; have := hU b hb; omega)), h.cl_ hu (fun b hb hq => by have := h.nw.2.2.1 b hq; have := hU b hb; omega) (fun i y hy b hb hq => by have := h.nw.2.2.2.2 i y b hy hq; have := hU b hb; omega), ha⟩
theorem SpA.rowPushN {s gn m : Nat} {c : List Int} {y' : Value} {z : Int} (hm : m = ns.length) (h : SpA w0 ab cv (.slice (some ⟨gn, 0, none⟩) m cap) av cs ns bs rvs w) (hc : ns[s]? = some c) (hy : rvs[s]? = some y) (o : w1.ownsRow 0 3 1 y' (c.length + 1) (ints c ++ [.int .i64 z])) (hu : Upd y.ownBlock.toList w w1) (hk : ∀ q, y'.ownBlock = some q → y.ownBlock = some q ∨ w.heap.size ≤ q) :
    SpA w0 ab cv (.slice (some ⟨gn, 0, none⟩) m cap) av cs (ns.set s (c ++ [z])) bs (rvs.set s y') (w1.setCell ⟨gn, s, none⟩ y') := by
  subst hm
  exact h.rowPush hc hy o hu hk
/-- The cells of a row of the table. -/
theorem SpA.tcell {gn m s : Nat} (h : SpA w0 ab cv (.slice (some ⟨gn, 0, none⟩) m cap) av cs ns bs rvs w) (hy : rvs[s]? = some y) : w.cell? ⟨gn, s, none⟩ = some y := by
  have hl := (List.getElem?_eq_some_iff.1 hy).1
  have h1 := h.tb.1
  obtain ⟨a, cap', he, _, _, hc⟩ := (OwW.start h.tb).form
  cases he
  obtain ⟨g, he2, hc2⟩ := hc (by omega) (by decide)
  cases he2
  exact hc2 s y hy
theorem SpM.rowPushN {s gn m : Nat} {c : List Int} {y' : Value} {z : Int} (hm : m = ns.length) (h : SpM w0 ab cv (.slice (some ⟨gn, 0, none⟩) m cap) av cs ns bs rvs w) (hc : ns[s]? = some c) (hy : rvs[s]? = some y) (o : w1.ownsRow 0 3 1 y' (c.length + 1) (ints c ++ [.int .i64 z])) (hu : Upd y.ownBlock.toList w w1) (hk : ∀ q, y'.ownBlock = some q → y.ownBlock = some q ∨ w.heap.size ≤ q) :
    SpM w0 ab cv (.slice (some ⟨gn, 0, none⟩) m cap) av cs (ns.set s (c ++ [z])) bs (rvs.set s y') (w1.setCell ⟨gn, s, none⟩ y') := by
  subst hm
  exact h.rowPush hc hy o hu hk
/-- The cells of a row of the table. -/
theorem SpM.tcell {gn m s : Nat} (h : SpM w0 ab cv (.slice (some ⟨gn, 0, none⟩) m cap) av cs ns bs rvs w) (hy : rvs[s]? = some y) : w.cell? ⟨gn, s, none⟩ = some y := by
  have hl := (List.getElem?_eq_some_iff.1 hy).1
  have h1 := h.tb.1
  obtain ⟨a, cap', he, _, _, hc⟩ := (OwW.start h.tb).form
  cases he
  obtain ⟨g, he2, hc2⟩ := hc (by omega) (by decide)
  cases he2
  exact hc2 s y hy
end
end Aut
end Go.Proofs.YtjclbjdkkdijbaaGreat
end
