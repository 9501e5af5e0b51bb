/- Walks through package auto: number, at pairs. Conditions: none. Walks through package auto: Both. Conditions: none. -/
import Derived.Test.YtjclbjdkkdijbaaGreatAuZf
import Derived.Test.YtjclbjdkkdijbaaGreatAuZg
set_option linter.unusedVariables false
set_option linter.unusedSimpArgs false
set_option linter.unusedSectionVars false
section
open Go.RowKit
namespace Go.Proofs.YtjclbjdkkdijbaaGreat
open L
namespace Aut
open Auto
attribute [-go_sem] sliced
/-- What number returns. -/
def NumQ (a b : Au) (cs : List Int) (w : World) (e : Ending) (w' : World) : Prop :=
  (∃ S T sv tv, numb (0, 0) cs.length (bothNx a b cs) = some (S, T) ∧ e = .returned (.tuple #[sv, tv, .int .i64 0]) ∧ OwW 125 2 S.length w (.slice none 0 0) sv (pcs S) w' ∧ CL w' tv (natRows T) ∧ S.length ≤ 256 ∧ (∀ p ∈ S, p.1 < a.next.length ∧ p.2 < b.next.length) ∧ (∀ (U : List Nat) (w2 : World), Upd U w' w2 → (∀ b ∈ U, b < w.heap.size ∨ w'.heap.size ≤ b) → CL w2 tv (natRows T))) ∨
  (numb (0, 0) cs.length (bothNx a b cs) = none ∧ e = .returned (.tuple #[.slice none 0 0, .slice none 0 0, .int .i64 4]) ∧ Upd [] w w')
section
variable {w w' : World} {v : Value}
set_option maxRecDepth 100000 in
set_option maxHeartbeats 16000000 in
theorem numberP_calls {a b : Au} {ab cb bb : Nat} {a1 a2 b1 b2 : Option Addr} {c1 c2 d1 d2 : Nat} {x3 y3 vc : Value} {cs : List Int} (ha : AuF w a [.slice a1 a.cuts.length c1, .slice a2 a.next.length c2, x3]) (hb : AuF w b [.slice b1 b.cuts.length d1, .slice b2 b.next.length d2, y3])
    (oa : Ok a) (ob : Ok b) (p0 : w.cell? ⟨ab, 0, none⟩ = some (.slice a1 a.cuts.length c1)) (p1 : w.cell? ⟨ab, 1, none⟩ = some (.slice a2 a.next.length c2)) (r0 : w.cell? ⟨bb, 0, none⟩ = some (.slice b1 b.cuts.length d1)) (r1 : w.cell? ⟨bb, 1, none⟩ = some (.slice b2 b.next.length d2))
    (hc : w.cell? ⟨cb, 0, none⟩ = some vc) (hcs : SL w 1 vc cs.length (ints cs)) (hcr : ∀ c ∈ cs, 0 ≤ c ∧ c ≤ 255) (hm : cs.length ≤ 1000) :
    Calls Tryz.prog 74 #[pKey (0, 0), .int .i64 cs.length, .func (.func 75) #[] #[], .func (.func 76) #[] #[.pointer (some ⟨ab, 0, none⟩), .pointer (some ⟨cb, 0, none⟩), .pointer (some ⟨bb, 0, none⟩)]] w (NumQ a b cs w) := by
  have HNX := Lib.hid (show ∀ (w5 : World), Upd [] w w5 → ∀ x y k, x < a.next.length → y < b.next.length → k < cs.length → Calls Tryz.prog 76 #[.agg #[.int .i64 x, .int .i64 y], .int .i64 k, .pointer (some ⟨ab, 0, none⟩), .pointer (some ⟨cb, 0, none⟩), .pointer (some ⟨bb, 0, none⟩)] w5 fun e w' => e = .returned (.tuple #[.agg #[.int .i64 (bothNx a b cs (x, y) k).1, .int .i64 (bothNx a b cs (x, y) k).2], .int .i64 0]) ∧ Upd [] w5 w' from fun w5 u5 x y k hx hy hk =>
    Both2_calls (ha.ext u5) (hb.ext u5) oa ob (u5.some p0 (by simp)) (u5.some p1 (by simp)) (u5.some r0 (by simp)) (u5.some r1 (by simp)) (u5.some hc (by simp)) (hcs.upd u5 (by simp)) hk hcr hx hy)
  have HNG := Lib.hid (show ∀ (p : Nat × Nat) (k : Nat), p.1 < a.next.length → p.2 < b.next.length → k < cs.length → (bothNx a b cs p k).1 < a.next.length ∧ (bothNx a b cs p k).2 < b.next.length from fun p k h1 h2 hk =>
    ⟨oa.step h1 (hcr _ (gd_memA (d := 0) hk)).1, ob.step h2 (hcr _ (gd_memA (d := 0) hk)).1⟩)
  have HAB := Lib.hid (And.intro oa.some_ (And.intro ob.some_ (And.intro oa.few ob.few)))
  have HK := Lib.hid (show ∀ (w5 : World) (x y : Nat), Calls Tryz.prog 75 #[.agg #[.int .i64 x, .int .i64 y]] w5 fun e w' => e = .returned (.agg #[.int .i64 x, .int .i64 y]) ∧ Upd [] w5 w' from fun w5 x y => Both1_calls (w := w5) (x, y))
  have HN := Lib.hid (show ∀ e w', NumQ a b cs w e w' ↔ NumQ a b cs w e w' from fun _ _ => Iff.rfl)
  clear ha hb oa ob p0 p1 r0 r1 hc hcs hcr
  show Calls Tryz.prog 74 #[.agg #[.int .i64 0, .int .i64 0], .int .i64 cs.length, .func (.func 75) #[] #[], .func (.func 76) #[] #[.pointer (some ⟨ab, 0, none⟩), .pointer (some ⟨cb, 0, none⟩), .pointer (some ⟨bb, 0, none⟩)]] w _
  go_enter Tryz.func74, Tryz.ntmps74
  go_upto_region 1 with fail
  have bA := Blk.new w [.int .i64 0, .int .i64 0] 125
  have uA := (Upd.refl [] w).alloc (.cells #[.int .i64 0, .int .i64 0] 125)
  change Code.wp _ _ _ _ (w.alloc (.cells #[.int .i64 0, .int .i64 0] 125))
  change Blk (w.alloc (.cells #[.int .i64 0, .int .i64 0] 125)) _ _ _ at bA
  generalize (w.alloc (.cells #[.int .i64 0, .int .i64 0] 125)) = w1 at *
  have k0 := bA.cell (i := 0) rfl
  have k1 := bA.cell (i := 1) rfl
  have HA := Lib.hid uA
  clear bA uA
  generalize hpb : w.heap.size = pb at *
  have HPB := Lib.hid hpb
  clear hpb
  go_upto_region 2 with fail
  have b2 := Blk.new w1 [.int .i64 0, .int .i64 0] 125
  have u2 := (Upd.refl [] w1).alloc (.cells #[.int .i64 0, .int .i64 0] 125)
  have z2 : (w1.alloc (.cells #[.int .i64 0, .int .i64 0] 125)).heap.size = w1.heap.size + 1 := by simp
  change Code.wp _ _ _ _ (w1.alloc (.cells #[.int .i64 0, .int .i64 0] 125))
  change Blk (w1.alloc (.cells #[.int .i64 0, .int .i64 0] 125)) _ _ _ at b2
  generalize (w1.alloc (.cells #[.int .i64 0, .int .i64 0] 125)) = w2 at *
  generalize hsb : w1.heap.size = sb at *
  have e0 := u2.some k0 (by simp)
  have e1 := u2.some k1 (by simp)
  have H2 := Lib.hid (And.intro b2 (And.intro u2 (And.intro z2 hsb)))
  clear b2 u2 k0 k1 z2 hsb
  have hmm := @run_makeMap Tryz.prog
  have HM0 := Lib.hid (GM.new pE w2)
  have HM1 := Lib.hid ((Upd.refl [] w2).alloc (.map #[] 0))
  have g0 := HM1.out.some e0 (by simp)
  have g1 := HM1.out.some e1 (by simp)
  have HK0 := Lib.hid (show Calls Tryz.prog 75 #[.agg #[.int .i64 0, .int .i64 0]] (w2.alloc (.map #[] 0)) fun e w' => e = .returned (.agg #[.int .i64 0, .int .i64 0]) ∧ Upd [] (w2.alloc (.map #[] 0)) w' from HK.out _ 0 0)
  go_upto_region 3 with (first | ((with_reducible refine HK0.out.mono ?_); rintro e w5 ⟨rfl, u5⟩; have HU5 := Lib.hid u5; clear u5) | (refine wpList_gmins (E := pE) Tryz.underlying150 rfl _ _ _ rfl _ 0 _ (0, 0) (.int .i64 0) rfl rfl rfl (HM0.out.upd HU5.out (by simp)) (by unfold maxLen; omega) ⟨by decide, by decide⟩ ?_; intro w7 m7 u7))
  have hz2 := H2.out.2.2.1
  have hsb := H2.out.2.2.2
  have hwz := HA.out.size
  have hpb := HPB.out
  have hN0 : Np pE 125 2 w w2.heap.size (.slice (some ⟨sb, 0, none⟩) 1 1) (.slice none 0 0) 1 1 (pcs [(0, 0)]) [] [] [] (pmap [(0, 0)]) w7 := by
    have U7 : Upd [w2.heap.size] w2 w7 := (Upd.nil (HM1.out.step HU5.out)).trans u7
    have hB7 := H2.out.1.upd U7 (by simp; omega)
    refine ⟨⟨⟨by decide, .inr ⟨sb, 1, #[.int .i64 0, .int .i64 0], rfl, Nat.zero_le _, hB7, Nat.le_refl _, by decide, by decide, by simp [pcs]⟩⟩, ?_, fun g hg => ?_⟩, m7.congr fun y => by rw [← pmap_one], by omega, fun q hq => ?_, OwnL.nil _ _ _, ⟨by simp, by simp [Value.ownBlock], by simp⟩, by simp, by simp⟩
    · exact (HA.out.step H2.out.2.1).fresh U7 (fun b hb => .inr (by simp at hb; omega))
    · simp only [Value.ownBlock, Option.some.injEq] at hg; exact .inr (by omega)
    · simp only [Value.ownBlock, Option.some.injEq] at hq
      exact ⟨by omega, by simp, by simp [Value.ownBlock], by simp⟩
  have HN0 := Lib.hid hN0
  have hmz : w.heap.size ≤ w2.heap.size := by omega
  clear hN0 m7 u7 e0 e1 g0 g1 hmm HM0 HM1 HK0 HU5 HA H2 hz2 hsb hwz hpb
  generalize w2.heap.size = mb at *
  have HMB := Lib.hid hmz
  clear hmz
  go_wp2_with fail
  go_loopw [11, 13, 14] (fun sw tw iv wr => ∃ (i : Nat) (S : List (Nat × Nat)) (T : List (List Nat)) (F : List Nat) (sv tv : Value), sv = sw ∧ tv = tw ∧ iv = .int .i64 i ∧ i ≤ S.length ∧ Hid (upTo (0, 0) cs.length (bothNx a b cs) i = (S, T) ∧ S.length ≤ 256 ∧ (∀ p ∈ S, p.1 < a.next.length ∧ p.2 < b.next.length) ∧ Np pE 125 2 w mb sv tv S.length S.length (pcs S) T F [] (pmap S) wr)) (fun _ _ iv _ => 256 - (intOf iv).toNat)
  case atStart => exact ⟨0, [(0, 0)], [], [], _, _, rfl, rfl, rfl, Nat.zero_le _, Lib.hid ⟨rfl, by simp, fun s hs => by simp at hs; subst hs; exact ⟨HAB.out.1, HAB.out.2.1⟩, HN0.out⟩⟩
  case round =>
    obtain ⟨i, S, T, F, sv, tv, rfl, rfl, rfl, hi, HI⟩ := hrel
    obtain ⟨asv, csv, rfl, _⟩ := id HI.out.2.2.2.st.form
    by_cases hlt : i < S.length
    · have hli : (i : Int) < S.length := by omega
      have hmI : ((cs.length : Nat) : Int) ≤ 1000 := by omega
      go_upto_region 8 with (at_make; refine wpList_mk rfl _ _ _ rfl 3 1 8 _ Tryz.underlying22 infoInt rfl (by decide) .i64 .i64 cs.length cs.length cs.length rfl rfl (by omega) (by omega) (by omega) (by omega) ?_)
      have hrep : (rows cs.length fun _ => [Value.int .i64 0]) = ints (List.replicate cs.length 0) := by rw [rows_one]; simp [ints]
      change Code.wp _ _ _ _ (wr.alloc (.cells (rows cs.length fun _ => [Value.int .i64 0]).toArray 3))
      rw [hrep]
      have bR := Blk.new wr (ints (List.replicate cs.length 0)) 3
      have uR := (Upd.refl [] wr).alloc (.cells (ints (List.replicate cs.length 0)).toArray 3)
      have hzR : wr.heap.size < (wr.alloc (.cells (ints (List.replicate cs.length 0)).toArray 3)).heap.size := by simp
      have hNr := HI.out.2.2.2.row uR hzR
      generalize (wr.alloc (.cells (ints (List.replicate cs.length 0)).toArray 3)) = wq at *
      generalize wr.heap.size = rb at *
      have hs0 := List.getElem?_eq_getElem hlt
      generalize S[i] = s at *
      obtain ⟨sx, sy⟩ := s
      have HQ := Lib.hid (And.intro bR (And.intro hNr hs0))
      clear hrep bR uR hzR hNr hs0
      go_wp2_with fail
      go_loopw [11, 37] (fun sw kv wk => ∃ (k : Nat) (S' : List (Nat × Nat)) (row : List Nat) (sv' : Value), sv' = sw ∧ kv = .int .i64 k ∧ k ≤ cs.length ∧ Hid (scan (bothNx a b cs (sx, sy)) k S = (S', row) ∧ S'.length ≤ 256 ∧ (∀ p ∈ S', p.1 < a.next.length ∧ p.2 < b.next.length) ∧ S'[i]? = some (sx, sy) ∧ Np pE 125 2 w mb sv' tv S'.length S'.length (pcs S') T F [rb] (pmap S') wk ∧ Blk wk rb (ints (row.map Int.ofNat ++ List.replicate (cs.length - k) 0)) 3 ∧ row.length = k)) (fun _ kv _ => cs.length - (intOf kv).toNat)
      case atStart => exact ⟨0, S, [], _, rfl, rfl, Nat.zero_le _, Lib.hid ⟨rfl, HI.out.2.1, HI.out.2.2.1, HQ.out.2.2, HQ.out.2.1, by simpa using HQ.out.1, rfl⟩⟩
      case round =>
        obtain ⟨k, S', row, sv', rfl, rfl, hk, HJ⟩ := hrel
        obtain ⟨asv', csv', rfl, _, _, hcell⟩ := id HJ.out.2.2.2.2.1.st.form
        by_cases hkl : k < cs.length
        · have hki : (k : Int) < cs.length := by omega
          have hi' : i < S'.length := (List.getElem?_eq_some_iff.1 HJ.out.2.2.2.1).1
          obtain ⟨g, rfl, hcell2⟩ := hcell (by omega) (by decide)
          have hii : (i : Int) < S'.length := by omega
          have e0 := hcell2 _ _ (pcs_at HJ.out.2.2.2.1).1
          have e1 := hcell2 _ _ (pcs_at HJ.out.2.2.2.1).2
          simp only at e0 e1
          have hgs := HJ.out.2.2.1 _ (List.mem_of_getElem? HJ.out.2.2.2.1)
          have HC2 := Lib.hid (HNX.out _ HJ.out.2.2.2.2.1.u sx sy k hgs.1 hgs.2 hkl)
          have hgx := HNG.out (sx, sy) k hgs.1 hgs.2 hkl
          have HSO := Lib.hid (fun hm => scan_old' HJ.out.1 (f := bothNx a b cs (sx, sy)) hm)
          have HSN := Lib.hid (fun hm => scan_new' HJ.out.1 (f := bothNx a b cs (sx, sy)) hm)
          have HNN := Lib.hid (fun (h : 256 < (scan (bothNx a b cs (sx, sy)) (k + 1) S).1.length) => numb_none (first := (0, 0)) (nx := bothNx a b cs) (m := cs.length) (i := i) (k := k + 1) (s := (sx, sy)) (by have := HI.out.2.1; omega) (by omega) (by rw [HI.out.1]; exact HQ.out.2.2) (by rw [HI.out.1]; exact h))
          generalize hq : bothNx a b cs (sx, sy) k = q at *
          have HQQ := Lib.hid hq
          obtain ⟨qx, qy⟩ := q
          simp only at hgx
          have HOK := Lib.hid (show pOk (qx, qy) from ⟨by have := HAB.out.2.2.1; simp only; omega, by have := HAB.out.2.2.2; simp only; omega⟩)
          have HG := Lib.hid (And.intro hgx hi')
          clear hcell hcell2 hgs hgx hi' hq
          go_upto_region 14 with ((with_reducible refine HC2.out.mono ?_); rintro e w5 ⟨rfl, u5⟩)
          have b6 := Blk.new w5 [.int .i64 qx, .int .i64 qy] 125
          have u6 := (Upd.refl [] w5).alloc (.cells #[.int .i64 qx, .int .i64 qy] 125)
          change Code.wp _ _ _ _ (w5.alloc (.cells #[.int .i64 qx, .int .i64 qy] 125))
          change Blk (w5.alloc (.cells #[.int .i64 qx, .int .i64 qy] 125)) _ _ _ at b6
          generalize (w5.alloc (.cells #[.int .i64 qx, .int .i64 qy] 125)) = w6 at *
          have hxm : mb < w5.heap.size := by have := HJ.out.2.2.2.2.1.mp.lt; have := u5.size; omega
          generalize w5.heap.size = xb at *
          have hxmb : xb ≠ mb := by omega
          have HX6 := Lib.hid (And.intro b6 (And.intro (HJ.out.2.2.2.2.1.quiet (u5.step u6)) (And.intro (HJ.out.2.2.2.2.2.1.upd (u5.step u6) (by simp)) hxmb)))
          have d0 := b6.cell (i := 0) rfl
          have d1 := b6.cell (i := 1) rfl
          have HKQ := Lib.hid (fun (w7 : World) => HK.out w7 qx qy)
          clear b6 u6 u5 e0 e1 hxm hxmb HC2
          by_cases hmem : (qx, qy) ∈ S'
          · have HL := Lib.hid (And.intro (show pmap S' (qx, qy) = some (.int .i64 (place S' (qx, qy) : Nat)) by unfold pmap; rw [if_pos hmem]) (HSO.out hmem))
            clear hmem HSO HSN HNN
            generalize place S' (qx, qy) = pl at *
            go_upto_region 21 with (first | ((with_reducible refine (HKQ.out _).mono ?_); rintro e w7 ⟨rfl, u7⟩; have HU7 := Lib.hid u7; clear u7) | (refine wpList_gmlook_ok (E := pE) Tryz.underlying150 infoInt _ _ rfl rfl mb S'.length (pmap S') (qx, qy) rfl rfl (HX6.out.2.1.mp.upd HU7.out (by simp)) HOK.out ?_; rw [HL.out.1]; simp only [Option.getD_some, Option.isSome_some]))
            have bR := HX6.out.2.2.1.upd HU7.out (by simp)
            have c8 : w7.cell? ⟨rb, k, none⟩ = some (.int .i64 0) := bR.cell (row_zero HJ.out.2.2.2.2.2.2 hkl)
            have f8 : ∀ q, w7.frozen? ⟨rb, q, none⟩ = false := bR.free
            have HBR := Lib.hid bR
            clear bR
            go_wp2_with fail
            have uS : Upd [rb] w7 (w7.setCell ⟨rb, k, none⟩ (.int .i64 (pl : Nat))) := (Upd.refl [rb] w7).set (p := ⟨rb, k, none⟩) (by simp) _
            refine ⟨⟨k + 1, S', row ++ [pl], _, rfl, by go_num, by omega, Lib.hid ⟨HL.out.2, HJ.out.2.1, HJ.out.2.2.1, HJ.out.2.2.2.1, (HX6.out.2.1.quiet HU7.out).set uS, ?_, by simp [HJ.out.2.2.2.2.2.2]⟩⟩, by simp [intOf]; omega⟩
            have := HBR.out.set k (.int .i64 (pl : Nat))
            rw [row_set HJ.out.2.2.2.2.2.2 hkl] at this
            exact this
          · have HL := Lib.hid (And.intro (show pmap S' (qx, qy) = none by unfold pmap; rw [if_neg hmem]) (And.intro (HSN.out hmem) (pmap_push hmem)))
            by_cases h256 : S'.length = 256
            · have HE := Lib.hid (HNN.out (by rw [HL.out.2.1]; simp [h256]))
              have hbb : ((S'.length : Int) == 256) = true := by simp; omega
              clear hmem h256 HSO HSN HNN
              go_wp2_with (first | ((with_reducible refine (HKQ.out _).mono ?_); rintro e w7 ⟨rfl, u7⟩; have HU7 := Lib.hid u7; clear u7) | (refine wpList_gmlook_ok (E := pE) Tryz.underlying150 infoInt _ _ rfl rfl mb S'.length (pmap S') (qx, qy) rfl rfl (HX6.out.2.1.mp.upd HU7.out (by simp)) HOK.out ?_; rw [HL.out.1]; simp only [Option.getD_none, Option.isSome_none]))
              go_ret3
              exact .inr ⟨HE.out, rfl, (HX6.out.2.1.quiet HU7.out).u⟩
            · have hbb : ((S'.length : Int) == 256) = false := by simp; omega
              have hlen := HJ.out.2.1
              clear hmem HSO HSN HNN
              go_upto_region 21 with (first
                | ((with_reducible refine (HKQ.out w6).mono ?_); rintro e w7 ⟨rfl, u7⟩; have HU7 := Lib.hid u7; have d0 := u7.some d0 (by simp); have d1 := u7.some d1 (by simp); clear u7)
                | (refine wpList_gmlook_ok (E := pE) Tryz.underlying150 infoInt _ _ rfl rfl mb S'.length (pmap S') (qx, qy) rfl rfl (HX6.out.2.1.mp.upd HU7.out (by simp)) HOK.out ?_; rw [HL.out.1]; simp only [Option.getD_none, Option.isSome_none])
                | ((with_reducible refine (HKQ.out w7).mono ?_); rintro e w8 ⟨rfl, u8⟩; have HU8 := Lib.hid (HU7.out.step u8); have d0 := u8.some d0 (by simp); have d1 := u8.some d1 (by simp); clear u8)
                | (refine wpList_gmput (E := pE) Tryz.underlying150 rfl _ _ _ rfl mb S'.length (pmap S') (qx, qy) (.int .i64 (S'.length : Nat)) rfl rfl rfl (HX6.out.2.1.mp.upd HU8.out (by simp)) (by unfold maxLen; omega) HOK.out ?_; intro w9 m9 u9; have HU9 := Lib.hid (And.intro m9 u9); have d0 := u9.some d0 (by simpa using HX6.out.2.2.2); have d1 := u9.some d1 (by simpa using HX6.out.2.2.2); have HNP := Lib.hid ((HX6.out.2.1.quiet HU8.out).put u9 (f' := pmap (S' ++ [(qx, qy)])) (m' := S'.length + 1) (m9.congr HL.out.2.2)); clear m9 u9)
                | (refine wpList_push rfl rfl _ _ _ _ rfl rfl rfl 125 2 16 _ Tryz.underlying121 infoPair rfl (by decide) (by decide) (.agg #[.int .i64 qx, .int .i64 qy]) [.int .i64 qx, .int .i64 qy] rfl rfl rfl (by simp [Value.oneCell']) _ _ _ HNP.out.st.row rfl rfl (by unfold maxLen; omega) (by omega) ?_; intro g4 c4 w10 o10 u10 k10))
              have hnn := HNP.out.push o10 u10 k10
              have hrbm : rb ∉ [mb] := fun h => HNP.out.mf.2.2 (by simp at h; simp [h])
              have bR := ((HX6.out.2.2.1.upd HU8.out (by simp)).upd HU9.out.2 hrbm).upd u10 (fun h => (HNP.out.sm rb (by simpa using h)).2.2.2 (by simp))
              have c8 : w10.cell? ⟨rb, k, none⟩ = some (.int .i64 0) := bR.cell (row_zero HJ.out.2.2.2.2.2.2 hkl)
              have f8 : ∀ q, w10.frozen? ⟨rb, q, none⟩ = false := bR.free
              have HBR := Lib.hid (And.intro bR hnn)
              have hl1 : (S' ++ [(qx, qy)]).length = S'.length + 1 := by simp
              have HL1 := Lib.hid (And.intro hl1 h256)
              clear bR hnn hrbm o10 u10 k10 d0 d1 hl1 h256 hbb
              go_wp2_with fail
              have uS : Upd [rb] w10 (w10.setCell ⟨rb, k, none⟩ (.int .i64 (S'.length : Nat))) := (Upd.refl [rb] w10).set (p := ⟨rb, k, none⟩) (by simp) _
              refine ⟨⟨k + 1, S' ++ [(qx, qy)], row ++ [S'.length], _, rfl, by go_num, by omega, Lib.hid ⟨HL.out.2.1, by rw [HL1.out.1]; have := HL1.out.2; omega, fun z hz => ?_, by rw [List.getElem?_append_left HG.out.2]; exact HJ.out.2.2.2.1, ?_, ?_, by simp [HJ.out.2.2.2.2.2.2]⟩⟩, by simp [intOf]; omega⟩
              · rcases List.mem_append.1 hz with hz | hz
                · exact HJ.out.2.2.1 z hz
                · simp at hz; subst hz; exact HG.out.1
              · rw [HL1.out.1, pcs_snoc]
                exact HBR.out.2.set uS
              · have := HBR.out.1.set k (.int .i64 (S'.length : Nat))
                rw [row_set HJ.out.2.2.2.2.2.2 hkl] at this
                exact this
        · have hke : k = cs.length := by omega
          subst hke
          obtain ⟨vals, hv1, hv2⟩ := HJ.out.2.2.2.2.1.tb.ex
          have hTl : (natRows T).length ≤ 256 := by
            have h1 := upTo_rows' (0, 0) cs.length (bothNx a b cs) i
            rw [HI.out.1] at h1
            have h2 := HI.out.2.1
            simp only at h1
            unfold natRows
            rw [List.length_map]
            omega
          have HV := Lib.hid (And.intro hv1 hv2)
          have HTL := Lib.hid hTl
          clear hv1 hv2 hTl hcell
          go_wp2_with (refine wpList_push rfl rfl _ _ _ _ rfl rfl rfl 22 1 24 _ Tryz.underlying28 infoInts rfl (by decide) (by decide) (.slice (some ⟨rb, 0, none⟩) cs.length cs.length) [.slice (some ⟨rb, 0, none⟩) cs.length cs.length] rfl rfl rfl (by simp [Value.oneCell']) _ _ _ HV.out.1.row rfl rfl (by have := HTL.out; unfold maxLen; omega) (by have := HTL.out; omega) ?_; intro g4 c4 w10 o10 u10 k10)
          have hy : SL wr 1 (.slice (some ⟨rb, 0, none⟩) cs.length cs.length) row.length (ints (row.map Int.ofNat)) := by
            have := HJ.out.2.2.2.2.2.1
            rw [Nat.sub_self, List.replicate_zero, List.append_nil] at this
            have h2 := SL.of_blk (pad := []) (k := 1) (n := row.length) (cap := cs.length) (xs := ints (row.map Int.ofNat)) (by simpa using this) (by simp [ints]) (by rw [HJ.out.2.2.2.2.2.2]; exact Nat.le_refl _) (by unfold maxLen; omega)
            rw [HJ.out.2.2.2.2.2.2] at h2 ⊢
            exact h2
          have hnn := HJ.out.2.2.2.2.1.done HV.out.1 HV.out.2 hy rfl o10 u10 k10
          refine ⟨⟨i + 1, S', T ++ [row], F ++ [rb], _, _, rfl, rfl, by go_num, (List.getElem?_eq_some_iff.1 HJ.out.2.2.2.1).1, Lib.hid ⟨upTo_step' HI.out.1 HQ.out.2.2 HJ.out.1, HJ.out.2.1, HJ.out.2.2.1, hnn⟩⟩, by have := HI.out.2.1; simp [intOf]; omega⟩
    · have hme : i = S.length := by omega
      subst hme
      have HD := Lib.hid (show numb (0, 0) cs.length (bothNx a b cs) = some (S, T) by rw [numb_some (i := S.length) (by rw [HI.out.1]; exact Nat.le_refl _) HI.out.2.1, HI.out.1])
      go_wp2_with fail
      go_ret3
      refine .inl ⟨S, T, _, _, HD.out, rfl, HI.out.2.2.2.st, HI.out.2.2.2.tb.cl, HI.out.2.1, HI.out.2.2.1, fun U w2 hU hb => ?_⟩
      refine (HI.out.2.2.2.tb.upd hU fun c hc => ?_).cl
      rcases hb c hc with h | h
      · exact ⟨fun hf => by have := HI.out.2.2.2.fn c hf; omega, fun hv => by have := HI.out.2.2.2.tn c hv; omega⟩
      · exact ⟨fun hf => by have := HI.out.2.2.2.tb.lt c hf; omega, fun hv => by have := HI.out.2.2.2.tb.own_lt c hv; omega⟩
end
end Aut
end Go.Proofs.YtjclbjdkkdijbaaGreat
end
section
open Go.RowKit
namespace Go.Proofs.YtjclbjdkkdijbaaGreat
open L
namespace Aut
open Auto
attribute [-go_sem] sliced
/-- The cuts of two automata. -/
def cutsB (a b : Au) : List Int := srtC (a.cuts ++ b.cuts)
def accB (a b : Au) (or_ : Bool) (p : Nat × Nat) : Bool := (a.acc.getD p.1 false && b.acc.getD p.2 false) || (or_ && (a.acc.getD p.1 false || b.acc.getD p.2 false))
/-- What Both returns. -/
def bothE (a b : Au) : Int := if vErr a ≠ 0 then vErr a else if vErr b ≠ 0 then vErr b else match numb (0, 0) (cutsB a b).length (bothNx a b (cutsB a b)) with
  | some _ => 0
  | none => 4
def bothA (a b : Au) (or_ : Bool) : Au := if vErr a ≠ 0 then noA else if vErr b ≠ 0 then noA else match numb (0, 0) (cutsB a b).length (bothNx a b (cutsB a b)) with
  | some q => ⟨cutsB a b, natRows q.2, q.1.map (accB a b or_)⟩
  | none => noA
theorem three_rows (w : World) (a0 a1 a2 b0 b1 b2 z0 z1 z2 : Value) (T : TypeId) : ∃ w1, w1 = (((w.alloc (.cells #[a0, a1, a2] T)).alloc (.cells #[b0, b1, b2] T)).alloc (.cells #[z0, z1, z2] T)) ∧ Blk w1 w.heap.size [a0, a1, a2] T ∧ Blk w1 (w.heap.size + 1) [b0, b1, b2] T ∧ Blk w1 (w.heap.size + 2) [z0, z1, z2] T ∧ Upd [] w w1 := by
  have s1 : (w.alloc (.cells #[a0, a1, a2] T)).heap.size = w.heap.size + 1 := by simp
  have s2 : ((w.alloc (.cells #[a0, a1, a2] T)).alloc (.cells #[b0, b1, b2] T)).heap.size = w.heap.size + 2 := by simp
  have h2 := Blk.new (w.alloc (.cells #[a0, a1, a2] T)) [b0, b1, b2] T
  have h3 := Blk.new ((w.alloc (.cells #[a0, a1, a2] T)).alloc (.cells #[b0, b1, b2] T)) [z0, z1, z2] T
  rw [s1] at h2
  rw [s2] at h3
  exact ⟨_, rfl, ((Blk.new w [a0, a1, a2] T).alloc _).alloc _, h2.alloc _, h3, (((Upd.refl [] w).alloc _).alloc _).alloc _⟩
section
variable {w w' : World} {v v2 : Value}
set_option maxRecDepth 100000 in
set_option maxHeartbeats 16000000 in
theorem Both_calls {a b : Au} (or_ : Bool) (ha : AuV w a v) (hb : AuV w b v2) : Calls Tryz.prog 38 #[v, v2, .bool or_] w fun e w' => ∃ v', e = .returned (.tuple #[v', .int .i64 (bothE a b)]) ∧ AuV w' (bothA a b or_) v' ∧ Upd [] w w' := by
  obtain ⟨a1, c1, a2, c2, a3, c3, rfl, hF⟩ := ha.shape
  obtain ⟨b1, d1, b2, d2, b3, d3, rfl, hG⟩ := hb.shape
  have HF := Lib.hid hF
  have HG := Lib.hid hG
  obtain ⟨w1, hw1, e1, e2, e3, u1⟩ := three_rows w (.slice a1 a.cuts.length c1) (.slice a2 a.next.length c2) (.slice a3 a.acc.length c3) (.slice b1 b.cuts.length d1) (.slice b2 b.next.length d2) (.slice b3 b.acc.length d3) (.slice none 0 0) (.slice none 0 0) (.slice none 0 0) 31
  clear ha hb hF hG
  go_enter Tryz.func38, Tryz.ntmps38
  go_upto_region 1 with fail
  rw [← hw1]
  clear hw1
  have k0 := e1.cell (i := 0) rfl
  have k1 := e1.cell (i := 1) rfl
  have k2 := e1.cell (i := 2) rfl
  have l0 := e2.cell (i := 0) rfl
  have l1 := e2.cell (i := 1) rfl
  have l2 := e2.cell (i := 2) rfl
  have HB := Lib.hid (And.intro e3 (And.intro u1 (Nat.le_refl w.heap.size)))
  have HVA := Lib.hid (fun (w5 : World) (u5 : Upd [] w1 w5) => Valid_calls (w := w5) (a := a) (v := .agg #[.slice a1 a.cuts.length c1, .slice a2 a.next.length c2, .slice a3 a.acc.length c3]) ⟨_, rfl, HF.out.ext (u1.step u5)⟩)
  have HVB := Lib.hid (fun (w5 : World) (u5 : Upd [] w1 w5) => Valid_calls (w := w5) (a := b) (v := .agg #[.slice b1 b.cuts.length d1, .slice b2 b.next.length d2, .slice b3 b.acc.length d3]) ⟨_, rfl, HG.out.ext (u1.step u5)⟩)
  clear e1 e2 e3 u1
  generalize hpa : w.heap.size = pa at *
  have HPA := Lib.hid (Nat.le_of_eq hpa)
  clear hpa
  by_cases he : vErr a = 0
  · by_cases hf : vErr b = 0
    · have HOK := Lib.hid (And.intro (And.intro (vErr_ok he) he) (And.intro (vErr_ok hf) hf))
      rw [he] at HVA
      rw [hf] at HVB
      clear he hf
      go_upto_region 7 with (first
        | ((with_reducible refine (HVA.out _ (Upd.refl _ _)).mono ?_); rintro e w2 ⟨rfl, u2⟩; have HU2 := Lib.hid u2; have l0 := u2.some l0 (by simp); have l1 := u2.some l1 (by simp); have l2 := u2.some l2 (by simp); have k0 := u2.some k0 (by simp); have k1 := u2.some k1 (by simp); have k2 := u2.some k2 (by simp); clear u2)
        | ((with_reducible refine (HVB.out _ HU2.out).mono ?_); rintro e w3 ⟨rfl, u3⟩; have HU3 := Lib.hid (HU2.out.step u3); have l0 := u3.some l0 (by simp); have l1 := u3.some l1 (by simp); have l2 := u3.some l2 (by simp); have k0 := u3.some k0 (by simp); have k1 := u3.some k1 (by simp); have k2 := u3.some k2 (by simp); clear u3))
      have HUW := Lib.hid (HB.out.2.1.step HU3.out)
      have hFS : SL w3 1 (.slice a1 a.cuts.length c1) a.cuts.length (ints a.cuts) := by
        obtain ⟨_, _, _, he, h3, _, _⟩ := HF.out
        cases he
        exact h3.upd HUW.out (by simp)
      have hGS : SL w3 1 (.slice b1 b.cuts.length d1) b.cuts.length (ints b.cuts) := by
        obtain ⟨_, _, _, he, h3, _, _⟩ := HG.out
        cases he
        exact h3.upd HUW.out (by simp)
      have hca := cuts_len HOK.out.1.1
      have hcb := cuts_len HOK.out.2.1
      have u4 := (Upd.refl [] w3).alloc (.cells #[.slice a1 a.cuts.length c1, .slice b1 b.cuts.length d1] 22)
      have hCL : CL (w3.alloc (.cells #[.slice a1 a.cuts.length c1, .slice b1 b.cuts.length d1] 22)) (.slice (some ⟨w3.heap.size, 0, none⟩) 2 2) [a.cuts, b.cuts] := CL.of_blk (cs := [a.cuts, b.cuts]) (Blk.new w3 [.slice a1 a.cuts.length c1, .slice b1 b.cuts.length d1] 22) rfl (by simp) (fun i c hc => by
        match i with
        | 0 => cases hc; exact ⟨_, rfl, hFS.upd u4 (by simp)⟩
        | 1 => cases hc; exact ⟨_, rfl, hGS.upd u4 (by simp)⟩
        | (i + 2) => simp at hc)
      have h0l : 0 < a.cuts.length := List.length_pos_of_mem HOK.out.1.1.mem0
      have HCC := Lib.hid (Concat_calls (n := (a.cuts ++ b.cuts).length) hCL (by simp) (by simp) (by rw [List.length_append]; omega) (by rw [List.length_append]; omega))
      have HLL := Lib.hid (show (a.cuts ++ b.cuts).length ≤ 1000000 by rw [List.length_append]; omega)
      have q0 := u4.some k0 (by simp)
      clear hFS hGS hCL hca hcb h0l
      go_upto_region 8 with (first
        | ((with_reducible refine HCC.out.mono ?_); rintro e w5 ⟨v5, rfl, o5⟩; have HS := Lib.hid (sorted_calls (xs := a.cuts ++ b.cuts) (by simpa using o5) HLL.out); clear o5)
        | ((with_reducible refine HS.out.mono ?_); rintro e w6 ⟨v6, rfl, o6⟩; obtain ⟨a6, c6, rfl, _⟩ := id o6.form; have HO := Lib.hid o6; clear o6))
      have HE := Lib.hid (show bothE a b = (match numb (0, 0) (srtC (a.cuts ++ b.cuts)).length (bothNx a b (srtC (a.cuts ++ b.cuts))) with | some _ => 0 | none => 4) ∧ bothA a b or_ = (match numb (0, 0) (srtC (a.cuts ++ b.cuts)).length (bothNx a b (srtC (a.cuts ++ b.cuts))) with | some q => ⟨srtC (a.cuts ++ b.cuts), natRows q.2, q.1.map (accB a b or_)⟩ | none => noA) from by
        unfold bothE bothA cutsB
        rw [if_neg (by simpa using HOK.out.1.2), if_neg (by simpa using HOK.out.2.2), if_neg (by simpa using HOK.out.1.2), if_neg (by simpa using HOK.out.2.2)]
        exact ⟨rfl, rfl⟩)
      have hmem := srtC_mem (a.cuts ++ b.cuts)
      have hlen := srtC_length (a.cuts ++ b.cuts)
      have hcr : ∀ c ∈ srtC (a.cuts ++ b.cuts), 0 ≤ c ∧ c ≤ 255 := fun c hc => by
        rcases List.mem_append.1 ((hmem c).1 hc) with h | h
        · exact ⟨HOK.out.1.1.nonneg c h, HOK.out.1.1.top c h⟩
        · exact ⟨HOK.out.2.1.nonneg c h, HOK.out.2.1.top c h⟩
      have hm : (srtC (a.cuts ++ b.cuts)).length ≤ 1000 := by
        have h1 := cuts_len HOK.out.1.1
        have h2 := cuts_len HOK.out.2.1
        rw [List.length_append] at hlen
        omega
      have u36 := u4.step HO.out.fresh
      have HNC := Lib.hid (show ∀ q, (Value.slice a6 (srtC (a.cuts ++ b.cuts)).length c6).ownBlock = some q → pa + 2 < q from fun q hq => by
        have z1 := HB.out.1.lt
        have z2 := HU3.out.size
        have z3 := u4.size
        rcases HO.out.old q hq with h | h
        · simp [Value.ownBlock] at h
        · omega)
      have HO := Lib.hid (And.intro HO.out.sl u36)
      clear hmem hlen HS HCC u4 q0
      generalize srtC (a.cuts ++ b.cuts) = cs at *
      change Code.wp _ _ _ _ (w6.alloc (.cells #[.slice a6 cs.length c6] 22))
      have bC := Blk.new w6 [.slice a6 cs.length c6] 22
      have uC := (Upd.refl [] w6).alloc (.cells #[.slice a6 cs.length c6] 22)
      change Blk (w6.alloc (.cells #[.slice a6 cs.length c6] 22)) _ _ _ at bC
      generalize (w6.alloc (.cells #[.slice a6 cs.length c6] 22)) = w7 at *
      generalize w6.heap.size = cb at *
      have U37 := u36.step uC
      have hsl7 := HO.out.1.upd uC (by simp)
      have f0 := U37.some k0 (by simp)
      have f1 := U37.some k1 (by simp)
      have f2 := U37.some k2 (by simp)
      have g0 := U37.some l0 (by simp)
      have g1 := U37.some l1 (by simp)
      have g2 := U37.some l2 (by simp)
      have c0 := bC.cell (i := 0) rfl
      have HNB := numberP_calls (HF.out.ext (HUW.out.step U37)) (HG.out.ext (HUW.out.step U37)) HOK.out.1.1 HOK.out.2.1 f0 f1 g0 g1 c0 hsl7 hcr hm
      have HNB := Lib.hid (show Calls Tryz.prog 74 #[.agg #[.int .i64 0, .int .i64 0], .int .i64 cs.length, _, _] w7 (NumQ a b cs w7) from HNB)
      have H7 := Lib.hid (And.intro (HUW.out.step U37) (And.intro hsl7 (And.intro U37 bC)))
      clear u36 uC bC hsl7 U37 hcr k0 k1 k2 l0 l1 l2
      cases hnum : numb (0, 0) cs.length (bothNx a b cs) with
      | none =>
        have HNN := Lib.hid (HNB.out.mono (R' := fun e w' => e = .returned (.tuple #[.slice none 0 0, .slice none 0 0, .int .i64 4]) ∧ Upd [] w7 w') (fun e w' h => by
          rcases h with ⟨S, T, _, _, h1, _⟩ | ⟨_, h2, h3⟩
          · rw [hnum] at h1; cases h1
          · exact ⟨h2, h3⟩))
        rw [hnum] at HE
        have HEE := Lib.hid (show bothE a b = 4 ∧ bothA a b or_ = noA from HE.out)
        clear HNB hnum HE
        go_wp2_with ((with_reducible refine HNN.out.mono ?_); rintro e w8 ⟨rfl, u8⟩; have bR := HB.out.1.upd (HU3.out.step (H7.out.2.2.1.step u8)) (by simp); have r0 := bR.cell (i := 0) rfl; have r1 := bR.cell (i := 1) rfl; have r2 := bR.cell (i := 2) rfl; have rf : ∀ q, w8.frozen? ⟨pa + 2, q, none⟩ = false := bR.free; have HBR := Lib.hid (And.intro bR (H7.out.1.step u8)); clear bR u8)
        have hs := cell3_set (a := .slice none 0 0) (b := .slice none 0 0) (c := .slice none 0 0) HBR.out.1
        rw [HEE.out.1, HEE.out.2]
        exact ret_au2 rfl rfl rfl hs.1 rfl noA_F (HBR.out.2.fresh hs.2 (fun c hc => .inr (by simp at hc; subst hc; have := HPA.out; omega)))
      | some q =>
        obtain ⟨S, T⟩ := q
        rw [hnum] at HE
        have HEE := Lib.hid (show bothE a b = 0 ∧ bothA a b or_ = ⟨cs, natRows T, S.map (accB a b or_)⟩ from HE.out)
        have HNN := Lib.hid (HNB.out.mono (R' := fun e w' => ∃ sv tv, e = .returned (.tuple #[sv, tv, .int .i64 0]) ∧ OwW 125 2 S.length w7 (.slice none 0 0) sv (pcs S) w' ∧ CL w' tv (natRows T) ∧ S.length ≤ 256 ∧ (∀ p ∈ S, p.1 < a.next.length ∧ p.2 < b.next.length) ∧ (∀ (U : List Nat) (w2 : World), Upd U w' w2 → (∀ b ∈ U, b < w7.heap.size ∨ w'.heap.size ≤ b) → CL w2 tv (natRows T))) (fun e w' h => by
          rcases h with ⟨S', T', sv, tv, h1, h2, h3, h4, h5, h6, h7⟩ | ⟨h1, _⟩
          · rw [hnum] at h1; cases h1
            exact ⟨sv, tv, h2, h3, h4, h5, h6, h7⟩
          · rw [hnum] at h1; cases h1))
        clear HNB hnum HE
        go_upto_region 11 with ((with_reducible refine HNN.out.mono ?_); rintro e w8 ⟨sv, tv, rfl, o8, cl8, hl8, hg8, hk8⟩; obtain ⟨as8, cs8, rfl, _⟩ := id o8.form; obtain ⟨at8, ct8, rfl, _⟩ := id cl8.form; have H8 := Lib.hid (And.intro o8 (And.intro cl8 (And.intro hg8 hk8))); clear o8 cl8 hg8 hk8)
        have U8 := H8.out.1.fresh
        have f0 := U8.some f0 (by simp)
        have f1 := U8.some f1 (by simp)
        have f2 := U8.some f2 (by simp)
        have g0 := U8.some g0 (by simp)
        have g1 := U8.some g1 (by simp)
        have g2 := U8.some g2 (by simp)
        have c0 := U8.some c0 (by simp)
        have HU8 := Lib.hid (H7.out.1.step U8)
        have HFG := Lib.hid (And.intro f2 (And.intro g2 c0))
        clear U8
        have hli8 : ((S.length : Nat) : Int) ≤ 256 := by omega
        go_upto_region 12 with (at_make; refine wpList_mk rfl _ _ _ rfl 4 1 1 _ Tryz.underlying29 infoBool rfl (by decide) .i64 .i64 S.length S.length S.length rfl rfl (by omega) (by omega) (by omega) (by omega) ?_)
        have hrep : (rows S.length fun _ => [Value.bool false]) = bools ((S.map (accB a b or_)).take 0 ++ List.replicate (S.length - 0) false) := by rw [rows_one]; simp [bools]
        change Code.wp _ _ _ _ (w8.alloc (.cells (rows S.length fun _ => [Value.bool false]).toArray 4))
        rw [hrep]
        have bN := Blk.new w8 (bools ((S.map (accB a b or_)).take 0 ++ List.replicate (S.length - 0) false)) 4
        have uN := (Upd.refl [] w8).alloc (.cells (bools ((S.map (accB a b or_)).take 0 ++ List.replicate (S.length - 0) false)).toArray 4)
        generalize (w8.alloc (.cells (bools ((S.map (accB a b or_)).take 0 ++ List.replicate (S.length - 0) false)).toArray 4)) = wn at *
        generalize hnb : w8.heap.size = nb at bN ⊢
        have HNB := Lib.hid (And.intro bN (And.intro uN (Nat.le_of_eq hnb)))
        clear bN uN hnb hrep f0 f1 f2 g0 g1 g2 c0
        go_wp2_with fail
        go_loopw [56] (fun kv wr => ∃ i : Nat, kv = .int .i64 i ∧ i ≤ S.length ∧ Hid (Blk wr nb (bools ((S.map (accB a b or_)).take i ++ List.replicate (S.length - i) false)) 4 ∧ Upd [] w8 wr)) (fun kv _ => S.length - (intOf kv).toNat)
        case atStart => exact ⟨0, rfl, Nat.zero_le _, Lib.hid ⟨HNB.out.1, HNB.out.2.1⟩⟩
        case round =>
          obtain ⟨i, rfl, hi, HI⟩ := hrel
          by_cases hlt : i < S.length
          · have hli : (i : Int) < S.length := by omega
            have hge := List.getElem?_eq_getElem hlt
            have HST := Lib.hid (show (S.map (accB a b or_)).take (i + 1) = (S.map (accB a b or_)).take i ++ [accB a b or_ S[i]] by rw [List.take_add_one, List.getElem?_map, hge]; rfl)
            generalize S[i] = p at hge HST
            obtain ⟨px, py⟩ := p
            have hpp := H8.out.2.2.1 _ (List.mem_of_getElem? hge)
            simp only at hpp
            obtain ⟨_, _, he, _, _, hcell⟩ := id H8.out.1.form
            cases he
            obtain ⟨g8, rfl, hcell2⟩ := hcell (by omega) (by decide)
            have e0 := HI.out.2.some (hcell2 _ _ (pcs_at hge).1) (by simp)
            have e1 := HI.out.2.some (hcell2 _ _ (pcs_at hge).2) (by simp)
            simp only at e0 e1
            obtain ⟨ga, oa3, he3, hac⟩ := (HF.out.ext HU8.out).acc (i := px) (by rw [HOK.out.1.1.acc]; exact hpp.1)
            cases he3
            obtain ⟨gb, ob3, he3, hbc⟩ := (HG.out.ext HU8.out).acc (i := py) (by rw [HOK.out.2.1.acc]; exact hpp.2)
            cases he3
            have hxa : (px : Int) < a.acc.length := by have := HOK.out.1.1.acc; omega
            have hyb : (py : Int) < b.acc.length := by have := HOK.out.2.1.acc; omega
            have HAC := Lib.hid (show accB a b or_ (px, py) = ((a.acc.getD px false && b.acc.getD py false) || (or_ && (a.acc.getD px false || b.acc.getD py false))) from rfl)
            generalize a.acc.getD px false = xx at *
            generalize b.acc.getD py false = yy at *
            have f2 := HI.out.2.some HFG.out.1 (by simp)
            have g2 := HI.out.2.some HFG.out.2.1 (by simp)
            have ac := HI.out.2.some hac (by simp)
            have bc := HI.out.2.some hbc (by simp)
            clear hcell hcell2 hge hac hbc hpp
            go_upto_region 15 with fail
            change Code.wp _ _ _ _ (wr.alloc (.cells #[.int .i64 px, .int .i64 py] 125))
            have bX := Blk.new wr [.int .i64 px, .int .i64 py] 125
            have uX := (Upd.refl [] wr).alloc (.cells #[.int .i64 px, .int .i64 py] 125)
            change Blk (wr.alloc (.cells #[.int .i64 px, .int .i64 py] 125)) _ _ _ at bX
            generalize (wr.alloc (.cells #[.int .i64 px, .int .i64 py] 125)) = w10 at *
            generalize wr.heap.size = xb at *
            have x0 := bX.cell (i := 0) rfl
            have x1 := bX.cell (i := 1) rfl
            have f3 := uX.some f2 (by simp)
            have g3 := uX.some g2 (by simp)
            have ac3 := uX.some ac (by simp)
            have bc3 := uX.some bc (by simp)
            have HX := Lib.hid uX
            clear bX uX f2 g2 ac bc e0 e1
            refine wp_region_qx (by kernel_rfl) (by kernel_rfl) ?_
            repeat (go_big_quiet_step ((fail)))
            refine wpQuiet_nil ?_
            intro x
            have UX := HX.out.step x.upd
            have bN := HI.out.1.upd UX (by simp)
            have hls : ((S.map (accB a b or_)).take i).length = i := by simp; omega
            have hc0 : (bools ((S.map (accB a b or_)).take i ++ List.replicate (S.length - i) false))[i]? = some (.bool false) := bools_get (by rw [List.getElem?_append_right (by omega), hls, Nat.sub_self, List.getElem?_replicate, if_pos (by omega)])
            have n0 : x.val.cell? ⟨nb, i, none⟩ = some (.bool false) := bN.cell hc0
            have nf : ∀ q, x.val.frozen? ⟨nb, q, none⟩ = false := bN.free
            have hset : ∀ z, (bools ((S.map (accB a b or_)).take i ++ List.replicate (S.length - i) false)).set i (.bool z) = bools (((S.map (accB a b or_)).take i ++ [z]) ++ List.replicate (S.length - (i + 1)) false) := fun z => by
              have er : List.replicate (S.length - i) false = false :: List.replicate (S.length - (i + 1)) false := by rw [← List.replicate_succ]; congr 1; omega
              rw [er]
              unfold bools
              rw [← List.map_set, List.set_append_right _ _ (by omega), hls, Nat.sub_self, List.set_cons_zero, List.append_assoc]
              rfl
            have HSE := Lib.hid (fun z => show Blk (x.val.setCell ⟨nb, i, none⟩ (.bool z)) nb (bools (((S.map (accB a b or_)).take i ++ [z]) ++ List.replicate (S.length - (i + 1)) false)) 4 ∧ Upd [] w8 (x.val.setCell ⟨nb, i, none⟩ (.bool z)) from ⟨by rw [← hset z]; exact bN.set i (.bool z), (HI.out.2.step UX).fresh (T := [nb]) ((Upd.refl [nb] _).set (p := ⟨nb, i, none⟩) (by simp) _) (fun c hc => .inr (by simp at hc; subst hc; exact HNB.out.2.2))⟩)
            rw [HAC.out] at HST
            clear hls hc0 hset bN UX
            cases xx <;> cases yy <;> cases or_
            all_goals
              go_wp2_with fail
              exact ⟨⟨i + 1, by go_num, by omega, Lib.hid (by rw [HST.out]; exact HSE.out _)⟩, by simp [intOf]; omega⟩
          · have hie : i = S.length := by omega
            subst hie
            have hni : ¬ ((S.length : Int) < S.length) := by omega
            have HI2 := Lib.hid (show Blk wr nb (bools (S.map (accB a b or_))) 4 ∧ Upd [] w8 wr from ⟨by have := HI.out.1; rw [List.take_of_length_le (by simp), Nat.sub_self] at this; simpa using this, HI.out.2⟩)
            have bR := HB.out.1.upd ((HU3.out.step H7.out.2.2.1).step (H8.out.1.fresh.step HI.out.2)) (by simp)
            have r0 := bR.cell (i := 0) rfl
            have r1 := bR.cell (i := 1) rfl
            have r2 := bR.cell (i := 2) rfl
            have rf : ∀ q, wr.frozen? ⟨pa + 2, q, none⟩ = false := bR.free
            have hcb := HI.out.2.some HFG.out.2.2 (by simp)
            have HBR := Lib.hid bR
            clear bR
            go_wp2_with fail
            have hs := cell3_set (a := .slice a6 cs.length c6) (b := .slice at8 (natRows T).length ct8) (c := .slice (some ⟨nb, 0, none⟩) S.length S.length) HBR.out
            rw [HEE.out.1, HEE.out.2]
            have z1 := HB.out.1.lt
            have z2 := HU3.out.size
            have z3 := H7.out.2.2.1.size
            have z4 := H8.out.1.fresh.size
            have z5 := HNB.out.2.2
            refine ret_au2 rfl rfl rfl hs.1 rfl ⟨_, _, _, rfl, ?_, ?_, ?_⟩ ((HU8.out.step HI.out.2).fresh hs.2 (fun c hc => .inr (by simp at hc; subst hc; have := HPA.out; omega)))
            · exact (H7.out.2.1.upd (H8.out.1.fresh.step HI.out.2) (by simp)).upd hs.2 (fun c hc hv => by simp at hc; subst hc; have := HNC.out _ hv; omega)
            · exact H8.out.2.2.2 [pa + 2] _ ((Upd.nil HI.out.2).trans hs.2) (fun c hc => by simp at hc; subst hc; left; omega)
            · have h1 := SL.of_blk (pad := []) (k := 1) (n := S.length) (cap := S.length) (xs := bools (S.map (accB a b or_))) (by simpa using HI2.out.1) (by simp [bools]) (Nat.le_refl _) (by unfold maxLen; omega)
              have h2 := h1.upd hs.2 (fun c hc hv => by simp at hc; subst hc; simp [Value.ownBlock] at hv; omega)
              simpa using h2
    · have hbb : (vErr b != 0) = true := by simpa using hf
      have HE := Lib.hid (show bothE a b = vErr b ∧ bothA a b or_ = noA by unfold bothE bothA; rw [if_neg (by simpa using he), if_pos hf, if_neg (by simpa using he), if_pos hf]; exact ⟨rfl, rfl⟩)
      rw [he] at HVA
      clear hf he
      generalize her : vErr b = er at HVB hbb HE
      clear her
      go_wp2_with (first
        | ((with_reducible refine (HVA.out _ (Upd.refl _ _)).mono ?_); rintro e w2 ⟨rfl, u2⟩; have HU2 := Lib.hid u2; have l0 := u2.some l0 (by simp); have l1 := u2.some l1 (by simp); have l2 := u2.some l2 (by simp); clear u2)
        | ((with_reducible refine (HVB.out _ HU2.out).mono ?_); rintro e w3 ⟨rfl, u3⟩; have bR := HB.out.1.upd (HU2.out.step u3) (by simp); have r0 := bR.cell (i := 0) rfl; have r1 := bR.cell (i := 1) rfl; have r2 := bR.cell (i := 2) rfl; have rf : ∀ q, w3.frozen? ⟨pa + 2, q, none⟩ = false := bR.free; have HBR := Lib.hid (And.intro bR (HU2.out.step u3)); clear bR u3))
      have hs := cell3_set (a := .slice none 0 0) (b := .slice none 0 0) (c := .slice none 0 0) HBR.out.1
      rw [HE.out.1, HE.out.2]
      exact ret_au2 rfl rfl rfl hs.1 rfl noA_F ((HB.out.2.1.step HBR.out.2).fresh hs.2 (fun c hc => .inr (by simp at hc; subst hc; have := HPA.out; omega)))
  · have hbb : (vErr a != 0) = true := by simpa using he
    have HE := Lib.hid (show bothE a b = vErr a ∧ bothA a b or_ = noA by unfold bothE bothA; rw [if_pos he, if_pos he]; exact ⟨rfl, rfl⟩)
    clear he
    generalize her : vErr a = er at HVA hbb HE
    clear her
    go_wp2_with ((with_reducible refine (HVA.out _ (Upd.refl _ _)).mono ?_); rintro e w2 ⟨rfl, u2⟩; have bR := HB.out.1.upd u2 (by simp); have r0 := bR.cell (i := 0) rfl; have r1 := bR.cell (i := 1) rfl; have r2 := bR.cell (i := 2) rfl; have rf : ∀ q, w2.frozen? ⟨pa + 2, q, none⟩ = false := bR.free; have HBR := Lib.hid (And.intro bR u2); clear bR u2)
    have hs := cell3_set (a := .slice none 0 0) (b := .slice none 0 0) (c := .slice none 0 0) HBR.out.1
    rw [HE.out.1, HE.out.2]
    exact ret_au2 rfl rfl rfl hs.1 rfl noA_F ((HB.out.2.1.step HBR.out.2).fresh hs.2 (fun c hc => .inr (by simp at hc; subst hc; have := HPA.out; omega)))
end
end Aut
end Go.Proofs.YtjclbjdkkdijbaaGreat
end
