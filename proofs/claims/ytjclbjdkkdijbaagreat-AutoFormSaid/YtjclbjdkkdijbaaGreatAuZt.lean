/- Walks through package auto: Minimal. Conditions: none. Walks through the law of chapter 05: AutoForm: what it calls answers so at valid automata. Conditions: none. -/
import Derived.Test.YtjclbjdkkdijbaaGreatAuZq
import Derived.Test.YtjclbjdkkdijbaaGreatAuF
import Derived.Test.YtjclbjdkkdijbaaGreatAuE
import Derived.Test.YtjclbjdkkdijbaaGreatAuZs
import Derived.Test.YtjclbjdkkdijbaaGreatAuZr
import Derived.Test.YtjclbjdkkdijbaaGreatAuZd
import Derived.Test.YtjclbjdkkdijbaaGreatAuK
set_option linter.unusedVariables false
set_option linter.unusedSimpArgs false
set_option linter.unusedSectionVars false
section
open Go.RowKit
namespace Go.Proofs.YtjclbjdkkdijbaaGreat
open L
namespace Aut
open Auto
attribute [-go_sem] sliced
/-- What Minimal returns. -/
def minE (a : Au) : Au := if vErr a ≠ 0 then noA else minA a
/-- The classes that are kept among the first ones. -/
def keptN (T : List (List Int)) (k : Nat) : List Nat := (List.range k).filter (begK T)
theorem keptN_yes {T : List (List Int)} {k : Nat} (h : begK T k = true) : keptN T (k + 1) = keptN T k ++ [k] := by unfold keptN; rw [List.range_succ, List.filter_append]; simp [h]
theorem keptN_no {T : List (List Int)} {k : Nat} (h : begK T k = false) : keptN T (k + 1) = keptN T k := by unfold keptN; rw [List.range_succ, List.filter_append]; simp [h]
theorem keptN_le (T : List (List Int)) (k : Nat) : (keptN T k).length ≤ k := by
  have := List.length_filter_le (begK T) (List.range k)
  simpa [keptN] using this
/-- The rows while the first of them have one more class. -/
def rowsN (T : List (List Int)) (k s : Nat) : List (List Int) := (List.range T.length).map fun i => (keptN T (if i < s then k + 1 else k)).map fun c => (T.getD i []).getD c 0
theorem rowsN_len (T : List (List Int)) (k s : Nat) : (rowsN T k s).length = T.length := by simp [rowsN]
theorem rowsN_at {T : List (List Int)} {k s i : Nat} (h : i < T.length) : (rowsN T k s)[i]? = some ((keptN T (if i < s then k + 1 else k)).map fun c => (T.getD i []).getD c 0) := by
  unfold rowsN
  rw [List.getElem?_map, List.getElem?_range h]
  rfl
theorem rowsN_full (T : List (List Int)) (k : Nat) : rowsN T k T.length = rowsN T (k + 1) 0 := by
  unfold rowsN
  refine List.map_congr_left fun i hi => ?_
  rw [if_pos (List.mem_range.1 hi), if_neg (Nat.not_lt_zero _)]
theorem rowsN_no {T : List (List Int)} {k : Nat} (h : begK T k = false) : rowsN T (k + 1) 0 = rowsN T k 0 := by
  unfold rowsN
  refine List.map_congr_left fun i hi => ?_
  rw [if_neg (Nat.not_lt_zero _), if_neg (Nat.not_lt_zero _), keptN_no h]
theorem rowsN_set {T : List (List Int)} {k s : Nat} (h : begK T k = true) (hs : s < T.length) : (rowsN T k s).set s ((keptN T k).map (fun c => (T.getD s []).getD c 0) ++ [(T.getD s []).getD k 0]) = rowsN T k (s + 1) := by
  apply List.ext_getElem?
  intro i
  by_cases hi : i < T.length
  · by_cases he : i = s
    · subst he
      rw [List.getElem?_set_self (by rw [rowsN_len]; exact hs), rowsN_at hi, if_pos (by omega), keptN_yes h]
      simp
    · rw [List.getElem?_set_ne (fun e => he e.symm), rowsN_at hi, rowsN_at hi]
      by_cases h2 : i < s
      · rw [if_pos h2, if_pos (by omega)]
      · rw [if_neg h2, if_neg (by omega)]
  · rw [List.getElem?_eq_none (by rw [List.length_set, rowsN_len]; omega), List.getElem?_eq_none (by rw [rowsN_len]; omega)]
theorem rowsN_zero (T : List (List Int)) : rowsN T 0 0 = List.replicate T.length [] := by
  unfold rowsN keptN
  simp [List.map_const']
theorem rowsN_map (T : List (List Int)) (k : Nat) : rowsN T k 0 = T.map fun r => (keptN T k).map fun c => r.getD c 0 := by
  apply List.ext_getElem?
  intro i
  by_cases hi : i < T.length
  · rw [rowsN_at hi, if_neg (Nat.not_lt_zero _), List.getElem?_map, List.getElem?_eq_getElem hi]
    simp [List.getD_eq_getElem?_getD, List.getElem?_eq_getElem hi]
  · rw [List.getElem?_eq_none (by rw [rowsN_len]; omega), List.getElem?_eq_none (by simp; omega)]
/-- What was merged so far is the merged automaton at the end. -/
theorem mrg_end (cs : List Int) (T : List (List Int)) (bs : List Bool) : mrgA ⟨cs, T, bs⟩ = ⟨(keptN T cs.length).map fun k => cs.getD k 0, rowsN T cs.length 0, bs⟩ := by
  rw [rowsN_map]
  rfl
/-- Does a class begin, by the first rows. -/
def begN (T : List (List Int)) (k s : Nat) : Bool := decide (k = 0) || (T.take s).any fun r => decide (r.getD k 0 ≠ r.getD (k - 1) 0)
theorem begN_full (T : List (List Int)) (k : Nat) : begN T k T.length = begK T k := by unfold begN begK; rw [List.take_length]
theorem begN_zero (T : List (List Int)) (k : Nat) : begN T k 0 = decide (k = 0) := by unfold begN; simp
theorem begN_step {T : List (List Int)} {k s : Nat} {r : List Int} (h : T[s]? = some r) : begN T k (s + 1) = (begN T k s || decide (r.getD k 0 ≠ r.getD (k - 1) 0)) := by
  unfold begN
  rw [List.take_add_one, h, List.any_append]
  simp [Bool.or_assoc]
theorem begN_pos {T : List (List Int)} {k s : Nat} (h : begN T k s = false) : 0 < k := by
  unfold begN at h
  rw [Bool.or_eq_false_iff, decide_eq_false_iff_not] at h
  omega
section
variable {w w' : World} {v v2 : Value}
/-- The box of an automaton and the row of a table, made one after the other. -/
theorem two_made (w : World) (n : Nat) (T T2 : TypeId) : ∃ w1, w1 = ((w.alloc (.cells (List.replicate n (Value.slice none 0 0)).toArray T2)).alloc (.cells #[.slice none 0 0, .slice (some ⟨w.heap.size, 0, none⟩) n n, .slice none 0 0] T)) ∧ Blk w1 w.heap.size (List.replicate n (Value.slice none 0 0)) T2 ∧ Blk w1 (w.heap.size + 1) [.slice none 0 0, .slice (some ⟨w.heap.size, 0, none⟩) n n, .slice none 0 0] T ∧ Upd [] w w1 := by
  have s1 : (w.alloc (.cells (List.replicate n (Value.slice none 0 0)).toArray T2)).heap.size = w.heap.size + 1 := by simp
  have h2 := Blk.new (w.alloc (.cells (List.replicate n (Value.slice none 0 0)).toArray T2)) [.slice none 0 0, .slice (some ⟨w.heap.size, 0, none⟩) n n, .slice none 0 0] T
  rw [s1] at h2
  exact ⟨_, rfl, (Blk.new w (List.replicate n (Value.slice none 0 0)) T2).alloc _, h2, ((Upd.refl [] w).alloc _).alloc _⟩
set_option maxRecDepth 100000 in
set_option maxHeartbeats 16000000 in
theorem Minimal_calls {a : Au} (h : AuV w a v) : Calls Tryz.prog 34 #[v] w fun e w' => ∃ v', e = .returned (.tuple #[v', .int .i64 (vErr a)]) ∧ AuV w' (minE a) v' ∧ Upd [] w w' := by
  obtain ⟨a1, c1, a2, c2, a3, c3, rfl, hF⟩ := h.shape
  clear h
  go_enter Tryz.func34, Tryz.ntmps34
  go_upto_region 1 with fail
  have bA := (Blk.new w [.slice a1 a.cuts.length c1, .slice a2 a.next.length c2, .slice a3 a.acc.length c3] 31).alloc (.cells #[.slice none 0 0, .slice none 0 0, .slice none 0 0] 31)
  have bR := Blk.new (w.alloc (.cells #[.slice a1 a.cuts.length c1, .slice a2 a.next.length c2, .slice a3 a.acc.length c3] 31)) [.slice none 0 0, .slice none 0 0, .slice none 0 0] 31
  have uA := ((Upd.refl [] w).alloc (.cells #[.slice a1 a.cuts.length c1, .slice a2 a.next.length c2, .slice a3 a.acc.length c3] 31)).alloc (.cells #[.slice none 0 0, .slice none 0 0, .slice none 0 0] 31)
  have z1 : (w.alloc (.cells #[.slice a1 a.cuts.length c1, .slice a2 a.next.length c2, .slice a3 a.acc.length c3] 31)).heap.size = w.heap.size + 1 := by simp
  rw [z1] at bR
  change Blk ((w.alloc (.cells #[.slice a1 a.cuts.length c1, .slice a2 a.next.length c2, .slice a3 a.acc.length c3] 31)).alloc (.cells #[.slice none 0 0, .slice none 0 0, .slice none 0 0] 31)) _ _ _ at bA
  change Blk ((w.alloc (.cells #[.slice a1 a.cuts.length c1, .slice a2 a.next.length c2, .slice a3 a.acc.length c3] 31)).alloc (.cells #[.slice none 0 0, .slice none 0 0, .slice none 0 0] 31)) _ _ _ at bR
  change Code.wp _ _ _ _ ((w.alloc (.cells #[.slice a1 a.cuts.length c1, .slice a2 a.next.length c2, .slice a3 a.acc.length c3] 31)).alloc (.cells #[.slice none 0 0, .slice none 0 0, .slice none 0 0] 31))
  generalize ((w.alloc (.cells #[.slice a1 a.cuts.length c1, .slice a2 a.next.length c2, .slice a3 a.acc.length c3] 31)).alloc (.cells #[.slice none 0 0, .slice none 0 0, .slice none 0 0] 31)) = w1 at *
  have HF := Lib.hid (hF.ext uA)
  have HW := Lib.hid (And.intro bR uA)
  have k0 := bA.cell (i := 0) rfl
  have k1 := bA.cell (i := 1) rfl
  have k2 := bA.cell (i := 2) rfl
  clear bA bR uA hF z1
  generalize hpa : w.heap.size = pa at *
  have HPA := Lib.hid (Nat.le_of_eq hpa)
  clear hpa
  have HVA := Lib.hid (Valid_calls (w := w1) (a := a) (v := .agg #[.slice a1 a.cuts.length c1, .slice a2 a.next.length c2, .slice a3 a.acc.length c3]) ⟨_, rfl, HF.out⟩)
  by_cases he : vErr a = 0
  · have HOK := Lib.hid (And.intro (vErr_ok he) he)
    have HME := Lib.hid (show minE a = minA a by unfold minE; rw [if_neg (by simpa using he)])
    rw [he] at HVA
    clear he
    go_upto_region 4 with ((with_reducible refine HVA.out.mono ?_); rintro e w2 ⟨rfl, u2⟩)
    have k0 := u2.some k0 (by simp)
    have k1 := u2.some k1 (by simp)
    have k2 := u2.some k2 (by simp)
    have HU2 := Lib.hid u2
    clear u2
    have HBL := Lib.hid (blocks_calls (w := w2) (a := a) (v := .agg #[.slice a1 a.cuts.length c1, .slice a2 a.next.length c2, .slice a3 a.acc.length c3]) ⟨_, rfl, HF.out.ext HU2.out⟩ HOK.out.1)
    go_upto_region 5 with ((with_reducible refine HBL.out.mono ?_); rintro e w3 ⟨v3, rfl, j3, hj3, o3⟩; obtain ⟨ab3, cb3, rfl, _⟩ := id o3.form; have HO3 := Lib.hid (And.intro hj3 o3); clear o3 hj3)
    have U3 := HO3.out.2.fresh
    have k0 := U3.some k0 (by simp)
    have k1 := U3.some k1 (by simp)
    have k2 := U3.some k2 (by simp)
    have HU3 := Lib.hid (HU2.out.step U3)
    clear U3
    change Code.wp _ _ _ _ (w3.alloc (.cells #[.slice ab3 a.next.length cb3] 22))
    have bB := Blk.new w3 [.slice ab3 a.next.length cb3] 22
    have uB := (Upd.refl [] w3).alloc (.cells #[.slice ab3 a.next.length cb3] 22)
    change Blk (w3.alloc (.cells #[.slice ab3 a.next.length cb3] 22)) _ _ _ at bB
    generalize (w3.alloc (.cells #[.slice ab3 a.next.length cb3] 22)) = w4 at *
    generalize w3.heap.size = bb at *
    have k0 := uB.some k0 (by simp)
    have k1 := uB.some k1 (by simp)
    have k2 := uB.some k2 (by simp)
    have HU4 := Lib.hid (HU3.out.step uB)
    have HNB := Lib.hid (numberI_calls (w := w4) (a := a) (bl := blkS a (j3 + 1)) (ab := pa) (bb := bb) (HF.out.ext HU4.out) HOK.out.1 k1 (bB.cell (i := 0) rfl) (by rw [blkS_len HOK.out.1]; exact HO3.out.2.sl.upd uB (by simp)) (blkS_len HOK.out.1 _) (blkS_lt HOK.out.1 _))
    clear bB uB
    go_upto_region 8 with ((with_reducible refine HNB.out.mono ?_); rintro e w5 ⟨S, T, sv, tv, hu5, rfl, o5, cl5, hl5, hg5, _⟩; obtain ⟨as5, cs5, rfl, _⟩ := id o5.form; obtain ⟨at5, ct5, rfl, _⟩ := id cl5.form)
    have HPR := Lib.hid (min_prog HOK.out.1 (blkS_stb HOK.out.1 HO3.out.1) (fun s t hs ht h => blkS_lang HOK.out.1 _ s t hs ht h) hu5)
    have hlen : (natRows T).length = S.length := by
      have h := (pre_ok HOK.out.1).acc
      rw [HPR.out] at h
      have h2 : (S.map fun s => a.acc.getD s false).length = (natRows T).length := h
      rw [List.length_map] at h2
      exact h2.symm
    have HRW := Lib.hid (show ∀ l ∈ natRows T, l.length = a.cuts.length from fun l hl => by
      have h := (pre_ok HOK.out.1).rows
      rw [HPR.out] at h
      exact (h l hl).1)
    have HMI := Lib.hid (show minE a = ⟨(keptN (natRows T) a.cuts.length).map fun k => a.cuts.getD k 0, rowsN (natRows T) a.cuts.length 0, S.map fun s => a.acc.getD s false⟩ from by
      rw [HME.out, ← mrg_end]
      unfold minA
      rw [HPR.out]
      rfl)
    have HO5 := Lib.hid (And.intro o5 (And.intro cl5 hg5))
    have U5 := o5.fresh
    have k0 := U5.some k0 (by simp)
    have k1 := U5.some k1 (by simp)
    have k2 := U5.some k2 (by simp)
    have HU5 := Lib.hid (HU4.out.step U5)
    have HAS := Lib.hid (show ∀ i, (hi : i < S.length) → (S.map fun s => a.acc.getD s false)[i]? = some (a.acc.getD S[i] false) from fun i hi => by rw [List.getElem?_map, List.getElem?_eq_getElem hi]; rfl)
    have HAL := Lib.hid (show (S.map fun s => a.acc.getD s false).length = S.length by simp)
    clear hu5 o5 cl5 hg5 U5 HNB HO3 HPR
    generalize (S.map fun s => a.acc.getD s false) = AS at *
    generalize natRows T = NT at *
    have HNL := Lib.hid hlen
    have hl5i : ((S.length : Nat) : Int) ≤ 256 := by omega
    go_upto_region 9 with (at_make; refine wpList_mk rfl _ _ _ rfl 22 1 24 _ Tryz.underlying28 infoInts rfl (by decide) .i64 .i64 S.length S.length S.length rfl rfl (by omega) (by omega) (by omega) (by omega) ?_)
    have hrep : (rows S.length fun _ => [Value.slice none 0 0]) = List.replicate S.length (.slice none 0 0) := by rw [rows_one]
    obtain ⟨w6, hw6, bN, bX, u6⟩ := two_made w5 S.length 31 22
    change Code.wp _ _ _ _ ((w5.alloc (.cells (rows S.length fun _ => [Value.slice none 0 0]).toArray 22)).alloc (.cells #[.slice none 0 0, .slice (some ⟨w5.heap.size, 0, none⟩) S.length S.length, .slice none 0 0] 31))
    rw [hrep, ← hw6]
    have HB0 := Lib.hid (SpA.begin (w0 := w5) bX bN hl5 (by omega) (Nat.le_refl _) u6 rfl)
    clear hrep hw6 bN bX u6 hlen
    have hnb5 := Nat.le_refl w5.heap.size
    generalize hnb : w5.heap.size = nb at *
    have HNB5 := Lib.hid hnb
    clear hnb5 hnb
    go_wp2_with fail
    go_loopw [47] (fun kv wr => ∃ (i : Nat) (av : Value), kv = .int .i64 i ∧ i ≤ S.length ∧ Hid (SpA w5 (nb + 1) (.slice none 0 0) (.slice (some ⟨nb, 0, none⟩) S.length S.length) av [] (List.replicate S.length []) (AS.take i) (List.replicate S.length (.slice none 0 0)) wr)) (fun kv _ => S.length - (intOf kv).toNat)
    case atStart => exact ⟨0, _, rfl, Nat.zero_le _, Lib.hid HB0.out⟩
    case round =>
      obtain ⟨i, av, rfl, hi, HI⟩ := hrel
      by_cases hlt : i < S.length
      · have hli : (i : Int) < S.length := by omega
        have hgs := HO5.out.2.2 _ (List.getElem_mem hlt)
        obtain ⟨_, _, hse, _, _, hcell⟩ := id HO5.out.1.form
        cases hse
        obtain ⟨g5, rfl, hcell2⟩ := hcell (by omega) (by decide)
        have e0 := HI.out.u.some (hcell2 i (.int .i64 (S[i] : Nat)) (by simp [ints, List.getElem?_map, List.getElem?_eq_getElem hlt])) (by simp)
        obtain ⟨ga, oa3, he3, hac⟩ := (HF.out.ext HU5.out).acc (i := S[i]) (by rw [HOK.out.1.acc]; exact hgs)
        cases he3
        have ac := HI.out.u.some hac (by simp)
        have k2 := HI.out.u.some k2 (by simp)
        have q2 := HI.out.bx.cell (i := 2) rfl
        have hsa : (S[i] : Int) < a.acc.length := by have := HOK.out.1.acc; omega
        obtain ⟨BS, hBB⟩ : ∃ BS, AS.take i = BS := ⟨_, rfl⟩
        have HBS := Lib.hid (show AS.take (i + 1) = BS ++ [a.acc.getD S[i] false] ∧ BS.length = i from by
          rw [← hBB, List.take_add_one, HAS.out i hlt]
          exact ⟨rfl, by rw [List.length_take, HAL.out]; omega⟩)
        rw [hBB] at HI
        clear hcell hcell2 hac hgs hBB
        generalize a.acc.getD S[i] false = bi at *
        generalize S[i] = s at *
        go_upto_region 12 with fail
        refine wp_region_ord 8 4 [0, 1, 2, 3, 4, 5, 6, 9] [1, 3, 6] [0, 1, 2, 3, 4, 5, 6, 7, 8, 9, 10] (fun w' => ∃ x : Ext wr, w' = x.val) (by kernel_rfl) (by kernel_rfl) (Ext.of (by iterate 25 (first | exact Upd.refl _ _ | assumption | refine Upd.alloc ?_ _ | refine Upd.drew ?_ | refine Upd.drewN ?_ _ | refine Upd.dl ?_ | refine Upd.step ?_ (Ext.upd _) | refine Upd.nil ?_ | skip))) ?_
        repeat (first | (refine wpOrd_load rfl rfl rfl rfl (fun K hK => ?_); go_big_quiet_step (fail); refine wpQuiet_nil ?_; refine hK _ ?_; clear hK K) | (refine wpOrd_free rfl rfl rfl (fun K hK => ?_); go_big_quiet_step (fail); refine wpQuiet_nil ?_; refine hK _ ?_; clear hK K))
        refine wpOrd_fix rfl rfl (fun K hK => ?_)
        go_wp2_with fail
        have HNB3 := Lib.hid (show Blk ((wr.alloc (.cells #[.bool bi] 4)).drew) wr.heap.size [.bool bi] 4 ∧ Upd [] wr ((wr.alloc (.cells #[.bool bi] 4)).drew) from ⟨Blk.new wr [.bool bi] 4, (by iterate 25 (first | exact Upd.refl _ _ | assumption | refine Upd.alloc ?_ _ | refine Upd.drew ?_ | refine Upd.drewN ?_ _ | refine Upd.dl ?_ | refine Upd.step ?_ (Ext.upd _) | refine Upd.nil ?_ | skip))⟩)
        have HGB := Lib.hid (Nat.le_refl wr.heap.size)
        generalize ((wr.alloc (.cells #[.bool bi] 4)).drew) = wB at *
        generalize wr.heap.size = gB at HNB3 HGB ⊢
        have HIB := Lib.hid (HI.out.quiet HNB3.out.2)
        have hbl : BS.length ≤ 256 := by have := HBS.out.2; omega
        refine ⟨fun _ => Ext.of HNB3.out.2, ?_⟩
        repeat (first | (refine wpOrd_load rfl rfl rfl rfl (fun K hK => ?_); go_big_quiet_step (fail); refine wpQuiet_nil ?_; refine hK _ ?_; clear hK K) | (refine wpOrd_free rfl rfl rfl (fun K hK => ?_); go_big_quiet_step (fail); refine wpQuiet_nil ?_; refine hK _ ?_; clear hK K))
        refine wpOrd_fix rfl rfl (fun K hK => ?_)
        refine wpList_app rfl _ _ _ rfl 4 1 1 _ Tryz.underlying29 infoBool rfl (by decide) av _ _ rfl HIB.out.ac gB 1 1 [.bool bi] 4 rfl rfl HNB3.out.1 (by simp [Value.oneCell']) (by omega) (by unfold maxLen; omega) (by omega) ?_
        intro g7 c7 w7 o7 u7 k7
        simp only [Act.put, List.setIfInBounds_toArray, List.set_cons_zero, List.set_cons_succ]
        have bx7 := HIB.out.bx.upd u7 (fun hm => own_bne HIB.out.ac HIB.out.bx (by decide) (g := nb + 1) (by simpa using hm) rfl)
        have q2' := bx7.cell (i := 2) rfl
        have f2' : ∀ q, w7.frozen? ⟨nb + 1, q, none⟩ = false := bx7.free
        have H7 := Lib.hid (And.intro o7 (And.intro u7 k7))
        clear o7 u7 k7 bx7 q2
        go_wp2_with fail
        refine ⟨fun hC => absurd hC (by decide), ?_⟩
        repeat (first | (refine wpOrd_load rfl rfl rfl rfl (fun K hK => ?_); go_big_quiet_step (fail); refine wpQuiet_nil ?_; refine hK _ ?_; clear hK K) | (refine wpOrd_free rfl rfl rfl (fun K hK => ?_); go_big_quiet_step (fail); refine wpQuiet_nil ?_; refine hK _ ?_; clear hK K))
        refine wpOrd_fix rfl rfl (fun K hK => ?_)
        go_wp2_with fail
        refine ⟨fun hC => absurd hC (by decide), ?_⟩
        refine wpOrd_nil ?_
        go_wp2_with fail
        have hset := HIB.out.setAcc (av' := .slice (some ⟨g7, 0, none⟩) (BS.length + 1) c7) (bs' := BS ++ [bi]) (w1 := w7) (by rw [show (BS ++ [bi]).length = BS.length + 1 by simp, show bools (BS ++ [bi]) = bools BS ++ [.bool bi] by simp [bools]]; exact H7.out.1) H7.out.2.1 (fun q hq => by
          simp only [Value.ownBlock, Option.some.injEq] at hq
          subst hq
          exact H7.out.2.2.imp id fun h => by omega)
        exact ⟨⟨i + 1, _, by go_num, by omega, Lib.hid (by rw [HBS.out.1]; exact hset)⟩, by simp [intOf]; omega⟩
      · have hie : i = S.length := by omega
        subst hie
        rw [List.take_of_length_le (Nat.le_of_eq HAL.out)] at HI
        have hni : ¬ ((S.length : Int) < S.length) := by omega
        have k0' := HI.out.u.some k0 (by simp)
        obtain ⟨wo, rfl⟩ : ∃ wo : World, wo = wr := ⟨_, rfl⟩
        have HK := Lib.hid (And.intro k0 (And.intro k1 k2))
        clear k0 k1 k2
        have HIX0 := HI
        go_wp2_with fail
        go_loopw [65] (fun kv wr => ∃ (k : Nat) (cv : Value) (rvs : List Value), kv = .int .i64 k ∧ k ≤ a.cuts.length ∧ Hid (SpA w5 (nb + 1) cv (.slice (some ⟨nb, 0, none⟩) S.length S.length) av ((keptN NT k).map fun c => a.cuts.getD c 0) (rowsN NT k 0) AS rvs wr)) (fun kv _ => a.cuts.length - (intOf kv).toNat)
        case atStart => exact ⟨0, _, _, rfl, Nat.zero_le _, Lib.hid (by rw [rowsN_zero, HNL.out]; exact HI.out)⟩
        case round =>
          clear HI HIX0 k0'
          obtain ⟨k, cv, rvs, rfl, hk, HI⟩ := hrel
          by_cases hlk : k < a.cuts.length
          · have hki : (k : Int) < a.cuts.length := by omega
            have hkb : (k : Int) ≤ 256 := by have := cuts_len HOK.out.1; omega
            obtain ⟨gC, oC, heC, hcC⟩ := (HF.out.ext HU5.out).cuts hlk
            cases heC
            have cC := HI.out.u.some hcC (by simp)
            obtain ⟨kz, hkz⟩ : ∃ kz : Bool, ((k : Int) == 0) = kz := ⟨_, rfl⟩
            have HKZ := Lib.hid (show kz = decide (k = 0) from by
              rw [← hkz, Bool.eq_iff_iff]
              simp)
            generalize hcq : a.cuts.getD k 0 = cq at *
            have HCQ := Lib.hid hcq
            clear hcq hcC
            obtain ⟨wx, rfl⟩ : ∃ wx : World, wx = wr := ⟨_, rfl⟩
            go_wp2_with fail
            go_loopw [14, 74] (fun bv sv wr => ∃ (s : Nat) (bg : Bool), bv = .bool bg ∧ sv = .int .i64 s ∧ s ≤ NT.length ∧ Hid (bg = begN NT k s) ∧ ∃ x : Ext wx, wr = x.val) (fun _ sv _ => NT.length - (intOf sv).toNat)
            case atStart => exact ⟨0, kz, rfl, rfl, Nat.zero_le _, Lib.hid (by rw [begN_zero]; exact HKZ.out), Ext.of (by iterate 25 (first | exact Upd.refl _ _ | assumption | refine Upd.alloc ?_ _ | refine Upd.drew ?_ | refine Upd.drewN ?_ _ | refine Upd.dl ?_ | refine Upd.step ?_ (Ext.upd _) | refine Upd.nil ?_ | skip))⟩
            case round =>
              obtain ⟨s, bg, rfl, rfl, hs, HBG, x, rfl⟩ := hrel
              have HX := Lib.hid x.upd
              generalize x.val = wq at *
              by_cases hls : s < NT.length
              · have hsi : (s : Int) < NT.length := by omega
                have hsi2 : (s : Int) < S.length := by have := HNL.out; omega
                have HBS := Lib.hid (begN_step (k := k) (List.getElem?_eq_getElem hls))
                have hrs := List.getElem?_eq_getElem hls
                have hrl := HRW.out _ (List.getElem_mem hls)
                obtain ⟨_, _, hte, _, _, hcell⟩ := HO5.out.2.1.form
                cases hte
                obtain ⟨g6, o6, ar, cr, he6, hc6, hsl6, hcr1, hcr2⟩ := hcell s hls
                cases he6
                have hgd : NT.getD s [] = NT[s] := by rw [List.getD_eq_getElem?_getD, hrs]; rfl
                rw [hgd] at hc6 hsl6 hcr1
                have r0 := HX.out.some (HI.out.u.some hc6 (by simp)) (by simp)
                obtain ⟨ra, rc, hre, _, _, hce⟩ := hsl6.elems
                cases hre
                obtain ⟨rg, ro, rfl, kk⟩ := hce (by omega)
                have r1 := HX.out.some (HI.out.u.some (kk k _ (ints_get (gd_some (d := 0) (by omega)))) (by simp)) (by simp)
                have hkr : (k : Int) < NT[s].length := by omega
                cases bg with
                | true =>
                  clear r1 kk hce hcell hc6 hsl6 hrs hgd
                  generalize NT[s] = row at *
                  go_upto_region 21 with fail
                  refine wp_region_qx (by kernel_rfl) (by kernel_rfl) ?_
                  repeat (go_big_quiet_step ((fail)))
                  refine wpQuiet_nil ?_
                  intro x
                  have HX2 := Lib.hid (HX.out.step x.upd)
                  generalize x.val = wz at *
                  clear r0 cC
                  go_wp2_with fail
                  exact ⟨⟨s + 1, true, rfl, by go_num, by omega, Lib.hid (by rw [HBS.out, ← HBG.out]; rfl), Ext.of HX2.out⟩, by simp [intOf]; omega⟩
                | false =>
                  have hk0 := begN_pos HBG.out.symm
                  have r2 := HX.out.some (HI.out.u.some (kk (k - 1) _ (ints_get (gd_some (d := 0) (by omega)))) (by simp)) (by simp)
                  have hA : (0 : Int) ≤ (k : Int) - 1 := by omega
                  have hB : (k : Int) - 1 < NT[s].length := by omega
                  have hT : ((k : Int) - 1).toNat = k - 1 := by omega
                  obtain ⟨ne, hne⟩ : ∃ ne : Bool, (NT[s].getD k 0 != NT[s].getD (k - 1) 0) = ne := ⟨_, rfl⟩
                  have HNE := Lib.hid (show ne = decide (NT[s].getD k 0 ≠ NT[s].getD (k - 1) 0) from by
                    rw [← hne, Bool.eq_iff_iff]
                    simp)
                  rw [← HNE.out] at HBS
                  clear kk hce hcell hc6 hsl6 hrs hgd HNE
                  generalize NT[s].getD k 0 = zx at *
                  generalize NT[s].getD (k - 1) 0 = zy at *
                  generalize NT[s] = row at *
                  go_upto_region 21 with fail
                  refine wp_region_qx (by kernel_rfl) (by kernel_rfl) ?_
                  repeat (go_big_quiet_step ((fail)))
                  refine wpQuiet_nil ?_
                  intro x
                  have HX2 := Lib.hid (HX.out.step x.upd)
                  generalize x.val = wz at *
                  clear r0 r1 r2 cC
                  go_wp2_with fail
                  exact ⟨⟨s + 1, ne, rfl, by go_num, by omega, Lib.hid (by rw [HBS.out, ← HBG.out]; rfl), Ext.of HX2.out⟩, by simp [intOf]; omega⟩
              · have hse : s = NT.length := by omega
                subst hse
                rw [begN_full] at HBG
                have hns : ¬ ((NT.length : Int) < S.length) := by have := HNL.out; omega
                have HIX := Lib.hid (HI.out.quiet HX.out)
                clear cC
                cases bg with
                | false =>
                  go_wp2_with fail
                  exact ⟨⟨k + 1, cv, rvs, by go_num, by omega, Lib.hid (by rw [keptN_no HBG.out.symm, rowsN_no HBG.out.symm]; exact HIX.out)⟩, by simp [intOf]; omega⟩
                | true =>
                  have HKN := keptN_le NT k
                  obtain ⟨CS, hCS⟩ : ∃ CS, ((keptN NT k).map fun c => a.cuts.getD c 0) = CS := ⟨_, rfl⟩
                  have hcl : CS.length ≤ 1000 := by rw [← hCS, List.length_map]; have := cuts_len HOK.out.1; omega
                  have HCS := Lib.hid (show ((keptN NT (k + 1)).map fun c => a.cuts.getD c 0) = CS ++ [cq] from by rw [keptN_yes HBG.out.symm, List.map_append, hCS, ← HCQ.out]; rfl)
                  rw [hCS] at HIX HI
                  clear hCS
                  have q0 := HIX.out.bx.cell (i := 0) rfl
                  go_upto_region 25 with (refine wpList_push rfl rfl _ _ _ _ rfl rfl rfl 3 1 8 _ Tryz.underlying22 infoInt rfl (by decide) (by decide) (.int .i64 cq) [.int .i64 cq] rfl rfl rfl (by simp [Value.oneCell']) cv _ _ HIX.out.cu rfl rfl (by unfold maxLen; omega) (by omega) ?_; intro g7 c7 w7 o7 u7 k7; have bx7 := HIX.out.bx.upd u7 (fun hm => own_bne HIX.out.cu HIX.out.bx (by decide) (g := nb + 1) (by simpa using hm) rfl); have p1 := bx7.cell (i := 0) rfl; have pf : ∀ q, w7.frozen? ⟨nb + 1, q, none⟩ = false := bx7.free; have HO7 := Lib.hid (And.intro o7 (And.intro u7 k7)); clear o7 u7 k7 bx7)
                  have HSC := Lib.hid (HIX.out.setCut (cv' := .slice (some ⟨g7, 0, none⟩) (CS.length + 1) c7) (cs' := CS ++ [cq]) (w1 := w7) (by rw [show (CS ++ [cq]).length = CS.length + 1 by simp, show ints (CS ++ [cq]) = ints CS ++ [.int .i64 cq] by simp [ints]]; exact HO7.out.1) HO7.out.2.1 (fun q hq => by
                    simp only [Value.ownBlock, Option.some.injEq] at hq
                    subst hq
                    exact HO7.out.2.2))
                  generalize (w7.setCell ⟨nb + 1, 0, none⟩ (.slice (some ⟨g7, 0, none⟩) (CS.length + 1) c7)) = w8 at *
                  clear p1 pf q0 hns HO7 HIX
                  go_wp2_with fail
                  go_loopw [102] (fun sv wr => ∃ (s : Nat) (rvs : List Value), sv = .int .i64 s ∧ s ≤ NT.length ∧ Hid (SpA w5 (nb + 1) (.slice (some ⟨g7, 0, none⟩) (CS.length + 1) c7) (.slice (some ⟨nb, 0, none⟩) S.length S.length) av (CS ++ [cq]) (rowsN NT k s) AS rvs wr)) (fun sv _ => NT.length - (intOf sv).toNat)
                  case atStart => exact ⟨0, rvs, rfl, Nat.zero_le _, Lib.hid HSC.out⟩
                  case round =>
                    clear HI hs
                    obtain ⟨s, rvs2, rfl, hs, HJ⟩ := hrel
                    by_cases hls : s < NT.length
                    · have hsi : (s : Int) < NT.length := by omega
                      have hsi2 : (s : Int) < S.length := by have := HNL.out; omega
                      have hrs := List.getElem?_eq_getElem hls
                      have hrl := HRW.out _ (List.getElem_mem hls)
                      obtain ⟨_, _, hte, _, _, hcell⟩ := HO5.out.2.1.form
                      cases hte
                      obtain ⟨g6, o6, ar, cr, he6, hc6, hsl6, hcr1, hcr2⟩ := hcell s hls
                      cases he6
                      have hgd : NT.getD s [] = NT[s] := by rw [List.getD_eq_getElem?_getD, hrs]; rfl
                      rw [hgd] at hc6 hsl6 hcr1
                      have r0 := HJ.out.u.some hc6 (by simp)
                      obtain ⟨ra, rc, hre, _, _, hce⟩ := hsl6.elems
                      cases hre
                      obtain ⟨rg, ro, rfl, kk⟩ := hce (by omega)
                      have hrk := kk k _ (ints_get (gd_some (d := 0) (by omega)))
                      have r1 := HJ.out.u.some hrk (by simp)
                      have hkr : (k : Int) < NT[s].length := by omega
                      have hrt := rowsN_at (k := k) (s := s) hls
                      rw [if_neg (Nat.lt_irrefl s), hgd] at hrt
                      have HST := Lib.hid (rowsN_set (k := k) (s := s) HBG.out.symm hls)
                      rw [hgd] at HST
                      obtain ⟨C0, hC0⟩ : ∃ C0, ((keptN NT k).map fun c => NT[s].getD c 0) = C0 := ⟨_, rfl⟩
                      have hcl0 : C0.length ≤ 1000 := by rw [← hC0, List.length_map]; have := cuts_len HOK.out.1; omega
                      rw [hC0] at hrt HST
                      obtain ⟨y, hy, hyo⟩ := HJ.out.val hrt
                      have q1 := HJ.out.bx.cell (i := 1) rfl
                      have t0 := HJ.out.tcell hy
                      have hrb : rg < w5.heap.size := World.block_lt_of_cell? _ _ hrk
                      have HY := Lib.hid (And.intro hrt (And.intro hy (And.intro hyo (And.intro r1 hrb))))
                      clear hcell hc6 hsl6 hce kk hrk hrt hrs hC0 hyo hrb hgd
                      obtain ⟨ya, yc, rfl, _⟩ := id (SL.of_owns HY.out.2.2.1).elems
                      generalize NT[s].getD k 0 = z at *
                      generalize NT[s] = row at *
                      go_upto_region 28 with fail
                      refine wp_region_ord 15 1 [0, 1, 2, 3, 4, 5, 6, 7, 8, 9, 10, 11, 14] [1, 4, 7, 11] [0, 1, 2, 3, 4, 5, 6, 7, 8, 9, 10, 11, 12, 13, 14, 15] (fun w' => ∃ x : Tri ⟨nb + 1, 1, none⟩ ⟨nb, s, none⟩ ⟨rg, ro + k, none⟩ (.slice (some ⟨nb, 0, none⟩) S.length S.length) (.slice ya C0.length yc) (.int .i64 z), w' = x.val) (by kernel_rfl) (by kernel_rfl) (Tri.of q1 t0 r1) ?_
                      repeat (first | (refine wpOrd_load rfl rfl rfl rfl (fun K hK => ?_); go_big_quiet_step (exact rfl); refine wpQuiet_nil ?_; refine hK _ ?_; clear hK K) | (refine wpOrd_free rfl rfl rfl (fun K hK => ?_); go_big_quiet_step (fail); refine wpQuiet_nil ?_; refine hK _ ?_; clear hK K))
                      refine wpOrd_fix rfl rfl (fun K hK => ?_)
                      go_wp2_with fail
                      have HNB3 := Lib.hid (show Blk ((wr.alloc (.cells #[.int .i64 z] 3)).drew) wr.heap.size [.int .i64 z] 3 ∧ Upd [] wr ((wr.alloc (.cells #[.int .i64 z] 3)).drew) from ⟨Blk.new wr [.int .i64 z] 3, (by iterate 25 (first | exact Upd.refl _ _ | assumption | refine Upd.alloc ?_ _ | refine Upd.drew ?_ | refine Upd.drewN ?_ _ | refine Upd.dl ?_ | refine Upd.step ?_ (Ext.upd _) | refine Upd.nil ?_ | skip))⟩)
                      have HGB := Lib.hid (Nat.le_refl wr.heap.size)
                      generalize ((wr.alloc (.cells #[.int .i64 z] 3)).drew) = wB at *
                      generalize wr.heap.size = gB at HNB3 HGB ⊢
                      have HIB := Lib.hid (HJ.out.quiet HNB3.out.2)
                      have q1 := HNB3.out.2.some q1 (by simp)
                      have t0 := HNB3.out.2.some t0 (by simp)
                      have r1 := HNB3.out.2.some r1 (by simp)
                      have HYB := Lib.hid (ownsRow_updL HY.out.2.2.1 HNB3.out.2 (by simp))
                      refine ⟨fun _ => Tri.of q1 t0 r1, ?_⟩
                      repeat (first | (refine wpOrd_load rfl rfl rfl rfl (fun K hK => ?_); go_big_quiet_step (exact rfl); refine wpQuiet_nil ?_; refine hK _ ?_; clear hK K) | (refine wpOrd_free rfl rfl rfl (fun K hK => ?_); go_big_quiet_step (fail); refine wpQuiet_nil ?_; refine hK _ ?_; clear hK K))
                      refine wpOrd_fix rfl rfl (fun K hK => ?_)
                      refine wpList_app rfl _ _ _ rfl 3 1 8 _ Tryz.underlying22 infoInt rfl (by decide) (.slice ya C0.length yc) _ _ rfl HYB.out gB 1 1 [.int .i64 z] 3 rfl rfl HNB3.out.1 (by simp [Value.oneCell']) (by omega) (by unfold maxLen; omega) (by omega) ?_
                      intro g9 c9 w9 o9 u9 k9
                      simp only [Act.put, List.setIfInBounds_toArray, List.set_cons_zero, List.set_cons_succ]
                      have bx9 := HIB.out.bx.upd u9 (fun hm => own_bne HYB.out HIB.out.bx (by decide) (g := nb + 1) (by simpa using hm) rfl)
                      have htbN : wB.ownsRow 0 22 1 (.slice (some ⟨nb, 0, none⟩) S.length S.length) S.length rvs2 := by have h1 := HIB.out.tb; rwa [rowsN_len, HNL.out] at h1
                      obtain ⟨pad9, hbn9, _⟩ := own_blk (ownsRow_updL htbN u9 (fun b hb hq => own_ne HIB.out.tb HYB.out (by decide) hq (by simpa using hb)))
                      have q1' := bx9.cell (i := 1) rfl
                      have t0' := u9.some t0 (fun hm => own_ne HIB.out.tb HYB.out (by decide) (g := nb) rfl (by simpa using hm))
                      have r1' := u9.some r1 (fun hm => by have h1 := HIB.out.nw.2.2.2.2 s _ _ HY.out.2.1 (by simpa using hm); have h2 := HY.out.2.2.2.2; (try simp only at h1); omega)
                      have f1' : ∀ q, w9.frozen? ⟨nb, q, none⟩ = false := hbn9.free
                      have H9 := Lib.hid (And.intro o9 (And.intro u9 k9))
                      clear o9 u9 k9 bx9 hbn9 q1 t0 r1 htbN
                      go_wp2_with fail
                      refine ⟨fun _ => Tri.of q1' t0' r1', ?_⟩
                      repeat (first | (refine wpOrd_load rfl rfl rfl rfl (fun K hK => ?_); go_big_quiet_step (exact rfl); refine wpQuiet_nil ?_; refine hK _ ?_; clear hK K) | (refine wpOrd_free rfl rfl rfl (fun K hK => ?_); go_big_quiet_step (fail); refine wpQuiet_nil ?_; refine hK _ ?_; clear hK K))
                      refine wpOrd_fix rfl rfl (fun K hK => ?_)
                      go_wp2_with fail
                      refine ⟨fun hC => absurd hC (by decide), ?_⟩
                      refine wpOrd_nil ?_
                      go_wp2_with fail
                      have hpu := HIB.out.rowPushN (y' := .slice (some ⟨g9, 0, none⟩) (C0.length + 1) c9) (z := z) (w1 := w9) (by rw [rowsN_len, HNL.out]) HY.out.1 HY.out.2.1 H9.out.1 H9.out.2.1 (fun q hq => by
                        simp only [Value.ownBlock, Option.some.injEq] at hq
                        subst hq
                        exact H9.out.2.2.imp id fun h => by omega)
                      rw [HST.out] at hpu
                      exact ⟨⟨s + 1, _, by go_num, by omega, Lib.hid hpu⟩, by simp [intOf]; omega⟩
                    · have hse : s = NT.length := by omega
                      subst hse
                      have hns : ¬ ((NT.length : Int) < S.length) := by have := HNL.out; omega
                      go_wp2_with fail
                      exact ⟨⟨k + 1, _, rvs2, by go_num, by omega, Lib.hid (by rw [HCS.out, ← rowsN_full]; exact HJ.out)⟩, by simp [intOf]; omega⟩
          · have hke : k = a.cuts.length := by omega
            subst hke
            generalize ((keptN NT a.cuts.length).map fun c => a.cuts.getD c 0) = CS at *
            generalize hRS : rowsN NT a.cuts.length 0 = RS at *
            have hni : ¬ ((a.cuts.length : Int) < a.cuts.length) := by omega
            obtain ⟨ca', cc', rfl, _⟩ := id (SL.of_owns HI.out.cu).elems
            obtain ⟨aa', ac', rfl, _⟩ := id (SL.of_owns HI.out.ac).elems
            have q0 := HI.out.bx.cell (i := 0) rfl
            have q1 := HI.out.bx.cell (i := 1) rfl
            have q2 := HI.out.bx.cell (i := 2) rfl
            have bR := HW.out.1.upd (HU5.out.step HI.out.u) (by simp)
            have r0 := bR.cell (i := 0) rfl
            have r1 := bR.cell (i := 1) rfl
            have r2 := bR.cell (i := 2) rfl
            have rf : ∀ q, wr.frozen? ⟨pa + 1, q, none⟩ = false := bR.free
            have HBR := Lib.hid bR
            clear bR hRS
            go_wp2_with fail
            have hs3 := cell3_set (a := .slice ca' CS.length cc') (b := .slice (some ⟨nb, 0, none⟩) S.length S.length) (c := .slice aa' AS.length ac') HBR.out
            have hf := HI.out.fin hs3.2 (fun b hb => by
              simp at hb
              subst hb
              have h1 := HW.out.1.lt
              have h2 := HU5.out.size
              omega)
            rw [HMI.out, HOK.out.2]
            exact ret_au2 rfl rfl rfl hs3.1 rfl hf ((HW.out.2.step (HU5.out.step HI.out.u)).fresh hs3.2 (fun b hb => .inr (by simp at hb; subst hb; have := HPA.out; omega)))
  · have hbb : (vErr a != 0) = true := by simpa using he
    have HE := Lib.hid (show minE a = noA by unfold minE; rw [if_pos he])
    clear he
    generalize her : vErr a = er at HVA hbb
    have HER := Lib.hid her
    clear her
    go_wp2_with ((with_reducible refine HVA.out.mono ?_); rintro e w2 ⟨rfl, u2⟩; have bR := HW.out.1.upd u2 (by simp); have r0 := bR.cell (i := 0) rfl; have r1 := bR.cell (i := 1) rfl; have r2 := bR.cell (i := 2) rfl; have rf : ∀ q, w2.frozen? ⟨pa + 1, q, none⟩ = false := bR.free; have HBR := Lib.hid (And.intro bR u2); clear bR u2)
    have hs := cell3_set (a := .slice none 0 0) (b := .slice none 0 0) (c := .slice none 0 0) HBR.out.1
    rw [HE.out, HER.out]
    exact ret_au2 rfl rfl rfl hs.1 rfl noA_F ((HW.out.2.step HBR.out.2).fresh hs.2 (fun c hc => .inr (by simp at hc; subst hc; have := HPA.out; omega)))
end
end Aut
end Go.Proofs.YtjclbjdkkdijbaaGreat
end
section
open Go.RowKit
namespace Go.Proofs.YtjclbjdkkdijbaaGreat
open L
namespace Aut
open Auto
attribute [-go_sem] sliced
section
variable {w w' : World} {v v2 : Value} {a b : Au}
theorem minE_ok (oa : Ok a) : minE a = minA a := by unfold minE; rw [if_neg (by simp [oa.v])]
theorem MinOk_calls (oa : Ok a) (h : AuV w a v) : Calls Tryz.prog 34 #[v] w fun e w' => ∃ v', e = .returned (.tuple #[v', .int .i64 0]) ∧ AuV w' (minA a) v' ∧ Upd [] w w' := by
  have h1 := Minimal_calls h
  rwa [oa.v, minE_ok oa] at h1
theorem CompOk_calls (oa : Ok a) (h : AuV w a v) : Calls Tryz.prog 36 #[v] w fun e w' => ∃ v', e = .returned (.tuple #[v', .int .i64 0]) ∧ AuV w' (compA a) v' ∧ Upd [] w w' := by
  have h1 := Complement_calls h
  rwa [oa.v] at h1
theorem BothOk_calls (oa : Ok a) (ob : Ok b) (hf : a.next.length * b.next.length ≤ 256) (o : Bool) (ha : AuV w a v) (hb : AuV w b v2) : Calls Tryz.prog 38 #[v, v2, .bool o] w fun e w' => ∃ v', e = .returned (.tuple #[v', .int .i64 0]) ∧ AuV w' (bothA a b o) v' ∧ Upd [] w w' := by
  have h1 := Both_calls o ha hb
  rwa [(bothA_eq oa ob hf o).1] at h1
theorem AccOk_calls (oa : Ok a) (h : AuV w a v) (s : ByteArray) (hs : s.size ≤ 9223372036854775807) : Calls Tryz.prog 32 #[v, .string s] w fun e w' => e = .returned (.tuple #[.bool (accN a s), .int .i64 0]) ∧ Upd [] w w' := by
  have h1 := Accepts_calls h s hs
  rwa [oa.v] at h1
theorem LeastOk_calls (oa : Ok a) (h : AuV w a v) : Calls Tryz.prog 21 #[v] w fun e w' => e = .returned (.tuple #[.string (lstS a), .bool (lstB a), .int .i64 0]) ∧ Upd [] w w' := by
  have h1 := Least_calls h
  rwa [oa.v] at h1
theorem min_again (oa : Ok a) : minA (minA a) = minA a := min_canon (min_ok oa) oa fun w hw => min_lang oa hw
/-- Plain copies of two automata, compared. -/
theorem SameV_calls {x : Bool} (hx : x = true ↔ a = b) (ha : AuV w a v) (hb : AuV w b v2) : Calls Tryz.prog 16 #[v, v2] w fun e w' => e = .returned (.bool x) ∧ Upd [] w w' := by
  refine (SameA_calls ha hb).mono ?_
  rintro e w2 ⟨y, rfl, hy, u⟩
  have : y = x := by
    rw [Bool.eq_iff_iff, hy, hx]
  subst this
  exact ⟨rfl, u⟩
end
end Aut
end Go.Proofs.YtjclbjdkkdijbaaGreat
end
