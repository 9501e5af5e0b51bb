/- Walks through the laws of learning: LearnAnalyzes. Conditions: none. -/
import Derived.Test.YtdhhohnaehdpkaaLearnN
import Derived.Test.YtdhhohnaehdpkaaLearnU
set_option linter.unusedVariables false
set_option linter.unusedSimpArgs false
set_option linter.unusedSectionVars false
open Go.RowKit
namespace Go.Proofs.Ytdhhohnaehdpkaa
open L
namespace Learn
open Trail Cla R01 R14
theorem CL.one {w : World} {vals : List Value} {L : List (List Int)} (hl : vals.length = L.length) (h : ∀ (i : Nat) (c : List Int), L[i]? = some c → ∃ y, vals[i]? = some y ∧ SL w 1 y c.length (ints c)) : ∀ u ∈ vals, u.oneCell' = true := by
  intro u hu
  obtain ⟨i, hi, rfl⟩ := List.getElem_of_mem hu
  obtain ⟨y, hy, hs⟩ := h i _ (List.getElem?_eq_getElem (by omega))
  rw [List.getElem?_eq_getElem hi] at hy
  cases hy
  obtain ⟨_, _, _, he, _⟩ := hs
  rw [he]
  rfl
/-- A row of slices of one's own, one of which gets another value. -/
theorem cl_set {w : World} {g cap k : Nat} {cu vals : List Value} {L : List (List Int)} {y : Value} {c : List Int} (hb : Blk w g (cu.set k y) 22) (htk : cu.take L.length = vals) (hcl : L.length ≤ cu.length) (hl : vals.length = L.length) (hc : L.length ≤ cap) (hm : cap ≤ maxLen) (hk : k < L.length)
    (h : ∀ (i : Nat) (c : List Int), L[i]? = some c → ∃ y, vals[i]? = some y ∧ SL w 1 y c.length (ints c)) (hy : SL w 1 y c.length (ints c)) :
    Go.Proofs.Ytdhhohnaehdpkaa.L.CL w (.slice (some ⟨g, 0, none⟩) L.length cap) (L.set k c) := by
  have ht : (cu.set k y).take L.length = vals.set k y := by rw [← htk, List.take_set]
  refine ⟨vals.set k y, by simp [hl], ?_, fun i d hd => ?_⟩
  · rw [List.length_set, ← ht]
    exact SL.of_blk (pad := (cu.set k y).drop L.length) (by rw [List.take_append_drop]; exact hb) (by rw [List.length_take, List.length_set]; omega) hc hm
  · rw [List.getElem?_set] at hd ⊢
    by_cases e : k = i
    · subst e
      rw [if_pos rfl, if_pos hk] at hd
      rw [if_pos rfl, if_pos (by omega)]
      cases hd
      exact ⟨y, rfl, hy⟩
    · rw [if_neg e] at hd ⊢
      exact h i d hd
theorem rows_set {f : Nat → List Value} {k i j : Nat} {u : Value} (hf : ∀ i, (f i).length = k) (hj : j < k) {n : Nat} (hi : i < n) : (rows n f).set (i * k + j) u = rows n (fun m => if m = i then (f i).set j u else f m) := by
  have hf' : ∀ m, ((fun m => if m = i then (f i).set j u else f m) m).length = k := fun m => by
    by_cases h : m = i
    · simp [h, hf]
    · simp [h, hf]
  apply List.ext_getElem?
  intro q
  have hk : 0 < k := by omega
  by_cases hq : q < n * k
  · have hqi : q / k < n := (Nat.div_lt_iff_lt_mul hk).2 hq
    have hqj : q % k < k := Nat.mod_lt _ hk
    have e : q = q / k * k + q % k := by rw [Nat.mul_comm]; exact (Nat.div_add_mod q k).symm
    have hA := rows_get hf' (j := q % k) hqj (n := n) hqi
    rw [← e] at hA
    have hC := rows_get hf (j := q % k) hqj (n := n) hqi
    rw [← e] at hC
    rw [List.getElem?_set, hA]
    by_cases h1 : i * k + j = q
    · have h2 : q / k = i := by rw [← h1, Nat.mul_comm, Nat.mul_add_div hk, Nat.div_eq_of_lt hj, Nat.add_zero]
      have h3 : q % k = j := by rw [← h1, Nat.mul_comm, Nat.mul_add_mod, Nat.mod_eq_of_lt hj]
      rw [if_pos h1, if_pos (by rw [rows_length hf, h1]; exact hq)]
      show some u = (if q / k = i then (f i).set j u else f (q / k))[q % k]?
      rw [if_pos h2, h3, List.getElem?_set]
      simp [hf, hj]
    · rw [if_neg h1]
      rw [hC]
      show (f (q / k))[q % k]? = (if q / k = i then (f i).set j u else f (q / k))[q % k]?
      by_cases h2 : q / k = i
      · rw [if_pos h2, h2, List.getElem?_set]
        have : j ≠ q % k := fun h => h1 (by rw [h, ← h2]; exact e.symm)
        rw [if_neg this]
      · rw [if_neg h2]
  · rw [List.getElem?_eq_none (by rw [List.length_set, rows_length hf]; omega), List.getElem?_eq_none (by rw [rows_length hf']; omega)]
theorem at_set {es : Es} {k : Nat} {y : Int × Int} (hk : k < es.length) (i : Nat) : at_ (es.set k y) i = if i = k then y else at_ es i := by
  unfold at_
  rw [List.getD_eq_getElem?_getD, List.getD_eq_getElem?_getD, List.getElem?_set]
  by_cases e : k = i
  · subst e; simp [hk]
  · rw [if_neg e, if_neg (Ne.symm e)]
theorem rows_put {es : Es} {k : Nat} {y : Int × Int} (hk : k < es.length) : ((rows es.length (mvs es)).set (k * 2) (.int .i64 y.1)).set (k * 2 + 1) (.int .i64 y.2) = rows (es.set k y).length (mvs (es.set k y)) := by
  have h0 := rows_set (k := 2) (f := mvs es) (i := k) (j := 0) (u := .int .i64 y.1) (fun _ => rfl) (by omega) hk
  rw [Nat.add_zero] at h0
  rw [h0, rows_set (k := 2) (i := k) (j := 1) (fun m => by by_cases h : m = k <;> simp [h, mvs]) (by omega) hk, List.length_set]
  refine rows_congr fun i hi => ?_
  unfold mvs
  rw [at_set hk]
  by_cases e : i = k
  · rw [if_pos e, if_pos e, if_pos rfl]; rfl
  · rw [if_neg e, if_neg e, if_neg e]
theorem rows_put1 {es : Es} {k : Nat} {r : Int} (hk : k < es.length) : (rows es.length (mvs es)).set (k * 2 + 1) (.int .i64 r) = rows (es.set k ((at_ es k).1, r)).length (mvs (es.set k ((at_ es k).1, r))) := by
  rw [rows_set (k := 2) (i := k) (j := 1) (fun m => rfl) (by omega) hk, List.length_set]
  refine rows_congr fun i hi => ?_
  unfold mvs
  rw [at_set hk]
  by_cases e : i = k
  · rw [if_pos e, if_pos e]; rfl
  · rw [if_neg e, if_neg e]
theorem pair_sl {W : World} {g cap : Nat} {cs : List Value} {es2 : Es} (hb : Blk W g cs 28) (ht : cs.take (es2.length * 2) = rows es2.length (mvs es2)) (hl : es2.length * 2 ≤ cs.length) (hc : es2.length ≤ cap) (hm : cap ≤ maxLen) : SL W 2 (.slice (some ⟨g, 0, none⟩) es2.length cap) es2.length (rows es2.length (mvs es2)) := by
  rw [← ht]
  exact SL.of_blk (pad := cs.drop (es2.length * 2)) (by rw [List.take_append_drop]; exact hb) (by rw [List.length_take]; omega) hc hm
theorem TWf.reason {es : Es} (hw : TWf 8 es) {k : Nat} (hk : k < es.length) {r : Int} (hr : -1 ≤ r ∧ r ≤ 9223372036854775807) : TWf 8 (es.set k ((at_ es k).1, r)) := by
  refine ⟨hw.max, fun e he => ?_, fun e he => ?_, ?_⟩
  · rcases List.mem_or_eq_of_mem_set he with h | rfl
    · exact hw.lit e h
    · have := hw.lit _ (at_mem hk)
      exact this
  · rcases List.mem_or_eq_of_mem_set he with h | rfl
    · exact hw.rsn e h
    · exact hr
  · have : (es.set k ((at_ es k).1, r)).map (fun e => e.1.natAbs) = es.map (fun e => e.1.natAbs) := by
      rw [List.map_set]
      refine List.ext_getElem? fun i => ?_
      rw [List.getElem?_set]
      by_cases e : k = i
      · subst e
        rw [if_pos rfl, if_pos (by simpa using hk), List.getElem?_map, List.getElem?_eq_getElem hk, at_get hk]
        rfl
      · rw [if_neg e]
    rw [this]
    exact hw.nodup
theorem at_inj {es : Es} (hw : TWf 8 es) {a b : Nat} (ha : a < es.length) (hb : b < es.length) (e : (at_ es a).1.natAbs = (at_ es b).1.natAbs) : a = b := by
  have h1 := pos_of hw ha
  have h2 := pos_of hw hb
  rw [e] at h1
  omega
theorem TWf.swap {es : Es} (hw : TWf 8 es) {k j : Nat} (hk : k < es.length) (hj : j < es.length) : TWf 8 ((es.set k (at_ es j)).set j (at_ es k)) := by
  have hmem : ∀ e ∈ (es.set k (at_ es j)).set j (at_ es k), e ∈ es := fun e he => by
    rcases List.mem_or_eq_of_mem_set he with h | rfl
    · rcases List.mem_or_eq_of_mem_set h with h | rfl
      · exact h
      · exact at_mem hj
    · exact at_mem hk
  refine ⟨hw.max, fun e he => hw.lit e (hmem e he), fun e he => hw.rsn e (hmem e he), ?_⟩
  have hat : ∀ i, at_ ((es.set k (at_ es j)).set j (at_ es k)) i = at_ es (if i = j then k else if i = k then j else i) := fun i => by
    rw [at_set (by simpa using hj), at_set hk]
    by_cases e1 : i = j
    · rw [if_pos e1, if_pos e1]
    · rw [if_neg e1, if_neg e1]
      by_cases e2 : i = k
      · rw [if_pos e2, if_pos e2]
      · rw [if_neg e2, if_neg e2]
  rw [List.Nodup, List.pairwise_map, List.pairwise_iff_getElem]
  intro a b ha hb hab e
  rw [← at_get ha, ← at_get hb, hat, hat] at e
  simp only [List.length_set] at ha hb
  have := at_inj hw (by split <;> (try split) <;> omega) (by split <;> (try split) <;> omega) e
  split at this <;> split at this <;> (try split at this) <;> (try split at this) <;> omega
theorem mvs_take {es : Es} {n : Nat} (hn : n ≤ es.length) : rows (es.take n).length (mvs (es.take n)) = (rows es.length (mvs es)).take ((es.take n).length * 2) := by
  have hl : (es.take n).length = n := by rw [List.length_take]; omega
  rw [hl, rows_take (k := 2) (fun _ => rfl) hn]
  refine rows_congr fun i hi => ?_
  unfold mvs at_
  rw [List.getD_eq_getElem?_getD, List.getD_eq_getElem?_getD, List.getElem?_take, if_pos hi]
theorem mvs_one (es : Es) : ∀ u ∈ rows es.length (mvs es), u.oneCell' = true := by
  intro u hu
  unfold rows at hu
  obtain ⟨i, _, hi⟩ := List.mem_flatMap.1 hu
  simp only [mvs, List.mem_cons, List.not_mem_nil, or_false] at hi
  rcases hi with rfl | rfl <;> rfl
theorem Rf.lits_sl {w : World} {b vars : Nat} {es : Es} {S : List Nat} (h : Ref.Rf w b vars es S) : ∃ a c, w.cell? ⟨b, 1, none⟩ = some (.slice a es.length c) ∧ SL w 1 (.slice a es.length c) (lits es).length (ints (lits es)) := by
  obtain ⟨h0, lv, rv, vv, rfl, h1, h2, h3, h4, h5⟩ := h
  have hl : (lits es).length = es.length := by simp [lits]
  have hs := SL.of_owns h2
  obtain ⟨_, a, c, he, _⟩ := id hs
  subst he
  exact ⟨a, c, h1.cell (i := 1) rfl, by rw [hl]; exact hs⟩
section
variable {w : World}
set_option maxRecDepth 100000 in
set_option maxHeartbeats 16000000 in
theorem LearnAnalyzes_calls {v : Value} {xs : List Int} (hx : ∀ x ∈ xs, IsI64 x) (hl : SL w 1 v xs.length (ints xs)) {ch how at1 by_ : Int} (hch : IsI64 ch) (hhow : IsI64 how) (hat : IsI64 at1) (hby : IsI64 by_) :
    Calls Try.prog 3 #[v, .int .i64 ch, .int .i64 how, .int .i64 at1, .int .i64 by_] w fun e w' => e = .returned (.bool true) ∧ Upd [] w w' := by
  have HS := Lib.hid (Scene_calls hx hl hch)
  have HK := Lib.hid (fun c (h : c ∈ clsL xs) => clsL_ok h)
  have hln := clsL_length xs
  generalize clsL xs = L at *
  have HA := Lib.hid (fun (n k : Int) (hn : IsI64 n) (h1 : 1 ≤ k) (h2 : k ≤ 9223372036854775807) (W : World) => Around_calls n k W hn h1 h2)
  clear hx hl
  go_enter Try.func3, Try.ntmps3
  go_upto_region 2 with (go_at_call 9; (with_reducible refine HS.out.mono ?_); rintro e w1 ⟨ov, mv, cf, rfl, F, es, hO, hF, hm, hv, u1, hcf, hap⟩)
  have hcfI : IsI64 cf := by
    rcases hcf with rfl | ⟨h1, h2, _⟩
    · exact ⟨by omega, by omega⟩
    · exact ⟨by omega, by omega⟩
  obtain ⟨am, cm, rfl, _, _, _⟩ := mv_cells hv.sl
  obtain ⟨vals, hov, hvals⟩ := hO.ex
  have hvals2 : ∀ (i : Nat) (c : List Int), L[i]? = some c → ∃ y, vals[i]? = some y ∧ SL w1 1 y c.length (ints c) ∧ ∀ q, y.ownBlock = some q → q < w1.heap.size := fun i c hc => by obtain ⟨y, h1, h2, h3⟩ := hvals i c hc; exact ⟨y, h1, h2, fun q hq => hO.lt q (h3 q hq)⟩
  have hvals3 : ∀ (i : Nat) (c : List Int), L[i]? = some c → ∃ y, vals[i]? = some y ∧ SL w1 1 y c.length (ints c) := fun i c hc => by obtain ⟨y, h1, h2, h3⟩ := hvals i c hc; exact ⟨y, h1, h2⟩
  have hvl : vals.length = L.length := by have := hov.row.1; omega
  obtain ⟨aL, cL, rfl, _⟩ := OwnL.cells hO
  have H1 := Lib.hid (And.intro hO.cl (And.intro hm (And.intro hv (And.intro u1 (And.intro hvals2 hov)))))
  have HV1 := Lib.hid (And.intro hvl (CL.one hvl hvals3))
  clear HS hO hF hm hv u1 hap hcf hvals hov hvals2 hvals3 hvl
  refine wp_region_lit ?_
  refine wpList_cutH 2 (fun K hK => ?_)
  simp only [List.take_succ_cons, List.take_zero]
  go_wp2_with fail
  refine Halt_.intro ?_; try simp only [List.drop_succ_cons, List.drop_zero]
  have g0 := owns_none (w := w1) rfl 22
  have u0 := (Upd.refl [] w1).alloc (.cells #[] 22)
  have z0 := u0.size
  generalize hwn : w1.alloc (.cells #[] 22) = wn at *
  have s0 := H1.out.2.2.2.2.2.sl.upd u0 (by simp)
  refine wpList_appS rfl _ _ _ rfl 22 1 24 _ Try.underlying23 infoInts rfl (by decide) (.slice (some ⟨w1.heap.size, 0, none⟩) 0 0) 0 [] rfl (owns_blk g0 rfl (by unfold maxLen; omega)) _ L.length vals rfl s0 HV1.out.2 (by unfold maxLen; omega) (by omega) ?_
  intro a2 cap2 w2 o2 u2 k2
  rw [Nat.zero_add, List.nil_append] at o2
  rw [Nat.zero_add] at k2 ⊢
  simp only [Act.put, List.setIfInBounds_toArray, List.set_cons_zero, List.set_cons_succ]
  have U2 : Upd [] w1 w2 := u0.fresh u2 (fun q hq => .inr (by simp [Value.ownBlock] at hq; omega))
  have hfr2 : ∀ q, (Value.slice a2 L.length cap2).ownBlock = some q → w1.heap.size ≤ q := fun q hq => by
    rcases k2 with k5 | k5 <;> rw [hq] at k5 <;> simp [Value.ownBlock] at k5 <;> omega
  have H2 := Lib.hid (And.intro o2 (And.intro U2 hfr2))
  clear hwn g0 u0 z0 s0 u2 k2 o2 U2 hfr2
  go_upto_if 46 with fail
  go_cut [15] (fun _ w' => ∃ L2 : List (List Int), L2.length = L.length ∧ Go.Proofs.Ytdhhohnaehdpkaa.L.CL w' (.slice a2 L.length cap2) L2 ∧ Upd [] w1 w')
  case first =>
    by_cases hL0 : 0 < L.length
    · have hLi : (L.length : Int) > 0 := by omega
      have n0 := around_lo (n := at1) (k := (L.length : Int)) (by omega)
      have n1 := around_hi (n := at1) (k := (L.length : Int)) (by omega)
      have HAk := Lib.hid (fun W => HA.out at1 (L.length : Int) hat (by omega) (by omega) W)
      obtain ⟨kn, hkn⟩ := Int.eq_ofNat_of_zero_le n0
      rw [hkn] at HAk n1
      have hkL : kn < L.length := by omega
      have hki : (kn : Int) < L.length := by omega
      have b0 := around_lo (n := by_) (k := 8) (by omega)
      have b1 := around_hi (n := by_) (k := 8) (by omega)
      have HAb := Lib.hid (fun W => HA.out by_ 8 hby (by omega) (by omega) W)
      have c0 := around_lo (n := how) (k := 5) (by omega)
      have c1 := around_hi (n := how) (k := 5) (by omega)
      have HAh := Lib.hid (fun W => HA.out how 5 hhow (by omega) (by omega) W)
      generalize around by_ 8 = rb at *
      obtain ⟨rh, hrh⟩ := Int.eq_ofNat_of_zero_le c0
      rw [hrh] at HAh c1
      have hrh5 : rh < 5 := by omega
      clear hkn n0 hrh c0
      rcases H2.out.1.2 with ⟨_, h2⟩ | ⟨g, cap', cur, he, _, hg, hnc, hcm, hcs, htake⟩
      · omega
      · simp only [Value.slice.injEq] at he
        obtain ⟨rfl, _, rfl⟩ := he
        have hB : Blk w2 g cur.toList 22 := by unfold Blk; rw [Array.toArray_toList]; exact hg
        have hcl : L.length ≤ cur.toList.length := by have := Array.length_toList (xs := cur); omega
        have htk : cur.toList.take L.length = vals := by simpa using htake
        generalize cur.toList = cu at *
        obtain ⟨y, hy, hs, hyo⟩ := H1.out.2.2.2.2.1 kn _ (List.getElem?_eq_getElem hkL)
        have hcu : cu[kn]? = some y := by
          rw [← htk, List.getElem?_take, if_pos hkL] at hy
          exact hy
        obtain ⟨_, ay, capy, rfl, q1, q2, _⟩ := id hs
        have hcc1 : L[kn].length ≤ 3 := (HK.out _ (List.getElem_mem hkL)).2.2
        have hs2 := hs.upd H2.out.2.1 (by simp)
        generalize hcc : L[kn] = c at *
        have HB := Lib.hid (And.intro hB (And.intro hcl (And.intro htk (And.intro hnc (And.intro hcm (And.intro hcu hs2))))))
        have e1 := hB.cell (i := kn) hcu
        clear hB hcl htk hnc hcs htake hcu hy hs hs2 hg hcc
        go_upto_region 5 with (go_at_call 10; (with_reducible refine (HAk.out _).mono ?_); rintro e _ ⟨rfl, rfl⟩)
        refine wp_region_lit ?_
        refine wpList_cutH 3 (fun K hK => ?_)
        simp only [List.take_succ_cons, List.take_zero]
        go_wp2_with fail
        refine Halt_.intro ?_; try simp only [List.drop_succ_cons, List.drop_zero]
        have g0 := owns_none (w := w2) rfl 3
        have u0 := (Upd.refl [] w2).alloc (.cells #[] 3)
        have z0 := u0.size
        generalize hwn : w2.alloc (.cells #[] 3) = wn at *
        replace e1 := u0.some e1 (by simp)
        refine wpList_cutH 4 (fun K hK => ?_)
        simp only [List.take_succ_cons, List.take_zero]
        go_wp2_with fail
        refine Halt_.intro ?_; try simp only [List.drop_succ_cons, List.drop_zero]
        refine wpList_appS rfl _ _ _ rfl 3 1 8 _ Try.underlying22 Trail.infoInt rfl (by decide) (.slice (some ⟨w2.heap.size, 0, none⟩) 0 0) 0 [] rfl (owns_blk g0 rfl (by unfold maxLen; omega)) _ c.length (ints c) rfl (HB.out.2.2.2.2.2.2.upd u0 (by simp)) (ints_one _) (by unfold maxLen; omega) (by omega) ?_
        intro a5 cap5 w5 o5 u5 k5
        rw [Nat.zero_add, List.nil_append] at o5
        rw [Nat.zero_add] at k5 ⊢
        simp only [Act.put, List.setIfInBounds_toArray, List.set_cons_zero, List.set_cons_succ]
        have U5 : Upd [] w2 w5 := u0.fresh u5 (fun q hq => .inr (by simp [Value.ownBlock] at hq; omega))
        have hfr5 : ∀ q, (Value.slice a5 c.length cap5).ownBlock = some q → w2.heap.size ≤ q := fun q hq => by
          rcases k5 with k6 | k6 <;> rw [hq] at k6 <;> simp [Value.ownBlock] at k6 <;> omega
        have HO5 := Lib.hid (show Own w2 (.slice a5 c.length cap5) c w5 from ⟨o5, hfr5, U5⟩)
        clear hwn g0 u0 z0 u5 k5 o5 U5 hfr5 e1
        refine wpList_cutH 8 (fun K hK => ?_)
        simp only [List.take_succ_cons, List.take_zero]
        go_wp2_with (go_at_call 10; (with_reducible refine (HAb.out _).mono ?_); rintro e _ ⟨rfl, rfl⟩)
        refine Halt_.intro ?_; try simp only [List.drop_succ_cons, List.drop_zero]
        have B6 := Blk.new w5 [.int .i64 (1 + rb), .int .i64 (-1 - rb), .int .i64 0, .int .i64 by_, .int .i64 9] 3
        have U6 := (Upd.refl [] w5).alloc (.cells #[.int .i64 (1 + rb), .int .i64 (-1 - rb), .int .i64 0, .int .i64 by_, .int .i64 9] 3)
        change Blk (w5.alloc (.cells #[.int .i64 (1 + rb), .int .i64 (-1 - rb), .int .i64 0, .int .i64 by_, .int .i64 9] 3)) _ _ _ at B6
        generalize (w5.alloc (.cells #[.int .i64 (1 + rb), .int .i64 (-1 - rb), .int .i64 0, .int .i64 by_, .int .i64 9] 3)) = w6 at *
        obtain ⟨X, hX⟩ : ∃ X : Int, ([.int .i64 (1 + rb), .int .i64 (-1 - rb), .int .i64 0, .int .i64 by_, .int .i64 9] : List Value)[rh]? = some (.int .i64 X) := by
          rcases (by omega : rh = 0 ∨ rh = 1 ∨ rh = 2 ∨ rh = 3 ∨ rh = 4) with rfl | rfl | rfl | rfl | rfl <;> exact ⟨_, rfl⟩
        have e6 := B6.cell (i := rh) hX
        have HO6 := Lib.hid (HO5.out.quiet U6)
        clear B6 U6 hX HO5
        refine wpList_cutH 4 (fun K hK => ?_)
        simp only [List.take_succ_cons, List.take_zero]
        go_wp2_with (go_at_call 10; (with_reducible refine (HAh.out _).mono ?_); rintro e _ ⟨rfl, rfl⟩)
        refine Halt_.intro ?_; try simp only [List.drop_succ_cons, List.drop_zero]
        refine wpList_push rfl rfl _ _ _ _ rfl rfl rfl 3 1 8 _ Try.underlying22 R14.infoInt rfl (by decide) (by decide) (.int .i64 X) [.int .i64 X] rfl rfl rfl (ints_one [X]) _ _ _ HO6.out.row rfl rfl (by unfold maxLen; omega) (by omega) ?_
        intro g7 cap7 w7 o7 u7 k7
        simp only [Act.put, List.setIfInBounds_toArray, List.set_cons_zero, List.set_cons_succ]
        have hO7 := HO6.out.push o7 u7 k7
        have hB7 := HB.out.1.upd hO7.u (by simp)
        have e7 := hB7.cell (i := kn) HB.out.2.2.2.2.2.1
        have f7 := hB7.free kn
        have hgb := HB.out.1.lt
        have hg1 : w1.heap.size ≤ g := H2.out.2.2 g rfl
        have us : Upd [g] w7 (w7.setCell ⟨g, kn, none⟩ (.slice (some ⟨g7, 0, none⟩) (c.length + 1) cap7)) := (Upd.refl [g] w7).set (.inl (by simp)) _
        have hy8 : SL (w7.setCell ⟨g, kn, none⟩ (.slice (some ⟨g7, 0, none⟩) (c.length + 1) cap7)) 1 (.slice (some ⟨g7, 0, none⟩) (c.length + 1) cap7) (c ++ [X]).length (ints (c ++ [X])) := by
          have h1 := hO7.sl
          rw [List.length_append, List.length_singleton] at h1 ⊢
          refine h1.upd us (fun q hq e => ?_)
          have := hO7.fresh q e
          simp at hq
          omega
        have HF8 := Lib.hid (show ∃ L2 : List (List Int), L2.length = L.length ∧ Go.Proofs.Ytdhhohnaehdpkaa.L.CL (w7.setCell ⟨g, kn, none⟩ (.slice (some ⟨g7, 0, none⟩) (c.length + 1) cap7)) (.slice (some ⟨g, 0, none⟩) L.length cap2) L2 ∧ Upd [] w1 (w7.setCell ⟨g, kn, none⟩ (.slice (some ⟨g7, 0, none⟩) (c.length + 1) cap7)) from
          ⟨L.set kn (c ++ [X]), by simp, cl_set (hB7.set kn _) HB.out.2.2.1 HB.out.2.1 HV1.out.1 HB.out.2.2.2.1 HB.out.2.2.2.2.1 hkL (fun i d hd => by
            obtain ⟨y', h1, h2, h3⟩ := H1.out.2.2.2.2.1 i d hd
            refine ⟨y', h1, ((h2.upd H2.out.2.1 (by simp)).upd hO7.u (by simp)).upd us (fun q hq e => ?_)⟩
            have := h3 q e
            simp at hq
            omega) hy8, (H2.out.2.1.step hO7.u).fresh us (fun q hq => .inr (by simp at hq; omega))⟩)
        clear hO7 hB7 us hy8 o7 u7 k7 e6
        go_wp2_with fail
        go_meet
        case rel => exact HF8.out
    · have hLi : ¬ (L.length : Int) > 0 := by omega
      go_wp2_with fail
      go_meet
      case rel =>
        have hz : L = [] := List.eq_nil_of_length_eq_zero (by omega)
        refine ⟨L, rfl, ⟨vals, HV1.out.1, SL.of_owns H2.out.1, fun i c hc => ?_⟩, H2.out.2.1⟩
        rw [hz] at hc
        simp at hc
  case rest =>
    obtain ⟨L2, hl2, hcl2, hu2⟩ := hcut
    have H3 := Lib.hid (And.intro hcl2 (And.intro hu2 hl2))
    clear hcl2 hu2 hl2
    have hes8 := H1.out.2.1.wf.len
    go_upto_region 6 with fail
    refine wp_region_lit ?_
    refine wpList_cutH 2 (fun K hK => ?_)
    simp only [List.take_succ_cons, List.take_zero]
    go_wp2_with fail
    refine Halt_.intro ?_; try simp only [List.drop_succ_cons, List.drop_zero]
    have g0 := owns_none (w := wc) rfl 28
    have u0 := (Upd.refl [] wc).alloc (.cells #[] 28)
    have z0 := u0.size
    generalize hwn : wc.alloc (.cells #[] 28) = wn at *
    refine wpList_appS rfl _ _ _ rfl 28 2 16 _ Try.underlying24 infoPair rfl (by decide) (.slice (some ⟨wc.heap.size, 0, none⟩) 0 0) 0 [] rfl (owns_blk g0 rfl (by unfold maxLen; omega)) _ es.length (rows es.length (mvs es)) rfl ((H1.out.2.2.1.sl.upd H3.out.2.1 (by simp)).upd u0 (by simp)) (mvs_one es) (by unfold maxLen; omega) (by omega) ?_
    intro a6 cap6 w6 o6 u6 k6
    rw [Nat.zero_add, List.nil_append] at o6
    rw [Nat.zero_add] at k6 ⊢
    simp only [Act.put, List.setIfInBounds_toArray, List.set_cons_zero, List.set_cons_succ]
    have U6 : Upd [] wc w6 := u0.fresh u6 (fun q hq => .inr (by simp [Value.ownBlock] at hq; omega))
    have hfr6 : ∀ q, (Value.slice a6 es.length cap6).ownBlock = some q → wc.heap.size ≤ q := fun q hq => by
      rcases k6 with k5 | k5 <;> rw [hq] at k5 <;> simp [Value.ownBlock] at k5 <;> omega
    have H6 := Lib.hid (And.intro o6 (And.intro U6 hfr6))
    clear hwn g0 u0 z0 u6 k6 o6 U6 hfr6
    go_upto_if 79 with fail
    go_cut [16] (fun o w' => ∃ (es2 : Es) (a : Option Addr) (c : Nat), o = .slice a es2.length c ∧ TWf 8 es2 ∧ SL w' 2 (.slice a es2.length c) es2.length (rows es2.length (mvs es2)) ∧ Upd [] wc w')
    case first =>
      by_cases h1 : 1 < es.length
      · have h1i : (es.length : Int) > 1 := by omega
        have n0 := around_lo (n := at1) (k := (es.length : Int)) (by omega)
        have n1 := around_hi (n := at1) (k := (es.length : Int)) (by omega)
        have HAk := Lib.hid (fun W => HA.out at1 (es.length : Int) hat (by omega) (by omega) W)
        obtain ⟨kn, hkn⟩ := Int.eq_ofNat_of_zero_le n0
        rw [hkn] at HAk n1
        have hkL : kn < es.length := by omega
        have hki : (kn : Int) < es.length := by omega
        have b0 := around_lo (n := by_) (k := (es.length : Int)) (by omega)
        have b1 := around_hi (n := by_) (k := (es.length : Int)) (by omega)
        have HAj := Lib.hid (fun W => HA.out by_ (es.length : Int) hby (by omega) (by omega) W)
        obtain ⟨jn, hjn⟩ := Int.eq_ofNat_of_zero_le b0
        rw [hjn] at HAj b1
        have hjL : jn < es.length := by omega
        have hji : (jn : Int) < es.length := by omega
        have c0 := around_lo (n := how) (k := 3) (by omega)
        have c1 := around_hi (n := how) (k := 3) (by omega)
        have HAh := Lib.hid (fun W => HA.out how 3 hhow (by omega) (by omega) W)
        have d0 := around_lo (n := by_) (k := (L.length : Int) + 2) (by omega)
        have d1 := around_hi (n := by_) (k := (L.length : Int) + 2) (by omega)
        have HAr := Lib.hid (fun W => HA.out by_ ((L.length : Int) + 2) hby (by omega) (by omega) W)
        generalize around by_ ((L.length : Int) + 2) = rr at *
        generalize around how 3 = rs at *
        clear hkn n0 hjn b0
        rcases H6.out.1.2 with ⟨_, h2⟩ | ⟨g, cap', cur, he, _, hg, hnc, hcm, hcs, htake⟩
        · omega
        · simp only [Value.slice.injEq] at he
          obtain ⟨rfl, _, rfl⟩ := he
          have hB : Blk w6 g cur.toList 28 := by unfold Blk; rw [Array.toArray_toList]; exact hg
          have hcl : es.length * 2 ≤ cur.toList.length := by have := Array.length_toList (xs := cur); omega
          have htk : cur.toList.take (es.length * 2) = rows es.length (mvs es) := by simpa using htake
          generalize cur.toList = cu at *
          have HB := Lib.hid (And.intro hB (And.intro hcl (And.intro htk (And.intro hnc hcm))))
          have cat : ∀ k, k < es.length → cu[k * 2]? = some (.int .i64 (at_ es k).1) ∧ cu[k * 2 + 1]? = some (.int .i64 (at_ es k).2) := fun k hk => by
            have r0 := rows_get (k := 2) (f := mvs es) (fun _ => rfl) (i := k) (j := 0) (by omega) hk
            have r1 := rows_get (k := 2) (f := mvs es) (fun _ => rfl) (i := k) (j := 1) (by omega) hk
            rw [← htk, List.getElem?_take, if_pos (by omega)] at r0 r1
            exact ⟨r0, r1⟩
          have ck := cat kn hkL
          have cj := cat jn hjL
          have e1 := hB.cell (i := kn * 2) ck.1
          have e2 := hB.cell (i := kn * 2 + 1) ck.2
          have e3 := hB.cell (i := jn * 2) cj.1
          have e4 := hB.cell (i := jn * 2 + 1) cj.2
          have f1 := hB.free (kn * 2)
          have f2 := hB.free (kn * 2 + 1)
          have f3 := hB.free (jn * 2)
          have f4 := hB.free (jn * 2 + 1)
          clear hB hcl htk hnc hcs htake hg ck cj
          have hkc : (kn : Int) ≤ (cap6 : Int) := by have := HB.out.2.2.2.1; omega
          have hkc2 : kn ≤ cap6 := by omega
          have hxl := H1.out.2.1.wf.lit _ (at_mem hkL)
          generalize hxk : (at_ es kn).1 = xk at *
          generalize hrk : (at_ es kn).2 = rk at *
          generalize hxj : (at_ es jn).1 = xj at *
          generalize hrj : (at_ es jn).2 = rj at *
          have HXR := Lib.hid (And.intro hxk (And.intro hrk (And.intro hxj hrj)))
          clear hxk hrk hxj hrj
          rcases (by omega : rs = 0 ∨ rs = 1 ∨ rs = 2) with rfl | rfl | rfl
          · go_upto_region 13 with (first | (go_at_call 10; (with_reducible refine (HAk.out _).mono ?_); rintro e _ ⟨rfl, rfl⟩) | (go_at_call 10; (with_reducible refine (HAj.out _).mono ?_); rintro e _ ⟨rfl, rfl⟩) | (go_at_call 10; (with_reducible refine (HAh.out _).mono ?_); rintro e _ ⟨rfl, rfl⟩))
            refine wp_region_ord 13 1 [0, 1, 2, 3, 4, 5, 6, 7, 8, 9, 10, 11, 12, 14] [7, 11] [0, 1, 2, 3, 4, 5, 6, 7, 8, 9, 10, 11, 12, 13, 14, 15] (fun w' => ∃ x : Ext w6, w' = x.val) (by kernel_rfl) (by kernel_rfl) (Ext.of ((Upd.refl _ _).drew)) ?_
            repeat (first | (refine wpOrd_load rfl rfl rfl rfl (fun K hK => ?_); go_big_quiet_step (fail); refine wpQuiet_nil ?_; refine hK _ ?_; clear hK K) | (refine wpOrd_free rfl rfl rfl (fun K hK => ?_); go_big_quiet_step (fail); refine wpQuiet_nil ?_; refine hK _ ?_; clear hK K))
            refine wpOrd_fix rfl rfl (fun K hK => ?_)
            go_wp2_with fail
            have hgw : wc.heap.size ≤ g := H6.out.2.2 g rfl
            have hb2 := ((HB.out.1.set (kn * 2) (.int .i64 xj)).set (kn * 2 + 1) (.int .i64 rj)).drew
            have u2w : Upd [] wc ((w6.setCell ⟨g, kn * 2, none⟩ (.int .i64 xj)).setCell ⟨g, kn * 2 + 1, none⟩ (.int .i64 rj)).drew := ((H6.out.2.1.set (.inr hgw) _).set (.inr hgw) _).drew
            generalize ((w6.setCell ⟨g, kn * 2, none⟩ (.int .i64 xj)).setCell ⟨g, kn * 2 + 1, none⟩ (.int .i64 rj)).drew = w7 at *
            have hjl2 : jn * 2 + 1 < ((cu.set (kn * 2) (.int .i64 xj)).set (kn * 2 + 1) (.int .i64 rj)).length := by simp only [List.length_set]; have := HB.out.2.1; omega
            have e3' := hb2.cell (i := jn * 2) (List.getElem?_eq_getElem (by omega))
            have e4' := hb2.cell (i := jn * 2 + 1) (List.getElem?_eq_getElem hjl2)
            have f3' := hb2.free (jn * 2)
            have f4' := hb2.free (jn * 2 + 1)
            have HB2 := Lib.hid (And.intro hb2 u2w)
            clear hb2 u2w e1 e2 e3 e4 f1 f2 f3 f4
            generalize ((cu.set (kn * 2) (.int .i64 xj)).set (kn * 2 + 1) (.int .i64 rj))[jn * 2] = old1 at e3'
            generalize ((cu.set (kn * 2) (.int .i64 xj)).set (kn * 2 + 1) (.int .i64 rj))[jn * 2 + 1] = old2 at e4'
            clear hjl2
            refine ⟨fun hC => absurd hC (by decide), ?_⟩
            repeat (first | (refine wpOrd_load rfl rfl rfl rfl (fun K hK => ?_); go_big_quiet_step (fail); refine wpQuiet_nil ?_; refine hK _ ?_; clear hK K) | (refine wpOrd_free rfl rfl rfl (fun K hK => ?_); go_big_quiet_step (fail); refine wpQuiet_nil ?_; refine hK _ ?_; clear hK K))
            refine wpOrd_fix rfl rfl (fun K hK => ?_)
            go_wp2_with fail
            refine ⟨fun hC => absurd hC (by decide), ?_⟩
            refine wpOrd_nil ?_
            have hb4 := (HB2.out.1.set (jn * 2) (.int .i64 xk)).set (jn * 2 + 1) (.int .i64 rk)
            have ht4 : ((((cu.set (kn * 2) (.int .i64 xj)).set (kn * 2 + 1) (.int .i64 rj)).set (jn * 2) (.int .i64 xk)).set (jn * 2 + 1) (.int .i64 rk)).take (((es.set kn (at_ es jn)).set jn (at_ es kn)).length * 2) = rows ((es.set kn (at_ es jn)).set jn (at_ es kn)).length (mvs ((es.set kn (at_ es jn)).set jn (at_ es kn))) := by
              have r1 := rows_put (es := es) (k := kn) (y := at_ es jn) hkL
              have r2 := rows_put (es := es.set kn (at_ es jn)) (k := jn) (y := at_ es kn) (by simpa using hjL)
              rw [← r2, ← r1, HXR.out.1, HXR.out.2.1, HXR.out.2.2.1, HXR.out.2.2.2, ← HB.out.2.2.1]
              simp only [List.length_set, List.take_set]
            have HFIN := Lib.hid (And.intro (TWf.swap H1.out.2.1.wf hkL hjL) (And.intro (pair_sl hb4 ht4 (by simp only [List.length_set]; exact HB.out.2.1) (by simp only [List.length_set]; exact HB.out.2.2.2.1) HB.out.2.2.2.2) (show Upd [] wc ((w7.setCell ⟨g, jn * 2, none⟩ (.int .i64 xk)).setCell ⟨g, jn * 2 + 1, none⟩ (.int .i64 rk)) from (HB2.out.2.set (.inr hgw) _).set (.inr hgw) _)))
            clear hb4 ht4 e3' e4'
            go_wp2_with fail
            go_meet
            case rel => exact ⟨(es.set kn (at_ es jn)).set jn (at_ es kn), _, _, by simp only [List.length_set], HFIN.out.1, HFIN.out.2.1, HFIN.out.2.2⟩
          · go_upto_region 15 with (first | (go_at_call 10; (with_reducible refine (HAk.out _).mono ?_); rintro e _ ⟨rfl, rfl⟩) | (go_at_call 10; (with_reducible refine (HAj.out _).mono ?_); rintro e _ ⟨rfl, rfl⟩) | (go_at_call 10; (with_reducible refine (HAh.out _).mono ?_); rintro e _ ⟨rfl, rfl⟩))
            refine wp_region_ord 6 1 [0, 1, 2, 3, 4, 5, 8, 7, 9] [] [0, 1, 2, 3, 4, 5, 8, 6, 7, 9, 10] (fun w' => ∃ x : Ext w6, w' = x.val) (by kernel_rfl) (by kernel_rfl) (Ext.of ((Upd.refl _ _).drew)) ?_
            repeat (first | (refine wpOrd_load rfl rfl rfl rfl (fun K hK => ?_); go_big_quiet_step (fail); refine wpQuiet_nil ?_; refine hK _ ?_; clear hK K) | (refine wpOrd_free rfl rfl rfl (fun K hK => ?_); go_big_quiet_step (fail); refine wpQuiet_nil ?_; refine hK _ ?_; clear hK K))
            refine wpOrd_fix rfl rfl (fun K hK => ?_)
            go_wp2_with (go_at_call 10; (with_reducible refine (HAr.out _).mono ?_); rintro e _ ⟨rfl, rfl⟩)
            refine ⟨fun hC => absurd hC (by decide), ?_⟩
            repeat (first | (refine wpOrd_load rfl rfl rfl rfl (fun K hK => ?_); go_big_quiet_step (fail); refine wpQuiet_nil ?_; refine hK _ ?_; clear hK K) | (refine wpOrd_free rfl rfl rfl (fun K hK => ?_); go_big_quiet_step (fail); refine wpQuiet_nil ?_; refine hK _ ?_; clear hK K))
            refine wpOrd_fix rfl rfl (fun K hK => ?_)
            go_wp2_with fail
            refine ⟨fun hC => absurd hC (by decide), ?_⟩
            refine wpOrd_nil ?_
            have hgw : wc.heap.size ≤ g := H6.out.2.2 g rfl
            have hb4 := HB.out.1.set (kn * 2 + 1) (.int .i64 (rr - 1))
            have ht4 : (cu.set (kn * 2 + 1) (.int .i64 (rr - 1))).take ((es.set kn ((at_ es kn).1, rr - 1)).length * 2) = rows (es.set kn ((at_ es kn).1, rr - 1)).length (mvs (es.set kn ((at_ es kn).1, rr - 1))) := by
              rw [← rows_put1 hkL, ← HB.out.2.2.1]
              simp only [List.length_set, List.take_set]
            have HFIN := Lib.hid (And.intro (TWf.reason H1.out.2.1.wf hkL (r := rr - 1) ⟨by omega, by omega⟩) (And.intro (pair_sl hb4 ht4 (by simp only [List.length_set]; exact HB.out.2.1) (by simp only [List.length_set]; exact HB.out.2.2.2.1) HB.out.2.2.2.2) (show Upd [] wc (w6.setCell ⟨g, kn * 2 + 1, none⟩ (.int .i64 (rr - 1))) from H6.out.2.1.set (.inr hgw) _)))
            clear hb4 ht4 e1 e2 e3 e4
            go_wp2_with fail
            go_meet
            case rel => exact ⟨es.set kn ((at_ es kn).1, rr - 1), _, _, by simp only [List.length_set], HFIN.out.1, (HFIN.out.2.1.upd ((Upd.refl [] _).drew) (by simp)), HFIN.out.2.2.drew⟩
          · go_wp2_with (first | (go_at_call 10; (with_reducible refine (HAk.out _).mono ?_); rintro e _ ⟨rfl, rfl⟩) | (go_at_call 10; (with_reducible refine (HAj.out _).mono ?_); rintro e _ ⟨rfl, rfl⟩) | (go_at_call 10; (with_reducible refine (HAh.out _).mono ?_); rintro e _ ⟨rfl, rfl⟩))
            go_meet
            case rel =>
              have hlt : (es.take kn).length = kn := by rw [List.length_take]; omega
              refine ⟨es.take kn, _, _, by rw [hlt], H1.out.2.1.wf.take kn, ?_, H6.out.2.1⟩
              exact pair_sl HB.out.1 (by rw [mvs_take (by omega), ← HB.out.2.2.1, List.take_take, hlt]; congr 1; omega) (by rw [hlt]; have := HB.out.2.1; omega) (by rw [hlt]; exact hkc2) HB.out.2.2.2.2
      · have h1i : ¬ (es.length : Int) > 1 := by omega
        go_wp2_with fail
        go_meet
        case rel => exact ⟨es, _, _, rfl, H1.out.2.1.wf, SL.of_owns H6.out.1, H6.out.2.1⟩
    case rest =>
      obtain ⟨es2, a7, c7, rfl, hw2, hsl2, hu2⟩ := hcut
      have hes28 := hw2.len
      have H7 := Lib.hid (And.intro (H1.out.1.upd (H3.out.2.1.step hu2)) (And.intro (H3.out.1.upd hu2) (And.intro ((H1.out.2.2.1.sl.upd H3.out.2.1 (by simp)).upd hu2 (by simp)) (And.intro hsl2 (And.intro hw2 (H1.out.2.2.2.1.step (H3.out.2.1.step hu2)))))))
      have HL2 := Lib.hid H3.out.2.2
      have HWF := Lib.hid H1.out.2.1.wf
      clear hsl2 hw2 hu2 H6 H3 H2 H1 HV1
      go_upto_region 17 with fail
      have B1 := Blk.new wc [.slice aL L.length cL, .slice a2 L.length cap2] 23
      have V1 := (Upd.refl [] wc).alloc (.cells #[.slice aL L.length cL, .slice a2 L.length cap2] 23)
      change Blk (wc.alloc (.cells #[.slice aL L.length cL, .slice a2 L.length cap2] 23)) _ _ _ at B1
      generalize hgl : wc.heap.size = gl at *
      generalize (wc.alloc (.cells #[.slice aL L.length cL, .slice a2 L.length cap2] 23)) = wA at *
      have HB1 := Lib.hid (And.intro B1 V1)
      clear B1 V1
      go_upto_region 18 with fail
      have B2 := Blk.new wA [.slice am es.length cm, .slice a7 es2.length c7] 24
      have V2 := (Upd.refl [] wA).alloc (.cells #[.slice am es.length cm, .slice a7 es2.length c7] 24)
      change Blk (wA.alloc (.cells #[.slice am es.length cm, .slice a7 es2.length c7] 24)) _ _ _ at B2
      generalize hgw : wA.heap.size = gw at *
      generalize (wA.alloc (.cells #[.slice am es.length cm, .slice a7 es2.length c7] 24)) = wB at *
      have V3 := HB1.out.2.step V2
      have H8 := Lib.hid (And.intro (HB1.out.1.upd V2 (by simp)) (And.intro B2 (And.intro (H7.out.1.upd V3) (And.intro (H7.out.2.1.upd V3) (And.intro (H7.out.2.2.1.upd V3 (by simp)) (And.intro (H7.out.2.2.2.1.upd V3 (by simp)) (And.intro H7.out.2.2.2.2.1 (H7.out.2.2.2.2.2.step V3))))))))
      clear B2 V2 V3 HB1 H7 hgl hgw
      have r0 := around_lo (n := by_) (k := (L.length : Int) + 1) (by omega)
      have r1 := around_hi (n := by_) (k := (L.length : Int) + 1) (by omega)
      have HAr := Lib.hid (fun W => HA.out by_ ((L.length : Int) + 1) hby (by omega) (by omega) W)
      generalize around by_ ((L.length : Int) + 1) = rr at *
      clear HA
      go_wp2_with fail
      go_loopw [21] (fun iv wr => ∃ i : Nat, iv = .int .i64 i ∧ i ≤ 4 ∧ Upd [] wB wr) (fun iv _ => 4 - (numOf iv).toNat)
      case atStart => exact ⟨0, rfl, by omega, Upd.refl _ _⟩
      case round =>
        obtain ⟨wo, rfl⟩ : ∃ wo : World, wo = wr := ⟨_, rfl⟩
        obtain ⟨i, rfl, hi, hU⟩ := hrel
        have HU := Lib.hid hU
        by_cases hi4 : i < 4
        · have hii : (i : Int) < 4 := by omega
          obtain ⟨aw, esX, cw, ew, hwX, hsX⟩ : ∃ (aw : Option Addr) (esX : Es) (cw : Nat), wo.cell? ⟨gw, i / 2, none⟩ = some (.slice aw esX.length cw) ∧ TWf 8 esX ∧ SL wo 2 (.slice aw esX.length cw) esX.length (rows esX.length (mvs esX)) := by
            rcases (by omega : i / 2 = 0 ∨ i / 2 = 1) with h | h
            · exact ⟨am, es, cm, by rw [h]; exact hU.some (H8.out.2.1.cell (i := 0) rfl) (by simp), HWF.out, H8.out.2.2.2.2.1.upd hU (by simp)⟩
            · exact ⟨a7, es2, c7, by rw [h]; exact hU.some (H8.out.2.1.cell (i := 1) rfl) (by simp), H8.out.2.2.2.2.2.2.1, H8.out.2.2.2.2.2.1.upd hU (by simp)⟩
          obtain ⟨al, L3, cl, el, hcX⟩ : ∃ (al : Option Addr) (L3 : List (List Int)) (cl : Nat), wo.cell? ⟨gl, i % 2, none⟩ = some (.slice al L3.length cl) ∧ Go.Proofs.Ytdhhohnaehdpkaa.L.CL wo (.slice al L3.length cl) L3 := by
            rcases (by omega : i % 2 = 0 ∨ i % 2 = 1) with h | h
            · exact ⟨aL, L, cL, by rw [h]; exact hU.some (H8.out.1.cell (i := 0) rfl) (by simp), H8.out.2.2.1.upd hU⟩
            · exact ⟨a2, L2, cap2, by rw [h, HL2.out]; exact hU.some (H8.out.1.cell (i := 1) rfl) (by simp), by rw [HL2.out]; exact H8.out.2.2.2.1.upd hU⟩
          have HX := Lib.hid (And.intro hwX (And.intro hsX (And.intro hcX el)))
          have HMd := Lib.hid (Made8_calls hsX hwX)
          have HRt := Lib.hid (fun (W : World) (u : Upd [] wo W) => RTrail8_calls (hsX.upd u (by simp)) hwX)
          have i21 : i / 2 < 2 := by omega
          have i22 : i % 2 < 2 := by omega
          have i23 : (i : Int) / 2 < 2 := by omega
          have i24 : (i : Int) % 2 < 2 := by omega
          clear hU hwX hsX hcX el
          go_upto_region 22 with (go_at_call 11; (with_reducible refine HMd.out.mono ?_); rintro e w10 ⟨b, rfl, S, hT, hS, u10⟩)
          have ew2 := u10.some ew (by simp)
          have HRt2 := Lib.hid (HRt.out w10 u10)
          have HT := Lib.hid (And.intro hT u10)
          clear ew hT hS u10 HRt HMd
          go_upto_region 25 with (go_at_call 12; (with_reducible refine HRt2.out.mono ?_); rintro e w11 ⟨mb, rfl, Q, hR, hQ, u11⟩)
          have H11 := Lib.hid (And.intro (HT.out.1.upd u11 (by simp)) (And.intro hR (HT.out.2.step u11)))
          clear hR hQ u11 HRt2 HT ew2
          go_upto_region 26 with (go_at_call 10; (with_reducible refine (HAr.out _).mono ?_); rintro e _ ⟨rfl, rfl⟩)
          have B3 := Blk.new w11 (ints [cf, rr, -1, by_]) 3
          have V3 := (Upd.refl [] w11).alloc (.cells #[.int .i64 cf, .int .i64 rr, .int .i64 (-1), .int .i64 by_] 3)
          change Blk (w11.alloc (.cells #[.int .i64 cf, .int .i64 rr, .int .i64 (-1), .int .i64 by_] 3)) _ _ _ at B3
          generalize hgc : w11.heap.size = gc at *
          generalize (w11.alloc (.cells #[.int .i64 cf, .int .i64 rr, .int .i64 (-1), .int .i64 by_] 3)) = w12 at *
          have V12 := H11.out.2.2.step V3
          have H12 := Lib.hid (And.intro B3 (And.intro (H11.out.1.upd V3 (by simp)) (And.intro (H11.out.2.1.upd V3 (by simp)) (And.intro V12 (HX.out.2.2.1.upd V12)))))
          have el12 := V12.some HX.out.2.2.2 (by simp)
          have HEL := Lib.hid el12
          clear B3 V3 V12 hgc H11 el12
          go_wp2_with fail
          go_loopw [25] (fun kv wr => ∃ k : Nat, kv = .int .i64 k ∧ k ≤ 4 ∧ Upd [] w12 wr) (fun kv _ => 4 - (numOf kv).toNat)
          case atStart => exact ⟨0, rfl, by omega, Upd.refl _ _⟩
          case round =>
            obtain ⟨wq, rfl⟩ : ∃ wq : World, wq = wr := ⟨_, rfl⟩
            obtain ⟨k, rfl, hk, hV⟩ := hrel
            have HV := Lib.hid hV
            by_cases hk4 : k < 4
            · have hki : (k : Int) < 4 := by omega
              obtain ⟨c, hc, hcI⟩ : ∃ c : Int, ([cf, rr, -1, by_] : List Int)[k]? = some c ∧ IsI64 c := by
                rcases (by omega : k = 0 ∨ k = 1 ∨ k = 2 ∨ k = 3) with rfl | rfl | rfl | rfl
                · exact ⟨_, rfl, hcfI⟩
                · exact ⟨_, rfl, ⟨by omega, by omega⟩⟩
                · exact ⟨_, rfl, ⟨by omega, by omega⟩⟩
                · exact ⟨_, rfl, hby⟩
              have ec := hV.some (H12.out.1.cell (i := k) (ints_get hc)) (by simp)
              have el2 := hV.some HEL.out (by simp)
              obtain ⟨E, A, G, H, hq⟩ : ∃ E A G H, anL L3 8 esX c = (E, A, G, H) := ⟨_, _, _, _, rfl⟩
              have HAN := Lib.hid (show ∀ W : World, Upd [] wq W → Calls Try.prog 13 #[.slice al L3.length cl, .pointer (some ⟨b, 0, none⟩), .int .i64 c] W fun e w' => ∃ v1 v3, e = .returned (.tuple #[v1, .int .i64 G, v3, .int .i64 E]) ∧ Own W v1 A w' ∧ Own W v3 H w' from fun W u => by
                have h1 := Analyze_calls (H12.out.2.1.upd (hV.step u) (by simp)) (H12.out.2.2.2.2.upd (hV.step u)) (by omega) hcI
                rw [hq] at h1
                exact h1.mono fun e w' ⟨v1, v3, h1, h2, h3, _⟩ => ⟨v1, v3, h1, h2, h3⟩)
              have HRN := Lib.hid (show ∀ W : World, Upd [] wq W → Calls Try.prog 14 #[.slice al L3.length cl, .pointer (some ⟨mb, 0, none⟩), .int .i64 c] W fun e w' => ∃ v1 v3, e = .returned (.tuple #[v1, .int .i64 G, v3, .int .i64 E]) ∧ SL w' 1 v1 A.length (ints A) ∧ SL w' 1 v3 H.length (ints H) ∧ Upd [] W w' from fun W u => by
                have h1 := RAnalyze_calls (H12.out.2.2.1.upd (hV.step u) (by simp)) (H12.out.2.2.2.2.upd (hV.step u)) (by omega) hcI
                rw [hq] at h1
                exact h1)
              clear hV hc hq hcI
              go_upto_region 29 with fail
              refine wp_region_ord 10 1 [0, 1, 2, 3, 4, 5, 6, 7, 8, 9, 11, 12, 13, 14, 15, 16, 17, 18, 19] [4, 9] [0, 1, 2, 3, 4, 5, 6, 7, 8, 9, 10, 11, 12, 13, 14, 15, 16, 17, 18, 19] (fun w' => ∃ x : Ext wq, w' = x.val) (by kernel_rfl) (by kernel_rfl) (Ext.of ((Upd.refl _ _).drew)) ?_
              repeat (first | (refine wpOrd_load rfl rfl rfl rfl (fun K hK => ?_); go_big_quiet_step (fail); refine wpQuiet_nil ?_; refine hK _ ?_; clear hK K) | (refine wpOrd_free rfl rfl rfl (fun K hK => ?_); go_big_quiet_step (fail); refine wpQuiet_nil ?_; refine hK _ ?_; clear hK K))
              refine wpOrd_fix rfl rfl (fun K hK => ?_)
              go_wp2_with (go_at_call 13; (with_reducible refine (HAN.out _ ((Upd.refl _ wq).drew)).mono ?_); rintro e wR ⟨v1, v3, rfl, o1, o3⟩)
              have uR : Upd [] wq wR := ((Upd.refl _ wq).drew).step o1.u
              have HR := Lib.hid (And.intro o1.sl (And.intro o3.sl uR))
              have ec2 := uR.some ec (by simp)
              have el3 := uR.some el2 (by simp)
              clear o1 o3 uR ec el2 HAN
              refine ⟨fun hC => absurd hC (by decide), ?_⟩
              repeat (first | (refine wpOrd_load rfl rfl rfl rfl (fun K hK => ?_); go_big_quiet_step (fail); refine wpQuiet_nil ?_; refine hK _ ?_; clear hK K) | (refine wpOrd_free rfl rfl rfl (fun K hK => ?_); go_big_quiet_step (fail); refine wpQuiet_nil ?_; refine hK _ ?_; clear hK K))
              refine wpOrd_nil ?_
              go_upto_region 30 with fail
              refine wp_region_ord 10 1 [0, 1, 2, 3, 4, 5, 6, 7, 8, 9, 11, 12, 13, 14, 15, 16, 17, 18, 19] [4, 9] [0, 1, 2, 3, 4, 5, 6, 7, 8, 9, 10, 11, 12, 13, 14, 15, 16, 17, 18, 19] (fun w' => ∃ x : Ext wR, w' = x.val) (by kernel_rfl) (by kernel_rfl) (Ext.of ((Upd.refl _ _).drew)) ?_
              repeat (first | (refine wpOrd_load rfl rfl rfl rfl (fun K hK => ?_); go_big_quiet_step (fail); refine wpQuiet_nil ?_; refine hK _ ?_; clear hK K) | (refine wpOrd_free rfl rfl rfl (fun K hK => ?_); go_big_quiet_step (fail); refine wpQuiet_nil ?_; refine hK _ ?_; clear hK K))
              refine wpOrd_fix rfl rfl (fun K hK => ?_)
              go_wp2_with (go_at_call 14; (with_reducible refine (HRN.out _ (HR.out.2.2.step ((Upd.refl _ wR).drew))).mono ?_); rintro e wS ⟨v1', v3', rfl, s1, s3, uS⟩)
              have uS2 : Upd [] wR wS := ((Upd.refl _ wR).drew).step uS
              have HSI := Lib.hid (show ∀ W : World, Upd [] wS W → (Calls Try.prog 15 #[v1, v1'] W fun e w' => e = .returned (.bool true) ∧ Upd [] W w') ∧ (Calls Try.prog 15 #[v3, v3'] W fun e w' => e = .returned (.bool true) ∧ Upd [] W w') from fun W u => by
                have h1 := SameInts_calls ((HR.out.1.upd uS2 (by simp)).upd u (by simp)) (s1.upd u (by simp))
                have h2 := SameInts_calls ((HR.out.2.1.upd uS2 (by simp)).upd u (by simp)) (s3.upd u (by simp))
                exact ⟨by simpa using h1, by simpa using h2⟩)
              have HUS := Lib.hid (HV.out.step (HR.out.2.2.step uS2))
              clear s1 s3 uS uS2 ec2 el3 HRN HR
              refine ⟨fun hC => absurd hC (by decide), ?_⟩
              repeat (first | (refine wpOrd_load rfl rfl rfl rfl (fun K hK => ?_); go_big_quiet_step (fail); refine wpQuiet_nil ?_; refine hK _ ?_; clear hK K) | (refine wpOrd_free rfl rfl rfl (fun K hK => ?_); go_big_quiet_step (fail); refine wpQuiet_nil ?_; refine hK _ ?_; clear hK K))
              refine wpOrd_nil ?_
              have hE : (E != E) = false := by simp
              have hG : (G != G) = false := by simp
              go_upto_region 31 with fail
              go_wp2_with (first | (go_at_call 15; (with_reducible refine (HSI.out _ (Upd.refl _ _)).1.mono ?_); rintro e wT ⟨rfl, uT⟩) | (go_at_call 15; (with_reducible refine (HSI.out _ uT).2.mono ?_); rintro e wU ⟨rfl, uU⟩))
              case roundEnd => exact ⟨⟨k + 1, by go_num, by omega, HUS.out.step (uT.step uU)⟩, by simp [numOf]; omega⟩
            · have hki : ¬ (k : Int) < 4 := by omega
              have hRq := H12.out.2.2.1.upd hV (by simp)
              obtain ⟨am2, cm2, em, sm⟩ := Rf.lits_sl hRq
              have HLi := Lib.hid (fun (W : World) (u : Upd [] wq W) => Trail.Lits_calls ((H12.out.2.1.upd hV (by simp)).upd u (by simp)))
              have HSM := Lib.hid sm
              have HUq := Lib.hid (HU.out.step (H12.out.2.2.2.1.step hV))
              clear hV hRq sm
              go_upto_region 33 with fail
              clear hk4 hki hk
              refine wp_region_ord 6 1 [0, 2, 3, 4, 5, 7] [5] [0, 2, 3, 4, 5, 1, 6, 7] (fun w' => ∃ x : Ext wq, w' = x.val) (by kernel_rfl) (by kernel_rfl) (Ext.of ((Upd.refl _ _).drew)) ?_
              repeat (first | (refine wpOrd_load rfl rfl rfl rfl (fun K hK => ?_); go_big_quiet_step (fail); refine wpQuiet_nil ?_; refine hK _ ?_; clear hK K) | (refine wpOrd_free rfl rfl rfl (fun K hK => ?_); go_big_quiet_step (fail); refine wpQuiet_nil ?_; refine hK _ ?_; clear hK K))
              refine wpOrd_fix rfl rfl (fun K hK => ?_)
              go_wp2_with (go_at_call 16; (with_reducible refine (HLi.out _ ((Upd.refl _ wq).drew)).mono ?_); rintro e wR ⟨gL, rfl, hgL, hBL, uL⟩; clear hgL)
              have uR : Upd [] wq wR := ((Upd.refl _ wq).drew).step uL
              have hll : (lits esX).length = esX.length := by simp [lits]
              have HSL := Lib.hid (show Calls Try.prog 15 #[.slice (some ⟨gL, 0, none⟩) esX.length esX.length, .slice am2 esX.length cm2] wR fun e w' => e = .returned (.bool true) ∧ Upd [] wR w' from by
                have h0 : SL wR 1 (.slice (some ⟨gL, 0, none⟩) esX.length esX.length) (lits esX).length (ints (lits esX)) := by
                  rw [hll]
                  exact SL.of_blk (pad := []) (by rw [List.append_nil]; exact hBL) (by rw [ints_length, hll]; simp) (Nat.le_refl _) (by have := HX.out.1.len; unfold maxLen; omega)
                have h1 := SameInts_calls h0 (HSM.out.upd uR (by simp))
                simpa using h1)
              refine ⟨fun _ => Ext.of uR, ?_⟩
              repeat (first | (refine wpOrd_load rfl rfl rfl rfl (fun K hK => ?_); go_big_quiet_step (fail); refine wpQuiet_nil ?_; refine hK _ ?_; clear hK K) | (refine wpOrd_free rfl rfl rfl (fun K hK => ?_); go_big_quiet_step (fail); refine wpQuiet_nil ?_; refine hK _ ?_; clear hK K))
              refine wpOrd_fix rfl rfl (fun K hK => ?_)
              go_wp2_with (go_at_call 15; (with_reducible refine HSL.out.mono ?_); rintro e wT ⟨rfl, uT⟩)
              have HUE := Lib.hid (HUq.out.step (uR.step uT))
              refine ⟨fun hC => absurd hC (by decide), ?_⟩
              repeat (first | (refine wpOrd_load rfl rfl rfl rfl (fun K hK => ?_); go_big_quiet_step (fail); refine wpQuiet_nil ?_; refine hK _ ?_; clear hK K) | (refine wpOrd_free rfl rfl rfl (fun K hK => ?_); go_big_quiet_step (fail); refine wpQuiet_nil ?_; refine hK _ ?_; clear hK K))
              refine wpOrd_nil ?_
              go_wp2_with fail
              exact ⟨⟨i + 1, by go_num, by omega, HUE.out⟩, by simp [numOf]; omega⟩
        · have hii : ¬ (i : Int) < 4 := by omega
          clear hU
          go_wp2_with (go_at_call 17; (with_reducible refine lives_calls.mono ?_); rintro e wR ⟨rfl, uR⟩)
          go_ret
          exact ⟨rfl, H8.out.2.2.2.2.2.2.2.step (HU.out.step uR)⟩
end
end Learn
end Go.Proofs.Ytdhhohnaehdpkaa
