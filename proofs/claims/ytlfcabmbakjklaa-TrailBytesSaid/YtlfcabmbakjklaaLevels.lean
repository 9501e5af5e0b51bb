/- Walks through the laws of trails: TrailLevels. Conditions: none. -/
import Derived.Test.YtlfcabmbakjklaaRuns
import Derived.Test.YtlfcabmbakjklaaSome
set_option linter.unusedVariables false
set_option linter.unusedSimpArgs false
set_option linter.unusedSectionVars false
open Go.RowKit
namespace Go.Proofs.Ytlfcabmbakjklaa
open L
namespace Law
open Trail Ref R01 Script
theorem nodup_sub {α : Type} [BEq α] [LawfulBEq α] : ∀ (l1 l2 : List α), l1.Nodup → (∀ x ∈ l1, x ∈ l2) → l1.length ≤ l2.length
  | [], l2, _, _ => by simp
  | x :: l1, l2, hn, h => by
    have hx := h x (by simp)
    rw [List.nodup_cons] at hn
    have h1 := nodup_sub l1 (l2.erase x) hn.2 (fun y hy => by
      have hyx : y ≠ x := fun e => hn.1 (e ▸ hy)
      exact (List.mem_erase_of_ne hyx).2 (h y (by simp [hy])))
    have h2 := List.length_erase_of_mem hx
    have h3 := List.length_pos_of_mem hx
    simp only [List.length_cons]
    omega
/-- How many of the first variables are assigned. -/
def cnt (vs : Nat) (es : Es) (n : Nat) : Nat := ((List.range' 1 n).filter fun v : Nat => tval vs es (v : Int) != 0).length
theorem cnt_succ (vs : Nat) (es : Es) (n : Nat) : cnt vs es (n + 1) = cnt vs es n + if tval vs es ((n : Int) + 1) = 0 then 0 else 1 := by
  rw [show (n : Int) + 1 = ((n + 1 : Nat) : Int) by omega]
  unfold cnt
  rw [List.range'_concat, List.filter_append, List.length_append]
  congr 1
  rw [show 1 + 1 * n = n + 1 by omega]
  by_cases h : tval vs es ((n + 1 : Nat) : Int) = 0
  · simp only [List.filter_cons, h, if_true]; simp
  · rw [if_neg h]
    have : (tval vs es ((n + 1 : Nat) : Int) != 0) = true := by simpa using h
    simp [this, -Int.natCast_add]
theorem cnt_le (vs : Nat) (es : Es) (n : Nat) : cnt vs es n ≤ n := by
  unfold cnt
  have := List.length_filter_le (fun v : Nat => tval vs es (v : Int) != 0) (List.range' 1 n)
  simpa using this
theorem tval_pos {vs : Nat} {es : Es} (h : TWf vs es) {v : Nat} (h1 : 1 ≤ v) (h2 : v ≤ vs) : tval vs es (v : Int) ≠ 0 ↔ pos es v ≠ 0 := by
  unfold tval
  rw [if_pos (by simp [isLit]; omega)]
  simp only [Int.natAbs_natCast]
  by_cases hp : pos es v = 0
  · rw [if_pos hp]; simp [hp]
  · rw [if_neg hp]; simp only [hp, ne_eq, not_false_eq_true, iff_true]; split <;> omega
theorem mem_pos {es : Es} {v : Nat} : pos es v ≠ 0 ↔ v ∈ es.map fun e => e.1.natAbs := by
  constructor
  · intro h
    have := pos_at h
    exact List.mem_map.2 ⟨_, at_mem this.2, this.1⟩
  · intro h hp
    obtain ⟨e, he, hv⟩ := List.mem_map.1 h
    exact pos_zero.1 hp e he hv
theorem cnt_all {vs : Nat} {es : Es} (h : TWf vs es) : cnt vs es vs = es.length := by
  unfold cnt
  have hl : (es.map fun e => e.1.natAbs).length = es.length := by simp
  rw [← hl]
  apply Nat.le_antisymm
  · refine nodup_sub _ _ (List.Nodup.sublist List.filter_sublist List.nodup_range') ?_
    intro v hv
    rw [List.mem_filter] at hv
    have h1 := List.mem_range'_1.1 hv.1
    exact mem_pos.1 ((tval_pos h h1.1 (by omega)).1 (by simpa using hv.2))
  · refine nodup_sub _ _ h.nodup ?_
    intro v hv
    obtain ⟨e, he, rfl⟩ := List.mem_map.1 hv
    have := h.lit e he
    rw [List.mem_filter]
    refine ⟨List.mem_range'_1.2 (by omega), ?_⟩
    have := (tval_pos h this.1 this.2).2 (mem_pos.2 hv)
    simpa using this
theorem pos_lit {vs : Nat} {es : Es} (h : TWf vs es) {j : Nat} (hj : j < es.length) : pos es (at_ es j).1.natAbs = j + 1 := by
  refine pos_eq hj ?_ rfl
  intro i hi he
  have hn := h.nodup
  have e1 : ∀ k, (hk : k < es.length) → (at_ es k).1.natAbs = (es.map fun e => e.1.natAbs)[k]'(by simpa using hk) := by
    intro k hk
    unfold at_
    rw [List.getD_eq_getElem?_getD, List.getElem?_eq_getElem hk]
    simp
  rw [e1 i (by omega), e1 j hj] at he
  have := (List.getElem_inj (h₀ := by simpa using (by omega : i < es.length)) (h₁ := by simpa using hj) hn).1 he
  omega
/-- What the trail says of the literal at place j. -/
structure AtJ (vs : Nat) (es : Es) (j : Nat) (x r : Int) : Prop where
  x1 : 1 ≤ x.natAbs
  x2 : x.natAbs ≤ vs
  lv : levelOf vs es (x.natAbs : Int) = lev es j
  rs : reasonOf vs es (x.natAbs : Int) = r
  nn : noneOf vs es (x.natAbs : Int) = 0
  tp : tval vs es x = 1
  tn : tval vs es (-x) = -1
  r1 : -1 ≤ r ∧ r ≤ 9223372036854775807
  dec : decs (es.take (j + 1)) = decs (es.take j) + if r = -1 then 1 else 0
theorem atJ {vs : Nat} {es : Es} (h : TWf vs es) {j : Nat} (hj : j < es.length) : AtJ vs es j (at_ es j).1 (at_ es j).2 := by
  have hm := at_mem hj
  have hl := h.lit _ hm
  have hr := h.rsn _ hm
  have hp := pos_lit h hj
  generalize hx : (at_ es j).1 = x at *
  generalize hrr : (at_ es j).2 = r at *
  have hlit : isLit vs x = true := by simp [isLit]; omega
  have hlit2 : isLit vs (-x) = true := by simp [isLit]; omega
  have hlit3 : isLit vs (x.natAbs : Int) = true := by simp [isLit]; omega
  have ht : tval vs es x = 1 := by
    unfold tval
    rw [if_pos hlit, if_neg (by omega), hp, Nat.add_sub_cancel, hx, if_pos rfl]
  have htn : tval vs es (-x) = -1 := by
    unfold tval
    rw [if_pos hlit2, Int.natAbs_neg, if_neg (by omega), hp, Nat.add_sub_cancel, hx, if_neg (by omega)]
  have ha : assigned vs es (x.natAbs : Int) = true := by
    unfold assigned
    have : tval vs es (x.natAbs : Int) ≠ 0 := (tval_pos h hl.1 hl.2).2 (by rw [hp]; omega)
    simp only [Bool.and_eq_true, decide_eq_true_eq, bne_iff_ne, ne_eq]
    exact ⟨by omega, this⟩
  refine ⟨hl.1, hl.2, ?_, ?_, ?_, ht, htn, hr, ?_⟩
  · unfold levelOf
    rw [if_pos ha, Int.natAbs_natCast, hp, Nat.add_sub_cancel]
  · unfold reasonOf
    rw [if_pos ha, Int.natAbs_natCast, hp, Nat.add_sub_cancel, hrr]
  · unfold noneOf; rw [if_pos ha]
  · have e : es[j]? = some (x, r) := by
      rw [List.getElem?_eq_getElem hj]
      unfold at_ at hx hrr
      rw [List.getD_eq_getElem?_getD, List.getElem?_eq_getElem hj] at hx hrr
      simp at hx hrr
      rw [← hx, ← hrr]
    rw [List.take_add_one, e, decs_append]
    congr 1
    unfold decs
    by_cases h1 : r = -1
    · simp [h1]
    · rw [if_neg h1]
      have : ¬ r < 0 := by omega
      simp [this]
/-- The trail, apart from the script and from what stood before. -/
structure One (w0 : World) (b vs : Nat) (es : Es) (v : Value) (n : Nat) (cs : List Value) (w : World) (S : List Nat) : Prop where
  t : Tr w b vs es (decs es) S
  sl : SL w 3 v n cs
  s : ∀ k ∈ S, w0.heap.size ≤ k ∧ (0 < n → v.ownBlock ≠ some k)
  u : Upd [] w0 w
section
variable {w0 w w' : World} {b vs vs' n : Nat} {es es' : Es} {v : Value} {cs : List Value} {S S' : List Nat}
theorem One.quiet (T : One w0 b vs es v n cs w S) (hu : Upd [] w w') : One w0 b vs es v n cs w' S :=
  ⟨T.t.upd hu (by simp), T.sl.upd hu (by simp), T.s, T.u.step hu⟩
theorem One.trail (T : One w0 b vs es v n cs w S) (ht : Tr w' b vs' es' (decs es') S') (ut : Upd S w w') (kt : ∀ j ∈ S', j ∈ S ∨ w.heap.size ≤ j) : One w0 b vs' es' v n cs w' S' := by
  have hz := T.u.size
  refine ⟨ht, ?_, fun k hk => ?_, T.u.fresh ut (fun k hk => .inr (T.s k hk).1)⟩
  · by_cases hn : 0 < n
    · exact T.sl.upd ut (fun k hk => (T.s k hk).2 hn)
    · exact SL.zero T.sl hn
  · rcases kt k hk with h | h
    · exact T.s k h
    · refine ⟨by omega, fun hn hv => ?_⟩
      have := SL.own_lt T.sl hn hv
      omega
end
theorem opVars_le {vs m : Nat} {k n : Int} (h : vs ≤ m) (hn : n ≤ m) : opVars vs k n ≤ m := by
  unfold opVars
  split
  · exact h
  · split <;> omega
section
variable {w : World}
set_option maxRecDepth 100000 in
set_option maxHeartbeats 4000000 in
theorem TrailLevels_calls {lv : Value} {xs : List Int} (hx : ∀ x ∈ xs, IsI64 x) (hl : SL w 1 lv xs.length (ints xs)) (vars : Int) (hv : IsI64 vars) :
    Calls Try.prog 5 #[lv, .int .i64 vars] w fun e w' => e = .returned (.bool true) ∧ Upd [] w w' := by
  have ha0 := around_lo (n := vars) (k := 9) (by omega)
  have ha1 := around_hi (n := vars) (k := 9) (by omega)
  obtain ⟨K, hK⟩ := Int.eq_ofNat_of_zero_le ha0
  have hK9 : K < 9 := by omega
  have HX := Lib.hid (And.intro hx hl)
  clear hx hl
  go_enter Try.func5, Try.ntmps5
  go_wp2_with fail
  refine (Around_calls vars 9 _ hv (by omega) (by omega)).mono ?_
  rintro e _ ⟨rfl, rfl⟩
  rw [hK]
  have HK1 := Lib.hid (show (1 : Int) + (K : Int) = ((K + 1 : Nat) : Int) by omega)
  go_wp2_with fail
  rw [HK1.out]
  refine (New_calls (K + 1) _ (by omega)).mono ?_
  rintro e w1 ⟨b, S, rfl, h1, u1, k1⟩
  go_wp2_with fail
  try rw [HK1.out]
  have SC := Script_callsN HX.out.1 (HX.out.2.upd u1 (by simp)) (K + 1) 24 (by omega) (by omega)
  rw [show ((24 : Nat) : Int) = 24 from rfl] at SC
  refine SC.mono ?_
  rintro e w3 ⟨v, ops, rfl, s3, ok, h24, u3, vb⟩
  have lt1 := h1.lt
  have T3 : One w b (K + 1) [] v ops.length (opCells ops) w3 S := by
    refine ⟨(h1.upd (T := []) u3 (by simp)), s3, ?_, u1.step u3⟩
    intro k hk
    have l1 := lt1 k hk
    have l2 := k1 k hk
    refine ⟨l2, fun _ hs => ?_⟩
    have := vb k hs
    omega
  clear vb lt1 h1 u1 k1 u3 SC
  obtain ⟨a, cap, rfl, q1, r1, hc⟩ := SL.form_ s3
  have HO := Lib.hid ok
  clear ok
  have HI := Lib.hid T3
  clear s3 T3
  go_wp2_with fail
  go_loopw [9] (fun i wr => ∃ (k : Nat) (vs : Nat) (es : Es) (S : List Nat), i = .int .i64 k ∧ k ≤ ops.length ∧ vs ≤ 16 ∧ One w b vs es (.slice a ops.length cap) ops.length (opCells ops) wr S) (fun i _ => ops.length - (intOf i).toNat)
  case atStart => exact ⟨0, K + 1, [], S, rfl, Nat.zero_le _, by omega, HI.out⟩
  case round =>
    clear HI
    obtain ⟨k, vs, es, S, rfl, hk, hvs, T⟩ := hrel
    by_cases hlt : k < ops.length
    · obtain ⟨g, off, rfl⟩ := hc (by omega)
      obtain ⟨c0, c1, c2⟩ := op_at T.sl hlt
      have oki := HO.out _ (List.getElem_mem hlt)
      obtain ⟨⟨kk, nn, mm⟩, hop⟩ : ∃ op, ops[k] = op := ⟨_, rfl⟩
      rw [hop] at c0 c1 c2 oki
      simp only at c0 c1 c2
      have hvs' : opVars vs kk nn ≤ 16 := opVars_le (by omega) (by have := oki.2.1; simp only at this; omega)
      have HT := Lib.hid T
      clear T
      go_wp2_with (go_at_call 12; refine (do_calls HT.out.t kk nn mm oki.1.2).mono ?_; rintro e w4 ⟨rfl, S', ht, ut, kt⟩; have T4 := HT.out.trail ht ut kt; clear ht ut kt)
      clear HT c0 c1 c2 oki
      generalize opVars vs kk nn = vs2 at *
      generalize opEs vs es kk nn mm = es2 at *
      refine (Lits_calls T4.t).mono ?_
      rintro e w5 ⟨gl, rfl, hgl, bl, u5⟩
      have T5 := T4.quiet u5
      clear hgl u5 T4
      have hwf := T5.t.wf
      have hlen : es2.length ≤ 4194304 := by have := hwf.len; have := hwf.max; omega
      have hvm := hwf.max
      have HT := Lib.hid (And.intro T5 (And.intro bl hwf))
      clear T5 bl hwf
      go_wp2_with fail
      go_loopw [10, 12] (fun l i wr => ∃ j : Nat, i = .int .i64 j ∧ j ≤ es2.length ∧ l = .int .i64 (decs (es2.take j)) ∧ Upd [] w5 wr) (fun _ i _ => es2.length - (intOf i).toNat)
      case atStart => exact ⟨0, rfl, Nat.zero_le _, by simp [decs], Upd.refl _ _⟩
      case round =>
        obtain ⟨j, rfl, hj, rfl, hu⟩ := hrel
        have hd0 := decs_le (es2.take j)
        have hd1 : (es2.take j).length ≤ j := List.length_take_le _ _
        by_cases hjl : j < es2.length
        · have A := atJ HT.out.2.2 hjl
          have e0 := (HT.out.2.1.upd hu (by simp)).cell (ints_get (lits_at hjl))
          have t6 := HT.out.1.t.upd hu (by simp)
          generalize (at_ es2 j).1 = x at *
          generalize (at_ es2 j).2 = r at *
          have hx1 := A.x1
          have hx2 := A.x2
          have hr1 := A.r1
          have HA := Lib.hid A
          clear A
          have hlv : lev es2 j = decs (es2.take (j + 1)) := rfl
          have HLV := Lib.hid hlv
          clear hlv
          generalize hdj : decs (es2.take j) = dj at *
          by_cases hr : r = -1
          · have hdd := HA.out.dec
            rw [hdj, if_pos hr] at hdd
            have HD := Lib.hid (And.intro hdd hr)
            clear hdd hdj
            subst hr
            go_wp2_with (first | (go_at_call 24; refine (R14.Var_calls x _ (by omega) (by omega)).mono ?_; rintro e w' ⟨rfl, rfl⟩) | (go_at_call 25; refine (Level_calls (t6.upd (T := []) (by iterate 25 (first | exact Upd.refl _ _ | assumption | refine Upd.alloc ?_ _ | refine Upd.drew ?_ | refine Upd.drewN ?_ _ | refine Upd.dl ?_ | refine Upd.step ?_ (Ext.upd _) | refine Upd.nil ?_ | skip)) (by simp)) _).mono ?_; rintro e w' ⟨rfl, hq⟩; rw [HA.out.lv, HA.out.nn, HLV.out, HD.out.1]; obtain ⟨y, rfl⟩ := Ext.of (show Upd [] wr _ from Upd.step (by iterate 25 (first | exact Upd.refl _ _ | assumption | refine Upd.alloc ?_ _ | refine Upd.drew ?_ | refine Upd.drewN ?_ _ | refine Upd.dl ?_ | refine Upd.step ?_ (Ext.upd _) | refine Upd.nil ?_ | skip)) hq)) | (go_at_call 26; refine (Reason_calls (t6.upd (T := []) (by iterate 25 (first | exact Upd.refl _ _ | assumption | refine Upd.alloc ?_ _ | refine Upd.drew ?_ | refine Upd.drewN ?_ _ | refine Upd.dl ?_ | refine Upd.step ?_ (Ext.upd _) | refine Upd.nil ?_ | skip)) (by simp)) _).mono ?_; rintro e w' ⟨rfl, hq⟩; rw [HA.out.rs, HA.out.nn]; obtain ⟨y, rfl⟩ := Ext.of (show Upd [] wr _ from Upd.step (by iterate 25 (first | exact Upd.refl _ _ | assumption | refine Upd.alloc ?_ _ | refine Upd.drew ?_ | refine Upd.drewN ?_ _ | refine Upd.dl ?_ | refine Upd.step ?_ (Ext.upd _) | refine Upd.nil ?_ | skip)) hq)) | (go_at_call 16; refine (Trail.Value_calls (t6.upd (T := []) (by iterate 25 (first | exact Upd.refl _ _ | assumption | refine Upd.alloc ?_ _ | refine Upd.drew ?_ | refine Upd.drewN ?_ _ | refine Upd.dl ?_ | refine Upd.step ?_ (Ext.upd _) | refine Upd.nil ?_ | skip)) (by simp)) _).mono ?_; rintro e w' ⟨rfl, hq⟩; (first | rw [HA.out.tp] | rw [HA.out.tn]); obtain ⟨y, rfl⟩ := Ext.of (show Upd [] wr _ from Upd.step (by iterate 25 (first | exact Upd.refl _ _ | assumption | refine Upd.alloc ?_ _ | refine Upd.drew ?_ | refine Upd.drewN ?_ _ | refine Upd.dl ?_ | refine Upd.step ?_ (Ext.upd _) | refine Upd.nil ?_ | skip)) hq)))
            refine ⟨⟨j + 1, by go_num, by omega, by rw [HD.out.1]; go_num, hu.step y.upd⟩, by simp [intOf]; omega⟩
          · have hdd := HA.out.dec
            rw [hdj, if_neg hr] at hdd
            have HD := Lib.hid (And.intro hdd hr)
            have hr2 : 0 ≤ r := by omega
            clear hdd hdj
            go_wp2_with (first | (go_at_call 24; refine (R14.Var_calls x _ (by omega) (by omega)).mono ?_; rintro e w' ⟨rfl, rfl⟩) | (go_at_call 25; refine (Level_calls (t6.upd (T := []) (by iterate 25 (first | exact Upd.refl _ _ | assumption | refine Upd.alloc ?_ _ | refine Upd.drew ?_ | refine Upd.drewN ?_ _ | refine Upd.dl ?_ | refine Upd.step ?_ (Ext.upd _) | refine Upd.nil ?_ | skip)) (by simp)) _).mono ?_; rintro e w' ⟨rfl, hq⟩; rw [HA.out.lv, HA.out.nn, HLV.out, HD.out.1, Nat.add_zero]; obtain ⟨y, rfl⟩ := Ext.of (show Upd [] wr _ from Upd.step (by iterate 25 (first | exact Upd.refl _ _ | assumption | refine Upd.alloc ?_ _ | refine Upd.drew ?_ | refine Upd.drewN ?_ _ | refine Upd.dl ?_ | refine Upd.step ?_ (Ext.upd _) | refine Upd.nil ?_ | skip)) hq)) | (go_at_call 26; refine (Reason_calls (t6.upd (T := []) (by iterate 25 (first | exact Upd.refl _ _ | assumption | refine Upd.alloc ?_ _ | refine Upd.drew ?_ | refine Upd.drewN ?_ _ | refine Upd.dl ?_ | refine Upd.step ?_ (Ext.upd _) | refine Upd.nil ?_ | skip)) (by simp)) _).mono ?_; rintro e w' ⟨rfl, hq⟩; rw [HA.out.rs, HA.out.nn]; obtain ⟨y, rfl⟩ := Ext.of (show Upd [] wr _ from Upd.step (by iterate 25 (first | exact Upd.refl _ _ | assumption | refine Upd.alloc ?_ _ | refine Upd.drew ?_ | refine Upd.drewN ?_ _ | refine Upd.dl ?_ | refine Upd.step ?_ (Ext.upd _) | refine Upd.nil ?_ | skip)) hq)) | (go_at_call 16; refine (Trail.Value_calls (t6.upd (T := []) (by iterate 25 (first | exact Upd.refl _ _ | assumption | refine Upd.alloc ?_ _ | refine Upd.drew ?_ | refine Upd.drewN ?_ _ | refine Upd.dl ?_ | refine Upd.step ?_ (Ext.upd _) | refine Upd.nil ?_ | skip)) (by simp)) _).mono ?_; rintro e w' ⟨rfl, hq⟩; (first | rw [HA.out.tp] | rw [HA.out.tn]); obtain ⟨y, rfl⟩ := Ext.of (show Upd [] wr _ from Upd.step (by iterate 25 (first | exact Upd.refl _ _ | assumption | refine Upd.alloc ?_ _ | refine Upd.drew ?_ | refine Upd.drewN ?_ _ | refine Upd.dl ?_ | refine Upd.step ?_ (Ext.upd _) | refine Upd.nil ?_ | skip)) hq)))
            refine ⟨⟨j + 1, by go_num, by omega, by rw [HD.out.1]; rfl, hu.step y.upd⟩, by simp [intOf]; omega⟩
        · have hje : j = es2.length := by omega
          have HDE := Lib.hid (show decs (es2.take j) = decs es2 by rw [hje, List.take_length])
          clear hje
          generalize decs (es2.take j) = dj at *
          have HU := Lib.hid hu
          have hn1 : es2.length ≤ 16 := by have := HT.out.2.2.len; omega
          clear hd0 hd1 hu
          go_wp2_with fail
          clear hj hjl
          go_loopw [18, 19] (fun s i wr2 => ∃ m : Nat, m ≤ vs2 ∧ i = .int .i64 (m + 1 : Nat) ∧ s = .int .i64 (cnt vs2 es2 m) ∧ Upd [] wr wr2) (fun _ i _ => vs2 + 1 - (intOf i).toNat)
          case atStart => exact ⟨0, Nat.zero_le _, rfl, rfl, Upd.refl _ _⟩
          case round =>
            obtain ⟨m, hm, rfl, rfl, hu2⟩ := hrel
            have t7 := HT.out.1.t.upd (HU.out.step hu2) (by simp)
            have hcn := cnt_le vs2 es2 m
            by_cases hml : m < vs2
            · have HC := Lib.hid (cnt_succ vs2 es2 m)
              by_cases h0 : tval vs2 es2 ((m : Int) + 1) = 0
              · have H0 := Lib.hid h0
                clear h0
                go_wp2_with (first | (go_at_call 27; refine (Vars_calls t7).mono ?_; rintro e w' ⟨rfl, rfl⟩) | (go_at_call 16; refine (Trail.Value_calls t7 _).mono ?_; rintro e w' ⟨rfl, hq⟩; rw [H0.out]; obtain ⟨y, rfl⟩ := Ext.of hq))
                refine ⟨⟨m + 1, by omega, by go_num, by rw [HC.out, if_pos H0.out]; rfl, hu2.step y.upd⟩, by simp [intOf]; omega⟩
              · have H0 := Lib.hid h0
                clear h0
                rcases tval_cases vs2 es2 ((m : Int) + 1) with ht | ht | ht
                · exact absurd ht H0.out
                all_goals
                  have HTV := Lib.hid ht
                  clear ht
                  go_wp2_with (first | (go_at_call 27; refine (Vars_calls t7).mono ?_; rintro e w' ⟨rfl, rfl⟩) | (go_at_call 16; refine (Trail.Value_calls t7 _).mono ?_; rintro e w' ⟨rfl, hq⟩; rw [HTV.out]; obtain ⟨y, rfl⟩ := Ext.of hq))
                  refine ⟨⟨m + 1, by omega, by go_num, by rw [HC.out, if_neg H0.out]; go_num, hu2.step y.upd⟩, by simp [intOf]; omega⟩
            · have HC := Lib.hid (show cnt vs2 es2 m = es2.length by rw [show m = vs2 by omega]; exact cnt_all HT.out.2.2)
              generalize cnt vs2 es2 m = c at *
              have hcc : c = es2.length := HC.out
              subst hcc
              have hdd : dj = decs es2 := HDE.out
              subst hdd
              have hdle := decs_le es2
              go_wp2_with (first | (go_at_call 27; refine (Vars_calls t7).mono ?_; rintro e w' ⟨rfl, rfl⟩) | (go_at_call 28; refine (Now_calls t7).mono ?_; rintro e w' ⟨rfl, rfl⟩))
              refine ⟨⟨k + 1, vs2, es2, S', by go_num, by omega, hvs', HT.out.1.quiet (HU.out.step hu2)⟩, by simp [intOf]; omega⟩
    · have HT := Lib.hid T
      clear T HO hc
      go_wp2_with fail
      refine (lives_calls).mono ?_
      rintro e w5 ⟨rfl, u5⟩
      go_wp2_with fail
      go_ret
      exact ⟨rfl, HT.out.u.step u5⟩
end
end Law
end Go.Proofs.Ytlfcabmbakjklaa
