/- Walks through package learn: variable, level, count, put. Conditions: none. Walks through package learn: newAnalysis. Conditions: none. -/
import Derived.Test.YtdhhohnaehdpkaaTrailB
import Derived.Test.YtdhhohnaehdpkaaMapL
import Derived.Test.YtdhhohnaehdpkaaTrailF
set_option linter.unusedVariables false
set_option linter.unusedSimpArgs false
set_option linter.unusedSectionVars false
section
open Go.RowKit
namespace Go.Proofs.Ytdhhohnaehdpkaa
open L
namespace Learn
open Trail
theorem infoBool : (Try.prog.info? 4).map (fun i => (i.zero, i.size, i.bytes)) = some (some (.bool false), 1, 1) := by kernel_rfl
/-- A set as a map. -/
def setF (C : Int → Bool) : Int → Option Value := fun x => if C x = true then some (.bool true) else none
/-- The analysis in memory. -/
structure An (W : World) (ab b mb vars : Nat) (es : Es) (now : Int) (S : List Nat) (vl vlits vpl vh : Value) (g : Int) (C : Int → Bool) (tp bt : Int) : Prop where
  box : Blk W ab [vl, .pointer (some ⟨b, 0, none⟩), vlits, vpl, .int .i64 g, .map (some mb), .int .i64 tp, .int .i64 bt, vh] 74
  tr : Tr W b vars es now S
  mp : MF Try.prog 3 W mb (vars + 1) (setF C)
  ap : ab ∉ S ∧ mb ∉ S ∧ ab ≠ mb
section
variable {w : World}
theorem lvar_calls (n : Int) (w : World) (hn : -9223372036854775808 < n ∧ n ≤ 9223372036854775807) :
    Calls Try.prog 66 #[.int .i64 n] w fun e w' => e = .returned (.int .i64 (n.natAbs : Int)) ∧ w = w' := by
  go_enter Try.func66, Try.ntmps66
  go_wp2
  all_goals (go_ret; exact ⟨ret_int (by omega), rfl⟩)
variable {ab b mb vars : Nat} {es : Es} {now : Int} {S : List Nat} {vl vlits vpl vh : Value} {g : Int} {C : Int → Bool} {tp bt : Int}
theorem An.ext {W W' : World} (h : An W ab b mb vars es now S vl vlits vpl vh g C tp bt) (u : Upd [] W W') : An W' ab b mb vars es now S vl vlits vpl vh g C tp bt :=
  ⟨h.box.upd u (by simp), h.tr.upd u (by simp), h.mp.upd u (by simp), h.ap⟩
/-- Another box. -/
theorem An.rebox {W W' : World} {vl2 vlits2 vpl2 vh2 : Value} {g2 tp2 bt2 : Int} (h : An W ab b mb vars es now S vl vlits vpl vh g C tp bt) (u : Upd [ab] W W') (B : Blk W' ab [vl2, .pointer (some ⟨b, 0, none⟩), vlits2, vpl2, .int .i64 g2, .map (some mb), .int .i64 tp2, .int .i64 bt2, vh2] 74) : An W' ab b mb vars es now S vl2 vlits2 vpl2 vh2 g2 C tp2 bt2 :=
  ⟨B, h.tr.upd u (fun k hk hm => by simp at hm; subst hm; exact h.ap.1 hk), h.mp.upd u (by simp; exact Ne.symm h.ap.2.2), h.ap⟩
set_option maxRecDepth 100000 in
set_option maxHeartbeats 4000000 in
theorem alevel_calls (h : An w ab b mb vars es now S vl vlits vpl vh g C tp bt) (x : Int) (hx : -9223372036854775808 < x ∧ x ≤ 9223372036854775807) :
    Calls Try.prog 37 #[.pointer (some ⟨ab, 0, none⟩), .int .i64 x] w fun e w' => e = .returned (.int .i64 (levelOf vars es (x.natAbs : Int))) ∧ Upd [] w w' := by
  have c1 := h.box.cell (i := 1) rfl
  have HL := Lib.hid (fun (W : World) (u : Upd [] w W) => Level_calls (h.tr.upd u (by simp)) (x.natAbs : Int))
  have HV := Lib.hid (fun (W : World) => lvar_calls x W hx)
  clear h hx
  go_enter Try.func37, Try.ntmps37
  go_upto_region 1 with fail
  refine wp_region_ord 6 1 [0, 1, 2, 3, 4, 7, 8, 9, 10, 11] [3] [0, 1, 2, 3, 4, 5, 6, 7, 8, 9, 10, 11] (fun w' => ∃ x : Ext w, w' = x.val) (by kernel_rfl) (by kernel_rfl) (Ext.of ((Upd.refl _ _).drew)) ?_
  repeat (first | (refine wpOrd_load rfl rfl rfl rfl (fun K hK => ?_); go_big_quiet_step (fail); refine wpQuiet_nil ?_; refine hK _ ?_; clear hK K) | (refine wpOrd_free rfl rfl rfl (fun K hK => ?_); go_big_quiet_step (fail); refine wpQuiet_nil ?_; refine hK _ ?_; clear hK K))
  refine wpOrd_fix rfl rfl (fun K hK => ?_)
  go_wp2_with (go_at_call 66; refine (HV.out _).mono ?_; rintro e _ ⟨rfl, rfl⟩)
  refine ⟨fun _ => Ext.of ((Upd.refl _ w).drew), ?_⟩
  repeat (first | (refine wpOrd_load rfl rfl rfl rfl (fun K hK => ?_); go_big_quiet_step (fail); refine wpQuiet_nil ?_; refine hK _ ?_; clear hK K) | (refine wpOrd_free rfl rfl rfl (fun K hK => ?_); go_big_quiet_step (fail); refine wpQuiet_nil ?_; refine hK _ ?_; clear hK K))
  refine wpOrd_fix rfl rfl (fun K hK => ?_)
  go_wp2_with (go_at_call 28; (with_reducible refine (HL.out _ ((Upd.refl _ w).drew)).mono ?_); rintro e w2 ⟨rfl, u2⟩)
  have U2 : Upd [] w w2 := ((Upd.refl _ w).drew).step u2
  refine ⟨fun hC => absurd hC (by decide), ?_⟩
  repeat (first | (refine wpOrd_load rfl rfl rfl rfl (fun K hK => ?_); go_big_quiet_step (fail); refine wpQuiet_nil ?_; refine hK _ ?_; clear hK K) | (refine wpOrd_free rfl rfl rfl (fun K hK => ?_); go_big_quiet_step (fail); refine wpQuiet_nil ?_; refine hK _ ?_; clear hK K))
  refine wpOrd_nil ?_
  go_wp2_with fail
  go_ret
  exact ⟨rfl, U2⟩
/-- One literal more or less of some level. -/
def more (es : Es) (g : Int) (vars : Nat) (x d : Int) : Int := if levelOf vars es (x.natAbs : Int) = g then d else 0
set_option maxRecDepth 100000 in
set_option maxHeartbeats 4000000 in
theorem count_calls (h : An w ab b mb vars es now S vl vlits vpl vh g C tp bt) (x d : Int) (hx : -9223372036854775808 < x ∧ x ≤ 9223372036854775807) (hd : -1 ≤ d ∧ d ≤ 1) (ht : -1000000 ≤ tp ∧ tp ≤ 1000000) (hb : -1000000 ≤ bt ∧ bt ≤ 1000000) :
    Calls Try.prog 67 #[.pointer (some ⟨ab, 0, none⟩), .int .i64 x, .int .i64 d] w fun e w' => e = .returned (.tuple #[]) ∧ An w' ab b mb vars es now S vl vlits vpl vh g C (tp + more es g vars x d) (bt + more es 0 vars x d) ∧ Upd [ab] w w' := by
  have HL := Lib.hid (alevel_calls h x hx)
  have HA := Lib.hid h
  have hm1 : more es g vars x d = if levelOf vars es (x.natAbs : Int) = g then d else 0 := rfl
  have hm2 : more es 0 vars x d = if levelOf vars es (x.natAbs : Int) = 0 then d else 0 := rfl
  have HM := Lib.hid (And.intro hm1 hm2)
  clear h hm1 hm2
  generalize levelOf vars es (x.natAbs : Int) = y at *
  go_enter Try.func67, Try.ntmps67
  go_upto_region 1 with (go_at_call 37; (with_reducible refine HL.out.mono ?_); rintro e w2 ⟨rfl, u2⟩)
  have H2 := Lib.hid (HA.out.ext u2)
  have c4 := H2.out.box.cell (i := 4) rfl
  have c6 := H2.out.box.cell (i := 6) rfl
  have c7 := H2.out.box.cell (i := 7) rfl
  have f6 := H2.out.box.free 6
  have f7 := H2.out.box.free 7
  have HU := Lib.hid u2
  clear u2
  by_cases h1 : y = g
  · have e1 : (y == g) = true := beq_iff_eq.2 h1
    by_cases h2 : y = 0
    · have e2 : (y == 0) = true := beq_iff_eq.2 h2
      have hM1 : more es g vars x d = d := by rw [HM.out.1]; exact if_pos h1
      have hM2 : more es 0 vars x d = d := by rw [HM.out.2]; exact if_pos h2
      have us : Upd [ab] w2 ((w2.setCell ⟨ab, 6, none⟩ (.int .i64 (tp + d))).setCell ⟨ab, 7, none⟩ (.int .i64 (bt + d))) := (((Upd.refl [ab] w2).set (.inl (by simp)) _).set (.inl (by simp)) _)
      have HR := Lib.hid (And.intro (show An ((w2.setCell ⟨ab, 6, none⟩ (.int .i64 (tp + d))).setCell ⟨ab, 7, none⟩ (.int .i64 (bt + d))) ab b mb vars es now S vl vlits vpl vh g C (tp + more es g vars x d) (bt + more es 0 vars x d) by rw [hM1, hM2]; exact H2.out.rebox us ((H2.out.box.set 6 (.int .i64 (tp + d))).set 7 (.int .i64 (bt + d)))) (show Upd [ab] w ((w2.setCell ⟨ab, 6, none⟩ (.int .i64 (tp + d))).setCell ⟨ab, 7, none⟩ (.int .i64 (bt + d))) from (show Upd [ab] w w2 from HU.out.nil).fresh us (fun k hk => .inl hk)))
      clear us hM1 hM2
      go_wp2_with fail
      go_end0
      exact ⟨rfl, HR.out.1, HR.out.2⟩
    · have e2 : (y == 0) = false := beq_eq_false_iff_ne.2 h2
      have hM1 : more es g vars x d = d := by rw [HM.out.1]; exact if_pos h1
      have hM2 : more es 0 vars x d = 0 := by rw [HM.out.2]; exact if_neg h2
      have us : Upd [ab] w2 (w2.setCell ⟨ab, 6, none⟩ (.int .i64 (tp + d))) := ((Upd.refl [ab] w2).set (.inl (by simp)) _)
      have HR := Lib.hid (And.intro (show An (w2.setCell ⟨ab, 6, none⟩ (.int .i64 (tp + d))) ab b mb vars es now S vl vlits vpl vh g C (tp + more es g vars x d) (bt + more es 0 vars x d) by rw [hM1, hM2]; rw [Int.add_zero]; exact H2.out.rebox us (H2.out.box.set 6 (.int .i64 (tp + d)))) (show Upd [ab] w (w2.setCell ⟨ab, 6, none⟩ (.int .i64 (tp + d))) from (show Upd [ab] w w2 from HU.out.nil).fresh us (fun k hk => .inl hk)))
      clear us hM1 hM2
      go_wp2_with fail
      go_end0
      exact ⟨rfl, HR.out.1, HR.out.2⟩
  · have e1 : (y == g) = false := beq_eq_false_iff_ne.2 h1
    by_cases h2 : y = 0
    · have e2 : (y == 0) = true := beq_iff_eq.2 h2
      have hM1 : more es g vars x d = 0 := by rw [HM.out.1]; exact if_neg h1
      have hM2 : more es 0 vars x d = d := by rw [HM.out.2]; exact if_pos h2
      have us : Upd [ab] w2 (w2.setCell ⟨ab, 7, none⟩ (.int .i64 (bt + d))) := ((Upd.refl [ab] w2).set (.inl (by simp)) _)
      have HR := Lib.hid (And.intro (show An (w2.setCell ⟨ab, 7, none⟩ (.int .i64 (bt + d))) ab b mb vars es now S vl vlits vpl vh g C (tp + more es g vars x d) (bt + more es 0 vars x d) by rw [hM1, hM2]; rw [Int.add_zero]; exact H2.out.rebox us (H2.out.box.set 7 (.int .i64 (bt + d)))) (show Upd [ab] w (w2.setCell ⟨ab, 7, none⟩ (.int .i64 (bt + d))) from (show Upd [ab] w w2 from HU.out.nil).fresh us (fun k hk => .inl hk)))
      clear us hM1 hM2
      go_wp2_with fail
      go_end0
      exact ⟨rfl, HR.out.1, HR.out.2⟩
    · have e2 : (y == 0) = false := beq_eq_false_iff_ne.2 h2
      have hM1 : more es g vars x d = 0 := by rw [HM.out.1]; exact if_neg h1
      have hM2 : more es 0 vars x d = 0 := by rw [HM.out.2]; exact if_neg h2
      have us : Upd [ab] w2 w2 := (Upd.refl [ab] w2)
      have HR := Lib.hid (And.intro (show An w2 ab b mb vars es now S vl vlits vpl vh g C (tp + more es g vars x d) (bt + more es 0 vars x d) by rw [hM1, hM2]; rw [Int.add_zero]; rw [Int.add_zero]; exact H2.out.rebox us H2.out.box) (show Upd [ab] w w2 from (show Upd [ab] w w2 from HU.out.nil).fresh us (fun k hk => .inl hk)))
      clear us hM1 hM2
      go_wp2_with fail
      go_end0
      exact ⟨rfl, HR.out.1, HR.out.2⟩
/-- With one literal more. -/
def addB (C : Int → Bool) (x : Int) : Int → Bool := fun y => decide (y = x) || C y
theorem setF_add {C : Int → Bool} {x : Int} (y : Int) : (if y = x then some (.bool true) else setF C y) = setF (addB C x) y := by
  unfold setF addB
  by_cases h : y = x <;> simp [h]
theorem setF_del {C : Int → Bool} {x : Int} (y : Int) : (if y = x then none else setF C y) = setF (fun y => !decide (y = x) && C y) y := by
  unfold setF
  by_cases h : y = x <;> simp [h]
theorem An.remap {W W' : World} {C' : Int → Bool} (h : An W ab b mb vars es now S vl vlits vpl vh g C tp bt) (u : Upd [mb] W W') (m : MF Try.prog 3 W' mb (vars + 1) (setF C')) : An W' ab b mb vars es now S vl vlits vpl vh g C' tp bt :=
  ⟨h.box.upd u (by simp; exact h.ap.2.2), h.tr.upd u (fun k hk hm => by simp at hm; subst hm; exact h.ap.2.1 hk), m, h.ap⟩
set_option maxRecDepth 100000 in
set_option maxHeartbeats 4000000 in
theorem aput_calls (h : An w ab b mb vars es now S vl vlits vpl vh g C tp bt) (x : Int) (hx : -((vars + 1 : Nat) : Int) < x ∧ x < ((vars + 1 : Nat) : Int)) (ht : -1000000 ≤ tp ∧ tp ≤ 1000000) (hb : -1000000 ≤ bt ∧ bt ≤ 1000000) :
    Calls Try.prog 38 #[.pointer (some ⟨ab, 0, none⟩), .int .i64 x] w fun e w' => e = .returned (.tuple #[]) ∧ An w' ab b mb vars es now S vl vlits vpl vh g (addB C x) (tp + if C x = true then 0 else more es g vars x 1) (bt + if C x = true then 0 else more es 0 vars x 1) ∧ Upd [ab, mb] w w' := by
  have hv := h.tr.wf.max
  have hI : IsI64 x := ⟨by omega, by omega⟩
  have HA := Lib.hid h
  have c5 := h.box.cell (i := 5) rfl
  cases hc : C x with
  | true =>
    have HF := Lib.hid (show setF C x = some (.bool true) by unfold setF; rw [if_pos hc])
    have HN := Lib.hid (show An w ab b mb vars es now S vl vlits vpl vh g (addB C x) tp bt by
      have e : addB C x = C := funext fun y => by
        unfold addB
        by_cases h : y = x
        · subst h; rw [hc]; simp
        · simp [h]
      rw [e]
      exact h)
    clear h hc
    go_enter Try.func38, Try.ntmps38
    go_wp2_with (refine wpList_mflook Try.underlying3 Try.underlying72 infoBool _ _ rfl rfl mb _ _ x rfl rfl HA.out.mp hI ?_; rw [HF.out])
    refine bodyPost_ret (results_none rfl _ _ _) rfl ?_
    exact ⟨rfl, HN.out, Upd.refl _ _⟩
  | false =>
    have HF := Lib.hid (show setF C x = none by unfold setF; rw [if_neg (by rw [hc]; simp)])
    clear h hc
    go_enter Try.func38, Try.ntmps38
    go_upto_region 2 with (first | (refine wpList_mflook Try.underlying3 Try.underlying72 infoBool _ _ rfl rfl mb _ _ x rfl rfl HA.out.mp hI ?_; rw [HF.out]) | (refine wpList_mfput Try.underlying3 Try.underlying72 rfl _ _ _ rfl mb _ _ x (.bool true) rfl rfl rfl HA.out.mp hx ?_; intro w2 m2 u2))
    have H2 := Lib.hid (HA.out.remap u2 (m2.congr setF_add))
    have HU := Lib.hid u2
    clear m2 u2 c5
    have HC := Lib.hid (count_calls H2.out x 1 ⟨by omega, by omega⟩ (by omega) ht hb)
    go_wp2_with (go_at_call 67; (with_reducible refine HC.out.mono ?_); rintro e w3 ⟨rfl, h3, u3⟩)
    go_end0
    refine ⟨rfl, ?_, ?_⟩
    · exact h3
    · exact (show Upd [ab, mb] w w2 from ⟨HU.out.os, HU.out.tape, HU.out.output, HU.out.size, fun k h1 h2 => HU.out.block k h1 (fun h => h2 (by simp at h; simp [h]))⟩).fresh u3 (fun k hk => .inl (by simp at hk; simp [hk]))
end
end Learn
end Go.Proofs.Ytdhhohnaehdpkaa
end
section
open Go.RowKit
namespace Go.Proofs.Ytdhhohnaehdpkaa
open L
namespace Learn
open Trail
def numOf : Value → Int
  | .int _ q => q
  | _ => 0
def tabI (n : Nat) (f : Nat → Int) : List Int := (List.range n).map f
theorem tabI_length (n : Nat) (f : Nat → Int) : (tabI n f).length = n := by simp [tabI]
theorem tabI_get {n : Nat} {f : Nat → Int} {k : Nat} (h : k < n) : (tabI n f)[k]? = some (f k) := by simp [tabI, h]
theorem tabI_set {n : Nat} {f : Nat → Int} {k : Nat} {x : Int} : (ints (tabI n f)).set k (.int .i64 x) = ints (tabI n (fun j => if j = k then x else f j)) := by
  apply List.ext_getElem?
  intro i
  unfold ints tabI
  rw [List.getElem?_set]
  simp only [List.length_map, List.length_range, List.getElem?_map]
  by_cases hi : i < n
  · rw [List.getElem?_range hi]
    by_cases e : k = i
    · subst e; simp [hi]
    · simp [e, Ne.symm e]
  · rw [List.getElem?_eq_none (by simpa using Nat.le_of_not_lt hi)]
    by_cases e : k = i
    · subst e; simp [hi]
    · simp [e]
theorem tabI_congr {n : Nat} {f g : Nat → Int} (h : ∀ k, k < n → f k = g k) : tabI n f = tabI n g := by
  unfold tabI
  exact List.map_congr_left (fun k hk => h k (List.mem_range.1 hk))
theorem tabI_zero (n : Nat) : ints (tabI n fun _ => 0) = rows n fun _ => [.int .i64 0] := by
  unfold tabI ints rows
  rw [List.map_map]
  induction List.range n with
  | nil => rfl
  | cons a l ih => simp only [List.map_cons, List.flatMap_cons, ih]; rfl
/-- The place of a variable on the trail. -/
def place (es : Es) (v : Nat) : Int := ((pos es v - 1 : Nat) : Int)
def placeTo (es : Es) (i v : Nat) : Int := if pos es v ≤ i then ((pos es v - 1 : Nat) : Int) else 0
theorem at_get {es : Es} {i : Nat} (h : i < es.length) : at_ es i = es[i] := by unfold at_; rw [List.getD_eq_getElem?_getD, List.getElem?_eq_getElem h]; rfl
theorem pos_of {vars : Nat} {es : Es} (h : TWf vars es) {k : Nat} (hk : k < es.length) : pos es (at_ es k).1.natAbs = k + 1 := by
  have h0 : pos es (at_ es k).1.natAbs ≠ 0 := fun h0 => pos_zero.1 h0 _ (at_mem hk) rfl
  obtain ⟨h1, h2⟩ := pos_at h0
  have hn := h.nodup
  generalize pos es (at_ es k).1.natAbs = m at *
  rw [at_get h2, at_get hk] at h1
  have e1 : (es.map fun e => e.1.natAbs)[m - 1]'(by simpa using h2) = (es.map fun e => e.1.natAbs)[k]'(by simpa using hk) := by simpa using h1
  have := (List.getElem_inj hn).1 e1
  omega
theorem placeTo_succ {vars : Nat} {es : Es} (h : TWf vars es) {i : Nat} (hi : i < es.length) (v : Nat) : (if v = (at_ es i).1.natAbs then (i : Int) else placeTo es i v) = placeTo es (i + 1) v := by
  have h1 := pos_of h hi
  unfold placeTo
  by_cases e : v = (at_ es i).1.natAbs
  · subst e; rw [if_pos rfl, h1, if_pos (by omega)]; omega
  · rw [if_neg e]
    by_cases e2 : pos es v = i + 1
    · have := (pos_at (v := v) (es := es) (by omega)).1
      rw [e2] at this
      exact absurd this.symm e
    · by_cases e3 : pos es v ≤ i
      · rw [if_pos e3, if_pos (by omega)]
      · rw [if_neg e3, if_neg (by omega)]
theorem placeTo_all {es : Es} (v : Nat) : placeTo es es.length v = place es v := by
  unfold placeTo place
  rw [if_pos (pos_le es v)]
theorem placeTo_zero {es : Es} (v : Nat) : placeTo es 0 v = 0 := by
  unfold placeTo
  by_cases h : pos es v ≤ 0
  · rw [if_pos h]; omega
  · rw [if_neg h]
section
variable {w : World} {b vars : Nat} {es : Es} {now : Int} {S : List Nat}
set_option maxRecDepth 100000 in
set_option maxHeartbeats 4000000 in
theorem newA_calls (h : Tr w b vars es now S) (hv2 : vars ≤ 65536) {al : Option Addr} {nl cl : Nat} :
    Calls Try.prog 36 #[.slice al nl cl, .pointer (some ⟨b, 0, none⟩)] w fun e w' => ∃ (ab gL gP mb : Nat), e = .returned (.pointer (some ⟨ab, 0, none⟩)) ∧
      An w' ab b mb vars es now S (.slice al nl cl) (.slice (some ⟨gL, 0, none⟩) es.length es.length) (.slice (some ⟨gP, 0, none⟩) (vars + 1) (vars + 1)) (.slice none 0 0) 0 (fun _ => false) 0 0 ∧
      Blk w' gL (ints (lits es)) 3 ∧ Blk w' gP (ints (tabI (vars + 1) (place es))) 3 ∧ Upd [] w w' ∧ w.heap.size ≤ gL ∧ gL < gP ∧ gP < mb ∧ mb < ab := by
  have hv := h.wf.max
  have hlen := h.wf.len
  have HT := Lib.hid h
  have HL := Lib.hid (Lits_calls h)
  clear h
  have hmm := @run_makeMap Try.prog
  go_enter Try.func36, Try.ntmps36
  go_upto_region 2 with (first | (go_at_call 16; (with_reducible refine HL.out.mono ?_); rintro e w1 ⟨gL, rfl, hgL, hB1, u1⟩; have HT1 := Lib.hid (HT.out.upd u1 (by simp))) | (go_at_call 53; (with_reducible refine (Vars_calls HT1.out).mono ?_); rintro e _ ⟨rfl, rfl⟩) | (refine wpList_mk rfl _ _ _ rfl 3 1 8 _ Try.underlying22 infoInt rfl (by decide) _ _ _ _ (vars + 1) rfl rfl rfl rfl (by omega) (by omega) ?_; change wpList _ _ _ _ _ (w1.alloc (.cells (rows (vars + 1) fun _ => [.int .i64 0]).toArray 3)); rw [← tabI_zero]))
  have hlt1 := hB1.lt
  have hS : ∀ k ∈ S, k < w1.heap.size := HT1.out.lt
  have BP := ((Blk.new w1 (ints (tabI (vars + 1) fun _ => 0)) 3).alloc (.map #[] 0)).alloc (.cells #[.slice al nl cl, .pointer (some ⟨b, 0, none⟩), .slice (some ⟨w.heap.size, 0, none⟩) es.length es.length, .slice (some ⟨w1.heap.size, 0, none⟩) (vars + 1) (vars + 1), .int .i64 0, .map (some (w1.heap.size + 1)), .int .i64 0, .int .i64 0, .slice none 0 0] 74)
  have s1 : (w1.alloc (.cells (ints (tabI (vars + 1) fun _ => 0)).toArray 3)).heap.size = w1.heap.size + 1 := by simp
  have s2 : ((w1.alloc (.cells (ints (tabI (vars + 1) fun _ => 0)).toArray 3)).alloc (.map #[] 0)).heap.size = w1.heap.size + 1 + 1 := by simp
  have BA := Blk.new ((w1.alloc (.cells (ints (tabI (vars + 1) fun _ => 0)).toArray 3)).alloc (.map #[] 0)) [.slice al nl cl, .pointer (some ⟨b, 0, none⟩), .slice (some ⟨w.heap.size, 0, none⟩) es.length es.length, .slice (some ⟨w1.heap.size, 0, none⟩) (vars + 1) (vars + 1), .int .i64 0, .map (some (w1.heap.size + 1)), .int .i64 0, .int .i64 0, .slice none 0 0] 74
  have u3 := (Upd.refl [] ((w1.alloc (.cells (ints (tabI (vars + 1) fun _ => 0)).toArray 3)).alloc (.map #[] 0))).alloc (.cells #[.slice al nl cl, .pointer (some ⟨b, 0, none⟩), .slice (some ⟨w.heap.size, 0, none⟩) es.length es.length, .slice (some ⟨w1.heap.size, 0, none⟩) (vars + 1) (vars + 1), .int .i64 0, .map (some (w1.heap.size + 1)), .int .i64 0, .int .i64 0, .slice none 0 0] 74)
  have m3 := (MF.new (w1.alloc (.cells (ints (tabI (vars + 1) fun _ => 0)).toArray 3)) Try.prog 3 (vars + 1) (by omega)).upd u3 (by simp)
  have uW := (((Upd.refl [] w1).alloc (.cells (ints (tabI (vars + 1) fun _ => 0)).toArray 3)).alloc (.map #[] 0)).step u3
  rw [s2] at BA
  rw [s1] at m3
  have HB := Lib.hid (And.intro BP (And.intro BA (And.intro m3 (And.intro (HT1.out.upd uW (by simp)) (And.intro (hB1.upd uW (by simp)) (u1.step uW))))))
  clear BP BA u3 m3 uW s1 s2 hB1 u1 HT1 HL hmm
  generalize hab : Array.size (World.heap w1) + 1 + 1 = ab at *
  generalize hmb : Array.size (World.heap w1) + 1 = mb at *
  generalize hgP : Array.size (World.heap w1) = gP at *
  rw [← hgL] at HB ⊢
  have hne : w.heap.size ≤ gL ∧ gL < gP ∧ gP < mb ∧ mb < ab := by omega
  clear hab hmb hgP hgL hlt1
  generalize (((w1.alloc (.cells (ints (tabI (vars + 1) fun _ => 0)).toArray 3)).alloc (.map #[] 0)).alloc (.cells #[.slice al nl cl, .pointer (some ⟨b, 0, none⟩), .slice (some ⟨gL, 0, none⟩) es.length es.length, .slice (some ⟨gP, 0, none⟩) (vars + 1) (vars + 1), .int .i64 0, .map (some mb), .int .i64 0, .int .i64 0, .slice none 0 0] 74)) = w4 at *
  have H4 := Lib.hid (show Blk w4 gP (ints (tabI (vars + 1) (placeTo es 0))) 3 ∧ An w4 ab b mb vars es now S (.slice al nl cl) (.slice (some ⟨gL, 0, none⟩) es.length es.length) (.slice (some ⟨gP, 0, none⟩) (vars + 1) (vars + 1)) (.slice none 0 0) 0 (fun _ => false) 0 0 ∧ Blk w4 gL (ints (lits es)) 3 ∧ Upd [] w w4 from
    ⟨by rw [tabI_congr (g := fun _ => 0) (fun k _ => placeTo_zero k)]; exact HB.out.1, ⟨HB.out.2.1, HB.out.2.2.2.1, HB.out.2.2.1.congr (fun x => by simp [setF]), ⟨fun hm => by have := hS _ hm; omega, fun hm => by have := hS _ hm; omega, by omega⟩⟩, HB.out.2.2.2.2.1, HB.out.2.2.2.2.2⟩)
  have hSP : ∀ k ∈ S, k ≠ gP := fun k hk => by have := hS k hk; omega
  have HSP := Lib.hid hSP
  clear HB hS hSP
  have c2 := H4.out.2.1.box.cell (i := 2) rfl
  go_wp2_with fail
  go_loopw [24] (fun i wr => ∃ k : Nat, i = .int .i64 k ∧ k ≤ es.length ∧ Blk wr gP (ints (tabI (vars + 1) (placeTo es k))) 3 ∧ An wr ab b mb vars es now S (.slice al nl cl) (.slice (some ⟨gL, 0, none⟩) es.length es.length) (.slice (some ⟨gP, 0, none⟩) (vars + 1) (vars + 1)) (.slice none 0 0) 0 (fun _ => false) 0 0 ∧ Blk wr gL (ints (lits es)) 3 ∧ Upd [] w wr) (fun i _ => es.length - (numOf i).toNat)
  case atStart => exact ⟨0, rfl, Nat.zero_le _, H4.out⟩
  case round =>
    obtain ⟨wo, rfl⟩ : ∃ wo : World, wo = wr := ⟨_, rfl⟩
    obtain ⟨k, rfl, hk, hI⟩ := hrel
    have HI := Lib.hid hI
    clear H4 c2 hI
    by_cases hlt : k < es.length
    · have hki : (k : Int) < es.length := by omega
      have c0 := HI.out.2.2.1.cell (i := k) (ints_get (lits_at hlt))
      have hlit := HT.out.wf.lit _ (at_mem hlt)
      have HPS := Lib.hid (fun v => placeTo_succ HT.out.wf hlt v)
      have c3 := HI.out.2.1.box.cell (i := 3) rfl
      generalize (at_ es k).1 = x at *
      have HV := Lib.hid (fun (W : World) => lvar_calls x W ⟨by omega, by omega⟩)
      have hx1 : (x.natAbs : Int) < ((vars + 1 : Nat) : Int) := by omega
      have hx2 : x.natAbs < vars + 1 := by omega
      have hx3 : (x.natAbs : Int) < (vars : Int) + 1 := by omega
      generalize x.natAbs = y at *
      have cp := HI.out.1.cell (i := y) (ints_get (tabI_get (f := placeTo es k) hx2))
      have fp := HI.out.1.free y
      have us : Upd [gP] wo (wo.setCell ⟨gP, y, none⟩ (.int .i64 k)).drew := ((Upd.refl [gP] wo).set (.inl (by simp)) _).drew
      have hB := (HI.out.1.set y (.int .i64 k)).drew
      rw [tabI_set, tabI_congr (fun v _ => HPS.out v)] at hB
      have HX := Lib.hid (And.intro hB (And.intro (show An (wo.setCell ⟨gP, y, none⟩ (.int .i64 k)).drew ab b mb vars es now S (.slice al nl cl) (.slice (some ⟨gL, 0, none⟩) es.length es.length) (.slice (some ⟨gP, 0, none⟩) (vars + 1) (vars + 1)) (.slice none 0 0) 0 (fun _ => false) 0 0 from ⟨HI.out.2.1.box.upd us (by simp; omega), HI.out.2.1.tr.upd us (fun k hk hm => by simp at hm; exact HSP.out k hk hm), HI.out.2.1.mp.upd us (by simp; omega), HI.out.2.1.ap⟩) (And.intro (HI.out.2.2.1.upd us (by simp; omega)) (HI.out.2.2.2.fresh us (fun k hk => .inr (by simp at hk; omega))))))
      clear us hB
      go_upto_region 5 with fail
      refine wp_region_ord 8 1 [0, 1, 2, 3, 4, 6, 7] [3] [0, 1, 2, 3, 4, 6, 5, 7, 8] (fun w' => ∃ x : Ext wo, w' = x.val) (by kernel_rfl) (by kernel_rfl) (Ext.of ((Upd.refl _ _).drew)) ?_
      repeat (first | (refine wpOrd_load rfl rfl rfl rfl (fun K hK => ?_); go_big_quiet_step (fail); refine wpQuiet_nil ?_; refine hK _ ?_; clear hK K) | (refine wpOrd_free rfl rfl rfl (fun K hK => ?_); go_big_quiet_step (fail); refine wpQuiet_nil ?_; refine hK _ ?_; clear hK K))
      refine wpOrd_fix rfl rfl (fun K hK => ?_)
      go_wp2_with (go_at_call 66; refine (HV.out _).mono ?_; rintro e _ ⟨rfl, rfl⟩)
      refine ⟨fun _ => Ext.of ((Upd.refl _ wo).drew), ?_⟩
      repeat (first | (refine wpOrd_load rfl rfl rfl rfl (fun K hK => ?_); go_big_quiet_step (fail); refine wpQuiet_nil ?_; refine hK _ ?_; clear hK K) | (refine wpOrd_free rfl rfl rfl (fun K hK => ?_); go_big_quiet_step (fail); refine wpQuiet_nil ?_; refine hK _ ?_; clear hK K))
      refine wpOrd_fix rfl rfl (fun K hK => ?_)
      go_wp2_with fail
      refine ⟨fun hC => absurd hC (by decide), ?_⟩
      refine wpOrd_nil ?_
      go_wp2_with fail
      exact ⟨⟨k + 1, by go_num, by omega, HX.out⟩, by simp [numOf]; omega⟩
    · have hki : ¬ (k : Int) < es.length := by omega
      have HF := Lib.hid (show Blk wo gP (ints (tabI (vars + 1) (place es))) 3 by
        have hkn : k = es.length := by omega
        have h := HI.out.1
        rw [hkn, tabI_congr (fun v _ => placeTo_all v)] at h
        exact h)
      clear hlt
      go_wp2_with fail
      go_ret
      exact ⟨ab, rfl, gL, gP, mb, HI.out.2.1, HI.out.2.2.1, HF.out, HI.out.2.2.2, hne⟩
end
end Learn
end Go.Proofs.Ytdhhohnaehdpkaa
end
