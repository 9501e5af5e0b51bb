/- Walks through package learn: the closure of result, the sort by variables. Conditions: none. -/
import Derived.Test.YtdhhohnaehdpkaaLrnE
import Derived.Test.YtdhhohnaehdpkaaSort2
set_option linter.unusedVariables false
set_option linter.unusedSimpArgs false
set_option linter.unusedSectionVars false
open Go.RowKit
namespace Go.Proofs.Ytdhhohnaehdpkaa
open L
namespace Learn
open Trail Cla R01 R14 Go.Sort
def vcf (x y : Int) : Int := Lib.compareInt (x.natAbs : Int) (y.natAbs : Int)
theorem vcf_lt (x y : Int) : vcf x y < 0 ↔ x.natAbs < y.natAbs := by
  unfold vcf Lib.compareInt
  split
  · omega
  · split <;> omega
section
variable {w : World}
theorem vclo_calls (x y : Int) (hx : -9223372036854775808 < x ∧ x ≤ 9223372036854775807) (hy : -9223372036854775808 < y ∧ y ≤ 9223372036854775807) : Calls Try.prog 71 #[.int .i64 x, .int .i64 y] w fun e w' => e = .returned (.int .i64 (vcf x y)) ∧ w = w' := by
  have HX := Lib.hid (fun w => lvar_calls x w hx)
  have HY := Lib.hid (fun w => lvar_calls y w hy)
  have HC := Lib.hid (fun w => Compare_calls (w := w) (x.natAbs : Int) (y.natAbs : Int))
  have HV := Lib.hid (show vcf x y = Lib.compareInt (x.natAbs : Int) (y.natAbs : Int) from rfl)
  rw [HV.out]
  generalize Lib.compareInt (x.natAbs : Int) (y.natAbs : Int) = r at *
  clear HV hx hy
  generalize x.natAbs = nx at *
  generalize y.natAbs = ny at *
  go_enter Try.func71, Try.ntmps71
  go_wp2_with (first | (go_at_call 66; (with_reducible refine (HX.out _).mono ?_); rintro e _ ⟨rfl, rfl⟩) | (go_at_call 66; (with_reducible refine (HY.out _).mono ?_); rintro e _ ⟨rfl, rfl⟩) | (go_at_call 72; (with_reducible refine (HC.out _).mono ?_); rintro e _ ⟨rfl, rfl⟩))
  go_ret
  exact ⟨rfl, rfl⟩
end
theorem ord_inj {c : List Int} (ho : Ord c) {a b : Int} (ha : a ∈ c) (hb : b ∈ c) (e : a.natAbs = b.natAbs) : a = b := by
  obtain ⟨i, hi, rfl⟩ := List.getElem_of_mem ha
  obtain ⟨j, hj, rfl⟩ := List.getElem_of_mem hb
  have h := List.pairwise_iff_getElem.1 ho
  rcases Nat.lt_trichotomy i j with hij | hij | hij
  · have := h i j hi hj hij; omega
  · subst hij; rfl
  · have := h j i hj hi hij; omega
theorem grow_nil (w : World) : grow w #[] = w := by simp [grow]
/-- The literals of a clause. -/
abbrev InD (d : List Int) := { x : Int // x ∈ d }
def encD {d : List Int} (x : InD d) : Value := .int .i64 x.1
def cfD {d : List Int} (x y : InD d) : Int := vcf x.1 y.1
section
variable {d : List Int}
theorem swoD : SWO (ltOf (cfD (d := d))) where
  irrefl x := by simp only [ltOf, decide_eq_false_iff_not, cfD, vcf_lt]; omega
  trans x y z h1 h2 := by simp only [ltOf, decide_eq_true_eq, cfD, vcf_lt] at *; omega
  ntrans x y z h1 h2 := by simp only [ltOf, decide_eq_false_iff_not, cfD, vcf_lt] at *; omega
theorem totD (hd : Ord d) (x y : InD d) (h1 : ltOf cfD x y = false) (h2 : ltOf cfD y x = false) : x = y := by
  simp only [ltOf, decide_eq_false_iff_not, cfD, vcf_lt] at *
  exact Subtype.ext (ord_inj hd x.2 y.2 (by omega))
def toD (xs : List Int) (h : ∀ x ∈ xs, x ∈ d) : List (InD d) := xs.attach.map fun x => ⟨x.1, h x.1 x.2⟩
theorem toD_val (xs : List Int) (h : ∀ x ∈ xs, x ∈ d) : (toD xs h).map (·.1) = xs := by
  unfold toD
  rw [List.map_map]
  exact List.attach_map_subtype_val xs
theorem toD_enc (xs : List Int) (h : ∀ x ∈ xs, x ∈ d) : (toD xs h).map encD = ints xs := by
  have : (toD xs h).map encD = ((toD xs h).map (·.1)).map (Value.int .i64) := by rw [List.map_map]; rfl
  rw [this, toD_val]
  rfl
theorem toD_sort (xs : List Int) (h : ∀ x ∈ xs, x ∈ d) (hd : Ord d) (hn : xs.Nodup) (hm : ∀ x, x ∈ xs ↔ x ∈ d) : ((toD xs h).mergeSort fun x y => !(ltOf cfD) y x).map encD = ints d := by
  have e1 : ((toD xs h).mergeSort fun x y => !(ltOf cfD) y x).map (·.1) = xs.mergeSort (fun x y => !decide (vcf y x < 0)) := by
    have e0 := List.map_mergeSort (r := fun x y : InD d => !(ltOf cfD) y x) (s := fun x y : Int => !decide (vcf y x < 0)) (f := fun x : InD d => x.1) (l := toD xs h) (fun a _ b _ => rfl)
    rw [e0, toD_val]
  have hp := List.mergeSort_perm xs (fun x y => !decide (vcf y x < 0))
  have hs : (xs.mergeSort (fun x y => !decide (vcf y x < 0))).Pairwise (fun x y => (!decide (vcf y x < 0)) = true) := by
    refine List.pairwise_mergeSort ?_ ?_ xs
    · intro a b c h1 h2
      simp only [Bool.not_eq_true', decide_eq_false_iff_not, vcf_lt] at *
      omega
    · intro a b
      simp only [Bool.or_eq_true, Bool.not_eq_true', decide_eq_false_iff_not, vcf_lt]
      omega
  have ho : Ord (xs.mergeSort (fun x y => !decide (vcf y x < 0))) := by
    have hn2 : (xs.mergeSort (fun x y => !decide (vcf y x < 0))).Nodup := hp.nodup_iff.2 hn
    unfold Cla.Ord
    have h3 := List.Pairwise.and hs hn2
    refine List.Pairwise.imp_of_mem ?_ h3
    intro a b ha hb hab
    have h4 := hab.1
    simp only [Bool.not_eq_true', decide_eq_false_iff_not, vcf_lt] at h4
    have ha' := (hm a).1 (hp.mem_iff.1 ha)
    have hb' := (hm b).1 (hp.mem_iff.1 hb)
    have : a.natAbs ≠ b.natAbs := fun e => hab.2 (ord_inj hd ha' hb' e)
    omega
  have e2 : xs.mergeSort (fun x y => !decide (vcf y x < 0)) = d := ord_unique ho hd (fun x => (hp.mem_iff).trans (hm x))
  have : ∀ l : List (InD d), l.map encD = (l.map (·.1)).map (Value.int .i64) := fun l => by rw [List.map_map]; rfl
  rw [this, e1, e2]
  rfl
end
section
variable {w : World}
theorem perm_of {xs d : List Int} (hd : Ord d) (hn : xs.Nodup) (hm : ∀ x, x ∈ xs ↔ x ∈ d) : xs.Perm d := (List.perm_ext_iff_of_nodup hn (ord_nodup hd)).2 hm
set_option maxRecDepth 100000 in
theorem VSort_calls {w0 : World} {a : Option Addr} {cap : Nat} {xs d : List Int} (h : Own w0 (.slice a xs.length cap) xs w) (hd : Ord d) (hn : xs.Nodup) (hm : ∀ x, x ∈ xs ↔ x ∈ d) (hr : ∀ x ∈ d, -9223372036854775808 < x ∧ x ≤ 9223372036854775807) (hl : xs.length ≤ 1000000) :
    Calls Try.prog 70 #[.slice a xs.length cap, .func (.func 71) #[] #[]] w fun e w' => e = .returned (.tuple #[]) ∧ Own w0 (.slice a xs.length cap) d w' := by
  have hdl : d.length = xs.length := (perm_of hd hn hm).length_eq.symm
  by_cases h0 : xs = []
  · subst h0
    have hS := Try.slices_SortFunc_none (α := Int) a cap (.func (.func 71) #[] #[]) w
    refine hS.mono ?_
    rintro e w' ⟨rfl, rfl⟩
    exact ⟨rfl, by rw [List.eq_nil_of_length_eq_zero (l := d) hdl]; exact h⟩
  · obtain ⟨hlen, hrow⟩ := h.row
    rcases hrow with ⟨_, h2⟩ | ⟨g, cap', cur, he, _, hg, hnc, hcm, hcs, htake⟩
    · exact absurd (List.eq_nil_of_length_eq_zero h2) h0
    · cases he
      have hB : Blk w g cur.toList 3 := by unfold Blk; rw [Array.toArray_toList]; exact hg
      have hcl : xs.length ≤ cur.toList.length := by have := Array.length_toList (xs := cur); omega
      have htk : cur.toList.take xs.length = ints xs := by simpa using htake
      have eg : ∀ args w, (callFunc 71 args).run Try.prog w = .ok (.enter 71 args) w := enters_of Try.func71 (by kernel_rfl) rfl
      have hxd : ∀ x ∈ xs, x ∈ d := fun x hx => (hm x).1 hx
      haveI : Inhabited (InD d) := ⟨⟨xs.head h0, hxd _ (List.head_mem h0)⟩⟩
      have hNl : (toD xs hxd).length = xs.length := by have := congrArg List.length (toD_val xs hxd); simpa using this
      have hH : Holds encD w g 0 (toD xs hxd).toArray := fun j hj => by
        simp only [List.size_toArray] at hj
        have hj' : j < xs.length := by omega
        refine ⟨?_, hB.free _⟩
        rw [Nat.zero_add]
        have e1 : (ints xs)[j]? = some (encD ((toD xs hxd).toArray[j]!)) := by
          rw [← toD_enc xs hxd, List.getElem?_map, List.getElem?_eq_getElem hj]
          simp [hj]
        refine hB.cell ?_
        rw [← htk, List.getElem?_take, if_pos hj'] at e1
        exact e1
      have hcmp : CmpLays1 Try.prog 71 #[] encD (cfD (d := d)) g 0 (toD xs hxd).toArray.size w := fun m os dk _ x y => by
        refine (vclo_calls (w := sortWorld encD w g 0 m dk os) x.1 y.1 (hr _ x.2) (hr _ y.2)).mono ?_
        rintro e w' ⟨he, rfl⟩
        exact ⟨he, 0, #[], by rw [grow_nil]; rfl⟩
      have hS := Try.slices_SortFunc_total encD (fun _ => rfl) (cfD (d := d)) swoD 71 #[] g 0 cap (toD xs hxd).toArray w eg hcmp hH hB.lt (by simp; omega) (totD hd)
      rw [show (toD xs hxd).toArray.size = xs.length by simpa using hNl] at hS
      refine hS.mono ?_
      rintro e w' ⟨rfl, n, os, rfl⟩
      have hso := toD_sort xs hxd hd hn hm
      generalize ((toD xs hxd).toArray.toList.mergeSort fun x y => !(ltOf cfD) y x) = srtd at *
      have hsd : srtd.length = xs.length := by
        have := congrArg List.length hso
        simpa [ints, hdl] using this
      have hbs := blk_sorted encD hB srtd (by omega) n os
      rw [hso, hsd] at hbs
      refine ⟨rfl, ⟨by rw [ints_length, hdl]; simp, .inr ⟨g, cap, (ints d ++ cur.toList.drop xs.length).toArray, by rw [hdl], Nat.zero_le _, hbs.1, by rw [hdl]; exact hnc, hcm, ?_, ?_⟩⟩, h.fresh, h.u.fresh hbs.2 (fun j hj => .inr (by simp at hj; subst hj; exact h.fresh _ rfl))⟩
      · simp [ints_length, hdl]; omega
      · rw [List.take_left' (by rw [ints_length]; simp)]
end
/-- The greatest level but one, of one literal more. -/
theorem second_snoc (es : Es) (g : Int) (D : List Int) (x : Int) : second es g (D ++ [x]) = if lvl es x ≠ g then max (second es g D) (lvl es x) else second es g D := by
  unfold second
  rw [List.foldl_append]
  rfl
theorem second_perm {es : Es} {g : Int} {D d : List Int} (h : D.Perm d) : second es g D = second es g d := by
  unfold second
  refine List.Perm.foldl_eq' h (fun x _ y _ z => ?_) 0
  split <;> split <;> omega
theorem setF_is {C : Int → Bool} {x : Int} {v : Value} (h : setF C x = some v) : C x = true ∧ v = .bool true := by
  unfold setF at h
  by_cases hc : C x = true
  · rw [if_pos hc] at h; cases h; exact ⟨hc, rfl⟩
  · rw [if_neg hc] at h; cases h
theorem setF_some {C : Int → Bool} {x : Int} : (setF C x).isSome = C x := by
  unfold setF
  cases h : C x <;> simp
section
variable {w : World} {ab b mb vars : Nat} {es : Es} {now : Int} {S : List Nat} {vl vlits vpl vh : Value} {g : Int} {C : Int → Bool} {tp bt : Int} {d : List Int}
set_option maxRecDepth 100000 in
set_option maxHeartbeats 8000000 in
theorem result_calls (h : An w ab b mb vars es now S vl vlits vpl vh g C tp bt) (hC : ∀ y, C y = true ↔ y ∈ d) (hd : Good vars es d) (hv : vars ≤ 65536) :
    Calls Try.prog 41 #[.pointer (some ⟨ab, 0, none⟩)] w fun e w' => ∃ sv, e = .returned (.tuple #[sv, .int .i64 (second es g d)]) ∧ Own w sv d w' := by
  have hlv : ∀ y ∈ d, 1 ≤ y.natAbs ∧ y.natAbs ≤ vars := fun y hy => by
    have h0 := (tval_neg (hd.no y hy)).1
    unfold isLit at h0
    simp only [decide_eq_true_eq] at h0
    omega
  have c5 := h.box.cell (i := 5) rfl
  have c4 := h.box.cell (i := 4) rfl
  have hmb := h.mp.lt
  have HH := Lib.hid (And.intro h (And.intro hC (And.intro hd hlv)))
  clear h hC hd hlv
  go_enter Try.func41, Try.ntmps41
  go_wp2_with (first | (at_range; refine wpList_mfrange (k := 3) Try.underlying3 Try.underlying72 rfl _ rfl mb (vars + 1) _ rfl HH.out.1.mp ?_; intro w1 cnt0 hrg0 hu0 hs0) | go_in)
  go_frame
  go_loopw [4, 5] (fun v0 mx wr => ∃ (v : Value) (left : Int → Bool) (cnt : Nat) (D : List Int), v = v0 ∧ OwnV w1 3 1 v D.length (ints D) wr ∧ D.Nodup ∧ (∀ z, z ∈ D ↔ z ∈ d ∧ left z = false) ∧ mx = .int .i64 (second es g D) ∧ RG Try.prog 3 wr mb w.heap.size (vars + 1) (setF C) left cnt ∧ Upd [] w wr) (fun _ _ wr => wr.rangeLeft mb w.heap.size)
  case atStart =>
    refine ⟨_, _, _, [], rfl, OwnV.nil _ _ _ _, List.nodup_nil, fun z => ?_, rfl, hrg0, hu0⟩
    constructor
    · exact fun h => absurd h (List.not_mem_nil)
    · rintro ⟨h1, h2⟩
      rw [setF_some, (HH.out.2.1 z).2 h1] at h2
      cases h2
  case round =>
    obtain ⟨v, left, cnt, D, rfl, hO, hn, hD, rfl, hrg, hu⟩ := hrel
    have hp : D.length ≤ vars := by
      have hh : ∀ y ∈ D, 1 ≤ y.natAbs ∧ y.natAbs ≤ vars := fun y hy => HH.out.2.2.2 y ((hD y).1 hy).1
      have hnd : (D.map Int.natAbs).Nodup := List.pairwise_map.2 (List.Pairwise.imp_of_mem (fun {a b} ha hb hab e => hab (ord_inj HH.out.2.2.1.ord ((hD a).1 ha).1 ((hD b).1 hb).1 e)) hn)
      have := nodup_le vars (D.map Int.natAbs) hnd (fun z hz => by
        obtain ⟨y, hy, rfl⟩ := List.mem_map.1 hz
        exact hh y hy)
      simpa using this
    have HO := Lib.hid (And.intro hO (And.intro hn (And.intro hD hu)))
    clear hO hn hD hu
    have HSE := Lib.hid (show second es g D = second es g D from rfl)
    generalize hse : second es g D = m at HSE ⊢
    have HM := Lib.hid hse
    clear hse HSE
    go_wp2_with (first | (at_next; refine wpList_mfnext (k := 3) Try.underlying3 rfl _ rfl mb w.heap.size (vars + 1) _ left cnt rfl hrg ?_ ?_) | go_in)
    · intro hc0 hl0
      have hD : ∀ z, z ∈ D ↔ z ∈ d := fun z => by
        rw [HO.out.2.2.1 z]
        constructor
        · exact fun h => h.1
        · intro h
          have := HH.out.2.2.2 z h
          exact ⟨h, hl0 z ⟨by omega, by omega⟩⟩
      have own : Own w v D wr := ⟨HO.out.1.row, fun q hq => by have := HO.out.1.fresh q hq; omega, HO.out.2.2.2⟩
      have hm : m = second es g d := by rw [← HM.out]; exact second_perm (perm_of HH.out.2.2.1.ord HO.out.2.1 hD)
      subst hm
      obtain ⟨a, cap, rfl, _⟩ := own.form
      have HV := Lib.hid (VSort_calls own HH.out.2.2.1.ord HO.out.2.1 hD (fun x hx => by have := HH.out.2.2.2 x hx; constructor <;> omega) (by omega))
      clear own hc0 hl0 hrg
      go_wp2_with (go_at_call 70; (with_reducible refine HV.out.mono ?_); rintro e w5 ⟨rfl, o5⟩)
      go_ret2
      exact ⟨_, rfl, o5⟩
    · intro x v2 w2 cnt1 hx0 hx hl hf hrg1 hlt hu1 hen
      obtain ⟨hcx, rfl⟩ := setF_is hf
      have hxd := (HH.out.2.1 x).1 hcx
      have hT := HH.out.2.2.1.no x hxd
      have HLV := Lib.hid (lvl_eq hT)
      have hu2 : Upd [] w w2 := HO.out.2.2.2.fresh hu1 (fun k hk => .inr (by simp at hk; omega))
      have hown2 : OwnV w1 3 1 v D.length (ints D) w2 := HO.out.1.upd hu1 (fun b hb e => by simp at hb; have := HO.out.1.fresh b e; omega)
      have hsz1 : w1.heap.size ≤ w2.heap.size := by
        have h1 := hrg1.lt
        have h2 := hu1.size
        have h3 := hrg.lt
        omega
      have hnx : x ∉ D := fun hm => by have := ((HO.out.2.2.1 x).1 hm).2; rw [hl] at this; cases this
      have hDx : ∀ z, z ∈ D ++ [x] ↔ z ∈ d ∧ (left z && !decide (z = x)) = false := fun z => by
        rw [List.mem_append, List.mem_singleton, HO.out.2.2.1 z]
        by_cases e : z = x
        · subst e; simp [hxd]
        · simp [e]
      have hnd : (D ++ [x]).Nodup := List.nodup_append.2 ⟨HO.out.2.1, by simp, fun a ha b hb e => by simp at hb; subst hb; exact hnx (e ▸ ha)⟩
      have HS := Lib.hid (And.intro hDx (And.intro hnd (And.intro hlt (And.intro (second_snoc es g D x) (And.intro hu2 (And.intro hown2 (And.intro hrg hT)))))))
      clear hDx hnd hlt hnx hu2 hown2 hT
      go_upto_region 6 with fail
      refine wp_region_lit ?_
      refine wpList_cutH 2 (fun K hK => ?_)
      simp only [List.take_succ_cons, List.take_zero]
      go_wp2_with fail
      refine Halt_.intro ?_; try simp only [List.drop_succ_cons, List.drop_zero]
      refine wpList_push rfl rfl _ _ _ _ rfl rfl rfl 3 1 8 _ Try.underlying22 Trail.infoInt rfl (by decide) (by decide) (.int .i64 x) [.int .i64 x] rfl rfl rfl (ints_one [x]) _ _ _ HS.out.2.2.2.2.2.1.row rfl rfl (by unfold maxLen; omega) (by omega) ?_
      intro g3 cap3 w3 o3 u3 k3
      simp only [Act.put, List.setIfInBounds_toArray, List.set_cons_zero, List.set_cons_succ]
      have N3 := HS.out.2.2.2.2.2.1.push hsz1 o3 k3
      have hU3 : Upd [] w w3 := HS.out.2.2.2.2.1.fresh u3 (fun q hq => .inr (by have := HS.out.2.2.2.2.2.1.fresh q (by simpa using hq); omega))
      have hrg3 := hrg1.upd u3 (fun hm => by have := HS.out.2.2.2.2.2.1.fresh mb (by simpa using hm); omega) (fun hm => by have := HS.out.2.2.2.2.2.1.fresh w.heap.size (by simpa using hm); omega)
      have HL0 := alevel_calls (HH.out.1.ext hU3) x ⟨by omega, by omega⟩
      rw [HLV.out] at HL0
      have HL := Lib.hid HL0
      have H3 := Lib.hid (And.intro N3 (And.intro hU3 hrg3))
      clear N3 hU3 hrg3 HL0 o3 u3 k3 hrg1 hsz1
      have HLG := Lib.hid (show lvl es x = lvl es x from rfl)
      generalize hle : lvl es x = l at HLG HL ⊢
      have HLE := Lib.hid hle
      clear hle HLG
      go_upto_region 8 with (go_at_call 37; (with_reducible refine HL.out.mono ?_); rintro e w4 ⟨rfl, u4⟩)
      have hU4 : Upd [] w w4 := H3.out.2.1.step u4
      have c4' := hU4.some c4 (by simp)
      have H4 := Lib.hid (And.intro (H3.out.1.upd u4 (by simp)) (And.intro hU4 (H3.out.2.2.upd u4 (by simp) (by simp))))
      clear hU4 u4
      have hms : w4.rangeLeft mb w.heap.size < wr.rangeLeft mb w.heap.size := by rw [H4.out.2.2.left_eq, hrg.left_eq]; exact HS.out.2.2.1
      have HMS := Lib.hid hms
      clear hms hrg
      have hlen1 : (D ++ [x]).length = D.length + 1 := by simp
      have hints : ints (D ++ [x]) = ints D ++ [.int .i64 x] := by simp [ints]
      by_cases hlg : l = g
      · have e1 : (l != g) = false := by simpa using hlg
        have hsec : second es g (D ++ [x]) = m := by rw [HS.out.2.2.2.1, HLE.out, if_neg (by simpa using hlg), HM.out]
        have HR := Lib.hid (show OwnV w1 3 1 (.slice (some ⟨g3, 0, none⟩) (D.length + 1) cap3) (D ++ [x]).length (ints (D ++ [x])) w4 ∧ second es g (D ++ [x]) = m from ⟨by rw [hlen1, hints]; exact H4.out.1, hsec⟩)
        clear hlg hlen1 hints hsec
        go_wp2_with fail
        go_roundw
        case rel => exact ⟨_, _, cnt1, D ++ [x], rfl, HR.out.1, HS.out.2.1, HS.out.1, by rw [HR.out.2], H4.out.2.2, H4.out.2.1⟩
        case measure => exact HMS.out
      · have e1 : (l != g) = true := by simpa using hlg
        have hsec : second es g (D ++ [x]) = max m l := by rw [HS.out.2.2.2.1, HLE.out, if_pos hlg, HM.out]
        have HR := Lib.hid (show OwnV w1 3 1 (.slice (some ⟨g3, 0, none⟩) (D.length + 1) cap3) (D ++ [x]).length (ints (D ++ [x])) w4 ∧ second es g (D ++ [x]) = max m l from ⟨by rw [hlen1, hints]; exact H4.out.1, hsec⟩)
        clear hlg hlen1 hints hsec
        go_wp2_with fail
        all_goals go_roundw
        all_goals first
          | exact HMS.out
          | refine ⟨_, _, cnt1, D ++ [x], rfl, HR.out.1, HS.out.2.1, HS.out.1, ?_, H4.out.2.2, H4.out.2.1⟩; rw [HR.out.2]
end
end Learn
end Go.Proofs.Ytdhhohnaehdpkaa
