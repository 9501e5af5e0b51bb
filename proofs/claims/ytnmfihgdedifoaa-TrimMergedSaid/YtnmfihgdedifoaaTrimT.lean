/- Walks through package trim: Kept. Conditions: none. -/
import Derived.Test.YtnmfihgdedifoaaTrimS
set_option linter.unusedVariables false
set_option linter.unusedSimpArgs false
set_option linter.unusedSectionVars false
open Go.RowKit Go.Maps
namespace Go.Proofs.Ytnmfihgdedifoaa
open L R01
namespace Trim
theorem ret_row_tmp2 {fn : Func} {R : Ending → World → Prop} {a : Act} {w : World} {p q r : Tmp} {ty t : TypeId} {g : Nat} {cs : List Value} {fs : _} (h : fn.results = #[.cell p ty, .tmp q, .tmp r]) (hp : a.tmps.getD p undef = .pointer (some ⟨g, 0, none⟩)) (hB : Blk w g cs t)
    (hu : Try.prog.underlying ty = some (.struct fs)) (hi : (Try.prog.info? ty).map (·.size) = some cs.length) (hdf : a.defers = []) {v v2 : Value} (hv : a.tmps.getD q undef = v) (hv2 : a.tmps.getD r undef = v2) (hR : R (.returned (.tuple #[.agg cs.toArray, v, v2])) w) :
    bodyPost Try.prog fn R .ret a w := by
  refine bodyPost_ret (v := .tuple #[.agg cs.toArray, v, v2]) ?_ hdf hR
  have h2 := run_loadVar_row (P := Try.prog) w g t ty cs.toArray (0, 0) (.struct fs) hB hu rfl (by simpa using hi)
  have hp' : a.tmps[p]?.getD undef = .pointer (some ⟨g, 0, none⟩) := by simpa using hp
  have hv' : a.tmps[q]?.getD undef = v := by simpa using hv
  have hv2' : a.tmps[r]?.getD undef = v2 := by simpa using hv2
  simp [results, h, hp', asAddr, h2, hv', hv2']
/-- The names of a list as a map. -/
def fG (gone : List ByteArray) : List UInt8 → Option Value := fun x => if gone.any (fun n => n.data.toList == x) then some (.bool true) else none
theorem fG_snoc (gone : List ByteArray) (n : ByteArray) (x : List UInt8) : (if x = n.data.toList then some (.bool true) else fG gone x) = fG (gone ++ [n]) x := by
  unfold fG
  rw [List.any_append]
  by_cases h : x = n.data.toList
  · subst h; simp
  · have : (n.data.toList == x) = false := beq_eq_false_iff_ne.2 (fun e => h e.symm)
    simp [h, this]
theorem fG_look (gone : List ByteArray) (n : ByteArray) : (fG gone n.data.toList).getD (.bool false) = .bool (hasN gone n) := by
  unfold fG hasN
  have : (fun x : ByteArray => x.data.toList == n.data.toList) = fun x : ByteArray => x.toList == n.toList := by funext x; rw [ByteArray.toList_eq, ByteArray.toList_eq]
  rw [this]
  cases gone.any (fun x => x.toList == n.toList) <;> rfl
/-- Whether a step stays. -/
def okS (gone : List ByteArray) (s : StepD) (u : Nat → Bool) : Bool := (!(s.kind == 1) || !hasN gone s.name) && s.hints.all (fun h => u h.toNat)
def keptTo (gone : List ByteArray) (l : List StepD) : Nat → Nat → Bool
  | 0, _ => false
  | k + 1, j => if j = k then (match l[k]? with
    | some s => okS gone s (keptTo gone l k)
    | none => false) else keptTo gone l k j
theorem tab_setB {n : Nat} {u : Nat → Bool} {k : Nat} {b : Bool} : (bools (tab n u)).set k (.bool b) = bools (tab n (fun j => if j = k then b else u j)) := by
  apply List.ext_getElem?
  intro j
  unfold bools tab
  rw [List.getElem?_set]
  by_cases hj : j < n
  · by_cases e : k = j
    · subst e; simp [hj]
    · simp [hj, e, Ne.symm e]
  · by_cases e : k = j
    · subst e; simp [hj]
    · simp [hj, e]
section
variable {w : World}
set_option maxRecDepth 100000 in
set_option maxHeartbeats 4000000 in
theorem Kept_bad {v vg : Value} {p : PrfD} (h : PrL w v p) (hc : check p ≠ 0) :
    Calls Try.prog 20 #[v, vg] w fun e w' => e = .returned (.tuple #[.agg #[.slice none 0 0, .slice none 0 0], .slice none 0 0, .int .i64 (check p)]) ∧ Upd [] w w' := by
  obtain ⟨vl, vs, rfl, hL, hS⟩ := h
  obtain ⟨al, cl, rfl, ql, rl⟩ := hL.form
  obtain ⟨a2, c2, rfl, qs, rs, _⟩ := hS.at_
  have HV := Lib.hid (fun (w' : World) (u : Upd [] w w') => valid_calls (w := w') (p := p) ⟨_, _, rfl, hL.ext u, hS.ext u⟩)
  have hb : (check p != 0) = true := by simpa using hc
  generalize check p = z at *
  clear hL hS hc
  have b1 := (Blk.new w [.slice al p.lemmas.length cl, .slice a2 p.steps.length c2] 30).alloc (.cells #[.slice none 0 0, .slice none 0 0] 30)
  have b2 := Blk.new (w.alloc (.cells #[.slice al p.lemmas.length cl, .slice a2 p.steps.length c2] 30)) [.slice none 0 0, .slice none 0 0] 30
  have u2 := ((Upd.refl [] w).alloc (.cells #[.slice al p.lemmas.length cl, .slice a2 p.steps.length c2] 30)).alloc (.cells #[.slice none 0 0, .slice none 0 0] 30)
  rw [show (w.alloc (.cells #[.slice al p.lemmas.length cl, .slice a2 p.steps.length c2] 30)).heap.size = w.heap.size + 1 by simp] at b2
  have c0 := b1.cell (i := 0) rfl
  have c1 := b1.cell (i := 1) rfl
  go_enter Try.func20, Try.ntmps20
  go_upto_region 2 with (go_at_call 31; (with_reducible refine (HV.out _ u2).mono ?_); rintro e _ ⟨rfl, u3⟩; obtain ⟨x3, rfl⟩ := Ext.of u3)
  have B2 := b2.upd x3.upd (by simp)
  have r0 := B2.cell (i := 0) rfl
  have r1 := B2.cell (i := 1) rfl
  have fr0 := B2.free 0
  have fr1 := B2.free 1
  have us : Upd [w.heap.size + 1] x3.val ((x3.val.setCell ⟨w.heap.size + 1, 0, none⟩ (.slice none 0 0)).setCell ⟨w.heap.size + 1, 1, none⟩ (.slice none 0 0)) := ((Upd.refl _ x3.val).set (.inl (by simp)) _).set (.inl (by simp)) _
  have HX := Lib.hid (And.intro (show Blk _ (w.heap.size + 1) [.slice none 0 0, .slice none 0 0] 30 from (B2.set 0 (.slice none 0 0)).set 1 (.slice none 0 0)) ((u2.step x3.upd).fresh us (fun b hb => .inr (by simp at hb; omega))))
  clear us B2
  go_wp2_with fail
  exact ret_row_tmp2 rfl rfl HX.out.1 Try.underlying30 (by kernel_rfl) rfl rfl rfl ⟨rfl, HX.out.2⟩
set_option maxRecDepth 100000 in
set_option maxHeartbeats 8000000 in
theorem Kept_good {v vg : Value} {p : PrfD} {gone : List ByteArray} (h : PrL w v p) (hc : check p = 0) (hf : Few p) (hg : NmL w vg gone) (hgs : ∀ x ∈ gone, x.size ≤ 1000) (hgl : gone.length ≤ 1000000) (hns : ∀ (k : Nat) (st : StepD), p.steps[k]? = some st → st.name.size ≤ 1000) :
    Calls Try.prog 20 #[v, vg] w fun e w' => ∃ (v' : Value) (gs : Nat), e = .returned (.tuple #[v', .slice (some ⟨gs, 0, none⟩) p.steps.length p.steps.length, .int .i64 0]) ∧ PrL w' v' (pickP p (keptTo gone p.steps p.steps.length)) ∧ RowI w' (.slice (some ⟨gs, 0, none⟩) p.steps.length p.steps.length) (tabI p.steps.length (stepNo (keptTo gone p.steps p.steps.length))) ∧ Upd [] w w' := by
  have hwf := wf_check.1 hc
  obtain ⟨vl, vs, rfl, hL, hS⟩ := h
  obtain ⟨al, cl, rfl, ql, rl⟩ := hL.form
  obtain ⟨a2, c2, rfl, qs, rs, hat⟩ := hS.at_
  obtain ⟨ag, cg, rfl, qg, rg, hgc⟩ := hg.cells
  have hlen := hwf.len
  have HV := Lib.hid (fun (w' : World) (u : Upd [] w w') => show Calls Try.prog 31 #[.agg #[.slice al p.lemmas.length cl, .slice a2 p.steps.length c2]] w' fun e w'' => e = .returned (.int .i64 0) ∧ Upd [] w' w'' from by
    have h := valid_calls (w := w') (p := p) ⟨_, _, rfl, hL.ext u, hS.ext u⟩
    rw [hc] at h; exact h)
  have HPK := Lib.hid (fun (w' : World) (u : Upd [] w w') (gu : Nat) (hu : Blk w' gu (bools (tab p.steps.length (keptTo gone p.steps p.steps.length))) 4) => pick_calls (w := w') (p := p) (v := .agg #[.slice al p.lemmas.length cl, .slice a2 p.steps.length c2]) ⟨_, _, rfl, hL.ext u, hS.ext u⟩ hwf hf.nl hf.hints hu)
  have HW := Lib.hid (And.intro hat (And.intro hwf (And.intro hgc (And.intro hgs hns))))
  clear hL hS hc hwf hat hgc hgs hns hg
  have hb : ((0 : Int) != 0) = false := rfl
  have hmm := @run_makeMap Try.prog
  have b1 := (Blk.new w [.slice al p.lemmas.length cl, .slice a2 p.steps.length c2] 30).alloc (.cells #[.slice none 0 0, .slice none 0 0] 30)
  have b2 := Blk.new (w.alloc (.cells #[.slice al p.lemmas.length cl, .slice a2 p.steps.length c2] 30)) [.slice none 0 0, .slice none 0 0] 30
  have u2 := ((Upd.refl [] w).alloc (.cells #[.slice al p.lemmas.length cl, .slice a2 p.steps.length c2] 30)).alloc (.cells #[.slice none 0 0, .slice none 0 0] 30)
  rw [show (w.alloc (.cells #[.slice al p.lemmas.length cl, .slice a2 p.steps.length c2] 30)).heap.size = w.heap.size + 1 by simp] at b2
  have c0 := b1.cell (i := 0) rfl
  have c1 := b1.cell (i := 1) rfl
  go_enter Try.func20, Try.ntmps20
  go_upto_region 4 with (go_at_call 31; (with_reducible refine (HV.out _ u2).mono ?_); rintro e _ ⟨rfl, u3⟩; obtain ⟨x3, rfl⟩ := Ext.of u3)
  have B1 := b1.upd x3.upd (by simp)
  have B2 := b2.upd x3.upd (by simp)
  have U3 := u2.step x3.upd
  clear b1 b2 u2 u3 c0 c1 HV
  generalize x3.val = w3 at *
  clear x3
  have um := (Upd.refl [] w3).alloc (.map #[] 0)
  have hz3 := B2.lt
  have H4 := Lib.hid (And.intro (B1.upd um (by simp)) (And.intro (B2.upd um (by simp)) (And.intro (MS.new w3 Try.prog 9) (U3.step um))))
  clear B1 B2 U3 um
  go_upto_region 5 with fail
  generalize (w3.alloc (.map #[] 0)) = w4 at *
  clear hmm
  go_wp2_with fail
  go_loopw [27] (fun i wr => ∃ k : Nat, i = .int .i64 k ∧ k ≤ gone.length ∧ Blk wr w.heap.size [.slice al p.lemmas.length cl, .slice a2 p.steps.length c2] 30 ∧ Blk wr (w.heap.size + 1) [.slice none 0 0, .slice none 0 0] 30 ∧ MS Try.prog 9 wr w3.heap.size k (fG (gone.take k)) ∧ Upd [] w wr) (fun i _ => gone.length - (intOf i).toNat)
  case atStart => exact ⟨0, rfl, Nat.zero_le _, H4.out.1, H4.out.2.1, H4.out.2.2.1.congr (fun x => by simp [fG]), H4.out.2.2.2⟩
  case round =>
    obtain ⟨wo, rfl⟩ : ∃ wo : World, wo = wr := ⟨_, rfl⟩
    obtain ⟨k, rfl, hk, hI⟩ := hrel
    have HI := Lib.hid hI
    clear hI H4
    by_cases hlt : k < gone.length
    · have hki : (k : Int) < gone.length := by omega
      have hs' := List.getElem?_eq_getElem hlt
      obtain ⟨g, rfl, hcell⟩ := HW.out.2.2.1 k _ hs'
      have hsz := HW.out.2.2.2.1 _ (List.getElem_mem hlt)
      have htk : gone.take (k + 1) = gone.take k ++ [gone[k]] := by rw [List.take_add_one, hs']; rfl
      generalize gone[k] = nm at *
      have e0 := HI.out.2.2.2.some hcell (by simp)
      have HT := Lib.hid htk
      clear hs' hcell htk
      go_upto_region 9 with (refine wpList_msput (k := 9) Try.underlying9 Try.underlying68 rfl _ _ _ rfl w3.heap.size k (fG (gone.take k)) nm (.bool true) rfl rfl rfl HI.out.2.2.1 (by unfold maxLen; omega) (by unfold maxLen; omega) ?_; intro w5 hm5 u5; have H5 := Lib.hid (And.intro hm5 u5); clear hm5 u5)
      have hp1 := HI.out.1.upd H5.out.2 (by simp; omega)
      have hp2 := HI.out.2.1.upd H5.out.2 (by simp; omega)
      have hms : MS Try.prog 9 w5 w3.heap.size (k + 1) (fG (gone.take (k + 1))) := H5.out.1.congr (fun x => by rw [HT.out]; exact fG_snoc _ _ x)
      have huu : Upd [] w w5 := HI.out.2.2.2.fresh H5.out.2 (fun b hb => .inr (by simp at hb; omega))
      have H6 := Lib.hid (And.intro hp1 (And.intro hp2 (And.intro hms huu)))
      clear hp1 hp2 hms huu H5
      go_wp2_with fail
      exact ⟨⟨k + 1, by go_num, by omega, H6.out⟩, by simp [intOf]; omega⟩
    · have hki : ¬ (k : Int) < gone.length := by omega
      have HM := Lib.hid (show MS Try.prog 9 wo w3.heap.size k (fG gone) by
        have h := HI.out.2.2.1
        rwa [List.take_of_length_le (by omega)] at h)
      have c1 := HI.out.1.cell (i := 1) rfl
      have B5 := Blk.new wo (bools (tab p.steps.length fun _ => false)) 4
      have u5 := (Upd.refl [] wo).alloc (.cells (bools (tab p.steps.length fun _ => false)).toArray 4)
      have hmb : w3.heap.size < wo.heap.size := HM.out.lt
      have H5 := Lib.hid (And.intro (HI.out.1.upd u5 (by simp)) (And.intro (HI.out.2.1.upd u5 (by simp)) (And.intro (HM.out.upd u5 (by simp)) (And.intro B5 (HI.out.2.2.2.step u5)))))
      clear HI B5 u5 HM
      go_upto_region 11 with (refine wpList_mk rfl _ _ _ rfl 4 1 1 _ Try.underlying31 infoBool rfl (by decide) _ _ _ _ p.steps.length rfl rfl rfl rfl (by omega) (by omega) ?_; change wpList _ _ _ _ _ (wo.alloc (.cells (rows p.steps.length fun _ => [.bool false]).toArray 4)); rw [← tab_false])
      obtain ⟨wA, rfl⟩ : ∃ wA : World, wA = wo := ⟨_, rfl⟩
      generalize (wA.alloc (.cells (bools (tab p.steps.length fun _ => false)).toArray 4)) = w6 at *
      clear c1
      have c1 := H5.out.1.cell (i := 1) rfl
      go_wp2_with fail
      go_loopw [41] (fun i wr => ∃ m : Nat, i = .int .i64 m ∧ m ≤ p.steps.length ∧ Blk wr w.heap.size [.slice al p.lemmas.length cl, .slice a2 p.steps.length c2] 30 ∧ Blk wr (w.heap.size + 1) [.slice none 0 0, .slice none 0 0] 30 ∧ MS Try.prog 9 wr w3.heap.size k (fG gone) ∧ Blk wr wA.heap.size (bools (tab p.steps.length (keptTo gone p.steps m))) 4 ∧ Upd [] w wr) (fun i _ => p.steps.length - (intOf i).toNat)
      case atStart => exact ⟨0, rfl, Nat.zero_le _, H5.out⟩
      case round =>
        obtain ⟨wo, rfl⟩ : ∃ wo : World, wo = wr := ⟨_, rfl⟩
        obtain ⟨m, rfl, hm, hI⟩ := hrel
        have HI := Lib.hid hI
        clear hI H5 c1
        by_cases hlt2 : m < p.steps.length
        · have hmi : (m : Int) < p.steps.length := by omega
          have hs' := List.getElem?_eq_getElem hlt2
          obtain ⟨g, vp, vl2, vh, rfl, hcell, hF⟩ := HW.out.1 m _ hs'
          have hhk := HW.out.2.1.hint m _ hs'
          have hnm := HW.out.2.2.2.2 m _ hs'
          have hkt : ∀ j, keptTo gone p.steps (m + 1) j = if j = m then okS gone p.steps[m] (keptTo gone p.steps m) else keptTo gone p.steps m j := fun j => by rw [keptTo, hs']
          generalize p.steps[m] = s at *
          have hU := HI.out.2.2.2.2
          obtain ⟨ap, cp, rfl, _⟩ := hF.1.cells
          obtain ⟨av, cv, rfl, _⟩ := hF.2.1.cells
          obtain ⟨ah, ch, rfl, qh, rh, hhc⟩ := hF.2.2.1.cells
          have e0 := hU.some (hcell 0 _ rfl) (by simp)
          have e1 := hU.some (hcell 1 _ rfl) (by simp)
          have e2 := hU.some (hcell 2 _ rfl) (by simp)
          have e3 := hU.some (hcell 3 _ rfl) (by simp)
          have e4 := hU.some (hcell 4 _ rfl) (by simp)
          have e5 := hU.some (hcell 5 _ rfl) (by simp)
          have e6 := hU.some (hcell 6 _ rfl) (by simp)
          rw [Nat.add_zero] at e0
          have HS := Lib.hid (And.intro hhc (And.intro hhk hkt))
          have hgS := HI.out.2.2.2.1.lt
          clear hcell hs' hF hhk hkt hhc
          go_upto_region 14 with fail
          have b4 := Blk.new wo (stC s (.slice ap s.params.length cp) (.slice av s.lits.length cv) (.slice ah s.hints.length ch)) 56
          have u4 : Upd [] wo (wo.alloc (.cells (stC s (.slice ap s.params.length cp) (.slice av s.lits.length cv) (.slice ah s.hints.length ch)).toArray 56)) := (Upd.refl [] wo).alloc _
          change Code.wp _ _ _ _ (wo.alloc (.cells (stC s (.slice ap s.params.length cp) (.slice av s.lits.length cv) (.slice ah s.hints.length ch)).toArray 56))
          generalize (wo.alloc (.cells (stC s (.slice ap s.params.length cp) (.slice av s.lits.length cv) (.slice ah s.hints.length ch)).toArray 56)) = w7 at *
          have H7 := Lib.hid (And.intro (HI.out.1.upd u4 (by simp)) (And.intro (HI.out.2.1.upd u4 (by simp)) (And.intro (HI.out.2.2.1.upd u4 (by simp)) (And.intro (HI.out.2.2.2.1.upd u4 (by simp)) (And.intro (hU.step u4) b4)))))
          have d0 := b4.cell (i := 0) rfl
          have d4 := b4.cell (i := 4) rfl
          clear HI b4 u4 e0 e1 e2 e3 e4 e5 e6 hU
          have hlk := MS.look H7.out.2.2.1 Try.underlying9 Try.underlying68 infoBool (show s.name.size ≤ maxLen by unfold maxLen; omega)
          rw [fG_look] at hlk
          have dm := H7.out.2.2.2.1.cell (i := m) (bools_get (tab_get (u := keptTo gone p.steps m) hlt2))
          have fm := H7.out.2.2.2.1.free m
          obtain ⟨bs, hbs⟩ : ∃ bs : Bool, bs = (!(s.kind == 1) || !hasN gone s.name) := ⟨_, rfl⟩
          have us : Upd [wA.heap.size] w7 (w7.setCell ⟨wA.heap.size, m, none⟩ (.bool bs)) := (Upd.refl _ w7).set (.inl (by simp)) _
          have hset := H7.out.2.2.2.1.set m (.bool bs)
          rw [tab_setB] at hset
          have H8 := Lib.hid (And.intro (H7.out.1.upd us (by simp; omega)) (And.intro (H7.out.2.1.upd us (by simp; omega)) (And.intro (H7.out.2.2.1.upd us (by simp; omega)) (And.intro hset (And.intro (H7.out.2.2.2.2.1.fresh us (fun b hb => .inr (by simp at hb; omega))) (H7.out.2.2.2.2.2.upd us (by simp; omega)))))))
          have HBS := Lib.hid hbs
          clear us hset
          go_cut [57] (fun o w' => w' = w7.setCell ⟨wA.heap.size, m, none⟩ (.bool bs))
          case first =>
            by_cases hk1 : s.kind = 1
            · have hb1 : (s.kind == 1) = true := by simp [hk1]
              have hb2 : (s.kind != 1) = false := by simp [hk1]
              cases hh : hasN gone s.name with
              | true =>
                rw [hh] at hlk
                have HE := Lib.hid (show bs = false by rw [hbs, hb1, hh]; rfl)
                clear hbs hk1 hh
                go_wp2_with fail
                all_goals go_meet
                all_goals case rel => rw [HE.out]
              | false =>
                rw [hh] at hlk
                have HE := Lib.hid (show bs = true by rw [hbs, hb1, hh]; rfl)
                clear hbs hk1 hh
                go_wp2_with fail
                all_goals go_meet
                all_goals case rel => rw [HE.out]
            · have hb1 : (s.kind == 1) = false := by simpa using hk1
              have hb2 : (s.kind != 1) = true := by simpa using hk1
              have HE := Lib.hid (show bs = true by rw [hbs, hb1]; rfl)
              clear hbs hk1
              go_wp2_with fail
              all_goals go_meet
              all_goals case rel => rw [HE.out]
          case rest =>
            obtain rfl : w7.setCell ⟨wA.heap.size, m, none⟩ (.bool bs) = wc := hcut.symm
            clear hbs hlk dm fm d0 d4
            generalize (w7.setCell ⟨wA.heap.size, m, none⟩ (.bool bs)) = w8 at *
            have d6 := H8.out.2.2.2.2.2.cell (i := 6) rfl
            go_wp2_with fail
            go_loopw [62] (fun i wr => ∃ t : Nat, i = .int .i64 t ∧ t ≤ s.hints.length ∧ Blk wr w.heap.size [.slice al p.lemmas.length cl, .slice (some ⟨g, 0, none⟩) p.steps.length c2] 30 ∧ Blk wr (w.heap.size + 1) [.slice none 0 0, .slice none 0 0] 30 ∧ MS Try.prog 9 wr w3.heap.size k (fG gone) ∧ Blk wr wA.heap.size (bools (tab p.steps.length fun j => if j = m then (bs && (s.hints.take t).all (fun h => keptTo gone p.steps m h.toNat)) else keptTo gone p.steps m j)) 4 ∧ Upd [] w wr) (fun i _ => s.hints.length - (intOf i).toNat)
            case atStart => exact ⟨0, rfl, Nat.zero_le _, H8.out.1, H8.out.2.1, H8.out.2.2.1, by simpa using H8.out.2.2.2.1, H8.out.2.2.2.2.1⟩
            case round =>
              obtain ⟨wi, rfl⟩ : ∃ wi : World, wi = wr := ⟨_, rfl⟩
              obtain ⟨t, rfl, ht, hI⟩ := hrel
              have HI := Lib.hid hI
              clear hI H8 d6
              by_cases hlt3 : t < s.hints.length
              · have hti : (t : Int) < s.hints.length := by omega
                have hgt := List.getElem?_eq_getElem hlt3
                obtain ⟨z0, z1⟩ := HS.out.2.1 _ (List.getElem_mem hlt3)
                obtain ⟨gh, rfl, hcx⟩ := HS.out.1 t _ hgt
                have htk : s.hints.take (t + 1) = s.hints.take t ++ [s.hints[t]] := by rw [List.take_add_one, hgt]; rfl
                generalize s.hints[t] = y at *
                obtain ⟨yn, rfl⟩ := Int.eq_ofNat_of_zero_le z0
                have hyn : yn < m := by omega
                have hyn2 : yn < p.steps.length := by omega
                have hyi : (yn : Int) < p.steps.length := by omega
                have dh := HI.out.2.2.2.2.some hcx (by simp)
                have dy := HI.out.2.2.2.1.cell (i := yn) (bools_get (tab_get (u := fun j => if j = m then (bs && (s.hints.take t).all (fun h => keptTo gone p.steps m h.toNat)) else keptTo gone p.steps m j) hyn2))
                have dm := HI.out.2.2.2.1.cell (i := m) (bools_get (tab_get (u := fun j => if j = m then (bs && (s.hints.take t).all (fun h => keptTo gone p.steps m h.toNat)) else keptTo gone p.steps m j) hlt2))
                rw [if_neg (by omega)] at dy
                rw [if_pos rfl] at dm
                have fm := HI.out.2.2.2.1.free m
                obtain ⟨ba, hba⟩ : ∃ ba : Bool, ba = (bs && (s.hints.take t).all (fun h => keptTo gone p.steps m h.toNat)) := ⟨_, rfl⟩
                obtain ⟨bb, hbb⟩ : ∃ bb : Bool, bb = keptTo gone p.steps m yn := ⟨_, rfl⟩
                rw [← hba] at dm
                rw [← hbb] at dy
                have us : Upd [wA.heap.size] wi (wi.setCell ⟨wA.heap.size, m, none⟩ (.bool (ba && bb))) := (Upd.refl _ wi).set (.inl (by simp)) _
                have hset := HI.out.2.2.2.1.set m (.bool (ba && bb))
                rw [tab_setB, tab_congr (v := fun j => if j = m then (bs && (s.hints.take (t + 1)).all (fun h => keptTo gone p.steps m h.toNat)) else keptTo gone p.steps m j) (fun j _ => by
                  by_cases e : j = m
                  · rw [if_pos e, if_pos e, htk, List.all_append, hba, hbb, Bool.and_assoc]
                    simp
                  · rw [if_neg e, if_neg e, if_neg e])] at hset
                have H9 := Lib.hid (And.intro (HI.out.1.upd us (by simp; omega)) (And.intro (HI.out.2.1.upd us (by simp; omega)) (And.intro (HI.out.2.2.1.upd us (by simp; omega)) (And.intro hset (HI.out.2.2.2.2.fresh us (fun b hb => .inr (by simp at hb; omega)))))))
                clear us hset hba hbb hcx hgt htk z0 HI
                cases ba with
                | true =>
                  simp only [Bool.true_and] at H9
                  go_wp2_with fail
                  exact ⟨⟨t + 1, by go_num, by omega, H9.out⟩, by simp [intOf]; omega⟩
                | false =>
                  simp only [Bool.false_and] at H9
                  go_wp2_with fail
                  exact ⟨⟨t + 1, by go_num, by omega, H9.out⟩, by simp [intOf]; omega⟩
              · have hti : ¬ (t : Int) < s.hints.length := by omega
                have HE := Lib.hid (show Blk wi wA.heap.size (bools (tab p.steps.length (keptTo gone p.steps (m + 1)))) 4 by
                  have h := HI.out.2.2.2.1
                  rw [List.take_of_length_le (by omega)] at h
                  rw [tab_congr (v := fun j => if j = m then (bs && s.hints.all (fun h => keptTo gone p.steps m h.toNat)) else keptTo gone p.steps m j) (fun j _ => by
                    rw [HS.out.2.2 j]; unfold okS; rw [← HBS.out])]
                  exact h)
                go_wp2_with fail
                exact ⟨⟨m + 1, by go_num, by omega, HI.out.1, HI.out.2.1, HI.out.2.2.1, HE.out, HI.out.2.2.2.2⟩, by simp [intOf]; omega⟩
        · have hmi : ¬ (m : Int) < p.steps.length := by omega
          have hmn : m = p.steps.length := by omega
          rw [hmn] at HI
          clear hmn hlt2 hm
          have c0 := HI.out.1.cell (i := 0) rfl
          have c1 := HI.out.1.cell (i := 1) rfl
          go_upto_region 22 with (go_at_call 37; refine (HPK.out _ HI.out.2.2.2.2 _ HI.out.2.2.2.1).mono ?_; rintro e wP ⟨vl', vs', gs, rfl, hPr, hRow, _, uP⟩; obtain ⟨al', cl', as', cs', he⟩ := hPr.form; simp only [Value.agg.injEq, Array.mk.injEq, List.cons.injEq, and_true] at he; obtain ⟨rfl, rfl⟩ := he; have HQ := Lib.hid (And.intro hPr (And.intro hRow uP)); clear hPr hRow uP)
          generalize hpk : pickP p (keptTo gone p.steps p.steps.length) = pk at *
          have HPQ := Lib.hid hpk
          clear hpk
          have bO := Blk.new wP [.slice al' pk.lemmas.length cl', .slice as' pk.steps.length cs'] 30
          have uO := (Upd.refl [] wP).alloc (.cells #[.slice al' pk.lemmas.length cl', .slice as' pk.steps.length cs'] 30)
          have hR := (HI.out.2.1.upd HQ.out.2.2 (by simp)).upd uO (by simp)
          have hU := (HI.out.2.2.2.2.step HQ.out.2.2).step uO
          have hP1 := HQ.out.1.kd (es := [3, 88, 56, 82]) (off_nil _ _) (by simp) (by simp) (by simp) (by simp) uO
          have hRo := HQ.out.2.1.ext uO
          have H9 := Lib.hid (And.intro hR (And.intro hU (And.intro hP1 (And.intro hRo bO))))
          clear hR hU hP1 hRo bO uO HI HQ c0 c1
          generalize hob : wP.heap.size = ob at *
          generalize (wP.alloc (.cells #[.slice al' pk.lemmas.length cl', .slice as' pk.steps.length cs'] 30)) = wQ at *
          clear hob
          have y0 := H9.out.2.2.2.2.cell (i := 0) rfl
          have y1 := H9.out.2.2.2.2.cell (i := 1) rfl
          have r0 := H9.out.1.cell (i := 0) rfl
          have r1 := H9.out.1.cell (i := 1) rfl
          have fr0 := H9.out.1.free 0
          have fr1 := H9.out.1.free 1
          have uR : Upd [w.heap.size + 1] wQ ((wQ.setCell ⟨w.heap.size + 1, 0, none⟩ (.slice al' pk.lemmas.length cl')).setCell ⟨w.heap.size + 1, 1, none⟩ (.slice as' pk.steps.length cs')) := ((Upd.refl _ wQ).set (.inl (by simp)) _).set (.inl (by simp)) _
          have BR : Blk ((wQ.setCell ⟨w.heap.size + 1, 0, none⟩ (.slice al' pk.lemmas.length cl')).setCell ⟨w.heap.size + 1, 1, none⟩ (.slice as' pk.steps.length cs')) (w.heap.size + 1) [.slice al' pk.lemmas.length cl', .slice as' pk.steps.length cs'] 30 := (H9.out.1.set 0 _).set 1 _
          have hoff : Off wQ [w.heap.size + 1] [3, 88, 56, 82] := off_blk H9.out.1 (by decide)
          have HX := Lib.hid (And.intro BR (And.intro (H9.out.2.2.1.kd hoff (by simp) (by simp) (by simp) (by simp) uR) (And.intro (H9.out.2.2.2.1.kd hoff (by simp) uR) (H9.out.2.1.fresh uR (fun b hb => .inr (by simp at hb; omega))))))
          clear uR BR hoff H9
          go_wp2_with fail
          exact ret_row_tmp2 rfl rfl HX.out.1 Try.underlying30 (by kernel_rfl) rfl rfl rfl ⟨_, gs, rfl, by rw [HPQ.out]; exact HX.out.2.1, HX.out.2.2.1, HX.out.2.2.2⟩
end
end Trim
end Go.Proofs.Ytnmfihgdedifoaa
