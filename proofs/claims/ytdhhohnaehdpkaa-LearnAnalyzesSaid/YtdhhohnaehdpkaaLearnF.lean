/- Walks through package learn: back. Conditions: none. -/
import Derived.Test.YtdhhohnaehdpkaaLrnE
set_option linter.unusedVariables false
set_option linter.unusedSimpArgs false
set_option linter.unusedSectionVars false
open Go.RowKit
namespace Go.Proofs.Ytdhhohnaehdpkaa
open L
namespace Learn
open Trail Cla R01
/-- What stands between two rounds of the way back. -/
structure Bk (w0 w : World) (ab b mb vars gL gP : Nat) (es : Es) (now : Int) (S : List Nat) (vl vh : Value) (g : Int) (c hs : List Int) (W : World) : Prop where
  an : ∃ C : Int → Bool, An W ab b mb vars es now S vl (.slice (some ⟨gL, 0, none⟩) es.length es.length) (.slice (some ⟨gP, 0, none⟩) (vars + 1) (vars + 1)) vh g C (many es g c : Nat) (many es 0 c : Nat) ∧ ∀ y, C y = true ↔ y ∈ c
  hint : OwnV w 3 1 vh hs.length (ints hs) W
  bL : Blk W gL (ints (lits es)) 3
  bP : Blk W gP (ints (tabI (vars + 1) (place es))) 3
  u : Upd [ab, mb] w W
section
variable {w0 w W W' : World} {ab b mb vars gL gP : Nat} {es : Es} {now : Int} {S : List Nat} {vl vh : Value} {g : Int} {c hs : List Int}
theorem Bk.ext (h : Bk w0 w ab b mb vars gL gP es now S vl vh g c hs W) (u : Upd [] W W') : Bk w0 w ab b mb vars gL gP es now S vl vh g c hs W' := by
  obtain ⟨C, h1, h2⟩ := h.an
  exact ⟨⟨C, h1.ext u, h2⟩, h.hint.upd u (by simp), h.bL.upd u (by simp), h.bP.upd u (by simp), h.u.step u⟩
theorem Bk.far (h : Bk w0 w ab b mb vars gL gP es now S vl vh g c hs W) : ∀ q, q < w.heap.size → q ∉ vh.ownBlock.toList := fun q hq hm => by
  simp only [Option.mem_toList] at hm
  have := h.hint.fresh q hm
  omega
theorem Bk.wf (h : Bk w0 w ab b mb vars gL gP es now S vl vh g c hs W) : TWf vars es := by obtain ⟨C, h1, _⟩ := h.an; exact h1.tr.wf
/-- What is older than the way back. -/
def Low (w : World) (ab mb gL gP : Nat) (S : List Nat) : Prop := ab < w.heap.size ∧ mb < w.heap.size ∧ gL < w.heap.size ∧ gP < w.heap.size ∧ ∀ k ∈ S, k < w.heap.size
theorem Bk.push {r : Int} {gg cap : Nat} {W1 : World} (h : Bk w0 w ab b mb vars gL gP es now S vl vh g c hs W) (hl : Low w ab mb gL gP S) (hne : gL ≠ ab ∧ gL ≠ mb ∧ gP ≠ ab ∧ gP ≠ mb)
    (o : W1.ownsRow 0 3 1 (.slice (some ⟨gg, 0, none⟩) (hs.length + 1) cap) (hs.length + 1) (ints hs ++ [.int .i64 r])) (u : Upd vh.ownBlock.toList W W1) (k : vh.ownBlock = some gg ∨ W.heap.size ≤ gg) :
    Bk w0 w ab b mb vars gL gP es now S vl (.slice (some ⟨gg, 0, none⟩) (hs.length + 1) cap) g c (hs ++ [r]) (W1.setCell ⟨ab, 8, none⟩ (.slice (some ⟨gg, 0, none⟩) (hs.length + 1) cap)) := by
  obtain ⟨C, hA, hC⟩ := h.an
  have far := h.far
  have hp := h.hint.push h.u.size o k
  have u2 : Upd [ab] W1 (W1.setCell ⟨ab, 8, none⟩ (.slice (some ⟨gg, 0, none⟩) (hs.length + 1) cap)) := (Upd.refl [ab] W1).set (.inl (by simp)) _
  have hgg : w.heap.size ≤ gg := hp.fresh gg rfl
  refine ⟨⟨C, ⟨(hA.box.upd u (far _ hl.1)).set 8 _, (hA.tr.upd u (fun k hk => far k (hl.2.2.2.2 k hk))).upd u2 (fun k hk hm => by simp at hm; subst hm; exact hA.ap.1 hk), (hA.mp.upd u (far _ hl.2.1)).upd u2 (by simp; exact Ne.symm hA.ap.2.2), hA.ap⟩, hC⟩, ?_, (h.bL.upd u (far _ hl.2.2.1)).upd u2 (by simp; exact hne.1), (h.bP.upd u (far _ hl.2.2.2.1)).upd u2 (by simp; exact hne.2.2.1), ?_⟩
  · rw [List.length_append, List.length_singleton, show ints (hs ++ [r]) = ints hs ++ [.int .i64 r] by simp [ints]]
    refine hp.upd u2 (fun q hq e => ?_)
    simp only [List.mem_singleton] at hq
    simp only [Value.ownBlock, Option.some.injEq] at e
    have := hl.1
    omega
  · exact (h.u.fresh u (fun k hk => .inr (h.hint.fresh k (by simpa using hk)))).fresh u2 (fun k hk => .inl (by simp at hk; simp [hk]))
theorem Bk.re {C' : Int → Bool} {c' : List Int} {tp bt : Int} (h : Bk w0 w ab b mb vars gL gP es now S vl vh g c hs W) (hl : Low w ab mb gL gP S) (hne : gL ≠ ab ∧ gL ≠ mb ∧ gP ≠ ab ∧ gP ≠ mb)
    (hA : An W' ab b mb vars es now S vl (.slice (some ⟨gL, 0, none⟩) es.length es.length) (.slice (some ⟨gP, 0, none⟩) (vars + 1) (vars + 1)) vh g C' tp bt) (h1 : tp = (many es g c' : Nat)) (h2 : bt = (many es 0 c' : Nat)) (hC : ∀ y, C' y = true ↔ y ∈ c') (u : Upd [ab, mb] W W') :
    Bk w0 w ab b mb vars gL gP es now S vl vh g c' hs W' := by
  subst h1 h2
  refine ⟨⟨C', hA, hC⟩, h.hint.upd u (fun q hq e => ?_), h.bL.upd u (by simp; exact ⟨hne.1, hne.2.1⟩), h.bP.upd u (by simp; exact ⟨hne.2.2.1, hne.2.2.2⟩), h.u.trans u⟩
  have h3 := h.hint.fresh q e
  have h4 := hl.1
  have h5 := hl.2.1
  simp only [List.mem_cons, List.not_mem_nil, or_false] at hq
  omega
theorem Bk.same {c' : List Int} (h : Bk w0 w ab b mb vars gL gP es now S vl vh g c hs W) (h1 : c.Nodup) (h2 : c'.Nodup) (h3 : ∀ y, y ∈ c ↔ y ∈ c') : Bk w0 w ab b mb vars gL gP es now S vl vh g c' hs W := by
  obtain ⟨C, hA, hC⟩ := h.an
  rw [many_same h1 h2 h3, many_same (g := 0) h1 h2 h3] at hA
  exact ⟨⟨C, hA, fun y => (hC y).trans (h3 y)⟩, h.hint, h.bL, h.bP, h.u⟩
def ins (D : List Int) (y : Int) : List Int := if y ∈ D then D else y :: D
theorem ins_nodup {D : List Int} {y : Int} (h : D.Nodup) : (ins D y).Nodup := by
  unfold ins
  by_cases hm : y ∈ D
  · rw [if_pos hm]; exact h
  · rw [if_neg hm]; exact List.nodup_cons.2 ⟨hm, h⟩
theorem ins_mem {D : List Int} {y z : Int} : z ∈ ins D y ↔ z = y ∨ z ∈ D := by
  unfold ins
  by_cases hm : y ∈ D
  · rw [if_pos hm]; exact ⟨.inr, fun h => h.elim (fun e => e ▸ hm) id⟩
  · rw [if_neg hm]; exact List.mem_cons
theorem many_ins {D : List Int} {y : Int} (g : Int) (ht : tval vars es y = -1) : ((many es g D : Nat) : Int) + (if y ∈ D then 0 else more es g vars y 1) = ((many es g (ins D y) : Nat) : Int) := by
  unfold ins more
  by_cases hm : y ∈ D
  · rw [if_pos hm, if_pos hm]; omega
  · rw [if_neg hm, if_neg hm, many_cons, lvl_eq ht]
    by_cases hg : lvl es y = g
    · rw [if_pos hg, if_pos hg]; omega
    · rw [if_neg hg, if_neg hg]; omega
theorem Bk.put {C : Int → Bool} {y : Int} (h : Bk w0 w ab b mb vars gL gP es now S vl vh g c hs W) (hl : Low w ab mb gL gP S) (hne : gL ≠ ab ∧ gL ≠ mb ∧ gP ≠ ab ∧ gP ≠ mb) (hC : ∀ y, C y = true ↔ y ∈ c) (ht : tval vars es y = -1)
    (hA : An W' ab b mb vars es now S vl (.slice (some ⟨gL, 0, none⟩) es.length es.length) (.slice (some ⟨gP, 0, none⟩) (vars + 1) (vars + 1)) vh g (addB C y) ((many es g c : Nat) + if C y = true then 0 else more es g vars y 1) ((many es 0 c : Nat) + if C y = true then 0 else more es 0 vars y 1)) (u : Upd [ab, mb] W W') :
    Bk w0 w ab b mb vars gL gP es now S vl vh g (ins c y) hs W' := by
  refine h.re hl hne hA ?_ ?_ (fun z => ?_) u
  · rw [← many_ins g ht]; simp only [hC]
  · rw [← many_ins 0 ht]; simp only [hC]
  · rw [ins_mem, ← hC z]; unfold addB; simp
theorem many_take {z : Int} (g : Int) (hn : c.Nodup) (hz : z ∈ c) (ht : tval vars es z = -1) {x : Int} (hx : x.natAbs = z.natAbs) : ((many es g c : Nat) : Int) + more es g vars x (-1) = ((many es g (c.erase z) : Nat) : Int) := by
  rw [many_erase hn hz]
  unfold more
  rw [hx, lvl_eq ht]
  by_cases hg : lvl es z = g
  · rw [if_pos hg, if_pos hg]; omega
  · rw [if_neg hg, if_neg hg]; omega
theorem Bk.take {C : Int → Bool} {x : Int} (h : Bk w0 w ab b mb vars gL gP es now S vl vh g c hs W) (hl : Low w ab mb gL gP S) (hne : gL ≠ ab ∧ gL ≠ mb ∧ gP ≠ ab ∧ gP ≠ mb) (hC : ∀ y, C y = true ↔ y ∈ c) (hn : c.Nodup) (hx : -x ∈ c) (ht : tval vars es (-x) = -1)
    (hA : An W' ab b mb vars es now S vl (.slice (some ⟨gL, 0, none⟩) es.length es.length) (.slice (some ⟨gP, 0, none⟩) (vars + 1) (vars + 1)) vh g (fun y => !decide (y = -x) && C y) ((many es g c : Nat) + more es g vars x (-1)) ((many es 0 c : Nat) + more es 0 vars x (-1))) (u : Upd [ab, mb] W W') :
    Bk w0 w ab b mb vars gL gP es now S vl vh g (c.erase (-x)) hs W' := by
  refine h.re hl hne hA (many_take g hn hx ht (by rw [Int.natAbs_neg])) (many_take 0 hn hx ht (by rw [Int.natAbs_neg])) (fun z => ?_) u
  rw [hn.mem_erase_iff, ← hC z]
  simp
theorem many_var (g : Int) {D : List Int} (hn : D.Nodup) (ht : ∀ y ∈ D, tval vars es y = -1) : many es g D ≤ vars := by
  refine Nat.le_trans (many_le D) ?_
  have hl : ∀ y ∈ D, 1 ≤ y.natAbs ∧ y.natAbs ≤ vars := fun y hy => by
    have h0 := (tval_neg (ht y hy)).1
    unfold isLit at h0
    simp only [decide_eq_true_eq] at h0
    omega
  have hnd : (D.map Int.natAbs).Nodup := by
    refine List.pairwise_map.2 (List.Pairwise.imp_of_mem ?_ hn)
    intro a b ha hb hab e
    have h1 := tval_neg (ht a ha)
    have h2 := tval_neg (ht b hb)
    rw [e] at h1
    have h3 := h1.2.2.symm.trans h2.2.2
    omega
  have := nodup_le vars (D.map Int.natAbs) hnd (fun z hz => by
    obtain ⟨y, hy, rfl⟩ := List.mem_map.1 hz
    exact hl y hy)
  simpa using this
end
section
variable {w0 w : World} {ab b mb vars gL gP : Nat} {es : Es} {now : Int} {S : List Nat} {g : Int} {c : List Int}
set_option maxRecDepth 100000 in
set_option maxHeartbeats 16000000 in
theorem back_calls {aL : Option Addr} {cL : Nat} {L : List (List Int)} (h : Bk w0 w ab b mb vars gL gP es now S (.slice aL L.length cL) (.slice none 0 0) g c [] w) (hCL : CL w0 (.slice aL L.length cL) L) (u0 : Upd [] w0 w) (hab : w0.heap.size ≤ ab) (hmb : w0.heap.size ≤ mb) (hne : gL ≠ ab ∧ gL ≠ mb ∧ gP ≠ ab ∧ gP ≠ mb) (hv : vars ≤ 65536) (hc : Good vars es c) (h0 : List Int) :
    Calls Try.prog 39 #[.pointer (some ⟨ab, 0, none⟩)] w fun e w' => (e = .returned (.int .i64 14) ∧ (go L vars es g es.length c h0).1 = 14 ∧ Upd [ab, mb] w w') ∨
      ∃ d hs vh', e = .returned (.int .i64 0) ∧ go L vars es g es.length c h0 = (0, d, hs.reverse ++ h0) ∧ Good vars es d ∧ Bk w0 w ab b mb vars gL gP es now S (.slice aL L.length cL) vh' g d hs w' := by
  have hw : TWf vars es := by obtain ⟨C, h1, _⟩ := h.an; exact h1.tr.wf
  have hlen := hw.len
  have H1 := Lib.hid (And.intro h (And.intro hCL (And.intro u0 (And.intro hw hc))))
  have c2 : w.cell? ⟨ab, 2, none⟩ = some (.slice (some ⟨gL, 0, none⟩) es.length es.length) := by obtain ⟨C, h1, _⟩ := h.an; exact h1.box.cell (i := 2) rfl
  clear h hCL u0 hc hw
  go_enter Try.func39, Try.ntmps39
  go_wp2_with fail
  go_step3
  go_wp2_with fail
  go_step3
  go_wp2_with fail
  go_loopw [15] (fun i wr => ∃ (k : Nat) (d hs : List Int) (vh : Value), i = .int .i64 k ∧ k ≤ es.length ∧ go L vars es g es.length c h0 = go L vars es g (es.length - k) d (hs.reverse ++ h0) ∧ Good vars es d ∧ Bk w0 w ab b mb vars gL gP es now S (.slice aL L.length cL) vh g d hs wr ∧ hs.length ≤ k) (fun i _ => es.length - (numOf i).toNat)
  case atStart => exact ⟨0, c, [], _, rfl, Nat.zero_le _, rfl, H1.out.2.2.2.2, H1.out.1, Nat.le_refl _⟩
  case round =>
    obtain ⟨wo, rfl⟩ : ∃ wo : World, wo = wr := ⟨_, rfl⟩
    obtain ⟨i, d, hs, vh, rfl, hi, hgo, hgd, hbk, hhl⟩ := hrel
    by_cases hlt : i < es.length
    · have hii : (i : Int) < es.length := by omega
      obtain ⟨C, hA, hC⟩ := hbk.an
      have HA := Lib.hid (And.intro hA (And.intro hC (And.intro hbk (And.intro hgo hgd))))
      have c6 := hA.box.cell (i := 6) rfl
      have c7 := hA.box.cell (i := 7) rfl
      have c5 := hA.box.cell (i := 5) rfl
      have c4 := hA.box.cell (i := 4) rfl
      have c1 := hA.box.cell (i := 1) rfl
      have d2 := hA.box.cell (i := 2) rfl
      clear hA hC hbk hgo hgd
      by_cases hstop : many es 0 d = 0 ∧ many es g d ≤ 1
      · have e1 : (((many es 0 d : Nat) : Int) == 0) = true := by rw [beq_iff_eq]; omega
        have e2 : ((many es g d : Nat) : Int) ≤ 1 := by omega
        have HF := Lib.hid (show go L vars es g es.length c h0 = (0, d, hs.reverse ++ h0) by
          rw [HA.out.2.2.2.1]; exact go_stop H1.out.2.2.2.1 hstop.1 hstop.2 _ (by omega))
        clear hstop
        generalize many es 0 d = m0 at *
        generalize many es g d = mg at *
        go_wp2_with fail
        try rw [Exit.noGoto_ret]
        go_ret
        exact .inr ⟨d, hs, vh, rfl, HF.out, HA.out.2.2.2.2, HA.out.2.2.1⟩
      · have hmg := many_var g (ord_nodup HA.out.2.2.2.2.ord) HA.out.2.2.2.2.no
        have hm0 := many_var 0 (ord_nodup HA.out.2.2.2.2.ord) HA.out.2.2.2.2.no
        have HNS := Lib.hid (And.intro hstop (And.intro hmg hm0))
        clear hstop hmg hm0
        go_upto_region 4 with fail
        go_cut [29] (fun t w' => t = .bool false ∧ w' = wo)
        case first =>
          by_cases hm : many es 0 d = 0
          · have e1 : (((many es 0 d : Nat) : Int) == 0) = true := by rw [beq_iff_eq]; omega
            have e2 : ¬ ((many es g d : Nat) : Int) ≤ 1 := fun h => HNS.out.1 ⟨hm, by omega⟩
            clear HA HNS H1
            generalize ((many es 0 d : Nat) : Int) = m0 at *
            generalize ((many es g d : Nat) : Int) = mg at *
            clear hm
            go_wp2_with fail
            go_meet
            case rel => exact ⟨rfl, rfl⟩
          · have e1 : (((many es 0 d : Nat) : Int) == 0) = false := by rw [beq_eq_false_iff_ne]; omega
            clear HA HNS H1
            generalize ((many es 0 d : Nat) : Int) = m0 at *
            clear hm
            go_wp2_with fail
            go_meet
            case rel => exact ⟨rfl, rfl⟩
        case rest =>
          obtain ⟨rfl, rfl⟩ := hcut
          obtain ⟨k, hk⟩ : ∃ k, es.length = i + k + 1 := ⟨es.length - i - 1, by omega⟩
          have HK := Lib.hid hk
          have hk1 : (es.length : Int) - 1 - i ≤ k := by omega
          have hk2 : (k : Int) ≤ (es.length : Int) - 1 - i := by omega
          have hk3 : k < es.length := by omega
          have hsub1 : es.length - i = k + 1 := by omega
          have hsub2 : es.length - (i + 1) = k := by omega
          rw [hsub1] at HA
          have hke : es.length - 1 - i = k := by omega
          clear hsub1 hk
          have HS2 := Lib.hid hsub2
          clear hsub2
          have kx : wc.cell? ⟨gL, es.length - 1 - i, none⟩ = some (.int .i64 (at_ es k).1) := by rw [hke]; exact HA.out.2.2.1.bL.cell (i := k) (ints_get (lits_at hk3))
          clear hke
          have hxl := H1.out.2.2.2.1.lit _ (at_mem hk3)
          have hrr := H1.out.2.2.2.1.rsn _ (at_mem hk3)
          have HX := Lib.hid (And.intro (isLit_x H1.out.2.2.2.1 hk3) (And.intro (lvl_x H1.out.2.2.2.1 hk3) (And.intro (lvl_at H1.out.2.2.2.1 hk3) hk3)))
          have HUD := Lib.hid (show Used es g d k ↔ (-(at_ es k).1 ∈ d ∧ (((lev es k : Nat) : Int) = 0 ∨ ((lev es k : Nat) : Int) = g ∧ many es g d ≠ 1)) from Iff.rfl)
          have HFI := Lib.hid (fit_iff (L := L) H1.out.2.2.2.1 hk3)
          have HRS := Lib.hid (show rsn L es k = L.getD (at_ es k).2.toNat [] from rfl)
          have HRES := Lib.hid (fun (hf : Fits L vars es k) (hx : -(at_ es k).1 ∈ d) => res_ok hf.2.2.1 hf.2.2.2.1 HA.out.2.2.2.2 hx (fun y hy hn => (hf.2.2.2.2 y hy hn).1) hv)
          have HGU := Lib.hid (fun (hu : Used es g d k) (hf : Fits L vars es k) => go_used (L := L) (vars := vars) hu hf (h := hs.reverse ++ h0))
          have hc6 := c6
          generalize hxe : (at_ es k).1 = y at *
          generalize hre : (at_ es k).2 = r at *
          have HXE := Lib.hid (And.intro hxe hre)
          clear hxe hre
          go_upto_region 5 with fail
          refine wp_region_qx (by kernel_rfl) (by kernel_rfl) ?_
          repeat (go_big_quiet_step ((fail)))
          refine wpQuiet_nil ?_
          intro x
          have hA := HA.out.1.ext x.upd
          have hB := HA.out.2.2.1.ext x.upd
          obtain ⟨wd, hwd⟩ : ∃ wd : World, wd = x.val := ⟨_, rfl⟩
          rw [← hwd] at hA hB ⊢
          have HB := Lib.hid (And.intro hA hB)
          clear hwd x c1 c2 c4 c5 c6 c7 d2 kx hc6 hk1 hk2 hA hB
          have c5 := HB.out.1.box.cell (i := 5) rfl
          have hvm : vars ≤ 4194304 := H1.out.2.2.2.1.max
          have hnI : IsI64 (-y) := ⟨by omega, by omega⟩
          by_cases hcy : C (-y) = true
          · have hyd := (HA.out.2.1 (-y)).1 hcy
            have HF := Lib.hid (show setF C (-y) = some (.bool true) by unfold setF; rw [if_pos hcy])
            have HL0 := alevel_calls HB.out.1 y ⟨by omega, by omega⟩
            rw [HX.out.2.1.1] at HL0
            have HL := Lib.hid HL0
            have HMP := Lib.hid (fun (h : ((lev es k : Nat) : Int) = g) => many_pos (es := es) (g := g) hyd (HX.out.2.2.1.2.trans h))
            have HYD := Lib.hid hyd
            clear hcy hyd HL0
            generalize ((lev es k : Nat) : Int) = l at *
            go_upto_region 8 with (first | (refine wpList_mflook Try.underlying3 Try.underlying72 infoBool _ _ rfl rfl mb _ _ (-y) rfl rfl HB.out.1.mp hnI ?_; rw [HF.out]) | (go_at_call 37; (with_reducible refine HL.out.mono ?_); rintro e w4 ⟨rfl, u4⟩))
            have H4 := Lib.hid (And.intro (HB.out.1.ext u4) (HB.out.2.ext u4))
            clear u4 c5 HB HL HF
            have c4 := H4.out.1.box.cell (i := 4) rfl
            have c6 := H4.out.1.box.cell (i := 6) rfl
            by_cases hu : Used es g d k
            · have HU := Lib.hid hu
              clear hu
              go_cut [5, 71] (fun _ t w' => t = .bool false ∧ w' = w4)
              case first =>
                by_cases hl0 : l = 0
                · have e1 : (l != 0) = false := by simpa using hl0
                  clear H4 HU HX H1 HA hl0 HUD HMP
                  go_wp2_with fail
                  go_meet
                  case rel => exact ⟨rfl, rfl⟩
                · have e1 : (l != 0) = true := by simpa using hl0
                  have hlg : l = g ∧ many es g d ≠ 1 := by
                    rcases (HUD.out.1 HU.out).2 with h | h
                    · exact absurd h hl0
                    · exact h
                  have hmp := HMP.out hlg.1
                  have e2 : (l != g) = false := by simpa using hlg.1
                  have e3 : ¬ ((many es g d : Nat) : Int) ≤ 1 := by have := hlg.2; omega
                  clear hlg hmp hl0 H4 HU HX H1 HA HUD HMP HNS
                  generalize ((many es g d : Nat) : Int) = mg at *
                  go_wp2_with fail
                  go_meet
                  case rel => exact ⟨rfl, rfl⟩
              case rest =>
                obtain ⟨rfl, rfl⟩ := hcut
                have HGE := Lib.hid (HGU.out HU.out)
                have hgb : ¬ Fits L vars es k → (go L vars es g es.length c h0).1 = 14 := fun hf => by rw [HA.out.2.2.2.1, go_bad HU.out hf]
                have HGB := Lib.hid hgb
                have HVY := Lib.hid (fun (W : World) => lvar_calls y W ⟨by omega, by omega⟩)
                have HR0 := fun (W : World) (u : Upd [] wc W) => Reason_calls (H4.out.1.tr.upd u (by simp)) (y.natAbs : Int)
                rw [HX.out.2.1.2] at HR0
                have HRE := Lib.hid HR0
                have c1 := H4.out.1.box.cell (i := 1) rfl
                clear HR0 HGU hgb c4 c6 HUD HMP
                go_upto_region 9 with fail
                refine wp_region_ord 6 1 [0, 1, 2, 3, 4, 7, 8, 9, 10, 11] [3] [0, 1, 2, 3, 4, 5, 6, 7, 8, 9, 10, 11] (fun w' => ∃ x : Ext wc, w' = x.val) (by kernel_rfl) (by kernel_rfl) (Ext.of ((Upd.refl _ _).drew)) ?_
                repeat (first | (refine wpOrd_load rfl rfl rfl rfl (fun K hK => ?_); go_big_quiet_step (fail); refine wpQuiet_nil ?_; refine hK _ ?_; clear hK K) | (refine wpOrd_free rfl rfl rfl (fun K hK => ?_); go_big_quiet_step (fail); refine wpQuiet_nil ?_; refine hK _ ?_; clear hK K))
                refine wpOrd_fix rfl rfl (fun K hK => ?_)
                go_wp2_with (go_at_call 66; refine (HVY.out _).mono ?_; rintro e _ ⟨rfl, rfl⟩)
                refine ⟨fun _ => Ext.of ((Upd.refl _ wc).drew), ?_⟩
                repeat (first | (refine wpOrd_load rfl rfl rfl rfl (fun K hK => ?_); go_big_quiet_step (fail); refine wpQuiet_nil ?_; refine hK _ ?_; clear hK K) | (refine wpOrd_free rfl rfl rfl (fun K hK => ?_); go_big_quiet_step (fail); refine wpQuiet_nil ?_; refine hK _ ?_; clear hK K))
                refine wpOrd_fix rfl rfl (fun K hK => ?_)
                go_wp2_with (go_at_call 68; (with_reducible refine (HRE.out _ ((Upd.refl _ wc).drew)).mono ?_); rintro e w5 ⟨rfl, u5⟩)
                have U5 : Upd [] wc w5 := ((Upd.refl _ wc).drew).step u5
                refine ⟨fun hC => absurd hC (by decide), ?_⟩
                repeat (first | (refine wpOrd_load rfl rfl rfl rfl (fun K hK => ?_); go_big_quiet_step (fail); refine wpQuiet_nil ?_; refine hK _ ?_; clear hK K) | (refine wpOrd_free rfl rfl rfl (fun K hK => ?_); go_big_quiet_step (fail); refine wpQuiet_nil ?_; refine hK _ ?_; clear hK K))
                refine wpOrd_nil ?_
                have H5 := Lib.hid (And.intro (H4.out.1.ext U5) (H4.out.2.ext U5))
                have hwL : Upd [] w0 w5 := (H1.out.2.2.1.step (Upd.refl _ _)).fresh H5.out.2.u (fun q hq => .inr (by simp at hq; omega))
                have HWL := Lib.hid (And.intro hwL (H1.out.2.1.upd hwL))
                have hrI : IsI64 r := ⟨by omega, by omega⟩
                have HFC := Lib.hid (fits_calls H5.out.1 HWL.out.2 H5.out.2.bP HX.out.1 hrI)
                clear U5 u5 hwL c1 H4 HRE HVY
                by_cases hf : Fits L vars es k
                · rw [fitB_true (HFI.out.2 hf)] at HFC
                  have HFT := Lib.hid hf
                  clear hf
                  have hlow : Low w ab mb gL gP S := by
                    obtain ⟨C0, hA0, _⟩ := H1.out.1.an
                    exact ⟨hA0.box.lt, hA0.mp.lt, H1.out.1.bL.lt, H1.out.1.bP.lt, hA0.tr.lt⟩
                  have HLW := Lib.hid hlow
                  have hrg : 0 ≤ r ∧ r < L.length := by
                    have h1 := HFT.out.1
                    have h2 := HFT.out.2.1
                    rw [HXE.out.2] at h1 h2
                    exact ⟨h1, h2⟩
                  obtain ⟨rn, rfl⟩ := Int.eq_ofNat_of_zero_le hrg.1
                  have hrn : rn < L.length := by omega
                  have hrs : rsn L es k = L.getD rn [] := by rw [HRS.out, Int.toNat_natCast]
                  have HRE := Lib.hid (HRES.out HFT.out HYD.out)
                  have HGE2 := Lib.hid (HGE.out HFT.out)
                  have hfs : ∀ z ∈ rsn L es k, z ≠ y → tval vars es z = -1 := fun z hz hn => (HFT.out.2.2.2.2 z hz (by rw [HXE.out.1]; exact hn)).1
                  have hvr : validErr (rsn L es k) = 0 := HFT.out.2.2.1
                  have hlenh : hs.length ≤ 65536 := by omega
                  have HFS := Lib.hid (And.intro hfs hvr)
                  clear hlow HRES HGE HGB HFI HRS hfs hvr hrg
                  go_upto_region 12 with (go_at_call 69; (with_reducible refine HFC.out.mono ?_); rintro e w6 ⟨rfl, u6⟩)
                  have H6 := Lib.hid (And.intro (H5.out.1.ext u6) (H5.out.2.ext u6))
                  clear HFC u6 H5 HWL
                  have c8 := H6.out.1.box.cell (i := 8) rfl
                  refine wp_region_lit ?_
                  refine wpList_cutH 6 (fun K hK => ?_)
                  simp only [List.take_succ_cons, List.take_zero]
                  go_wp2_with fail
                  refine Halt_.intro ?_; try simp only [List.drop_succ_cons, List.drop_zero]
                  refine wpList_push rfl rfl _ _ _ _ rfl rfl rfl 3 1 8 _ Try.underlying22 Trail.infoInt rfl (by decide) (by decide) (.int .i64 rn) [.int .i64 rn] rfl rfl rfl (ints_one [(rn : Int)]) _ _ _ H6.out.2.hint.row rfl rfl (by unfold maxLen; omega) (by omega) ?_
                  intro gg cap w7 o7 u7 k7
                  simp only [Act.put, List.setIfInBounds_toArray, List.set_cons_zero, List.set_cons_succ]
                  have f8 : w7.frozen? ⟨ab, 8, none⟩ = false := (H6.out.1.box.upd u7 (H6.out.2.far _ HLW.out.1)).free 8
                  have H8 := Lib.hid (H6.out.2.push HLW.out hne o7 u7 k7)
                  have c5 := (H6.out.1.box.upd u7 (H6.out.2.far _ HLW.out.1)).cell (i := 5) rfl
                  obtain ⟨C8, hA8, hC8⟩ := H8.out.an
                  have HA8 := Lib.hid (And.intro hA8 hC8)
                  have c8' := (H6.out.1.box.upd u7 (H6.out.2.far _ HLW.out.1)).cell (i := 8) rfl
                  clear c8 o7 u7 k7 H6 hA8 hC8
                  go_upto_region 14 with (refine wpList_mfdel Try.underlying3 Try.underlying72 rfl _ _ rfl mb (vars + 1) _ (-y) rfl rfl HA8.out.1.mp hnI ?_; intro w9 m9 u9)
                  have HCN := Lib.hid (And.intro (count_calls (HA8.out.1.remap u9 (m9.congr setF_del)) y (-1) ⟨by omega, by omega⟩ (by omega) ⟨by have := HNS.out.2.1; omega, by have := HNS.out.2.1; omega⟩ ⟨by have := HNS.out.2.2; omega, by have := HNS.out.2.2; omega⟩) u9)
                  clear m9 u9 c5 f8 c8'
                  generalize w7.setCell ⟨ab, 8, none⟩ (.slice (some ⟨gg, 0, none⟩) (hs.length + 1) cap) = w8 at *
                  go_upto_region 15 with (go_at_call 67; (with_reducible refine HCN.out.1.mono ?_); rintro e w10 ⟨rfl, hA10, u10⟩)
                  have hnd := ord_nodup HA.out.2.2.2.2.ord
                  have hyt := HA.out.2.2.2.2.no _ HYD.out
                  have u910 : Upd [ab, mb] w8 w10 := (HCN.out.2.wide (fun q hq => .inl (by simp at hq; simp [hq]))).fresh u10 (fun q hq => .inl (by simp at hq; simp [hq]))
                  have hB10 := H8.out.take HLW.out hne HA8.out.2 hnd HYD.out hyt hA10 u910
                  have hw10 : Upd [] w0 w10 := H1.out.2.2.1.fresh hB10.u (fun q hq => .inr (by simp at hq; omega))
                  have hat := H1.out.2.1.form
                  obtain ⟨_, _, he, _, _, hat0⟩ := hat
                  cases he
                  have hat : ∀ k, k < L.length → CellAt w0 aL k (L.getD k []) := hat0
                  obtain ⟨g2, off, ay, capy, rfl, hcell, hsl, hq, hr2⟩ := hat rn hrn
                  rw [← hrs] at hcell hsl hq
                  have HRC := Lib.hid (And.intro hrs (And.intro hsl hB10))
                  have HCE := Lib.hid (And.intro hcell hsl)
                  obtain ⟨_, _, he, _, _, hcc⟩ := SL.form hsl
                  cases he
                  have HCC := Lib.hid hcc
                  have HLT := Lib.hid (listErr_lit (validErr_ok.1 HFS.out.2).1).2
                  have hcl := (listErr_lit (validErr_ok.1 HFS.out.2).1).1
                  have c0 : w10.cell? ⟨ab, 0, none⟩ = some (.slice (some ⟨g2, off, none⟩) L.length cL) := by
                    obtain ⟨C10, hA10', hC10⟩ := hB10.an
                    exact hA10'.box.cell (i := 0) rfl
                  have hcell10 := hw10.some hcell (by simp)
                  have HB10 := Lib.hid (And.intro hB10 hnd)
                  have hrni : (rn : Int) < L.length := by omega
                  generalize rsn L es k = rc at *
                  clear hcell hsl hcc hB10 hw10 hat hat0 hA10 u10 u910 HCN HRC hrs hyt hnd HA8 H8
                  go_wp2_with fail
                  go_loopw [114] (fun ix wr => ∃ (j : Nat) (D : List Int), ix = .int .i64 j ∧ j ≤ rc.length ∧ D.Nodup ∧ (∀ z, z ∈ D ↔ (z ∈ d ∧ z ≠ -y) ∨ (z ∈ rc.take j ∧ z ≠ y)) ∧ Bk w0 w ab b mb vars gL gP es now S (.slice (some ⟨g2, off, none⟩) L.length cL) (.slice (some ⟨gg, 0, none⟩) (hs.length + 1) cap) g D (hs ++ [(rn : Int)]) wr) (fun ix _ => rc.length - (numOf ix).toNat)
                  case atStart =>
                    refine ⟨0, _, rfl, Nat.zero_le _, HB10.out.2.erase (-y), fun z => ?_, HB10.out.1⟩
                    rw [HB10.out.2.mem_erase_iff]
                    simp [and_comm]
                  case round =>
                    obtain ⟨wp, rfl⟩ : ∃ wp : World, wp = wr := ⟨_, rfl⟩
                    obtain ⟨j, D, rfl, hj, hnD, hD, hB⟩ := hrel
                    have hU0 : Upd [] w0 wp := H1.out.2.2.1.fresh hB.u (fun q hq => .inr (by simp at hq; omega))
                    have HBD := Lib.hid (And.intro hnD (And.intro hD hB))
                    clear hnD hD hB c0 hcell10
                    by_cases hlt : j < rc.length
                    · have hji : (j : Int) < rc.length := by omega
                      obtain ⟨gy, oy, rfl, kc⟩ := HCC.out (by omega)
                      have e1 := hU0.some (kc j _ (ints_get (List.getElem?_eq_getElem hlt))) (by simp)
                      have hzl := HLT.out _ (List.getElem_mem hlt)
                      have HTK := Lib.hid (show rc.take (j + 1) = rc.take j ++ [rc[j]] by rw [List.take_add_one, List.getElem?_eq_getElem hlt]; rfl)
                      have HMM := Lib.hid (List.getElem_mem hlt)
                      clear kc
                      generalize rc[j] = z at *
                      have hfalse : ∀ u ∈ D, tval vars es u = -1 := fun u hu => by
                        rcases (HBD.out.2.1 u).1 hu with h | h
                        · exact HA.out.2.2.2.2.no u h.1
                        · exact HFS.out.1 u (List.mem_of_mem_take h.1) h.2
                      have HFA := Lib.hid hfalse
                      clear hfalse hU0
                      by_cases hzy : z = y
                      · have e2 : (z != y) = false := by simpa using hzy
                        have HN := Lib.hid (show ∀ u, u ∈ D ↔ (u ∈ d ∧ u ≠ -y) ∨ (u ∈ rc.take (j + 1) ∧ u ≠ y) by
                          intro u
                          rw [HBD.out.2.1 u, HTK.out, List.mem_append, List.mem_singleton, hzy]
                          constructor
                          · rintro (h | h)
                            · exact .inl h
                            · exact .inr ⟨.inl h.1, h.2⟩
                          · rintro (h | ⟨h | h, h2⟩)
                            · exact .inl h
                            · exact .inr ⟨h, h2⟩
                            · exact absurd h h2)
                        clear hzy HTK HMM HA HNS HX HRE HGE2 HFS H1 HYD HFT HU
                        go_wp2_with fail
                        exact ⟨⟨j + 1, D, by go_num, by omega, HBD.out.1, HN.out, HBD.out.2.2⟩, by simp [numOf]; omega⟩
                      · have e2 : (z != y) = true := by simpa using hzy
                        have hzt := HFS.out.1 z HMM.out hzy
                        obtain ⟨C, hAz, hCz⟩ := HBD.out.2.2.an
                        have hzr := (tval_neg hzt).1
                        unfold isLit at hzr
                        simp only [decide_eq_true_eq] at hzr
                        have m1 := many_var g HBD.out.1 HFA.out
                        have m2 := many_var 0 HBD.out.1 HFA.out
                        have HAP := Lib.hid (aput_calls hAz z ⟨by omega, by omega⟩ ⟨by omega, by omega⟩ ⟨by omega, by omega⟩)
                        have HPU := Lib.hid (fun (W : World) => HBD.out.2.2.put (W' := W) HLW.out hne hCz hzt)
                        have HN := Lib.hid (show ∀ u, u ∈ ins D z ↔ (u ∈ d ∧ u ≠ -y) ∨ (u ∈ rc.take (j + 1) ∧ u ≠ y) by
                          intro u
                          rw [ins_mem, HBD.out.2.1 u, HTK.out, List.mem_append, List.mem_singleton]
                          constructor
                          · rintro (h | h | h)
                            · exact .inr ⟨.inr h, h ▸ hzy⟩
                            · exact .inl h
                            · exact .inr ⟨.inl h.1, h.2⟩
                          · rintro (h | ⟨h | h, h2⟩)
                            · exact .inr (.inl h)
                            · exact .inr (.inr ⟨h, h2⟩)
                            · exact .inl h)
                        clear hzy HTK HMM HA HNS HX HRE HGE2 HFS H1 HYD HFT HU hzr hzt m1 m2 hAz hCz
                        go_wp2_with (go_at_call 38; (with_reducible refine HAP.out.mono ?_); rintro e w12 ⟨rfl, hA12, u12⟩)
                        exact ⟨⟨j + 1, ins D z, by go_num, by omega, ins_nodup HBD.out.1, HN.out, HPU.out _ hA12 u12⟩, by simp [numOf]; omega⟩
                    · have hji : ¬ (j : Int) < rc.length := by omega
                      have hDr : ∀ u, u ∈ D ↔ u ∈ resL rc d y := fun u => by
                        rw [HBD.out.2.1 u, HRE.out.2.2 u, List.take_of_length_le (by omega)]
                        exact or_comm
                      have HBE := Lib.hid (HBD.out.2.2.same HBD.out.1 (ord_nodup HRE.out.2.1.ord) hDr)
                      have HG := Lib.hid (show go L vars es g es.length c h0 = go L vars es g (es.length - (i + 1)) (resL rc d y) ((hs ++ [(rn : Int)]).reverse ++ h0) by
                        rw [HS2.out, HA.out.2.2.2.1, HGE2.out]; simp)
                      have HGD := Lib.hid HRE.out.2.1
                      have HHL := Lib.hid (show (hs ++ [(rn : Int)]).length ≤ i + 1 by simp; omega)
                      clear hDr hlt HNS HX HRE HGE2 HFS H1 HYD HFT HU HA hU0
                      go_wp2_with fail
                      exact ⟨⟨i + 1, resL rc d y, hs ++ [(rn : Int)], _, by go_num, by omega, HG.out, HGD.out, HBE.out, HHL.out⟩, by simp [numOf]; omega⟩
                · rw [fitB_false (fun h => hf (HFI.out.1 h))] at HFC
                  have HBD := Lib.hid (HGB.out hf)
                  clear hf HGE HRES HX HNS HFI HRS
                  go_wp2_with (go_at_call 69; (with_reducible refine HFC.out.mono ?_); rintro e w6 ⟨rfl, u6⟩)
                  try rw [Exit.noGoto_ret]
                  go_ret
                  exact .inl ⟨rfl, HBD.out, H5.out.2.u.step u6⟩
            · have HU := Lib.hid hu
              clear hu
              go_cut [5, 71] (fun _ t w' => t = .bool true ∧ w' = w4)
              case first =>
                have hl0 : l ≠ 0 := fun h => HU.out (HUD.out.2 ⟨HYD.out, .inl h⟩)
                have e1 : (l != 0) = true := by simpa using hl0
                by_cases hlg : l = g
                · have hm1 : many es g d = 1 := by
                    rcases Nat.eq_or_lt_of_le (Nat.zero_le (many es g d)) with h | h
                    · have := HMP.out hlg; omega
                    · by_cases h1 : many es g d = 1
                      · exact h1
                      · exact absurd (HUD.out.2 ⟨HYD.out, .inr ⟨hlg, h1⟩⟩) HU.out
                  have e2 : (l != g) = false := by simpa using hlg
                  have e3 : ((many es g d : Nat) : Int) ≤ 1 := by omega
                  clear hlg hl0 hm1 H4 HU HX H1 HA HUD HMP HNS
                  generalize ((many es g d : Nat) : Int) = mg at *
                  go_wp2_with fail
                  go_meet
                  case rel => exact ⟨rfl, rfl⟩
                · have e2 : (l != g) = true := by simpa using hlg
                  clear hlg hl0 H4 HU HX H1 HA HUD HMP
                  go_wp2_with fail
                  go_meet
                  case rel => exact ⟨rfl, rfl⟩
              case rest =>
                obtain ⟨rfl, rfl⟩ := hcut
                have HG := Lib.hid (show go L vars es g es.length c h0 = go L vars es g (es.length - (i + 1)) d (hs.reverse ++ h0) by
                  rw [HS2.out, HA.out.2.2.2.1]; exact go_skip HU.out)
                clear HX HUD HMP HNS
                go_wp2_with fail
                exact ⟨⟨i + 1, d, hs, vh, by go_num, by omega, HG.out, HA.out.2.2.2.2, H4.out.2, by omega⟩, by simp [numOf]; omega⟩
          · have HF := Lib.hid (show setF C (-y) = none by unfold setF; rw [if_neg hcy])
            have hnu : ¬ Used es g d k := fun hu => hcy ((HA.out.2.1 (-y)).2 (HUD.out.1 hu).1)
            have HG := Lib.hid (show go L vars es g es.length c h0 = go L vars es g (es.length - (i + 1)) d (hs.reverse ++ h0) by
              rw [HS2.out, HA.out.2.2.2.1]; exact go_skip hnu)
            clear hnu hcy HX HUD HNS
            go_wp2_with (refine wpList_mflook Try.underlying3 Try.underlying72 infoBool _ _ rfl rfl mb _ _ (-y) rfl rfl HB.out.1.mp hnI ?_; rw [HF.out])
            exact ⟨⟨i + 1, d, hs, vh, by go_num, by omega, HG.out, HA.out.2.2.2.2, HB.out.2, by omega⟩, by simp [numOf]; omega⟩
    · have hii : ¬ (i : Int) < es.length := by omega
      have HF := Lib.hid (show go L vars es g es.length c h0 = (0, d, hs.reverse ++ h0) by
        rw [hgo, show es.length - i = 0 by omega]; rfl)
      have HB := Lib.hid (And.intro hgd hbk)
      clear hlt hgo hgd hbk
      go_wp2_with fail
      go_ret
      exact .inr ⟨d, hs, vh, rfl, HF.out, HB.out.1, HB.out.2⟩
end
end Learn
end Go.Proofs.Ytdhhohnaehdpkaa
