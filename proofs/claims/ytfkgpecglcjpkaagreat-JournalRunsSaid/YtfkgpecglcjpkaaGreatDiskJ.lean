/- Walks through package disk: Crash. Conditions: none. -/
import Derived.Test.YtfkgpecglcjpkaaGreatDkA
import Derived.Test.YtfkgpecglcjpkaaGreatLib2
set_option linter.unusedVariables false
set_option linter.unusedSimpArgs false
set_option linter.unusedSectionVars false
open Go.RowKit
namespace Go.Proofs.YtfkgpecglcjpkaaGreat
open L
namespace Disk
open Wire
attribute [-go_sem] sliced
theorem infoBytes : (Tryz.prog.info? 39).map (fun i => (i.zero, i.size, i.bytes)) = some (some (.slice none 0 0), 1, 24) := by kernel_rfl
/-- A slice of what a file keeps of its loose bytes. -/
def Surv (f : Int → Option Value) (s : DS) (keep : List Int) (i : Nat) (v : Value) : Prop :=
  ∃ a cap, v = .slice a (keptN s keep i) cap ∧ (0 < keptN s keep i → ∃ g n c u, a = some ⟨g, s.F i, none⟩ ∧ f (i : Int) = some (.agg #[.slice (some ⟨g, 0, none⟩) n c, u]))
theorem crashS_none {s : DS} (h : s.Ok) {keep : List Int} {fp : Int} (hn : ¬ (0 ≤ fp ∧ 0 < tot (keptN s keep) 64)) : crashS s keep fp = { crashK s keep (filesS s).length with off := false, plan := -1 } := by
  rw [crashK_end h]
  unfold crashS crashAt
  rw [if_neg hn]
theorem crashS_some {s : DS} (h : s.Ok) {keep : List Int} {fp i : Nat} (hp : 0 < tot (keptN s keep) 64) (h1 : 8 * tot (keptN s keep) i ≤ fp % (8 * tot (keptN s keep) 64)) (h2 : fp % (8 * tot (keptN s keep) 64) < 8 * (tot (keptN s keep) i + keptN s keep i)) (hi : i < 64) :
    crashS s keep (fp : Int) = { crashK s keep (filesS s).length with B := setB (crashK s keep (filesS s).length).B i (flipL ((crashK s keep (filesS s).length).B i) (8 * s.F i + (fp % (8 * tot (keptN s keep) 64) - 8 * tot (keptN s keep) i))), off := false, plan := -1 } := by
  have e := crash_flip h h1 h2 hi
  rw [crashK_end h]
  unfold crashS crashAt
  rw [if_pos ⟨by omega, hp⟩, Int.toNat_natCast]
  have e1 := congrArg DS.B e
  have e2 := congrArg DS.F e
  simp only at e1 e2
  rw [e2, e1]
section
variable {w w' : World} {p : Nat} {s : DS} {S : List Nat}
/-- What holds behind k rounds of the first loop. -/
structure CrA (w : World) (p m : Nat) (s : DS) (S : List Nat) (keep : List Int) (k : Nat) (sv : Value) (wr : World) : Prop where
  dk : Dk wr p (crashK s keep k) S
  cell : wr.cell? ⟨p, 1, none⟩ = some (.map (some m))
  ex : ∃ f vals, MF Tryz.prog 3 wr m 64 f ∧ OwnV w 39 1 sv k vals wr ∧ ∀ j i, j < k → (filesS s)[j]? = some i → ∃ v, vals[j]? = some v ∧ Surv f s keep i v
  u : Upd S w wr
theorem tot_mono2 {g : Nat → Nat} {a b : Nat} (h : a < b) : tot g a + g a ≤ tot g b := by
  induction b with
  | zero => omega
  | succ b ih =>
    rw [tot_succ]
    by_cases e : a = b
    · subst e; omega
    · have := ih (by omega); omega
set_option maxRecDepth 100000 in
set_option maxHeartbeats 8000000 in
theorem Crash_calls (h : Dk w p s S) {vk : Value} {keep : List Int} {fp : Int} (hk : SL w 1 vk keep.length (ints keep)) (hkS : ∀ g, vk.ownBlock = some g → g ∉ S) (hkI : ∀ x ∈ keep, IsI64 x) (hfp : IsI64 fp) :
    Calls Tryz.prog 11 #[.pointer (some ⟨p, 0, none⟩), vk, .int .i64 fp] w fun e w' => e = .returned (.tuple #[]) ∧ Dk w' p (crashS s keep fp) S ∧ Upd S w w' := by
  obtain ⟨_, ak, ck, rfl, hk2⟩ := hk
  have HK := Lib.hid (And.intro (show SL w 1 (.slice ak keep.length ck) keep.length (ints keep) from ⟨ints_length _ |>.trans (by omega), ak, ck, rfl, hk2⟩) (And.intro hkS hkI))
  obtain ⟨m, h1⟩ := h.cells
  have HFL := Lib.hid (Files_calls h)
  have hfl := filesS_length s
  have HB1 := Lib.hid h1
  have H := Lib.hid h
  clear h hk2 hkS hkI h1
  go_enter Tryz.func11, Tryz.ntmps11
  go_upto_block 0 with (go_at_call 29; refine HFL.out.mono ?_; rintro e w2 ⟨v, rfl, o2, u2⟩; obtain ⟨_, va, vc, rfl, _⟩ := SL.of_owns o2.row)
  have H2 := Lib.hid (And.intro o2 u2)
  have hcr : CrA w p m s S keep 0 (.slice none 0 0) w2 := ⟨by rw [crashK_zero]; exact H.out.quiet u2, (HB1.out.upd u2 (by simp)).cell (i := 1) rfl, by
    obtain ⟨m', G, C, h1, h2, _⟩ := H.out.ex
    have e := HB1.out.inj h1
    simp only [List.cons.injEq, Value.map.injEq, Option.some.injEq, true_and, and_true] at e
    subst e
    exact ⟨_, [], h2.upd u2 (by simp), OwnV.nil w w2 39 1, fun j i hj => by omega⟩, u2.nil⟩
  have H0 := Lib.hid hcr
  clear o2 u2 HFL hcr HB1
  generalize hfn : (filesS s).length = fn at *
  have HFN := Lib.hid hfn
  clear hfn
  go_wp2_with fail
  go_loopw [6, 7, 18] (fun sv bt i wr => ∃ k : Nat, i = .int .i64 k ∧ k ≤ fn ∧ bt = .int .i64 ((8 * sumL (keptN s keep) ((filesS s).take k) : Nat) : Int) ∧ CrA w p m s S keep k sv wr ∧ OwnV w 3 1 (.slice va fn vc) fn (ints ((filesS s).map Int.ofNat)) wr ∧ ∀ b, sv.ownBlock = some b → (Value.slice va fn vc).ownBlock ≠ some b) (fun _ _ i _ => fn - (intOf i).toNat)
  case atStart => exact ⟨0, rfl, Nat.zero_le _, rfl, H0.out, H2.out.1, by simp [Value.ownBlock]⟩
  case round =>
    obtain ⟨wo, rfl⟩ : ∃ wo : World, wo = wr := ⟨_, rfl⟩
    obtain ⟨k, rfl, hk, rfl, hd, ho, hls⟩ := hrel
    have HLS := Lib.hid hls
    clear hls
    by_cases hlt : k < fn
    · have hlti : (k : Int) < fn := by omega
      have hkl : k < (filesS s).length := by rw [HFN.out]; exact hlt
      obtain ⟨i, hi⟩ : ∃ i, (filesS s)[k]? = some i := ⟨_, List.getElem?_eq_getElem hkl⟩
      obtain ⟨hi64, hne⟩ := filesS_mem.1 (List.mem_of_getElem? hi)
      obtain ⟨g0, hva⟩ : ∃ g, va = some ⟨g, 0, none⟩ := by
        obtain ⟨g, cap, he, _⟩ := owns_form ho.row (by omega)
        cases he
        exact ⟨g, rfl⟩
      subst hva
      have d0 := ho.row.cells (g := g0) rfl k _ (ints_get (x := (i : Int)) (by rw [List.getElem?_map, hi]; rfl))
      rw [addr_add, Nat.zero_add] at d0
      obtain ⟨fm0, vals, hM0, hO, hsv⟩ := hd.ex
      obtain ⟨_, aS, cS, rfl, _⟩ := SL.of_owns hO.row
      obtain ⟨hBi, hFi⟩ := crashK_at (keep := keep) hi
      obtain ⟨m1, fm, v1, hW, hM, hval, hrow, _⟩ := hd.dk.out hi64
      rw [hBi] at hrow
      rw [hFi] at hval
      have h1 : Blk wo p [.int .i64 (s.room : Int), .map (some m1), .bool s.off, .int .i64 s.plan] 62 := by obtain ⟨_, _, h1, _⟩ := hW.ex; exact h1
      have c1 := h1.cell (i := 1) rfl
      have hmm : m1 = m := by
        have e := (show wo.cell? ⟨p, 1, none⟩ = some (.map (some m1)) from c1).symm.trans hd.cell
        simpa using e
      subst hmm
      have hlt1 := h1.lt
      obtain ⟨g1, vc1, rfl, _, hcap⟩ := owns_form hrow (List.length_pos_iff.2 hne)
      have hlB := H.out.ok.len i
      have hF := H.out.ok.firm i
      have hkk := keptN_le s keep i
      have HKA := Lib.hid (kept_at (keep := keep) hi)
      have HM := Lib.hid hM
      have HV := Lib.hid hval
      have HX := Lib.hid (And.intro hW (And.intro hrow (And.intro hd (And.intro ho (And.intro hi (And.intro hne (And.intro hM0 (And.intro hO (And.intro hsv hi64)))))))))
      have HMX := Lib.hid hM
      clear hW hrow hM hval h1 hd ho hi hne hM0 hO hsv hBi hFi hkl
      generalize hfk : s.F i = F at *
      generalize hkn : keptN s keep i = kk at *
      generalize hln : (s.B i).length = ln at *
      have HQ := Lib.hid (And.intro hfk (And.intro hkn hln))
      clear hfk hkn hln
      go_upto_if 32 with (first | (at_lookup; refine wpList_mflook (k := 3) Tryz.underlying3 Tryz.underlying60 infoFile _ _ rfl rfl m1 64 fm (i : Int) rfl rfl HM.out ⟨by omega, by omega⟩ ?_; rw [HV.out]) | go_in)
      have ubx : Upd [] wo (wo.alloc (.cells #[.slice (some ⟨g1, 0, none⟩) ln vc1, .int .i64 (F : Int)] 65)) := (Upd.refl _ wo).alloc _
      have bbx := Blk.new wo [.slice (some ⟨g1, 0, none⟩) ln vc1, .int .i64 (F : Int)] 65
      have HY := Lib.hid (And.intro ubx bbx)
      clear ubx bbx c1 hlt1 d0 HM HV
      generalize hq : wo.heap.size = q at *
      have e0 := HY.out.2.cell (i := 0) rfl
      have e1 := HY.out.2.cell (i := 1) rfl
      generalize wo.alloc (.cells #[.slice (some ⟨g1, 0, none⟩) ln vc1, .int .i64 (F : Int)] 65) = w4 at *
      go_cut [11] (fun t w' => t = .int .i64 (kk : Int) ∧ Upd [] w4 w')
      case first =>
        by_cases hkp : k < keep.length
        · have hkpi : (k : Int) < keep.length := by omega
          have hx := List.getElem?_eq_getElem hkp
          have hkv := HKA.out
          rw [hx] at hkv
          have hxi := HK.out.2.2 _ (List.getElem_mem hkp)
          generalize keep[k] = x at *
          simp only at hkv
          obtain ⟨_, ak', ck', he, _, _, _, hc⟩ := HK.out.1
          cases he
          rcases hc with hc | ⟨gk, ok, rfl, hc⟩
          · omega
          · have dk := ((hc k _ (ints_get hx)))
            have dk4 := HY.out.1.some (HX.out.2.2.1.u.some dk (fun hm => HK.out.2.1 gk rfl hm)) (by simp)
            clear dk hc hx
            have hfi : (F : Int) ≤ ln := by omega
            have hkv2 : min (max x 0) ((ln : Int) - F) = kk := by omega
            have HKV := Lib.hid hkv2
            clear hkv hkv2
            go_wp2_with fail
            refine wp_region_qx (by kernel_rfl) (by kernel_rfl) ?_
            repeat (go_big_quiet_step ((fail)))
            refine wpQuiet_nil ?_
            intro x
            go_wp2_with fail
            go_meet
            case rel => exact ⟨by rw [HKV.out], Ext.upd _⟩
        · have hk0 : kk = 0 := by
            have := HKA.out
            rw [List.getElem?_eq_none (by omega)] at this
            exact this
          have hkpi : (keep.length : Int) ≤ k := by omega
          have HK0 := Lib.hid hk0
          clear hk0
          go_wp2_with fail
          go_meet
          case rel => exact ⟨by rw [HK0.out]; rfl, Upd.refl _ _⟩
      case rest =>
        obtain ⟨rfl, hu4⟩ := hcut
        have hqS : q ∉ S := fun hm => by have := HX.out.1.lt _ hm; omega
        have hq1 : q ≠ g1 := fun e => by omega
        have b5 := HY.out.2.upd hu4 (by simp)
        have U5 : Upd [] wo wc := HY.out.1.step hu4
        have HZ := Lib.hid (And.intro U5 (And.intro b5 hqS))
        have e0 := b5.cell (i := 0) rfl
        have e1 := b5.cell (i := 1) rfl
        have f0 := b5.free 0
        have f1 := b5.free 1
        clear hu4 b5 U5 hqS HY
        obtain ⟨fk, hfk⟩ : ∃ fk : Nat, fk = F + kk := ⟨_, rfl⟩
        have hfki : (F : Int) + (kk : Int) = (fk : Int) := by omega
        have hfv : (fk : Int) ≤ vc1 := by omega
        have hsl := sliced_pre (a := some ⟨g1, 0, none⟩) (.inr ⟨g1, 0, rfl⟩) fk vc1
        obtain ⟨a5, c5, hsl5, hs5⟩ : ∃ a5 c5, sliced (some ⟨g1, 0, none⟩) F fk vc1 1 = .slice a5 kk c5 ∧ (0 < kk → a5 = some ⟨g1, F, none⟩) := by
          refine ⟨_, _, by unfold sliced; rw [show fk - F = kk by omega], fun h0 => ?_⟩
          rw [if_neg (by omega)]
          simp [addr_add]
        have hfF : (F : Int) ≤ (fk : Int) := by omega
        have hbt := tot_mono (n := 64) (g := keptN s keep) (h := fun i => (s.B i).length) (fun i _ => by have := keptN_le s keep i; omega)
        have hbt2 := H.out.ok.used
        have hbt3 := H.out.ok.room
        unfold used at hbt2
        have HFK := Lib.hid hfk
        have HS5 := Lib.hid hs5
        clear hfk hs5
        go_upto_region 10 with fail
        have b6 := HZ.out.2.1.set 0 (.slice (some ⟨g1, 0, none⟩) fk vc1)
        simp only [List.set_cons_zero] at b6
        have U6 : Upd [q] wo (wc.setCell ⟨q, 0, none⟩ (.slice (some ⟨g1, 0, none⟩) fk vc1)) := (HZ.out.1.nil (S := [q])).set (.inl (by simp)) _
        have hsq : ∀ b ∈ [q], (Value.slice aS k cS).ownBlock ≠ some b := fun b hb e => by
          simp only [List.mem_singleton] at hb
          have := HX.out.2.2.2.2.2.2.2.1.lt b e
          omega
        have o6 := HX.out.2.2.2.2.2.2.2.1.upd U6 hsq
        have H6 := Lib.hid (And.intro U6 (And.intro b6 o6))
        have hwq : w.heap.size ≤ q := by have := HX.out.2.2.1.u.size; omega
        clear e0 e1 f0 f1 U6 hsq b6 o6
        have e0 := H6.out.2.1.cell (i := 0) rfl
        have e1 := H6.out.2.1.cell (i := 1) rfl
        generalize wc.setCell ⟨q, 0, none⟩ (.slice (some ⟨g1, 0, none⟩) fk vc1) = w6 at *
        go_upto_region 11 with (refine wpList_push rfl rfl _ _ _ _ rfl rfl rfl 39 1 24 _ Tryz.underlying29 infoBytes rfl (by decide) (by decide) (.slice a5 kk c5) [.slice a5 kk c5] rfl rfl rfl (by simp [Value.oneCell']) (.slice aS k cS) _ _ H6.out.2.2.row rfl rfl (by unfold maxLen; omega) (by omega) ?_; intro g7 cap7 w7 o7 u7 k7)
        have hskB : sumL (keptN s keep) ((filesS s).take k) + kk ≤ 16777216 := by
          rw [before_at HX.out.2.2.2.2.1, ← HQ.out.2.1]
          have h1 := tot_mono2 (g := keptN s keep) HX.out.2.2.2.2.2.2.2.2.2
          omega
        have hsk1 : sumL (keptN s keep) ((filesS s).take (k + 1)) = sumL (keptN s keep) ((filesS s).take k) + kk := by
          rw [List.take_add_one, HX.out.2.2.2.2.1, sumL_append, ← HQ.out.2.1]
          simp [sumL]
        generalize sumL (keptN s keep) ((filesS s).take k) = sk at *
        have hski : (sk : Int) + kk ≤ 16777216 := by omega
        have hqT : q ∉ (Value.slice aS k cS).ownBlock.toList := fun hm => by
          have := HX.out.2.2.2.2.2.2.2.1.lt q (by simpa using hm)
          omega
        have b7 := H6.out.2.1.upd u7 hqT
        have H7 := Lib.hid (And.intro o7 (And.intro u7 (And.intro k7 (And.intro b7 hqT))))
        have HSK := Lib.hid hsk1
        clear o7 u7 k7 hqT hsk1 e0 e1 hskB hbt hbt2 hbt3 hsl hsl5
        have e0 := b7.cell (i := 0) rfl
        have e1 := b7.cell (i := 1) rfl
        have f1 := b7.free 1
        clear b7
        go_upto_region 13 with fail
        obtain ⟨x1, x2, x3, x4, x5, x6, x7, x8, x9, x10⟩ := HX.out
        obtain ⟨y1, y2, y3, y4, y5⟩ := H7.out
        have hB7 : Blk w7 q [.slice (some ⟨g1, 0, none⟩) fk vc1, .int .i64 (F : Int)] 65 := y4
        have b8 := y4.set 1 (.int .i64 (fk : Nat))
        simp only [List.set_cons_zero, List.set_cons_succ] at b8
        have U78 : Upd [q] w7 (w7.setCell ⟨q, 1, none⟩ (.int .i64 (fk : Nat))) := (Upd.refl _ w7).set (.inl (by simp)) _
        have hSw : ∀ k ∈ S, k < w.heap.size := H.out.lt
        have hqS : q ∉ S := HZ.out.2.2
        have hsS : ∀ k' ∈ (Value.slice aS k cS).ownBlock.toList, k' ∉ S := fun k' hk' hm => by
          have h1 := x8.fresh k' (by simpa using hk')
          have h2 := hSw k' hm
          omega
        have hW8 := ((x1.upd H6.out.1 (fun k' hk' => .inr (by simp only [List.mem_singleton] at hk'; subst hk'; exact hqS))).upd y2 (fun k' hk' => .inr (hsS k' hk'))).upd U78 (fun k' hk' => .inr (by simp only [List.mem_singleton] at hk'; subst hk'; exact hqS))
        have hg1S : g1 ∈ S := (x1.own g1 (by simp [Value.ownBlock])).1
        have hpS := H.out.p_mem
        have hmS : m1 ∈ S := by obtain ⟨_, _, _, _, _, _, _, h6, _⟩ := x1.ex; exact h6
        have hpm : p ≠ m1 := by obtain ⟨_, _, _, _, _, h4, _⟩ := x1.ex; exact h4
        have rowA := ownsRow_updL (ownsRow_updL (ownsRow_updL (own_pre x2 (m := fk) (by omega)) H6.out.1 (fun b hb e => by simp [Value.ownBlock] at hb e; omega)) y2 (fun b hb e => hsS b hb (by simp [Value.ownBlock] at e; exact e ▸ hg1S))) U78 (fun b hb e => by simp [Value.ownBlock] at hb e; omega)
        rw [Nat.mul_one, byts_take] at rowA
        have hlen : ((s.B i).take fk).length = fk := by rw [List.length_take, HQ.out.2.2]; omega
        have hstep := crashK_step (keep := keep) x5
        rw [HQ.out.1, HQ.out.2.1, ← HFK.out] at hstep
        have hok := crashK_ok H.out.ok keep (k + 1)
        rw [hstep] at hok
        have HPC := Lib.hid (put_callsX (b := (s.B i).take fk) (n := fk) hW8 (by rw [hlen]; exact rowA) (fun g hg => by simp [Value.ownBlock] at hg; simp [Value.ownBlock, hg]) hok)
        rw [← hstep] at HPC
        have Uall : Upd S w (w7.setCell ⟨q, 1, none⟩ (.int .i64 (fk : Nat))) := ((x3.u.fresh H6.out.1 (fun k' hk' => .inr (by simp only [List.mem_singleton] at hk'; omega))).fresh y2 (fun k' hk' => .inr (x8.fresh k' (by simpa using hk')))).fresh U78 (fun k' hk' => .inr (by simp only [List.mem_singleton] at hk'; omega))
        have cell8 : (w7.setCell ⟨q, 1, none⟩ (.int .i64 (fk : Nat))).cell? ⟨p, 1, none⟩ = some (.map (some m1)) := U78.some (y2.some (H6.out.1.some x3.cell (by simp; exact fun e => hqS (e ▸ hpS))) (fun hm => hsS p hm hpS)) (by simp; exact fun e => hqS (e ▸ hpS))
        have own7 := H6.out.2.2.push (by have := x8.fresh; have := H.out.lt; have := x3.u.size; have := H6.out.1.size; omega) y1 y3
        have hg7q : g7 ≠ q := by
          rcases y3 with h | h
          · exact fun e => y5 (by rw [h, e]; simp)
          · have := H6.out.2.1.lt; omega
        have own8 := own7.upd U78 (fun b hb e => by simp [Value.ownBlock] at hb e; omega)
        have ho8 : OwnV w 3 1 (.slice (some ⟨g0, 0, none⟩) fn vc) fn (ints ((filesS s).map Int.ofNat)) (w7.setCell ⟨q, 1, none⟩ (.int .i64 (fk : Nat))) := by
          have hl0 := x4.lt g0 rfl
          refine ((x4.upd H6.out.1 (fun b hb e => by simp [Value.ownBlock] at hb e; omega)).upd y2 (fun b hb e => ?_)).upd U78 (fun b hb e => by simp [Value.ownBlock] at hb e; omega)
          have hne := HLS.out
          exact hne b (by simpa using hb) e
        have HE8 := Lib.hid (And.intro Uall (And.intro cell8 (And.intro own8 (And.intro ho8 (And.intro hpm (And.intro hmS (And.intro hlen hg1S)))))))
        clear Uall cell8 own8 own7 ho8 hpm hmS rowA hstep hok hW8 U78 x1 x2 x3 x4 x5 x6 x7 x8 x9 y1 y2 y3 y4 y5 hB7 hsS hqS hSw hg7q e0 e1 f1 hlen hg1S hpS
        have d0 := b8.cell (i := 0) rfl
        have d1 := b8.cell (i := 1) rfl
        clear b8
        generalize w7.setCell ⟨q, 1, none⟩ (.int .i64 (fk : Nat)) = w8 at *
        go_wp2_with (go_at_call 30; refine HPC.out.mono ?_; rintro e w9 ⟨rfl, h9, u9, m9⟩)
        have hSw : ∀ k ∈ S, k < w.heap.size := H.out.lt
        have hm1S : ∀ b ∈ [m1], b < w.heap.size := fun b hb => by simp only [List.mem_singleton] at hb; subst hb; exact hSw _ HE8.out.2.2.2.2.2.1
        have hvS : ∀ b ∈ [m1], (Value.slice (some ⟨g7, 0, none⟩) (k + 1) cap7).ownBlock ≠ some b := fun b hb e => by
          have h1 := HE8.out.2.2.1.fresh b e
          have h2 := hm1S b hb
          omega
        have hvS2 : ∀ b ∈ [m1], (Value.slice (some ⟨g0, 0, none⟩) fn vc).ownBlock ≠ some b := fun b hb e => by
          have h1 := HE8.out.2.2.2.1.fresh b e
          have h2 := hm1S b hb
          omega
        have hv0 := HX.out.2.2.2.1.lt g0 rfl
        refine ⟨⟨k + 1, by go_num, by omega, ?_, ⟨h9, u9.some HE8.out.2.1 (by simpa using HE8.out.2.2.2.2.1), ⟨_, _, m9, HE8.out.2.2.1.upd u9 hvS, ?_⟩, HE8.out.1.fresh u9 (fun b hb => .inl (by simp only [List.mem_singleton] at hb; subst hb; exact HE8.out.2.2.2.2.2.1))⟩, HE8.out.2.2.2.1.upd u9 hvS2, ?_⟩, by simp [intOf]; omega⟩
        · rw [HSK.out]; exact congrArg (Value.int .i64) (by omega)
        · obtain ⟨x1, x2, x3, x4, x5, x6, x7, x8, x9, x10⟩ := HX.out
          have hvl : vals.length = k := by have := x8.row.1; omega
          intro j i' hj hi'
          by_cases hjk : j < k
          · obtain ⟨v, hv1, a6, c6, hv2, hv3⟩ := x9 j i' hjk hi'
            refine ⟨v, by rw [List.getElem?_append_left (by omega)]; exact hv1, a6, c6, hv2, fun h0 => ?_⟩
            obtain ⟨g, n, c, u, e1, e2⟩ := hv3 h0
            have hne : i' ≠ i := by
              intro e
              subst e
              have h1 := (List.getElem?_eq_some_iff.1 x5)
              have h2 := (List.getElem?_eq_some_iff.1 hi')
              have h3 := fl_nodup s.B 64
              rw [← filesS_fl] at h3
              have := (List.getElem_inj (i := j) (j := k) h3 (h₀ := h2.1) (h₁ := h1.1)).1 (h2.2.trans h1.2.symm)
              omega
            have h64 := (filesS_mem.1 (List.mem_of_getElem? hi')).1
            have hii : ¬ ((i' : Int) = (i : Int)) := fun h => hne (by omega)
            have huq := HMX.out.uniq x7 (x := (i' : Int)) ⟨by omega, by omega⟩
            exact ⟨g, n, c, u, e1, (if_neg hii).trans (huq.trans e2)⟩
          · have hjk : j = k := by omega
            subst hjk
            rw [x5] at hi'
            cases hi'
            refine ⟨.slice a5 kk c5, by rw [← hvl]; simp, a5, c5, by rw [HQ.out.2.1], fun h0 => ?_⟩
            rw [HQ.out.2.1] at h0
            refine ⟨g1, fk, vc1, .int .i64 (fk : Nat), by rw [HQ.out.1]; exact HS5.out h0, ?_⟩
            exact (if_pos rfl).trans (if_neg (fun e => by have := HE8.out.2.2.2.2.2.2.1; rw [e] at this; simp at this; have := HFK.out; omega))
        · intro b hb e
          simp only [Value.ownBlock, Option.some.injEq] at hb e
          subst hb
          subst e
          rcases H7.out.2.2.1 with h | h
          · exact HLS.out _ h rfl
          · have := H6.out.1.size; omega
    · have hkn : k = fn := by omega
      subst hkn
      have hall : sumL (keptN s keep) ((filesS s).take k) = tot (keptN s keep) 64 := by rw [List.take_of_length_le (by rw [HFN.out]; exact Nat.le_refl _)]; exact kept_all s keep
      rw [hall]
      have hbt := tot_mono (n := 64) (g := keptN s keep) (h := fun i => (s.B i).length) (fun i _ => by have := keptN_le s keep i; omega)
      have hbt2 := H.out.ok.used
      have hbt3 := H.out.ok.room
      unfold used at hbt2
      have htot : tot (keptN s keep) 64 ≤ 16777216 := by omega
      obtain ⟨m0, h1⟩ := hd.dk.cells
      have c2 := h1.cell (i := 2) rfl
      have c3 := h1.cell (i := 3) rfl
      have f2 := h1.free 2
      have f3 := h1.free 3
      have hok := crashS_ok H.out.ok keep fp
      have HOK := Lib.hid (And.intro hok hall)
      have HD := Lib.hid (And.intro hd ho)
      clear hd ho h1 hok hall hbt hbt2 hbt3
      by_cases hc : 0 ≤ fp ∧ 0 < tot (keptN s keep) 64
      · obtain ⟨hf0, ht0⟩ := hc
        obtain ⟨fq, rfl⟩ := Int.eq_ofNat_of_zero_le hf0
        obtain ⟨fm0, vals, hM0, hO, hsv⟩ := HD.out.1.ex
        obtain ⟨_, aS, cS, rfl, _⟩ := SL.of_owns hO.row
        have hti : (0 : Int) < (tot (keptN s keep) 64 : Nat) := by omega
        have hqlt : fq % (8 * tot (keptN s keep) 64) < 8 * tot (keptN s keep) 64 := Nat.mod_lt _ (by omega)
        have hqi : ((fq : Int)) % (8 * ((tot (keptN s keep) 64 : Nat) : Int)) = ((fq % (8 * tot (keptN s keep) 64) : Nat) : Int) := by simp [Int.natCast_emod]
        have HSM := Lib.hid (fun (i : Nat) h1 h2 h3 => crashS_some (i := i) H.out.ok (fp := fq) ht0 h1 h2 h3)
        have HVS := Lib.hid (And.intro hM0 (And.intro hO hsv))
        clear hM0 hO hsv
        have HQI := Lib.hid hqi
        clear hqi hf0
        go_upto_region 17 with fail
        rw [HQI.out]
        clear HQI
        have htk : (sumL (keptN s keep) ((filesS s).take 0) : Nat) = 0 := by simp [sumL]
        generalize hq : fq % (8 * tot (keptN s keep) 64) = q at *
        generalize htt : tot (keptN s keep) 64 = tt at *
        have HTT := Lib.hid (And.intro hq htt)
        clear hq htt
        go_wp2_with fail
        go_loopw [12, 85] (fun bt i wr => ∃ j : Nat, i = .int .i64 j ∧ j ≤ k ∧ 8 * sumL (keptN s keep) ((filesS s).take j) ≤ q ∧ bt = .int .i64 ((q - 8 * sumL (keptN s keep) ((filesS s).take j) : Nat) : Int) ∧ wr = wo) (fun _ i _ => k - (intOf i).toNat)
        case atStart => exact ⟨0, rfl, Nat.zero_le _, by rw [htk]; omega, by rw [htk]; rfl, rfl⟩
        case round =>
          obtain ⟨j, rfl, hj, hjq, rfl, rfl⟩ := hrel
          by_cases hjk : j < k
          · have hjki : (j : Int) < k := by omega
            have hjl : j < (filesS s).length := by rw [HFN.out]; exact hjk
            obtain ⟨i, hi⟩ : ∃ i, (filesS s)[j]? = some i := ⟨_, List.getElem?_eq_getElem hjl⟩
            obtain ⟨hi64, hne⟩ := filesS_mem.1 (List.mem_of_getElem? hi)
            obtain ⟨v, hv1, a5, c5, rfl, hv3⟩ := HVS.out.2.2 j i hjk hi
            obtain ⟨gS, capS, he, _⟩ := owns_form HVS.out.2.1.row (by omega)
            cases he
            have dS := HVS.out.2.1.row.cells (g := gS) rfl j _ hv1
            rw [addr_add, Nat.zero_add] at dS
            have hbe := before_at (keep := keep) hi
            have hkk := keptN_le s keep i
            have hlB := H.out.ok.len i
            have hFi := H.out.ok.firm i
            have hstep : sumL (keptN s keep) ((filesS s).take (j + 1)) = sumL (keptN s keep) ((filesS s).take j) + keptN s keep i := by rw [List.take_add_one, hi, sumL_append]; simp [sumL]
            have HJ := Lib.hid (And.intro hi (And.intro hi64 (And.intro hne (And.intro hv3 (And.intro hbe hstep)))))
            clear hi hne hv3 hbe hstep hv1 hjl
            generalize hkn : keptN s keep i = kk at *
            generalize sumL (keptN s keep) ((filesS s).take j) = sj at *
            have HKN := Lib.hid hkn
            clear hkn
            by_cases hin : q - 8 * sj < 8 * kk
            · have hini : ((q - 8 * sj : Nat) : Int) < 8 * (kk : Int) := by omega
              obtain ⟨hi, hi64, hne, hv3, hbe, hstep⟩ := HJ.out
              obtain ⟨g, n, c, u, rfl, hf⟩ := hv3 (by omega)
              obtain ⟨m1, fm, v1, hW, hM, hval, hrow, _⟩ := HD.out.1.dk.out hi64
              have hmem : i ∈ (filesS s).take k := by rw [List.take_of_length_le (by rw [HFN.out]; exact Nat.le_refl _)]; exact List.mem_of_getElem? hi
              have hBk : (crashK s keep k).B i = (s.B i).take (s.F i + kk) := by simp only [crashK]; rw [if_pos hmem, HKN.out]
              have hlk : ((crashK s keep k).B i).length = s.F i + kk := by rw [hBk, List.length_take]; omega
              have hmm : m1 = m := by
                obtain ⟨_, _, h1, _⟩ := hW.ex
                have e := (h1.cell (i := 1) rfl).symm.trans HD.out.1.cell
                simpa using e
              subst hmm
              have huq : fm (i : Int) = fm0 (i : Int) := hM.uniq HVS.out.1 ⟨by omega, by omega⟩
              have hval0 := hval
              rw [huq, hf] at hval
              obtain ⟨g1, vc1, rfl, _, hcap⟩ := owns_form hrow (by omega)
              have hgg : g1 = g := by simp at hval; exact hval.1.1.symm
              subst hgg
              obtain ⟨cur, hB, hcur, hset⟩ := row_set hrow
              have hix : s.F i + (q - 8 * sj) / 8 < ((crashK s keep k).B i).length := by omega
              have hy := List.getElem?_eq_getElem hix
              have hy8 := HD.out.1.dk.ok.u8 i _ (List.getElem_mem hix)
              have hsetL := flipL_set (l := (crashK s keep k).B i) (k := 8 * s.F i + (q - 8 * sj)) (y := ((crashK s keep k).B i)[s.F i + (q - 8 * sj) / 8]) (by rw [show (8 * s.F i + (q - 8 * sj)) / 8 = s.F i + (q - 8 * sj) / 8 by omega]; exact hy)
              rw [flipB_add, show (8 * s.F i + (q - 8 * sj)) / 8 = s.F i + (q - 8 * sj) / 8 by omega] at hsetL
              have hcy := hcur _ _ (byts_get hy)
              generalize ((crashK s keep k).B i)[s.F i + (q - 8 * sj) / 8] = y at *
              have HV := Lib.hid (invert_calls (off := s.F i) (n := kk) (cap := c5) (k := q - 8 * sj) hB hcy hy8 hin (by omega))
              have hpg : p ∉ [g1] := by simp only [List.mem_singleton]; exact fun e => (hW.own g1 (by simp [Value.ownBlock])).2.1 e.symm
              have HPG := Lib.hid hpg
              have hb2 : (crashK s keep k).B i ≠ [] := by intro e; rw [e] at hlk; simp at hlk; omega
              have HX := Lib.hid (And.intro hW (And.intro hM (And.intro hval0 (And.intro hset (And.intro hb2 (And.intro hsetL (And.intro hix (And.intro hi64 hbe))))))))
              have HC := Lib.hid (And.intro c2 (And.intro c3 (And.intro f2 f3)))
              clear hW hM hval hval0 hrow hB hcur hset hix hy hy8 hsetL hcy hpg hb2 hbe hstep hv3 hi hne hmem hBk hlk huq hf c2 c3 f2 f3
              go_wp2_with (go_at_call 31; refine HV.out.mono ?_; rintro e w1 ⟨rfl, hb1, u1⟩; have c2 := u1.some HC.out.1 HPG.out; have c3 := u1.some HC.out.2.1 HPG.out; have f2 := (u1.frozen (World.block_lt_of_cell? _ _ HC.out.1) HPG.out).trans HC.out.2.2.1; have f3 := (u1.frozen (World.block_lt_of_cell? _ _ HC.out.2.1) HPG.out).trans HC.out.2.2.2)
              go_end0
              obtain ⟨x1, x2, x3, x4, x5, x6, x7, x8, x9⟩ := HX.out
              have row1 := x4 w1 _ _ x7 hb1
              rw [← x6] at row1
              have hcs := HSM.out i (by rw [← x9]; omega) (by rw [HKN.out, ← x9]; omega) x8
              rw [HFN.out, ← x9] at hcs
              have hokc := HOK.out.1
              rw [hcs] at hokc
              have hokm : ({ crashK s keep k with B := setB (crashK s keep k).B i (flipL ((crashK s keep k).B i) (8 * s.F i + (q - 8 * sj))) } : DS).Ok :=
                ⟨hokc.out, hokc.firm, hokc.u8, HD.out.1.dk.ok.plan, hokc.room, hokc.used⟩
              have d1 := Dk.flip x1 x2 x3 x5 (flipL_length _ _) (by simp) (by simpa [Value.ownBlock] using u1) (by rw [flipL_length]; exact row1) hokm
              have hu2 : Upd [p] w1 ((w1.setCell ⟨p, 2, none⟩ (.bool false)).setCell ⟨p, 3, none⟩ (.int .i64 (-1))) := ((Upd.refl _ w1).set (.inl (by simp)) _).set (.inl (by simp)) _
              have hg1S : g1 ∈ S := (x1.own g1 (by simp [Value.ownBlock])).1
              have d2 := d1.head (s' := crashS s keep (fq : Int)) HOK.out.1 (by rw [hcs]) (by rw [hcs]) hu2 (fun m' hb => by
                have := (hb.set 2 (.bool false)).set 3 (.int .i64 (-1))
                rw [hcs]
                exact this)
              exact ⟨rfl, d2, (HD.out.1.u.fresh u1 (fun k hk => .inl (by simp only [List.mem_singleton] at hk; subst hk; exact hg1S))).fresh hu2 (fun k hk => .inl (by simp only [List.mem_singleton] at hk; subst hk; exact H.out.p_mem))⟩
            · have hini : ¬ ((q - 8 * sj : Nat) : Int) < 8 * (kk : Int) := by omega
              go_wp2_with fail
              go_roundw
              case rel => exact ⟨j + 1, by go_num, by omega, by rw [HJ.out.2.2.2.2.2]; omega, by rw [HJ.out.2.2.2.2.2]; exact congrArg (Value.int .i64) (by omega), trivial⟩
              case measure => simp [intOf]; omega
          · have hjk2 : j = k := by omega
            exfalso
            rw [hjk2, HOK.out.2] at hjq
            omega
      · have hcs := crashS_none H.out.ok hc
        have HCS := Lib.hid hcs
        clear hcs
        have fin : Dk ((wo.setCell ⟨p, 2, none⟩ (.bool false)).setCell ⟨p, 3, none⟩ (.int .i64 (-1))) p (crashS s keep fp) S ∧ Upd S w ((wo.setCell ⟨p, 2, none⟩ (.bool false)).setCell ⟨p, 3, none⟩ (.int .i64 (-1))) := by
          have hu : Upd [p] wo ((wo.setCell ⟨p, 2, none⟩ (.bool false)).setCell ⟨p, 3, none⟩ (.int .i64 (-1))) := ((Upd.refl _ wo).set (.inl (by simp)) _).set (.inl (by simp)) _
          have h9 := HOK.out.1
          rw [HCS.out] at h9 ⊢
          rw [HFN.out] at h9 ⊢
          exact ⟨HD.out.1.dk.head h9 rfl rfl hu (fun m' hb => (hb.set 2 _).set 3 _), HD.out.1.u.fresh hu (fun k hk => .inl (by simp only [List.mem_singleton] at hk; subst hk; exact H.out.p_mem))⟩
        have FIN := Lib.hid fin
        clear fin
        by_cases hf0 : 0 ≤ fp
        · have ht0 : tot (keptN s keep) 64 = 0 := by omega
          rw [ht0]
          clear hc
          go_wp2_with fail
          go_end0
          exact ⟨rfl, FIN.out.1, FIN.out.2⟩
        · clear hc
          go_wp2_with fail
          go_end0
          exact ⟨rfl, FIN.out.1, FIN.out.2⟩
end
end Disk
end Go.Proofs.YtfkgpecglcjpkaaGreat
