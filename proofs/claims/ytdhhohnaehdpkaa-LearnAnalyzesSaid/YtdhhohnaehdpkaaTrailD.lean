/- Walks through package trail: what takes literals back. Conditions: none. -/
import Derived.Test.YtdhhohnaehdpkaaTrailC
set_option linter.unusedVariables false
set_option linter.unusedSimpArgs false
set_option linter.unusedSectionVars false
open Go.RowKit
namespace Go.Proofs.Ytdhhohnaehdpkaa
open L
namespace Trail
section
variable {w : World} {b vars : Nat} {es : Es} {now : Int} {S : List Nat}

theorem cut_calls (h : Tr w b vars es now S) (left : Nat) (hl : left ≤ es.length) :
    Calls Try.prog 62 #[.pointer (some ⟨b, 0, none⟩), .int .i64 left] w fun e w' => e = .returned (.tuple #[]) ∧ Tr w' b vars (es.take left) now S ∧ Upd S w w' := by
  have hv := h.wf.max
  have hlen := h.wf.len
  obtain ⟨h0, pb, pcap, lv, pad, rfl, h1, h2, h3, h4, h5, h6, h7, h8⟩ := h
  have c0 := h1.cell (i := 0) rfl
  have c1 := h1.cell (i := 1) rfl
  have c2 := h1.cell (i := 2) rfl
  by_cases hlt : left < es.length
  · obtain ⟨g, cap, rfl, hnc, hcm, hlc⟩ := list_cells h5 (by omega)
    unfold maxLen at hcm
    go_enter Try.func62, Try.ntmps62
    go_wp2_with fail
    have nb : g ≠ b := fun e => h7 (by simp [Value.ownBlock, e])
    have npb : g ≠ pb := fun e => h8 (by simp [Value.ownBlock, e])
    go_loopw [13] (fun i wr => ∃ k : Nat, k ≤ es.length - left ∧ i = .int .i64 k ∧ Upd [pb] w wr ∧ Blk wr pb (plz vars es (((es.drop left).take k).map fun e => e.1.natAbs) ++ pad) 21)
      (fun i _ => es.length - left - (intOf i).toNat)
    case atStart => exact ⟨0, Nat.zero_le _, rfl, Upd.refl _ _, by simpa [plz_nil] using h2⟩
    case round =>
      obtain ⟨k, hk, rfl, hu, hb⟩ := hrel
      by_cases hlt : k < es.length - left
      · obtain ⟨e0, e1, e2⟩ := hlc (left + k) (by omega)
        rw [Nat.add_mul] at e0 e1 e2
        replace e0 := hu.some e0 (by simpa using npb)
        replace e1 := hu.some e1 (by simpa using npb)
        replace e2 := hu.some e2 (by simpa using npb)
        have hle := h0.lit _ (at_mem (show left + k < es.length by omega))
        have hb0 := hu.some c0 (by simpa using h6)
        have cp : wr.cell? ⟨pb, (at_ es (left + k)).1.natAbs, none⟩ = some _ := hb.cell (by rw [List.getElem?_append_left (by rw [plz_length]; omega)]; exact plz_get (by omega))
        have fp := hb.free (at_ es (left + k)).1.natAbs
        have hat : ((es.drop left).take (k + 1)).map (fun e => e.1.natAbs) = ((es.drop left).take k).map (fun e => e.1.natAbs) ++ [(at_ es (left + k)).1.natAbs] := by
          rw [List.take_add_one, List.map_append, List.getElem?_drop]
          unfold at_
          rw [List.getD_eq_getElem?_getD, List.getElem?_eq_getElem (by omega)]
          simp
        have HB := Lib.hid hat
        have c0' := c0
        clear hat hlc c0 c1 c2
        generalize at_ es (left + k) = y at *
        generalize lev es (left + k) = z at *
        go_wp2_with fail
        have hu1 := hu.alloc (.cells #[.int .i64 y.fst, .int .i64 z, .int .i64 y.snd] 89)
        have N1 := (Blk.new wr [.int .i64 y.fst, .int .i64 z, .int .i64 y.snd] 89).cell (i := 0) rfl
        have hb1 := hb.alloc (.cells #[.int .i64 y.fst, .int .i64 z, .int .i64 y.snd] 89)
        replace hb0 := hu1.some c0' (by simpa using h6)
        replace cp : (wr.alloc _).cell? ⟨pb, y.1.natAbs, none⟩ = some _ := hb1.cell (by rw [List.getElem?_append_left (by rw [plz_length]; omega)]; exact plz_get (by omega))
        replace fp := hb1.free y.1.natAbs
        generalize wr.alloc (.cells #[.int .i64 y.fst, .int .i64 z, .int .i64 y.snd] 89) = w1 at *
        generalize wr.heap.size = nw at *
        clear e0 e1 e2
        refine wp_region_ord 8 1 [0, 1, 2, 3, 4, 5, 7] [3, 5] [0, 1, 2, 3, 4, 5, 6, 7, 8] (fun w' => ∃ x : Ext w1, w' = x.val) (by kernel_rfl) (by kernel_rfl) (Ext.of (by iterate 25 (first | exact Upd.refl _ _ | assumption | refine Upd.alloc ?_ _ | refine Upd.drew ?_ | refine Upd.drewN ?_ _ | refine Upd.dl ?_ | refine Upd.step ?_ (Ext.upd _) | refine Upd.nil ?_ | skip))) ?_
        repeat (first | (refine wpOrd_load rfl rfl rfl rfl (fun K hK => ?_); go_big_quiet_step (fail); refine wpQuiet_nil ?_; refine hK _ ?_; clear hK K) | (refine wpOrd_free rfl rfl rfl (fun K hK => ?_); go_big_quiet_step (fail); refine wpQuiet_nil ?_; refine hK _ ?_; clear hK K))
        refine wpOrd_fix rfl rfl (fun K hK => ?_)
        go_wp2_with (go_at_call 61; refine (variable_calls _ _ (by omega)).mono ?_; rintro e w' ⟨rfl, rfl⟩)
        refine ⟨fun _ => Ext.of (by iterate 25 (first | exact Upd.refl _ _ | assumption | refine Upd.alloc ?_ _ | refine Upd.drew ?_ | refine Upd.drewN ?_ _ | refine Upd.dl ?_ | refine Upd.step ?_ (Ext.upd _) | refine Upd.nil ?_ | skip)), ?_⟩
        repeat (first | (refine wpOrd_load rfl rfl rfl rfl (fun K hK => ?_); go_big_quiet_step (fail); refine wpQuiet_nil ?_; refine hK _ ?_; clear hK K) | (refine wpOrd_free rfl rfl rfl (fun K hK => ?_); go_big_quiet_step (fail); refine wpQuiet_nil ?_; refine hK _ ?_; clear hK K))
        refine wpOrd_fix rfl rfl (fun K hK => ?_)
        go_wp2_with fail
        refine ⟨fun hC => absurd hC (by decide), ?_⟩
        refine wpOrd_nil ?_
        go_wp2_with fail
        go_roundw
        case rel =>
          refine ⟨k + 1, by omega, by go_num, (hu1.set (p := ⟨pb, _, none⟩) (by simp) _).drew, ?_⟩
          have := hb1.set y.1.natAbs (.int .i32 0)
          rw [List.set_append_left _ _ (by rw [plz_length]; omega), plz_set (by omega), ← HB.out] at this
          exact this
        case measure => simp [intOf]; omega
      · have hke : k = es.length - left := by omega
        subst hke
        rw [List.take_of_length_le (by simp), plz_full h0] at hb
        have B1 := h1.upd hu (by simpa using h6)
        have e1 := B1.cell (i := 1) rfl
        have f1 := B1.free 1
        go_wp2_with fail
        go_end0
        have hmin : (es.take left).length = left := by simp; omega
        refine ⟨rfl, ⟨h0.take _, pb, pcap, .slice (some ⟨g, 0, none⟩) left cap, pad, rfl, B1.set 1 _, hb.setOther (p := ⟨b, 1, none⟩) h6 _, h3, h4, ?_, h6, h7, h8⟩, ?_⟩
        · rw [rows_take_ent (by omega), hmin]
          refine ownsRow_upd (S := [b]) (w := wr) (own_take (ownsRow_upd h5 hu (by simp [Value.ownBlock]; omega)) (by omega)) ((Upd.refl _ _).set (by simp) _) (by simp [Value.ownBlock]; omega)
        · exact (hu.wide (by simp)).set (by simp) _
  · have hle : left = es.length := by omega
    have f1 := h1.free 1
    have e0 := (h1.cell (i := 1) rfl)
    subst hle
    have fin : ∀ w', w' = w.setCell ⟨b, 1, none⟩ lv → (Tr w' b vars (es.take es.length) now (b :: pb :: lv.ownBlock.toList) ∧ Upd (b :: pb :: lv.ownBlock.toList) w w') := by
      rintro w' rfl
      refine ⟨⟨h0.take _, pb, pcap, lv, pad, rfl, h1.set 1 lv, ?_, h3, h4, ?_, h6, h7, h8⟩, (Upd.refl _ _).set (by simp) _⟩
      · rw [List.take_length]; exact h2.setOther (p := ⟨b, 1, none⟩) h6 _
      · rw [List.take_length]; exact ownsRow_upd (S := [b]) h5 ((Upd.refl _ _).set (by simp) _) (by simpa using h7)
    obtain ⟨a, cap, rfl, hnc, hcm, _⟩ := (SL.of_owns h5).val
    unfold maxLen at hcm
    generalize es.length = n at *
    clear h0 h1 h2 h5
    rcases (by omega : cap = n ∨ n < cap) with rfl | hz
    all_goals
      go_enter Try.func62, Try.ntmps62
      go_wp2_with fail
      refine wp_loop_once ?_
      go_wp2_with fail
      go_end0
      refine ⟨rfl, fin _ rfl⟩
theorem Tr.setNow (h : Tr w b vars es now S) (n : Int) : Tr (w.setCell ⟨b, 2, none⟩ (.int .i64 n)) b vars es n S := by
  obtain ⟨h0, pb, pcap, lv, pad, rfl, h1, h2, h3, h4, h5, h6, h7, h8⟩ := h
  exact ⟨h0, pb, pcap, lv, pad, rfl, h1.set 2 _, h2.setOther (p := ⟨b, 2, none⟩) h6 _, h3, h4, ownsRow_upd (S := [b]) h5 ((Upd.refl _ _).set (by simp) _) (by simpa using h7), h6, h7, h8⟩
theorem Tr.cell2 (h : Tr w b vars es now S) : w.cell? ⟨b, 2, none⟩ = some (.int .i64 now) ∧ w.frozen? ⟨b, 2, none⟩ = false := by
  obtain ⟨h0, pb, pcap, lv, pad, rfl, h1, h2, h3, h4, h5, h6, h7, h8⟩ := h
  exact ⟨h1.cell rfl, h1.free 2⟩
theorem Tr.mem_b (h : Tr w b vars es now S) : b ∈ S := by
  obtain ⟨h0, pb, pcap, lv, pad, rfl, h1⟩ := h
  simp
theorem Undo_bad (h : Tr w b vars es (decs es) S) (level : Int) (hr : level < 0 ∨ (decs es : Int) < level) :
    Calls Try.prog 30 #[.pointer (some ⟨b, 0, none⟩), .int .i64 level] w fun e w' => e = .returned (.int .i64 5) ∧ w = w' := by
  obtain ⟨c2, f2⟩ := h.cell2
  by_cases h0 : level < 0
  · go_enter Try.func30, Try.ntmps30
    go_wp2_with fail
    go_ret
    exact ⟨rfl, rfl⟩
  · have h1 : (decs es : Int) < level := by omega
    clear hr
    go_enter Try.func30, Try.ntmps30
    go_wp2_with fail
    go_ret
    exact ⟨rfl, rfl⟩
theorem Undo_good (h : Tr w b vars es (decs es) S) (level : Int) (hr0 : 0 ≤ level) (hr1 : level ≤ decs es) :
    Calls Try.prog 30 #[.pointer (some ⟨b, 0, none⟩), .int .i64 level] w fun e w' => e = .returned (.int .i64 0) ∧ Tr w' b vars (es.take (undoN es level)) level S ∧ Upd S w w' := by
  have H := h
  obtain ⟨c2, f2⟩ := h.cell2
  have hlen := h.wf.len
  have hv := h.wf.max
  obtain ⟨h0, pb, pcap, lv, pad, hS, h1, h2, h3, h4, h5, h6, h7, h8⟩ := h
  have c1 := h1.cell (i := 1) rfl
  have hform : ∃ a cap, lv = .slice a es.length cap ∧ (0 < es.length → ∃ g, a = some ⟨g, 0, none⟩ ∧ ∀ i, i < es.length → w.cell? ⟨g, i * 3 + 1, none⟩ = some (.int .i64 (lev es i))) := by
    by_cases hz : 0 < es.length
    · obtain ⟨g, cap, rfl, _, _, hlc⟩ := list_cells h5 hz
      exact ⟨_, cap, rfl, fun _ => ⟨g, rfl, fun i hi => (hlc i hi).2.1⟩⟩
    · obtain ⟨a, cap, rfl, _⟩ := (SL.of_owns h5).val
      exact ⟨a, cap, rfl, fun h => absurd h hz⟩
  obtain ⟨a, cap, rfl, hcells⟩ := hform
  clear h0 h1 h2 h3 h4 h5 h6 h7 h8
  go_enter Try.func30, Try.ntmps30
  go_wp2_with fail
  go_loop [5] (fun v => ∃ k : Nat, k ≤ es.length ∧ v = .int .i64 k ∧ ∀ i, k ≤ i → i < es.length → level < (lev es i : Int)) (fun v => (intOf v).toNat)
  case atStart => exact ⟨es.length, Nat.le_refl _, rfl, fun i h1 h2 => by omega⟩
  case round =>
    obtain ⟨k, hk, rfl, hhi⟩ := hrel
    have fin : (k = 0 ∨ (lev es (k - 1) : Int) ≤ level) → undoN es level = k := fun hlow => undoN_eq hk (fun i hi => by
      rcases hlow with hlow | hlow
      · omega
      · have := lev_mono (es := es) (show i ≤ k - 1 by omega); omega) (fun hlt => hhi k (Nat.le_refl _) hlt)
    have FIN := Lib.hid fin
    clear fin
    by_cases hz : k = 0
    · subst hz
      go_wp2_with fail
      refine (cut_calls H 0 (by omega)).mono ?_
      rintro e w1 ⟨rfl, hT, hU⟩
      obtain ⟨d2, e2⟩ := hT.cell2
      go_wp2_with fail
      go_ret
      exact ⟨rfl, by rw [FIN.out (by simp)]; exact hT.setNow _, hU.set (.inl H.mem_b) _⟩
    · obtain ⟨g, rfl, hc⟩ := hcells (by omega)
      have hck := hc (k - 1) (by omega)
      clear hc
      have hkk : ((k - 1 : Nat) : Int) = (k : Int) - 1 := by omega
      have HK := Lib.hid hkk
      clear hkk
      by_cases hlv : level < (lev es (k - 1) : Int)
      · go_wp2_with fail
        refine ⟨⟨k - 1, by omega, by rw [HK.out], fun i h1 h2 => ?_⟩, by simp [intOf]; omega⟩
        rcases Nat.lt_or_ge i k with hlt | hge
        · obtain rfl : i = k - 1 := by omega
          exact hlv
        · exact hhi i hge h2
      · have hlv' : (lev es (k - 1) : Int) ≤ level := by omega
        clear hlv
        go_wp2_with fail
        refine (cut_calls H k (by omega)).mono ?_
        rintro e w1 ⟨rfl, hT, hU⟩
        obtain ⟨d2, e2⟩ := hT.cell2
        go_wp2_with fail
        go_ret
        exact ⟨rfl, by rw [FIN.out (.inr hlv')]; exact hT.setNow _, hU.set (.inl H.mem_b) _⟩
end
end Trail
end Go.Proofs.Ytdhhohnaehdpkaa
