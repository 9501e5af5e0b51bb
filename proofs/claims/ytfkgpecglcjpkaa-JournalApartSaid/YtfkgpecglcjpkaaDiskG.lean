/- Walks through package disk: Sync. Conditions: none. -/
import Derived.Test.YtfkgpecglcjpkaaDiskF
set_option linter.unusedVariables false
set_option linter.unusedSimpArgs false
set_option linter.unusedSectionVars false
open Go.RowKit
namespace Go.Proofs.Ytfkgpecglcjpkaa
open L
namespace Disk
open Wire
theorem setB_self (B : Nat → List Int) (i : Nat) : setB B i (B i) = B := by
  funext j
  unfold setB
  split
  · rename_i h; rw [h]
  · rfl
/-- A Sync, so far. -/
def syncK (s : DS) (k : Nat) : DS := { s with F := fun i => if i ∈ (filesS s).take k then (s.B i).length else s.F i }
theorem syncK_ok {s : DS} (h : s.Ok) (k : Nat) : (syncK s k).Ok :=
  ⟨h.out, fun i => by
    simp only [syncK]
    split
    · exact Nat.le_refl _
    · exact h.firm i, h.u8, h.plan, h.room, h.used⟩
theorem syncK_zero (s : DS) : syncK s 0 = s := by simp [syncK]
theorem syncK_step (s : DS) {k i : Nat} (hk : (filesS s)[k]? = some i) : syncK s (k + 1) = { syncK s k with F := setF (syncK s k).F i (s.B i).length } := by
  unfold syncK
  congr 1
  funext j
  rw [List.take_add_one, hk]
  unfold setF
  by_cases e : j = i
  · subst e; simp
  · simp [e]
theorem filesS_mem {s : DS} {i : Nat} : i ∈ filesS s ↔ i < 64 ∧ s.B i ≠ [] := by
  unfold filesS
  rw [List.mem_filter, List.mem_range]
  simp
theorem syncK_end {s : DS} (h : s.Ok) : syncK s (filesS s).length = { s with F := fun i => (s.B i).length } := by
  unfold syncK
  congr 1
  funext i
  rw [List.take_of_length_le (Nat.le_refl _)]
  split
  · rfl
  · rename_i hn
    have hb : s.B i = [] := by
      by_cases hi : i < 64
      · exact Classical.byContradiction fun hb => hn (filesS_mem.2 ⟨hi, hb⟩)
      · exact h.out i (by omega)
    have := h.firm i
    rw [hb] at this ⊢
    simpa using this
section
variable {w w' : World} {p : Nat} {s : DS} {S : List Nat}
set_option maxRecDepth 100000 in
set_option maxHeartbeats 4000000 in
theorem Sync_calls (h : Dk w p s S) : Calls Try.prog 52 #[.pointer (some ⟨p, 0, none⟩)] w fun e w' => e = .returned (.int .i64 (syncS s).1) ∧ Dk w' p (syncS s).2 S ∧ Upd S w w' := by
  obtain ⟨m, h1⟩ := h.cells
  have c2 := h1.cell (i := 2) rfl
  have H := Lib.hid h
  clear h h1
  cases hoff : s.off with
  | true =>
    have HR := Lib.hid (show syncS s = (23, s) by unfold syncS; rw [if_pos hoff])
    rw [hoff] at c2
    clear hoff
    go_enter Try.func52, Try.ntmps52
    go_wp2_with fail
    go_ret
    rw [HR.out]
    exact ⟨rfl, H.out, Upd.refl _ _⟩
  | false =>
    rw [hoff] at c2
    have HFA := Lib.hid (fails_calls H.out)
    have hpS := Lib.hid H.out.p_mem
    cases hst : (stepS s).1 with
    | true =>
      have HR := Lib.hid (show syncS s = (23, (stepS s).2) by unfold syncS; rw [if_neg (by rw [hoff]; simp), if_pos hst])
      rw [hst] at HFA
      clear hoff hst
      go_enter Try.func52, Try.ntmps52
      go_wp2_with (go_at_call 56; refine HFA.out.mono ?_; rintro e w1 ⟨rfl, h6, u6⟩)
      go_ret
      rw [HR.out]
      exact ⟨rfl, h6, u6.wide (fun k hk => by simp at hk; subst hk; exact .inl hpS.out)⟩
    | false =>
      have HR := Lib.hid (show syncS s = (0, { (stepS s).2 with F := fun i => (s.B i).length }) by unfold syncS; rw [if_neg (by rw [hoff]; simp), if_neg (by rw [hst]; simp)])
      rw [hst] at HFA
      obtain ⟨hB, _, _⟩ := stepS_B s
      rw [← hB] at HR
      generalize (stepS s).2 = s1 at *
      clear hoff hst hB
      go_enter Try.func52, Try.ntmps52
      go_upto_region 3 with (go_at_call 56; refine HFA.out.mono ?_; rintro e w1 ⟨rfl, h6, u6⟩)
      have H1 := Lib.hid (And.intro h6 (u6.wide (T := S) (fun k hk => by simp at hk; subst hk; exact .inl hpS.out)))
      clear h6 u6 c2 HFA
      have HFL := Lib.hid (Files_calls H1.out.1)
      have hfl := filesS_length s1
      go_upto_block 0 with (go_at_call 57; refine HFL.out.mono ?_; rintro e w2 ⟨v, rfl, o2, u2⟩; obtain ⟨_, va, vc, rfl, _⟩ := SL.of_owns o2.row)
      have H2 := Lib.hid (And.intro o2 (And.intro (H1.out.1.quiet u2) (H1.out.2.step u2)))
      clear o2 u2 HFL
      generalize hfn : (filesS s1).length = fn at *
      have HFN := Lib.hid hfn
      clear hfn
      go_wp2_with fail
      go_loopw [17] (fun i wr => ∃ k : Nat, i = .int .i64 k ∧ k ≤ fn ∧ Dk wr p (syncK s1 k) S ∧ Upd S w2 wr) (fun i _ => fn - (intOf i).toNat)
      case atStart => exact ⟨0, rfl, Nat.zero_le _, by rw [syncK_zero]; exact H2.out.2.1, Upd.refl _ _⟩
      case round =>
        obtain ⟨wo, rfl⟩ : ∃ wo : World, wo = wr := ⟨_, rfl⟩
        obtain ⟨k, rfl, hk, hd, hu⟩ := hrel
        by_cases hlt : k < fn
        · have hlti : (k : Int) < fn := by omega
          have hkl : k < (filesS s1).length := by rw [HFN.out]; exact hlt
          obtain ⟨i, hi⟩ : ∃ i, (filesS s1)[k]? = some i := ⟨_, List.getElem?_eq_getElem hkl⟩
          obtain ⟨hi64, hne⟩ := filesS_mem.1 (List.mem_of_getElem? hi)
          obtain ⟨g, hva⟩ : ∃ g, va = some ⟨g, 0, none⟩ := by
            rcases owns_addr H2.out.1.row with ⟨rfl, rfl⟩ | h
            · have := (SL.of_owns H2.out.1.row).val
              obtain ⟨_, _, he, h2, _⟩ := this
              cases he
              omega
            · exact h
          subst hva
          have hgS : g ∉ S := fun hm => by have h1 := H2.out.1.fresh g rfl; have h2 := H1.out.1.lt g hm; omega
          have o3 := H2.out.1.upd hu (fun b hb e => by simp [Value.ownBlock] at e; subst e; exact hgS hb)
          have d0 := o3.row.cells (g := g) rfl k _ (ints_get (x := (i : Int)) (by rw [List.getElem?_map, hi]; rfl))
          rw [addr_add, Nat.zero_add] at d0
          obtain ⟨m1, fm, v1, hW, hM, hval, hrow, _⟩ := hd.out hi64
          obtain ⟨_, va1, vc1, rfl, _⟩ := SL.of_owns hrow
          have h1 : Blk wo p [.int .i64 (s1.room : Int), .map (some m1), .bool s1.off, .int .i64 s1.plan] 89 := by obtain ⟨_, _, h1, _⟩ := hW.ex; exact h1
          have c1 := h1.cell (i := 1) rfl
          have hlt1 := h1.lt
          have HM := Lib.hid hM
          have HV := Lib.hid hval
          have hlB := hd.ok.len i
          have HX := Lib.hid (And.intro hW (And.intro hrow (And.intro hd (And.intro hu (And.intro hi (And.intro hne hi64))))))
          clear hW hrow hM hval h1 hd hu hi hne o3
          go_upto_region 7 with (first | (at_lookup; refine wpList_mflook (k := 3) Try.underlying3 Try.underlying87 infoFile _ _ rfl rfl m1 64 fm (i : Int) rfl rfl HM.out ⟨by omega, by omega⟩ ?_; rw [HV.out]) | go_in)
          have hstep := syncK_step s1 HX.out.2.2.2.2.1
          have hokn := syncK_ok H1.out.1.ok (k + 1)
          rw [hstep] at hokn
          have HST := Lib.hid (And.intro hstep hokn)
          clear hstep hokn
          have hBk : s1.B = (syncK s1 k).B := rfl
          rw [hBk] at HST
          clear hBk
          have HNK := Lib.hid (show (syncK s1 k).B i ≠ [] from HX.out.2.2.2.2.2.1)
          generalize syncK s1 k = sk at *
          have ubx : Upd [] wo (wo.alloc (.cells #[.slice va1 (sk.B i).length vc1, .int .i64 (sk.F i : Int)] 91)) := (Upd.refl _ wo).alloc _
          have bbx := Blk.new wo [.slice va1 (sk.B i).length vc1, .int .i64 (sk.F i : Int)] 91
          have hqS : wo.heap.size ∉ S := fun hm => by have := HX.out.1.lt _ hm; omega
          have hqw : w2.heap.size ≤ wo.heap.size := HX.out.2.2.2.1.size
          have HY := Lib.hid (And.intro (HX.out.1.upd ubx (by simp)) (And.intro (ownsRow_updL HX.out.2.1 ubx (by simp)) (And.intro (HX.out.2.2.2.1.step ubx) (And.intro bbx (And.intro hqS (And.intro hqw (HM.out.upd ubx (by simp))))))))
          clear ubx bbx hqS hqw HV HM c1 hlt1 d0
          generalize hq : wo.heap.size = q at *
          have e0 := HY.out.2.2.2.1.cell (i := 0) rfl
          have e1 := HY.out.2.2.2.1.cell (i := 1) rfl
          have g1 := HY.out.2.2.2.1.free 1
          generalize wo.alloc (.cells #[.slice va1 (sk.B i).length vc1, .int .i64 (sk.F i : Int)] 91) = w4 at *
          clear hq
          go_upto_region 8 with fail
          have b5 := HY.out.2.2.2.1.set 1 (.int .i64 ((sk.B i).length : Nat))
          have U45 : Upd [q] w4 (w4.setCell ⟨q, 1, none⟩ (.int .i64 ((sk.B i).length : Nat))) := (Upd.refl _ w4).set (.inl (by simp)) _
          simp only [List.set_cons_zero, List.set_cons_succ] at b5
          have hqm : q ≠ m1 := fun e => by obtain ⟨_, _, _, _, _, _, _, h6, _⟩ := HY.out.1.ex; exact HY.out.2.2.2.2.1 (e ▸ h6)
          have hW5 := HY.out.1.upd U45 (fun k hk => .inr (by simp at hk; subst hk; exact HY.out.2.2.2.2.1))
          have row5 := ownsRow_updL HY.out.2.1 U45 (fun b hb e => HY.out.2.2.2.2.1 (by simp only [List.mem_singleton] at hb; subst hb; exact (HY.out.1.own b (by rw [e]; simp)).1))
          have Uall : Upd S w2 (w4.setCell ⟨q, 1, none⟩ (.int .i64 ((sk.B i).length : Nat))) := HY.out.2.2.1.fresh U45 (fun k hk => .inr (by simp at hk; subst hk; exact HY.out.2.2.2.2.2.1))
          have hm5 := HY.out.2.2.2.2.2.2.upd U45 (by simp; exact fun e => hqm e.symm)
          have h1 : Blk (w4.setCell ⟨q, 1, none⟩ (.int .i64 ((sk.B i).length : Nat))) p [.int .i64 (sk.room : Int), .map (some m1), .bool sk.off, .int .i64 sk.plan] 89 := by obtain ⟨_, _, h1, _⟩ := hW5.ex; exact h1
          have H5 := Lib.hid (And.intro hW5 (And.intro row5 (And.intro Uall hm5)))
          have c1 := h1.cell (i := 1) rfl
          clear hW5 row5 Uall U45 hm5 h1 e0 e1 g1 hqm
          have d0 := b5.cell (i := 0) rfl
          have d1 := b5.cell (i := 1) rfl
          clear b5
          generalize w4.setCell ⟨q, 1, none⟩ (.int .i64 ((sk.B i).length : Nat)) = w5 at *
          refine wp_region_ord 6 1 [0, 1, 2, 3, 4, 5] [3, 5] [0, 1, 2, 3, 4, 5, 6] (fun w' => ∃ x : Ext w5, w' = x.val) (by kernel_rfl) (by kernel_rfl) (Ext.of (by iterate 25 (first | exact Upd.refl _ _ | assumption | refine Upd.alloc ?_ _ | refine Upd.drew ?_ | refine Upd.drewN ?_ _ | refine Upd.dl ?_ | refine Upd.step ?_ (Ext.upd _) | refine Upd.nil ?_ | skip))) ?_
          repeat (first | (refine wpOrd_load rfl rfl rfl rfl (fun K hK => ?_); go_big_quiet_step (fail); refine wpQuiet_nil ?_; refine hK _ ?_; clear hK K) | (refine wpOrd_free rfl rfl rfl (fun K hK => ?_); go_big_quiet_step (fail); refine wpQuiet_nil ?_; refine hK _ ?_; clear hK K))
          refine wpOrd_fix rfl rfl (fun K hK => ?_)
          refine wpList_mfput (k := 3) Try.underlying3 Try.underlying87 rfl _ _ _ rfl m1 64 fm (i : Int) (.agg #[.slice va1 (sk.B i).length vc1, .int .i64 ((sk.B i).length : Nat)]) rfl rfl rfl (H5.out.2.2.2.upd (S := []) (by iterate 25 (first | exact Upd.refl _ _ | assumption | refine Upd.alloc ?_ _ | refine Upd.drew ?_ | refine Upd.drewN ?_ _ | refine Upd.dl ?_ | refine Upd.step ?_ (Ext.upd _) | refine Upd.nil ?_ | skip)) (by simp)) ⟨by omega, by omega⟩ ?_
          intro w6 hm6 u6
          go_wp2_with fail
          try (refine ⟨fun hC => absurd hC (by decide), ?_⟩)
          refine wpOrd_nil ?_
          have ud : Upd [] w5 w5.drew := (Upd.refl _ _).drew
          have hd6 := (H5.out.1.upd ud (by simp)).close (b := sk.B i) (n := (sk.B i).length) u6 (hm6.congr (fun x => by rw [if_neg HNK.out])) (ownsRow_updL H5.out.2.1 ud (by simp)) (fun g hg => by rw [hg]; simp) (by rw [setB_self]; exact HST.out.2)
          rw [setB_self, ← HST.out.1] at hd6
          have hmS : m1 ∈ S := by obtain ⟨_, _, _, _, _, _, _, h6, _⟩ := H5.out.1.ex; exact h6
          have HE := Lib.hid (And.intro hd6 (H5.out.2.2.1.trans (ud.nil.trans (u6.wide (fun k hk => by simp at hk; subst hk; exact .inl hmS)))))
          clear hd6 hmS ud hm6 u6 c1 d0 d1
          go_wp2_with fail
          go_roundw
          case rel => exact ⟨k + 1, by go_num, by omega, HE.out.1, HE.out.2⟩
          case measure => simp [intOf]; omega
        · have hkn : k = fn := by omega
          subst hkn
          have HE := Lib.hid (And.intro hd hu)
          clear hd hu
          go_wp2_with fail
          go_ret
          rw [HR.out]
          have h9 := HE.out.1
          rw [← HFN.out, syncK_end H1.out.1.ok] at h9
          exact ⟨rfl, h9, H2.out.2.2.trans HE.out.2⟩
end
end Disk
end Go.Proofs.Ytfkgpecglcjpkaa
