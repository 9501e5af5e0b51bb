/- Walks through package disk: how many bytes there are, the numbers of files. Conditions: none. Walks through package disk: Append, Read. Conditions: none. Walks through package disk: Read, Truncate. Conditions: none. Walks through package disk: invert, Rot, Sync. Conditions: none. Walks through package disk: Sync. Conditions: none. Walks through package disk: Copy. Conditions: none. A crash of a disk: plain facts. No function is named. Conditions: none. -/
import Derived.Test.YtfkgpecglcjpkaaGreatDiskB
set_option linter.unusedVariables false
set_option linter.unusedSimpArgs false
set_option linter.unusedSectionVars false
section
open Go.RowKit
namespace Go.Proofs.YtfkgpecglcjpkaaGreat
open L
namespace Disk
open Wire
theorem fileF_some {s : DS} {G C : Nat → Nat} {x : Int} {v : Value} (h : fileF s G C x = some v) : ∃ i : Nat, x = i ∧ i < 64 ∧ s.B i ≠ [] ∧ v = fileV (G i) (C i) (s.B i) (s.F i) := by
  unfold fileF at h
  split at h
  · rename_i hc
    refine ⟨x.toNat, by omega, by omega, hc.2.2, by simpa using h.symm⟩
  · cases h
section
variable {w w' : World} {p : Nat} {s : DS} {S : List Nat}
set_option maxHeartbeats 1000000 in
theorem Used_calls (h : Dk w p s S) : Calls Tryz.prog 50 #[.pointer (some ⟨p, 0, none⟩)] w fun e w' => e = .returned (.int .i64 (used s : Nat)) ∧ Upd [] w w' := by
  obtain ⟨m, G, C, h1, h2, h3, h4, h5, _⟩ := h.ex
  have c1 := h1.cell (i := 1) rfl
  have hml := h2.lt
  have HL := Lib.hid h.ok.len
  have HU := Lib.hid (And.intro h.ok.used h.ok.room)
  have H2 := Lib.hid h2
  clear h h1 h2 h3 h4 h5
  go_enter Tryz.func50, Tryz.ntmps50
  go_wp2_with (first | (at_range; refine wpList_mfrange (k := 3) Tryz.underlying3 Tryz.underlying60 rfl _ rfl m 64 _ rfl H2.out ?_; intro w0 cnt0 hrg0 hu0 hs0) | go_in)
  go_frame
  clear hs0
  go_loopw [3] (fun acc wr => ∃ (left : Int → Bool) (cnt n : Nat), acc = .int .i64 (n : Int) ∧ n = tot (fun i => if left i then 0 else (s.B i).length) 64 ∧ RG Tryz.prog 3 wr m w.heap.size 64 (fileF s G C) left cnt ∧ Upd [] w wr) (fun _ wr => wr.rangeLeft m w.heap.size)
  case atStart =>
    refine ⟨_, _, 0, rfl, ?_, hrg0, hu0⟩
    symm
    refine tot_zero (fun i hi => ?_)
    by_cases hn : s.B i = []
    · rw [hn]; simp
    · rw [if_pos]
      unfold fileF
      rw [if_pos ⟨by omega, by omega, by rw [Int.toNat_natCast]; exact hn⟩]
      rfl
  case round =>
    obtain ⟨left, cnt, n, rfl, hn, hrg, hu⟩ := hrel
    have HN := Lib.hid hn
    have hle : n ≤ 16777216 := by
      have h1 := HU.out
      have h2 := tot_mono (n := 64) (g := fun i => if left i then 0 else (s.B i).length) (h := fun i => (s.B i).length) (fun i _ => by split <;> omega)
      unfold used at h1
      omega
    have hni : (n : Int) ≤ 16777216 := by omega
    clear hn
    have HUW := Lib.hid hu
    clear hu
    go_wp2_with (first | (at_next; refine wpList_mfnext (k := 3) Tryz.underlying3 rfl _ rfl m w.heap.size 64 _ left cnt rfl hrg ?_ ?_) | go_in)
    · intro hc0 hl0
      have hr : n = used s := by
        rw [HN.out]
        exact tot_congr (fun i hi => by rw [hl0 i ⟨by omega, by omega⟩]; rfl)
      subst hr
      go_wp2_with fail
      go_ret
      exact ⟨rfl, HUW.out⟩
    · intro x v w1 cnt1 hx0 hx hl hf hrg1 hlt hu1 hen
      obtain ⟨i, rfl, hi, hb, rfl⟩ := fileF_some hf
      have hbl := HL.out i
      have hbi : ((s.B i).length : Int) ≤ 16777216 := by omega
      unfold fileV at *
      have HS := Lib.hid (And.intro hl (And.intro hrg1 (And.intro hlt (And.intro hu1 (And.intro hb hrg)))))
      clear hl hrg1 hlt hu1 hf hb hrg
      go_wp2_with fail
      have hrgn : RG Tryz.prog 3 (w1.alloc (.cells #[.slice (some ⟨G i, 0, none⟩) (s.B i).length (C i), .int .i64 (s.F i : Int)] 65)) m w.heap.size 64 (fileF s G C) (fun z => left z && !decide (z = (i : Int))) cnt1 := HS.out.2.1.upd ((Upd.refl [] _).alloc _) (by simp) (by simp)
      go_roundw
      case rel =>
        refine ⟨_, cnt1, n + (s.B i).length, by go_num, ?_, hrgn, (HUW.out.fresh HS.out.2.2.2.1 (by simp)).step ((Upd.refl [] _).alloc _)⟩
        rw [HN.out]
        have h1 := tot_one (n := 64) (g := fun j : Nat => if (left (j : Int) && !decide ((j : Int) = (i : Int))) = true then 0 else (s.B j).length) (h := fun j : Nat => if left (j : Int) = true then 0 else (s.B j).length) (i := i) hi (fun j _ hne => by
          have : decide ((j : Int) = (i : Int)) = false := decide_eq_false (by omega)
          simp only [this, Bool.not_false, Bool.and_true])
        simp only [HS.out.1, if_true, decide_true, Bool.not_true, Bool.and_false, Bool.false_eq_true, if_false] at h1
        omega
      case measure => rw [hrgn.left_eq, HS.out.2.2.2.2.2.left_eq]; exact HS.out.2.2.1
theorem keys_files (s : DS) (G C : Nat → Nat) : keysL 64 (fileF s G C) = (filesS s).map Int.ofNat := by
  unfold keysL filesS
  congr 1
  refine List.filter_congr (fun i hi => ?_)
  have h64 := List.mem_range.1 hi
  unfold fileF
  rw [Int.toNat_natCast]
  cases hb : s.B i with
  | nil => simp
  | cons y l => simp; omega
theorem filesS_length (s : DS) : (filesS s).length ≤ 64 := Nat.le_trans (List.length_filter_le _ _) (by simp)
/-- The numbers of the files, as a slice of one's own. -/
theorem Files_calls (h : Dk w p s S) : Calls Tryz.prog 29 #[.pointer (some ⟨p, 0, none⟩)] w fun e w' => ∃ v, e = .returned v ∧ OwnV w 3 1 v (filesS s).length (ints ((filesS s).map Int.ofNat)) w' ∧ Upd [] w w' := by
  obtain ⟨m, G, C, h1, h2, h3, h4, h5, _⟩ := h.ex
  have c1 := h1.cell (i := 1) rfl
  obtain ⟨D, h6, h7⟩ := h2
  have hsz := MFD.size Tryz.underlying3 h6 h7
  have hperm := keysL_perm Tryz.underlying3 h6 h7
  have HS := Lib.hid (Tryz.sortedKeys m 64 D heldR w h6 (by unfold maxLen; omega) (by omega))
  have HP := Lib.hid hperm
  clear h h1 h3 h4 h5 hperm h6 h7
  go_enter Tryz.func29, Tryz.ntmps29
  go_wp2_with (first
    | (go_at_call 49; refine (Tryz.mapsKeys (some m) _).mono ?_; rintro e w1 ⟨rfl, rfl⟩)
    | (go_at_call 48; refine HS.out.mono ?_; rintro e w2 ⟨v, ss, rfl, hss, hrow, hnil, hb⟩))
  go_ret
  have hss2 : ss.mergeSort (fun x y => decide (x ≤ y)) = (filesS s).map Int.ofNat := by
    have e1 := mergeSort_of_perm_i (hss.trans HP.out.symm)
    rw [keys_files] at e1
    show ss.mergeSort leI = _
    rw [e1]
    refine List.mergeSort_of_pairwise ?_
    have := keysL_sorted (N := 64) (f := fileF s G C)
    rw [keys_files] at this
    exact this.imp (fun h => by simpa using h)
  have hlen : ss.length = (filesS s).length := by rw [← List.length_mergeSort ss, hss2, List.length_map]
  rw [hss2, hlen] at hrow
  have hu1 : Upd [] w (w.alloc (.cells #[.map (some m)] 60)) := (Upd.refl _ w).alloc _
  exact ⟨v, rfl, ⟨ownsRow_base_a hrow (Nat.zero_le _), fun g hg => Nat.le_trans hu1.size (by
    rcases hrow.2 with ⟨rfl, _⟩ | ⟨g', cap, cur, rfl, hb, _⟩
    · simp [Value.ownBlock] at hg
    · simp [Value.ownBlock] at hg; subst hg; exact hb)⟩, hu1.step (Upd.of_below hb)⟩
end
end Disk
end Go.Proofs.YtfkgpecglcjpkaaGreat
end
section
open Go.RowKit
namespace Go.Proofs.YtfkgpecglcjpkaaGreat
open L
namespace Disk
open Wire
theorem setF_self (F : Nat → Nat) (i : Nat) : setF F i (F i) = F := by
  funext j
  unfold setF
  split
  · rename_i h; rw [h]
  · rfl
section
variable {w w' : World} {p : Nat} {s : DS} {S : List Nat}
/-- What a method that changes a disk leaves. -/
def DkT (p : Nat) (S : List Nat) (w : World) (v : Value) (s' : DS) (e : Ending) (w' : World) : Prop :=
  e = .returned v ∧ ∃ S', Dk w' p s' S' ∧ Upd S w w' ∧ ∀ k ∈ S', k ∈ S ∨ w.heap.size ≤ k
set_option maxRecDepth 100000 in
set_option maxHeartbeats 4000000 in
theorem Append_calls (h : Dk w p s S) {f : Int} (hf : IsI64 f) {v : Value} {b : List Int} (hv : SL w 1 v b.length (byts b)) (hb : ∀ x ∈ b, 0 ≤ x ∧ x ≤ 255) (hl : b.length ≤ 1000000000) (hvS : ∀ g, v.ownBlock = some g → g ∉ S) :
    Calls Tryz.prog 34 #[.pointer (some ⟨p, 0, none⟩), .int .i64 f, v] w (DkT p S w (.int .i64 (appendS s f b).1) (appendS s f b).2) := by
  obtain ⟨va, vc, rfl, _⟩ := hv.val
  have c2 : ∃ m, Blk w p [.int .i64 (s.room : Int), .map (some m), .bool s.off, .int .i64 s.plan] 62 := by obtain ⟨m, _, _, h1, _⟩ := h.ex; exact ⟨m, h1⟩
  obtain ⟨m, h1⟩ := c2
  have c0 := h1.cell (i := 0) rfl
  have c1 := h1.cell (i := 1) rfl
  have c2 := h1.cell (i := 2) rfl
  have hlt := h1.lt
  have hbi : (b.length : Int) ≤ 1000000000 := by omega
  have hroom := h.ok.room
  have hused := h.ok.used
  have HB := Lib.hid (And.intro hv (And.intro hb hvS))
  have H := Lib.hid h
  clear h hv hb hvS h1
  cases hfile : isF f with
  | false =>
    have HR := Lib.hid (show appendS s f b = (1, s) by unfold appendS; rw [if_pos hfile])
    have HI := Lib.hid (isFile_calls (w := w) f)
    rw [hfile] at HI
    clear hfile
    go_enter Tryz.func34, Tryz.ntmps34
    go_wp2_with (go_at_call 38; refine (HI.out).mono ?_; rintro e w' ⟨rfl, rfl⟩)
    go_ret
    rw [HR.out]
    exact ⟨rfl, S, H.out, Upd.refl _ _, fun k hk => .inl hk⟩
  | true =>
    have HI := Lib.hid (isFile_calls (w := w) f)
    rw [hfile] at HI
    cases hoff : s.off with
    | true =>
      have HR := Lib.hid (show appendS s f b = (23, s) by unfold appendS; rw [if_neg (by rw [hfile]; simp), if_pos hoff])
      rw [hoff] at c2
      clear hfile hoff
      go_enter Tryz.func34, Tryz.ntmps34
      go_wp2_with (go_at_call 38; refine (HI.out).mono ?_; rintro e w' ⟨rfl, rfl⟩)
      go_ret
      rw [HR.out]
      exact ⟨rfl, S, H.out, Upd.refl _ _, fun k hk => .inl hk⟩
    | false =>
      rw [hoff] at c2
      by_cases hfull : s.room < used s + b.length
      · have HR := Lib.hid (show appendS s f b = (22, s) by unfold appendS; rw [if_neg (by rw [hfile]; simp), if_neg (by rw [hoff]; simp), if_pos hfull])
        have hfi : (s.room : Int) - (used s : Nat) < b.length := by omega
        have hui : ((used s : Nat) : Int) ≤ 16777216 := by omega
        have hri : (s.room : Int) ≤ 16777216 := by omega
        clear hfile hoff hfull
        go_enter Tryz.func34, Tryz.ntmps34
        go_wp2_with (go_at_call 38; refine (HI.out).mono ?_; rintro e w' ⟨rfl, rfl⟩)
        refine wp_region_qx (by kernel_rfl) (by kernel_rfl) ?_
        repeat (go_big_quiet_step (((go_at_call 50; exact qx (Used_calls (H.out.quiet (Ext.upd _)))))))
        refine wpQuiet_nil ?_
        intro x
        go_wp2_with fail
        go_ret
        rw [HR.out]
        exact ⟨rfl, S, H.out.quiet (Ext.upd _), (Ext.upd _).nil, fun k hk => .inl hk⟩
      · have hr2 : used s + b.length ≤ s.room := by omega
        have h64 : 0 ≤ f ∧ f < 64 := of_decide_eq_true hfile
        obtain ⟨i, rfl⟩ := Int.eq_ofNat_of_zero_le h64.1
        have hi : i < 64 := by omega
        have HR := Lib.hid (show appendS s (i : Int) b = (if (stepS { s with B := setB s.B i (s.B i ++ b) }).1 then 23 else 0, (stepS { s with B := setB s.B i (s.B i ++ b) }).2) by unfold appendS; rw [if_neg (by rw [hfile]; simp), if_neg (by rw [hoff]; simp), if_neg hfull, Int.toNat_natCast])
        have HK := Lib.hid (append_ok H.out.ok hi HB.out.2.1 hr2)
        have hfi : (b.length : Int) ≤ (s.room : Int) - (used s : Nat) := by omega
        have hui : ((used s : Nat) : Int) ≤ 16777216 := by omega
        have hri : (s.room : Int) ≤ 16777216 := by omega
        have hlB := H.out.ok.len i
        clear hfile hoff hfull h64
        go_enter Tryz.func34, Tryz.ntmps34
        go_wp2_with (go_at_call 38; refine (HI.out).mono ?_; rintro e w' ⟨rfl, rfl⟩)
        refine wp_region_qx (by kernel_rfl) (by kernel_rfl) ?_
        repeat (go_big_quiet_step (((go_at_call 50; exact qx (Used_calls (H.out.quiet (Ext.upd _)))))))
        refine wpQuiet_nil ?_
        intro x
        obtain ⟨w1, hx1⟩ : ∃ w1 : World, w1 = x.val := ⟨_, rfl⟩
        have hu1 : Upd [] w w1 := by rw [hx1]; exact x.property
        rw [← hx1]
        clear hx1 x
        have H1 := H.out.quiet hu1
        have HU1 := Lib.hid hu1
        have HB1 := Lib.hid (HB.out.1.upd hu1 (by simp))
        clear c0 c1 c2 hlt hu1
        obtain ⟨m1, fm, v1, hW, hM, hval, hrow, _⟩ := H1.out hi
        obtain ⟨_, va1, vc1, rfl, _⟩ := SL.of_owns hrow
        have h1 : Blk w1 p [.int .i64 (s.room : Int), .map (some m1), .bool s.off, .int .i64 s.plan] 62 := by obtain ⟨_, _, h1, _⟩ := hW.ex; exact h1
        have c1 := h1.cell (i := 1) rfl
        have hlt := h1.lt
        have HW := Lib.hid (And.intro hW (And.intro hrow H1))
        have HM := Lib.hid hM
        have HV := Lib.hid hval
        clear hW hrow hM hval h1 H1
        go_upto_region 8 with (first | (at_lookup; refine wpList_mflook (k := 3) Tryz.underlying3 Tryz.underlying60 infoFile _ _ rfl rfl m1 64 fm (i : Int) rfl rfl HM.out ⟨by omega, by omega⟩ ?_; rw [HV.out]) | go_in)
        have ubx : Upd [] w1 (w1.alloc (.cells #[.slice va1 (s.B i).length vc1, .int .i64 (s.F i : Int)] 65)) := (Upd.refl _ w1).alloc _
        have bbx := Blk.new w1 [.slice va1 (s.B i).length vc1, .int .i64 (s.F i : Int)] 65
        have hqS : w1.heap.size ∉ S := fun hm => by have := HW.out.1.lt _ hm; omega
        have hqw : w.heap.size ≤ w1.heap.size := HU1.out.size
        have hq2 : w1.heap.size < (w1.alloc (.cells #[.slice va1 (s.B i).length vc1, .int .i64 (s.F i : Int)] 65)).heap.size := by simp
        have H2 := Lib.hid (And.intro (HW.out.1.upd ubx (by simp)) (And.intro (ownsRow_updL HW.out.2.1 ubx (by simp)) (And.intro (HB1.out.upd ubx (by simp)) (And.intro (HU1.out.step ubx) (And.intro bbx (And.intro hqS (And.intro hqw hq2)))))))
        clear ubx bbx hqS hqw hq2 HW HB1 HU1 HV HM c1 hlt
        generalize hq : w1.heap.size = q at *
        have e0 := H2.out.2.2.2.2.1.cell (i := 0) rfl
        generalize w1.alloc (.cells #[.slice va1 (s.B i).length vc1, .int .i64 (s.F i : Int)] 65) = w2 at *
        have hqT : q ∉ (Value.slice va1 (s.B i).length vc1).ownBlock.toList := fun hm => H2.out.2.2.2.2.2.1 (H2.out.1.own q hm).1
        have HQT := Lib.hid hqT
        clear hqT hq
        go_upto_region 9 with (refine wpList_appS rfl _ _ _ rfl 5 1 1 _ Tryz.underlying39 infoByte rfl (by decide) (.slice va1 (s.B i).length vc1) _ _ rfl H2.out.2.1 _ _ _ rfl H2.out.2.2.1 (byts_one _) (by unfold maxLen; omega) (by omega) ?_; intro a3 cap3 w3 o3 u3 k3; have b3 := H2.out.2.2.2.2.1.upd u3 HQT.out; have d0 := b3.cell (i := 0) rfl; have g0 := b3.free 0; simp only [Act.put, List.setIfInBounds_toArray, List.set_cons_zero, List.set_cons_succ])
        obtain ⟨S4, T4, hW4, hv4, hs4, hm4, row4, b4, U4⟩ : ∃ S4 T4, DkW (w3.setCell ⟨q, 0, none⟩ (.slice a3 ((s.B i).length + b.length) cap3)) p m1 fm s S4 i T4 ∧ (∀ g, (Value.slice a3 ((s.B i).length + b.length) cap3).ownBlock = some g → g ∈ T4) ∧ (∀ k ∈ S4, k ∈ S ∨ w.heap.size ≤ k) ∧ m1 ∈ S ∧
            (w3.setCell ⟨q, 0, none⟩ (.slice a3 ((s.B i).length + b.length) cap3)).ownsRow 0 5 1 (.slice a3 ((s.B i).length + b.length) cap3) (s.B i ++ b).length (byts (s.B i ++ b)) ∧ Blk (w3.setCell ⟨q, 0, none⟩ (.slice a3 ((s.B i).length + b.length) cap3)) q [.slice a3 ((s.B i).length + b.length) cap3, .int .i64 (s.F i : Int)] 65 ∧
            Upd S w (w3.setCell ⟨q, 0, none⟩ (.slice a3 ((s.B i).length + b.length) cap3)) := by
          obtain ⟨hW2, row2, hb2, hu2, bb2, hqS, hqw, hq2⟩ := H2.out
          have U34 : Upd [q] w3 (w3.setCell ⟨q, 0, none⟩ (.slice a3 ((s.B i).length + b.length) cap3)) := (Upd.refl _ w3).set (.inl (by simp)) _
          have hW3 := hW2.upd u3 (fun k hk => .inl hk)
          have hW4 := hW3.upd U34 (fun k hk => .inr (by simp at hk; subst hk; exact hqS))
          have hTS : ∀ k ∈ (Value.slice va1 (s.B i).length vc1).ownBlock.toList, k ∈ S := fun k hk => (hW2.own k hk).1
          have hmS : m1 ∈ S := by obtain ⟨_, _, _, _, _, _, _, h6, _⟩ := hW2.ex; exact h6
          have hneq : ∀ k ∈ [q], (Value.slice a3 ((s.B i).length + b.length) cap3).ownBlock ≠ some k := by
            intro k hk e
            simp only [List.mem_singleton] at hk
            subst hk
            rcases k3 with k3 | k3
            · exact hqS (hTS _ (by rw [← k3, e]; simp))
            · rw [e] at k3; simp at k3; omega
          have row4 := ownsRow_updL o3 U34 hneq
          rw [← byts_append, ← List.length_append] at row4
          have Uall : Upd S w (w3.setCell ⟨q, 0, none⟩ (.slice a3 ((s.B i).length + b.length) cap3)) := ((hu2.nil (S := S)).fresh u3 (fun k hk => .inl (hTS k hk))).fresh U34 (fun k hk => .inr (by simp at hk; subst hk; exact hqw))
          rw [List.length_append] at row4
          rw [List.length_append]
          rcases k3 with k3 | k3
          · exact ⟨S, _, hW4, fun g hg => by rw [← k3, hg]; simp, fun k hk => .inl hk, hmS, row4, b3.set 0 _, Uall⟩
          · have hlt4 : w2.heap.size < (w3.setCell ⟨q, 0, none⟩ (.slice a3 ((s.B i).length + b.length) cap3)).heap.size := by
              have h5 : ∃ g, (Value.slice a3 ((s.B i).length + b.length) cap3).ownBlock = some g ∧ g = w2.heap.size := ⟨_, k3, rfl⟩
              obtain ⟨g, hg, rfl⟩ := h5
              exact (row4.lt _ hg).2
            refine ⟨w2.heap.size :: S, w2.heap.size :: _, hW4.more (fun hm => ?_) hlt4, fun g hg => ?_, fun k hk => ?_, hmS, row4, b3.set 0 _, Uall⟩
            · have := hW2.lt _ hm; omega
            · rw [k3] at hg; cases hg; simp
            · rcases List.mem_cons.1 hk with rfl | hk
              · exact .inr hu2.size
              · exact .inl hk
        have HX := Lib.hid (And.intro hW4 (And.intro hv4 (And.intro hs4 (And.intro hm4 (And.intro row4 U4)))))
        clear hW4 hv4 hs4 hm4 row4 U4 o3 u3 k3 H2 b3 d0 g0 e0 HQT
        have d0 := b4.cell (i := 0) rfl
        have d1 := b4.cell (i := 1) rfl
        clear b4
        generalize w3.setCell ⟨q, 0, none⟩ (.slice a3 ((s.B i).length + b.length) cap3) = w4 at *
        have HPC := Lib.hid (put_calls HX.out.1 (n := s.F i) HX.out.2.2.2.2.1 HX.out.2.1 (by rw [setF_self]; exact HK.out))
        rw [setF_self] at HPC
        generalize hs1 : ({ s with B := setB s.B i (s.B i ++ b) } : DS) = s1 at *
        go_upto_region 10 with (go_at_call 30; refine HPC.out.mono ?_; rintro e w5 ⟨rfl, h5, u5⟩)
        have H5 := Lib.hid (And.intro h5 u5)
        clear h5 u5 HPC d0 d1
        have HFA := Lib.hid (fails_calls H5.out.1)
        cases hst : (stepS s1).1 with
        | true =>
          rw [hst] at HFA HR
          go_wp2_with (go_at_call 45; refine HFA.out.mono ?_; rintro e w6 ⟨rfl, h6, u6⟩)
          go_ret
          rw [HR.out]
          exact ⟨rfl, S4, h6, (HX.out.2.2.2.2.2.trans (H5.out.2.wide (fun k hk => by simp at hk; subst hk; exact .inl HX.out.2.2.2.1))).fresh u6 (fun k hk => by simp at hk; subst hk; exact .inl H.out.p_mem), HX.out.2.2.1⟩
        | false =>
          rw [hst] at HFA HR
          go_wp2_with (go_at_call 45; refine HFA.out.mono ?_; rintro e w6 ⟨rfl, h6, u6⟩)
          go_ret
          rw [HR.out]
          exact ⟨rfl, S4, h6, (HX.out.2.2.2.2.2.trans (H5.out.2.wide (fun k hk => by simp at hk; subst hk; exact .inl HX.out.2.2.2.1))).fresh u6 (fun k hk => by simp at hk; subst hk; exact .inl H.out.p_mem), HX.out.2.2.1⟩
end
end Disk
end Go.Proofs.YtfkgpecglcjpkaaGreat
end
section
open Go.RowKit
namespace Go.Proofs.YtfkgpecglcjpkaaGreat
open L
namespace Disk
open Wire
theorem field_file (v u : Value) (w : World) : (Instr.field 65 (.agg #[v, u]) 0).run Tryz.prog w = .ok v w := by kernel_rfl
attribute [-go_sem] sliced
theorem sliced_pre {a : Option Addr} (h : a = none ∨ ∃ g off, a = some ⟨g, off, none⟩) (m cap : Nat) : sliced a 0 m cap 1 = .slice a m cap := by
  unfold sliced
  rcases h with rfl | ⟨g, off, rfl⟩
  · simp
  · simp [addr_add]
theorem owns_addr {w : World} {base : Nat} {e : TypeId} {size n m cap : Nat} {a : Option Addr} {xs : List Value} (h : w.ownsRow base e size (.slice a n cap) m xs) : (a = none ∧ cap = 0) ∨ ∃ g, a = some ⟨g, 0, none⟩ := by
  rcases h.2 with ⟨h1, _⟩ | ⟨g, cap', cur, hv, _⟩
  · cases h1; exact .inl ⟨rfl, rfl⟩
  · cases hv; exact .inr ⟨g, rfl⟩
theorem own_pre {w : World} {base : Nat} {e : TypeId} {size : Nat} {a : Option Addr} {n m cap : Nat} {xs : List Value} (h : w.ownsRow base e size (.slice a n cap) n xs) (hm : m ≤ n) :
    w.ownsRow base e size (.slice a m cap) m (xs.take (m * size)) := by
  rcases owns_addr h with ⟨rfl, rfl⟩ | ⟨g, rfl⟩
  · have h0 : n = 0 := by
      rcases h.2 with ⟨h1, h2⟩ | ⟨g, cap', cur, hv, _⟩
      · exact h2
      · cases hv
    have hm0 : m = 0 := by omega
    subst hm0
    simp only [Nat.zero_mul, List.take_zero]
    exact World.ownsRow_nil _ _ _ _
  · exact own_take h hm
theorem ob_eq (a : Option Addr) (n m c d : Nat) : (Value.slice a n c).ownBlock = (Value.slice a m d).ownBlock := by cases a <;> rfl
theorem byts_take (xs : List Int) (n : Nat) : (byts xs).take n = byts (xs.take n) := by simp [byts, List.map_take]
section
variable {w w' : World} {p : Nat} {s : DS} {S : List Nat}
theorem isF_iff {f : Int} : isF f = true ↔ 0 ≤ f ∧ f < 64 := by simp [isF]
theorem Dk.cells (h : Dk w p s S) : ∃ m, Blk w p [.int .i64 (s.room : Int), .map (some m), .bool s.off, .int .i64 s.plan] 62 := by obtain ⟨m, _, _, h1, _⟩ := h.ex; exact ⟨m, h1⟩
set_option maxRecDepth 100000 in
set_option maxHeartbeats 4000000 in
theorem Read_calls (h : Dk w p s S) {f : Int} (hf : IsI64 f) :
    Calls Tryz.prog 19 #[.pointer (some ⟨p, 0, none⟩), .int .i64 f] w fun e w' => ∃ v, e = .returned (.tuple #[v, .int .i64 (readS s f).2]) ∧ OwnV w 5 1 v (readS s f).1.length (byts (readS s f).1) w' ∧ Upd [] w w' := by
  have H := Lib.hid h
  cases hfile : isF f with
  | false =>
    have HR := Lib.hid (show readS s f = ([], 1) by unfold readS; rw [if_pos hfile])
    have HI := Lib.hid (isFile_calls (w := w) f)
    rw [hfile] at HI
    clear hfile h
    go_enter Tryz.func19, Tryz.ntmps19
    go_wp2_with (go_at_call 38; refine (HI.out).mono ?_; rintro e w' ⟨rfl, rfl⟩)
    go_ret2
    rw [HR.out]
    exact ⟨_, rfl, OwnV.nil w w 5 1, Upd.refl _ _⟩
  | true =>
    have HI := Lib.hid (isFile_calls (w := w) f)
    rw [hfile] at HI
    cases hoff : s.off with
    | true =>
      have HR := Lib.hid (show readS s f = ([], 23) by unfold readS; rw [if_neg (by rw [hfile]; simp), if_pos hoff])
      obtain ⟨m, h1⟩ := h.cells
      have c2 := h1.cell (i := 2) rfl
      rw [hoff] at c2
      clear hfile hoff h h1
      go_enter Tryz.func19, Tryz.ntmps19
      go_wp2_with (go_at_call 38; refine (HI.out).mono ?_; rintro e w' ⟨rfl, rfl⟩)
      go_ret2
      rw [HR.out]
      exact ⟨_, rfl, OwnV.nil w w 5 1, Upd.refl _ _⟩
    | false =>
      have h64 := isF_iff.1 hfile
      obtain ⟨i, rfl⟩ := Int.eq_ofNat_of_zero_le h64.1
      have hi : i < 64 := by omega
      have HR := Lib.hid (show readS s (i : Int) = (s.B i, 0) by unfold readS; rw [if_neg (by rw [hfile]; simp), if_neg (by rw [hoff]; simp), Int.toNat_natCast])
      obtain ⟨m1, fm, v1, hW, hM, hval, hrow, _⟩ := h.out hi
      obtain ⟨_, va1, vc1, rfl, _⟩ := SL.of_owns hrow
      have h1 : Blk w p [.int .i64 (s.room : Int), .map (some m1), .bool s.off, .int .i64 s.plan] 62 := by obtain ⟨_, _, h1, _⟩ := hW.ex; exact h1
      have c1 := h1.cell (i := 1) rfl
      have c2 := h1.cell (i := 2) rfl
      rw [hoff] at c2
      have hlB := h.ok.len i
      have HC := Lib.hid (Clone_calls (SL.of_owns hrow) (by omega))
      have HM := Lib.hid hM
      have HV := Lib.hid hval
      have hfd := field_file (.slice va1 (s.B i).length vc1) (.int .i64 (s.F i : Int))
      clear hW hrow hM hval h1 h hfile hoff
      go_enter Tryz.func19, Tryz.ntmps19
      go_wp2_with (first | (go_at_call 38; refine (HI.out).mono ?_; rintro e w' ⟨rfl, rfl⟩) | (at_lookup; refine wpList_mflook (k := 3) Tryz.underlying3 Tryz.underlying60 infoFile _ _ rfl rfl m1 64 fm (i : Int) rfl rfl HM.out ⟨by omega, by omega⟩ ?_; rw [HV.out]) | (go_at_call 39; refine HC.out.mono ?_; rintro e w1 ⟨a2, c2, rfl, o2, u2⟩) | go_in)
      go_ret2
      rw [HR.out]
      exact ⟨_, rfl, o2, u2⟩
theorem trunc_F {s : DS} {i z : Nat} (hok : s.Ok) (hz : z ≤ (s.B i).length) : ({ s with B := setB s.B i ((s.B i).take z), F := setF s.F i (min (s.F i) z) } : DS).Ok := by
  have h := truncS_ok (s := { s with off := false, plan := -1 }) ⟨hok.out, hok.firm, hok.u8, ⟨by simp, by simp⟩, hok.room, hok.used⟩ (f := (i : Int)) (z := (z : Int))
  have hlen : ∀ j, (setB s.B i ((s.B i).take z) j).length ≤ (s.B j).length := fun j => by
    simp only [setB]
    split
    · rename_i e; subst e; rw [List.length_take]; omega
    · exact Nat.le_refl _
  refine ⟨fun j hj => ?_, fun j => ?_, fun j x hx => ?_, hok.plan, hok.room, used_less hok hlen⟩
  · have := hlen j
    rw [hok.out j hj] at this
    exact List.eq_nil_of_length_eq_zero (by simpa using this)
  · simp only [setB, setF]
    split
    · rw [List.length_take]; have := hok.firm i; omega
    · exact hok.firm j
  · simp only [setB] at hx
    split at hx
    · exact hok.u8 _ x (List.mem_of_mem_take hx)
    · exact hok.u8 j x hx
set_option maxRecDepth 100000 in
set_option maxHeartbeats 4000000 in
theorem Trunc_bad (h : Dk w p s S) {f z : Int} (hf : IsI64 f) (hz : IsI64 z) (hbad : isF f = false ∨ z < 0 ∨ ((s.B f.toNat).length : Int) < z) :
    Calls Tryz.prog 24 #[.pointer (some ⟨p, 0, none⟩), .int .i64 f, .int .i64 z] w fun e w' => e = .returned (.int .i64 1) ∧ w = w' := by
  cases hfile : isF f with
  | false =>
    have HI := Lib.hid (isFile_calls (w := w) f)
    rw [hfile] at HI
    clear hfile h hbad
    go_enter Tryz.func24, Tryz.ntmps24
    go_wp2_with (go_at_call 38; refine (HI.out).mono ?_; rintro e w' ⟨rfl, rfl⟩)
    go_ret
    exact ⟨rfl, rfl⟩
  | true =>
    have HI := Lib.hid (isFile_calls (w := w) f)
    rw [hfile] at HI
    have h64 := isF_iff.1 hfile
    obtain ⟨i, rfl⟩ := Int.eq_ofNat_of_zero_le h64.1
    have hi : i < 64 := by omega
    rw [Int.toNat_natCast] at hbad
    by_cases hz0 : z < 0
    · clear hfile h hbad h64
      go_enter Tryz.func24, Tryz.ntmps24
      go_wp2_with (go_at_call 38; refine (HI.out).mono ?_; rintro e w' ⟨rfl, rfl⟩)
      go_ret
      exact ⟨rfl, rfl⟩
    · have hz2 : ((s.B i).length : Int) < z := by rcases hbad with h | h | h <;> first | exact h | omega | (rw [hfile] at h; cases h)
      have hz1 : 0 ≤ z := by omega
      obtain ⟨m1, fm, v1, hW, hM, hval, hrow, _⟩ := h.out hi
      obtain ⟨_, va1, vc1, rfl, _⟩ := SL.of_owns hrow
      have h1 : Blk w p [.int .i64 (s.room : Int), .map (some m1), .bool s.off, .int .i64 s.plan] 62 := by obtain ⟨_, _, h1, _⟩ := hW.ex; exact h1
      have c1 := h1.cell (i := 1) rfl
      have hlk := MF.look hM Tryz.underlying3 Tryz.underlying60 infoFile (key := (i : Int)) ⟨by omega, by omega⟩
      rw [hval] at hlk
      have hfd := field_file (.slice va1 (s.B i).length vc1) (.int .i64 (s.F i : Int))
      clear hW hrow hM hval h1 h hfile hbad h64 hz0
      go_enter Tryz.func24, Tryz.ntmps24
      go_wp2_with (go_at_call 38; refine (HI.out).mono ?_; rintro e w' ⟨rfl, rfl⟩)
      go_ret
      exact ⟨rfl, rfl⟩
set_option maxRecDepth 100000 in
set_option maxHeartbeats 4000000 in
theorem Trunc_good (h : Dk w p s S) {i z : Nat} (hi : i < 64) (hz : z ≤ (s.B i).length) :
    Calls Tryz.prog 24 #[.pointer (some ⟨p, 0, none⟩), .int .i64 (i : Int), .int .i64 (z : Int)] w fun e w' => e = .returned (.int .i64 (truncS s (i : Int) (z : Int)).1) ∧ Dk w' p (truncS s (i : Int) (z : Int)).2 S ∧ Upd S w w' := by
  have hfile : isF (i : Int) = true := isF_iff.2 ⟨by omega, by omega⟩
  have HI := Lib.hid (isFile_calls (w := w) (i : Int))
  rw [hfile] at HI
  have hnb : ¬ (isF (i : Int) = false ∨ (z : Int) < 0 ∨ ((s.B (i : Int).toNat).length : Int) < (z : Int)) := by rw [hfile, Int.toNat_natCast]; simp; omega
  have hzi : (z : Int) ≤ ((s.B i).length : Int) := by omega
  obtain ⟨m1, fm, v1, hW, hM, hval, hrow, _⟩ := h.out hi
  obtain ⟨_, va1, vc1, rfl, _⟩ := SL.of_owns hrow
  have h1 : Blk w p [.int .i64 (s.room : Int), .map (some m1), .bool s.off, .int .i64 s.plan] 62 := by obtain ⟨_, _, h1, _⟩ := hW.ex; exact h1
  have c1 := h1.cell (i := 1) rfl
  have c2 := h1.cell (i := 2) rfl
  have hlk := MF.look hM Tryz.underlying3 Tryz.underlying60 infoFile (key := (i : Int)) ⟨by omega, by omega⟩
  rw [hval] at hlk
  have hfd := field_file (.slice va1 (s.B i).length vc1) (.int .i64 (s.F i : Int))
  have hlB := h.ok.len i
  have H := Lib.hid h
  clear hW hrow hM hval h1 h hfile
  cases hoff : s.off with
  | true =>
    have HR := Lib.hid (show truncS s (i : Int) (z : Int) = (23, s) by unfold truncS; rw [if_neg hnb, if_pos hoff])
    rw [hoff] at c2
    clear hoff hnb
    go_enter Tryz.func24, Tryz.ntmps24
    go_wp2_with (go_at_call 38; refine (HI.out).mono ?_; rintro e w' ⟨rfl, rfl⟩)
    go_ret
    rw [HR.out]
    exact ⟨rfl, H.out, Upd.refl _ _⟩
  | false =>
    rw [hoff] at c2
    have HFA := Lib.hid (fails_calls H.out)
    have hpS := Lib.hid H.out.p_mem
    cases hst : (stepS s).1 with
    | true =>
      have HR := Lib.hid (show truncS s (i : Int) (z : Int) = (23, (stepS s).2) by unfold truncS; rw [if_neg hnb, if_neg (by rw [hoff]; simp), if_pos hst])
      rw [hst] at HFA
      clear hoff hnb hst
      go_enter Tryz.func24, Tryz.ntmps24
      go_wp2_with (first | (go_at_call 38; refine (HI.out).mono ?_; rintro e w' ⟨rfl, rfl⟩) | (go_at_call 45; refine HFA.out.mono ?_; rintro e w1 ⟨rfl, h6, u6⟩))
      go_ret
      rw [HR.out]
      exact ⟨rfl, h6, u6.wide (fun k hk => by simp at hk; subst hk; exact .inl hpS.out)⟩
    | false =>
      have HR := Lib.hid (show truncS s (i : Int) (z : Int) = (0, { (stepS s).2 with B := setB s.B i ((s.B i).take z), F := setF s.F i (min (s.F i) z) }) by
        unfold truncS; rw [if_neg hnb, if_neg (by rw [hoff]; simp), if_neg (by rw [hst]; simp), Int.toNat_natCast, Int.toNat_natCast])
      rw [hst] at HFA
      obtain ⟨hB, hF, hrm⟩ := stepS_B s
      rw [← hB, ← hF] at HR
      rw [← hB] at hz hlB
      generalize hs1 : (stepS s).2 = s1 at *
      have HK := Lib.hid (And.intro hz hs1)
      clear hoff hnb hst hs1 hB hF hrm
      go_enter Tryz.func24, Tryz.ntmps24
      go_upto_region 5 with (first | (go_at_call 38; refine (HI.out).mono ?_; rintro e w' ⟨rfl, rfl⟩) | (go_at_call 45; refine HFA.out.mono ?_; rintro e w1 ⟨rfl, h6, u6⟩))
      have HUA := Lib.hid (And.intro h6 u6)
      clear c1 c2 hlk hfd h6 u6
      obtain ⟨m2, f2, v2, hW, hM, hval, hrow, _⟩ := HUA.out.1.out hi
      obtain ⟨_, va2, vc2, rfl, hcap, _⟩ := SL.of_owns hrow
      have h1 : Blk w1 p [.int .i64 (s1.room : Int), .map (some m2), .bool s1.off, .int .i64 s1.plan] 62 := by obtain ⟨_, _, h1, _⟩ := hW.ex; exact h1
      have c1 := h1.cell (i := 1) rfl
      have hlt := h1.lt
      have hsl := sliced_pre ((owns_addr hrow).elim (fun h => .inl h.1) (fun ⟨g, hg⟩ => .inr ⟨g, 0, hg⟩)) z vc2
      have hzc : (z : Int) ≤ vc2 := by have := HK.out.1; omega
      have HM := Lib.hid hM
      have HV := Lib.hid hval
      have HW := Lib.hid (And.intro hW hrow)
      clear hW hrow hM hval h1
      go_upto_region 6 with (first | (at_lookup; refine wpList_mflook (k := 3) Tryz.underlying3 Tryz.underlying60 infoFile _ _ rfl rfl m2 64 f2 (i : Int) rfl rfl HM.out ⟨by omega, by omega⟩ ?_; rw [HV.out]) | go_in)
      have ubx : Upd [] w1 (w1.alloc (.cells #[.slice va2 (s1.B i).length vc2, .int .i64 (s1.F i : Int)] 65)) := (Upd.refl _ w1).alloc _
      have bbx := Blk.new w1 [.slice va2 (s1.B i).length vc2, .int .i64 (s1.F i : Int)] 65
      have hqS : w1.heap.size ∉ S := fun hm => by have := HW.out.1.lt _ hm; omega
      have hqw : w.heap.size ≤ w1.heap.size := HUA.out.2.size
      have HX := Lib.hid (And.intro (HW.out.1.upd ubx (by simp)) (And.intro (ownsRow_updL HW.out.2 ubx (by simp)) (And.intro ((HUA.out.2.wide (T := S) (fun k hk => by simp at hk; subst hk; exact .inl hpS.out)).step ubx) (And.intro bbx (And.intro hqS hqw)))))
      clear ubx bbx hqS hqw HW HV HM c1 hlt
      generalize hq : w1.heap.size = q at *
      have e0 := HX.out.2.2.2.1.cell (i := 0) rfl
      have e1 := HX.out.2.2.2.1.cell (i := 1) rfl
      have g0 := HX.out.2.2.2.1.free 0
      have g1 := HX.out.2.2.2.1.free 1
      generalize w1.alloc (.cells #[.slice va2 (s1.B i).length vc2, .int .i64 (s1.F i : Int)] 65) = w2 at *
      clear hq
      have hmn : min (s1.F i : Int) (z : Int) = ((min (s1.F i) z : Nat) : Int) := by omega
      have HMN := Lib.hid hmn
      clear hmn
      go_upto_region 8 with fail
      rw [HMN.out]
      have b4 := (HX.out.2.2.2.1.set 0 (.slice va2 z vc2)).set 1 (.int .i64 (min (s1.F i) z : Nat))
      have U24 : Upd [q] w2 ((w2.setCell ⟨q, 0, none⟩ (.slice va2 z vc2)).setCell ⟨q, 1, none⟩ (.int .i64 (min (s1.F i) z : Nat))) := ((Upd.refl _ w2).set (.inl (by simp)) _).set (.inl (by simp)) _
      simp only [List.set_cons_zero, List.set_cons_succ] at b4
      have hW4 := HX.out.1.upd U24 (fun k hk => .inr (by simp at hk; subst hk; exact HX.out.2.2.2.2.1))
      have row4 := ownsRow_updL (own_pre HX.out.2.1 HK.out.1) U24 (fun b hb e => HX.out.2.2.2.2.1 (by simp only [List.mem_singleton] at hb; subst hb; exact (HX.out.1.own b (by rw [ob_eq va2 _ z vc2 vc2, e]; simp)).1))
      rw [Nat.mul_one, byts_take] at row4
      have Uall : Upd S w ((w2.setCell ⟨q, 0, none⟩ (.slice va2 z vc2)).setCell ⟨q, 1, none⟩ (.int .i64 (min (s1.F i) z : Nat))) := (HX.out.2.2.1).fresh U24 (fun k hk => .inr (by simp at hk; subst hk; exact HX.out.2.2.2.2.2))
      have H4 := Lib.hid (And.intro hW4 (And.intro row4 Uall))
      clear hW4 row4 Uall U24 e0 e1 g0 g1
      have d0 := b4.cell (i := 0) rfl
      have d1 := b4.cell (i := 1) rfl
      clear b4
      generalize (w2.setCell ⟨q, 0, none⟩ (.slice va2 z vc2)).setCell ⟨q, 1, none⟩ (.int .i64 (min (s1.F i) z : Nat)) = w4 at *
      have htl : ((s1.B i).take z).length = z := by rw [List.length_take]; have := HK.out.1; omega
      have HPC := Lib.hid (put_calls (b := (s1.B i).take z) (n := min (s1.F i) z) (v := .slice va2 z vc2) H4.out.1 (by rw [htl]; exact H4.out.2.1) (fun g hg => by rw [ob_eq va2 _ z vc2 vc2, hg]; simp) (trunc_F HUA.out.1.ok HK.out.1))
      have hm2 : m2 ∈ S := by obtain ⟨_, _, _, _, _, _, _, h6, _⟩ := H4.out.1.ex; exact h6
      have HM2 := Lib.hid hm2
      clear hm2
      go_wp2_with (go_at_call 30; refine HPC.out.mono ?_; rintro e w5 ⟨rfl, h5, u5⟩)
      go_ret
      rw [HR.out]
      exact ⟨rfl, h5, H4.out.2.2.trans (u5.wide (fun k hk => by simp at hk; subst hk; exact .inl HM2.out))⟩
end
end Disk
end Go.Proofs.YtfkgpecglcjpkaaGreat
end
section
open Go.RowKit
namespace Go.Proofs.YtfkgpecglcjpkaaGreat
open L
namespace Disk
open Wire
section
variable {w w' : World} {p : Nat} {s : DS} {S : List Nat}
/-- invert changes one cell. -/
theorem invert_calls {g off n cap k : Nat} {y : Int} {c : List Value} {e : TypeId} (hb : Blk w g c e) (hc : c[off + k / 8]? = some (.int .u8 y)) (hy : 0 ≤ y ∧ y ≤ 255) (hk : k < 8 * n) (hn : n ≤ 1000000000) :
    Calls Tryz.prog 31 #[.slice (some ⟨g, off, none⟩) n cap, .int .i64 (k : Int)] w fun e' w' => e' = .returned (.tuple #[]) ∧ Blk w' g (c.set (off + k / 8) (.int .u8 (flipB y k))) e ∧ Upd [g] w w' := by
  have d0 := hb.cell hc
  have d1 := hb.free (off + k / 8)
  have hki : (k : Int) < 8 * n := by omega
  have hq0 : (0 : Int) ≤ (128 : Int) / 2 ^ (k % 8) := Int.ediv_nonneg (by omega) (Int.le_of_lt (Int.pow_pos (by omega)))
  have H := Lib.hid (And.intro hb hc)
  clear hb hc
  go_enter Tryz.func31, Tryz.ntmps31
  go_wp2_with fail
  refine wp_region_ord 10 1 [0, 1, 2, 3, 4, 5, 6, 7, 8, 9] [4] [0, 1, 2, 3, 4, 5, 6, 7, 8, 9, 10] (fun w' => ∃ x : Ext w, w' = x.val) (by kernel_rfl) (by kernel_rfl) (Ext.of (by iterate 25 (first | exact Upd.refl _ _ | assumption | refine Upd.alloc ?_ _ | refine Upd.drew ?_ | refine Upd.drewN ?_ _ | refine Upd.dl ?_ | refine Upd.step ?_ (Ext.upd _) | refine Upd.nil ?_ | skip))) ?_
  repeat (first | (refine wpOrd_load rfl rfl rfl rfl (fun K hK => ?_); go_big_quiet_step (fail); refine wpQuiet_nil ?_; refine hK _ ?_; clear hK K) | (refine wpOrd_free rfl rfl rfl (fun K hK => ?_); go_big_quiet_step (fail); refine wpQuiet_nil ?_; refine hK _ ?_; clear hK K))
  refine wpOrd_fix rfl rfl (fun K hK => ?_)
  go_wp2_with fail
  refine ⟨fun hC => absurd hC (by decide), ?_⟩
  refine wpOrd_nil ?_
  go_end0
  refine ⟨rfl, H.out.1.drew.set _ _, ((Upd.refl _ w).drew).set (.inl (by simp)) _⟩
theorem rotS_eq {i k : Nat} (hi : i < 64) (hk : k < 8 * (s.B i).length) : rotS s (i : Int) (k : Int) = (0, { s with B := setB s.B i (flipL (s.B i) k) }) := by
  unfold rotS
  rw [if_neg (by rw [show isF (i : Int) = true from isF_iff.2 ⟨by omega, by omega⟩, Int.toNat_natCast]; simp; omega), Int.toNat_natCast, Int.toNat_natCast]
/-- One file changed in place. -/
theorem Dk.flip {m : Nat} {f : Int → Option Value} {v : Value} {i : Nat} {b : List Int} (h : DkW w p m f s S i v.ownBlock.toList) (hm : MF Tryz.prog 3 w m 64 f)
    (hval : (f (i : Int)).getD (.agg #[.slice none 0 0, .int .i64 0]) = .agg #[v, .int .i64 (s.F i : Int)]) (hne : s.B i ≠ []) (hbl : b.length = (s.B i).length) (hne2 : v ≠ .slice none 0 0)
    (hu : Upd v.ownBlock.toList w w') (row : w'.ownsRow 0 5 1 v b.length (byts b)) (hok : ({ s with B := setB s.B i b } : DS).Ok) : Dk w' p { s with B := setB s.B i b } S := by
  have h2 := h.upd hu (fun k hk => .inl hk)
  have hmv : m ∉ v.ownBlock.toList := fun hm => (h.own m hm).2.2 rfl
  have hm2 := hm.upd hu hmv
  have hb : b ≠ [] := by intro e; rw [e] at hbl; exact hne (List.eq_nil_of_length_eq_zero hbl.symm)
  have hff : f (i : Int) = some (.agg #[v, .int .i64 (s.F i : Int)]) := by
    cases hf : f (i : Int) with
    | none =>
      rw [hf] at hval
      simp only [Option.getD_none, Value.agg.injEq] at hval
      have := congrArg (fun a : Array Value => a.toList) hval
      simp at this
      exact absurd this.1.symm hne2
    | some u => rw [hf] at hval; simpa using hval
  have h3 := h2.close (b := b) (n := s.F i) (v := v) (Upd.refl [m] w') (hm2.congr (fun x => by
    by_cases e : x = i
    · subst e; rw [if_pos rfl, if_neg hb, hff]
    · rw [if_neg e])) row (fun g hg => by rw [hg]; simp) (by rw [setF_self]; exact hok)
  rw [setF_self] at h3
  exact h3
theorem row_set {e : TypeId} {g n cap : Nat} {xs : List Value} (h : w.ownsRow 0 e 1 (.slice (some ⟨g, 0, none⟩) n cap) n xs) :
    ∃ cur : List Value, Blk w g cur e ∧ (∀ (j : Nat) (u : Value), xs[j]? = some u → cur[j]? = some u) ∧ ∀ (w' : World) (j : Nat) (u : Value), j < n → Blk w' g (cur.set j u) e → w'.ownsRow 0 e 1 (.slice (some ⟨g, 0, none⟩) n cap) n (xs.set j u) := by
  rcases h.2 with ⟨h1, _⟩ | ⟨g', cap', cur, hv, hb, hg, hnc, hcm, hcs, htake⟩
  · cases h1
  · simp only [Value.slice.injEq, Option.some.injEq, Addr.mk.injEq, and_true] at hv
    obtain ⟨rfl, _, rfl⟩ := hv
    rw [Nat.mul_one] at htake
    refine ⟨cur.toList, by unfold Blk; rw [hg], fun j u hj => ?_, fun w' j u hj hB => ?_⟩
    · rw [← htake, List.getElem?_take] at hj
      split at hj
      · exact hj
      · cases hj
    · refine ⟨by rw [List.length_set]; exact h.1, .inr ⟨g, cap, (cur.toList.set j u).toArray, rfl, hb, hB, hnc, hcm, by simpa using hcs, ?_⟩⟩
      rw [Nat.mul_one, ← htake]
      simp [List.take_set]
theorem flipL_set {l : List Int} {k : Nat} {y : Int} (h : l[k / 8]? = some y) : byts (flipL l k) = (byts l).set (k / 8) (.int .u8 (flipB y k)) := by
  unfold flipL byts
  apply List.ext_getElem?
  intro j
  rw [List.getElem?_map, List.getElem?_modify, List.getElem?_set, List.getElem?_map, List.length_map]
  have hk := (List.getElem?_eq_some_iff.1 h).1
  by_cases e : k / 8 = j
  · subst e
    have h2 : l[k / 8] = y := by rw [List.getElem?_eq_getElem hk] at h; exact Option.some.inj h
    simp [hk, h2]
  · simp [e]
theorem Trunc_calls (h : Dk w p s S) {f z : Int} (hf : IsI64 f) (hz : IsI64 z) :
    Calls Tryz.prog 24 #[.pointer (some ⟨p, 0, none⟩), .int .i64 f, .int .i64 z] w fun e w' => e = .returned (.int .i64 (truncS s f z).1) ∧ Dk w' p (truncS s f z).2 S ∧ Upd S w w' := by
  by_cases hb : isF f = false ∨ z < 0 ∨ ((s.B f.toNat).length : Int) < z
  · have hr : truncS s f z = (1, s) := by unfold truncS; rw [if_pos hb]
    rw [hr]
    exact (Trunc_bad h hf hz hb).mono fun e w' ⟨h1, h2⟩ => ⟨h1, h2 ▸ h, h2 ▸ Upd.refl _ _⟩
  · simp only [not_or, Bool.not_eq_false, Int.not_lt] at hb
    have h64 := isF_iff.1 hb.1
    obtain ⟨i, rfl⟩ := Int.eq_ofNat_of_zero_le h64.1
    obtain ⟨k, rfl⟩ := Int.eq_ofNat_of_zero_le hb.2.1
    rw [Int.toNat_natCast] at hb
    exact Trunc_good h (by omega) (by omega)
end
end Disk
end Go.Proofs.YtfkgpecglcjpkaaGreat
end
section
open Go.RowKit
namespace Go.Proofs.YtfkgpecglcjpkaaGreat
open L
namespace Disk
open Wire
theorem setB_self (B : Nat → List Int) (i : Nat) : setB B i (B i) = B := by
  funext j
  unfold setB
  split
  · rename_i h; rw [h]
  · rfl
/-- A Sync, so far. -/
def syncK (s : DS) (k : Nat) : DS := { s with F := fun i => if i ∈ (filesS s).take k then (s.B i).length else s.F i }
theorem syncK_ok {s : DS} (h : s.Ok) (k : Nat) : (syncK s k).Ok :=
  ⟨h.out, fun i => by
    simp only [syncK]
    split
    · exact Nat.le_refl _
    · exact h.firm i, h.u8, h.plan, h.room, h.used⟩
theorem syncK_zero (s : DS) : syncK s 0 = s := by simp [syncK]
theorem syncK_step (s : DS) {k i : Nat} (hk : (filesS s)[k]? = some i) : syncK s (k + 1) = { syncK s k with F := setF (syncK s k).F i (s.B i).length } := by
  unfold syncK
  congr 1
  funext j
  rw [List.take_add_one, hk]
  unfold setF
  by_cases e : j = i
  · subst e; simp
  · simp [e]
theorem filesS_mem {s : DS} {i : Nat} : i ∈ filesS s ↔ i < 64 ∧ s.B i ≠ [] := by
  unfold filesS
  rw [List.mem_filter, List.mem_range]
  simp
theorem syncK_end {s : DS} (h : s.Ok) : syncK s (filesS s).length = { s with F := fun i => (s.B i).length } := by
  unfold syncK
  congr 1
  funext i
  rw [List.take_of_length_le (Nat.le_refl _)]
  split
  · rfl
  · rename_i hn
    have hb : s.B i = [] := by
      by_cases hi : i < 64
      · exact Classical.byContradiction fun hb => hn (filesS_mem.2 ⟨hi, hb⟩)
      · exact h.out i (by omega)
    have := h.firm i
    rw [hb] at this ⊢
    simpa using this
section
variable {w w' : World} {p : Nat} {s : DS} {S : List Nat}
set_option maxRecDepth 100000 in
set_option maxHeartbeats 4000000 in
theorem Sync_calls (h : Dk w p s S) : Calls Tryz.prog 25 #[.pointer (some ⟨p, 0, none⟩)] w fun e w' => e = .returned (.int .i64 (syncS s).1) ∧ Dk w' p (syncS s).2 S ∧ Upd S w w' := by
  obtain ⟨m, h1⟩ := h.cells
  have c2 := h1.cell (i := 2) rfl
  have H := Lib.hid h
  clear h h1
  cases hoff : s.off with
  | true =>
    have HR := Lib.hid (show syncS s = (23, s) by unfold syncS; rw [if_pos hoff])
    rw [hoff] at c2
    clear hoff
    go_enter Tryz.func25, Tryz.ntmps25
    go_wp2_with fail
    go_ret
    rw [HR.out]
    exact ⟨rfl, H.out, Upd.refl _ _⟩
  | false =>
    rw [hoff] at c2
    have HFA := Lib.hid (fails_calls H.out)
    have hpS := Lib.hid H.out.p_mem
    cases hst : (stepS s).1 with
    | true =>
      have HR := Lib.hid (show syncS s = (23, (stepS s).2) by unfold syncS; rw [if_neg (by rw [hoff]; simp), if_pos hst])
      rw [hst] at HFA
      clear hoff hst
      go_enter Tryz.func25, Tryz.ntmps25
      go_wp2_with (go_at_call 45; refine HFA.out.mono ?_; rintro e w1 ⟨rfl, h6, u6⟩)
      go_ret
      rw [HR.out]
      exact ⟨rfl, h6, u6.wide (fun k hk => by simp at hk; subst hk; exact .inl hpS.out)⟩
    | false =>
      have HR := Lib.hid (show syncS s = (0, { (stepS s).2 with F := fun i => (s.B i).length }) by unfold syncS; rw [if_neg (by rw [hoff]; simp), if_neg (by rw [hst]; simp)])
      rw [hst] at HFA
      obtain ⟨hB, _, _⟩ := stepS_B s
      rw [← hB] at HR
      generalize (stepS s).2 = s1 at *
      clear hoff hst hB
      go_enter Tryz.func25, Tryz.ntmps25
      go_upto_region 3 with (go_at_call 45; refine HFA.out.mono ?_; rintro e w1 ⟨rfl, h6, u6⟩)
      have H1 := Lib.hid (And.intro h6 (u6.wide (T := S) (fun k hk => by simp at hk; subst hk; exact .inl hpS.out)))
      clear h6 u6 c2 HFA
      have HFL := Lib.hid (Files_calls H1.out.1)
      have hfl := filesS_length s1
      go_upto_block 0 with (go_at_call 29; refine HFL.out.mono ?_; rintro e w2 ⟨v, rfl, o2, u2⟩; obtain ⟨_, va, vc, rfl, _⟩ := SL.of_owns o2.row)
      have H2 := Lib.hid (And.intro o2 (And.intro (H1.out.1.quiet u2) (H1.out.2.step u2)))
      clear o2 u2 HFL
      generalize hfn : (filesS s1).length = fn at *
      have HFN := Lib.hid hfn
      clear hfn
      go_wp2_with fail
      go_loopw [17] (fun i wr => ∃ k : Nat, i = .int .i64 k ∧ k ≤ fn ∧ Dk wr p (syncK s1 k) S ∧ Upd S w2 wr) (fun i _ => fn - (intOf i).toNat)
      case atStart => exact ⟨0, rfl, Nat.zero_le _, by rw [syncK_zero]; exact H2.out.2.1, Upd.refl _ _⟩
      case round =>
        obtain ⟨wo, rfl⟩ : ∃ wo : World, wo = wr := ⟨_, rfl⟩
        obtain ⟨k, rfl, hk, hd, hu⟩ := hrel
        by_cases hlt : k < fn
        · have hlti : (k : Int) < fn := by omega
          have hkl : k < (filesS s1).length := by rw [HFN.out]; exact hlt
          obtain ⟨i, hi⟩ : ∃ i, (filesS s1)[k]? = some i := ⟨_, List.getElem?_eq_getElem hkl⟩
          obtain ⟨hi64, hne⟩ := filesS_mem.1 (List.mem_of_getElem? hi)
          obtain ⟨g, hva⟩ : ∃ g, va = some ⟨g, 0, none⟩ := by
            rcases owns_addr H2.out.1.row with ⟨rfl, rfl⟩ | h
            · have := (SL.of_owns H2.out.1.row).val
              obtain ⟨_, _, he, h2, _⟩ := this
              cases he
              omega
            · exact h
          subst hva
          have hgS : g ∉ S := fun hm => by have h1 := H2.out.1.fresh g rfl; have h2 := H1.out.1.lt g hm; omega
          have o3 := H2.out.1.upd hu (fun b hb e => by simp [Value.ownBlock] at e; subst e; exact hgS hb)
          have d0 := o3.row.cells (g := g) rfl k _ (ints_get (x := (i : Int)) (by rw [List.getElem?_map, hi]; rfl))
          rw [addr_add, Nat.zero_add] at d0
          obtain ⟨m1, fm, v1, hW, hM, hval, hrow, _⟩ := hd.out hi64
          obtain ⟨_, va1, vc1, rfl, _⟩ := SL.of_owns hrow
          have h1 : Blk wo p [.int .i64 (s1.room : Int), .map (some m1), .bool s1.off, .int .i64 s1.plan] 62 := by obtain ⟨_, _, h1, _⟩ := hW.ex; exact h1
          have c1 := h1.cell (i := 1) rfl
          have hlt1 := h1.lt
          have HM := Lib.hid hM
          have HV := Lib.hid hval
          have hlB := hd.ok.len i
          have HX := Lib.hid (And.intro hW (And.intro hrow (And.intro hd (And.intro hu (And.intro hi (And.intro hne hi64))))))
          clear hW hrow hM hval h1 hd hu hi hne o3
          go_upto_region 7 with (first | (at_lookup; refine wpList_mflook (k := 3) Tryz.underlying3 Tryz.underlying60 infoFile _ _ rfl rfl m1 64 fm (i : Int) rfl rfl HM.out ⟨by omega, by omega⟩ ?_; rw [HV.out]) | go_in)
          have hstep := syncK_step s1 HX.out.2.2.2.2.1
          have hokn := syncK_ok H1.out.1.ok (k + 1)
          rw [hstep] at hokn
          have HST := Lib.hid (And.intro hstep hokn)
          clear hstep hokn
          have hBk : s1.B = (syncK s1 k).B := rfl
          rw [hBk] at HST
          clear hBk
          have HNK := Lib.hid (show (syncK s1 k).B i ≠ [] from HX.out.2.2.2.2.2.1)
          generalize syncK s1 k = sk at *
          have ubx : Upd [] wo (wo.alloc (.cells #[.slice va1 (sk.B i).length vc1, .int .i64 (sk.F i : Int)] 65)) := (Upd.refl _ wo).alloc _
          have bbx := Blk.new wo [.slice va1 (sk.B i).length vc1, .int .i64 (sk.F i : Int)] 65
          have hqS : wo.heap.size ∉ S := fun hm => by have := HX.out.1.lt _ hm; omega
          have hqw : w2.heap.size ≤ wo.heap.size := HX.out.2.2.2.1.size
          have HY := Lib.hid (And.intro (HX.out.1.upd ubx (by simp)) (And.intro (ownsRow_updL HX.out.2.1 ubx (by simp)) (And.intro (HX.out.2.2.2.1.step ubx) (And.intro bbx (And.intro hqS (And.intro hqw (HM.out.upd ubx (by simp))))))))
          clear ubx bbx hqS hqw HV HM c1 hlt1 d0
          generalize hq : wo.heap.size = q at *
          have e0 := HY.out.2.2.2.1.cell (i := 0) rfl
          have e1 := HY.out.2.2.2.1.cell (i := 1) rfl
          have g1 := HY.out.2.2.2.1.free 1
          generalize wo.alloc (.cells #[.slice va1 (sk.B i).length vc1, .int .i64 (sk.F i : Int)] 65) = w4 at *
          clear hq
          go_upto_region 8 with fail
          have b5 := HY.out.2.2.2.1.set 1 (.int .i64 ((sk.B i).length : Nat))
          have U45 : Upd [q] w4 (w4.setCell ⟨q, 1, none⟩ (.int .i64 ((sk.B i).length : Nat))) := (Upd.refl _ w4).set (.inl (by simp)) _
          simp only [List.set_cons_zero, List.set_cons_succ] at b5
          have hqm : q ≠ m1 := fun e => by obtain ⟨_, _, _, _, _, _, _, h6, _⟩ := HY.out.1.ex; exact HY.out.2.2.2.2.1 (e ▸ h6)
          have hW5 := HY.out.1.upd U45 (fun k hk => .inr (by simp at hk; subst hk; exact HY.out.2.2.2.2.1))
          have row5 := ownsRow_updL HY.out.2.1 U45 (fun b hb e => HY.out.2.2.2.2.1 (by simp only [List.mem_singleton] at hb; subst hb; exact (HY.out.1.own b (by rw [e]; simp)).1))
          have Uall : Upd S w2 (w4.setCell ⟨q, 1, none⟩ (.int .i64 ((sk.B i).length : Nat))) := HY.out.2.2.1.fresh U45 (fun k hk => .inr (by simp at hk; subst hk; exact HY.out.2.2.2.2.2.1))
          have hm5 := HY.out.2.2.2.2.2.2.upd U45 (by simp; exact fun e => hqm e.symm)
          have h1 : Blk (w4.setCell ⟨q, 1, none⟩ (.int .i64 ((sk.B i).length : Nat))) p [.int .i64 (sk.room : Int), .map (some m1), .bool sk.off, .int .i64 sk.plan] 62 := by obtain ⟨_, _, h1, _⟩ := hW5.ex; exact h1
          have H5 := Lib.hid (And.intro hW5 (And.intro row5 (And.intro Uall hm5)))
          have c1 := h1.cell (i := 1) rfl
          clear hW5 row5 Uall U45 hm5 h1 e0 e1 g1 hqm
          have d0 := b5.cell (i := 0) rfl
          have d1 := b5.cell (i := 1) rfl
          clear b5
          generalize w4.setCell ⟨q, 1, none⟩ (.int .i64 ((sk.B i).length : Nat)) = w5 at *
          refine wp_region_ord 6 1 [0, 1, 2, 3, 4, 5] [3, 5] [0, 1, 2, 3, 4, 5, 6] (fun w' => ∃ x : Ext w5, w' = x.val) (by kernel_rfl) (by kernel_rfl) (Ext.of (by iterate 25 (first | exact Upd.refl _ _ | assumption | refine Upd.alloc ?_ _ | refine Upd.drew ?_ | refine Upd.drewN ?_ _ | refine Upd.dl ?_ | refine Upd.step ?_ (Ext.upd _) | refine Upd.nil ?_ | skip))) ?_
          repeat (first | (refine wpOrd_load rfl rfl rfl rfl (fun K hK => ?_); go_big_quiet_step (fail); refine wpQuiet_nil ?_; refine hK _ ?_; clear hK K) | (refine wpOrd_free rfl rfl rfl (fun K hK => ?_); go_big_quiet_step (fail); refine wpQuiet_nil ?_; refine hK _ ?_; clear hK K))
          refine wpOrd_fix rfl rfl (fun K hK => ?_)
          refine wpList_mfput (k := 3) Tryz.underlying3 Tryz.underlying60 rfl _ _ _ rfl m1 64 fm (i : Int) (.agg #[.slice va1 (sk.B i).length vc1, .int .i64 ((sk.B i).length : Nat)]) rfl rfl rfl (H5.out.2.2.2.upd (S := []) (by iterate 25 (first | exact Upd.refl _ _ | assumption | refine Upd.alloc ?_ _ | refine Upd.drew ?_ | refine Upd.drewN ?_ _ | refine Upd.dl ?_ | refine Upd.step ?_ (Ext.upd _) | refine Upd.nil ?_ | skip)) (by simp)) ⟨by omega, by omega⟩ ?_
          intro w6 hm6 u6
          go_wp2_with fail
          try (refine ⟨fun hC => absurd hC (by decide), ?_⟩)
          refine wpOrd_nil ?_
          have ud : Upd [] w5 w5.drew := (Upd.refl _ _).drew
          have hd6 := (H5.out.1.upd ud (by simp)).close (b := sk.B i) (n := (sk.B i).length) u6 (hm6.congr (fun x => by rw [if_neg HNK.out])) (ownsRow_updL H5.out.2.1 ud (by simp)) (fun g hg => by rw [hg]; simp) (by rw [setB_self]; exact HST.out.2)
          rw [setB_self, ← HST.out.1] at hd6
          have hmS : m1 ∈ S := by obtain ⟨_, _, _, _, _, _, _, h6, _⟩ := H5.out.1.ex; exact h6
          have HE := Lib.hid (And.intro hd6 (H5.out.2.2.1.trans (ud.nil.trans (u6.wide (fun k hk => by simp at hk; subst hk; exact .inl hmS)))))
          clear hd6 hmS ud hm6 u6 c1 d0 d1
          go_wp2_with fail
          go_roundw
          case rel => exact ⟨k + 1, by go_num, by omega, HE.out.1, HE.out.2⟩
          case measure => simp [intOf]; omega
        · have hkn : k = fn := by omega
          subst hkn
          have HE := Lib.hid (And.intro hd hu)
          clear hd hu
          go_wp2_with fail
          go_ret
          rw [HR.out]
          have h9 := HE.out.1
          rw [← HFN.out, syncK_end H1.out.1.ok] at h9
          exact ⟨rfl, h9, H2.out.2.2.trans HE.out.2⟩
end
end Disk
end Go.Proofs.YtfkgpecglcjpkaaGreat
end
section
open Go.RowKit
namespace Go.Proofs.YtfkgpecglcjpkaaGreat
open L
namespace Disk
open Wire
/-- The copy of a disk, so far. -/
def copyK (s : DS) (left : Int → Bool) : DS := { s with B := fun i => if left i then [] else s.B i, F := fun i => if left i then 0 else s.F i }
theorem copyK_ok {s : DS} (h : s.Ok) (left : Int → Bool) : (copyK s left).Ok := by
  refine ⟨fun i hi => ?_, fun i => ?_, fun i x hx => ?_, h.plan, h.room, used_less h (fun i => ?_)⟩
  · simp only [copyK]; split
    · rfl
    · exact h.out i hi
  · simp only [copyK]; split
    · exact Nat.zero_le _
    · exact h.firm i
  · simp only [copyK] at hx; split at hx
    · simp at hx
    · exact h.u8 i x hx
  · simp only [copyK]; split
    · simp
    · exact Nat.le_refl _
theorem copyK_start {s : DS} (h : s.Ok) (G C : Nat → Nat) : copyK s (fun x => (fileF s G C x).isSome) = { s with B := fun _ => [], F := fun _ => 0 } := by
  unfold copyK
  have key : ∀ i : Nat, (fileF s G C (i : Int)).isSome = false → s.B i = [] ∧ s.F i = 0 := by
    intro i hi
    have hb : s.B i = [] := by
      by_cases h64 : i < 64
      · refine Classical.byContradiction fun hb => ?_
        unfold fileF at hi
        rw [if_pos ⟨by omega, by omega, by rw [Int.toNat_natCast]; exact hb⟩] at hi
        cases hi
      · exact h.out i (by omega)
    have := h.firm i
    rw [hb] at this
    exact ⟨hb, by simpa using this⟩
  congr 1
  · funext i
    cases hi : (fileF s G C (i : Int)).isSome with
    | true => exact if_pos hi
    | false => simp [(key i hi).1]
  · funext i
    cases hi : (fileF s G C (i : Int)).isSome with
    | true => exact if_pos hi
    | false => simp [(key i hi).2]
theorem copyK_step {s : DS} {left : Int → Bool} {i : Nat} (hi : left i = true) : copyK s (fun z => left z && !decide (z = (i : Int))) = { copyK s left with B := setB (copyK s left).B i (s.B i), F := setF (copyK s left).F i (s.F i) } := by
  unfold copyK
  congr 1
  · funext j
    simp only [setB]
    by_cases e : j = i
    · subst e; simp
    · have : decide ((j : Int) = (i : Int)) = false := decide_eq_false (by omega)
      simp [e, this]
  · funext j
    simp only [setF]
    by_cases e : j = i
    · subst e; simp
    · have : decide ((j : Int) = (i : Int)) = false := decide_eq_false (by omega)
      simp [e, this]
theorem copyK_end {s : DS} (h : s.Ok) {left : Int → Bool} (hl : ∀ x, IsI64 x → left x = false) : copyK s left = s := by
  have key : ∀ i : Nat, left i = true → s.B i = [] ∧ s.F i = 0 := by
    intro i hi
    have hb : s.B i = [] := by
      refine h.out i ?_
      refine Classical.byContradiction fun h64 => ?_
      rw [hl i ⟨by omega, by omega⟩] at hi
      cases hi
    have := h.firm i
    rw [hb] at this
    exact ⟨hb, by simpa using this⟩
  obtain ⟨room, B, F, off, plan⟩ := s
  unfold copyK
  congr 1
  · funext i
    cases hi : left (i : Int) with
    | true => exact (if_pos rfl).trans (key i hi).1.symm
    | false => simp
  · funext i
    cases hi : left (i : Int) with
    | true => exact (if_pos rfl).trans (key i hi).2.symm
    | false => simp
section
variable {w w' : World} {p : Nat} {s : DS} {S : List Nat}
theorem dk_blank {m : Nat} (h1 : Blk w p [.int .i64 (s.room : Int), .map (some m), .bool s.off, .int .i64 s.plan] 62) (h2 : MF Tryz.prog 3 w m 64 (fun _ => none)) (hpm : p ≠ m) (hok : s.Ok) (hb : ∀ i, s.B i = []) : Dk w p s [p, m] :=
  ⟨⟨m, fun _ => 0, fun _ => 0, h1, h2.congr (fun x => by unfold fileF; rw [if_neg (fun h => h.2.2 (hb _))]), hpm, by simp, by simp, fun i _ h => absurd (hb i) h, fun i j _ _ h => absurd (hb i) h⟩, hok, fun k hk => by
    simp only [List.mem_cons, List.not_mem_nil, or_false] at hk
    rcases hk with rfl | rfl
    · exact h1.lt
    · exact h2.lt⟩
end
end Disk
end Go.Proofs.YtfkgpecglcjpkaaGreat
end
section
open Go.RowKit
namespace Go.Proofs.YtfkgpecglcjpkaaGreat
open L
namespace Disk
theorem tot_succ (g : Nat → Nat) (n : Nat) : tot g (n + 1) = tot g n + g n := rfl
def fl_ (B : Nat → List Int) (n : Nat) : List Nat := (List.range n).filter fun i => !(B i).isEmpty
theorem fl_succ (B : Nat → List Int) (n : Nat) : fl_ B (n + 1) = fl_ B n ++ (if B n = [] then [] else [n]) := by
  unfold fl_
  rw [List.range_succ, List.filter_append]
  congr 1
  cases hb : B n with
  | nil => simp [hb]
  | cons x l => simp [hb]
theorem fl_take {B : Nat → List Int} : ∀ {n k i : Nat}, (fl_ B n)[k]? = some i → (fl_ B n).take k = fl_ B i ∧ i < n ∧ B i ≠ []
  | 0, k, i, h => by simp [fl_] at h
  | n + 1, k, i, h => by
    rw [fl_succ] at h ⊢
    by_cases hk : k < (fl_ B n).length
    · rw [List.getElem?_append_left hk] at h
      obtain ⟨h1, h2, h3⟩ := fl_take h
      exact ⟨by rw [List.take_append_of_le_length (by omega)]; exact h1, by omega, h3⟩
    · rw [List.getElem?_append_right (by omega)] at h
      by_cases hb : B n = []
      · rw [if_pos hb] at h; simp at h
      · rw [if_neg hb] at h
        have hk0 : k - (fl_ B n).length = 0 := by
          have := (List.getElem?_eq_some_iff.1 h).1
          simp at this
          omega
        rw [hk0] at h
        have hi : n = i := by simpa using h
        subst hi
        have hkl : k = (fl_ B n).length := by omega
        subst hkl
        exact ⟨by rw [List.take_left], by omega, hb⟩
theorem rank_eq (B : Nat → List Int) : ∀ n, rank B n = (fl_ B n).length
  | 0 => by simp [rank, tot, fl_]
  | n + 1 => by
    rw [fl_succ, List.length_append, ← rank_eq B n]
    unfold rank
    rw [tot_succ]
    by_cases hb : B n = []
    · simp [hb]
    · simp [hb]
/-- The sum of g over a list. -/
def sumL (g : Nat → Nat) (l : List Nat) : Nat := (l.map g).sum
theorem sumL_append (g : Nat → Nat) (l m : List Nat) : sumL g (l ++ m) = sumL g l + sumL g m := by simp [sumL]
theorem sumL_fl {B : Nat → List Int} {g : Nat → Nat} (hg : ∀ i, B i = [] → g i = 0) : ∀ n, sumL g (fl_ B n) = tot g n
  | 0 => by simp [sumL, tot, fl_]
  | n + 1 => by
    rw [fl_succ, sumL_append, sumL_fl hg n, tot_succ]
    by_cases hb : B n = []
    · simp [hb, hg n hb, sumL]
    · simp [hb, sumL]
theorem fl_nodup (B : Nat → List Int) (n : Nat) : (fl_ B n).Nodup := List.nodup_range.filter _
theorem filesS_fl (s : DS) : filesS s = fl_ s.B 64 := rfl
theorem kept_nil {s : DS} {keep : List Int} {i : Nat} (h : s.B i = []) : keptN s keep i = 0 := by unfold keptN; rw [if_pos h]
/-- What a crash keeps of the file with number k among those that are not empty. -/
theorem kept_at {s : DS} {keep : List Int} {k i : Nat} (h : (filesS s)[k]? = some i) : keptN s keep i = match keep[k]? with
  | none => 0
  | some x => min x.toNat ((s.B i).length - s.F i) := by
  obtain ⟨h1, h2, h3⟩ := fl_take (B := s.B) (n := 64) h
  have hr : rank s.B i = k := by
    rw [rank_eq, ← h1, List.length_take]
    have := (List.getElem?_eq_some_iff.1 h).1
    rw [filesS_fl] at this
    omega
  unfold keptN
  rw [if_neg h3, hr]
  cases keep[k]? <;> rfl
theorem before_at {s : DS} {keep : List Int} {k i : Nat} (h : (filesS s)[k]? = some i) : sumL (keptN s keep) ((filesS s).take k) = tot (keptN s keep) i := by
  obtain ⟨h1, _, _⟩ := fl_take (B := s.B) (n := 64) h
  rw [filesS_fl, h1]
  exact sumL_fl (fun _ hb => kept_nil hb) i
theorem kept_all (s : DS) (keep : List Int) : sumL (keptN s keep) (filesS s) = tot (keptN s keep) 64 := by
  rw [filesS_fl]
  exact sumL_fl (fun _ hb => kept_nil hb) 64
/-- A crash, so far: the first k files are cut. -/
def crashK (s : DS) (keep : List Int) (k : Nat) : DS :=
  { s with B := fun i => if i ∈ (filesS s).take k then (s.B i).take (s.F i + keptN s keep i) else s.B i, F := fun i => if i ∈ (filesS s).take k then s.F i + keptN s keep i else s.F i }
theorem crashK_ok {s : DS} (h : s.Ok) (keep : List Int) (k : Nat) : (crashK s keep k).Ok := by
  have hk := fun i => keptN_le s keep i
  have hf := fun i => h.firm i
  have hlen : ∀ i, ((crashK s keep k).B i).length ≤ (s.B i).length := fun i => by
    simp only [crashK]
    split
    · rw [List.length_take]; omega
    · exact Nat.le_refl _
  refine ⟨fun i hi => ?_, fun i => ?_, fun i x hx => ?_, h.plan, h.room, used_less h hlen⟩
  · have := hlen i
    rw [h.out i hi] at this
    exact List.eq_nil_of_length_eq_zero (by simpa using this)
  · have h1 := hk i
    have h2 := hf i
    simp only [crashK]
    split
    · rw [List.length_take]; omega
    · exact h2
  · simp only [crashK] at hx
    split at hx
    · exact h.u8 i x (List.mem_of_mem_take hx)
    · exact h.u8 i x hx
theorem crashK_zero (s : DS) (keep : List Int) : crashK s keep 0 = s := by simp [crashK]
theorem take_not {l : List Nat} (hl : l.Nodup) {k i : Nat} (h : l[k]? = some i) : i ∉ l.take k := by
  intro hm
  obtain ⟨j, hj⟩ := List.getElem?_of_mem hm
  rw [List.getElem?_take] at hj
  split at hj
  · rename_i hjk
    have h1 := (List.getElem?_eq_some_iff.1 h)
    have h2 := (List.getElem?_eq_some_iff.1 hj)
    have := (List.getElem_inj (i := j) (j := k) hl (h₀ := h2.1) (h₁ := h1.1)).1 (h2.2.trans h1.2.symm)
    omega
  · cases hj
theorem crashK_at {s : DS} {keep : List Int} {k i : Nat} (h : (filesS s)[k]? = some i) : (crashK s keep k).B i = s.B i ∧ (crashK s keep k).F i = s.F i := by
  have hn := take_not (fl_nodup s.B 64) (by rw [← filesS_fl]; exact h)
  rw [← filesS_fl] at hn
  simp only [crashK, if_neg hn]
  exact ⟨trivial, trivial⟩
theorem crashK_step {s : DS} {keep : List Int} {k i : Nat} (h : (filesS s)[k]? = some i) :
    crashK s keep (k + 1) = { crashK s keep k with B := setB (crashK s keep k).B i ((s.B i).take (s.F i + keptN s keep i)), F := setF (crashK s keep k).F i (s.F i + keptN s keep i) } := by
  unfold crashK
  have e : ∀ j, j ∈ (filesS s).take (k + 1) ↔ j ∈ (filesS s).take k ∨ j = i := fun j => by
    rw [List.take_add_one, h]
    simp
  congr 1
  · funext j
    simp only [setB, e j]
    by_cases e1 : j = i
    · subst e1; simp
    · simp [e1]
  · funext j
    simp only [setF, e j]
    by_cases e1 : j = i
    · subst e1; simp
    · simp [e1]
theorem crashK_end {s : DS} (h : s.Ok) (keep : List Int) : crashK s keep (filesS s).length = { s with B := crashB s keep none, F := fun i => (crashB s keep none i).length } := by
  unfold crashK
  have key : ∀ i, i ∉ filesS s → s.B i = [] ∧ s.F i = 0 ∧ keptN s keep i = 0 := fun i hn => by
    have hb : s.B i = [] := by
      by_cases hi : i < 64
      · exact Classical.byContradiction fun hb => hn (filesS_mem.2 ⟨hi, hb⟩)
      · exact h.out i (by omega)
    have := h.firm i
    rw [hb] at this
    exact ⟨hb, by simpa using this, kept_nil hb⟩
  congr 1
  · funext i
    rw [List.take_of_length_le (Nat.le_refl _)]
    split
    · rfl
    · rename_i hn
      obtain ⟨h1, h2, h3⟩ := key i hn
      simp [crashB, h1]
  · funext i
    rw [List.take_of_length_le (Nat.le_refl _), crashB_length s keep none i h]
    split
    · rfl
    · rename_i hn
      obtain ⟨h1, h2, h3⟩ := key i hn
      omega
/-- .. and one bit is inverted. -/
theorem crash_flip {s : DS} (h : s.Ok) {keep : List Int} {i q : Nat} (h1 : 8 * tot (keptN s keep) i ≤ q) (h2 : q < 8 * (tot (keptN s keep) i + keptN s keep i)) (hi : i < 64) :
    ({ s with B := crashB s keep (some q), F := fun j => (crashB s keep (some q) j).length } : DS) =
      { s with B := setB (crashB s keep none) i (flipL (crashB s keep none i) (8 * s.F i + (q - 8 * tot (keptN s keep) i))), F := fun j => (crashB s keep none j).length } := by
  have mono : ∀ {a b : Nat}, a < b → tot (keptN s keep) a + keptN s keep a ≤ tot (keptN s keep) b := by
    intro a b hab
    induction b with
    | zero => omega
    | succ b ih =>
      rw [tot_succ]
      by_cases e : a = b
      · subst e; omega
      · have := ih (by omega); omega
  congr 1
  · funext j
    simp only [setB]
    by_cases e : j = i
    · subst e
      simp only [crashB, if_pos]
      rw [if_pos ⟨h1, h2⟩]
    · rw [if_neg e]
      simp only [crashB]
      rw [if_neg]
      rintro ⟨h3, h4⟩
      rcases Nat.lt_or_gt_of_ne e with h5 | h5
      · have := mono h5; omega
      · have := mono h5; omega
  · funext j
    rw [crashB_length s keep _ j h, crashB_length s keep _ j h]
theorem flipB_add (y : Int) (a k : Nat) : flipB y (8 * a + k) = flipB y k := by
  unfold flipB
  rw [show (8 * a + k) % 8 = k % 8 by omega]
end Disk
end Go.Proofs.YtfkgpecglcjpkaaGreat
end
