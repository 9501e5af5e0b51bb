/- Walks through package disk: how many bytes there are, the numbers of files. Conditions: none. -/
import Derived.Test.YtfkgpecglcjpkaaDiskB
set_option linter.unusedVariables false
set_option linter.unusedSimpArgs false
set_option linter.unusedSectionVars false
open Go.RowKit
namespace Go.Proofs.Ytfkgpecglcjpkaa
open L
namespace Disk
open Wire
theorem fileF_some {s : DS} {G C : Nat → Nat} {x : Int} {v : Value} (h : fileF s G C x = some v) : ∃ i : Nat, x = i ∧ i < 64 ∧ s.B i ≠ [] ∧ v = fileV (G i) (C i) (s.B i) (s.F i) := by
  unfold fileF at h
  split at h
  · rename_i hc
    refine ⟨x.toNat, by omega, by omega, hc.2.2, by simpa using h.symm⟩
  · cases h
section
variable {w w' : World} {p : Nat} {s : DS} {S : List Nat}
set_option maxHeartbeats 1000000 in
theorem Used_calls (h : Dk w p s S) : Calls Try.prog 31 #[.pointer (some ⟨p, 0, none⟩)] w fun e w' => e = .returned (.int .i64 (used s : Nat)) ∧ Upd [] w w' := by
  obtain ⟨m, G, C, h1, h2, h3, h4, h5, _⟩ := h.ex
  have c1 := h1.cell (i := 1) rfl
  have hml := h2.lt
  have HL := Lib.hid h.ok.len
  have HU := Lib.hid (And.intro h.ok.used h.ok.room)
  have H2 := Lib.hid h2
  clear h h1 h2 h3 h4 h5
  go_enter Try.func31, Try.ntmps31
  go_wp2_with (first | (at_range; refine wpList_mfrange (k := 3) Try.underlying3 Try.underlying87 rfl _ rfl m 64 _ rfl H2.out ?_; intro w0 cnt0 hrg0 hu0 hs0) | go_in)
  go_frame
  clear hs0
  go_loopw [3] (fun acc wr => ∃ (left : Int → Bool) (cnt n : Nat), acc = .int .i64 (n : Int) ∧ n = tot (fun i => if left i then 0 else (s.B i).length) 64 ∧ RG Try.prog 3 wr m w.heap.size 64 (fileF s G C) left cnt ∧ Upd [] w wr) (fun _ wr => wr.rangeLeft m w.heap.size)
  case atStart =>
    refine ⟨_, _, 0, rfl, ?_, hrg0, hu0⟩
    symm
    refine tot_zero (fun i hi => ?_)
    by_cases hn : s.B i = []
    · rw [hn]; simp
    · rw [if_pos]
      unfold fileF
      rw [if_pos ⟨by omega, by omega, by rw [Int.toNat_natCast]; exact hn⟩]
      rfl
  case round =>
    obtain ⟨left, cnt, n, rfl, hn, hrg, hu⟩ := hrel
    have HN := Lib.hid hn
    have hle : n ≤ 16777216 := by
      have h1 := HU.out
      have h2 := tot_mono (n := 64) (g := fun i => if left i then 0 else (s.B i).length) (h := fun i => (s.B i).length) (fun i _ => by split <;> omega)
      unfold used at h1
      omega
    have hni : (n : Int) ≤ 16777216 := by omega
    clear hn
    have HUW := Lib.hid hu
    clear hu
    go_wp2_with (first | (at_next; refine wpList_mfnext (k := 3) Try.underlying3 rfl _ rfl m w.heap.size 64 _ left cnt rfl hrg ?_ ?_) | go_in)
    · intro hc0 hl0
      have hr : n = used s := by
        rw [HN.out]
        exact tot_congr (fun i hi => by rw [hl0 i ⟨by omega, by omega⟩]; rfl)
      subst hr
      go_wp2_with fail
      go_ret
      exact ⟨rfl, HUW.out⟩
    · intro x v w1 cnt1 hx0 hx hl hf hrg1 hlt hu1 hen
      obtain ⟨i, rfl, hi, hb, rfl⟩ := fileF_some hf
      have hbl := HL.out i
      have hbi : ((s.B i).length : Int) ≤ 16777216 := by omega
      unfold fileV at *
      have HS := Lib.hid (And.intro hl (And.intro hrg1 (And.intro hlt (And.intro hu1 (And.intro hb hrg)))))
      clear hl hrg1 hlt hu1 hf hb hrg
      go_wp2_with fail
      have hrgn : RG Try.prog 3 (w1.alloc (.cells #[.slice (some ⟨G i, 0, none⟩) (s.B i).length (C i), .int .i64 (s.F i : Int)] 91)) m w.heap.size 64 (fileF s G C) (fun z => left z && !decide (z = (i : Int))) cnt1 := HS.out.2.1.upd ((Upd.refl [] _).alloc _) (by simp) (by simp)
      go_roundw
      case rel =>
        refine ⟨_, cnt1, n + (s.B i).length, by go_num, ?_, hrgn, (HUW.out.fresh HS.out.2.2.2.1 (by simp)).step ((Upd.refl [] _).alloc _)⟩
        rw [HN.out]
        have h1 := tot_one (n := 64) (g := fun j : Nat => if (left (j : Int) && !decide ((j : Int) = (i : Int))) = true then 0 else (s.B j).length) (h := fun j : Nat => if left (j : Int) = true then 0 else (s.B j).length) (i := i) hi (fun j _ hne => by
          have : decide ((j : Int) = (i : Int)) = false := decide_eq_false (by omega)
          simp only [this, Bool.not_false, Bool.and_true])
        simp only [HS.out.1, if_true, decide_true, Bool.not_true, Bool.and_false, Bool.false_eq_true, if_false] at h1
        omega
      case measure => rw [hrgn.left_eq, HS.out.2.2.2.2.2.left_eq]; exact HS.out.2.2.1
theorem keys_files (s : DS) (G C : Nat → Nat) : keysL 64 (fileF s G C) = (filesS s).map Int.ofNat := by
  unfold keysL filesS
  congr 1
  refine List.filter_congr (fun i hi => ?_)
  have h64 := List.mem_range.1 hi
  unfold fileF
  rw [Int.toNat_natCast]
  cases hb : s.B i with
  | nil => simp
  | cons y l => simp; omega
theorem filesS_length (s : DS) : (filesS s).length ≤ 64 := Nat.le_trans (List.length_filter_le _ _) (by simp)
/-- The numbers of the files, as a slice of one's own. -/
theorem Files_calls (h : Dk w p s S) : Calls Try.prog 57 #[.pointer (some ⟨p, 0, none⟩)] w fun e w' => ∃ v, e = .returned v ∧ OwnV w 3 1 v (filesS s).length (ints ((filesS s).map Int.ofNat)) w' ∧ Upd [] w w' := by
  obtain ⟨m, G, C, h1, h2, h3, h4, h5, _⟩ := h.ex
  have c1 := h1.cell (i := 1) rfl
  obtain ⟨D, h6, h7⟩ := h2
  have hsz := MFD.size Try.underlying3 h6 h7
  have hperm := keysL_perm Try.underlying3 h6 h7
  have HS := Lib.hid (Try.sortedKeys m 64 D heldR w h6 (by unfold maxLen; omega) (by omega))
  have HP := Lib.hid hperm
  clear h h1 h3 h4 h5 hperm h6 h7
  go_enter Try.func57, Try.ntmps57
  go_wp2_with (first
    | (go_at_call 69; refine (Try.mapsKeys (some m) _).mono ?_; rintro e w1 ⟨rfl, rfl⟩)
    | (go_at_call 68; refine HS.out.mono ?_; rintro e w2 ⟨v, ss, rfl, hss, hrow, hnil, hb⟩))
  go_ret
  have hss2 : ss.mergeSort (fun x y => decide (x ≤ y)) = (filesS s).map Int.ofNat := by
    have e1 := mergeSort_of_perm_i (hss.trans HP.out.symm)
    rw [keys_files] at e1
    show ss.mergeSort leI = _
    rw [e1]
    refine List.mergeSort_of_pairwise ?_
    have := keysL_sorted (N := 64) (f := fileF s G C)
    rw [keys_files] at this
    exact this.imp (fun h => by simpa using h)
  have hlen : ss.length = (filesS s).length := by rw [← List.length_mergeSort ss, hss2, List.length_map]
  rw [hss2, hlen] at hrow
  have hu1 : Upd [] w (w.alloc (.cells #[.map (some m)] 87)) := (Upd.refl _ w).alloc _
  exact ⟨v, rfl, ⟨ownsRow_base_a hrow (Nat.zero_le _), fun g hg => Nat.le_trans hu1.size (by
    rcases hrow.2 with ⟨rfl, _⟩ | ⟨g', cap, cur, rfl, hb, _⟩
    · simp [Value.ownBlock] at hg
    · simp [Value.ownBlock] at hg; subst hg; exact hb)⟩, hu1.step (Upd.of_below hb)⟩
end
end Disk
end Go.Proofs.Ytfkgpecglcjpkaa
