/- Walks through package disk: making a disk, putting a file back, counting, the numbers of files. Conditions: none. -/
import Derived.Test.YtfkgpecglcjpkaaGreatDiskA
import Derived.Test.YtfkgpecglcjpkaaGreatSortK
set_option linter.unusedVariables false
set_option linter.unusedSimpArgs false
set_option linter.unusedSectionVars false
open Go.RowKit
namespace Go.Proofs.YtfkgpecglcjpkaaGreat
open L
namespace Disk
open Wire
theorem infoFile : (Tryz.prog.info? 65).map (fun i => (i.zero, i.size, i.bytes)) = some (some (.agg #[.slice none 0 0, .int .i64 0]), 2, 32) := by kernel_rfl
section
variable {w w' : World} {p : Nat} {s : DS} {S : List Nat}
theorem fileF_new (room : Nat) (G C : Nat → Nat) (x : Int) : fileF (newS room) G C x = none := by
  unfold fileF
  rw [if_neg (by simp [newS])]
theorem New_good {room : Nat} (hr : room ≤ 16777216) : Calls Tryz.prog 22 #[.int .i64 (room : Int)] w fun e w' => ∃ q S, e = .returned (.tuple #[.pointer (some ⟨q, 0, none⟩), .int .i64 0]) ∧ Dk w' q (newS room) S ∧ Upd [] w w' ∧ ∀ k ∈ S, w.heap.size ≤ k := by
  have hmm := @run_makeMap Tryz.prog
  have h1 : (room : Int) ≤ 16777216 := by omega
  have HR := Lib.hid hr
  clear hr
  go_enter Tryz.func22, Tryz.ntmps22
  go_wp2_with fail
  go_ret2
  have uu : Upd [] w ((w.alloc (.map #[] 0)).alloc (.cells #[.int .i64 (room : Int), .map (some w.heap.size), .bool false, .int .i64 (-1)] 62)) := (by iterate 25 (first | exact Upd.refl _ _ | assumption | refine Upd.alloc ?_ _ | refine Upd.drew ?_ | refine Upd.drewN ?_ _ | refine Upd.dl ?_ | refine Upd.step ?_ (Ext.upd _) | refine Upd.nil ?_ | skip))
  refine ⟨_, [w.heap.size, w.heap.size + 1], rfl, ⟨⟨w.heap.size, fun _ => 0, fun _ => 0, ?_, ?_, by simp, by simp, by simp, fun i _ h => absurd rfl h, fun i j _ _ h => absurd rfl h⟩, newS_ok HR.out, ?_⟩, uu, ?_⟩
  · have := Blk.new (w.alloc (.map #[] 0)) [.int .i64 (room : Int), .map (some w.heap.size), .bool false, .int .i64 (-1)] 62
    simpa [newS] using this
  · have h2 := (MF.new w Tryz.prog 3 64 (by omega)).upd ((Upd.refl [] _).alloc (.cells #[.int .i64 (room : Int), .map (some w.heap.size), .bool false, .int .i64 (-1)] 62)) (by simp)
    exact h2.congr (fun x => (fileF_new room _ _ x).symm)
  · intro k hk; simp at hk; simp; omega
  · simp
theorem New_bad {room : Int} (hr : room < 0 ∨ 16777216 < room) : Calls Tryz.prog 22 #[.int .i64 room] w fun e w' => e = .returned (.tuple #[.pointer none, .int .i64 1]) ∧ w = w' := by
  by_cases h : room < 0
  · clear hr
    go_enter Tryz.func22, Tryz.ntmps22
    go_wp2_with fail
    go_ret2
    exact ⟨rfl, rfl⟩
  · have h2 : 16777216 < room := by omega
    have h3 : 0 ≤ room := by omega
    clear hr h
    go_enter Tryz.func22, Tryz.ntmps22
    go_wp2_with fail
    go_ret2
    exact ⟨rfl, rfl⟩
/-- A disk with file i taken out: T: blocks that belong to it. -/
structure DkW (w : World) (p m : Nat) (f : Int → Option Value) (s : DS) (S : List Nat) (i : Nat) (T : List Nat) : Prop where
  ex : ∃ G C, Blk w p [.int .i64 (s.room : Int), .map (some m), .bool s.off, .int .i64 s.plan] 62 ∧ MF Tryz.prog 3 w m 64 f ∧ (∀ x : Int, x ≠ i → f x = fileF s G C x) ∧ p ≠ m ∧ p ∈ S ∧ m ∈ S ∧
    (∀ j, j < 64 → j ≠ i → s.B j ≠ [] → w.ownsRow 0 5 1 (.slice (some ⟨G j, 0, none⟩) (s.B j).length (C j)) (s.B j).length (byts (s.B j)) ∧ G j ∈ S ∧ G j ≠ p ∧ G j ≠ m ∧ G j ∉ T) ∧
    (∀ j k, j < 64 → k < 64 → j ≠ i → k ≠ i → s.B j ≠ [] → s.B k ≠ [] → G j = G k → j = k)
  own : ∀ t ∈ T, t ∈ S ∧ t ≠ p ∧ t ≠ m
  lt : ∀ k ∈ S, k < w.heap.size
  i64 : i < 64
section
variable {m i : Nat} {T : List Nat} {f : Int → Option Value}
theorem DkW.upd {U : List Nat} (h : DkW w p m f s S i T) (hu : Upd U w w') (hU : ∀ k ∈ U, k ∈ T ∨ k ∉ S) : DkW w' p m f s S i T := by
  obtain ⟨⟨G, C, h1, h2, h3, h4, h5, h6, h7, h8⟩, hT, hlt, hi⟩ := h
  have key : ∀ k, k ∈ S → k ∉ T → k ∉ U := fun k hk hn hm => (hU k hm).elim hn (fun h => h hk)
  refine ⟨⟨G, C, h1.upd hu (key p h5 (fun h => (hT p h).2.1 rfl)), h2.upd hu (key m h6 (fun h => (hT m h).2.2 rfl)), h3, h4, h5, h6, fun j hj hne hn => ?_, h8⟩, hT, fun k hk => Nat.lt_of_lt_of_le (hlt k hk) hu.size, hi⟩
  obtain ⟨a1, a2, a3, a4, a5⟩ := h7 j hj hne hn
  exact ⟨ownsRow_updL a1 hu (fun b hb e => by simp [Value.ownBlock] at e; subst e; exact key _ a2 a5 hb), a2, a3, a4, a5⟩
/-- One more block for file i. -/
theorem DkW.more {t : Nat} (h : DkW w p m f s S i T) (ht : t ∉ S) (hl : t < w.heap.size) : DkW w p m f s (t :: S) i (t :: T) := by
  obtain ⟨⟨G, C, h1, h2, h3, h4, h5, h6, h7, h8⟩, hT, hlt, hi⟩ := h
  refine ⟨⟨G, C, h1, h2, h3, h4, List.mem_cons_of_mem _ h5, List.mem_cons_of_mem _ h6, fun j hj hne hn => ?_, h8⟩, fun u hu => ?_, fun k hk => ?_, hi⟩
  · obtain ⟨a1, a2, a3, a4, a5⟩ := h7 j hj hne hn
    exact ⟨a1, List.mem_cons_of_mem _ a2, a3, a4, fun hm => (List.mem_cons.1 hm).elim (fun e => ht (e ▸ a2)) a5⟩
  · rcases List.mem_cons.1 hu with rfl | hu
    · exact ⟨by simp, fun e => ht (e ▸ h5), fun e => ht (e ▸ h6)⟩
    · exact ⟨List.mem_cons_of_mem _ (hT u hu).1, (hT u hu).2⟩
  · rcases List.mem_cons.1 hk with rfl | hk
    · exact hl
    · exact hlt k hk
/-- File i taken out of a disk: what its value is. -/
theorem Dk.out (h : Dk w p s S) (hi : i < 64) : ∃ m f v, DkW w p m f s S i v.ownBlock.toList ∧ MF Tryz.prog 3 w m 64 f ∧ (f (i : Int)).getD (.agg #[.slice none 0 0, .int .i64 0]) = .agg #[v, .int .i64 (s.F i : Int)] ∧
    w.ownsRow 0 5 1 v (s.B i).length (byts (s.B i)) ∧ (s.B i = [] → v = .slice none 0 0) := by
  obtain ⟨⟨m, G, C, h1, h2, h3, h4, h5, h6, h7⟩, hok, hlt⟩ := h
  by_cases hn : s.B i = []
  · have hF : s.F i = 0 := by have := hok.firm i; rw [hn] at this; simpa using this
    have hf : fileF s G C (i : Int) = none := by unfold fileF; rw [if_neg (by simp [hn])]
    refine ⟨m, fileF s G C, .slice none 0 0, ⟨⟨G, C, h1, h2, fun _ _ => rfl, h3, h4, h5, fun j hj _ hb => ⟨(h6 j hj hb).1, (h6 j hj hb).2.1, (h6 j hj hb).2.2.1, (h6 j hj hb).2.2.2, by simp [Value.ownBlock]⟩, fun j k hj hk _ _ => h7 j k hj hk⟩, by simp [Value.ownBlock], hlt, hi⟩, h2, by rw [hf, hF]; rfl, by rw [hn]; exact World.ownsRow_nil _ _ _ _, fun _ => rfl⟩
  · have hf : fileF s G C (i : Int) = some (fileV (G i) (C i) (s.B i) (s.F i)) := by
      unfold fileF; rw [if_pos ⟨by omega, by omega, by rw [Int.toNat_natCast]; exact hn⟩, Int.toNat_natCast]
    obtain ⟨a1, a2, a3, a4⟩ := h6 i hi hn
    refine ⟨m, fileF s G C, .slice (some ⟨G i, 0, none⟩) (s.B i).length (C i), ⟨⟨G, C, h1, h2, fun _ _ => rfl, h3, h4, h5, fun j hj hne hb => ⟨(h6 j hj hb).1, (h6 j hj hb).2.1, (h6 j hj hb).2.2.1, (h6 j hj hb).2.2.2, ?_⟩, fun j k hj hk _ _ => h7 j k hj hk⟩, ?_, hlt, hi⟩, h2, by rw [hf]; rfl, a1, fun h => absurd h hn⟩
    · simp only [Value.ownBlock, Option.toList, List.mem_singleton]
      exact fun e => hne (h7 j i hj hi hb hn e)
    · intro t ht
      simp only [Value.ownBlock, Option.toList, List.mem_singleton] at ht
      subst ht
      exact ⟨a2, a3, a4⟩
/-- .. and put back. -/
theorem DkW.close {b : List Int} {n : Nat} {v : Value} (h : DkW w p m f s S i T) (hu : Upd [m] w w')
    (hm : MF Tryz.prog 3 w' m 64 (fun x => if x = (i : Int) then (if b = [] then none else some (.agg #[v, .int .i64 (n : Int)])) else f x))
    (row : w.ownsRow 0 5 1 v b.length (byts b)) (hv : ∀ g, v.ownBlock = some g → g ∈ T) (hok : ({ s with B := setB s.B i b, F := setF s.F i n } : DS).Ok) : Dk w' p { s with B := setB s.B i b, F := setF s.F i n } S := by
  obtain ⟨⟨G, C, h1, h2, h3, h4, h5, h6, h7, h8⟩, hT, hlt, hi⟩ := h
  have hlt' : ∀ k ∈ S, k < w'.heap.size := fun k hk => Nat.lt_of_lt_of_le (hlt k hk) hu.size
  have hpm : p ∉ [m] := by simpa using h4
  by_cases hb : b = []
  · refine ⟨⟨m, G, C, h1.upd hu hpm, hm.congr (fun x => ?_), h4, h5, h6, fun j hj hn => ?_, fun j k hj hk hn hk2 => ?_⟩, hok, hlt'⟩
    · by_cases e : x = i
      · subst e; rw [if_pos rfl, if_pos hb]; unfold fileF; rw [if_neg (by simp [setB, hb])]
      · rw [if_neg e, h3 x e]
        unfold fileF
        have e2 : 0 ≤ x → x.toNat ≠ i := by intro h0 h1; omega
        by_cases h0 : 0 ≤ x
        · simp only [setB, setF, if_neg (e2 h0)]
        · rw [if_neg (fun h => h0 h.1), if_neg (fun h => h0 h.1)]
    · have hne : j ≠ i := by intro e; subst e; simp [setB, hb] at hn
      simp only [setB, if_neg hne] at hn ⊢
      obtain ⟨a1, a2, a3, a4, a5⟩ := h7 j hj hne hn
      exact ⟨ownsRow_updL a1 hu (by simp [Value.ownBlock]; exact a4), a2, a3, a4⟩
    · have hne : j ≠ i := by intro e; subst e; simp [setB, hb] at hn
      have hne2 : k ≠ i := by intro e; subst e; simp [setB, hb] at hk2
      simp only [setB, if_neg hne] at hn
      simp only [setB, if_neg hne2] at hk2
      exact h8 j k hj hk hne hne2 hn hk2
  · obtain ⟨g, cap, rfl, _, _⟩ := owns_form row (List.length_pos_iff.2 hb)
    have hg := hv g rfl
    obtain ⟨g1, g2, g3⟩ := hT g hg
    refine ⟨⟨m, setF G i g, setF C i cap, h1.upd hu hpm, hm.congr (fun x => ?_), h4, h5, h6, fun j hj hn => ?_, fun j k hj hk hn hk2 => ?_⟩, hok, hlt'⟩
    · by_cases e : x = i
      · subst e
        rw [if_pos rfl, if_neg hb]; unfold fileF
        rw [if_pos ⟨by omega, by omega, by rw [Int.toNat_natCast]; simpa [setB] using hb⟩, Int.toNat_natCast]
        simp only [setB, setF, if_pos, fileV]
      · rw [if_neg e, h3 x e]
        unfold fileF
        have e2 : 0 ≤ x → x.toNat ≠ i := by intro h0 h1; omega
        by_cases h0 : 0 ≤ x
        · simp only [setB, setF, if_neg (e2 h0)]
        · rw [if_neg (fun h => h0 h.1), if_neg (fun h => h0 h.1)]
    · by_cases hne : j = i
      · subst hne
        simp only [setB, setF, if_pos]
        exact ⟨ownsRow_updL row hu (by simp [Value.ownBlock]; exact g3), g1, g2, g3⟩
      · simp only [setB, setF, if_neg hne] at hn ⊢
        obtain ⟨a1, a2, a3, a4, a5⟩ := h7 j hj hne hn
        exact ⟨ownsRow_updL a1 hu (by simp [Value.ownBlock]; exact a4), a2, a3, a4⟩
    · by_cases hne : j = i
      · by_cases hne2 : k = i
        · intro _; omega
        · subst hne
          simp only [setB, if_neg hne2] at hk2
          simp only [setF, if_pos, if_neg hne2]
          intro e
          exact absurd (e ▸ hg) (h7 k hk hne2 hk2).2.2.2.2
      · simp only [setB, if_neg hne] at hn
        by_cases hne2 : k = i
        · subst hne2
          simp only [setF, if_pos, if_neg hne]
          intro e
          exact absurd (e ▸ hg) (h7 j hj hne hn).2.2.2.2
        · simp only [setB, if_neg hne2] at hk2
          simp only [setF, if_neg hne, if_neg hne2]
          exact h8 j k hj hk hne hne2 hn hk2
theorem put_callsX {b : List Int} {n : Nat} {v : Value} (h : DkW w p m f s S i T) (row : w.ownsRow 0 5 1 v b.length (byts b)) (hv : ∀ g, v.ownBlock = some g → g ∈ T) (hok : ({ s with B := setB s.B i b, F := setF s.F i n } : DS).Ok) :
    Calls Tryz.prog 30 #[.pointer (some ⟨p, 0, none⟩), .int .i64 (i : Int), .agg #[v, .int .i64 (n : Int)]] w fun e w' => e = .returned (.tuple #[]) ∧ Dk w' p { s with B := setB s.B i b, F := setF s.F i n } S ∧ Upd [m] w w' ∧ MF Tryz.prog 3 w' m 64 (fun x => if x = (i : Int) then (if b = [] then none else some (.agg #[v, .int .i64 (n : Int)])) else f x) := by
  obtain ⟨_, a, cap, rfl, _⟩ := SL.of_owns row
  obtain ⟨G, C, h1, h2, _⟩ := h.ex
  have c1 := h1.cell (i := 1) rfl
  have hlt := h1.lt
  have hi := h.i64
  have H := Lib.hid (And.intro h (And.intro row (And.intro hv (And.intro hok h2))))
  clear h row hv hok h2
  by_cases hb : b = []
  · subst hb
    simp only [List.length_nil]
    go_enter Tryz.func30, Tryz.ntmps30
    go_wp2_with (at_delete; refine wpList_mfdel (k := 3) Tryz.underlying3 Tryz.underlying60 rfl _ _ rfl m 64 _ (i : Int) rfl rfl (H.out.2.2.2.2.upd ((Upd.refl [] w).alloc _) (by simp)) ⟨by omega, by omega⟩ ?_; intro w1 hm1 hu1)
    ((try simp only [Exit.inBlock, Exit.then]); refine bodyPost_ret (results_none rfl _ _ _) rfl ?_)
    obtain ⟨k1, k2, k3, k4, k5⟩ := H.out
    have ua : Upd [] w (w.alloc (.cells #[.slice a 0 cap, .int .i64 (n : Int)] 65)) := (Upd.refl _ w).alloc _
    have uu : Upd [m] w w1 := ua.nil.trans hu1
    have hmm : MF Tryz.prog 3 w1 m 64 (fun x => if x = (i : Int) then (if ([] : List Int) = [] then none else some (.agg #[.slice a 0 cap, .int .i64 (n : Int)])) else f x) := hm1.congr (fun x => by rw [if_pos rfl])
    exact ⟨rfl, k1.close (v := .slice a 0 cap) uu hmm k2 k3 k4, uu, hmm⟩
  · have hb2 : b.length ≠ 0 := by simpa using hb
    go_enter Tryz.func30, Tryz.ntmps30
    go_wp2_with fail
    refine wp_region_ord 6 1 [0, 1, 2, 3, 4, 5] [3, 5] [0, 1, 2, 3, 4, 5, 6] (fun w' => ∃ x : Ext (w.alloc (.cells #[.slice a b.length cap, .int .i64 (n : Int)] 65)), w' = x.val) (by kernel_rfl) (by kernel_rfl) (Ext.of (by iterate 25 (first | exact Upd.refl _ _ | assumption | refine Upd.alloc ?_ _ | refine Upd.drew ?_ | refine Upd.drewN ?_ _ | refine Upd.dl ?_ | refine Upd.step ?_ (Ext.upd _) | refine Upd.nil ?_ | skip))) ?_
    repeat (first | (refine wpOrd_load rfl rfl rfl rfl (fun K hK => ?_); go_big_quiet_step (fail); refine wpQuiet_nil ?_; refine hK _ ?_; clear hK K) | (refine wpOrd_free rfl rfl rfl (fun K hK => ?_); go_big_quiet_step (fail); refine wpQuiet_nil ?_; refine hK _ ?_; clear hK K))
    refine wpOrd_fix rfl rfl (fun K hK => ?_)
    refine wpList_mfput (k := 3) Tryz.underlying3 Tryz.underlying60 rfl _ _ _ rfl m 64 _ (i : Int) _ rfl rfl rfl (H.out.2.2.2.2.upd (S := []) (by iterate 25 (first | exact Upd.refl _ _ | assumption | refine Upd.alloc ?_ _ | refine Upd.drew ?_ | refine Upd.drewN ?_ _ | refine Upd.dl ?_ | refine Upd.step ?_ (Ext.upd _) | refine Upd.nil ?_ | skip)) (by simp)) ⟨by omega, by omega⟩ ?_
    intro w1 hm1 hu1
    go_wp2_with fail
    refine ⟨fun hC => absurd hC (by decide), ?_⟩
    refine wpOrd_nil ?_
    go_end0
    obtain ⟨k1, k2, k3, k4, k5⟩ := H.out
    have ua : Upd [] w ((w.alloc (.cells #[.slice a b.length cap, .int .i64 (n : Int)] 65)).drew) := ((Upd.refl _ w).alloc _).drew
    have uu : Upd [m] w w1 := ua.nil.trans hu1
    have hmm : MF Tryz.prog 3 w1 m 64 (fun x => if x = (i : Int) then (if b = [] then none else some (.agg #[.slice a b.length cap, .int .i64 (n : Int)])) else f x) := hm1.congr (fun x => by rw [if_neg hb]; rfl)
    exact ⟨rfl, k1.close (v := .slice a b.length cap) uu hmm k2 k3 k4, uu, hmm⟩
theorem put_calls {b : List Int} {n : Nat} {v : Value} (h : DkW w p m f s S i T) (row : w.ownsRow 0 5 1 v b.length (byts b)) (hv : ∀ g, v.ownBlock = some g → g ∈ T) (hok : ({ s with B := setB s.B i b, F := setF s.F i n } : DS).Ok) :
    Calls Tryz.prog 30 #[.pointer (some ⟨p, 0, none⟩), .int .i64 (i : Int), .agg #[v, .int .i64 (n : Int)]] w fun e w' => e = .returned (.tuple #[]) ∧ Dk w' p { s with B := setB s.B i b, F := setF s.F i n } S ∧ Upd [m] w w' :=
  (put_callsX h row hv hok).mono fun _ _ ⟨h1, h2, h3, _⟩ => ⟨h1, h2, h3⟩
end
end
end Disk
end Go.Proofs.YtfkgpecglcjpkaaGreat
