/- Walks through package wire: the writer. Conditions: none. -/
import Derived.Test.YtfkgpecglcjpkaaGreatProg
import Derived.Test.YtfkgpecglcjpkaaGreatWire
set_option linter.unusedVariables false
set_option linter.unusedSimpArgs false
set_option linter.unusedSectionVars false
open Go.RowKit
namespace Go.Proofs.YtfkgpecglcjpkaaGreat
open L
namespace Wire
theorem infoByte : (Tryz.prog.info? 5).map (fun i => (i.zero, i.size, i.bytes)) = some (some (.int .u8 0), 1, 1) := by kernel_rfl
theorem byts_append (xs ys : List Int) : byts (xs ++ ys) = byts xs ++ byts ys := by simp [byts]
theorem byts_length (xs : List Int) : (byts xs).length = xs.length := by simp [byts]
theorem byts_get {xs : List Int} {i : Nat} {x : Int} (h : xs[i]? = some x) : (byts xs)[i]? = some (.int .u8 x) := by simp [byts, h]
theorem byts_one (xs : List Int) : ∀ u ∈ byts xs, u.oneCell' = true := by
  intro u hu
  simp only [byts, List.mem_map] at hu
  obtain ⟨_, _, rfl⟩ := hu
  rfl
/-- A writer at block q that holds the bytes bs; S are its blocks. -/
structure Wt (w : World) (q : Nat) (bs : List Int) (S : List Nat) : Prop where
  ex : ∃ sv, S = q :: sv.ownBlock.toList ∧ Blk w q [sv] 74 ∧ w.ownsRow 0 5 1 sv bs.length (byts bs) ∧ sv.ownBlock ≠ some q
section
variable {w w' : World} {q : Nat} {bs : List Int} {S : List Nat}
theorem Wt.upd {T : List Nat} (h : Wt w q bs S) (hu : Upd T w w') (hd : ∀ k ∈ S, k ∉ T) : Wt w' q bs S := by
  obtain ⟨sv, rfl, h1, h2, h3⟩ := h.ex
  exact ⟨sv, rfl, h1.upd hu (hd _ (by simp)), ownsRow_updL h2 hu (fun k hk hv => hd k (by simp [hv]) hk), h3⟩
theorem Wt.lt (h : Wt w q bs S) : ∀ k ∈ S, k < w.heap.size := by
  obtain ⟨sv, rfl, h1, h2, h3⟩ := h.ex
  intro k hk
  simp only [List.mem_cons, Option.mem_toList] at hk
  rcases hk with rfl | hk
  · exact h1.lt
  · exact (h2.lt k hk).2
/-- What a call on a writer leaves: the bytes grown. -/
def WtT (q : Nat) (bs : List Int) (S : List Nat) (w : World) (e : Ending) (w' : World) : Prop :=
  e = .returned (.tuple #[]) ∧ ∃ S', Wt w' q bs S' ∧ Upd S w w' ∧ ∀ j ∈ S', j ∈ S ∨ w.heap.size ≤ j
theorem Wt.push {g cap : Nat} {sv : Value} {c : Int} {w1 w2 : World} (hB : Blk w q [sv] 74) (h2 : w.ownsRow 0 5 1 sv bs.length (byts bs)) (h3 : sv.ownBlock ≠ some q)
    (o : w1.ownsRow 0 5 1 (.slice (some ⟨g, 0, none⟩) (bs.length + 1) cap) (bs.length + 1) (byts bs ++ [.int .u8 c])) (u : Upd sv.ownBlock.toList w w1) (k : sv.ownBlock = some g ∨ w.heap.size ≤ g)
    (hw2 : w2 = w1.setCell ⟨q, 0, none⟩ (.slice (some ⟨g, 0, none⟩) (bs.length + 1) cap)) :
    Wt w2 q (bs ++ [c]) [q, g] ∧ Upd (q :: sv.ownBlock.toList) w w2 ∧ ∀ j ∈ [q, g], j ∈ (q :: sv.ownBlock.toList) ∨ w.heap.size ≤ j := by
  have hgq : g ≠ q := by
    rcases k with k | k
    · exact fun e => h3 (e ▸ k)
    · have := hB.lt; omega
  have hB1 : Blk w1 q [sv] 74 := hB.upd u (by simpa using h3)
  have us : Upd [q] w1 w2 := by rw [hw2]; exact (Upd.refl [q] w1).set (by simp) _
  refine ⟨⟨.slice (some ⟨g, 0, none⟩) (bs.length + 1) cap, by simp [Value.ownBlock], ?_, ?_, ?_⟩, ?_, ?_⟩
  · rw [hw2]; exact hB1.set 0 _
  · have := ownsRow_updL o us (by simpa [Value.ownBlock] using hgq)
    simpa [byts] using this
  · simpa [Value.ownBlock] using hgq
  · exact (u.wide (T := q :: sv.ownBlock.toList) (by intro j hj; left; exact List.mem_cons_of_mem _ hj)).trans (us.wide (by simp))
  · intro j hj
    simp only [List.mem_cons, List.not_mem_nil, or_false] at hj
    rcases hj with rfl | rfl
    · simp
    · rcases k with k | k
      · left; simp [k]
      · exact .inr k
set_option maxRecDepth 100000 in
set_option maxHeartbeats 2000000 in
theorem Uint_calls (h : Wt w q bs S) (n : Nat) (hn : n < 18446744073709551616) (hb : bs.length ≤ 70368744177664) :
    Calls Tryz.prog 41 #[.pointer (some ⟨q, 0, none⟩), .int .u64 n] w (WtT q (bs ++ ub n) S w) := by
  have HN := Lib.hid hn
  clear hn
  go_enter Tryz.func41, Tryz.ntmps41
  go_wp2_with fail
  go_loopw [1] (fun nv wr => ∃ (m f : Nat) (pre : List Int) (S1 : List Nat), nv = .int .u64 m ∧ f ≤ 9 ∧ m < 2 * 128 ^ f ∧ ub n = pre ++ ubF f m ∧ pre.length + f = 9 ∧ Wt wr q (bs ++ pre) S1 ∧ Upd S w wr ∧ ∀ j ∈ S1, j ∈ S ∨ w.heap.size ≤ j) (fun nv _ => (intOf nv).toNat)
  case atStart => exact ⟨n, 9, [], S, rfl, by omega, by have := HN.out; omega, rfl, rfl, by simpa using h, Upd.refl _ _, fun j hj => .inl hj⟩
  case round =>
    obtain ⟨m, f, pre, S1, rfl, hf, hm, hub, hpl, hw, hu, hk⟩ := hrel
    obtain ⟨sv, rfl, hB, hO, hne⟩ := hw.ex
    have c0 := hB.cell (i := 0) rfl
    have f0 := hB.free 0
    have hql := hB.lt
    have hlen : bs.length + pre.length ≤ 70368744177674 := by omega
    have hm64 : m < 18446744073709551616 := by
      have : 128 ^ f ≤ 128 ^ 9 := Nat.pow_le_pow_right (by omega) hf
      omega
    have HL := Lib.hid (show (bs ++ pre).length = bs.length + pre.length from List.length_append)
    have HX := Lib.hid (And.intro hm (And.intro hub (And.intro hpl hm64)))
    clear hm64
    have HK := Lib.hid (And.intro hu (And.intro hk hw))
    have HO := Lib.hid hO
    clear hm hub hpl hu hk hw hO
    by_cases hlt : m < 128
    · go_wp2_with (refine wpList_push rfl rfl _ _ _ _ rfl rfl rfl 5 1 1 _ Tryz.underlying39 infoByte rfl (by decide) (by decide) (.int .u8 _) [.int .u8 _] rfl rfl rfl (byts_one [_]) _ _ _ HO.out rfl rfl (by rw [HL.out]; unfold maxLen; omega) (by rw [HL.out]; omega) ?_; intro g cap w1 o1 u1 k1; have hB1 := hB.upd u1 (by simpa using hne); have c1 := hB1.cell (i := 0) rfl; have f1 := hB1.free 0; have hq1 := hB1.lt)
      obtain ⟨W, U, K⟩ := Wt.push hB HO.out hne o1 u1 k1 (w2 := w1.setCell ⟨q, 0, none⟩ (.slice (some ⟨g, 0, none⟩) (bs.length + pre.length + 1) cap)) (by rw [HL.out])
      obtain ⟨hm, hub, hpl, hm64⟩ := HX.out
      obtain ⟨hu, hk, hw⟩ := HK.out
      have hsz := hu.size
      have e2 : ubF f m = [(m : Int)] := by
        cases f with
        | zero => rfl
        | succ f => rw [ubF, if_pos hlt]
      go_end0
      refine ⟨rfl, [q, g], ?_, hu.fresh U (fun j hj => hk j hj), ?_⟩
      · rw [hub, e2]; simpa using W
      · intro j hj
        rcases K j hj with h | h
        · exact hk j h
        · right; omega
    · go_wp2_with (refine wpList_push rfl rfl _ _ _ _ rfl rfl rfl 5 1 1 _ Tryz.underlying39 infoByte rfl (by decide) (by decide) (.int .u8 _) [.int .u8 _] rfl rfl rfl (byts_one [_]) _ _ _ HO.out rfl rfl (by rw [HL.out]; unfold maxLen; omega) (by rw [HL.out]; omega) ?_; intro g cap w1 o1 u1 k1; have hB1 := hB.upd u1 (by simpa using hne); have c1 := hB1.cell (i := 0) rfl; have f1 := hB1.free 0; have hq1 := hB1.lt)
      obtain ⟨W, U, K⟩ := Wt.push hB HO.out hne o1 u1 k1 (w2 := w1.setCell ⟨q, 0, none⟩ (.slice (some ⟨g, 0, none⟩) (bs.length + pre.length + 1) cap)) (by rw [HL.out])
      obtain ⟨hm, hub, hpl, hm64⟩ := HX.out
      obtain ⟨hu, hk, hw⟩ := HK.out
      have hsz := hu.size
      cases f with
      | zero => simp at hm; omega
      | succ f =>
        have hub2 : ubF (f + 1) m = ((m % 128 + 128 : Nat) : Int) :: ubF f (m / 128) := by rw [ubF, if_neg hlt]
        have hbit : bits .or .u8 ((m : Int) % 256) 128 = ((m % 128 + 128 : Nat) : Int) := by
          rw [or128 _ ⟨by omega, by omega⟩]; omega
        rw [hbit] at W
        refine ⟨⟨m / 128, f, pre ++ [((m % 128 + 128 : Nat) : Int)], [q, g], by go_num, by omega, ?_, ?_, by simp; omega, by simpa using W, ?_, ?_⟩, by simp [intOf]; omega⟩
        · rw [Nat.pow_succ] at hm; omega
        · rw [hub, hub2]; simp
        · exact hu.fresh U (fun j hj => hk j hj)
        · intro j hj
          rcases K j hj with h | h
          · exact hk j h
          · right; omega
theorem Int_calls (h : Wt w q bs S) (n : Int) (hn : IsI64 n) (hb : bs.length ≤ 70368744177664) :
    Calls Tryz.prog 51 #[.pointer (some ⟨q, 0, none⟩), .int .i64 n] w (WtT q (bs ++ ib n) S w) := by
  have HU := Lib.hid (Uint_calls h (zz n) (zz_lt hn) hb)
  have HX := Lib.hid (xor_zz hn)
  have HN := Lib.hid hn
  clear hn
  go_enter Tryz.func51, Tryz.ntmps51
  go_wp2_with fail
  rw [HX.out]
  refine HU.out.mono ?_
  rintro e w1 ⟨rfl, hr⟩
  have HR := Lib.hid hr
  clear hr
  go_wp2_with fail
  go_end0
  exact ⟨rfl, HR.out⟩
/-- A writer that was made since w0. -/
structure WtF (w0 : World) (q : Nat) (bs : List Int) (w : World) : Prop where
  ex : ∃ S, Wt w q bs S ∧ ∀ j ∈ S, w0.heap.size ≤ j
  u : Upd [] w0 w
theorem WtF.quiet {w0 : World} (h : WtF w0 q bs w) (hu : Upd [] w w') : WtF w0 q bs w' := by
  obtain ⟨S, h1, h2⟩ := h.ex
  exact ⟨⟨S, h1.upd hu (by simp), h2⟩, h.u.step hu⟩
theorem WtF.start (w : World) : WtF w w.heap.size [] (w.alloc (.cells #[.slice none 0 0] 74)) :=
  ⟨⟨[w.heap.size], ⟨.slice none 0 0, by simp [Value.ownBlock], Blk.new w [.slice none 0 0] 74, World.ownsRow_nil _ _ _ _, by simp [Value.ownBlock]⟩, by simp⟩, (Upd.refl [] w).alloc _⟩
theorem WtF.of {w0 : World} {S : List Nat} (h2 : ∀ j ∈ S, w0.heap.size ≤ j) (u : Upd [] w0 w) {e : Ending} {w' : World} {bs' : List Int} (h : WtT q bs' S w e w') : e = .returned (.tuple #[]) ∧ WtF w0 q bs' w' := by
  obtain ⟨he, S', h3, h4, h5⟩ := h
  refine ⟨he, ⟨S', h3, fun j hj => ?_⟩, u.fresh h4 (fun k hk => .inr (h2 k hk))⟩
  rcases h5 j hj with h | h
  · exact h2 j h
  · have := u.size; omega
theorem Int_f {w0 : World} (h : WtF w0 q bs w) (n : Int) (hn : IsI64 n) (hb : bs.length ≤ 70368744177664) :
    Calls Tryz.prog 51 #[.pointer (some ⟨q, 0, none⟩), .int .i64 n] w fun e w' => e = .returned (.tuple #[]) ∧ WtF w0 q (bs ++ ib n) w' := by
  obtain ⟨S, h1, h2⟩ := h.ex
  exact (Int_calls h1 n hn hb).mono fun e w' hr => WtF.of h2 h.u hr
theorem Int_f2 {w0 w1 : World} (h : WtF w0 q bs w1) (hu : Upd [] w1 w) (n : Int) (hn : IsI64 n) (hb : bs.length ≤ 70368744177664) :
    Calls Tryz.prog 51 #[.pointer (some ⟨q, 0, none⟩), .int .i64 n] w fun e w' => e = .returned (.tuple #[]) ∧ WtF w0 q (bs ++ ib n) w' ∧ ∀ (k : Nat) (c : List Value) (t : TypeId), w1.heap.size ≤ k → Blk w k c t → Blk w' k c t := by
  obtain ⟨S, h1, h2⟩ := h.ex
  refine (Int_calls (h1.upd hu (by simp)) n hn hb).mono fun e w' hr => ?_
  obtain ⟨he, hf⟩ := WtF.of h2 (h.u.step hu) hr
  obtain ⟨_, S', _, h4, _⟩ := hr
  exact ⟨he, hf, fun k c t hk hB => hB.upd h4 (fun hm => by have := h1.lt k hm; omega)⟩
/-- A copy of a slice of bytes: a new one. -/
def CloneT (n : Nat) (xs : List Int) (w : World) (e : Ending) (w' : World) : Prop :=
  ∃ a cap, e = .returned (.slice a n cap) ∧ OwnV w 5 1 (.slice a n cap) n (byts xs) w' ∧ Upd [] w w'
set_option maxRecDepth 100000 in
set_option maxHeartbeats 1000000 in
theorem Clone_calls {v : Value} {xs : List Int} (h : SL w 1 v xs.length (byts xs)) (hb : xs.length ≤ 70368744177664) : Calls Tryz.prog 39 #[v] w (CloneT xs.length xs w) := by
  obtain ⟨hl, a, cap, rfl, hc, hm, hnil, hcell⟩ := h
  have H : SL w 1 (.slice a xs.length cap) xs.length (byts xs) := ⟨hl, a, cap, rfl, hc, hm, hnil, hcell⟩
  have hnl := fun (w : World) (a : Option Addr) (n c : Nat) => Lib.run_eql_slice_nil (P := Tryz.prog) w 39 _ a n c 0 0 Tryz.underlying39
  cases a with
  | none =>
    have h0 : xs.length = 0 := by have := hnil rfl; omega
    have hx : xs = [] := List.eq_nil_of_length_eq_zero h0
    subst hx
    have hc0 : cap = 0 := hnil rfl
    subst hc0
    clear hl hcell H hnil h0
    go_enter Tryz.func39, Tryz.ntmps39
    go_wp2_with fail
    go_ret
    exact ⟨none, 0, rfl, OwnV.nil _ _ _ _, Upd.refl _ _⟩
  | some ad =>
    clear hl hcell hnil
    go_enter Tryz.func39, Tryz.ntmps39
    go_upto_region 3 with fail
    refine wp_region_lit ?_
    refine wpList_cutH 2 (fun K hK => ?_)
    simp only [List.take_succ_cons, List.take_zero]
    go_wp2_with fail
    refine Halt_.intro ?_; try simp only [List.drop_succ_cons, List.drop_zero]
    have g0 := owns_none (w := w) rfl 5
    have u0 := (Upd.refl [] w).alloc (.cells #[] 5)
    have H0 := H.upd u0 (by simp)
    have hs : (w.alloc (.cells #[] 5)).heap.size = w.heap.size + 1 := by simp
    generalize w.alloc (.cells #[] 5) = w0 at *
    refine wpList_appS rfl _ _ _ rfl 5 1 1 _ Tryz.underlying39 infoByte rfl (by decide) (.slice (some ⟨w.heap.size, 0, none⟩) 0 0) 0 [] rfl (owns_blk g0 rfl (by unfold maxLen; omega)) (.slice (some ad) xs.length cap) xs.length (byts xs) rfl H0 (byts_one _) (by unfold maxLen; omega) (by omega) ?_
    intro a1 cap1 w1 o1 u1 k1
    rw [Nat.zero_add, List.nil_append] at o1
    rw [Nat.zero_add] at k1 ⊢
    simp only [Act.put, List.setIfInBounds_toArray, List.set_cons_zero, List.set_cons_succ]
    have U1 : Upd [] w w1 := u0.fresh u1 (by simp [Value.ownBlock])
    go_wp2_with fail
    go_ret
    refine ⟨a1, cap1, rfl, ⟨o1, fun g hg => ?_⟩, U1⟩
    rcases k1 with k1 | k1 <;> rw [hg] at k1 <;> simp [Value.ownBlock] at k1 <;> omega
theorem Done_calls (h : Wt w q bs S) (hb : bs.length ≤ 70368744177664) : Calls Tryz.prog 43 #[.pointer (some ⟨q, 0, none⟩)] w (CloneT bs.length bs w) := by
  obtain ⟨sv, rfl, hB, hO, hne⟩ := h.ex
  have c0 := hB.cell (i := 0) rfl
  have HS := SL.of_owns hO
  go_enter Tryz.func43, Tryz.ntmps43
  go_wp2_with fail
  refine (Clone_calls HS hb).mono ?_
  rintro e w1 ⟨a, cap, rfl, ho, hu⟩
  go_wp2_with fail
  go_ret
  exact ⟨a, cap, rfl, ho, hu⟩
end
end Wire
end Go.Proofs.YtfkgpecglcjpkaaGreat
