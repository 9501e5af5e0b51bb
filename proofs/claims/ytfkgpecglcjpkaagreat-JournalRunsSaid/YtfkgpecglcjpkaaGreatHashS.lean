/- Walks through package hash: Sum, Bytes. Conditions: none. -/
import Derived.Test.YtfkgpecglcjpkaaGreatHashI
set_option linter.unusedVariables false
set_option linter.unusedSimpArgs false
set_option linter.unusedSectionVars false
open Go.RowKit Go.Shelf
namespace Go.Proofs.YtfkgpecglcjpkaaGreat
open L
attribute [local go_sem] Oper.semAt_some
namespace Hash
open Wire R14 R01
theorem KeepsFrom.of_upd {T : List Nat} {W W' : World} {B : Nat} (h : Upd T W W') (hT : ∀ k ∈ T, k < B ∨ ∀ o, W.heap[k]? = some o → o.isCells = true) : KeepsFrom B W W' :=
  ⟨h.size, fun k o hk h0 ho => (h.block k (Array.getElem?_eq_some_iff.1 h0).1 (fun hm => by
    rcases hT k hm with h1 | h1
    · omega
    · rw [h1 o h0] at ho; cases ho)).trans h0⟩
theorem ownFrom_upd {β : Type} {B : Nat} {w0 : World} {T : List Nat} (hB : w0.heap.size ≤ B) : OwnFrom B (fun (_ : β) W => Upd T w0 W) :=
  fun _ _ _ _ hs hg hr => hs.grown hg (fun k e => .inr (by have := (hr k e).1; omega))
theorem ownFrom_blk {β : Type} {B Bs : Nat} {c : β → List Value} {e : TypeId} (hB : Bs < B) : OwnFrom B (fun (s : β) W => Blk W Bs (c s) e) :=
  fun s A A' row hs hg hr => (hg.block Bs (Blk.lt hs) (fun e => by have := (hr Bs e.symm).1; omega)).trans hs
theorem Upd.putObj {T : List Nat} {w0 W : World} (h : Upd T w0 W) {l : Nat} (o : Obj) (hl : w0.heap.size ≤ l) : Upd T w0 (W.putObj l o) := h.grown (grownBy_putObj' W l o) (fun k e => .inr (by cases e; exact hl))
def m6 (x : Nat) : Nat := x % 18446744073709551616
theorem m6_lt (x : Nat) : m6 x < 18446744073709551616 := Nat.mod_lt _ (by omega)
theorem m6_id {l : List Nat} (h : ∀ x ∈ l, x < 18446744073709551616) : l.map m6 = l := by
  induction l with
  | nil => rfl
  | cons x l ih => rw [List.map_cons, ih (fun y hy => h y (List.mem_cons_of_mem _ hy)), show m6 x = x from Nat.mod_eq_of_lt (h x (by simp))]
section
variable {w : World}
set_option maxRecDepth 100000 in
set_option maxHeartbeats 4000000 in
theorem SumP_calls {v : Value} {l : List Int} (s : ByteArray) (hs : s.size ≤ 1000) (hv : SL w 1 v l.length (ints l)) (hl : l.length ≤ 70368744177664) :
    Calls Tryz.prog 58 #[.string s, v] w fun e w' => e = .returned (.int .u64 (sumN (labW s) s.size (l.map u6) : Nat)) ∧ Upd [] w w' := by
  obtain ⟨a, cap, rfl, q1, r1, hc⟩ := SL.form hv
  have HC := Lib.hid hc
  clear hv hc
  have hB0 : Blk (w.alloc (.cells #[.int .u64 0] 77)) w.heap.size [.int .u64 0] 77 := Blk.new w [.int .u64 0] 77
  have hu0 := (Upd.refl [] w).alloc (.cells #[.int .u64 0] 77)
  have hz0 : (w.alloc (.cells #[.int .u64 0] 77)).heap.size = w.heap.size + 1 := by simp
  have H0 := Lib.hid (And.intro hB0 hu0)
  refine (callsIn_wide (n := 9)).1 ?_
  refine callsIn_of_wp_marks Tryz.func58 rfl trivial ?_ rfl
  simp only [Tryz.ntmps58, List.size_toArray, List.length_cons, List.length_nil, Nat.reduceAdd, Nat.reduceSub, Array.replicate_succ, Array.replicate_zero, List.push_toArray, List.append_toArray, List.nil_append, List.cons_append]
  have hcv := run_lab (w.alloc (.cells #[.int .u64 0] 77)) s
  have hlab := lab_sl (w.alloc (.cells #[.int .u64 0] 77)) s hs
  have hlu := lab_upd (w.alloc (.cells #[.int .u64 0] 77)) s
  rw [hz0] at hcv hlab
  gi_wp2_with (refine ⟨trivial, ?_⟩; gi_at_call 57; refine (callsIn_wide.2 wordsOf_calls).mono ?_; rintro e w' ⟨rfl, rfl⟩)
  have hB2 := hB0.upd hlu (by simp)
  have hu2 := hu0.step hlu
  have hz2 : (Lib.bytesWorld (w.alloc (.cells #[.int .u64 0] 77)) 5 s).heap.size = w.heap.size + 2 := by rw [Lib.bytesWorld_size, hz0]
  generalize Lib.bytesWorld (w.alloc (.cells #[.int .u64 0] 77)) 5 s = w2 at *
  generalize grownCap (w.alloc (.cells #[.int .u64 0] 77)) s.size 0 5 = cp at *
  clear hcv hlu hu0 hB0 H0 hz0
  have hN := Blk.new w2 [.slice (some ⟨w.heap.size + 1, 0, none⟩) s.size cp] 39
  have hun := (Upd.refl [] w2).alloc (.cells #[.slice (some ⟨w.heap.size + 1, 0, none⟩) s.size cp] 39)
  have hB3 := hB2.upd hun (by simp)
  have hl3 := hlab.upd hun (by simp)
  have hu3 := hu2.step hun
  have hz3 : (w2.alloc (.cells #[.slice (some ⟨w.heap.size + 1, 0, none⟩) s.size cp] 39)).heap.size = w.heap.size + 3 := by simp [hz2]
  rw [hz2] at hN ⊢
  generalize w2.alloc (.cells #[.slice (some ⟨w.heap.size + 1, 0, none⟩) s.size cp] 39) = w3 at *
  clear hB2 hlab hu2 hun hz2 w2
  have hsz : (labB s).length = s.size := labB_length s
  rw [← hsz] at hl3
  have hwl := wds_length (labB s) (nw (labB s))
  have hlt := fun x hx => wds_lt (labB_u8 s) (n := nw (labB s)) (w := x) hx
  have HS := Lib.hid (show sumN (labW s) s.size (l.map u6) = mixN (mixL (mixN (mixN (mixL 0 ((wds (labB s) (nw (labB s))).map m6)) s.size) l.length) (l.map u6)) 0 by rw [m6_id hlt]; unfold sumN labW; rw [List.length_map])
  generalize hres : sumN (labW s) s.size (l.map u6) = res at *
  have HRES := Lib.hid hres
  clear hres
  refine wpIn_rangeFunc_ownG rfl (by omega) (gf := 70) (lb := #[.pointer (some ⟨w.heap.size + 2, 0, none⟩)]) rfl trivial (enters_of Tryz.func70 (by kernel_rfl) rfl)
    (words_stops _ (by omega) (w.heap.size + 2) [w.heap.size + 2, w.heap.size + 1] (.slice (some ⟨w.heap.size + 1, 0, none⟩) s.size cp) (labB s) (labB_u8 s) (by rw [labB_length]; omega) (by simp) (by intro b hb; simp [Value.ownBlock] at hb; simp; omega) w3 (by simp; omega) (hN.cell (i := 0) rfl) (by rw [← hsz]; exact hl3)) KS.trans (KS.put (by simp; omega)) (Below.refl _ _) (fun _ => rfl)
    (fun pre W => Blk W w.heap.size [.int .u64 ((mixL 0 (pre.map m6) : Nat) : Int)] 77 ∧ Upd [w.heap.size] w3 W) (fun _ _ _ => False)
    (OwnFrom.and (ownFrom_blk (by omega)) (ownFrom_upd (Nat.le_refl _))) (fun _ _ _ _ _ hs _ _ => hs) ⟨hB3, Upd.refl _ _⟩
    (fun x => { tmps := #[.string s, .slice a l.length cap, undef, undef, .int .u64 0, .pointer (some ⟨w.heap.size, 0, none⟩), .int .u64 ((m6 x : Nat) : Int), undef, undef, .string s, .slice (some ⟨w.heap.size + 1, 0, none⟩) s.size cp, .func (.func 70) #[] #[.pointer (some ⟨w.heap.size + 2, 0, none⟩)], .int .u64 ((m6 x : Nat) : Int), undef, undef, undef, undef, undef, undef, undef, undef, undef, undef, undef, undef, undef, undef, undef, undef, undef, undef, undef, undef, undef, undef, undef, undef, undef, undef], defers := [] }) ?assign ?body ?done ?stop
  case assign =>
    intro l x W K hK
    gi_wp2
    exact hK
  case body =>
    rintro l pre x W ⟨hB, hU⟩ _
    have c0 := hB.cell (i := 0) rfl
    have f0 := hB.free 0
    have hm := mixL_lt (pre.map m6) (s := 0) (by omega)
    have hx := m6_lt x
    have HT := Lib.hid (show mixL 0 ((pre ++ [x]).map m6) = mixN (mixL 0 (pre.map m6)) (m6 x) by rw [List.map_append, List.map_singleton, mixL_snoc])
    generalize mixL 0 (pre.map m6) = A at *
    generalize m6 x = X at *
    gi_wp2_with (refine ⟨trivial, ?_⟩; gi_at_call 71; refine (CallsIn.inRound l (callsIn_wide.2 (MixP_calls A X hm hx))).mono ?_; rintro e _ ⟨rfl, rfl⟩)
    have us := (Upd.refl [w.heap.size] W).set (p := ⟨w.heap.size, 0, none⟩) (.inl (by simp)) (.int .u64 ((mixN A X : Nat) : Int))
    refine ⟨KeepsFrom.of_upd us (by simp; omega), KS.of_upd us (by have := hU.size; simp; omega) (by simp), ?_, hU.trans us⟩
    rw [HT.out]
    exact hB.set 0 _
  case done =>
    rintro D xs W hD rfl ⟨hB, hU⟩ hK
    have c0 := hB.cell (i := 0) rfl
    have f0 := hB.free 0
    have hm0 := mixL_lt ((wds (labB s) (nw (labB s))).map m6) (s := 0) (by omega)
    generalize mixL 0 ((wds (labB s) (nw (labB s))).map m6) = A0 at *
    have HM1 := Lib.hid (show mixN A0 s.size < 18446744073709551616 from mixN_lt _ _)
    have HM2 := Lib.hid (show mixN (mixN A0 s.size) l.length < 18446744073709551616 from mixN_lt _ _)
    have hlz : s.size < 18446744073709551616 := by omega
    have hll : l.length < 18446744073709551616 := by omega
    have hls : (s.size : Int) < 18446744073709551616 := by omega
    have hll2 : (l.length : Int) < 18446744073709551616 := by omega
    have HWD := Lib.hid (And.intro hU (And.intro hK hu3))
    have HBB := Lib.hid hB
    clear hU hK hu3 hB hN hB3 hl3 hwl hlt
    gi_wp2_with (first | (refine ⟨trivial, ?_⟩; gi_at_call 71; with_reducible refine (callsIn_wide.2 (MixP_calls A0 s.size hm0 hlz)).mono ?_; rintro e _ ⟨rfl, rfl⟩) | (refine ⟨trivial, ?_⟩; gi_at_call 71; with_reducible refine (callsIn_wide.2 (MixP_calls _ l.length HM1.out hll)).mono ?_; rintro e _ ⟨rfl, rfl⟩))
    have hB1 := (HBB.out.set 0 (.int .u64 ((mixN A0 s.size : Nat) : Int))).set 0 (.int .u64 ((mixN (mixN A0 s.size) l.length : Nat) : Int))
    have hU1 : Upd [w.heap.size] W ((W.setCell ⟨w.heap.size, 0, none⟩ (.int .u64 ((mixN A0 s.size : Nat) : Int))).setCell ⟨w.heap.size, 0, none⟩ (.int .u64 ((mixN (mixN A0 s.size) l.length : Nat) : Int))) := ((Upd.refl _ W).set (.inl (by simp)) _).set (.inl (by simp)) _
    generalize (W.setCell ⟨w.heap.size, 0, none⟩ (.int .u64 ((mixN A0 s.size : Nat) : Int))).setCell ⟨w.heap.size, 0, none⟩ (.int .u64 ((mixN (mixN A0 s.size) l.length : Nat) : Int)) = W1 at *
    have hA1l := HM2.out
    generalize mixN (mixN A0 s.size) l.length = A1 at *
    clear c0 f0 HBB
    have HB1 := Lib.hid (And.intro hB1 hU1)
    clear hB1 hU1
    gi_loopw [28] (fun i wr => ∃ j : Nat, i = .int .i64 j ∧ j ≤ l.length ∧ Blk wr w.heap.size [.int .u64 ((mixL A1 ((l.map u6).take j) : Nat) : Int)] 77 ∧ Upd [w.heap.size] W wr) (fun i _ => l.length - (intOf i).toNat)
    case atStart => exact ⟨0, rfl, Nat.zero_le _, HB1.out⟩
    case round =>
      clear HB1
      obtain ⟨j, rfl, hj, hB, hU⟩ := hrel
      have c0 := hB.cell (i := 0) rfl
      have f0 := hB.free 0
      have HB := Lib.hid (And.intro hB hU)
      clear hB hU
      by_cases hlt : j < l.length
      · have hlt' : (j : Int) < l.length := by omega
        have hget : l[j]? = some l[j] := List.getElem?_eq_getElem hlt
        have HT := Lib.hid (take_mixL (s := A1) (show (l.map u6)[j]? = some (u6 l[j]) by rw [List.getElem?_map, hget]; rfl))
        obtain ⟨g, off, rfl, hcc⟩ := HC.out (by omega)
        have hgl := World.block_lt_of_cell? _ _ (hcc j _ (ints_get hget))
        have hd := HB.out.2.some (HWD.out.1.some (HWD.out.2.2.some (hcc j _ (ints_get hget)) (by simp)) (by simp; simp at hgl; omega)) (by simp; simp at hgl; omega)
        have hm := mixL_lt ((l.map u6).take j) hA1l
        have hx := u6_lt l[j]
        have HX := Lib.hid (u6_wrap l[j])
        generalize mixL A1 ((l.map u6).take j) = A at *
        generalize l[j] = B at *
        clear hcc hget hgl
        gi_wp2_with (refine ⟨trivial, ?_⟩; gi_at_call 71; rw [HX.out]; refine (callsIn_wide.2 (MixP_calls A (u6 B) hm hx)).mono ?_; rintro e _ ⟨rfl, rfl⟩)
        go_roundw
        case rel => exact ⟨j + 1, by go_num, by omega, by rw [HT.out]; exact HB.out.1.set 0 _, HB.out.2.set (.inl (by simp)) _⟩
        case measure => simp [intOf]; omega
      · have hjn : j = l.length := by omega
        subst hjn
        rw [List.take_of_length_le (by rw [List.length_map]; omega)] at c0
        have hm := mixL_lt (l.map u6) hA1l
        generalize mixL A1 (l.map u6) = A at *
        gi_wp2_with (refine ⟨trivial, ?_⟩; gi_at_call 71; refine (callsIn_wide.2 (MixP_calls A 0 hm (by omega))).mono ?_; rintro e _ ⟨rfl, rfl⟩)
        have hDl := (Array.getElem?_eq_some_iff.1 HWD.out.2.1).1
        have hKw := (HB.out.2.block D hDl (by simp; omega)).trans HWD.out.2.1
        refine ⟨by simp, .inl ⟨_, _, rfl, run_takeDeferred hKw, ?_⟩⟩
        refine ⟨_, results_tmp rfl _ _ _, ?_, ?_⟩
        · exact congrArg (fun n : Nat => Ending.returned (.int .u64 (n : Int))) (HRES.out.trans HS.out).symm
        exact Upd.putObj (HWD.out.2.2.fresh (HWD.out.1.trans HB.out.2) (fun k hk => .inr (by simp at hk; omega))) _ (by omega)
  case stop =>
    rintro D c pre W _ _ h _
    exact h.elim
theorem ownsRow_grown {W W' : World} {base : Nat} {e : TypeId} {k : Nat} {v : Value} {n : Nat} {xs : List Value} {row : Option Nat} (h : W.ownsRow base e k v n xs) (hg : W.grownBy W' row) (hr : ∀ r, row = some r → ∃ o : Obj, W.heap[r]? = some o ∧ o.isCells = false) : W'.ownsRow base e k v n xs := by
  refine ⟨h.1, ?_⟩
  rcases h.2 with h2 | ⟨g, cap, cur, rfl, hb, hgg, hrest⟩
  · exact .inl h2
  · refine .inr ⟨g, cap, cur, rfl, hb, ?_, hrest⟩
    rw [hg.block g (Array.getElem?_eq_some_iff.1 hgg).1 (fun e => ?_)]
    · exact hgg
    · obtain ⟨o, ho, hc⟩ := hr g e.symm
      rw [hgg] at ho
      cases ho
      cases hc
theorem owns_cells {W : World} {base : Nat} {e : TypeId} {k : Nat} {v : Value} {n : Nat} {xs : List Value} (h : W.ownsRow base e k v n xs) {g : Nat} (hv : v.ownBlock = some g) : ∀ o, W.heap[g]? = some o → o.isCells = true := by
  intro o ho
  rcases h.2 with ⟨rfl, _⟩ | ⟨g', cap, cur, rfl, hb, hgg, hrest⟩
  · simp [Value.ownBlock] at hv
  · simp only [Value.ownBlock, Option.some.injEq] at hv
    subst hv
    rw [hgg] at ho
    cases ho
    rfl
theorem nw_le (bs : List Int) : nw bs ≤ bs.length := by unfold nw; omega
/-- A box at block B that holds a slice of ints of one's own, its block A or new since the world w3. -/
def BoxI (A B : Nat) (n3 : Nat) (xs : List Int) (W : World) : Prop :=
  ∃ v, Blk W B [v] 22 ∧ W.ownsRow 0 3 1 v xs.length (ints xs) ∧ ∀ g, v.ownBlock = some g → g = A ∨ n3 ≤ g
set_option maxRecDepth 100000 in
set_option maxHeartbeats 4000000 in
theorem BytesP_calls {v : Value} {bs : List Int} (s : ByteArray) (hs : s.size ≤ 1000) (hv : SL w 1 v bs.length (byts bs)) (hu : ∀ x ∈ bs, IsU8 x) (hl : bs.length ≤ 1000000000) (hvl : ∀ b, v.ownBlock = some b → b < w.heap.size) :
    Calls Tryz.prog 42 #[.string s, v] w fun e w' => e = .returned (.int .u64 (bytesN (labW s) s.size bs : Nat)) ∧ Upd [] w w' := by
  obtain ⟨a, cap, rfl, q1, r1, hc⟩ := SL.form hv
  have HV := Lib.hid hv
  have hbi : (bs.length : Int) ≤ 1000000000 := by omega
  clear hv hc
  have HR := Lib.hid (show bytesN (labW s) s.size bs = sumN (labW s) s.size ((((wds bs (nw bs)).map m6).map sg ++ [(bs.length : Int)]).map u6) by
    rw [m6_id (fun x hx => wds_lt hu hx), List.map_append, u6_sgs (fun x hx => wds_lt hu hx), List.map_singleton, u6_nat (by omega)]; rfl)
  obtain ⟨N8, hN8⟩ : ∃ N8 : Nat, (bs.length : Int) / 8 + 2 = N8 := ⟨bs.length / 8 + 2, by omega⟩
  have hN9 : N8 ≤ 125000010 := by omega
  have HN8 := Lib.hid hN8
  clear hN8
  refine (callsIn_wide (n := 9)).1 ?_
  refine callsIn_of_wp_marks Tryz.func42 rfl trivial ?_ rfl
  simp only [Tryz.ntmps42, List.size_toArray, List.length_cons, List.length_nil, Nat.reduceAdd, Nat.reduceSub, Array.replicate_succ, Array.replicate_zero, List.push_toArray, List.append_toArray, List.nil_append, List.cons_append]
  gi_wp2_with (first | (refine ⟨trivial, ?_⟩; gi_at_call 57; refine (callsIn_wide.2 wordsOf_calls).mono ?_; rintro e w' ⟨rfl, rfl⟩) | (refine wpListIn_mk0 rfl _ _ _ rfl 3 1 8 _ Tryz.underlying22 infoInt rfl (by decide) _ _ _ _ N8 rfl rfl rfl HN8.out (by omega) (by omega) ?_))
  have hA := Blk.new w (rows N8 fun _ => [Value.int .i64 0]) 3
  have hu1 := (Upd.refl [] w).alloc (.cells (rows N8 fun _ => [Value.int .i64 0]).toArray 3)
  have hz1 : (w.alloc (.cells (rows N8 fun _ => [Value.int .i64 0]).toArray 3)).heap.size = w.heap.size + 1 := by simp
  generalize w.alloc (.cells (rows N8 fun _ => [Value.int .i64 0]).toArray 3) = w1 at *
  have hB := Blk.new w1 [.slice (some ⟨w.heap.size, 0, none⟩) 0 N8] 22
  have hu2 := hu1.alloc (.cells #[.slice (some ⟨w.heap.size, 0, none⟩) 0 N8] 22)
  have hA2 := hA.alloc (.cells #[.slice (some ⟨w.heap.size, 0, none⟩) 0 N8] 22)
  have hz2 : (w1.alloc (.cells #[.slice (some ⟨w.heap.size, 0, none⟩) 0 N8] 22)).heap.size = w.heap.size + 2 := by simp [hz1]
  rw [hz1] at hB
  generalize w1.alloc (.cells #[.slice (some ⟨w.heap.size, 0, none⟩) 0 N8] 22) = w2 at *
  have hC := Blk.new w2 [.slice a bs.length cap] 39
  have hu3 := hu2.alloc (.cells #[.slice a bs.length cap] 39)
  have hA3 := hA2.alloc (.cells #[.slice a bs.length cap] 39)
  have hB3 := hB.alloc (.cells #[.slice a bs.length cap] 39)
  have hz3 : (w2.alloc (.cells #[.slice a bs.length cap] 39)).heap.size = w.heap.size + 3 := by simp [hz2]
  rw [hz2] at hC
  generalize w2.alloc (.cells #[.slice a bs.length cap] 39) = w3 at *
  have hlen : (rows N8 fun _ => [Value.int .i64 0]).length = N8 * 1 := rows_length (k := 1) (fun _ => rfl) N8
  have hO3 : w3.ownsRow 0 3 1 (.slice (some ⟨w.heap.size, 0, none⟩) 0 N8) 0 [] := owns_empty hA3 hlen (by unfold maxLen; omega)
  clear hA hA2 hA3 hu1 hu2 hB hz1 hz2 hlen w1 w2
  have hN := nw_le bs
  refine wpIn_rangeFunc_ownG rfl (by omega) (gf := 70) (lb := #[.pointer (some ⟨w.heap.size + 2, 0, none⟩)]) rfl trivial (enters_of Tryz.func70 (by kernel_rfl) rfl)
    (words_stops _ (by omega) (w.heap.size + 2) ((w.heap.size + 2) :: (Value.slice a bs.length cap).ownBlock.toList) (.slice a bs.length cap) bs hu (by omega) (by simp) (by intro b hb; simp [hb]) w3 (by intro k hk; simp only [List.mem_cons, Option.mem_toList] at hk; rcases hk with rfl | hk; omega; have := hvl k hk; omega) (hC.cell (i := 0) rfl) (HV.out.upd hu3 (by simp))) KS.trans (KS.put (by intro k hk; simp only [List.mem_cons, Option.mem_toList] at hk; rcases hk with rfl | hk; omega; have := hvl k hk; omega)) (Below.refl _ _) (fun _ => rfl)
    (fun pre W => BoxI w.heap.size (w.heap.size + 1) (w.heap.size + 3) ((pre.map m6).map sg) W ∧ pre.length ≤ nw bs ∧ Upd [w.heap.size, w.heap.size + 1] w3 W) (fun _ _ _ => False)
    (OwnFrom.and (fun s A A' row h hg hr => by
      obtain ⟨v, h1, h2, h3⟩ := h
      refine ⟨v, (hg.block _ h1.lt (fun e => by have := (hr _ e.symm).1; omega)).trans h1, ownsRow_grown h2 hg (fun r e => (hr r e).2), h3⟩) (OwnFrom.and (ownFrom_pure _ _) (ownFrom_upd (Nat.le_refl _)))) (fun _ _ _ _ _ hs _ _ => hs) ⟨⟨_, hB3, hO3, by simp [Value.ownBlock]⟩, Nat.zero_le _, Upd.refl _ _⟩
    (fun x => { tmps := #[.string s, .slice a bs.length cap, undef, undef, .int .u64 0, .pointer (some ⟨w.heap.size + 1, 0, none⟩), .int .u64 ((m6 x : Nat) : Int), .slice a bs.length cap, .int .i64 bs.length, .int .i64 (bs.length / 8), .int .i64 (bs.length / 8 + 2), .slice (some ⟨w.heap.size, 0, none⟩) 0 N8, .slice a bs.length cap, .func (.func 70) #[] #[.pointer (some ⟨w.heap.size + 2, 0, none⟩)], .int .u64 ((m6 x : Nat) : Int), undef, undef, undef, undef, undef, undef, undef, undef, undef, undef, undef, undef], defers := [] }) ?assign ?body ?done ?stop
  case assign =>
    intro l x W K hK
    gi_wp2
    exact hK
  case body => as_aux_lemma =>
    rintro l pre x W ⟨⟨v, hB, hO, hv⟩, hlp, hU⟩ hpl
    have c0 := hB.cell (i := 0) rfl
    have hT : ((pre ++ [x]).map m6).map sg = (pre.map m6).map sg ++ [sg (m6 x)] := by simp
    have HT := Lib.hid hT
    have hsg : wrap64 ((m6 x : Nat) : Int) = sg (m6 x) := rfl
    have HSG := Lib.hid hsg
    have hlen : ((pre.map m6).map sg).length = pre.length := by simp
    have HL := Lib.hid hlen
    rw [hlen] at hO
    obtain ⟨av, cv, rfl, _⟩ := (SL.of_owns hO).val
    have HH := Lib.hid (And.intro hB (And.intro hO (And.intro hv hU)))
    clear hT hsg hlen hB hO hv hU
    generalize (pre.map m6).map sg = ys at *
    generalize m6 x = X at *
    gi_wp2_with (refine wpListIn_push rfl rfl _ _ _ _ rfl rfl rfl 3 1 8 _ Tryz.underlying22 infoInt rfl (by decide) (by decide) (.int .i64 _) [.int .i64 _] rfl rfl rfl (ints_one [_]) _ _ _ HH.out.2.1 rfl rfl (by unfold maxLen; omega) (by omega) ?_; intro g1 cap1 w4 o4 u4 k4; have hB4 := HH.out.1.upd u4 (by simp only [Option.mem_toList]; intro h; have := HH.out.2.2.1 _ h; omega); have c4 := hB4.cell (i := 0) rfl; have f4 := hB4.free 0)
    have us := (Upd.refl [w.heap.size + 1] w4).set (p := ⟨w.heap.size + 1, 0, none⟩) (.inl (by simp)) (.slice (some ⟨g1, 0, none⟩) (pre.length + 1) cap1)
    have hg1 : g1 = w.heap.size ∨ w.heap.size + 3 ≤ g1 := by
      rcases k4 with k4 | k4
      · exact HH.out.2.2.1 _ k4
      · have := HH.out.2.2.2.size; omega
    have hzz := HH.out.2.2.2.size
    have uu : Upd ((w.heap.size + 1) :: (Value.slice av pre.length cv).ownBlock.toList) W (w4.setCell ⟨w.heap.size + 1, 0, none⟩ (.slice (some ⟨g1, 0, none⟩) (pre.length + 1) cap1)) :=
      (u4.wide (fun k hk => .inl (List.mem_cons_of_mem _ hk))).trans (us.wide (by simp))
    refine ⟨KeepsFrom.of_upd uu ?_, KS.of_upd uu ?_ ?_, ⟨.slice (some ⟨g1, 0, none⟩) (pre.length + 1) cap1, hB4.set 0 _, ?_, ?_⟩, by rw [List.length_append, List.length_singleton]; exact hpl, ?_⟩
    · intro k hk
      simp only [List.mem_cons, Option.mem_toList] at hk
      rcases hk with rfl | hk
      · left; omega
      · exact .inr (owns_cells HH.out.2.1 hk)
    · intro k hk
      simp only [List.mem_cons, Option.mem_toList] at hk
      rcases hk with rfl | hk
      · omega
      · have := hvl k hk; omega
    · intro k hk hm
      simp only [List.mem_cons, Option.mem_toList] at hk hm
      have hk2 : k = w.heap.size + 2 ∨ k < w.heap.size := by
        rcases hk with hk | hk
        · exact .inl hk
        · exact .inr (hvl k hk)
      rcases hm with hm | hm
      · omega
      · have := HH.out.2.2.1 _ hm; omega
    · rw [HT.out, List.length_append, List.length_singleton, HL.out]
      have o5 := ownsRow_updL o4 us (by simp [Value.ownBlock]; omega)
      simpa [ints, sg] using o5
    · intro g hg
      simp only [Value.ownBlock, Option.some.injEq] at hg
      omega
    · refine HH.out.2.2.2.fresh uu ?_
      intro k hk
      simp only [List.mem_cons, Option.mem_toList] at hk
      rcases hk with rfl | hk
      · left; simp
      · rcases HH.out.2.2.1 _ hk with h | h
        · left; simp [h]
        · right; omega
  case done => as_aux_lemma =>
    rintro D xs W hD rfl ⟨⟨v, hB, hO, hv⟩, hlp, hU⟩ hK
    have c0 := hB.cell (i := 0) rfl
    have hlen : (((wds bs (nw bs)).map m6).map sg).length = nw bs := by simp [wds_length]
    have HL := Lib.hid hlen
    obtain ⟨av, cv, rfl, _⟩ := (SL.of_owns hO).val
    have HH := Lib.hid (And.intro hB (And.intro hO (And.intro hv (And.intro hU hK))))
    clear hlen hB hO hv hU hK
    generalize ((wds bs (nw bs)).map m6).map sg = ys at *
    have hn1 : nw bs ≤ 1000000000 := by omega
    rw [HL.out] at c0
    gi_wp2_with (first | (refine wpListIn_push rfl rfl _ _ _ _ rfl rfl rfl 3 1 8 _ Tryz.underlying22 infoInt rfl (by decide) (by decide) (.int .i64 _) [.int .i64 _] rfl rfl rfl (ints_one [_]) _ _ _ (by have := HH.out.2.1; rw [HL.out] at this; exact this) rfl rfl (by unfold maxLen; omega) (by omega) ?_; intro g1 cap1 w4 o4 u4 k4; have H4 := Lib.hid (And.intro o4 u4); clear o4 u4) | (refine ⟨trivial, ?_⟩; gi_at_call 58; refine (callsIn_wide.2 (SumP_calls s hs (l := ys ++ [(bs.length : Int)]) (by have h := SL.of_owns H4.out.1; rw [List.length_append, HL.out, ints_append]; exact h) (by rw [List.length_append, HL.out, List.length_singleton]; omega))).mono ?_; rintro e w5 ⟨rfl, u5⟩))
    have hDl := (Array.getElem?_eq_some_iff.1 HH.out.2.2.2.2).1
    have hKw : w5.heap[D]? = some (.deferred (some [])) := by
      rw [u5.block D (by have := H4.out.2.size; omega) (by simp)]
      refine (H4.out.2.block D hDl ?_).trans HH.out.2.2.2.2
      intro hm
      simp only [Option.mem_toList] at hm
      have := owns_cells HH.out.2.1 (by rw [HL.out]; exact hm) _ HH.out.2.2.2.2
      cases this
    refine ⟨by simp, .inl ⟨_, _, rfl, run_takeDeferred hKw, ?_⟩⟩
    have hr := HR.out.symm
    rw [List.map_append, List.map_singleton] at hr
    refine ⟨_, results_tmp rfl _ _ _, ?_, ?_⟩
    · exact congrArg (fun n : Nat => Ending.returned (.int .u64 (n : Int))) hr
    · refine Upd.putObj (Upd.step ?_ u5) _ (by omega)
      refine (hu3.fresh HH.out.2.2.2.1 (fun k hk => .inr (by simp at hk; omega))).fresh H4.out.2 (fun k hk => .inr ?_)
      simp only [Option.mem_toList] at hk
      have := HH.out.2.2.1 k (by rw [HL.out]; exact hk)
      omega
  case stop =>
    rintro D c pre W _ _ h _
    exact h.elim
end
end Hash
end Go.Proofs.YtfkgpecglcjpkaaGreat
