/- Walks through package trim: numbers, list, text. Conditions: none. -/
import Derived.Test.YtnmfihgdedifoaaTrimN
import Derived.Lib.AppendStr
set_option linter.unusedVariables false
set_option linter.unusedSimpArgs false
set_option linter.unusedSectionVars false
open Go.RowKit
namespace Go.Proofs.Ytnmfihgdedifoaa
open L R01
namespace Trim
theorem infoByte : (Try.prog.info? 5).map (fun i => (i.zero, i.size, i.bytes)) = some (some (.int .u8 0), 1, 1) := by kernel_rfl
/-- Bytes as cells. -/
def bcs (ys : List UInt8) : List Value := ys.map fun b => .int .u8 b.toNat
theorem bcs_length (ys : List UInt8) : (bcs ys).length = ys.length := by simp [bcs]
theorem bcs_append (xs ys : List UInt8) : bcs (xs ++ ys) = bcs xs ++ bcs ys := by simp [bcs]
/-- A number without its sign. -/
def u64 (x : Int) : Nat := (x % 18446744073709551616).toNat
/-- The byte with a number. -/
def byteAt (x : Int) (j : Nat) : UInt8 := UInt8.ofNat (u64 x / 2 ^ (8 * j) % 256)
theorem wrap_u64 (x : Int) : IntKind.u64.wrap x = (u64 x : Int) := by
  rw [IntKind.wrap_u64]
  unfold u64
  have h0 : 0 ≤ x % 18446744073709551616 := Int.emod_nonneg _ (by decide)
  exact (Int.toNat_of_nonneg h0).symm
theorem byte_val (x : Int) (j : Nat) : [Value.int .u8 (IntKind.u64.wrap x / 2 ^ (8 * j) % 256)] = bcs [byteAt x j] := by
  have e : (IntKind.u64.wrap x / 2 ^ (8 * j) % 256 : Int) = ((u64 x / 2 ^ (8 * j) % 256 : Nat) : Int) := by
    rw [wrap_u64]; generalize u64 x = n; generalize 8 * j = m; simp
  rw [e]
  simp only [bcs, List.map_cons, List.map_nil, byteAt]
  rw [UInt8.toNat_ofNat']
  congr 3
  omega
theorem byte_val' (x : Int) (j : Nat) : (Value.int .u8 (IntKind.u64.wrap x / 2 ^ (8 * j) % 256)).cells = (bcs [byteAt x j]).toArray := by rw [← byte_val]; rfl
/-- The eight bytes of a number. -/
def n8 (x : Int) : List UInt8 := (List.range 8).map (byteAt x)
def n8s (l : List Int) : List UInt8 := l.flatMap n8
theorem n8_length (x : Int) : (n8 x).length = 8 := by simp [n8]
theorem n8s_length : ∀ (l : List Int), (n8s l).length = 8 * l.length
  | [] => rfl
  | x :: l => by unfold n8s; rw [List.flatMap_cons, List.length_append, n8_length, List.length_cons]; have := n8s_length l; unfold n8s at this; omega
theorem n8s_append (l m : List Int) : n8s (l ++ m) = n8s l ++ n8s m := by simp [n8s]
theorem n8s_take {l : List Int} {k : Nat} {x : Int} (h : l[k]? = some x) : n8s (l.take (k + 1)) = n8s (l.take k) ++ n8 x := by
  rw [List.take_add_one, h, n8s_append]; simp [n8s]
/-- Blocks of the types that are no buffers. -/
abbrev ES : List TypeId := [3, 88, 56, 82, 30, 91]
/-- A world in which only buffers changed. -/
def KB (w w' : World) : Prop := ∃ T, Off w T ES ∧ Upd T w w'
theorem KB.refl (w : World) : KB w w := ⟨[], (fun b hb => by simp at hb), Upd.refl _ _⟩
theorem KB.ext {w w' : World} (u : Upd [] w w') : KB w w' := ⟨[], (fun b hb => by simp at hb), u⟩
theorem KB.trans {a b c : World} (h : KB a b) (k : KB b c) : KB a c := by
  obtain ⟨T, hT, u⟩ := h
  obtain ⟨S, hS, v⟩ := k
  refine ⟨T ++ S.filter (fun x => decide (x < a.heap.size)), fun x hx => ?_, ?_⟩
  · rcases List.mem_append.1 hx with hx | hx
    · exact hT x hx
    · obtain ⟨hx, hl⟩ := List.mem_filter.1 hx
      have hl : x < a.heap.size := by simpa using hl
      by_cases hm : x ∈ T
      · exact hT x hm
      · obtain ⟨e, ⟨c', q, h1⟩, h2⟩ := hS x hx
        rw [u.block x hl hm] at h1
        exact ⟨e, ⟨c', q, h1⟩, h2⟩
  · have u' : Upd (T ++ S.filter (fun x => decide (x < a.heap.size))) a b := ⟨u.os, u.tape, u.output, u.size, fun k h1 h2 => u.block k h1 (fun h => h2 (List.mem_append.2 (.inl h)))⟩
    refine u'.fresh v (fun k hk => ?_)
    by_cases hl : k < a.heap.size
    · exact .inl (List.mem_append.2 (.inr (List.mem_filter.2 ⟨hk, by simpa using hl⟩)))
    · exact .inr (by omega)
theorem KB.row {w w' : World} {v : Value} {xs : List Int} (k : KB w w') (h : RowI w v xs) : RowI w' v xs := by
  obtain ⟨T, hT, u⟩ := k
  exact h.kd hT (by simp) u
theorem KB.stF {w w' : World} {s : StepD} {vp vl vh : Value} (k : KB w w') (h : StF w s vp vl vh) : StF w' s vp vl vh := by
  obtain ⟨T, hT, u⟩ := k
  exact h.kd hT (by simp) u
theorem KB.blk {w w' : World} {g : Nat} {cs : List Value} {e : TypeId} (k : KB w w') (h : Blk w g cs e) (he : e ∈ ES) : Blk w' g cs e := by
  obtain ⟨T, hT, u⟩ := k
  refine h.upd u (fun hg => ?_)
  obtain ⟨e', h1, h2⟩ := hT _ hg
  exact h2 (h1.inj (blk_kind h) ▸ he)
/-- A buffer of one's own. -/
def Buf (w0 : World) (v : Value) (ys : List UInt8) (w : World) : Prop := OwnV w0 5 1 v ys.length (bcs ys) w ∧ Upd [] w0 w
theorem Buf.nil (w : World) : Buf w (.slice none 0 0) [] w := ⟨OwnV.nil _ _ _ _, Upd.refl _ _⟩
theorem Buf.ext {w0 w w' : World} {v : Value} {ys : List UInt8} (h : Buf w0 v ys w) (u : Upd [] w w') : Buf w0 v ys w' := ⟨h.1.upd u (by simp), h.2.step u⟩
theorem Buf.step {w0 w w' : World} {v v' : Value} {ys zs : List UInt8} (h : Buf w0 v ys w) (o : w'.ownsRow 0 5 1 v' zs.length (bcs zs)) (u : Upd v.ownBlock.toList w w') (hk : ∀ g, v'.ownBlock = some g → v.ownBlock = some g ∨ w.heap.size ≤ g) : Buf w0 v' zs w' ∧ KB w w' :=
  ⟨⟨⟨o, fun g hg => by
      rcases hk g hg with h1 | h1
      · exact h.1.fresh g h1
      · have := h.2.size; omega⟩, h.2.fresh u (fun k hk => .inr (h.1.fresh k (by simpa using hk)))⟩, ⟨_, off_row h.1.row (by decide), u⟩⟩
section
variable {w0 w : World}
set_option maxRecDepth 100000 in
set_option maxHeartbeats 4000000 in
theorem nums_calls {v vl : Value} {ys : List UInt8} {l : List Int} (h : Buf w0 v ys w) (hl : RowI w vl l) (hx : ∀ x ∈ l, IsI64 x) (hn : ys.length + 8 * l.length ≤ 1000000000) :
    Calls Try.prog 58 #[v, vl] w fun e w' => ∃ v', e = .returned v' ∧ Buf w0 v' (ys ++ n8s l) w' ∧ KB w w' := by
  obtain ⟨a, cap, rfl, q, r, hc⟩ := hl.cells
  have HX := Lib.hid (And.intro hx hl)
  have HB := Lib.hid h
  clear hx hl hc h
  go_enter Try.func58, Try.ntmps58
  go_wp2_with fail
  go_loopw [0, 10] (fun b i wr => ∃ k : Nat, i = .int .i64 k ∧ k ≤ l.length ∧ Buf w0 b (ys ++ n8s (l.take k)) wr ∧ KB w wr) (fun _ i _ => l.length - (intOf i).toNat)
  case atStart => exact ⟨0, rfl, Nat.zero_le _, by simpa [n8s] using HB.out, KB.refl _⟩
  case round =>
    obtain ⟨wo, rfl⟩ : ∃ wo : World, wo = wr := ⟨_, rfl⟩
    obtain ⟨k, rfl, hk, hb, hkb⟩ := hrel
    have HK := Lib.hid (And.intro hb hkb)
    clear hb hkb
    by_cases hlt : k < l.length
    · have hki : (k : Int) < l.length := by omega
      have hg := List.getElem?_eq_getElem hlt
      obtain ⟨a', c', he, _, _, hcell⟩ := (HK.out.2.row HX.out.2).cells
      cases he
      obtain ⟨g, rfl, c0⟩ := hcell k _ hg
      have HG := Lib.hid (And.intro hg (HX.out.1 _ (List.getElem_mem hlt)))
      generalize l[k] = x at *
      clear hg hcell
      go_wp2_with fail
      go_loopw [0, 7] (fun b i wi => ∃ j : Nat, i = .int .i64 (8 * j : Nat) ∧ j ≤ 8 ∧ Buf w0 b (ys ++ n8s (l.take k) ++ (List.range j).map (byteAt x)) wi ∧ KB w wi) (fun _ i _ => 64 - (intOf i).toNat)
      case atStart => exact ⟨0, rfl, by omega, by simpa using HK.out.1, HK.out.2⟩
      case round =>
        obtain ⟨wi, rfl⟩ : ∃ wi : World, wi = wr := ⟨_, rfl⟩
        obtain ⟨j, rfl, hj, hb, hkb⟩ := hrel
        have HJ := Lib.hid (And.intro hb hkb)
        have hlen : (ys ++ n8s (l.take k) ++ (List.range j).map (byteAt x)).length ≤ 1000000000 := by
          rw [List.length_append, List.length_append, n8s_length, List.length_map, List.length_range, List.length_take]; omega
        clear hb hkb
        by_cases hlj : j < 8
        · have hkj : ((8 * j : Nat) : Int) < 64 := by omega
          have hkk : ¬ ((8 * j : Nat) : Int) < 0 := by omega
          generalize hzs : ys ++ n8s (l.take k) ++ (List.range j).map (byteAt x) = zs at *
          have HZ := Lib.hid hzs
          clear hzs
          go_wp2_with (refine wpList_push rfl rfl _ _ _ _ rfl rfl rfl 5 1 1 _ Try.underlying103 infoByte rfl (by decide) (by decide) _ (bcs [byteAt x j]) rfl (byte_val' x j) (by simp [bcs]) (by simp [bcs, Value.oneCell']) _ _ _ HJ.out.1.1.row rfl rfl (by unfold maxLen; omega) (by omega) ?_; intro g7 c7 w7 o7 u7 k7)
          have hS := HJ.out.1.step (zs := zs ++ [byteAt x j]) (by rw [List.length_append, List.length_singleton, bcs_append]; exact o7) u7 (fun g hg => by simp only [Value.ownBlock, Option.some.injEq] at hg; subst hg; exact k7)
          refine ⟨⟨j + 1, by go_num, by omega, ?_, HJ.out.2.trans hS.2⟩, by simp [intOf]; omega⟩
          rw [List.range_succ, List.map_append, ← List.append_assoc, HZ.out]
          exact hS.1
        · have hkj : ¬ ((8 * j : Nat) : Int) < 64 := by omega
          have hj8 : j = 8 := by omega
          have HF := Lib.hid (show Buf w0 u0 (ys ++ n8s (l.take (k + 1))) wi by
            rw [n8s_take HG.out.1, ← List.append_assoc]
            have := HJ.out.1
            rw [hj8] at this
            exact this)
          clear hj8 hlen hlj
          go_wp2_with fail
          exact ⟨⟨k + 1, by go_num, by omega, HF.out, HJ.out.2⟩, by simp [intOf]; omega⟩
    · have hki : ¬ (k : Int) < l.length := by omega
      have HF := Lib.hid (show Buf w0 u0 (ys ++ n8s l) wo by
        have := HK.out.1
        rw [List.take_of_length_le (by omega)] at this
        exact this)
      clear hlt
      go_wp2_with fail
      go_ret
      exact ⟨_, rfl, HF.out, HK.out.2⟩
/-- A list of numbers. -/
def lsE (l : List Int) : List UInt8 := n8 l.length ++ n8s l
/-- A text. -/
def txE (s : ByteArray) : List UInt8 := n8 s.size ++ s.data.toList
theorem lsE_length (l : List Int) : (lsE l).length = 8 + 8 * l.length := by unfold lsE; rw [List.length_append, n8_length, n8s_length]
theorem txE_length (s : ByteArray) : (txE s).length = 8 + s.size := by unfold txE; rw [List.length_append, n8_length]; rfl
theorem n8s_one (x : Int) : n8s [x] = n8 x := by simp [n8s]
theorem strCells_bcs (s : ByteArray) : Lib.strCells s = bcs s.data.toList := rfl
theorem row_hi {w : World} {base : Nat} {e : TypeId} {size : Nat} {v : Value} {n : Nat} {xs : List Value} (h : w.ownsRow 0 e size v n xs) (hf : ∀ g, v.ownBlock = some g → base ≤ g) : w.ownsRow base e size v n xs := by
  refine ⟨h.1, ?_⟩
  rcases h.2 with hw | ⟨g, cap, cur, rfl, _, hg, hr⟩
  · exact .inl hw
  · exact .inr ⟨g, cap, cur, rfl, hf g rfl, hg, hr⟩
theorem row_lo {w : World} {base : Nat} {e : TypeId} {size : Nat} {v : Value} {n : Nat} {xs : List Value} (h : w.ownsRow base e size v n xs) : w.ownsRow 0 e size v n xs ∧ ∀ g, v.ownBlock = some g → base ≤ g := by
  refine ⟨⟨h.1, ?_⟩, fun g hg => ?_⟩
  · rcases h.2 with hw | ⟨g, cap, cur, rfl, hb, hg, hr⟩
    · exact .inl hw
    · exact .inr ⟨g, cap, cur, rfl, Nat.zero_le _, hg, hr⟩
  · rcases h.2 with ⟨rfl, _⟩ | ⟨b, cap, cur, rfl, hb, _⟩
    · simp [Value.ownBlock] at hg
    · simp only [Value.ownBlock, Option.some.injEq] at hg; omega
/-- A number in a block of its own is handed on. -/
theorem num1 {v : Value} {ys : List UInt8} {n : Int} (h : Buf w0 v ys w) (hx : IsI64 n) (hn : ys.length + 8 ≤ 1000000000) :
    Calls Try.prog 58 #[v, .slice (some ⟨w.heap.size, 0, none⟩) 1 1] (w.alloc (.cells #[.int .i64 n] 3)) fun e w' => ∃ v', e = .returned v' ∧ Buf w0 v' (ys ++ n8 n) w' ∧ KB w w' := by
  have u := (Upd.refl [] w).alloc (.cells #[.int .i64 n] 3)
  have h2 := nums_calls (l := [n]) (h.ext u) (rowI_blk (xs := [n]) (Blk.new w [.int .i64 n] 3) (by simp)) (by simpa using hx) (by simpa using hn)
  refine h2.mono ?_
  rintro e w' ⟨v', rfl, hb, hk⟩
  rw [n8s_one] at hb
  exact ⟨v', rfl, hb, (KB.ext u).trans hk⟩
set_option maxHeartbeats 4000000 in
theorem list_calls {v vl : Value} {ys : List UInt8} {l : List Int} (h : Buf w0 v ys w) (hl : RowI w vl l) (hx : ∀ x ∈ l, IsI64 x) (hn : ys.length + 8 + 8 * l.length ≤ 1000000000) :
    Calls Try.prog 59 #[v, vl] w fun e w' => ∃ v', e = .returned v' ∧ Buf w0 v' (ys ++ lsE l) w' ∧ KB w w' := by
  obtain ⟨a, cap, rfl, q, r, _⟩ := hl.cells
  have H1 := Lib.hid (num1 (n := (l.length : Int)) h (by unfold IsI64; omega) (by omega))
  have H2 := Lib.hid (fun (w' : World) (v' : Value) (hb : Buf w0 v' (ys ++ n8 l.length) w') (hk : KB w w') => nums_calls hb (hk.row hl) hx (by rw [List.length_append, n8_length]; omega))
  clear h hl hx hn
  go_enter Try.func59, Try.ntmps59
  go_wp2_with (first | (go_at_call 58; (with_reducible refine H1.out.mono ?_); rintro e w1 ⟨v1, rfl, hb1, hk1⟩) | (go_at_call 58; (with_reducible refine (H2.out _ _ hb1 hk1).mono ?_); rintro e w2 ⟨v2, rfl, hb2, hk2⟩))
  go_ret
  exact ⟨_, rfl, by unfold lsE; rw [← List.append_assoc]; exact hb2, hk1.trans hk2⟩
set_option maxHeartbeats 4000000 in
theorem text_calls {v : Value} {ys : List UInt8} {s : ByteArray} (h : Buf w0 v ys w) (hs : s.size ≤ 1000000) (hn : ys.length + 8 + s.size ≤ 1000000000) :
    Calls Try.prog 60 #[v, .string s] w fun e w' => ∃ v', e = .returned v' ∧ Buf w0 v' (ys ++ txE s) w' ∧ KB w w' := by
  have H1 := Lib.hid (num1 (n := (s.size : Int)) h (by unfold IsI64; omega) (by omega))
  obtain ⟨ib, hib, hz, hsz, hby⟩ := info_of infoByte
  have HI := Lib.hid (And.intro hib (And.intro hz (And.intro hsz hby)))
  clear h hib hz hsz hby
  go_enter Try.func60, Try.ntmps60
  go_wp2_with (first | (go_at_call 58; (with_reducible refine H1.out.mono ?_); rintro e w1 ⟨v1, rfl, hb1, hk1⟩) | (refine Lib.wpList_append_own_string _ rfl _ _ _ _ rfl w0.heap.size 5 ib Try.underlying103 Try.underlying9 HI.out.1 HI.out.2.1 HI.out.2.2.1 HI.out.2.2.2 v1 _ _ rfl (row_hi hb1.1.row hb1.1.fresh) s rfl (by rw [List.length_append, n8_length]; unfold maxLen; omega) (by rw [List.length_append, n8_length]; omega) hb1.2.size ?_; intro v2 w2 o2 g2 _))
  go_ret
  have hlo := row_lo o2
  have hB : Buf w0 v2 (ys ++ txE s) w2 := by
    refine ⟨⟨?_, hlo.2⟩, hb1.2.grown g2 (fun k hk => .inr (hb1.1.fresh k hk))⟩
    unfold txE
    rw [← List.append_assoc, List.length_append, bcs_append, ← strCells_bcs]
    exact hlo.1
  exact ⟨_, rfl, hB, hk1.trans ⟨_, off_row hb1.1.row (by decide), (Upd.refl _ w1).grown g2 (fun k hk => .inl (by rw [hk]; simp))⟩⟩
end
end Trim
end Go.Proofs.Ytnmfihgdedifoaa
