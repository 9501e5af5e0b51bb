/- Walks through package journal: the iterator over records, Scan. Conditions: none. -/
import Derived.Test.YtfkgpecglcjpkaaGreatJourB
import Derived.Test.YtfkgpecglcjpkaaGreatRangeQ
set_option linter.unusedVariables false
set_option linter.unusedSimpArgs false
set_option linter.unusedSectionVars false
open Go.RowKit Go.Shelf
namespace Go.Proofs.YtfkgpecglcjpkaaGreat
open L
attribute [local go_sem] Oper.semAt_some
namespace Jour
open Wire Hash R01
attribute [-go_sem] sliced
theorem byts_drop' (l : List Int) (n : Nat) : (byts l).drop n = byts (l.drop n) := by simp [byts, List.map_drop]
structure Rc where
  a : Option Addr
  cap : Nat
  en : Int
  tx : List Int
def Rc.val (x : Rc) : Value := .slice x.a x.tx.length x.cap
def recs (l : List Rc) : List (List Int) := l.map Rc.tx
theorem recs_snoc (l : List Rc) (x : Rc) : recs (l ++ [x]) = recs l ++ [x.tx] := by simp [recs]
theorem recs_length (l : List Rc) : (recs l).length = l.length := by simp [recs]
def Adm (n : Nat) (pre : List Rc) (x : Rc) (W : World) : Prop := W.ownsRow 0 5 1 x.val x.tx.length (byts x.tx) ∧ (∀ g, x.val.ownBlock = some g → n ≤ g) ∧ pre.length ≤ 100000000
def lastEn (l : List Rc) : Int := (l.getLast?.map Rc.en).getD 0
theorem lastEn_snoc (l : List Rc) (x : Rc) : lastEn (l ++ [x]) = x.en := by simp [lastEn]
def EndS (b : List Int) (xs : List Rc) : Prop := Scn b (recs xs) ∧ lastEn xs = ((cat 0 (recs xs)).length : Nat)
/-- The blocks of T lie as they lay, and the heap has not shrunk. -/
def KZ (T : List Nat) (A B : World) : Prop := KS T A B ∧ A.heap.size ≤ B.heap.size
theorem KZ.trans {T : List Nat} {A B C : World} (h : KZ T A B) (k : KZ T B C) : KZ T A C := ⟨h.1.trans k.1, Nat.le_trans h.2 k.2⟩
theorem KZ.put {T : List Nat} {w : World} (hT : ∀ k ∈ T, k < w.heap.size) (W : World) (l : Nat) (o o' : Obj) (hl : w.heap.size ≤ l) (h : W.heap[l]? = some o) (h1 : o.isCells = false) (h2 : o.isWalk = false) : KZ T W (W.putObj l o') :=
  ⟨KS.put hT W l o o' hl h h1 h2, (grownBy_putObj' W l o').size⟩
theorem rec_calls {w : World} {a : Option Addr} {len cap : Nat} : Calls Tryz.prog 44 #[.slice a len cap] w fun e w' => e = .returned (.func (.func 59) #[] #[.pointer (some ⟨w.heap.size, 0, none⟩)]) ∧ w' = w.alloc (.cells #[.slice a len cap] 39) := by
  go_enter Tryz.func44, Tryz.ntmps44
  go_wp2_with fail
  go_ret
  exact ⟨rfl, rfl⟩
set_option maxRecDepth 100000 in
set_option maxHeartbeats 4000000 in
theorem rec1_seq (n : Nat) (hn : 1 ≤ n) (Bn n0 : Nat) (T : List Nat) (v : Value) (b : List Int) (hb : ∀ x ∈ b, IsU8 x) (hl : b.length ≤ 100000000) (hBn : Bn ∈ T) (hvb : ∀ g, v.ownBlock = some g → g ∈ T) (w : World) (hT : ∀ k ∈ T, k < w.heap.size) (hn0 : n0 ≤ w.heap.size)
    (hc : w.cell? ⟨Bn, 0, none⟩ = some v) (hs : SL w 1 v b.length (byts b)) :
    SeqQ Fence.wide n Tryz.prog 59 #[.pointer (some ⟨Bn, 0, none⟩)] (fun x : Rc => #[x.val, .int .i64 x.en]) (KZ T) (Adm n0) (EndS b) w := fun l J W hW _ hJu hY h0 => by
  have k := KS.of_below hW hT
  have hc' := (k.cell (p := ⟨Bn, 0, none⟩) hBn).trans hc
  have hs' := SL_ks hs hvb k
  have hz0 := hW.size
  clear hc hs hW
  refine callsIn_of_wp Tryz.func59 rfl trivial ?_ rfl
  simp only [Tryz.ntmps59, List.size_toArray, List.length_cons, List.length_nil, Nat.reduceAdd, Nat.reduceSub, Array.replicate_succ, Array.replicate_zero, List.push_toArray, List.append_toArray, List.nil_append, List.cons_append]
  gi_wp2
  gi_loopw [3, 4] (fun e i wr => ∃ pre : List Rc, i = .int .i64 (pre.length : Nat) ∧ e = .int .i64 ((cat 0 (recs pre)).length : Nat) ∧ lastEn pre = ((cat 0 (recs pre)).length : Nat) ∧ cat 0 (recs pre) <+: b ∧ J pre wr ∧ KS T W wr ∧ W.heap.size ≤ wr.heap.size) (fun e _ _ => b.length - (intOf e).toNat)
  case atStart => exact ⟨[], rfl, rfl, rfl, by simp [recs, cat], h0, KS.refl _ _, Nat.le_refl _⟩
  case round =>
    obtain ⟨wo, rfl⟩ : ∃ wo : World, wo = wr := ⟨_, rfl⟩
    obtain ⟨pre, rfl, rfl, hle, hpre, hJ, hk, hz⟩ := hrel
    have hc1 : wo.cell? ⟨Bn, 0, none⟩ = some v := (hk.cell (p := ⟨Bn, 0, none⟩) hBn).trans hc'
    have hs1 := SL_ks hs' hvb hk
    obtain ⟨a, cap, rfl, q1, r1, _⟩ := SL.form hs1
    have hpl := hpre.length_le
    have hcl := cat_len 0 (recs pre)
    rw [recs_length] at hcl
    have HC := Lib.hid (And.intro hle (And.intro hpre (And.intro hJ (And.intro hk hs1))))
    generalize he : (cat 0 (recs pre)).length = en at *
    have HE := Lib.hid he
    have hpi : IsI64 (pre.length : Nat) := by unfold IsI64; omega
    obtain ⟨a1, k1, hs2, _⟩ := (SL.from_ hs1 hpl).val
    have hsl := SL.from_ hs1 hpl
    rw [hs2, byts_drop'] at hsl
    have hdl : (b.drop en).length = b.length - en := List.length_drop
    rw [← hdl] at hsl hs2
    have HF := Lib.hid (First_calls (pre.length : Nat) hpi hsl (fun x hx => hb x (List.mem_of_mem_drop hx)) (by omega))
    have hei : (en : Int) ≤ b.length := by omega
    have hec : (en : Int) ≤ cap := by omega
    have HDL := Lib.hid hdl
    unfold FiT at HF
    clear hle hpre hJ hk hs1 he hsl hdl hc' hs' k
    generalize hd : b.drop en = d at *
    have HD := Lib.hid hd
    clear hd
    cases hf : fstP (pre.length : Nat) d with
    | none =>
      rw [hf] at HF
      have HFF := Lib.hid hf
      clear hf
      gi_wp2_with (refine ⟨trivial, ?_⟩; gi_at_call 60; refine (callsIn_wide.2 HF.out).mono ?_; rintro e w' ⟨u1, a3, n3, c3, m3, rfl⟩)
      have hJ3 := hJu pre _ _ HC.out.2.2.1 u1
      refine bodyPost_ret (results_none rfl _ _ _) rfl ?_
      refine ⟨⟨_, rfl⟩, pre, ⟨⟨HC.out.2.1, fun x hx => ?_⟩, by rw [HC.out.1, HE.out]⟩, hJ3⟩
      rw [recs_length, HE.out, HD.out] at hx
      rw [(fstP_iff hpi (by rw [HDL.out]; omega)).2 hx] at HFF
      exact absurd HFF.out (by simp)
    | some x =>
      rw [hf] at HF
      simp only at HF
      have hfx := (fstP_iff hpi (by rw [HDL.out]; omega)).1 hf
      have hxl := hfx.length_le
      have hfl := frB_length (pre.length : Nat) x
      have HFX := Lib.hid hfx
      clear hf hfx
      generalize hL : (frB (pre.length : Nat) x).length = L at *
      have HL := Lib.hid hL
      clear hL
      have hLi : (en : Int) + L ≤ b.length := by have := HDL.out; omega
      gi_wp2_with (refine ⟨trivial, ?_⟩; gi_at_call 60; refine (callsIn_wide.2 HF.out).mono ?_; rintro e w' ⟨u1, a3, c3, rfl, o3⟩; have hY3 := hY pre ⟨a3, c3, (en : Int) + L, x⟩ w' (hJu pre _ _ HC.out.2.2.1 u1) ⟨o3.row, fun g hg => by have := o3.fresh g hg; omega, by omega⟩; obtain ⟨fn, tmps, assign, body, hy, hR⟩ := hY3; dsimp only [Rc.val] at hy; have H3 := Lib.hid (And.intro u1 hR); clear u1 hR o3)
      refine H3.out.2.mono ?_
      rintro e W3 ⟨rfl, hJ3, hk3⟩
      gi_wp2
      go_roundw
      case rel =>
        have hpx : cat 0 (recs pre ++ [x]) <+: b := step_pre HC.out.2.1 (by rw [recs_length, HE.out, HD.out]; exact HFX.out)
        have hcx : (cat 0 (recs pre ++ [x])).length = en + L := by rw [cat_snoc, List.length_append, HE.out, Nat.zero_add, recs_length, HL.out]
        have hz3 := H3.out.1.size
        refine ⟨pre ++ [⟨a3, c3, (en : Int) + L, x⟩], by rw [List.length_append, List.length_singleton]; go_num, by rw [recs_snoc, hcx]; go_num, by rw [recs_snoc, hcx, lastEn_snoc]; show (en : Int) + L = _; omega, by rw [recs_snoc]; exact hpx, hJ3, ?_, ?_⟩
        · exact (HC.out.2.2.2.1.trans (KS.of_upd H3.out.1 (fun k hk => by have := hT k hk; omega) (by simp))).trans hk3.1
        · have := hk3.2; omega
      case measure => simp [intOf]; omega
theorem infoBytes : (Tryz.prog.info? 39).map (fun i => (i.zero, i.size, i.bytes)) = some (some (.slice none 0 0), 1, 24) := by kernel_rfl
/-- A slice of byte slices that is read. -/
def BL (w : World) (v : Value) (l : List (List Int)) : Prop :=
  ∃ vals, SL w 1 v l.length vals ∧ ∀ (i : Nat) (c : List Int), l[i]? = some c → ∃ y, vals[i]? = some y ∧ SL w 1 y c.length (byts c)
/-- What lies between two rounds. -/
structure Bt (w : World) (n3 : Nat) (pre : List Rc) (W : World) : Prop where
  ex : ∃ v, Blk W w.heap.size [v] 29 ∧ W.ownsRow 0 39 1 v pre.length (pre.map Rc.val) ∧ ∀ g, v.ownBlock = some g → n3 ≤ g
  en : Blk W (w.heap.size + 1) [.int .i64 (lastEn pre)] 3
  own : ∀ x ∈ pre, W.ownsRow 0 5 1 x.val x.tx.length (byts x.tx) ∧ ∀ g, x.val.ownBlock = some g → n3 ≤ g
  u : Upd [] w W
theorem Bt.upd {w : World} {n3 : Nat} {pre : List Rc} {A B : World} (h : Bt w n3 pre A) (u : Upd [] A B) : Bt w n3 pre B := by
  obtain ⟨v, h1, h2, h3⟩ := h.ex
  exact ⟨⟨v, h1.upd u (by simp), ownsRow_updL h2 u (by simp), h3⟩, h.en.upd u (by simp), fun x hx => ⟨ownsRow_updL (h.own x hx).1 u (by simp), (h.own x hx).2⟩, h.u.step u⟩
theorem Bt.own_ {w : World} {n3 : Nat} (hn : w.heap.size + 2 ≤ n3) : OwnFrom n3 (Bt w n3) := fun s A B row h hg hr => by
  obtain ⟨v, h1, h2, h3⟩ := h.ex
  have hr' : ∀ r, row = some r → ∃ o : Obj, A.heap[r]? = some o ∧ o.isCells = false := fun r e => (hr r e).2
  exact ⟨⟨v, (hg.block _ h1.lt (fun e => by have := (hr _ e.symm).1; omega)).trans h1, ownsRow_grown h2 hg hr', h3⟩, (hg.block _ h.en.lt (fun e => by have := (hr _ e.symm).1; omega)).trans h.en,
    fun x hx => ⟨ownsRow_grown (h.own x hx).1 hg hr', (h.own x hx).2⟩, h.u.grown hg (fun k e => .inr (by have := (hr k e).1; omega))⟩
theorem Adm.own_ {n B : Nat} (pre : List Rc) (x : Rc) : OwnFrom B (fun (_ : Unit) W => Adm n pre x W) := fun _ A _ _ h hg hr => ⟨ownsRow_grown h.1 hg (fun r e => (hr r e).2), h.2⟩
/-- Blocks of two kinds are two blocks. -/
theorem kinds_apart {W : World} {e1 e2 : TypeId} {k1 k2 n1 n2 : Nat} {v1 v2 : Value} {x1 x2 : List Value} (h1 : W.ownsRow 0 e1 k1 v1 n1 x1) (h2 : W.ownsRow 0 e2 k2 v2 n2 x2) (hne : e1 ≠ e2) {g : Nat} (hg : v1.ownBlock = some g) : v2.ownBlock ≠ some g := by
  intro hg2
  rcases h1.2 with ⟨rfl, _⟩ | ⟨a, cap, cur, rfl, _, ha, _⟩
  · simp [Value.ownBlock] at hg
  · rcases h2.2 with ⟨rfl, _⟩ | ⟨b, cap', cur', rfl, _, hb, _⟩
    · simp [Value.ownBlock] at hg2
    · simp only [Value.ownBlock, Option.some.injEq] at hg hg2
      subst hg hg2
      rw [ha] at hb
      simp at hb
      exact hne hb.2
/-- A slice of byte slices of one's own. -/
structure BO (w0 : World) (v : Value) (R : List (List Int)) (w : World) : Prop where
  ex : ∃ vals, OwnV w0 39 1 v R.length vals w ∧ ∀ (i : Nat) (c : List Int), R[i]? = some c → ∃ y, vals[i]? = some y ∧ OwnV w0 5 1 y c.length (byts c) w
theorem BO.bl {w0 w : World} {v : Value} {R : List (List Int)} (h : BO w0 v R w) : BL w v R := by
  obtain ⟨vals, h1, h2⟩ := h.ex
  exact ⟨vals, h1.sl, fun i c hi => by obtain ⟨y, h3, h4⟩ := h2 i c hi; exact ⟨y, h3, h4.sl⟩⟩
set_option maxRecDepth 100000 in
set_option maxHeartbeats 4000000 in
theorem Scan_callsO {w : World} {v : Value} {b : List Int} (hs : SL w 1 v b.length (byts b)) (hb : ∀ x ∈ b, IsU8 x) (hl : b.length ≤ 100000000) (hv : ∀ g, v.ownBlock = some g → g < w.heap.size) :
    Calls Tryz.prog 23 #[v] w fun e w' => ∃ (l : List (List Int)) (a : Option Addr) (cap : Nat), e = .returned (.tuple #[.slice a l.length cap, .int .i64 ((cat 0 l).length : Nat)]) ∧ Scn b l ∧ BO w (.slice a l.length cap) l w' ∧ Upd [] w w' := by
  obtain ⟨a, cap, rfl, q1, r1, _⟩ := SL.form hs
  have HV := Lib.hid hs
  have hz1 : (w.alloc (.cells #[.slice none 0 0] 29)).heap.size = w.heap.size + 1 := by simp
  have b1 := Blk.new w [.slice none 0 0] 29
  have b2 := Blk.new (w.alloc (.cells #[.slice none 0 0] 29)) [.int .i64 0] 3
  have b1' := b1.alloc (.cells #[.int .i64 0] 3)
  have u2 := ((Upd.refl [] w).alloc (.cells #[.slice none 0 0] 29)).alloc (.cells #[.int .i64 0] 3)
  have hz2 : ((w.alloc (.cells #[.slice none 0 0] 29)).alloc (.cells #[.int .i64 0] 3)).heap.size = w.heap.size + 2 := by simp
  rw [hz1] at b2
  have H2 := Lib.hid (And.intro b1' (And.intro b2 (And.intro u2 hz2)))
  clear hs b1 b2 b1' u2 hz2 hz1
  refine (callsIn_wide (n := 9)).1 ?_
  refine callsIn_of_wp_marks Tryz.func23 rfl trivial ?_ rfl
  simp only [Tryz.ntmps23, List.size_toArray, List.length_cons, List.length_nil, Nat.reduceAdd, Nat.reduceSub, Array.replicate_succ, Array.replicate_zero, List.push_toArray, List.append_toArray, List.nil_append, List.cons_append]
  gi_wp2_with (refine ⟨trivial, ?_⟩; gi_at_call 44; refine (callsIn_wide.2 rec_calls).mono ?_; rintro e w' ⟨rfl, rfl⟩)
  have hN := Blk.new ((w.alloc (.cells #[.slice none 0 0] 29)).alloc (.cells #[.int .i64 0] 3)) [.slice a b.length cap] 39
  have un := (Upd.refl [] ((w.alloc (.cells #[.slice none 0 0] 29)).alloc (.cells #[.int .i64 0] 3))).alloc (.cells #[.slice a b.length cap] 39)
  have hz3 : (((w.alloc (.cells #[.slice none 0 0] 29)).alloc (.cells #[.int .i64 0] 3)).alloc (.cells #[.slice a b.length cap] 39)).heap.size = w.heap.size + 3 := by simp
  have b1 := H2.out.1.upd un (by simp)
  have b2 := H2.out.2.1.upd un (by simp)
  have u3 := H2.out.2.2.1.step un
  rw [H2.out.2.2.2] at hN
  generalize ((w.alloc (.cells #[.slice none 0 0] 29)).alloc (.cells #[.int .i64 0] 3)).alloc (.cells #[.slice a b.length cap] 39) = w3 at *
  clear un H2
  have hsl3 := HV.out.upd u3 (by simp)
  refine wpIn_rangeQ rfl (by omega) (gf := 59) (lb := #[.pointer (some ⟨w.heap.size + 2, 0, none⟩)]) rfl trivial (enters_of Tryz.func59 (by kernel_rfl) rfl)
    (rec1_seq _ (by omega) (w.heap.size + 2) (w.heap.size + 3) ((w.heap.size + 2) :: (Value.slice a b.length cap).ownBlock.toList) (.slice a b.length cap) b hb hl (by simp) (by intro g hg; simp [hg]) w3 (by intro k hk; simp only [List.mem_cons, Option.mem_toList] at hk; rcases hk with rfl | hk; omega; have := hv k hk; omega) (by omega) (hN.cell (i := 0) rfl) hsl3) KZ.trans (KZ.put (by intro k hk; simp only [List.mem_cons, Option.mem_toList] at hk; rcases hk with rfl | hk; omega; have := hv k hk; omega)) (fun _ => rfl)
    (fun pre W => Bt w (w.heap.size + 3) pre W ∧ w.heap.size + 3 ≤ W.heap.size) (OwnFrom.and (by rw [hz3]; exact Bt.own_ (by omega)) (fun _ _ _ _ hs hg _ => Nat.le_trans hs hg.size)) (fun pre A B h u => ⟨h.1.upd u, Nat.le_trans h.2 u.size⟩) ⟨⟨⟨_, b1, World.ownsRow_nil _ _ _ _, by simp [Value.ownBlock]⟩, b2, by simp, u3⟩, by omega⟩ Adm.own_
    (fun x => { tmps := #[.slice a b.length cap, undef, .slice none 0 0, .int .i64 0, .pointer (some ⟨w.heap.size, 0, none⟩), .pointer (some ⟨w.heap.size + 1, 0, none⟩), .slice x.a x.tx.length x.cap, .int .i64 x.en, .slice a b.length cap, .func (.func 59) #[] #[.pointer (some ⟨w.heap.size + 2, 0, none⟩)], .slice x.a x.tx.length x.cap, .int .i64 x.en, undef, undef, undef, undef, undef, undef, undef], defers := [] }) ?assign ?body ?done
  case assign =>
    intro l x W K hK
    simp only [Rc.val]
    gi_wp2
    exact hK
  case body => as_aux_lemma =>
    rintro l pre x W ⟨hB, hz⟩ hA
    obtain ⟨xa, xcap, xen, xt⟩ := x
    obtain ⟨v, h1, h2, h3⟩ := hB.ex
    obtain ⟨av, cv, rfl, _⟩ := (SL.of_owns h2).val
    have c1 := h1.cell (i := 0) rfl
    have hpl := hA.2.2
    have HH := Lib.hid (And.intro hB (And.intro hA (And.intro h1 (And.intro h2 h3))))
    clear hB hA h1 h2 h3
    gi_wp2_with (refine wpListIn_push rfl rfl _ _ _ _ rfl rfl rfl 39 1 24 _ Tryz.underlying29 infoBytes rfl (by decide) (by decide) (.slice _ _ _) [.slice _ _ _] rfl rfl rfl (by simp [Value.oneCell']) _ _ _ HH.out.2.2.2.1 rfl rfl (by unfold maxLen; omega) (by omega) ?_; intro g1 cap1 w4 o4 u4 k4; have hB4 := HH.out.2.2.1.upd u4 (by simp only [Option.mem_toList]; intro h; have := HH.out.2.2.2.2 _ h; omega); have hE4 := HH.out.1.en.upd u4 (by simp only [Option.mem_toList]; intro h; have := HH.out.2.2.2.2 _ h; omega); have c4 := hB4.cell (i := 0) rfl; have f4 := hB4.free 0; have c5 := hE4.cell (i := 0) rfl; have f5 := hE4.free 0)
    have us : Upd [w.heap.size, w.heap.size + 1] w4 ((w4.setCell ⟨w.heap.size, 0, none⟩ (.slice (some ⟨g1, 0, none⟩) (pre.length + 1) cap1)).setCell ⟨w.heap.size + 1, 0, none⟩ (.int .i64 xen)) := ((Upd.refl _ w4).set (.inl (by simp)) _).set (.inl (by simp)) _
    have hg1 : w.heap.size + 3 ≤ g1 := by
      rcases k4 with k4 | k4
      · exact HH.out.2.2.2.2 _ k4
      · omega
    have uu : Upd (w.heap.size :: (w.heap.size + 1) :: (Value.slice av pre.length cv).ownBlock.toList) W ((w4.setCell ⟨w.heap.size, 0, none⟩ (.slice (some ⟨g1, 0, none⟩) (pre.length + 1) cap1)).setCell ⟨w.heap.size + 1, 0, none⟩ (.int .i64 xen)) :=
      (u4.wide (fun k hk => .inl (List.mem_cons_of_mem _ (List.mem_cons_of_mem _ hk)))).trans (us.wide (by intro k hk; simp at hk; left; simp; rcases hk with h | h <;> simp [h]))
    have hns : ∀ x : Rc, (∀ g, x.val.ownBlock = some g → w.heap.size + 3 ≤ g) → ∀ b ∈ [w.heap.size, w.heap.size + 1], x.val.ownBlock ≠ some b := fun x hx b hb h => by
      have := hx b h
      simp at hb
      omega
    have keep : ∀ x : Rc, W.ownsRow 0 5 1 x.val x.tx.length (byts x.tx) → (∀ g, x.val.ownBlock = some g → w.heap.size + 3 ≤ g) → ((w4.setCell ⟨w.heap.size, 0, none⟩ (.slice (some ⟨g1, 0, none⟩) (pre.length + 1) cap1)).setCell ⟨w.heap.size + 1, 0, none⟩ (.int .i64 xen)).ownsRow 0 5 1 x.val x.tx.length (byts x.tx) := fun x hx hg =>
      ownsRow_updL (ownsRow_updL hx u4 (fun b hb h => by simp only [Option.mem_toList] at hb; exact kinds_apart HH.out.2.2.2.1 hx (by decide) hb h)) us (hns x hg)
    refine ⟨KeepsFrom.of_upd uu ?_, ⟨KS.of_upd uu ?_ ?_, uu.size⟩, ⟨⟨.slice (some ⟨g1, 0, none⟩) (pre.length + 1) cap1, ?_, ?_, ?_⟩, ?_, ?_, ?_⟩, ?_⟩
    · intro k hk
      simp only [List.mem_cons, Option.mem_toList] at hk
      rcases hk with rfl | rfl | hk
      · left; omega
      · left; omega
      · exact .inr (owns_cells HH.out.2.2.2.1 hk)
    · intro k hk
      simp only [List.mem_cons, Option.mem_toList] at hk
      rcases hk with rfl | hk
      · omega
      · have := hv k hk; omega
    · intro k hk hm
      simp only [List.mem_cons, Option.mem_toList] at hk hm
      have hk2 : k = w.heap.size + 2 ∨ k < w.heap.size := by
        rcases hk with hk | hk
        · exact .inl hk
        · exact .inr (hv k hk)
      rcases hm with hm | hm | hm
      · omega
      · omega
      · have := HH.out.2.2.2.2 _ hm; omega
    · exact (hB4.set 0 _).setOther (by simp) _
    · rw [List.length_append, List.length_singleton, List.map_append, List.map_singleton]
      exact ownsRow_updL o4 us (by intro b hb h; simp [Value.ownBlock] at h; simp at hb; omega)
    · intro g hg
      simp only [Value.ownBlock, Option.some.injEq] at hg
      omega
    · rw [lastEn_snoc]
      exact (hE4.setOther (by simp) _).set 0 _
    · intro x hx
      rcases List.mem_append.1 hx with hx | hx
      · exact ⟨keep x (HH.out.1.own x hx).1 (HH.out.1.own x hx).2, (HH.out.1.own x hx).2⟩
      · simp only [List.mem_singleton] at hx
        subst hx
        exact ⟨keep _ HH.out.2.1.1 HH.out.2.1.2.1, HH.out.2.1.2.1⟩
    · exact HH.out.1.u.fresh uu (fun k hk => .inr (by
        simp only [List.mem_cons, Option.mem_toList] at hk
        rcases hk with rfl | rfl | hk
        · omega
        · omega
        · have := HH.out.2.2.2.2 _ hk; omega))
    · have := uu.size; simp at this; omega
  case done => as_aux_lemma =>
    rintro D xs W hD ⟨hS, hE⟩ ⟨hB, hz⟩ hK
    obtain ⟨v, h1, h2, h3⟩ := hB.ex
    obtain ⟨av, cv, rfl, _⟩ := (SL.of_owns h2).val
    have c1 := h1.cell (i := 0) rfl
    have c2 := hB.en.cell (i := 0) rfl
    rw [hE] at c2
    have HH := Lib.hid (And.intro hB (And.intro hK (And.intro h2 (And.intro h3 hS))))
    clear hB hK h1 h2 h3 hS hE
    generalize hLL : (cat 0 (recs xs)).length = L at *
    have HLL := Lib.hid hLL
    clear hLL
    gi_wp2
    refine wpIn_wide.2 ?_
    refine wp_region_qx (by kernel_rfl) (by kernel_rfl) ?_
    repeat (go_big_quiet_step ((fail)))
    refine wpQuiet_nil ?_
    intro x
    gi_wp2
    have hu := x.upd
    have hDl := (Array.getElem?_eq_some_iff.1 HH.out.2.1).1
    have hKx := (hu.block D hDl (by simp)).trans HH.out.2.1
    have uo : Upd [D] x.val (x.val.putObj D (.deferred none)) := (Upd.refl [D] x.val).grown (grownBy_putObj' _ D _) (fun k e => by cases e; simp)
    have hrl : (recs xs).length = xs.length := recs_length xs
    have HRL := Lib.hid hrl
    refine ⟨by simp, .inl ⟨_, _, rfl, run_takeDeferred hKx, ?_⟩⟩
    refine ⟨_, results_tmp2 rfl _ _ _, recs xs, av, cv, ?_, HH.out.2.2.2.2, ?_, ?_⟩
    · exact (show Ending.returned (.tuple #[.slice av xs.length cv, .int .i64 (L : Int)]) = _ by rw [HRL.out, HLL.out])
    · refine ⟨xs.map Rc.val, ⟨?_, fun g hg => ?_⟩, fun i c hi => ?_⟩
      · rw [HRL.out]
        exact ownsRow_updL (ownsRow_updL HH.out.2.2.1 hu (by simp)) uo (by intro k hk h; simp at hk; subst hk; have h1 := owns_cells HH.out.2.2.1 h _ HH.out.2.1; cases h1)
      · have := HH.out.2.2.2.1 g (by rw [HRL.out] at hg; exact hg); omega
      · unfold recs at hi
        rw [List.getElem?_map] at hi
        obtain ⟨y, hy, rfl⟩ := Option.map_eq_some_iff.1 hi
        refine ⟨y.val, by rw [List.getElem?_map, hy]; rfl, ?_⟩
        have hyo := HH.out.1.own y (List.mem_of_getElem? hy)
        exact ⟨ownsRow_updL (ownsRow_updL hyo.1 hu (by simp)) uo (by intro k hk h; simp at hk; subst hk; have h1 := owns_cells hyo.1 h _ HH.out.2.1; cases h1), fun g hg => by have := hyo.2 g hg; omega⟩
    · exact ((HH.out.1.u.step hu).fresh uo (fun k hk => .inr (by simp at hk; omega)))
theorem Scan_calls {w : World} {v : Value} {b : List Int} (hs : SL w 1 v b.length (byts b)) (hb : ∀ x ∈ b, IsU8 x) (hl : b.length ≤ 100000000) (hv : ∀ g, v.ownBlock = some g → g < w.heap.size) :
    Calls Tryz.prog 23 #[v] w fun e w' => ∃ (l : List (List Int)) (a : Option Addr) (cap : Nat), e = .returned (.tuple #[.slice a l.length cap, .int .i64 ((cat 0 l).length : Nat)]) ∧ Scn b l ∧ BL w' (.slice a l.length cap) l ∧ Upd [] w w' :=
  (Scan_callsO hs hb hl hv).mono fun _ _ ⟨l, a, cap, h1, h2, h3, h4⟩ => ⟨l, a, cap, h1, h2, h3.bl, h4⟩
end Jour
end Go.Proofs.YtfkgpecglcjpkaaGreat
