/- Walks through package wire: byte slices, written and read. Conditions: none. -/
import Derived.Test.YtfkgpecglcjpkaaGreatWireR
import Derived.Test.YtfkgpecglcjpkaaGreatJourP
import Derived.Test.YtfkgpecglcjpkaaGreatOwnB
import Derived.Test.YtfkgpecglcjpkaaGreatLists
set_option linter.unusedVariables false
set_option linter.unusedSimpArgs false
set_option linter.unusedSectionVars false
open Go.RowKit
namespace Go.Proofs.YtfkgpecglcjpkaaGreat
open L
namespace Wire
open R01 Jour
section
variable {w w' : World} {q : Nat} {bs : List Int} {p : Nat} {e : Int} {S : List Nat}
theorem Wt.app {a1 : Option Addr} {cap : Nat} {sv : Value} {xs : List Int} {w1 w2 : World} (hB : Blk w q [sv] 74) (h3 : sv.ownBlock ≠ some q)
    (o : w1.ownsRow 0 5 1 (.slice a1 (bs.length + xs.length) cap) (bs.length + xs.length) (byts bs ++ byts xs)) (u : Upd sv.ownBlock.toList w w1)
    (k : (Value.slice a1 (bs.length + xs.length) cap).ownBlock = sv.ownBlock ∨ (Value.slice a1 (bs.length + xs.length) cap).ownBlock = some w.heap.size)
    (hw2 : w2 = w1.setCell ⟨q, 0, none⟩ (.slice a1 (bs.length + xs.length) cap)) :
    Wt w2 q (bs ++ xs) (q :: (Value.slice a1 (bs.length + xs.length) cap).ownBlock.toList) ∧ Upd (q :: sv.ownBlock.toList) w w2 ∧ ∀ j ∈ (q :: (Value.slice a1 (bs.length + xs.length) cap).ownBlock.toList), j ∈ (q :: sv.ownBlock.toList) ∨ w.heap.size ≤ j := by
  have hgq : (Value.slice a1 (bs.length + xs.length) cap).ownBlock ≠ some q := by
    rcases k with k | k <;> rw [k]
    · exact h3
    · intro e; have := hB.lt; simp at e; omega
  have hB1 : Blk w1 q [sv] 74 := hB.upd u (by simpa using h3)
  have us : Upd [q] w1 w2 := by rw [hw2]; exact (Upd.refl [q] w1).set (by simp) _
  refine ⟨⟨.slice a1 (bs.length + xs.length) cap, rfl, ?_, ?_, hgq⟩, ?_, ?_⟩
  · rw [hw2]; exact hB1.set 0 _
  · have := ownsRow_updL o us (by simpa using hgq)
    simpa [byts] using this
  · exact (u.wide (T := q :: sv.ownBlock.toList) (by intro j hj; left; exact List.mem_cons_of_mem _ hj)).trans (us.wide (by simp))
  · intro j hj
    simp only [List.mem_cons, Option.mem_toList] at hj
    rcases hj with rfl | hj
    · simp
    · rcases k with k | k <;> rw [hj] at k
      · left; simp [← k]
      · right; simp at k; omega
set_option maxRecDepth 100000 in
set_option maxHeartbeats 2000000 in
theorem Raw_calls {v : Value} {xs : List Int} (h : Wt w q bs S) (hs : SL w 1 v xs.length (byts xs)) (hv : ∀ b ∈ S, v.ownBlock ≠ some b) (hb : bs.length ≤ 35184372088832) (hx : xs.length ≤ 17592186044416) :
    Calls Tryz.prog 40 #[.pointer (some ⟨q, 0, none⟩), v] w (WtT q (bs ++ rb xs) S w) := by
  obtain ⟨a, cap, rfl, q1, r1, _⟩ := SL.form hs
  have hxi : (xs.length : Int) ≤ 17592186044416 := by omega
  have HU := Lib.hid (Uint_calls h xs.length (by omega) (by omega))
  have HS := Lib.hid (And.intro hs (And.intro hv h))
  have hul := ub_length xs.length
  clear h hs hv
  go_enter Tryz.func40, Tryz.ntmps40
  go_wp2_with fail
  refine HU.out.mono ?_
  rintro e w1 ⟨rfl, S1, h1, u1, k1⟩
  have hs1 := HS.out.1.upd u1 (fun b hb => HS.out.2.1 b hb)
  have hfr : ∀ b ∈ S, b < w.heap.size := HS.out.2.2.lt
  have hlen : (bs ++ ub xs.length).length ≤ 35184372088842 := by rw [List.length_append]; omega
  obtain ⟨sv, rfl, hB, hO, hne⟩ := h1.ex
  have c0 := hB.cell (i := 0) rfl
  have f0 := hB.free 0
  have hql := hB.lt
  have H1 := Lib.hid (And.intro hs1 (And.intro u1 (And.intro k1 (And.intro hB hO))))
  clear hs1 u1 k1 hB hO h1 hfr HU
  have HE := Lib.hid (show bs ++ rb xs = (bs ++ ub xs.length) ++ xs by unfold rb; rw [List.append_assoc])
  generalize bs ++ ub xs.length = pre at *
  obtain ⟨asv, csv, rfl, _⟩ := (SL.of_owns H1.out.2.2.2.2).val
  go_upto_region 1 with fail
  refine wp_region_lit ?_
  refine wpList_cutH 6 (fun K hK => ?_)
  simp only [List.take_succ_cons, List.take_zero]
  go_wp2_with fail
  refine Halt_.intro ?_; try simp only [List.drop_succ_cons, List.drop_zero]
  refine wpList_appS rfl _ _ _ rfl 5 1 1 _ Tryz.underlying39 infoByte rfl (by decide) (.slice asv pre.length csv) pre.length (byts pre) rfl H1.out.2.2.2.2 (.slice a xs.length cap) xs.length (byts xs) rfl H1.out.1 (byts_one _) (by unfold maxLen; omega) (by omega) ?_
  intro a6 cap6 w6 o6 u6 k6
  simp only [Act.put, List.setIfInBounds_toArray, List.set_cons_zero, List.set_cons_succ]
  have hB6 := H1.out.2.2.2.1.upd u6 (by simpa using hne)
  have c6 := hB6.cell (i := 0) rfl
  have f6 := hB6.free 0
  have hq6 := hB6.lt
  go_wp2_with fail
  obtain ⟨W, U, K⟩ := Wt.app H1.out.2.2.2.1 hne o6 u6 k6 (w2 := w6.setCell ⟨q, 0, none⟩ (.slice a6 (pre.length + xs.length) cap6)) rfl
  go_end0
  have hz := H1.out.2.1.size
  refine ⟨rfl, _, by rw [HE.out]; exact W, H1.out.2.1.fresh U (fun j hj => H1.out.2.2.1 j hj), fun j hj => ?_⟩
  rcases K j hj with h | h
  · exact H1.out.2.2.1 j h
  · right; omega
theorem Raw_f {w0 : World} {v : Value} {xs : List Int} (h : WtF w0 q bs w) (hs : SL w 1 v xs.length (byts xs)) (hv : ∀ b, v.ownBlock = some b → b < w0.heap.size) (hb : bs.length ≤ 35184372088832) (hx : xs.length ≤ 17592186044416) :
    Calls Tryz.prog 40 #[.pointer (some ⟨q, 0, none⟩), v] w fun e w' => e = .returned (.tuple #[]) ∧ WtF w0 q (bs ++ rb xs) w' := by
  obtain ⟨S, h1, h2⟩ := h.ex
  exact (Raw_calls h1 hs (fun b hb hvb => by have := h2 b hb; have := hv b hvb; omega) hb hx).mono fun e w' hr => WtF.of h2 h.u hr
theorem Uint_f {w0 : World} (h : WtF w0 q bs w) (n : Nat) (hn : n < 18446744073709551616) (hb : bs.length ≤ 70368744177664) :
    Calls Tryz.prog 41 #[.pointer (some ⟨q, 0, none⟩), .int .u64 n] w fun e w' => e = .returned (.tuple #[]) ∧ WtF w0 q (bs ++ ub n) w' := by
  obtain ⟨S, h1, h2⟩ := h.ex
  exact (Uint_calls h1 n hn hb).mono fun e w' hr => WtF.of h2 h.u hr
set_option maxRecDepth 100000 in
set_option maxHeartbeats 2000000 in
theorem one_calls (h : Rd w q bs p e S) (hp : p < bs.length) : Calls Tryz.prog 88 #[.pointer (some ⟨q, 0, none⟩)] w fun ed w' => ed = .returned (.int .u8 bs[p]) ∧ Rd w' q bs (p + 1) e S ∧ Upd [q] w w' := by
  obtain ⟨sv, rfl, hB, hO, hne⟩ := h.ex
  obtain ⟨a, cap, rfl, q1, r1, hc⟩ := SL.form hO
  obtain ⟨g, off, rfl, hcc⟩ := hc (by omega)
  have hd := hcc p _ (byts_get (List.getElem?_eq_getElem hp))
  have c0 := hB.cell (i := 0) rfl
  have c1 := hB.cell (i := 1) rfl
  have hql := hB.lt
  have hpi : (p : Int) < bs.length := by omega
  have HH := Lib.hid (And.intro h (And.intro hB hO))
  have hpl := h.pl
  have hlen := h.len
  clear h hB hO hc hcc
  generalize bs[p] = c at *
  go_enter Tryz.func88, Tryz.ntmps88
  go_wp2_with fail
  refine wp_region_qx (by kernel_rfl) (by kernel_rfl) ?_
  repeat (go_big_quiet_step ((fail)))
  refine wpQuiet_nil ?_
  intro x
  have B1 := HH.out.2.1.upd x.upd (by simp)
  have d1 := B1.cell (i := 1) rfl
  have f1 := B1.free 1
  go_wp2_with fail
  go_ret
  have us := (Upd.refl [q] x.val).set (p := ⟨q, 1, none⟩) (by simp) (.int .i64 ((p : Int) + 1))
  have B2 := B1.set 1 (.int .i64 ((p : Int) + 1))
  rw [show (p : Int) + 1 = ((p + 1 : Nat) : Int) by omega] at B2 us ⊢
  exact ⟨rfl, Rd.set HH.out.1 B2 HH.out.2.2 hne ((x.upd.nil).trans us) (by omega), (x.upd.nil).trans us⟩
/-- What reading a byte slice leaves. -/
def LbT (q : Nat) (bs : List Int) (S : List Nat) (w : World) (r : List Int × Nat × Int) (e : Ending) (w' : World) : Prop :=
  ∃ v, e = .returned v ∧ Rd w' q bs r.2.1 r.2.2 S ∧ OwnV w 5 1 v r.1.length (byts r.1) w' ∧ Upd [q] w w'
theorem Rd.freshB {g : Nat} (h : Rd w q bs p e S) (hg : w.heap.size ≤ g) : g ∉ S := fun hm => by have := h.lt g hm; omega
theorem Rd.q_memB (h : Rd w q bs p e S) : q ∈ S := by obtain ⟨sv, rfl, _⟩ := h.ex; simp
theorem dt_snoc {l : List Int} {p k : Nat} (h : p + k < l.length) : (l.drop p).take (k + 1) = (l.drop p).take k ++ [l[p + k]] := by
  rw [List.take_add_one, List.getElem?_drop, List.getElem?_eq_getElem h]; rfl
set_option maxRecDepth 100000 in
set_option maxHeartbeats 2000000 in
theorem listB_calls (h : Rd w q bs p e S) (hb : bs.length ≤ 1000000000) :
    Calls Tryz.prog 87 #[.pointer (some ⟨q, 0, none⟩), .func (.func 88) #[.pointer (some ⟨q, 0, none⟩)] #[]] w (LbT q bs S w (rdR bs p e)) := by
  have HU := Lib.hid (Uint_r_calls h)
  have hle := rdU_le (e := e) h.pl
  have HR0 := Lib.hid (show rdR bs p e = if (rdU bs p e).2.2 ≠ 0 then ([], (rdU bs p e).2) else if bs.length - (rdU bs p e).2.1 < (rdU bs p e).1 then ([], (rdU bs p e).2.1, 3) else ((bs.drop (rdU bs p e).2.1).take (rdU bs p e).1, (rdU bs p e).2.1 + (rdU bs p e).1, 0) from rfl)
  have hu8 := Lib.hid h.u8
  generalize rdR bs p e = res at *
  generalize rdU bs p e = r at *
  obtain ⟨n, p1, e1⟩ := r
  simp only at HU HR0 hle
  clear h
  go_enter Tryz.func87, Tryz.ntmps87
  go_wp2_with fail
  refine HU.out.mono ?_
  rintro ed w1 ⟨rfl, r1, u1⟩
  simp only at r1 u1 ⊢
  obtain ⟨sv, hS, hB, hO, hne⟩ := r1.ex
  obtain ⟨a, cap, hsv, q1, q2, hc⟩ := SL.form hO
  subst hsv
  have c0 := hB.cell (i := 0) rfl
  have c1 := hB.cell (i := 1) rfl
  have c2 := hB.cell (i := 2) rfl
  have f2 := hB.free 2
  have hql := hB.lt
  have H1 := Lib.hid (And.intro r1 (And.intro u1 (And.intro hB (And.intro hO hS))))
  clear r1 u1 hB hO hc hS HU
  by_cases he : e1 = 0
  · subst he
    have HR1 := Lib.hid (show res = if bs.length - p1 < n then ([], p1, 3) else ((bs.drop p1).take n, p1 + n, 0) by rw [HR0.out, if_neg (by simp)])
    clear HR0
    by_cases hn : bs.length - p1 < n
    · have hn2 : (bs.length : Int) - p1 < n := by omega
      have HR2 := Lib.hid (show res = ([], p1, 3) by rw [HR1.out, if_pos hn])
      clear HR1
      go_wp2_with fail
      refine wp_region_qx (by kernel_rfl) (by kernel_rfl) ?_
      repeat (go_big_quiet_step ((fail)))
      refine wpQuiet_nil ?_
      intro x
      have B1 := H1.out.2.2.1.upd x.upd (by simp)
      have f2' := B1.free 2
      go_wp2_with fail
      go_ret
      rw [HR2.out]
      have us := (Upd.refl [q] x.val).set (p := ⟨q, 2, none⟩) (by simp) (.int .i64 3)
      have hr := H1.out.1
      rw [H1.out.2.2.2.2] at hr ⊢
      exact ⟨_, rfl, Rd.set hr (B1.set 2 _) H1.out.2.2.2.1 hne ((x.upd.nil).trans us) hr.pl, OwnV.nil w _ 5 1, (H1.out.2.1.trans x.upd.nil).trans us⟩
    · have hn2 : ¬ (bs.length : Int) - p1 < n := by omega
      have HR2 := Lib.hid (show res = ((bs.drop p1).take n, p1 + n, 0) by rw [HR1.out, if_neg hn])
      clear HR1
      go_wp2_with fail
      refine wp_region_qx (by kernel_rfl) (by kernel_rfl) ?_
      repeat (go_big_quiet_step ((fail)))
      refine wpQuiet_nil ?_
      intro x
      have B1 := Lib.hid (And.intro (H1.out.1.upd x.upd (by simp)) (H1.out.2.1.trans x.upd.nil))
      obtain ⟨wx, hwx⟩ : ∃ wx : World, wx = x.val := ⟨_, rfl⟩
      rw [← hwx] at B1 ⊢
      clear hwx x
      have hzx := B1.out.2.size
      have hnb : n ≤ 1000000000 := by omega
      go_wp2_with (refine wpList_mk0 rfl _ _ _ rfl 5 1 1 _ Tryz.underlying39 infoByte rfl (by decide) _ _ _ _ n rfl rfl rfl (by omega) (by omega) (by omega) ?_; simp only [Act.put, List.setIfInBounds_toArray, List.set_cons_zero, List.set_cons_succ])
      simp only [show (Value.int .u8 0).cells.toList = [Value.int .u8 0] from rfl]
      have u2 := (Upd.refl [] wx).alloc (.cells (rows n fun _ => [Value.int .u8 0]).toArray 5)
      have o0 : OwnV w 5 1 (.slice (some ⟨wx.heap.size, 0, none⟩) 0 n) 0 (byts []) (wx.alloc (.cells (rows n fun _ => [Value.int .u8 0]).toArray 5)) :=
        ⟨owns_empty (Blk.new wx _ _) (by rw [rows_length (k := 1) (fun _ => rfl)]) (by unfold maxLen; omega), fun g hg => by simp [Value.ownBlock] at hg; omega⟩
      have HI := Lib.hid (And.intro o0 (And.intro (B1.out.1.upd u2 (by simp)) (And.intro (B1.out.2.trans u2.nil) (fun g (hg : (Value.slice (some ⟨wx.heap.size, 0, none⟩) 0 n).ownBlock = some g) => show g ∉ S from B1.out.1.freshB (by simp [Value.ownBlock] at hg; omega)))))
      generalize wx.alloc (.cells (rows n fun _ => [Value.int .u8 0]).toArray 5) = w2 at *
      generalize hgg : wx.heap.size = gg at *
      clear o0 u2 hgg c0 c1 c2 f2 B1
      go_wp2_with fail
      go_loopw [6, 34] (fun o i wr => ∃ k : Nat, k ≤ n ∧ i = .int .u64 k ∧ Rd wr q bs (p1 + k) 0 S ∧ OwnV w 5 1 o k (byts ((bs.drop p1).take k)) wr ∧ (∀ g, o.ownBlock = some g → g ∉ S) ∧ Upd [q] w wr) (fun _ i _ => n - (intOf i).toNat)
      case atStart => exact ⟨0, by omega, rfl, HI.out.2.1, by simpa using HI.out.1, HI.out.2.2.2, HI.out.2.2.1⟩
      case round =>
        clear HI
        obtain ⟨k, hk, rfl, hr, ho, hap, hu⟩ := hrel
        by_cases hlt2 : k < n
        · have hpk : p1 + k < bs.length := by omega
          have hc := one_calls hr hpk
          have HD := Lib.hid (dt_snoc hpk)
          obtain ⟨ao, co, rfl, hco, hco2, _⟩ := SL.elems ho.sl
          generalize bs[p1 + k] = c at *
          generalize (bs.drop p1).take k = pre at *
          have HC := Lib.hid hc
          have HO := Lib.hid (And.intro ho (And.intro hap (And.intro hu hr)))
          clear hc ho hap hu hr
          go_wp2_with fail
          refine HC.out.mono ?_
          rintro ed w3 ⟨rfl, r3, u3⟩
          obtain ⟨sv, hS, hB, _, _⟩ := r3.ex
          have d2 := hB.cell (i := 2) rfl
          have hqq := HO.out.2.2.2.q_memB
          have o3 := HO.out.1.upd u3 (fun b hb hv => by simp at hb; subst hb; exact HO.out.2.1 _ hv hqq)
          have z3 := HO.out.2.2.1.size
          have z4 := u3.size
          have H3 := Lib.hid (And.intro r3 (And.intro o3 (HO.out.2.2.1.trans u3)))
          clear r3 u3 hB hS o3 hqq HC
          go_wp2_with (refine wpList_push rfl rfl _ _ _ _ rfl rfl rfl 5 1 1 _ Tryz.underlying39 infoByte rfl (by decide) (by decide) (.int .u8 _) [.int .u8 _] rfl rfl rfl (byts_one [_]) _ _ _ H3.out.2.1.row rfl rfl (by unfold maxLen; omega) (by omega) ?_; intro g1 cap1 w4 o4 u4 k4)
          have N := H3.out.2.1.push (by omega) o4 k4
          refine ⟨⟨k + 1, by omega, by go_num, ?_, ?_, ?_, ?_⟩, by simp [intOf]; omega⟩
          · exact H3.out.1.upd u4 (fun b hb hb2 => HO.out.2.1 b (by simpa using hb2) hb)
          · rw [HD.out, byts_append]
            exact N
          · intro g hg hm
            simp only [Value.ownBlock, Option.some.injEq] at hg
            subst hg
            rcases k4 with k4 | k4
            · exact HO.out.2.1 _ k4 hm
            · exact H3.out.1.freshB k4 hm
          · exact H3.out.2.2.fresh u4 (fun j hj => .inr (HO.out.1.fresh j (by simpa using hj)))
        · have hkn : k = n := by omega
          subst hkn
          obtain ⟨ao, co, rfl, hco, hco2, _⟩ := SL.elems ho.sl
          have hlen : ((bs.drop p1).take k).length = k := by rw [List.length_take, List.length_drop]; omega
          have HO := Lib.hid (And.intro hr (And.intro ho hu))
          clear hr ho hu hap
          go_wp2_with fail
          go_ret
          rw [HR2.out]
          exact ⟨_, rfl, HO.out.1, by rw [hlen]; exact HO.out.2.1, HO.out.2.2⟩
  · have HR1 := Lib.hid (show res = ([], p1, e1) by rw [HR0.out, if_pos he])
    have hbe : (e1 != 0) = true := by simpa using he
    go_wp2_with fail
    go_ret
    rw [HR1.out]
    exact ⟨_, rfl, H1.out.1, OwnV.nil w w1 5 1, H1.out.2.1⟩
theorem RRaw_calls (h : Rd w q bs p e S) (hb : bs.length ≤ 1000000000) : Calls Tryz.prog 75 #[.pointer (some ⟨q, 0, none⟩)] w (LbT q bs S w (rdR bs p e)) := by
  have HL := Lib.hid (listB_calls h hb)
  go_enter Tryz.func75, Tryz.ntmps75
  go_wp2_with fail
  refine HL.out.mono ?_
  rintro e w1 ⟨v, rfl, hr⟩
  have HR := Lib.hid hr
  clear hr
  obtain ⟨av, cv, rfl, _⟩ := HR.out.2.1.sl.val
  go_wp2_with fail
  go_ret
  exact ⟨_, rfl, HR.out⟩
end
end Wire
end Go.Proofs.YtfkgpecglcjpkaaGreat
