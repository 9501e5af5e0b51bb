/- Walks through package wire: reading a list of numbers. Conditions: none. -/
import Derived.Test.YtgdpbhbdeaifbaaWireR
import Derived.Test.YtgdpbhbdeaifbaaWireI
import Derived.Test.YtgdpbhbdeaifbaaOwn
import Derived.Test.YtgdpbhbdeaifbaaLists
set_option linter.unusedVariables false
set_option linter.unusedSimpArgs false
set_option linter.unusedSectionVars false
open Go.RowKit
namespace Go.Proofs.Ytgdpbhbdeaifbaa
open L
namespace Wire
open R01 R14
section
variable {w w' : World} {q : Nat} {bs : List Int} {p : Nat} {e : Int} {S : List Nat}
theorem Rd.fresh {g : Nat} (h : Rd w q bs p e S) (hg : w.heap.size ≤ g) : g ∉ S := fun hm => by have := h.lt g hm; omega
theorem Rd.q_mem (h : Rd w q bs p e S) : q ∈ S := by obtain ⟨sv, rfl, _⟩ := h.ex; simp
/-- What reading a list leaves. -/
def LstT (q : Nat) (bs : List Int) (S : List Nat) (w : World) (r : List Int × Nat × Int) (e : Ending) (w' : World) : Prop :=
  ∃ v, e = .returned v ∧ Rd w' q bs r.2.1 r.2.2 S ∧ SL w' 1 v r.1.length (ints r.1) ∧ Upd [q] w w' ∧ ∀ g, v.ownBlock = some g → w.heap.size ≤ g
set_option maxRecDepth 100000 in
set_option maxHeartbeats 2000000 in
theorem list_calls (h : Rd w q bs p e S) (hb : bs.length ≤ 1000000000) :
    Calls Try.prog 56 #[.pointer (some ⟨q, 0, none⟩), .func (.func 57) #[.pointer (some ⟨q, 0, none⟩)] #[]] w (LstT q bs S w (rdIs bs p e)) := by
  have HU := Lib.hid (Uint_r_calls h)
  have hle := rdU_le (e := e) h.pl
  have hlt := rdU_lt (p := p) (e := e) h.u8
  have HR0 := Lib.hid (show rdIs bs p e = if (rdU bs p e).2.2 ≠ 0 then ([], (rdU bs p e).2) else if bs.length - (rdU bs p e).2.1 < (rdU bs p e).1 then ([], (rdU bs p e).2.1, 3) else if (rdN bs (rdU bs p e).2.1 0 (rdU bs p e).1).2.2 ≠ 0 then ([], (rdN bs (rdU bs p e).2.1 0 (rdU bs p e).1).2) else rdN bs (rdU bs p e).2.1 0 (rdU bs p e).1 from rfl)
  have hu8 := Lib.hid h.u8
  generalize rdIs bs p e = res at *
  generalize rdU bs p e = r at *
  obtain ⟨n, p1, e1⟩ := r
  simp only at HU HR0 hle hlt
  clear h
  go_enter Try.func56, Try.ntmps56
  go_wp2_with fail
  refine HU.out.mono ?_
  rintro ed w1 ⟨rfl, r1, u1⟩
  simp only at r1 u1 ⊢
  obtain ⟨sv, hS, hB, hO, hne⟩ := r1.ex
  obtain ⟨a, cap, hsv, q1, q2, hc⟩ := SL.form hO
  subst hsv
  have c0 := hB.cell (i := 0) rfl
  have c1 := hB.cell (i := 1) rfl
  have c2 := hB.cell (i := 2) rfl
  have f2 := hB.free 2
  have hql := hB.lt
  have H1 := Lib.hid (And.intro r1 (And.intro u1 (And.intro hB (And.intro hO hS))))
  clear r1 u1 hB hO hc hS HU
  by_cases he : e1 = 0
  · subst he
    have HR1 := Lib.hid (show res = if bs.length - p1 < n then ([], p1, 3) else if (rdN bs p1 0 n).2.2 ≠ 0 then ([], (rdN bs p1 0 n).2) else rdN bs p1 0 n by rw [HR0.out, if_neg (by simp)])
    clear HR0
    by_cases hn : bs.length - p1 < n
    · have hn2 : (bs.length : Int) - p1 < n := by omega
      have HR2 := Lib.hid (show res = ([], p1, 3) by rw [HR1.out, if_pos hn])
      clear HR1
      go_wp2_with fail
      refine wp_region_qx (by kernel_rfl) (by kernel_rfl) ?_
      repeat (go_big_quiet_step ((fail)))
      refine wpQuiet_nil ?_
      intro x
      have B1 := H1.out.2.2.1.upd x.upd (by simp)
      have f2' := B1.free 2
      go_wp2_with fail
      go_ret
      rw [HR2.out]
      have us := (Upd.refl [q] x.val).set (p := ⟨q, 2, none⟩) (by simp) (.int .i64 3)
      have hr := H1.out.1
      rw [H1.out.2.2.2.2] at hr ⊢
      refine ⟨_, rfl, Rd.set hr (B1.set 2 _) H1.out.2.2.2.1 hne ((x.upd.nil).trans us) hr.pl, (OwnV.nil w _ 3 1).sl, (H1.out.2.1.trans x.upd.nil).trans us, by simp [Value.ownBlock]⟩
    · have hn2 : ¬ (bs.length : Int) - p1 < n := by omega
      have HR2 := Lib.hid (show res = if (rdN bs p1 0 n).2.2 ≠ 0 then ([], (rdN bs p1 0 n).2) else rdN bs p1 0 n by rw [HR1.out, if_neg hn])
      clear HR1
      go_wp2_with fail
      refine wp_region_qx (by kernel_rfl) (by kernel_rfl) ?_
      repeat (go_big_quiet_step ((fail)))
      refine wpQuiet_nil ?_
      intro x
      have B1 := Lib.hid (And.intro (H1.out.1.upd x.upd (by simp)) (H1.out.2.1.trans x.upd.nil))
      obtain ⟨wx, hwx⟩ : ∃ wx : World, wx = x.val := ⟨_, rfl⟩
      rw [← hwx] at B1 ⊢
      clear hwx x
      have hzx := B1.out.2.size
      have hnb : n ≤ 1000000000 := by omega
      go_wp2_with (refine wpList_mk0 rfl _ _ _ rfl 3 1 8 _ Try.underlying22 infoInt rfl (by decide) _ _ _ _ n rfl rfl rfl (by omega) (by omega) (by omega) ?_; simp only [Act.put, List.setIfInBounds_toArray, List.set_cons_zero, List.set_cons_succ])
      simp only [show (Value.int .i64 0).cells.toList = [Value.int .i64 0] from rfl]
      have u2 := (Upd.refl [] wx).alloc (.cells (rows n fun _ => [Value.int .i64 0]).toArray 3)
      have o0 : OwnV w 3 1 (.slice (some ⟨wx.heap.size, 0, none⟩) 0 n) 0 (ints []) (wx.alloc (.cells (rows n fun _ => [Value.int .i64 0]).toArray 3)) :=
        ⟨owns_empty (Blk.new wx _ _) (by rw [rows_length (k := 1) (fun _ => rfl)]) (by unfold maxLen; omega), fun g hg => by simp [Value.ownBlock] at hg; omega⟩
      have HI := Lib.hid (And.intro o0 (And.intro (B1.out.1.upd u2 (by simp)) (And.intro (B1.out.2.trans u2.nil) (fun g (hg : (Value.slice (some ⟨wx.heap.size, 0, none⟩) 0 n).ownBlock = some g) => show g ∉ S from B1.out.1.fresh (by simp [Value.ownBlock] at hg; omega)))))
      generalize wx.alloc (.cells (rows n fun _ => [Value.int .i64 0]).toArray 3) = w2 at *
      generalize hgg : wx.heap.size = gg at *
      clear o0 u2 hgg c0 c1 c2 f2 B1
      go_wp2_with fail
      go_loopw [6, 34] (fun o i wr => ∃ k : Nat, k ≤ n ∧ i = .int .u64 k ∧ (rdN bs p1 0 k).2.2 = 0 ∧ Rd wr q bs (rdN bs p1 0 k).2.1 0 S ∧ OwnV w 3 1 o k (ints (rdN bs p1 0 k).1) wr ∧ (∀ g, o.ownBlock = some g → g ∉ S) ∧ Upd [q] w wr) (fun _ i _ => n - (intOf i).toNat)
      case atStart => exact ⟨0, by omega, rfl, rfl, HI.out.2.1, HI.out.1, HI.out.2.2.2, HI.out.2.2.1⟩
      case round =>
        clear HI
        obtain ⟨k, hk, rfl, he0, hr, ho, hap, hu⟩ := hrel
        by_cases hlt2 : k < n
        · have hc := Int_r_calls hr (rdU_lt hu8.out)
          have hsucc : rdN bs p1 0 (k + 1) = ((rdN bs p1 0 k).1 ++ [uzz (rdU bs (rdN bs p1 0 k).2.1 0).1], (rdU bs (rdN bs p1 0 k).2.1 0).2) := by
            show ((rdN bs p1 0 k).1 ++ [uzz (rdU bs (rdN bs p1 0 k).2.1 (rdN bs p1 0 k).2.2).1], (rdU bs (rdN bs p1 0 k).2.1 (rdN bs p1 0 k).2.2).2) = _
            rw [he0]
          generalize rdN bs p1 0 k = LL at *
          obtain ⟨L0, p0, e0⟩ := LL
          simp only at he0 hr ho hc hsucc
          generalize rdU bs p0 0 = ra at *
          obtain ⟨v1, p2, e2⟩ := ra
          simp only at hc hsucc
          obtain ⟨ao, co, rfl, hco, hco2, _⟩ := SL.elems ho.sl
          have HC := Lib.hid hc
          have HL := Lib.hid hsucc
          have HO := Lib.hid (And.intro ho (And.intro hap (And.intro hu hr)))
          clear hc hsucc ho hap hu hr
          go_wp2_with fail
          refine HC.out.mono ?_
          rintro ed w3 ⟨rfl, r3, u3⟩
          simp only at r3 ⊢
          obtain ⟨sv, hS, hB, _, _⟩ := r3.ex
          have d2 := hB.cell (i := 2) rfl
          have hqq := HO.out.2.2.2.q_mem
          have o3 := HO.out.1.upd u3 (fun b hb hv => by simp at hb; subst hb; exact HO.out.2.1 _ hv hqq)
          have z3 := HO.out.2.2.1.size
          have z4 := u3.size
          have H3 := Lib.hid (And.intro r3 (And.intro o3 (HO.out.2.2.1.trans u3)))
          clear r3 u3 hB hS o3 hqq HC
          by_cases h2 : e2 = 0
          · subst h2
            go_wp2_with (refine wpList_push rfl rfl _ _ _ _ rfl rfl rfl 3 1 8 _ Try.underlying22 infoInt rfl (by decide) (by decide) (.int .i64 _) [.int .i64 _] rfl rfl rfl (ints_one [_]) _ _ _ H3.out.2.1.row rfl rfl (by unfold maxLen; omega) (by omega) ?_; intro g1 cap1 w4 o4 u4 k4)
            have N := H3.out.2.1.push (by omega) o4 k4
            refine ⟨⟨k + 1, by omega, by go_num, by rw [HL.out], ?_, ?_, ?_, ?_⟩, by simp [intOf]; omega⟩
            · rw [HL.out]
              exact H3.out.1.upd u4 (fun b hb hb2 => HO.out.2.1 b (by simpa using hb2) hb)
            · rw [HL.out, ints_append]
              exact N
            · intro g hg hm
              simp only [Value.ownBlock, Option.some.injEq] at hg
              subst hg
              rcases k4 with k4 | k4
              · exact HO.out.2.1 _ k4 hm
              · exact H3.out.1.fresh k4 hm
            · exact H3.out.2.2.fresh u4 (fun j hj => .inr (HO.out.1.fresh j (by simpa using hj)))
          · have hb2 : (e2 != 0) = true := by simpa using h2
            have herr := rdN_err (bs := bs) (p := p1) (e := 0) (k := k + 1) (by rw [HL.out]; exact h2) n (by omega)
            rw [HL.out] at herr
            have HE := Lib.hid (show res = ([], p2, e2) by rw [HR2.out, if_pos (by rw [herr]; exact h2), herr])
            clear herr
            go_wp2_with fail
            go_ret
            rw [HE.out]
            exact ⟨_, rfl, H3.out.1, (OwnV.nil w w3 3 1).sl, H3.out.2.2, by simp [Value.ownBlock]⟩
        · have hkn : k = n := by omega
          subst hkn
          have HE := Lib.hid (show res = rdN bs p1 0 k by rw [HR2.out, if_neg (by simpa using he0)])
          obtain ⟨ao, co, rfl, hco, hco2, _⟩ := SL.elems ho.sl
          go_wp2_with fail
          go_ret
          rw [HE.out]
          refine ⟨_, rfl, by rw [he0]; exact hr, by rw [rdN_length]; exact ho.sl, hu, ho.fresh⟩
  · have HR1 := Lib.hid (show res = ([], p1, e1) by rw [HR0.out, if_pos he])
    have hbe : (e1 != 0) = true := by simpa using he
    go_wp2_with fail
    go_ret
    rw [HR1.out]
    exact ⟨_, rfl, H1.out.1, (OwnV.nil w w1 3 1).sl, H1.out.2.1, by simp [Value.ownBlock]⟩
end
end Wire
end Go.Proofs.Ytgdpbhbdeaifbaa
