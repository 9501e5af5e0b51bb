/- Walks through package clause: Chain, Subsumes, with maps. Conditions: none. -/
import Derived.Test.YtgdpbhbdeaifbaaChain
set_option linter.unusedVariables false
set_option linter.unusedSimpArgs false
set_option linter.unusedSectionVars false
open Go.RowKit
namespace Go.Proofs.Ytgdpbhbdeaifbaa
open L
namespace Cla
open R01 R14
/-- A map of this program's type. -/
def MBt (w : World) (b n : Nat) (f : Int → Bool) : Prop := MB Try.prog 3 4 w b n f
section
variable {w w' : World} {b n : Nat} {f : Int → Bool}
theorem MBt.look (h : MBt w b n f) {key : Int} (hi : IsI64 key) : (Instr.lookup 61 (.map (some b)) (.int .i64 key) false).run Try.prog w = .ok (.bool (f key)) w :=
  MB.look h Try.underlying3 Try.underlying61 Try.underlying4 infoBool hi
theorem MBt.upd {S : List Nat} (h : MBt w b n f) (hu : Upd S w w') (hb : b ∉ S) : MBt w' b n f := MB.upd h hu hb
theorem MBt.new (w : World) : MBt (w.alloc (.map #[] 0)) w.heap.size 0 (fun _ => false) := MB.new w _ _ _
end
section
variable {w : World}
set_option maxRecDepth 100000 in
set_option maxHeartbeats 1000000 in
theorem Literals_calls {v : Value} {c : List Int} (h : SL w 1 v c.length (ints c)) (hl : c.length ≤ 1000000) (hi : ∀ x ∈ c, IsI64 x) :
    Calls Try.prog 47 #[v] w fun e w' => ∃ b n, e = .returned (.map (some b)) ∧ MBt w' b n (hasB c) ∧ Upd [] w w' := by
  obtain ⟨a, cap, rfl, q1, r1, hc⟩ := SL.elems h
  have HC := Lib.hid (And.intro hc hi)
  have hmm := run_makeMapN (P := Try.prog) Try.underlying61
  clear hc h hi
  go_enter Try.func47, Try.ntmps47
  go_wp2_with fail
  have M0 := MBt.new w
  have u0 := (Upd.refl [] w).alloc (.map #[] 0)
  generalize hw0 : w.alloc (.map #[] 0) = w0 at *
  have hb0 : w.heap.size ≤ w.heap.size := Nat.le_refl _
  generalize hbb : w.heap.size = bb at *
  have H0 := Lib.hid (And.intro M0 (And.intro u0 (And.intro hw0 hbb)))
  clear M0 u0 hw0 hbb hb0 hmm
  go_loopw [11] (fun i wr => ∃ k : Nat, k ≤ c.length ∧ i = .int .i64 k ∧ MBt wr bb k (hasB (c.take k)) ∧ Upd [] w wr) (fun i _ => c.length - (intOf i).toNat)
  case atStart => exact ⟨0, Nat.zero_le _, rfl, MB.congr H0.out.1 (fun x _ => by simp [hasB]), H0.out.2.1⟩
  case round =>
    obtain ⟨k, hk, rfl, hm, hu⟩ := hrel
    by_cases hlt : k < c.length
    · obtain ⟨g, off, rfl, k1⟩ := HC.out.1 (by omega)
      have e1 := hu.some (k1 k _ (ints_gd hlt)) (by simp)
      have hxi := HC.out.2 _ (gd_mem hlt)
      have hts : c.take (k + 1) = c.take k ++ [c.getD k 0] := by rw [List.take_add_one, gd_some (d := 0) hlt]; rfl
      have HM := Lib.hid (And.intro hm (And.intro hts hu))
      clear k1 hm hts hu
      generalize c.getD k 0 = x at *
      go_wp2_with (refine L.wpList_mbput Try.underlying3 Try.underlying61 Try.underlying4 rfl _ _ _ rfl bb k (hasB (c.take k)) x true rfl rfl rfl HM.out.1 (by unfold maxLen; omega) hxi ?_; intro w4 m4 u4)
      refine ⟨⟨k + 1, by omega, by go_num, ?_, HM.out.2.2.fresh u4 (fun j hj => .inr (by simp at hj; rw [hj, ← H0.out.2.2.2]; exact Nat.le_refl _))⟩, by simp [intOf]; omega⟩
      rw [HM.out.2.1]
      refine MB.congr m4 (fun y _ => ?_)
      by_cases hy : y = x
      · subst hy; rw [if_pos rfl, eq_comm, hasB_iff]; simp
      · rw [if_neg hy, Bool.eq_iff_iff, hasB_iff, hasB_iff]; simp [hy]
    · have hkl : c.take k = c := List.take_of_length_le (by omega)
      rw [hkl] at hm
      have HM := Lib.hid (And.intro hm hu)
      clear hm hkl hu
      go_wp2_with fail
      go_ret
      exact ⟨bb, k, rfl, HM.out.1, HM.out.2⟩
set_option maxRecDepth 100000 in
set_option maxHeartbeats 2000000 in
theorem Subs_calls {v1 v2 : Value} {a b : List Int} (h1 : SL w 1 v1 a.length (ints a)) (h2 : SL w 1 v2 b.length (ints b)) :
    Calls Try.prog 23 #[v1, v2] w fun e w' => e = .returned (.tuple #[.bool (subsB a b), .int .i64 (subsE a b)]) ∧ Upd [] w w' := by
  have HL1 := Lib.hid (listError_calls h1)
  have HL2 := Lib.hid (listError_calls h2)
  obtain ⟨aa, cap, rfl, q1, r1, hc⟩ := SL.elems h1
  have HC := Lib.hid hc
  by_cases e1 : listErr a = 0
  · have E1 := Lib.hid e1
    by_cases e2 : listErr b = 0
    · have E2 := Lib.hid e2
      have HE := Lib.hid (show subsE a b = 0 by unfold subsE; rw [if_neg (by rw [e1]; simp), e2])
      have HLT := Lib.hid (Literals_calls h2 (by have := (listErr_lit e2).1; omega) (fun x hx => by have := (listErr_lit e2).2 x hx; unfold IsI64; omega))
      have HLA := Lib.hid (listErr_lit e1).2
      clear e1 e2 h1 h2 hc
      go_enter Try.func23, Try.ntmps23
      go_wp2_with fail
      refine HL1.out.mono ?_
      rintro e _ ⟨rfl, rfl⟩
      rw [E1.out]
      go_wp2_with fail
      refine HL2.out.mono ?_
      rintro e _ ⟨rfl, rfl⟩
      rw [E2.out]
      go_wp2_with fail
      refine HLT.out.mono ?_
      rintro e w4 ⟨mb, mn, rfl, hm4, u4⟩
      have HM := Lib.hid (And.intro hm4 u4)
      clear hm4 u4
      go_wp2_with fail
      go_loop [25] (fun i => ∃ k : Nat, k ≤ a.length ∧ i = .int .i64 k ∧ ∀ x ∈ a.take k, x ∈ b) (fun i => a.length - (intOf i).toNat)
      case atStart => exact ⟨0, Nat.zero_le _, rfl, by simp⟩
      case round =>
        obtain ⟨k, hk, rfl, hlo⟩ := hrel
        have HLO := Lib.hid hlo
        clear hlo
        by_cases hlt : k < a.length
        · obtain ⟨g, off, rfl, k1⟩ := HC.out (by omega)
          have e1 := HM.out.2.some (k1 k _ (ints_gd hlt)) (by simp)
          have hmem := gd_mem hlt
          clear k1
          generalize hgx : a.getD k 0 = x at *
          have HG := Lib.hid (And.intro hgx hmem)
          have hrun := HM.out.1.look (show IsI64 x by have := HLA.out x hmem; unfold IsI64; omega)
          clear hgx hmem
          by_cases hx : x ∈ b
          · rw [hasB_iff.2 hx] at hrun
            have HX := Lib.hid hx
            clear hx
            go_wp2_with fail
            refine ⟨⟨k + 1, by omega, by go_num, ?_⟩, by simp [intOf]; omega⟩
            rw [List.take_add_one, gd_some (d := 0) hlt, HG.out.1]
            intro y hy
            rcases List.mem_append.1 hy with hy | hy
            · exact HLO.out y hy
            · simp at hy; subst hy; exact HX.out
          · rw [hasB_no.2 hx] at hrun
            have HX := Lib.hid hx
            clear hx
            go_wp2_with fail
            go_ret2
            rw [HE.out, show subsB a b = false by unfold subsB; rw [decide_eq_false_iff_not]; rintro ⟨_, _, h⟩; exact HX.out (h x HG.out.2)]
            exact ⟨rfl, HM.out.2⟩
        · have HA := Lib.hid (show ∀ x ∈ a, x ∈ b by have := HLO.out; rwa [List.take_of_length_le (by omega)] at this)
          go_wp2_with fail
          go_ret2
          rw [HE.out, show subsB a b = true by unfold subsB; rw [decide_eq_true_eq]; exact ⟨E1.out, E2.out, HA.out⟩]
          exact ⟨rfl, HM.out.2⟩
    · have HE := Lib.hid (And.intro (show subsE a b = listErr b by unfold subsE; rw [if_neg (by rw [e1]; simp)]) (show subsB a b = false by unfold subsB; rw [decide_eq_false_iff_not]; rintro ⟨_, h, _⟩; exact e2 h))
      have hb : (listErr b != 0) = true := by simpa using e2
      clear e1 e2 h1 h2 hc
      generalize listErr b = er at *
      go_enter Try.func23, Try.ntmps23
      go_wp2_with fail
      refine HL1.out.mono ?_
      rintro e _ ⟨rfl, rfl⟩
      rw [E1.out]
      go_wp2_with fail
      refine HL2.out.mono ?_
      rintro e _ ⟨rfl, rfl⟩
      go_wp2_with fail
      go_ret2
      rw [HE.out.1, HE.out.2]
      exact ⟨rfl, Upd.refl _ _⟩
  · have HE := Lib.hid (And.intro (show subsE a b = listErr a by unfold subsE; rw [if_pos e1]) (show subsB a b = false by unfold subsB; rw [decide_eq_false_iff_not]; rintro ⟨h, _⟩; exact e1 h))
    have hb : (listErr a != 0) = true := by simpa using e1
    clear e1 h1 h2 hc
    generalize listErr a = er at *
    go_enter Try.func23, Try.ntmps23
    go_wp2_with fail
    refine HL1.out.mono ?_
    rintro e _ ⟨rfl, rfl⟩
    go_wp2_with fail
    go_ret2
    rw [HE.out.1, HE.out.2]
    exact ⟨rfl, Upd.refl _ _⟩
end
end Cla
end Go.Proofs.Ytgdpbhbdeaifbaa
