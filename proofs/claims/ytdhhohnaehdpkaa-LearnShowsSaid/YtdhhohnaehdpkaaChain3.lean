/- Walks through package clause: Chain, with a map. Conditions: none. -/
import Derived.Test.YtdhhohnaehdpkaaChain2
set_option linter.unusedVariables false
set_option linter.unusedSimpArgs false
set_option linter.unusedSectionVars false
open Go.RowKit
namespace Go.Proofs.Ytdhhohnaehdpkaa
open L
namespace Cla
open R01 R14
/-- The literals that are true, when those of a list are false. -/
def neg_ (no : List Int) (y : Int) : Bool := hasB no (-y)
theorem neg_snoc (no : List Int) (x y : Int) : neg_ (no ++ [x]) y = if y = -x then true else neg_ no y := by
  unfold neg_
  by_cases h : y = -x
  · subst h
    rw [if_pos rfl, hasB_iff]
    simp
  · rw [if_neg h, Bool.eq_iff_iff, hasB_iff, hasB_iff]
    simp only [List.mem_append, List.mem_singleton]
    constructor
    · rintro (h2 | h2)
      · exact h2
      · omega
    · exact .inl
def lastOf (l : List Int) : Int := l.getLast?.getD 0
theorem lastOf_snoc (l : List Int) (x : Int) : lastOf (l ++ [x]) = x := by simp [lastOf]
section
variable {w : World}
set_option maxRecDepth 100000 in
set_option maxHeartbeats 4000000 in
theorem Chain_calls {v1 v2 : Value} {c : List Int} {hs : List (List Int)} (h1 : SL w 1 v1 c.length (ints c)) (h2 : CL w v2 hs) (hl : hs.length ≤ 100000) :
    Calls Try.prog 27 #[v1, v2] w (ChainT (chainRes c hs) w) := by
  have HE2 := Lib.hid (fun (w' : World) (hu : Upd [] w w') => Examine_calls (h2.upd hu))
  obtain ⟨a1, cap1, rfl, p1, s1, hc1⟩ := SL.elems h1
  obtain ⟨a, cap, rfl, q1, r1, hc⟩ := h2.form
  have B1 := Blk.new w [.slice a1 c.length cap1] 22
  have ub := (Upd.refl [] w).alloc (.cells #[.slice a1 c.length cap1] 22)
  have HEX := Lib.hid (Examine_calls (CL.of_blk (cs := [c]) B1 rfl (by simp) (fun i d hd => by
    cases i with
    | zero => simp at hd; subst hd; exact ⟨_, rfl, h1.upd ub (by simp)⟩
    | succ i => simp at hd)))
  have HC := Lib.hid (And.intro hc hc1)
  have hmm := run_makeMapN (P := Try.prog) Try.underlying72
  have HB := Lib.hid ub
  clear h1 h2 hc hc1 B1 ub
  have e1c : examErr [c] = validErr c := by
    unfold examErr; split
    · rfl
    · rename_i h; simp at h; rw [h]; rfl
  rw [e1c] at HEX
  clear e1c
  by_cases hv : validErr c = 0
  · have HZ := Lib.hid hv
    have hcl := (valid_lit hv).1
    have HCL := Lib.hid (valid_lit hv).2
    have HR := Lib.hid (show chainRes c hs = if examErr hs ≠ 0 then examErr hs else chainLoop c hs by unfold chainRes; rw [if_neg (by rw [hv]; simp)])
    clear hv
    by_cases hx : examErr hs = 0
    · have HX := Lib.hid (And.intro hx (examErr_ok hx))
      have HRR := Lib.hid (show chainRes c hs = chainLoop c hs by rw [HR.out, if_neg (by rw [hx]; simp)])
      clear hx HR
      go_enter Try.func27, Try.ntmps27
      go_wp2_with fail
      refine HEX.out.mono ?_
      rintro e w1 ⟨rfl, hu1⟩
      rw [HZ.out]
      have HU1 := Lib.hid (HB.out.step hu1)
      clear hu1
      go_wp2_with fail
      refine (HE2.out w1 HU1.out).mono ?_
      rintro e w2 ⟨rfl, hu2⟩
      rw [HX.out.1]
      have HU2 := Lib.hid (HU1.out.step hu2)
      clear hu2 HU1 HE2 HEX HB
      go_wp2_with fail
      have M0 := MBt.new w2
      have u0 := HU2.out.alloc (.map #[] 0)
      have hz2 := HU2.out.size
      generalize hbb : w2.heap.size = bb at *
      generalize hw0 : w2.alloc (.map #[] 0) = w0 at *
      have H0 := Lib.hid (And.intro M0 u0)
      clear M0 u0 hmm hw0 hbb
      go_loopw [32] (fun i wr => ∃ k : Nat, k ≤ c.length ∧ i = .int .i64 k ∧ MBt wr bb k (neg_ (c.take k)) ∧ Upd [] w wr) (fun i _ => c.length - (intOf i).toNat)
      case atStart => exact ⟨0, Nat.zero_le _, rfl, MB.congr H0.out.1 (fun x _ => by simp [neg_, hasB]), H0.out.2⟩
      case round =>
        obtain ⟨k, hk, rfl, hm, hu⟩ := hrel
        by_cases hlt : k < c.length
        · obtain ⟨g, off, rfl, k1⟩ := HC.out.2 (by omega)
          have e1 := hu.some (k1 k _ (ints_gd hlt)) (by simp)
          obtain ⟨_, hx1, hx2⟩ := HCL.out _ (gd_mem hlt)
          have hts : c.take (k + 1) = c.take k ++ [c.getD k 0] := by rw [List.take_add_one, gd_some (d := 0) hlt]; rfl
          have HM := Lib.hid (And.intro hm (And.intro hts hu))
          clear k1 hm hts hu
          generalize c.getD k 0 = x at *
          go_wp2_with (refine L.wpList_mbput Try.underlying3 Try.underlying72 Try.underlying4 rfl _ _ _ rfl bb k (neg_ (c.take k)) (-x) true rfl rfl rfl HM.out.1 (by unfold maxLen; omega) (by unfold IsI64; omega) ?_; intro w4 m4 u4)
          refine ⟨⟨k + 1, by omega, by go_num, ?_, HM.out.2.2.fresh u4 (fun j hj => .inr (by simp at hj; omega))⟩, by simp [intOf]; omega⟩
          rw [HM.out.2.1]
          exact MB.congr m4 (fun y _ => (neg_snoc _ _ _).symm)
        · have hkl : c.take k = c := List.take_of_length_le (by omega)
          rw [hkl] at hm
          have HM := Lib.hid (And.intro hm hu)
          have hkc : k ≤ 65536 := by omega
          clear hm hkl hu HU2 H0 HCL
          go_wp2_with fail
          obtain ⟨wo, rfl⟩ : ∃ wo : World, wo = wr := ⟨_, rfl⟩
          go_loopw [42] (fun i wq => ∃ (k n : Nat) (no : List Int), k ≤ hs.length ∧ i = .int .i64 k ∧ n ≤ 65536 + k ∧ MBt wq bb n (neg_ no) ∧ Upd [] w wq ∧ chainRes c hs = chainLoop no (hs.drop k)) (fun i _ => hs.length - (intOf i).toNat)
          case atStart => exact ⟨0, k, c, Nat.zero_le _, rfl, by omega, HM.out.1, HM.out.2, by rw [HRR.out]; simp⟩
          case round =>
            clear HM hkc hk hlt
            obtain ⟨wq, rfl⟩ : ∃ wq : World, wq = wr := ⟨_, rfl⟩
            obtain ⟨k, n, no, hk, rfl, hn, hm, hu, hch⟩ := hrel
            by_cases hlt : k < hs.length
            · obtain ⟨g, off, ay, capy, rfl, e1, hsl, hq, hr⟩ := (HC.out.1 k hlt).upd hu
              have hvl := valid_lit (HX.out.2 _ (gd_memA (d := []) hlt))
              have HDR := Lib.hid (show chainRes c hs = chainLoop no (hs.getD k [] :: hs.drop (k + 1)) by rw [hch, gd_cons (d := []) hlt])
              generalize hs.getD k [] = h at *
              have hhl := hvl.1
              have HVL := Lib.hid hvl.2
              obtain ⟨_, _, he0, _, _, hin⟩ := SL.elems hsl
              cases he0
              have HH := Lib.hid (And.intro hm (And.intro hin hu))
              clear hvl hsl hin hm hu hch
              go_wp2_with fail
              go_loop [12, 13, 49] (fun o cn i => ∃ m : Nat, m ≤ h.length ∧ i = .int .i64 m ∧ o = .int .i64 (lastOf (left no (h.take m))) ∧ cn = .int .i64 (left no (h.take m)).length) (fun _ _ i => h.length - (intOf i).toNat)
              case atStart => exact ⟨0, Nat.zero_le _, rfl, rfl, rfl⟩
              case round =>
                obtain ⟨m, hm, rfl, rfl, rfl⟩ := hrel
                have hll : (left no (h.take m)).length ≤ h.length := Nat.le_trans (List.length_filter_le _ _) (by rw [List.length_take]; omega)
                by_cases hltm : m < h.length
                · obtain ⟨g2, off2, rfl, k2⟩ := HH.out.2.1 (by omega)
                  have e2 := k2 m _ (ints_gd hltm)
                  obtain ⟨_, hx1, hx2⟩ := HVL.out _ (gd_mem hltm)
                  have hts : h.take (m + 1) = h.take m ++ [h.getD m 0] := by rw [List.take_add_one, gd_some (d := 0) hltm]; rfl
                  have HA := Lib.hid hts
                  clear k2 hts
                  generalize h.getD m 0 = x at *
                  have hrun := HH.out.1.look (key := -x) (by unfold IsI64; omega)
                  have hnn : neg_ no (-x) = hasB no x := by unfold neg_; rw [Int.neg_neg]
                  rw [hnn] at hrun
                  clear hnn
                  cases hx : hasB no x with
                  | true =>
                    rw [hx] at hrun
                    have HX := Lib.hid (show left no (h.take m ++ [x]) = left no (h.take m) by simp [left, List.filter_append, hx])
                    clear hx
                    generalize hlq : left no (h.take m) = lq at *
                    have HLQ := Lib.hid hlq
                    clear hlq
                    go_wp2_with fail
                    exact ⟨⟨m + 1, by omega, by go_num, by rw [HA.out, HX.out], by rw [HA.out, HX.out]⟩, by simp [intOf]; omega⟩
                  | false =>
                    rw [hx] at hrun
                    have HX := Lib.hid (show left no (h.take m ++ [x]) = left no (h.take m) ++ [x] by simp [left, List.filter_append, hx])
                    clear hx
                    generalize hlq : left no (h.take m) = lq at *
                    have HLQ := Lib.hid hlq
                    clear hlq
                    go_wp2_with fail
                    exact ⟨⟨m + 1, by omega, by go_num, by rw [HA.out, HX.out, lastOf_snoc], by rw [HA.out, HX.out]; simp⟩, by simp [intOf]; omega⟩
                · have htk : h.take m = h := List.take_of_length_le (by omega)
                  rw [htk] at *
                  clear htk
                  rcases hL : left no h with _ | ⟨x, _ | ⟨y, r⟩⟩
                  · have HO := Lib.hid hL
                    clear hL
                    by_cases hlast : k + 1 = hs.length
                    · have hb : ((k : Int) == (hs.length : Int) - 1) = true := by rw [beq_iff_eq]; omega
                      have HF := Lib.hid (show chainRes c hs = 0 by rw [HDR.out, chainLoop, HO.out]; simp [List.length_drop]; omega)
                      clear hlast
                      go_wp2_with fail
                      go_ret
                      exact ⟨ret_int HF.out.symm, HH.out.2.2⟩
                    · have hb : ((k : Int) == (hs.length : Int) - 1) = false := by rw [beq_eq_false_iff_ne]; omega
                      have HF := Lib.hid (show chainRes c hs = 14 by rw [HDR.out, chainLoop, HO.out]; simp [List.length_drop]; omega)
                      clear hlast
                      go_wp2_with fail
                      go_ret
                      exact ⟨ret_int HF.out.symm, HH.out.2.2⟩
                  · have hxm : x ∈ h := by
                      have : x ∈ left no h := by rw [hL]; simp
                      exact (List.mem_filter.1 this).1
                    obtain ⟨_, hx1, hx2⟩ := HVL.out x hxm
                    have HO := Lib.hid hL
                    have hlo : lastOf [x] = x := rfl
                    rw [hlo]
                    have hrun := HH.out.1.look (key := x) (by unfold IsI64; omega)
                    have hnn : neg_ no x = hasB no (-x) := rfl
                    rw [hnn] at hrun
                    clear hnn hL hlo hxm
                    cases hnx : hasB no (-x) with
                    | true =>
                      rw [hnx] at hrun
                      have HF := Lib.hid (show chainRes c hs = 14 by rw [HDR.out, chainLoop, HO.out]; simp [hnx])
                      clear hnx
                      go_wp2_with fail
                      go_ret
                      exact ⟨ret_int HF.out.symm, HH.out.2.2⟩
                    | false =>
                      rw [hnx] at hrun
                      have HF := Lib.hid (show chainRes c hs = chainLoop (no ++ [-x]) (hs.drop (k + 1)) by rw [HDR.out, chainLoop, HO.out]; simp [hnx])
                      clear hnx
                      go_wp2_with (refine L.wpList_mbput Try.underlying3 Try.underlying72 Try.underlying4 rfl _ _ _ rfl bb n (neg_ no) x true rfl rfl rfl HH.out.1 (by unfold maxLen; omega) (by unfold IsI64; omega) ?_; intro w4 m4 u4)
                      refine ⟨⟨k + 1, n + 1, no ++ [-x], by omega, by go_num, by omega, ?_, HH.out.2.2.fresh u4 (fun j hj => .inr (by simp at hj; omega)), HF.out⟩, by simp [intOf]; omega⟩
                      exact MB.congr m4 (fun y _ => by rw [neg_snoc, Int.neg_neg])
                  · have HO := Lib.hid hL
                    have HF := Lib.hid (show chainRes c hs = 14 by rw [HDR.out, chainLoop, HO.out])
                    clear hL
                    have hgt : (((x :: y :: r).length : Int) != 1) = true := by rw [bne_iff_ne]; simp; omega
                    have hz : (((x :: y :: r).length : Int) == 0) = false := by rw [beq_eq_false_iff_ne]; simp; omega
                    generalize (x :: y :: r).length = ln at *
                    generalize lastOf (x :: y :: r) = la at *
                    go_wp2_with fail
                    go_ret
                    exact ⟨ret_int HF.out.symm, HH.out.2.2⟩
            · have HF := Lib.hid (And.intro (show chainRes c hs = 14 by rw [hch, List.drop_eq_nil_of_le (by omega)]; rfl) hu)
              clear hch hm hu
              go_wp2_with fail
              go_ret
              exact ⟨ret_int HF.out.1.symm, HF.out.2⟩
    · have HRR := Lib.hid (show chainRes c hs = examErr hs by rw [HR.out, if_pos hx])
      have hb : (examErr hs != 0) = true := by simpa using hx
      clear hx HR
      generalize examErr hs = er at *
      go_enter Try.func27, Try.ntmps27
      go_wp2_with fail
      refine HEX.out.mono ?_
      rintro e w1 ⟨rfl, hu1⟩
      rw [HZ.out]
      have HU1 := Lib.hid (HB.out.step hu1)
      clear hu1
      go_wp2_with fail
      refine (HE2.out w1 HU1.out).mono ?_
      rintro e w2 ⟨rfl, hu2⟩
      go_wp2_with fail
      go_ret
      exact ⟨ret_int HRR.out.symm, HU1.out.step hu2⟩
  · have HR := Lib.hid (show chainRes c hs = validErr c by unfold chainRes; rw [if_pos hv])
    have hb : (validErr c != 0) = true := by simpa using hv
    clear hv
    generalize validErr c = er at *
    go_enter Try.func27, Try.ntmps27
    go_wp2_with fail
    refine HEX.out.mono ?_
    rintro e w1 ⟨rfl, hu1⟩
    go_wp2_with fail
    go_ret
    exact ⟨ret_int HR.out.symm, HB.out.step hu1⟩
end
end Cla
end Go.Proofs.Ytdhhohnaehdpkaa
