/- Walks through package gate: normal. Conditions: none. -/
import Derived.Test.YtjflbhkhnmodaaaGateA
import Derived.Test.YtjflbhkhnmodaaaColl
set_option linter.unusedVariables false
set_option linter.unusedSimpArgs false
set_option linter.unusedSectionVars false
open Go.RowKit
namespace Go.Proofs.Ytjflbhkhnmodaaa
open L
namespace Gate
open Cla R14
theorem infoInts : (Try.prog.info? 24).map (fun i => (i.zero, i.size, i.bytes)) = some (some (.slice none 0 0), 1, 24) := by kernel_rfl
theorem SLown_lt {w : World} {k n b : Nat} {v : Value} {cs : List Value} (h : SL w k v n cs) (hn : 0 < n * k) (hb : v.ownBlock = some b) : b < w.heap.size := by
  obtain ⟨hl, a, cap, rfl, h2, h3, hz, h4⟩ := h
  rcases h4 with h4 | ⟨g, off, rfl, h4⟩
  · subst h4; simp at hn
  · have h0 : 0 < cs.length := by omega
    have hc := h4 0 _ (List.getElem?_eq_getElem h0)
    have hlt := World.block_lt_of_cell? w _ hc
    cases hb
    exact hlt
theorem norm_pos {c : List Int} (h : 0 < c.length) : 0 < (norm c).length * 1 := by
  obtain ⟨x, hx⟩ := List.exists_mem_of_length_pos h
  have := List.length_pos_of_mem ((norm_mem c x).2 hx)
  omega
section
variable {w : World}
set_option maxRecDepth 100000 in
set_option maxHeartbeats 4000000 in
theorem normal_calls {lv : Value} {cs : List (List Int)} (h : CL w lv cs) (hg : ∀ c ∈ cs, listErr c = 0 ∧ 0 < c.length) (hl : cs.length ≤ 100) :
    Calls Try.prog 20 #[lv] w (LsT (keep cs) w) := by
  obtain ⟨a, cap, rfl, q1, r1, hc⟩ := h.form
  have HC := Lib.hid (And.intro hc hg)
  clear h hc hg
  go_enter Try.func20, Try.ntmps20
  go_wp2_with fail
  go_loopw [3, 11] (fun o i wr => ∃ (k : Nat) (F : List Nat), i = .int .i64 k ∧ k ≤ cs.length ∧ OwnL 24 w o (keep (cs.take k)) F wr ∧ (∀ b ∈ F, w.heap.size ≤ b) ∧ Upd [] w wr) (fun _ i _ => cs.length - (intOf i).toNat)
  case atStart => exact ⟨0, [], rfl, Nat.zero_le _, OwnL.nil _ _ _, by simp, Upd.refl _ _⟩
  case round =>
    obtain ⟨wo, rfl⟩ : ∃ wo : World, wo = wr := ⟨_, rfl⟩
    obtain ⟨k, F, rfl, hk, hO, hF, hu⟩ := hrel
    have hkl := keep_len (cs.take k)
    rw [List.length_take] at hkl
    by_cases hlt : k < cs.length
    · obtain ⟨g, off, ay, capy, rfl, e1, hsl, _, _⟩ := (HC.out.1 k hlt).upd hu
      obtain ⟨hle, hc0⟩ := HC.out.2 _ (gd_memA (d := []) hlt)
      have hkt := keep_take hlt
      generalize cs.getD k [] = c at *
      have HL := Lib.hid (And.intro hO (And.intro hF (And.intro hu (And.intro hkt hsl))))
      clear hO hF hu hkt hsl
      generalize keep (cs.take k) = L at *
      cases ht : taut c with
      | true =>
        have HB := Lib.hid (show nB c = true by unfold nB; rw [decide_eq_true_eq]; exact ⟨hle, ht⟩)
        have hnl : nL c = [] := by unfold nL nrm; rw [if_pos hle, if_pos ht]
        have HK := Lib.hid (show keep (cs.take (k + 1)) = L by rw [HL.out.2.2.2.1, if_pos ht]; simp)
        have HN := Lib.hid (Normal_calls HL.out.2.2.2.2)
        clear ht
        go_wp2_with fail
        refine HN.out.mono ?_
        rintro e w2 ⟨v2, rfl, s2, u2⟩
        rw [hnl] at s2
        rw [HB.out, hle]
        obtain ⟨a2, cap2, rfl, _⟩ := SL.elems s2
        have H2 := Lib.hid u2
        clear s2 u2 hnl
        go_wp2_with fail
        exact ⟨⟨k + 1, F, by go_num, by omega, by rw [HK.out]; exact HL.out.1.upd H2.out (by simp), HL.out.2.1, HL.out.2.2.1.step H2.out⟩, by simp [intOf]; omega⟩
      | false =>
        have HB := Lib.hid (show nB c = false by unfold nB; rw [decide_eq_false_iff_not]; rintro ⟨_, h2⟩; rw [ht] at h2; cases h2)
        have hnl : nL c = norm c := by unfold nL nrm; rw [if_pos hle, ht]; simp
        have HK := Lib.hid (show keep (cs.take (k + 1)) = L ++ [norm c] by rw [HL.out.2.2.2.1, ht]; simp)
        have HN := Lib.hid (Normal_callsF HL.out.2.2.2.2)
        clear ht
        go_wp2_with fail
        refine HN.out.mono ?_
        rintro e w2 ⟨v2, rfl, s2, u2, k2⟩
        rw [hnl] at s2
        rw [HB.out, hle]
        obtain ⟨a2, cap2, rfl, _⟩ := SL.elems s2
        have HO := Lib.hid (And.intro s2 (And.intro u2 k2))
        clear s2 u2 k2 hnl
        go_upto_region 7 with fail
        have C1 := HL.out.1.upd HO.out.2.1 (by simp)
        obtain ⟨vals, hv, hvs⟩ := C1.ex
        go_wp2_with (refine wpList_push rfl rfl _ _ _ _ rfl rfl rfl 24 1 24 _ Try.underlying38 infoInts rfl (by decide) (by decide) (.slice a2 (norm c).length cap2) [.slice a2 (norm c).length cap2] rfl rfl rfl (by simp [Value.oneCell']) _ _ _ hv.row rfl rfl (by unfold maxLen; omega) (by omega) ?_; intro g2 cap4 w3 o3 u3 k3)
        have hsz := HL.out.2.2.1.size
        have hsz2 := HO.out.2.1.size
        have L2 := C1.push (c := norm c) hv hvs (by omega) HO.out.1 (fun b hb => by
          have h2 := HO.out.2.2 b hb
          refine ⟨fun h => ?_, ?_⟩
          · have := HL.out.1.own_lt b h
            omega
          · exact SLown_lt HO.out.1 (norm_pos hc0) hb) o3 u3 k3
        have U3 : Upd [] w w3 := (HL.out.2.2.1.step HO.out.2.1).fresh u3 (fun b hb => .inr (hv.fresh b (by simpa using hb)))
        refine ⟨⟨k + 1, F ++ (Value.slice a2 (norm c).length cap2).ownBlock.toList, by go_num, by omega, by rw [HK.out]; exact L2, fun b hb => ?_, U3⟩, by simp [intOf]; omega⟩
        rcases List.mem_append.1 hb with hb | hb
        · exact HL.out.2.1 b hb
        · have := HO.out.2.2 b (by simpa using hb); omega
    · have hcl := hO.cl
      rw [List.take_of_length_le (by omega)] at hcl
      have HQ := Lib.hid (And.intro hcl hu)
      obtain ⟨ah, ch, rfl, _, _, _⟩ := hcl.form
      clear hcl hO hu
      go_wp2_with fail
      go_ret
      exact ⟨_, rfl, HQ.out⟩
end
end Gate
end Go.Proofs.Ytjflbhkhnmodaaa
