/- Walks through chains of hints: examine, Chain, the reference's Chain and State. Conditions: none. -/
import Derived.Test.YtdhhohnaehdpkaaRef14b
import Derived.Test.YtdhhohnaehdpkaaMap
set_option linter.unusedVariables false
set_option linter.unusedSimpArgs false
set_option linter.unusedSectionVars false
open Go.RowKit
namespace Go.Proofs.Ytdhhohnaehdpkaa
open L
namespace Cla
open R01 R14
theorem infoInts : (Try.prog.info? 22).map (fun i => (i.zero, i.size, i.bytes)) = some (some (.slice none 0 0), 1, 24) := by kernel_rfl
theorem infoBool : (Try.prog.info? 4).map (fun i => (i.zero, i.size, i.bytes)) = some (some (.bool false), 1, 1) := by kernel_rfl
/-- The first error of some clauses. -/
def examErr : List (List Int) → Int
  | [] => 0
  | c :: r => if validErr c ≠ 0 then validErr c else examErr r
theorem examErr_ok : ∀ {cs : List (List Int)}, examErr cs = 0 → ∀ c ∈ cs, validErr c = 0
  | [], _, c, hc => by simp at hc
  | d :: r, h, c, hc => by
    unfold examErr at h
    split at h
    · contradiction
    · rename_i h2
      simp only [List.mem_cons] at hc
      rcases hc with rfl | hc
      · exact Classical.not_not.1 h2
      · exact examErr_ok h c hc
theorem valid_lit {c : List Int} (h : validErr c = 0) : c.length ≤ 65536 ∧ ∀ x ∈ c, x ≠ 0 ∧ LitR x := by
  obtain ⟨h1, h2⟩ := listErr_lit (validErr_ok.1 h).1
  exact ⟨h1, fun x hx => ⟨(h2 x hx).1, (h2 x hx).2⟩⟩
def ChainT (r : Int) (w : World) (e : Ending) (w' : World) : Prop := e = .returned (.int .i64 r) ∧ Upd [] w w'
section
variable {w : World}
set_option maxRecDepth 100000 in
set_option maxHeartbeats 2000000 in
theorem Examine_calls {v : Value} {cs : List (List Int)} (h : CL w v cs) : Calls Try.prog 59 #[v] w (ChainT (examErr cs) w) := by
  obtain ⟨a, cap, rfl, q1, r1, hc⟩ := h.form
  have HC := Lib.hid hc
  clear h hc
  go_enter Try.func59, Try.ntmps59
  go_wp2_with fail
  go_loopw [8] (fun i wr => ∃ k : Nat, k ≤ cs.length ∧ i = .int .i64 k ∧ examErr cs = examErr (cs.drop k) ∧ Upd [] w wr) (fun i _ => cs.length - (intOf i).toNat)
  case atStart => exact ⟨0, Nat.zero_le _, rfl, by simp, Upd.refl _ _⟩
  case round =>
    obtain ⟨k, hk, rfl, he, hu⟩ := hrel
    have HE := Lib.hid he
    clear he
    by_cases hlt : k < cs.length
    · obtain ⟨g, off, ay, capy, rfl, e1, hs, _, _⟩ := (HC.out k hlt).upd hu
      have HV := Lib.hid (Valid_calls hs)
      have HD := Lib.hid (show examErr (cs.drop k) = if validErr (cs.getD k []) ≠ 0 then validErr (cs.getD k []) else examErr (cs.drop (k + 1)) by rw [gd_cons (d := []) hlt, examErr])
      clear hs
      generalize cs.getD k [] = c at *
      by_cases hv : validErr c = 0
      · have HZ := Lib.hid hv
        rw [if_neg (by rw [hv]; simp)] at HD
        clear hv
        go_wp2_with (go_at_call 35; refine HV.out.mono ?_; rintro e w2 ⟨rfl, hu2⟩; rw [HZ.out])
        exact ⟨⟨k + 1, by omega, by go_num, HE.out.trans HD.out, hu.step hu2⟩, by simp [intOf]; omega⟩
      · rw [if_pos hv] at HD
        have hb : (validErr c != 0) = true := by simpa using hv
        clear hv
        generalize validErr c = er at *
        go_wp2_with (go_at_call 35; refine HV.out.mono ?_; rintro e w2 ⟨rfl, hu2⟩)
        go_ret
        exact ⟨ret_int (HD.out.symm.trans HE.out.symm), hu.step hu2⟩
    · have HZ := Lib.hid (show examErr cs = 0 by rw [HE.out, List.drop_eq_nil_of_le (by omega)]; rfl)
      go_wp2_with fail
      go_ret
      exact ⟨ret_int HZ.out.symm, hu⟩
/-- What is left of a hint. -/
def left (no h : List Int) : List Int := h.filter fun x => !hasB no x
/-- Unit propagation of hints. -/
def chainLoop (no : List Int) : List (List Int) → Int
  | [] => 14
  | h :: r => match left no h with
    | [] => if r.length = 0 then 0 else 14
    | [x] => if hasB no (-x) = true then 14 else chainLoop (no ++ [-x]) r
    | _ => 14
def chainRes (c : List Int) (hs : List (List Int)) : Int := if validErr c ≠ 0 then validErr c else if examErr hs ≠ 0 then examErr hs else chainLoop c hs
end
end Cla
end Go.Proofs.Ytdhhohnaehdpkaa
