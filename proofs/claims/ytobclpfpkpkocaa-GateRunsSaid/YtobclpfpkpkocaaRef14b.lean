/- Walks through the reference of clauses: Normal, without, Value, True, Subsumes, State. Conditions: none. -/
import Derived.Test.YtobclpfpkpkocaaRef14
set_option linter.unusedVariables false
set_option linter.unusedSimpArgs false
set_option linter.unusedSectionVars false
open Go.RowKit
namespace Go.Proofs.Ytobclpfpkpkocaa
open L
namespace Cla
open R01 R14
def nrm (c : List Int) : List Int := if taut c = true then [] else norm c
def tautB (c : List Int) : Bool := taut c
theorem taut_no {c : List Int} : taut c = false ↔ ∀ x ∈ c, -x ∉ c := by
  unfold taut
  rw [List.any_eq_false]
  constructor
  · intro h x hx h2; exact h x hx (List.contains_iff_mem.2 h2)
  · intro h x hx h2; exact h x hx (List.contains_iff_mem.1 h2)
theorem taut_yes {c : List Int} {x : Int} (hx : x ∈ c) (h : -x ∈ c) : taut c = true := by
  unfold taut
  rw [List.any_eq_true]
  exact ⟨x, hx, List.contains_iff_mem.2 h⟩
theorem putAll_length (c : List Int) : (putAll c).length ≤ c.length := by
  unfold putAll
  have : ∀ (c l : List Int), (c.foldl put l).length ≤ l.length + c.length := by
    intro c
    induction c with
    | nil => intro l; simp
    | cons x c ih => intro l; rw [List.foldl_cons]; have := ih (put l x); have := put_length l x; simp; omega
  have := this c []
  simpa using this
section
variable {w : World}
def PairF (l : List Int) (b : Bool) (w : World) (e : Ending) (w' : World) : Prop := ∃ v, e = .returned (.tuple #[v, .bool b]) ∧ SL w' 1 v l.length (ints l) ∧ Upd [] w w' ∧ ∀ g, v.ownBlock = some g → w.heap.size ≤ g
def PairT (l : List Int) (b : Bool) (w : World) (e : Ending) (w' : World) : Prop := ∃ v, e = .returned (.tuple #[v, .bool b]) ∧ SL w' 1 v l.length (ints l) ∧ Upd [] w w'
set_option maxRecDepth 100000 in
set_option maxHeartbeats 2000000 in
theorem RNormal_callsF {v : Value} {c : List Int} (h : SL w 1 v c.length (ints c)) (hl : c.length ≤ 900000) (hr : ∀ x ∈ c, x ≠ 0 ∧ LitR x) : Calls Try.prog 31 #[v] w (PairF (nrm c) (tautB c) w) := by
  obtain ⟨a, cap, rfl, q1, r1, hc⟩ := SL.elems h
  have HC := Lib.hid (And.intro hc (And.intro h hr))
  clear hc h hr
  go_enter Try.func31, Try.ntmps31
  go_wp2_with fail
  go_loopw [4, 5] (fun o i wr => ∃ k : Nat, k ≤ c.length ∧ i = .int .i64 k ∧ (∀ x ∈ c.take k, -x ∉ c) ∧ SL wr 1 o (putAll (c.take k)).length (ints (putAll (c.take k))) ∧ Upd [] w wr ∧ ∀ g, o.ownBlock = some g → w.heap.size ≤ g) (fun _ i _ => c.length - (intOf i).toNat)
  case atStart => exact ⟨0, Nat.zero_le _, rfl, by simp, by simpa [putAll, ints] using (Own.nil w).sl, Upd.refl _ _, by simp [Value.ownBlock]⟩
  case round =>
    obtain ⟨k, hk, rfl, hlo, hs, hu, hfr⟩ := hrel
    have HFR := Lib.hid hfr
    clear hfr
    have HLO := Lib.hid (And.intro hlo (And.intro hs hu))
    clear hlo hs hu
    by_cases hlt : k < c.length
    · obtain ⟨g, off, rfl, k1⟩ := HC.out.1 (by omega)
      have e1 := HLO.out.2.2.some (k1 k _ (ints_gd hlt)) (by simp)
      obtain ⟨hx0, hx1, hx2⟩ := HC.out.2.2 _ (gd_mem hlt)
      clear k1
      generalize hgx : c.getD k 0 = x at *
      have HG := Lib.hid (And.intro hgx hx0)
      clear hgx hx0
      by_cases hx : hasB c (-x) = true
      · have HX := Lib.hid hx
        clear hx
        have hha := Has_calls (HC.out.2.1.upd HLO.out.2.2 (by simp)) (-x)
        rw [HX.out] at hha
        have HHA := Lib.hid hha
        clear hha
        go_wp2_with (go_at_call 51; refine HHA.out.mono ?_; rintro e w' ⟨rfl, rfl⟩)
        go_ret2
        have ht := taut_yes (by rw [← HG.out.1]; exact gd_mem hlt) (hasB_iff.1 HX.out)
        refine ⟨.slice none 0 0, ?_, ?_, HLO.out.2.2, by simp [Value.ownBlock]⟩
        · rw [show tautB c = true from ht]; rfl
        · rw [show nrm c = [] by unfold nrm; rw [if_pos ht]]
          exact (Own.nil wr).sl
      · have HX := Lib.hid (show hasB c (-x) = false by simpa using hx)
        clear hx
        have hha := Has_calls (HC.out.2.1.upd HLO.out.2.2 (by simp)) (-x)
        rw [HX.out] at hha
        have hpl := putAll_length (c.take k)
        have hpu := Put_callsF HLO.out.2.1 (by rw [List.length_take] at hpl; omega) (fun y hy => (HC.out.2.2 y (List.mem_of_mem_take ((putAll_mem _ _).1 hy))).2) x ⟨hx1, hx2⟩
        have HHA := Lib.hid (And.intro hha hpu)
        clear hha hpu hpl
        go_wp2_with (first | (go_at_call 51; refine HHA.out.1.mono ?_; rintro e w' ⟨rfl, rfl⟩) | (go_at_call 52; refine HHA.out.2.mono ?_; rintro e w4 ⟨v4, rfl, hs4, hu4, hk4⟩; have HP := Lib.hid (And.intro hs4 (And.intro hu4 hk4)); clear hs4 hu4 hk4))
        have hts : c.take (k + 1) = c.take k ++ [x] := by rw [List.take_add_one, gd_some (d := 0) hlt, HG.out.1]; rfl
        refine ⟨⟨k + 1, by omega, by go_num, ?_, ?_, HLO.out.2.2.step HP.out.2.1, fun g hg => (HP.out.2.2 g hg).elim (HFR.out g) (Nat.le_trans HLO.out.2.2.size)⟩, by simp [intOf]; omega⟩
        · intro y hy
          rw [hts] at hy
          rcases List.mem_append.1 hy with hy | hy
          · exact HLO.out.1 y hy
          · simp at hy; subst hy; exact hasB_no.1 HX.out
        · rw [hts, putAll_snoc]
          exact HP.out.1
    · have HE := Lib.hid (show c.take k = c from List.take_of_length_le (by omega))
      have ht : taut c = false := taut_no.2 (by have := HLO.out.1; rwa [HE.out] at this)
      have HT := Lib.hid ht
      have hsl := HLO.out.2.1
      rw [HE.out, putAll_norm (fun x hx => (HC.out.2.2 x hx).1) ht] at hsl
      obtain ⟨ao, co, rfl, _, _, _⟩ := SL.elems hsl
      have HS := Lib.hid hsl
      clear ht hsl
      go_wp2_with fail
      go_ret2
      refine ⟨.slice ao (norm c).length co, by rw [show tautB c = false from HT.out]; rfl, ?_, HLO.out.2.2, HFR.out⟩
      rw [show nrm c = norm c by unfold nrm; rw [HT.out]; simp]
      exact HS.out
theorem RNormal_calls {v : Value} {c : List Int} (h : SL w 1 v c.length (ints c)) (hl : c.length ≤ 900000) (hr : ∀ x ∈ c, x ≠ 0 ∧ LitR x) : Calls Try.prog 31 #[v] w (PairT (nrm c) (tautB c) w) :=
  (RNormal_callsF h hl hr).mono fun _ _ ⟨v', h1, h2, h3, _⟩ => ⟨v', h1, h2, h3⟩
def wout (c : List Int) (n : Int) : List Int := c.filter fun x => x != n
theorem Value_calls {av : Value} {a : List Int} (ha : SL w 1 av a.length (ints a)) (x : Int) (hx : -9223372036854775808 < x) (hr : x.natAbs < a.length) (hv : -9223372036854775808 < a.getD x.natAbs 0 ∧ a.getD x.natAbs 0 ≤ 9223372036854775807) :
    Calls Try.prog 48 #[.int .i64 x, av] w fun e w' => e = .returned (.int .i64 (lval a x)) ∧ w = w' := by
  obtain ⟨aa, cap, rfl, q1, r1, hc⟩ := SL.elems ha
  obtain ⟨g, off, rfl, k1⟩ := hc (by omega)
  have e1 := k1 _ _ (ints_gd hr)
  have HV := Lib.hid (show lval a x = if x < 0 then -(a.getD x.natAbs 0) else a.getD x.natAbs 0 from rfl)
  clear k1 hc ha
  obtain ⟨hv1, hv2⟩ := hv
  generalize a.getD x.natAbs 0 = y at *
  by_cases h : x < 0
  · have i1 : (-x).toNat = x.natAbs := by omega
    have i2 : -x < a.length := by omega
    rw [if_pos h] at HV
    go_enter Try.func48, Try.ntmps48
    go_wp2_with fail
    go_ret
    exact ⟨ret_int HV.out.symm, rfl⟩
  · have i1 : x.toNat = x.natAbs := by omega
    have i2 : x < a.length := by omega
    have i3 : 0 ≤ x := by omega
    rw [if_neg h] at HV
    go_enter Try.func48, Try.ntmps48
    go_wp2_with fail
    go_ret
    exact ⟨ret_int HV.out.symm, rfl⟩
/-- Is a clause true under an assignment? -/
def trueB (c a : List Int) : Bool := c.any fun x => lval a x == 1
/-- What Subsumes returns. -/
def subsB (a b : List Int) : Bool := decide (listErr a = 0 ∧ listErr b = 0 ∧ ∀ x ∈ a, x ∈ b)
def subsE (a b : List Int) : Int := if listErr a ≠ 0 then listErr a else listErr b
end
end Cla
end Go.Proofs.Ytobclpfpkpkocaa
