/- Walks through the reference of clauses: Normal, without, Value, True, Subsumes, State. Conditions: none. -/
import Derived.Test.YtdhhohnaehdpkaaRef14
set_option linter.unusedVariables false
set_option linter.unusedSimpArgs false
set_option linter.unusedSectionVars false
open Go.RowKit
namespace Go.Proofs.Ytdhhohnaehdpkaa
open L
namespace Cla
open R01 R14
def nrm (c : List Int) : List Int := if taut c = true then [] else norm c
def tautB (c : List Int) : Bool := taut c
theorem taut_no {c : List Int} : taut c = false ↔ ∀ x ∈ c, -x ∉ c := by
  unfold taut
  rw [List.any_eq_false]
  constructor
  · intro h x hx h2; exact h x hx (List.contains_iff_mem.2 h2)
  · intro h x hx h2; exact h x hx (List.contains_iff_mem.1 h2)
theorem taut_yes {c : List Int} {x : Int} (hx : x ∈ c) (h : -x ∈ c) : taut c = true := by
  unfold taut
  rw [List.any_eq_true]
  exact ⟨x, hx, List.contains_iff_mem.2 h⟩
theorem putAll_length (c : List Int) : (putAll c).length ≤ c.length := by
  unfold putAll
  have : ∀ (c l : List Int), (c.foldl put l).length ≤ l.length + c.length := by
    intro c
    induction c with
    | nil => intro l; simp
    | cons x c ih => intro l; rw [List.foldl_cons]; have := ih (put l x); have := put_length l x; simp; omega
  have := this c []
  simpa using this
section
variable {w : World}
def PairF (l : List Int) (b : Bool) (w : World) (e : Ending) (w' : World) : Prop := ∃ v, e = .returned (.tuple #[v, .bool b]) ∧ SL w' 1 v l.length (ints l) ∧ Upd [] w w' ∧ ∀ g, v.ownBlock = some g → w.heap.size ≤ g
def PairT (l : List Int) (b : Bool) (w : World) (e : Ending) (w' : World) : Prop := ∃ v, e = .returned (.tuple #[v, .bool b]) ∧ SL w' 1 v l.length (ints l) ∧ Upd [] w w'
set_option maxRecDepth 100000 in
set_option maxHeartbeats 2000000 in
theorem RNormal_callsF {v : Value} {c : List Int} (h : SL w 1 v c.length (ints c)) (hl : c.length ≤ 900000) (hr : ∀ x ∈ c, x ≠ 0 ∧ LitR x) : Calls Try.prog 47 #[v] w (PairF (nrm c) (tautB c) w) := by
  obtain ⟨a, cap, rfl, q1, r1, hc⟩ := SL.elems h
  have HC := Lib.hid (And.intro hc (And.intro h hr))
  clear hc h hr
  go_enter Try.func47, Try.ntmps47
  go_wp2_with fail
  go_loopw [4, 5] (fun o i wr => ∃ k : Nat, k ≤ c.length ∧ i = .int .i64 k ∧ (∀ x ∈ c.take k, -x ∉ c) ∧ SL wr 1 o (putAll (c.take k)).length (ints (putAll (c.take k))) ∧ Upd [] w wr ∧ ∀ g, o.ownBlock = some g → w.heap.size ≤ g) (fun _ i _ => c.length - (intOf i).toNat)
  case atStart => exact ⟨0, Nat.zero_le _, rfl, by simp, by simpa [putAll, ints] using (Own.nil w).sl, Upd.refl _ _, by simp [Value.ownBlock]⟩
  case round =>
    obtain ⟨k, hk, rfl, hlo, hs, hu, hfr⟩ := hrel
    have HFR := Lib.hid hfr
    clear hfr
    have HLO := Lib.hid (And.intro hlo (And.intro hs hu))
    clear hlo hs hu
    by_cases hlt : k < c.length
    · obtain ⟨g, off, rfl, k1⟩ := HC.out.1 (by omega)
      have e1 := HLO.out.2.2.some (k1 k _ (ints_gd hlt)) (by simp)
      obtain ⟨hx0, hx1, hx2⟩ := HC.out.2.2 _ (gd_mem hlt)
      clear k1
      generalize hgx : c.getD k 0 = x at *
      have HG := Lib.hid (And.intro hgx hx0)
      clear hgx hx0
      by_cases hx : hasB c (-x) = true
      · have HX := Lib.hid hx
        clear hx
        have hha := Has_calls (HC.out.2.1.upd HLO.out.2.2 (by simp)) (-x)
        rw [HX.out] at hha
        have HHA := Lib.hid hha
        clear hha
        go_wp2_with (go_at_call 19; refine HHA.out.mono ?_; rintro e w' ⟨rfl, rfl⟩)
        go_ret2
        have ht := taut_yes (by rw [← HG.out.1]; exact gd_mem hlt) (hasB_iff.1 HX.out)
        refine ⟨.slice none 0 0, ?_, ?_, HLO.out.2.2, by simp [Value.ownBlock]⟩
        · rw [show tautB c = true from ht]; rfl
        · rw [show nrm c = [] by unfold nrm; rw [if_pos ht]]
          exact (Own.nil wr).sl
      · have HX := Lib.hid (show hasB c (-x) = false by simpa using hx)
        clear hx
        have hha := Has_calls (HC.out.2.1.upd HLO.out.2.2 (by simp)) (-x)
        rw [HX.out] at hha
        have hpl := putAll_length (c.take k)
        have hpu := Put_callsF HLO.out.2.1 (by rw [List.length_take] at hpl; omega) (fun y hy => (HC.out.2.2 y (List.mem_of_mem_take ((putAll_mem _ _).1 hy))).2) x ⟨hx1, hx2⟩
        have HHA := Lib.hid (And.intro hha hpu)
        clear hha hpu hpl
        go_wp2_with (first | (go_at_call 19; refine HHA.out.1.mono ?_; rintro e w' ⟨rfl, rfl⟩) | (go_at_call 76; refine HHA.out.2.mono ?_; rintro e w4 ⟨v4, rfl, hs4, hu4, hk4⟩; have HP := Lib.hid (And.intro hs4 (And.intro hu4 hk4)); clear hs4 hu4 hk4))
        have hts : c.take (k + 1) = c.take k ++ [x] := by rw [List.take_add_one, gd_some (d := 0) hlt, HG.out.1]; rfl
        refine ⟨⟨k + 1, by omega, by go_num, ?_, ?_, HLO.out.2.2.step HP.out.2.1, fun g hg => (HP.out.2.2 g hg).elim (HFR.out g) (Nat.le_trans HLO.out.2.2.size)⟩, by simp [intOf]; omega⟩
        · intro y hy
          rw [hts] at hy
          rcases List.mem_append.1 hy with hy | hy
          · exact HLO.out.1 y hy
          · simp at hy; subst hy; exact hasB_no.1 HX.out
        · rw [hts, putAll_snoc]
          exact HP.out.1
    · have HE := Lib.hid (show c.take k = c from List.take_of_length_le (by omega))
      have ht : taut c = false := taut_no.2 (by have := HLO.out.1; rwa [HE.out] at this)
      have HT := Lib.hid ht
      have hsl := HLO.out.2.1
      rw [HE.out, putAll_norm (fun x hx => (HC.out.2.2 x hx).1) ht] at hsl
      obtain ⟨ao, co, rfl, _, _, _⟩ := SL.elems hsl
      have HS := Lib.hid hsl
      clear ht hsl
      go_wp2_with fail
      go_ret2
      refine ⟨.slice ao (norm c).length co, by rw [show tautB c = false from HT.out]; rfl, ?_, HLO.out.2.2, HFR.out⟩
      rw [show nrm c = norm c by unfold nrm; rw [HT.out]; simp]
      exact HS.out
theorem RNormal_calls {v : Value} {c : List Int} (h : SL w 1 v c.length (ints c)) (hl : c.length ≤ 900000) (hr : ∀ x ∈ c, x ≠ 0 ∧ LitR x) : Calls Try.prog 47 #[v] w (PairT (nrm c) (tautB c) w) :=
  (RNormal_callsF h hl hr).mono fun _ _ ⟨v', h1, h2, h3, _⟩ => ⟨v', h1, h2, h3⟩
def wout (c : List Int) (n : Int) : List Int := c.filter fun x => x != n
set_option maxRecDepth 100000 in
set_option maxHeartbeats 2000000 in
theorem Without_calls {v : Value} {c : List Int} (h : SL w 1 v c.length (ints c)) (hl : c.length ≤ 900000) (n : Int) : Calls Try.prog 75 #[v, .int .i64 n] w fun e w' => ∃ a cap, e = .returned (.slice a (wout c n).length cap) ∧ Own w (.slice a (wout c n).length cap) (wout c n) w' := by
  obtain ⟨a, cap, rfl, q1, r1, hc⟩ := SL.elems h
  have HC := Lib.hid hc
  clear hc h
  go_enter Try.func75, Try.ntmps75
  go_wp2_with fail
  go_loopw [5, 6] (fun o i wr => ∃ k : Nat, k ≤ c.length ∧ i = .int .i64 k ∧ Own w o (wout (c.take k) n) wr) (fun _ i _ => c.length - (intOf i).toNat)
  case atStart => exact ⟨0, Nat.zero_le _, rfl, by simpa [wout] using Own.nil w⟩
  case round =>
    obtain ⟨k, hk, rfl, ho⟩ := hrel
    have hol : (wout (c.take k) n).length ≤ c.length := Nat.le_trans (List.length_filter_le _ _) (by rw [List.length_take]; omega)
    have HO := Lib.hid ho
    clear ho
    by_cases hlt : k < c.length
    · obtain ⟨g, off, rfl, k1⟩ := HC.out (by omega)
      have e1 := HO.out.u.some (k1 k _ (ints_gd hlt)) (by simp)
      clear k1
      have hts : c.take (k + 1) = c.take k ++ [c.getD k 0] := by rw [List.take_add_one, gd_some (d := 0) hlt]; rfl
      generalize c.getD k 0 = x at *
      have HTS := Lib.hid hts
      clear hts
      by_cases hx : x = n
      · subst hx
        go_wp2_with fail
        refine ⟨⟨k + 1, by omega, by go_num, ?_⟩, by simp [intOf]; omega⟩
        rw [HTS.out]
        simpa [wout, List.filter_append] using HO.out
      · have hb : (x != n) = true := by simpa using hx
        have HX := Lib.hid hb
        clear hx
        go_wp2_with (refine wpList_push rfl rfl _ _ _ _ rfl rfl rfl 3 1 8 _ Try.underlying22 infoInt rfl (by decide) (by decide) (.int .i64 x) [.int .i64 x] rfl rfl rfl (ints_one [x]) _ _ _ HO.out.row rfl rfl (by unfold maxLen; omega) (by omega) ?_; intro g4 cap4 w4 o4 u4 k4)
        have N4 := HO.out.push o4 u4 k4
        refine ⟨⟨k + 1, by omega, by go_num, ?_⟩, by simp [intOf]; omega⟩
        rw [HTS.out, show wout (c.take k ++ [x]) n = wout (c.take k) n ++ [x] by simp [wout, List.filter_append, HX.out]]
        simpa using N4
    · have HE := Lib.hid (show c.take k = c from List.take_of_length_le (by omega))
      have ho := HO.out
      rw [HE.out] at ho
      obtain ⟨ao, co, rfl, _, _⟩ := ho.form
      have HO2 := Lib.hid ho
      clear ho
      go_wp2_with fail
      go_ret
      exact ⟨ao, co, rfl, HO2.out⟩
/-- Is a clause true under an assignment? -/
def trueB (c a : List Int) : Bool := c.any fun x => lval a x == 1
/-- What Subsumes returns. -/
def subsB (a b : List Int) : Bool := decide (listErr a = 0 ∧ listErr b = 0 ∧ ∀ x ∈ a, x ∈ b)
def subsE (a b : List Int) : Int := if listErr a ≠ 0 then listErr a else listErr b
end
end Cla
end Go.Proofs.Ytdhhohnaehdpkaa
