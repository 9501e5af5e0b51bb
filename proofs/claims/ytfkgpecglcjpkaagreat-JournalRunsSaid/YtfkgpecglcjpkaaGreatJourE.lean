/- Walks through the reference of package journal: Records. Conditions: none. -/
import Derived.Test.YtfkgpecglcjpkaaGreatJourD
set_option linter.unusedVariables false
set_option linter.unusedSimpArgs false
set_option linter.unusedSectionVars false
open Go.RowKit
namespace Go.Proofs.YtfkgpecglcjpkaaGreat
open L
namespace Jour
open Wire Hash R01 R02
section
variable {w0 w w' : World} {v : Value} {R : List (List Int)}
theorem BO.nil (w0 w : World) : BO w0 (.slice none 0 0) [] w := ⟨[], OwnV.nil _ _ _ _, by simp⟩
theorem BO.quiet {T : List Nat} (h : BO w0 v R w) (u : Upd T w w') (hT : ∀ b ∈ T, b < w0.heap.size) : BO w0 v R w' := by
  obtain ⟨vals, h1, h2⟩ := h.ex
  exact ⟨vals, h1.upd u (fun b hb hv => by have := hT b hb; have := h1.fresh b hv; omega), fun i c hi => by
    obtain ⟨y, h3, h4⟩ := h2 i c hi
    exact ⟨y, h3, h4.upd u (fun b hb hv => by have := hT b hb; have := h4.fresh b hv; omega)⟩⟩
theorem BO.lt (h : BO w0 v R w) : ∀ g, v.ownBlock = some g → g < w.heap.size := by
  obtain ⟨vals, h1, h2⟩ := h.ex
  exact h1.lt
/-- What is new since the list's world does not touch it. -/
theorem BO.fresh {T : List Nat} (h : BO w0 v R w) (u : Upd T w w') (hT : ∀ b ∈ T, w.heap.size ≤ b) : BO w0 v R w' := by
  obtain ⟨vals, h1, h2⟩ := h.ex
  exact ⟨vals, h1.upd u (fun b hb hv => by have := hT b hb; have := h1.lt b hv; omega), fun i c hi => by
    obtain ⟨y, h3, h4⟩ := h2 i c hi
    exact ⟨y, h3, h4.upd u (fun b hb hv => by have := hT b hb; have := h4.lt b hv; omega)⟩⟩
theorem BO.push {g cap : Nat} {a : Option Addr} {ac : Nat} {c : List Int} {vals : List Value} (h1 : OwnV w0 39 1 v R.length vals w) (h2 : ∀ (i : Nat) (c : List Int), R[i]? = some c → ∃ y, vals[i]? = some y ∧ OwnV w0 5 1 y c.length (byts c) w) (hz : w0.heap.size ≤ w.heap.size)
    (hy : OwnV w0 5 1 (.slice a c.length ac) c.length (byts c) w)
    (o : w'.ownsRow 0 39 1 (.slice (some ⟨g, 0, none⟩) (R.length + 1) cap) (R.length + 1) (vals ++ [.slice a c.length ac])) (u : Upd v.ownBlock.toList w w') (k : v.ownBlock = some g ∨ w.heap.size ≤ g) :
    BO w0 (.slice (some ⟨g, 0, none⟩) (R.length + 1) cap) (R ++ [c]) w' := by
  have hvl : vals.length = R.length := by have := h1.row.1; omega
  refine ⟨vals ++ [.slice a c.length ac], by rw [List.length_append, List.length_singleton]; exact h1.push hz o k, fun i d hd => ?_⟩
  rcases list_snoc_get hd with ⟨e1, e2⟩ | ⟨rfl, rfl⟩
  · obtain ⟨y, e3, e4⟩ := h2 i d e2
    exact ⟨y, by rw [List.getElem?_append_left (by omega)]; exact e3, e4.upd u (fun b hb => by simp only [Option.mem_toList] at hb; exact kinds_apart h1.row e4.row (by decide) hb)⟩
  · exact ⟨_, by rw [← hvl, List.getElem?_append_right (Nat.le_refl _), Nat.sub_self]; rfl, hy.upd u (fun b hb => by simp only [Option.mem_toList] at hb; exact kinds_apart h1.row hy.row (by decide) hb)⟩
end
/-- Records: few and small. -/
def Small (R : List (List Int)) : Prop := ∀ c ∈ R, (∀ x ∈ c, IsU8 x) ∧ c.length ≤ 10
section
variable {w : World}
set_option maxRecDepth 100000 in
set_option maxHeartbeats 4000000 in
theorem Recs_callsN {v : Value} {l : List Int} (hs : SL w 1 v l.length (ints l)) (hi : ∀ x ∈ l, IsI64 x) :
    Calls Tryz.prog 14 #[v] w fun e w' => ∃ (R : List (List Int)) (a : Option Addr) (cap : Nat), e = .returned (.slice a R.length cap) ∧ R.length = min l.length 6 ∧ R.length ≤ 6 ∧ Small R ∧ BO w (.slice a R.length cap) R w' ∧ Upd [] w w' := by
  obtain ⟨a, cap, rfl, q1, r1, hc⟩ := SL.form hs
  have HC := Lib.hid (And.intro hc hi)
  clear hs hc hi
  go_enter Tryz.func14, Tryz.ntmps14
  go_wp2_with fail
  go_loopw [3, 4] (fun o i wr => ∃ (R : List (List Int)), i = .int .i64 (R.length : Nat) ∧ R.length ≤ 6 ∧ R.length ≤ l.length ∧ Small R ∧ BO w o R wr ∧ Upd [] w wr) (fun _ i _ => 6 - (intOf i).toNat)
  case atStart => exact ⟨[], rfl, by simp, by simp, by intro c hc; simp at hc, BO.nil _ _, Upd.refl _ _⟩
  case round =>
    obtain ⟨wo, rfl⟩ : ∃ wo : World, wo = wr := ⟨_, rfl⟩
    obtain ⟨R, rfl, h6, hrl, hsm, hB, hU⟩ := hrel
    obtain ⟨vals, h1, h2⟩ := hB.ex
    obtain ⟨ao, co, rfl, _, _⟩ := h1.sl.val
    have HR := Lib.hid (And.intro hsm (And.intro hB (And.intro hU (And.intro h1 h2))))
    clear hsm hB hU h1 h2
    by_cases hlt : R.length < l.length ∧ R.length < 6
    · obtain ⟨hlt1, hlt2⟩ := hlt
      have hlt1' : (R.length : Int) < l.length := by omega
      have hlt2' : (R.length : Int) < 6 := by omega
      obtain ⟨g, off, rfl, hcc⟩ := HC.out.1 (by omega)
      have hd := HR.out.2.2.1.some (hcc R.length _ (ints_get (List.getElem?_eq_getElem hlt1))) (by simp)
      have hx := HC.out.2 _ (List.getElem_mem hlt1)
      generalize l[R.length] = x at *
      have n0 := around_lo (n := x) (k := 1000) (by omega)
      have n1 := around_hi (n := x) (k := 1000) (by omega)
      have HA := Lib.hid (fun w : World => Around_calls x 1000 w hx (by omega) (by omega))
      generalize around x 1000 = n at *
      clear hcc hx
      go_wp2_with (go_at_call 4; refine (HA.out _).mono ?_; rintro e _ ⟨rfl, rfl⟩)
      go_loopw [6, 7] (fun b i wr => ∃ c : List Int, i = .int .i64 (c.length : Nat) ∧ (c.length : Int) ≤ n % 11 ∧ (∀ y ∈ c, IsU8 y) ∧ OwnV wo 5 1 b c.length (byts c) wr ∧ Upd [] wo wr) (fun _ i _ => 10 - (intOf i).toNat)
      case atStart => exact ⟨[], rfl, by simp; omega, by simp, OwnV.nil _ _ _ _, Upd.refl _ _⟩
      case round =>
        obtain ⟨c, rfl, hcl, hc8, hO, hu⟩ := hrel
        obtain ⟨ab, cb, rfl, _, _⟩ := hO.sl.val
        have HO := Lib.hid (And.intro hO (And.intro hu hc8))
        clear hO hu hc8
        have hcl10 : c.length ≤ 10 := by omega
        by_cases hk : (c.length : Int) < n % 11
        · obtain ⟨m, hm⟩ : ∃ m : Int, m = (c.length : Int) * n := ⟨_, rfl⟩
          have hm0 : 0 ≤ m := by rw [hm]; exact Int.mul_nonneg (by omega) n0
          have hm1 : m ≤ 10 * n := by rw [hm]; exact Int.mul_le_mul_of_nonneg_right (by omega) n0
          go_wp2_with (refine wpList_push rfl rfl _ _ _ _ rfl rfl rfl 5 1 1 _ Tryz.underlying39 infoByte rfl (by decide) (by decide) (.int .u8 _) [.int .u8 _] rfl rfl rfl (byts_one [_]) _ _ _ HO.out.1.row rfl rfl (by unfold maxLen; omega) (by omega) ?_; intro g4 cap4 w4 o4 u4 k4)
          have hb : IsU8 ((n / 11 + (c.length : Int) * n) % 256) := by unfold IsU8; omega
          have N := HO.out.1.push HO.out.2.1.size o4 k4
          have U4 := HO.out.2.1.fresh u4 (fun q hq => .inr (HO.out.1.fresh q (by simpa using hq)))
          refine ⟨⟨c ++ [(n / 11 + (c.length : Int) * n) % 256], by rw [List.length_append, List.length_singleton]; go_num, by rw [List.length_append, List.length_singleton]; omega, ?_, by rw [List.length_append, List.length_singleton, byts_append]; exact N, U4⟩, by simp [intOf]; omega⟩
          intro y hy
          rcases List.mem_append.1 hy with hy | hy
          · exact HO.out.2.2 y hy
          · simp only [List.mem_singleton] at hy
            subst hy
            exact hb
        · have hB1 := HR.out.2.1.fresh HO.out.2.1 (by simp)
          obtain ⟨vals', h1, h2⟩ := hB1.ex
          have hz := HR.out.2.2.1.size
          have hz2 := HO.out.2.1.size
          have hy : OwnV w 5 1 (.slice ab c.length cb) c.length (byts c) wr := ⟨HO.out.1.row, fun g hg => by have := HO.out.1.fresh g hg; omega⟩
          have H1 := Lib.hid (And.intro h1 (And.intro h2 hy))
          clear h1 h2 hy hB1
          go_wp2_with (refine wpList_push rfl rfl _ _ _ _ rfl rfl rfl 39 1 24 _ Tryz.underlying29 infoBytes rfl (by decide) (by decide) (.slice _ _ _) [.slice _ _ _] rfl rfl rfl (by simp [Value.oneCell']) _ _ _ H1.out.1.row rfl rfl (by unfold maxLen; omega) (by omega) ?_; intro g7 cap7 w7 o7 u7 k7)
          have NB := BO.push H1.out.1 H1.out.2.1 (by omega) H1.out.2.2 o7 u7 k7
          have U7 := (HR.out.2.2.1.step HO.out.2.1).fresh u7 (fun q hq => .inr (H1.out.1.fresh q (by simpa using hq)))
          refine ⟨⟨R ++ [c], by rw [List.length_append, List.length_singleton]; go_num, by rw [List.length_append, List.length_singleton]; omega, by rw [List.length_append, List.length_singleton]; omega, ?_, by have h := NB; rw [← show (R ++ [c]).length = R.length + 1 by simp] at h; exact (by simpa using NB), U7⟩, by simp [intOf]; omega⟩
          intro d hd
          rcases List.mem_append.1 hd with hd | hd
          · exact HR.out.1 d hd
          · simp only [List.mem_singleton] at hd
            subst hd
            exact ⟨HO.out.2.2, hcl10⟩
    · have hge : ¬ (R.length : Int) < l.length ∨ ((R.length : Int) < l.length ∧ ¬ (R.length : Int) < 6) := by omega
      rcases hge with hge | ⟨hge1, hge2⟩
      · go_wp2_with fail
        go_ret
        exact ⟨R, ao, co, rfl, by omega, h6, HR.out.1, HR.out.2.1, HR.out.2.2.1⟩
      · go_wp2_with fail
        go_ret
        exact ⟨R, ao, co, rfl, by omega, h6, HR.out.1, HR.out.2.1, HR.out.2.2.1⟩
theorem Recs_calls {v : Value} {l : List Int} (hs : SL w 1 v l.length (ints l)) (hi : ∀ x ∈ l, IsI64 x) :
    Calls Tryz.prog 14 #[v] w fun e w' => ∃ (R : List (List Int)) (a : Option Addr) (cap : Nat), e = .returned (.slice a R.length cap) ∧ R.length ≤ 6 ∧ Small R ∧ BO w (.slice a R.length cap) R w' ∧ Upd [] w w' :=
  (Recs_callsN hs hi).mono fun _ _ ⟨R, a, cap, h1, _, h2⟩ => ⟨R, a, cap, h1, h2⟩
end
end Jour
end Go.Proofs.YtfkgpecglcjpkaaGreat
