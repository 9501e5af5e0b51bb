/- Walks through the reference of package disk: Append, Truncate, Rot. Conditions: none. -/
import Derived.Test.YtnljjkmmnkldcaaDiskT
set_option linter.unusedVariables false
set_option linter.unusedSimpArgs false
set_option linter.unusedSectionVars false
open Go.RowKit
namespace Go.Proofs.Ytnljjkmmnkldcaa
open L
namespace Disk
open Wire
/-- The model of a disk, its state perhaps not whole. -/
structure RDk0 (w : World) (p : Nat) (s : DS) (S : List Nat) : Prop where
  ex : ∃ bB bF V, Blk w p [.int .i64 (s.room : Int), .slice (some ⟨bB, 0, none⟩) 64 64, .slice (some ⟨bF, 0, none⟩) 64 64, .bool s.off, .int .i64 s.plan] 58 ∧ Blk w bB (vl V) 27 ∧ Blk w bF (vl fun i => .int .i64 (s.F i : Int)) 3 ∧
    p ≠ bB ∧ p ≠ bF ∧ bB ≠ bF ∧ p ∈ S ∧ bB ∈ S ∧ bF ∈ S ∧
    (∀ i, i < 64 → w.ownsRow 0 5 1 (V i) (s.B i).length (byts (s.B i)) ∧ ∀ g, (V i).ownBlock = some g → g ∈ S ∧ g ≠ p ∧ g ≠ bB ∧ g ≠ bF) ∧
    (∀ i j, i < 64 → j < 64 → i ≠ j → ∀ g, (V i).ownBlock = some g → (V j).ownBlock ≠ some g)
  lt : ∀ k ∈ S, k < w.heap.size
section
variable {w w' : World} {p : Nat} {s : DS} {S : List Nat}
theorem RDk.to0 (h : RDk w p s S) : RDk0 w p s S := ⟨h.ex, h.lt⟩
theorem RDk0.ok (h : RDk0 w p s S) (hok : s.Ok) : RDk w p s S := ⟨h.ex, hok, h.lt⟩
theorem RDk0.upd {T : List Nat} (h : RDk0 w p s S) (hu : Upd T w w') (hT : ∀ k ∈ T, k ∉ S) : RDk0 w' p s S := by
  obtain ⟨⟨bB, bF, V, h1, h2, h3, h4, h5, h6, h7, h8, h9, h10, h11⟩, hlt⟩ := h
  refine ⟨⟨bB, bF, V, h1.upd hu (fun hp => hT p hp h7), h2.upd hu (fun hp => hT _ hp h8), h3.upd hu (fun hp => hT _ hp h9), h4, h5, h6, h7, h8, h9, fun i hi => ?_, h11⟩, fun k hk => Nat.lt_of_lt_of_le (hlt k hk) hu.size⟩
  obtain ⟨a1, a2⟩ := h10 i hi
  exact ⟨ownsRow_updL a1 hu (fun b hb e => hT b hb (a2 b e).1), a2⟩
theorem row_setU {w : World} {e : TypeId} {g n cap : Nat} {xs : List Value} (h : w.ownsRow 0 e 1 (.slice (some ⟨g, 0, none⟩) n cap) n xs) :
    ∃ cur : List Value, Blk w g cur e ∧ (∀ (j : Nat) (u : Value), xs[j]? = some u → cur[j]? = some u) ∧ ∀ (w' : World) (j : Nat) (u : Value), j < n → Blk w' g (cur.set j u) e → w'.ownsRow 0 e 1 (.slice (some ⟨g, 0, none⟩) n cap) n (xs.set j u) := row_set h
/-- One file opened for a change. -/
theorem RDk0.file (h : RDk0 w p s S) {i : Nat} (hi : i < 64) : ∃ bB a c, w.cell? ⟨p, 1, none⟩ = some (.slice (some ⟨bB, 0, none⟩) 64 64) ∧ w.cell? ⟨bB, i, none⟩ = some (.slice a (s.B i).length c) ∧ w.frozen? ⟨bB, i, none⟩ = false ∧ bB ∈ S ∧
    w.ownsRow 0 5 1 (.slice a (s.B i).length c) (s.B i).length (byts (s.B i)) ∧ (∀ g, (Value.slice a (s.B i).length c).ownBlock = some g → g ∈ S ∧ g ≠ bB ∧ g ≠ p) ∧
    ∀ (T : List Nat) (w1 : World) (v : Value) (b : List Int), (∀ k ∈ T, k ∉ S ∨ (Value.slice a (s.B i).length c).ownBlock = some k) → Upd T w w1 → w1.ownsRow 0 5 1 v b.length (byts b) → (∀ g, v.ownBlock = some g → (g ∉ S ∧ g < w1.heap.size) ∨ (Value.slice a (s.B i).length c).ownBlock = some g) →
      RDk0 (w1.setCell ⟨bB, i, none⟩ v) p { s with B := setB s.B i b } (v.ownBlock.toList ++ S) ∧ Upd (bB :: T) w (w1.setCell ⟨bB, i, none⟩ v) := by
  obtain ⟨⟨bB, bF, V, h1, h2, h3, h4, h5, h6, h7, h8, h9, h10, h11⟩, hlt⟩ := h
  obtain ⟨_, a, c, hv, _⟩ := SL.of_owns (h10 i hi).1
  have hrow := (h10 i hi).1
  have hown := (h10 i hi).2
  have d0 := h2.cell (vl_get V hi)
  rw [hv] at hrow hown d0
  refine ⟨bB, a, c, h1.cell (i := 1) rfl, d0, h2.free i, h8, hrow, fun g hg => ⟨(hown g hg).1, (hown g hg).2.2.1, (hown g hg).2.1⟩, fun T w1 v b hT0 hu row hvb => ?_⟩
  have hT : ∀ k, k ∈ S → (k = p ∨ k = bB ∨ k = bF ∨ (∃ j, j < 64 ∧ j ≠ i ∧ (V j).ownBlock = some k)) → k ∉ T := fun k hk hc hm => by
    rcases hT0 k hm with h | h
    · exact h hk
    · have ho := hown k h
      rcases hc with rfl | rfl | rfl | ⟨j, hj, hne, hV⟩
      · exact ho.2.1 rfl
      · exact ho.2.2.1 rfl
      · exact ho.2.2.2 rfl
      · rw [← hv] at h
        exact h11 i j hi hj (Ne.symm hne) k h hV
  have hu2 : Upd [bB] w1 (w1.setCell ⟨bB, i, none⟩ v) := (Upd.refl _ w1).set (.inl (by simp)) _
  have k1 := h1.upd hu (hT _ h7 (.inl rfl))
  have k2 := (h2.upd hu (hT _ h8 (.inr (.inl rfl)))).set i v
  have k3 := h3.upd hu (hT _ h9 (.inr (.inr (.inl rfl))))
  rw [vl_set V v hi] at k2
  have hvS : ∀ g, v.ownBlock = some g → g ≠ p ∧ g ≠ bB ∧ g ≠ bF ∧ g < w1.heap.size := fun g hg => by
    rcases hvb g hg with h | h
    · exact ⟨fun e => h.1 (e ▸ h7), fun e => h.1 (e ▸ h8), fun e => h.1 (e ▸ h9), h.2⟩
    · have := hown g h
      exact ⟨this.2.1, this.2.2.1, this.2.2.2, Nat.lt_of_lt_of_le (hlt g this.1) hu.size⟩
  refine ⟨⟨⟨bB, bF, fun j => if j = i then v else V j, k1.upd hu2 (by simp; exact h4), k2, k3.upd hu2 (by simp; exact fun e => h6 e.symm), h4, h5, h6, List.mem_append_right _ h7, List.mem_append_right _ h8, List.mem_append_right _ h9, fun j hj => ?_, fun j k hj hk hne g hg => ?_⟩, fun k hk => ?_⟩, ?_⟩
  · by_cases e : j = i
    · subst e
      simp only [if_pos, setB]
      exact ⟨ownsRow_updL row hu2 (fun b' hb' e => (hvS b' e).2.1 (by simpa using hb')), fun g hg => ⟨List.mem_append_left _ (by simp [hg]), (hvS g hg).1, (hvS g hg).2.1, (hvS g hg).2.2.1⟩⟩
    · simp only [if_neg e, setB]
      obtain ⟨a1, a2⟩ := h10 j hj
      exact ⟨ownsRow_updL (ownsRow_updL a1 hu (fun b' hb' e' => hT b' (a2 b' e').1 (.inr (.inr (.inr ⟨j, hj, e, e'⟩))) hb')) hu2 (fun b' hb' e' => (a2 b' e').2.2.1 (by simpa using hb')), fun g hg => ⟨List.mem_append_right _ (a2 g hg).1, (a2 g hg).2⟩⟩
  · have key : ∀ k, k < 64 → k ≠ i → ∀ g, v.ownBlock = some g → (V k).ownBlock ≠ some g := fun k hk hne g hg hV => by
      rcases hvb g hg with h | h
      · exact h.1 ((h10 k hk).2 g hV).1
      · rw [← hv] at h
        exact h11 i k hi hk (Ne.symm hne) g h hV
    by_cases e : j = i
    · subst e
      simp only [if_pos] at hg
      simp only [if_neg (Ne.symm hne)]
      exact key k hk (Ne.symm hne) g hg
    · simp only [if_neg e] at hg
      by_cases e2 : k = i
      · subst e2
        simp only [if_pos]
        exact fun hg2 => key j hj e g hg2 hg
      · simp only [if_neg e2]
        exact h11 j k hj hk hne g hg
  · rcases List.mem_append.1 hk with hk | hk
    · have := (hvS k (by simpa using hk)).2.2.2
      exact Nat.lt_of_lt_of_le this hu2.size
    · exact Nat.lt_of_lt_of_le (hlt k hk) (Nat.le_trans hu.size hu2.size)
  · exact (hu.wide (fun k hk => .inl (List.mem_cons_of_mem _ hk))).set (.inl (by simp)) _
/-- One mark opened for a change. -/
theorem RDk0.mark (h : RDk0 w p s S) {i : Nat} (hi : i < 64) : ∃ bF, w.cell? ⟨p, 2, none⟩ = some (.slice (some ⟨bF, 0, none⟩) 64 64) ∧ w.cell? ⟨bF, i, none⟩ = some (.int .i64 (s.F i : Int)) ∧ w.frozen? ⟨bF, i, none⟩ = false ∧ bF ∈ S ∧
    ∀ (T : List Nat) (w1 : World) (n : Nat), (∀ k ∈ T, k ∉ S) → Upd T w w1 → RDk0 (w1.setCell ⟨bF, i, none⟩ (.int .i64 (n : Int))) p { s with F := setF s.F i n } S ∧ Upd (bF :: T) w (w1.setCell ⟨bF, i, none⟩ (.int .i64 (n : Int))) := by
  obtain ⟨⟨bB, bF, V, h1, h2, h3, h4, h5, h6, h7, h8, h9, h10, h11⟩, hlt⟩ := h
  refine ⟨bF, h1.cell (i := 2) rfl, h3.cell (vl_get (fun i => Value.int .i64 (s.F i : Int)) hi), h3.free i, h9, fun T w1 n hT hu => ?_⟩
  have hu2 : Upd [bF] w1 (w1.setCell ⟨bF, i, none⟩ (.int .i64 (n : Int))) := (Upd.refl _ w1).set (.inl (by simp)) _
  have k3 := (h3.upd hu (fun hm => hT _ hm h9)).set i (.int .i64 (n : Int))
  rw [vl_set _ _ hi] at k3
  refine ⟨⟨⟨bB, bF, V, (h1.upd hu (fun hm => hT _ hm h7)).upd hu2 (by simp; exact h5), (h2.upd hu (fun hm => hT _ hm h8)).upd hu2 (by simp; exact h6), ?_, h4, h5, h6, h7, h8, h9, fun j hj => ?_, h11⟩, fun k hk => Nat.lt_of_lt_of_le (hlt k hk) (Nat.le_trans hu.size hu2.size)⟩, (hu.wide (fun k hk => .inl (List.mem_cons_of_mem _ hk))).set (.inl (by simp)) _⟩
  · have e : (vl fun j => if j = i then Value.int .i64 (n : Int) else Value.int .i64 (s.F j : Int)) = vl fun j => Value.int .i64 ((setF s.F i n j : Nat) : Int) := by
      congr 1; funext j; unfold setF; split <;> rfl
    rw [← e]; exact k3
  · obtain ⟨a1, a2⟩ := h10 j hj
    exact ⟨ownsRow_updL (ownsRow_updL a1 hu (fun b' hb' e' => hT b' hb' (a2 b' e').1)) hu2 (fun b' hb' e' => (a2 b' e').2.2.2 (by simpa using hb')), a2⟩
/-- One byte of a file written in place. -/
theorem RDk0.poke (h : RDk0 w p s S) {i : Nat} (hi : i < 64) (hn : s.B i ≠ []) : ∃ bB g c, w.cell? ⟨p, 1, none⟩ = some (.slice (some ⟨bB, 0, none⟩) 64 64) ∧ w.cell? ⟨bB, i, none⟩ = some (.slice (some ⟨g, 0, none⟩) (s.B i).length c) ∧ g ∈ S ∧
    (∀ (j : Nat) (x : Int), (s.B i)[j]? = some x → w.cell? ⟨g, j, none⟩ = some (.int .u8 x) ∧ w.frozen? ⟨g, j, none⟩ = false) ∧
    ∀ (w1 : World) (j : Nat) (x : Int), Upd [] w w1 → j < (s.B i).length → RDk0 (w1.setCell ⟨g, j, none⟩ (.int .u8 x)) p { s with B := setB s.B i ((s.B i).set j x) } S := by
  obtain ⟨⟨bB, bF, V, h1, h2, h3, h4, h5, h6, h7, h8, h9, h10, h11⟩, hlt⟩ := h
  obtain ⟨g, c, hv, _, _⟩ := owns_form (h10 i hi).1 (List.length_pos_iff.2 hn)
  have hrow := (h10 i hi).1
  have hown := (h10 i hi).2
  have d0 := h2.cell (vl_get V hi)
  rw [hv] at hrow hown d0
  obtain ⟨hgS, hgp, hgB, hgF⟩ := hown g rfl
  obtain ⟨cur, hB, hcur, _⟩ := row_setU hrow
  refine ⟨bB, g, c, h1.cell (i := 1) rfl, d0, hgS, fun j x hj => ⟨hB.cell (hcur j _ (byts_get hj)), hB.free j⟩, fun w1 j x hu hj => ?_⟩
  have hu2 : Upd [g] w1 (w1.setCell ⟨g, j, none⟩ (.int .u8 x)) := (Upd.refl _ w1).set (.inl (by simp)) _
  obtain ⟨cur1, hB1, hcur1, hset1⟩ := row_setU (ownsRow_updL hrow hu (by simp))
  have row2 := hset1 (w1.setCell ⟨g, j, none⟩ (.int .u8 x)) j (.int .u8 x) hj (hB1.set j _)
  refine ⟨⟨bB, bF, V, (h1.upd hu (by simp)).upd hu2 (by simp; exact fun e => hgp e.symm), (h2.upd hu (by simp)).upd hu2 (by simp; exact fun e => hgB e.symm), (h3.upd hu (by simp)).upd hu2 (by simp; exact fun e => hgF e.symm), h4, h5, h6, h7, h8, h9, fun k hk => ?_, h11⟩, fun k hk => Nat.lt_of_lt_of_le (hlt k hk) (Nat.le_trans hu.size hu2.size)⟩
  by_cases e : k = i
  · subst e
    simp only [setB, if_pos]
    refine ⟨?_, (h10 k hk).2⟩
    rw [hv, List.length_set]
    have e2 : byts ((s.B k).set j x) = (byts (s.B k)).set j (.int .u8 x) := by simp [byts, List.map_set]
    rw [e2]; exact row2
  · simp only [setB, if_neg e]
    obtain ⟨a1, a2⟩ := h10 k hk
    refine ⟨ownsRow_updL (ownsRow_updL a1 hu (by simp)) hu2 (fun b hb e' => ?_), a2⟩
    simp only [List.mem_singleton] at hb
    subst hb
    exact h11 k i hk hi e b e' (by rw [hv]; rfl)
end
end Disk
end Go.Proofs.Ytnljjkmmnkldcaa
