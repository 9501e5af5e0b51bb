/- Disks apart from other things: their operations. Conditions: none. -/
import Derived.Test.YtnljjkmmnkldcaaSep
import Derived.Test.YtnljjkmmnkldcaaDiskOpG
set_option linter.unusedVariables false
set_option linter.unusedSimpArgs false
set_option linter.unusedSectionVars false
open Go.RowKit
namespace Go.Proofs.Ytnljjkmmnkldcaa
open L
namespace Disk
open Wire R01
def PDk (p : Nat) (s : DS) : Pr := ⟨fun w S => Dk w p s S, fun h hu hT => h.upd hu hT, fun h => h.lt⟩
def PRDk (p : Nat) (s : DS) : Pr := ⟨fun w S => RDk w p s S, fun h hu hT => h.upd hu hT, fun h => h.lt⟩
section
variable {w0 w w' : World} {p q : Nat} {s : DS} {ps : List Pr}
theorem Pair.sep (h : Pair w0 p q s w) : Sep w0 [PDk p s, PRDk q s] w := by
  obtain ⟨S, T, h1, h2, h3, h4, h5⟩ := h.ex
  exact ⟨⟨[(PDk p s, S), (PRDk q s, T)], rfl, List.pairwise_cons.2 ⟨fun y hy => by simp at hy; subst hy; exact h3, List.pairwise_cons.2 ⟨by simp, .nil⟩⟩, fun x hx => by
    simp at hx
    rcases hx with rfl | rfl
    · exact ⟨h1, h4.new⟩
    · exact ⟨h2, h5.new⟩⟩, h4.u⟩
theorem Sep.ok (h : Sep w0 (PDk p s :: ps) w) : s.Ok := by obtain ⟨S, h1, _⟩ := h.head; exact Dk.ok h1
theorem Sep.arm (h : Sep w0 (PDk p s :: ps) w) {n : Int} (hn : IsI64 n) : Calls Try.prog 28 #[.pointer (some ⟨p, 0, none⟩), .int .i64 n] w fun e w' => e = .returned (.tuple #[]) ∧ Sep w0 (PDk p (armS s n) :: ps) w' := by
  refine (Sep.call (p' := PDk p (armS s n)) (Q := fun e _ => e = .returned (.tuple #[])) h fun S hS => (Arm_calls hS hn).mono fun e w' ⟨h1, h2, h3⟩ => ⟨h1, S, h2, h3.wide (fun k hk => .inl (by simp at hk; subst hk; exact Dk.p_mem hS)), fun k hk => .inl hk⟩)
theorem Sep.sync (h : Sep w0 (PDk p s :: ps) w) : Calls Try.prog 15 #[.pointer (some ⟨p, 0, none⟩)] w fun e w' => e = .returned (.int .i64 (syncS s).1) ∧ Sep w0 (PDk p (syncS s).2 :: ps) w' := by
  refine (Sep.call (p' := PDk p (syncS s).2) (Q := fun e _ => e = .returned (.int .i64 (syncS s).1)) h fun S hS => (Sync_calls hS).mono fun e w' ⟨h1, h2, h3⟩ => ⟨h1, S, h2, h3, fun k hk => .inl hk⟩)
theorem Sep.on (h : Sep w0 (PDk p s :: ps) w) : Calls Try.prog 29 #[.pointer (some ⟨p, 0, none⟩)] w fun e w' => e = .returned (.bool (!s.off)) ∧ w = w' := by
  obtain ⟨S, h1, _⟩ := h.head; exact On_calls h1
theorem Sep.copy (h : Sep w0 (PDk p s :: ps) w) : Calls Try.prog 30 #[.pointer (some ⟨p, 0, none⟩)] w fun e w' => ∃ c, e = .returned (.pointer (some ⟨c, 0, none⟩)) ∧ Sep w0 (PDk c s :: PDk p s :: ps) w' := by
  refine Sep.make (p' := fun c => PDk c s) (Q := fun c e _ => e = .returned (.pointer (some ⟨c, 0, none⟩))) h ?_
  obtain ⟨S, h1, _⟩ := h.head
  exact (Copy_calls h1).mono fun e w' ⟨c, S', h2, h3, h4, h5⟩ => ⟨c, h2, S', h3, h4, h5⟩
theorem Sep.crash {v : Value} {keep : List Int} {n : Nat} {fp : Int} (h : Sep w0 (PDk p s :: PSL 1 v keep.length (ints keep) :: ps) w) (hk : ∀ x ∈ keep, IsI64 x) (hfp : IsI64 fp) :
    Calls Try.prog 16 #[.pointer (some ⟨p, 0, none⟩), v, .int .i64 fp] w fun e w' => e = .returned (.tuple #[]) ∧ Sep w0 (PDk p (crashS s keep fp) :: PSL 1 v keep.length (ints keep) :: ps) w' := by
  refine (Sep.call2 (p' := PDk p (crashS s keep fp)) (Q := fun e _ => e = .returned (.tuple #[])) h fun S T hS hT ha => (Crash_calls hS hT.1 (fun g hg hm => ha g hm (hT.2.1 g hg)) hk hfp).mono fun e w' ⟨h1, h2, h3⟩ => ⟨h1, S, h2, h3, fun k hk => .inl hk⟩)
theorem Sep.append {v : Value} {b : List Int} {f : Int} (h : Sep w0 (PDk p s :: PSL 1 v b.length (byts b) :: ps) w) (hf : IsI64 f) (hb : ∀ x ∈ b, 0 ≤ x ∧ x ≤ 255) (hl : b.length ≤ 1000000000) :
    Calls Try.prog 14 #[.pointer (some ⟨p, 0, none⟩), .int .i64 f, v] w fun e w' => e = .returned (.int .i64 (appendS s f b).1) ∧ Sep w0 (PDk p (appendS s f b).2 :: PSL 1 v b.length (byts b) :: ps) w' := by
  refine (Sep.call2 (p' := PDk p (appendS s f b).2) (Q := fun e _ => e = .returned (.int .i64 (appendS s f b).1)) h fun S T hS hT ha => (Append_calls hS hf hT.1 hb hl (fun g hg hm => ha g hm (hT.2.1 g hg))).mono fun e w' ⟨h1, S', h2, h3, h4⟩ => ⟨h1, S', h2, h3, h4⟩)
theorem Sep.read (h : Sep w0 (PDk p s :: ps) w) {f : Int} (hf : IsI64 f) :
    Calls Try.prog 17 #[.pointer (some ⟨p, 0, none⟩), .int .i64 f] w fun e w' => ∃ v, e = .returned (.tuple #[v, .int .i64 (readS s f).2]) ∧ OwnV w 5 1 v (readS s f).1.length (byts (readS s f).1) w' ∧ Upd [] w w' := by
  obtain ⟨S, h1, _⟩ := h.head; exact Read_calls h1 hf
/-- A slice just made, as a thing of its own. -/
theorem Sep.slice {e : TypeId} {k : Nat} {v : Value} {n : Nat} {cs : List Value} (h : Sep w0 ps w) (hu : Upd [] w w') (hv : OwnV w e k v n cs w') : Sep w0 (PSL k v n cs :: ps) w' :=
  h.new (S := v.ownBlock.toList) hu ⟨hv.sl, fun g hg => by simp [hg], fun g hg => hv.lt g (by simpa using hg)⟩ (fun g hg => hv.fresh g (by simpa using hg))
set_option maxRecDepth 100000 in
theorem Ints_calls {v : Value} {xs : List Int} {w : World} (h : SL w 1 v xs.length (ints xs)) (n : Nat) (hn : n ≤ 1000) :
    Calls Try.prog 31 #[v, .int .i64 n] w fun e w' => ∃ a cap, e = .returned (.slice a (xs.take n).length cap) ∧ OwnV w 3 1 (.slice a (xs.take n).length cap) (xs.take n).length (ints (xs.take n)) w' ∧ Upd [] w w' := by
  obtain ⟨hl, a, cap, rfl, hc, hm, hnil, hcell⟩ := h
  have H : SL w 1 (.slice a xs.length cap) xs.length (ints xs) := ⟨hl, a, cap, rfl, hc, hm, hnil, hcell⟩
  have hm2 := hm
  unfold maxLen at hm2
  obtain ⟨m, hmn, hmm⟩ : ∃ m : Nat, m = min n xs.length ∧ (n < xs.length ∧ m = n ∨ xs.length ≤ n ∧ m = xs.length) := ⟨_, rfl, by omega⟩
  have hlen : (xs.take n).length = m := by rw [List.length_take]; omega
  have H2 : SL w 1 (.slice a m cap) m (ints (xs.take n)) := by
    refine ⟨by rw [ints_length]; omega, a, cap, rfl, by omega, hm, hnil, ?_⟩
    rcases hcell with hz | ⟨b, off, rfl, hcc⟩
    · left; omega
    · refine .inr ⟨b, off, rfl, fun j u hj => hcc j u ?_⟩
      unfold ints at hj ⊢
      rw [List.map_take] at hj
      rw [List.getElem?_take] at hj
      split at hj
      · exact hj
      · cases hj
  have HH := Lib.hid (And.intro H2 hlen)
  have HLN := Lib.hid hlen
  have hm7 : m ≤ 1000 := by omega
  have hmc : m ≤ cap := by omega
  clear hl hcell H H2 hlen hmn hnil
  rcases hmm with ⟨h1, h2⟩ | ⟨h1, h2⟩
  all_goals
    subst h2
    first
      | (have hmin2 : min (xs.length : Int) (n : Int) = (xs.length : Int) := by omega)
      | (have hmin2 : min (xs.length : Int) (m : Int) = (m : Int) := by omega)
    go_enter Try.func31, Try.ntmps31
    go_wp2_with (refine wpList_appS rfl _ _ _ rfl 3 1 8 _ Try.underlying33 infoInt rfl (by decide) (.slice none 0 0) 0 [] rfl (World.ownsRow_nil _ _ _ _) _ _ _ rfl HH.out.1 (ints_one _) (by unfold maxLen; omega) (by omega) ?_; intro a1 cap1 w1 o1 u1 k1; rw [Nat.zero_add, List.nil_append] at o1; rw [Nat.zero_add] at k1; clear HH)
    go_ret
    rw [HLN.out]
    refine ⟨a1, cap1, rfl, ⟨o1, fun g hg => ?_⟩, u1⟩
    rcases k1 with k1 | k1 <;> rw [hg] at k1 <;> simp [Value.ownBlock] at k1 <;> omega
/-! The law of durability, in plain words. -/
/-- What is known of a disk since all its bytes were firm. -/
structure Dur (s0 sd : DS) : Prop where
  off : sd.off = false
  plan : sd.plan = -1
  F : ∀ i, sd.F i = (s0.B i).length
  B : ∀ i, s0.B i <+: sd.B i
theorem dur_on {s : DS} (h : s.off = false) : (syncS (armS s (-1))).1 = 0 ∧ (syncS (armS s (-1))).2 = { s with plan := -1, F := fun i => (s.B i).length } := by
  have e : armS s (-1) = { s with plan := -1 } := by unfold armS; rw [if_neg (by rw [h]; simp)]; rfl
  rw [e]
  unfold syncS stepS
  rw [if_neg (by simp [h]), if_neg (by simp)]
  simp
theorem dur_off {s : DS} (h : s.off = true) : (syncS (armS s (-1))).1 = 23 ∧ (armS s (-1)).off = true := by
  have e : armS s (-1) = s := by unfold armS; rw [if_pos h]
  rw [e]
  unfold syncS
  rw [if_pos h]
  exact ⟨rfl, h⟩
theorem dur_start {s : DS} (h : s.off = false) : Dur s { s with plan := -1, F := fun i => (s.B i).length } := ⟨h, rfl, fun _ => rfl, fun _ => List.prefix_refl _⟩
theorem dur_append {s0 sd : DS} (h : Dur s0 sd) (f : Int) (b : List Int) : Dur s0 (appendS sd f b).2 := by
  unfold appendS
  split
  · exact h
  · split
    · exact h
    · split
      · exact h
      · unfold stepS
        simp only [h.plan]
        rw [if_pos (by omega)]
        refine ⟨h.off, rfl, h.F, fun i => ?_⟩
        simp only [setB]
        split
        · rename_i e; subst e; exact (h.B _).trans (List.prefix_append _ _)
        · exact h.B i
theorem kept_firm {s : DS} (h : ∀ i, s.F i = (s.B i).length) (keep : List Int) (i : Nat) : keptN s keep i = 0 := by
  have := keptN_le s keep i
  rw [h i] at this
  omega
theorem crash_firm {s : DS} (h : ∀ i, s.F i = (s.B i).length) (keep : List Int) (fp : Int) (i : Nat) : (crashS s keep fp).B i = s.B i := by
  have ht : tot (keptN s keep) 64 = 0 := tot_zero (fun i _ => kept_firm h keep i)
  show crashB s keep (crashAt s keep fp) i = s.B i
  unfold crashAt
  rw [ht, if_neg (by omega)]
  unfold crashB
  rw [kept_firm h, h i]
  simp
theorem flipL_take {l : List Int} {n k : Nat} (h : 8 * n ≤ k) : (flipL l k).take n = l.take n := by
  apply List.ext_getElem?
  intro j
  unfold flipL
  rw [List.getElem?_take, List.getElem?_take, List.getElem?_modify]
  split
  · have e : ¬ k / 8 = j := by omega
    simp [e]
  · rfl
theorem dur_crash {s0 sd : DS} (h : Dur s0 sd) (hok : sd.Ok) (keep : List Int) (fp : Int) (i : Nat) :
    ((crashS sd keep fp).B i).take (s0.B i).length = s0.B i ∧ (s0.B i).length ≤ ((crashS sd keep fp).B i).length ∧ ((crashS sd keep fp).B i).length ≤ (sd.B i).length := by
  have hl := crashB_length sd keep (crashAt sd keep fp) i hok
  have hk := keptN_le sd keep i
  have hF := h.F i
  have hB := (h.B i).length_le
  have hf := hok.firm i
  have ht : ((sd.B i).take (sd.F i + keptN sd keep i)).take (s0.B i).length = s0.B i := by
    rw [List.take_take, Nat.min_eq_left (by omega)]
    exact (List.prefix_iff_eq_take.1 (h.B i)).symm
  refine ⟨?_, by show _ ≤ (crashB sd keep (crashAt sd keep fp) i).length; omega, by show (crashB sd keep (crashAt sd keep fp) i).length ≤ _; omega⟩
  show (crashB sd keep (crashAt sd keep fp) i).take _ = _
  unfold crashB
  simp only
  split
  · exact ht
  · split
    · rw [flipL_take (by omega)]; exact ht
    · exact ht
end
end Disk
end Go.Proofs.Ytnljjkmmnkldcaa
