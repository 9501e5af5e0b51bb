/- Disks apart from other things: their operations. Conditions: none. -/
import Derived.Test.YtfkgpecglcjpkaaGreatSep
import Derived.Test.YtfkgpecglcjpkaaGreatDiskJ
set_option linter.unusedVariables false
set_option linter.unusedSimpArgs false
set_option linter.unusedSectionVars false
open Go.RowKit
namespace Go.Proofs.YtfkgpecglcjpkaaGreat
open L
namespace Disk
open Wire
def PDk (p : Nat) (s : DS) : Pr := ⟨fun w S => Dk w p s S, fun h hu hT => h.upd hu hT, fun h => h.lt⟩
section
variable {w0 w w' : World} {p q : Nat} {s : DS} {ps : List Pr}
theorem Sep.ok (h : Sep w0 (PDk p s :: ps) w) : s.Ok := by obtain ⟨S, h1, _⟩ := h.head; exact Dk.ok h1
theorem Sep.arm (h : Sep w0 (PDk p s :: ps) w) {n : Int} (hn : IsI64 n) : Calls Tryz.prog 9 #[.pointer (some ⟨p, 0, none⟩), .int .i64 n] w fun e w' => e = .returned (.tuple #[]) ∧ Sep w0 (PDk p (armS s n) :: ps) w' := by
  refine (Sep.call (p' := PDk p (armS s n)) (Q := fun e _ => e = .returned (.tuple #[])) h fun S hS => (Arm_calls hS hn).mono fun e w' ⟨h1, h2, h3⟩ => ⟨h1, S, h2, h3.wide (fun k hk => .inl (by simp at hk; subst hk; exact Dk.p_mem hS)), fun k hk => .inl hk⟩)
theorem Sep.sync (h : Sep w0 (PDk p s :: ps) w) : Calls Tryz.prog 25 #[.pointer (some ⟨p, 0, none⟩)] w fun e w' => e = .returned (.int .i64 (syncS s).1) ∧ Sep w0 (PDk p (syncS s).2 :: ps) w' := by
  refine (Sep.call (p' := PDk p (syncS s).2) (Q := fun e _ => e = .returned (.int .i64 (syncS s).1)) h fun S hS => (Sync_calls hS).mono fun e w' ⟨h1, h2, h3⟩ => ⟨h1, S, h2, h3, fun k hk => .inl hk⟩)
theorem Sep.crash {v : Value} {keep : List Int} {n : Nat} {fp : Int} (h : Sep w0 (PDk p s :: PSL 1 v keep.length (ints keep) :: ps) w) (hk : ∀ x ∈ keep, IsI64 x) (hfp : IsI64 fp) :
    Calls Tryz.prog 11 #[.pointer (some ⟨p, 0, none⟩), v, .int .i64 fp] w fun e w' => e = .returned (.tuple #[]) ∧ Sep w0 (PDk p (crashS s keep fp) :: PSL 1 v keep.length (ints keep) :: ps) w' := by
  refine (Sep.call2 (p' := PDk p (crashS s keep fp)) (Q := fun e _ => e = .returned (.tuple #[])) h fun S T hS hT ha => (Crash_calls hS hT.1 (fun g hg hm => ha g hm (hT.2.1 g hg)) hk hfp).mono fun e w' ⟨h1, h2, h3⟩ => ⟨h1, S, h2, h3, fun k hk => .inl hk⟩)
theorem Sep.append {v : Value} {b : List Int} {f : Int} (h : Sep w0 (PDk p s :: PSL 1 v b.length (byts b) :: ps) w) (hf : IsI64 f) (hb : ∀ x ∈ b, 0 ≤ x ∧ x ≤ 255) (hl : b.length ≤ 1000000000) :
    Calls Tryz.prog 34 #[.pointer (some ⟨p, 0, none⟩), .int .i64 f, v] w fun e w' => e = .returned (.int .i64 (appendS s f b).1) ∧ Sep w0 (PDk p (appendS s f b).2 :: PSL 1 v b.length (byts b) :: ps) w' := by
  refine (Sep.call2 (p' := PDk p (appendS s f b).2) (Q := fun e _ => e = .returned (.int .i64 (appendS s f b).1)) h fun S T hS hT ha => (Append_calls hS hf hT.1 hb hl (fun g hg hm => ha g hm (hT.2.1 g hg))).mono fun e w' ⟨h1, S', h2, h3, h4⟩ => ⟨h1, S', h2, h3, h4⟩)
theorem Sep.read (h : Sep w0 (PDk p s :: ps) w) {f : Int} (hf : IsI64 f) :
    Calls Tryz.prog 19 #[.pointer (some ⟨p, 0, none⟩), .int .i64 f] w fun e w' => ∃ v, e = .returned (.tuple #[v, .int .i64 (readS s f).2]) ∧ OwnV w 5 1 v (readS s f).1.length (byts (readS s f).1) w' ∧ Upd [] w w' := by
  obtain ⟨S, h1, _⟩ := h.head; exact Read_calls h1 hf
/-- A slice just made, as a thing of its own. -/
theorem Sep.slice {e : TypeId} {k : Nat} {v : Value} {n : Nat} {cs : List Value} (h : Sep w0 ps w) (hu : Upd [] w w') (hv : OwnV w e k v n cs w') : Sep w0 (PSL k v n cs :: ps) w' :=
  h.new (S := v.ownBlock.toList) hu ⟨hv.sl, fun g hg => by simp [hg], fun g hg => hv.lt g (by simpa using hg)⟩ (fun g hg => hv.fresh g (by simpa using hg))
end
end Disk
end Go.Proofs.YtfkgpecglcjpkaaGreat
