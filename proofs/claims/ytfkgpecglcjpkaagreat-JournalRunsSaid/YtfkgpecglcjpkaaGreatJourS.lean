/- Walks through the laws of journals: what they share. Conditions: none. -/
import Derived.Test.YtfkgpecglcjpkaaGreatJourO
import Derived.Test.YtfkgpecglcjpkaaGreatJourL
import Derived.Test.YtfkgpecglcjpkaaGreatJourF
set_option linter.unusedVariables false
set_option linter.unusedSimpArgs false
set_option linter.unusedSectionVars false
open Go.RowKit
namespace Go.Proofs.YtfkgpecglcjpkaaGreat
open L
namespace Jour
open Wire Hash R01 R02 Disk
attribute [-go_sem] sliced
/-- An owned row. -/
def PRw (e : TypeId) (k : Nat) (v : Value) (n : Nat) (cs : List Value) : Pr where
  P w S := w.ownsRow 0 e k v n cs ∧ (∀ g, v.ownBlock = some g → g ∈ S) ∧ ∀ g ∈ S, g < w.heap.size
  upd h hu hT := ⟨ownsRow_updL h.1 hu (fun b hb e => hT b hb (h.2.1 b e)), h.2.1, fun g hg => Nat.lt_of_lt_of_le (h.2.2 g hg) hu.size⟩
  lt h := h.2.2
/-- A list of byte slices, its values named. -/
def PBV (v : Value) (l : List (List Int)) (vals : List Value) : Pr where
  P w S := (SL w 1 v l.length vals ∧ ∀ (i : Nat) (c : List Int), l[i]? = some c → ∃ y, vals[i]? = some y ∧ SL w 1 y c.length (byts c) ∧ ∀ g, y.ownBlock = some g → g ∈ S) ∧ (∀ g, v.ownBlock = some g → g ∈ S) ∧ ∀ g ∈ S, g < w.heap.size
  upd h hu hT := by
    obtain ⟨⟨h1, h2⟩, h3, h4⟩ := h
    refine ⟨⟨h1.upd hu (fun b hb e => hT b hb (h3 b e)), fun i c hi => ?_⟩, h3, fun g hg => Nat.lt_of_lt_of_le (h4 g hg) hu.size⟩
    obtain ⟨y, h5, h6, h7⟩ := h2 i c hi
    exact ⟨y, h5, h6.upd hu (fun b hb e => hT b hb (h7 b e)), h7⟩
  lt h := h.2.2
/-- Only file f holds bytes. -/
def one (f : Nat) (x : List Int) : Nat → List Int := setB (fun _ => []) f x
theorem open_new (room f : Nat) (hf : f < 64) : openS (firmP room (fun _ => []) (-1)) f = ([], 0, firmP room (one f []) (-1)) := by
  rw [open_firm hf]
  have e : scanL [] = [] := scanL_few (by simp)
  show (scanL [], 0, _) = _
  rw [e]
  rfl
theorem open_one (room f : Nat) (hf : f < 64) (x : List Int) : openS (firmP room (one f x) (-1)) f = (scanL x, 0, firmP room (one f (cat 0 (scanL x))) (-1)) := by
  rw [open_firm hf]
  unfold one
  rw [setB_at, setB_two]
theorem one_used (room f : Nat) (hf : f < 64) (p : Int) (x : List Int) : used (firmP room (one f x) p) = x.length := used_one room hf p x
theorem one_app (f : Nat) (x y : List Int) : setB (one f x) f (one f x f ++ y) = one f (x ++ y) := by
  unfold one
  rw [setB_at, setB_two]
theorem sep_ints {w0 w w' : World} {ps : List Pr} {bs : List Int} (h : L.Sep w0 ps w) (hu : Upd [] w w') (hb : Blk w' w.heap.size (ints bs) 3) (hl : bs.length ≤ 1000) : L.Sep w0 (PSL 1 (.slice (some ⟨w.heap.size, 0, none⟩) bs.length bs.length) bs.length (ints bs) :: ps) w' :=
  h.new (S := [w.heap.size]) hu ⟨SL.of_blk (pad := []) (e := 3) (by rw [List.append_nil]; exact hb) (by simp [ints]) (Nat.le_refl _) (by unfold maxLen; omega), fun g hg => by simp [Value.ownBlock] at hg; simp [hg], fun g hg => by simp at hg; subst hg; exact hb.lt⟩ (fun g hg => by simp at hg; omega)
section
variable {w0 w w' : World} {ps : List Pr} {p q : Nat} {s : DS} {v : Value} {l : List (List Int)}
theorem fresh_calls {room : Nat} (hr : room ≤ 16777216) : Calls Tryz.prog 5 #[.int .i64 (room : Int)] w fun e w' => ∃ p, e = .returned (.pointer (some ⟨p, 0, none⟩)) ∧ L.Sep w [PDk p (firmP room (fun _ => []) (-1))] w' := by
  have HN := Lib.hid (New_good (w := w) hr)
  go_enter Tryz.func5, Tryz.ntmps5
  go_wp2_with (go_at_call 22; refine HN.out.mono ?_; rintro e w1 ⟨q, S, rfl, h1, u1, k1⟩; have H := Lib.hid ((Sep.nil (Upd.refl _ w)).new (p := PDk q (newS room)) u1 h1 k1); clear h1 u1 k1)
  go_ret
  exact ⟨q, rfl, H.out⟩
/-- An element of a list of byte slices. -/
theorem Sep.at_ (n : Nat) (h : L.Sep w0 ps w) (hn : ps[n]? = some (PBL v l)) : ∃ a cap, v = .slice a l.length cap ∧ l.length ≤ cap ∧ cap ≤ 9223372036854775807 ∧ ∀ (k : Nat) (c : List Int), l[k]? = some c → ∃ g off ac cc, a = some ⟨g, off, none⟩ ∧ w.cell? ⟨g, off + k, none⟩ = some (.slice ac c.length cc) ∧ SL w 1 (.slice ac c.length cc) c.length (byts c) ∧ ∀ j, (Value.slice ac c.length cc).ownBlock = some j → j < w.heap.size := by
  obtain ⟨S, ⟨⟨vals, h1, h2⟩, h3, h4⟩, _⟩ := (h.pull n hn).head
  obtain ⟨a, cap, rfl, q, r, hc⟩ := SL.form h1
  refine ⟨a, cap, rfl, q, r, fun k c hk => ?_⟩
  have hkl := (List.getElem?_eq_some_iff.1 hk).1
  obtain ⟨g, off, rfl, hcc⟩ := hc (by omega)
  obtain ⟨y, h5, h6, h7⟩ := h2 k c hk
  obtain ⟨ac, cc, rfl, _⟩ := h6.val
  exact ⟨g, off, ac, cc, rfl, hcc k _ h5, h6, fun j hj => h4 j (h7 j hj)⟩
theorem small_take {l : List (List Int)} (h : Small l) (n : Nat) : Small (l.take n) := fun c hc => h c (List.mem_of_mem_take hc)
theorem small_cat {l : List (List Int)} (h : Small l) (k : Nat) : (cat k l).length ≤ 50 * l.length := by
  induction l generalizing k with
  | nil => simp [cat]
  | cons c l ih =>
    have h1 := ih (fun d hd => h d (List.mem_cons_of_mem _ hd)) (k + 1)
    have h2 := frB_length k c
    have h3 := (h c (by simp)).2
    rw [cat, List.length_append, List.length_cons]
    omega
theorem Sep.used (h : L.Sep w0 (PDk p s :: ps) w) : Calls Tryz.prog 50 #[.pointer (some ⟨p, 0, none⟩)] w fun e w' => e = .returned (.int .i64 (used s : Nat)) ∧ Upd [] w w' := by
  obtain ⟨S, h1, _⟩ := h.head
  exact Used_calls h1
/-- Append of no bytes to a log that is down. -/
theorem LApp_down {b : List Int} {f : Int} {n : Nat} (h : L.Sep w0 (PDk p s :: PLg q p ⟨f, n, false⟩ :: ps) w) (hf : IsI64 f) (hn : n ≤ 1000000000000) : Calls Tryz.prog 15 #[.pointer (some ⟨q, 0, none⟩), .slice none 0 0] w fun e w' => e = .returned (.int .i64 23) ∧ L.Sep w0 (PDk p s :: PLg q p ⟨f, n, false⟩ :: ps) w' := by
  have h1 := LApp_calls (b := []) h (v := .slice none 0 0) (SL.of_owns (World.ownsRow_nil w 0 5 1)) (by simp [Value.ownBlock]) hf hn (by simp) (by simp)
  rw [japp_down s (b := []) (by simp)] at h1
  exact h1
/-- Append where there is room. -/
theorem LApp_fits {F : Int} {f k room : Nat} {B : Nat → List Int} {b : List Int} (h : L.Sep w0 (PDk p (firmP room B (-1)) :: PLg q p ⟨F, k, true⟩ :: ps) w) (hF : F = (f : Int)) (hf : f < 64) (hv : SL w 1 v b.length (byts b)) (hlt : ∀ g, v.ownBlock = some g → g < w.heap.size) (hk : k ≤ 1000000000000)
    (hb : ∀ x ∈ b, IsU8 x) (hl : b.length ≤ 65536) (hr : used (firmP room B (-1)) + (40 + b.length) ≤ room) :
    Calls Tryz.prog 15 #[.pointer (some ⟨q, 0, none⟩), v] w fun e w' => e = .returned (.int .i64 0) ∧ L.Sep w0 (PDk p (firmP room (setB B f (B f ++ frB k b)) (-1)) :: PLg q p ⟨F, k + 1, true⟩ :: ps) w' := by
  subst hF
  have h1 := LApp_calls h hv hlt (show IsI64 (f : Int) from ⟨by omega, by omega⟩) hk hb (by omega)
  have hfl := frB_length (k : Nat) b
  rw [japp_fits hf hl (by omega)] at h1
  exact h1
theorem LApp_one {F : Int} {f k room : Nat} {y b : List Int} (h : L.Sep w0 (PDk p (firmP room (one f y) (-1)) :: PLg q p ⟨F, k, true⟩ :: ps) w) (hF : F = (f : Int)) (hf : f < 64) (hv : SL w 1 v b.length (byts b)) (hlt : ∀ g, v.ownBlock = some g → g < w.heap.size) (hk : k ≤ 1000000000000)
    (hb : ∀ x ∈ b, IsU8 x) (hl : b.length ≤ 65536) (hr : y.length + (40 + b.length) ≤ room) :
    Calls Tryz.prog 15 #[.pointer (some ⟨q, 0, none⟩), v] w fun e w' => e = .returned (.int .i64 0) ∧ L.Sep w0 (PDk p (firmP room (one f (y ++ frB k b)) (-1)) :: PLg q p ⟨F, k + 1, true⟩ :: ps) w' := by
  have h1 := LApp_fits h hF hf hv hlt hk hb hl (by rw [one_used room f hf]; exact hr)
  rw [one_app] at h1
  exact h1
theorem Open_arg (h : L.Sep w0 (PDk p s :: ps) w) {f : Int} (hf : IsI64 f) (hn : isF f = false) : Calls Tryz.prog 7 #[.pointer (some ⟨p, 0, none⟩), .int .i64 f] w fun e w' => e = .returned (.tuple #[.pointer none, .slice none 0 0, .int .i64 1]) ∧ L.Sep w0 (PDk p s :: ps) w' := by
  refine (Open_calls h hf).mono fun e w' h => ?_
  rw [open_arg s hn] at h
  unfold OpT at h
  rw [if_neg (by simp)] at h
  exact h
theorem Sep.row (n : Nat) (h : L.Sep w0 ps w) {e : TypeId} {k c : Nat} {vals : List Value} (hn : ps[n]? = some (PRw e k v c vals)) : w.ownsRow 0 e k v c vals := by
  obtain ⟨S, h1, _⟩ := (h.pull n hn).head
  exact h1.1
section
variable {vals : List Value}
theorem Sep.listV (h : L.Sep w0 ps w) (hu : Upd [] w w') (hb : BO w v l w') : ∃ vals, L.Sep w0 (PBV v l vals :: ps) w' := by
  obtain ⟨vals, h1, h2⟩ := hb.ex
  refine ⟨vals, ?_⟩
  have mem : ∀ g, w.heap.size ≤ g → g < w'.heap.size → g ∈ (List.range w'.heap.size).filter (fun g => decide (w.heap.size ≤ g)) := fun g h1 h2 => by simp; exact ⟨h2, h1⟩
  refine h.new (S := (List.range w'.heap.size).filter (fun g => decide (w.heap.size ≤ g))) hu ⟨⟨h1.sl, fun i c hi => ?_⟩, fun g hg => mem g (h1.fresh g hg) (h1.lt g hg), fun g hg => by simp at hg; exact hg.1⟩ (fun g hg => by simp at hg; exact hg.2)
  obtain ⟨y, h3, h4⟩ := h2 i c hi
  exact ⟨y, h3, h4.sl, fun g hg => mem g (h4.fresh g hg) (h4.lt g hg)⟩
/-- An element of a list of byte slices. -/
theorem Sep.atV (n : Nat) (h : L.Sep w0 ps w) (hn : ps[n]? = some (PBV v l vals)) : ∃ a cap, v = .slice a l.length cap ∧ l.length ≤ cap ∧ cap ≤ 9223372036854775807 ∧ ∀ (k : Nat) (c : List Int), l[k]? = some c → ∃ g off ac cc, a = some ⟨g, off, none⟩ ∧ vals[k]? = some (.slice ac c.length cc) ∧ w.cell? ⟨g, off + k, none⟩ = some (.slice ac c.length cc) ∧ SL w 1 (.slice ac c.length cc) c.length (byts c) ∧ ∀ j, (Value.slice ac c.length cc).ownBlock = some j → j < w.heap.size := by
  obtain ⟨S, ⟨⟨h1, h2⟩, h3, h4⟩, _⟩ := (h.pull n hn).head
  obtain ⟨a, cap, rfl, q, r, hc⟩ := SL.form h1
  refine ⟨a, cap, rfl, q, r, fun k c hk => ?_⟩
  have hkl := (List.getElem?_eq_some_iff.1 hk).1
  obtain ⟨g, off, rfl, hcc⟩ := hc (by omega)
  obtain ⟨y, h5, h6, h7⟩ := h2 k c hk
  obtain ⟨ac, cc, rfl, _⟩ := h6.val
  exact ⟨g, off, ac, cc, rfl, h5, hcc k _ h5, h6, fun j hj => h4 j (h7 j hj)⟩
theorem Sep.cellV (n : Nat) (h : L.Sep w0 ps w) {g off cap k : Nat} {y : Value} {c : List Int} (hn : ps[n]? = some (PBV (.slice (some ⟨g, off, none⟩) l.length cap) l vals)) (hc : l[k]? = some c) (hv : vals[k]? = some y) : w.cell? ⟨g, off + k, none⟩ = some y := by
  obtain ⟨a, cap', he, _, _, hel⟩ := Sep.atV n h hn
  cases he
  obtain ⟨g', off', ac, cc, e, e2, e3, _⟩ := hel k c hc
  cases e
  rw [hv] at e2
  rw [e3, e2]
end
end
end Jour
end Go.Proofs.YtfkgpecglcjpkaaGreat
