/- A log of records in a file of a disk, as plain data: what Open and Append do, and what the laws need. No program is named. Conditions: none. -/
import Derived.Test.YtfkgpecglcjpkaaGreatJourP
import Derived.Test.YtfkgpecglcjpkaaGreatDiskP
set_option linter.unusedVariables false
set_option linter.unusedSimpArgs false
set_option linter.unusedSectionVars false
open Go.RowKit
namespace Go.Proofs.YtfkgpecglcjpkaaGreat
open L
namespace Jour
open Wire Hash Disk
theorem scn_ex {b : List Int} : ∀ (n : Nat) (l : List (List Int)), b.length - (cat 0 l).length ≤ n → cat 0 l <+: b → ∃ m, Scn b m
  | 0, l, hn, h => ⟨l, h, fun x hx => by
      have h1 := hx.length_le
      have h2 := frB_length (l.length : Nat) x
      rw [List.length_drop] at h1
      omega⟩
  | n + 1, l, hn, h => by
    by_cases hx : ∃ x, frB (l.length : Nat) x <+: b.drop (cat 0 l).length
    · obtain ⟨x, hx⟩ := hx
      refine scn_ex n (l ++ [x]) ?_ (step_pre h hx)
      have h2 := frB_length (l.length : Nat) x
      rw [cat_snoc, List.length_append, Nat.zero_add]
      omega
    · exact ⟨l, h, fun x h2 => hx ⟨x, h2⟩⟩
/-- The records at the beginning of bytes. -/
noncomputable def scanL (b : List Int) : List (List Int) := Classical.choose (scn_ex (b := b) b.length [] (by simp [cat]) (by simp [cat]))
theorem scanL_scn (b : List Int) : Scn b (scanL b) := Classical.choose_spec (scn_ex (b := b) b.length [] (by simp [cat]) (by simp [cat]))
theorem scanL_eq {b : List Int} {l : List (List Int)} (h : Scn b l) (hb : b.length < 1000000000000) : scanL b = l := (scanL_scn b).uniq h hb
theorem scanL_cat {l : List (List Int)} (hb : (cat 0 l).length < 1000000000000) : scanL (cat 0 l) = l := by
  refine scanL_eq ⟨List.prefix_refl _, fun x hx => ?_⟩ hb
  rw [List.drop_length] at hx
  have h1 := hx.length_le
  have h2 := frB_length (l.length : Nat) x
  rw [List.length_nil] at h1
  omega
/-- A frame that is not whole is none. -/
theorem scanL_part {l : List (List Int)} {p : List Int} {x : List Int} (hp : p <+: frB (l.length : Nat) x) (hl : p.length < (frB (l.length : Nat) x).length) (hb : (cat 0 l).length < 100000000000) (hx : (frB (l.length : Nat) x).length < 1000000000) : scanL (cat 0 l ++ p) = l := by
  refine scanL_eq ⟨List.prefix_append _ _, fun y hy => ?_⟩ (by rw [List.length_append]; omega)
  rw [List.drop_left] at hy
  have hi : IsI64 (l.length : Nat) := by have := cat_len 0 l; exact ⟨by omega, by omega⟩
  obtain ⟨t, ht⟩ := pre_get hp
  obtain ⟨r, hr⟩ := pre_get hy
  have h1 := frB_length (l.length : Nat) x
  have h2 := frB_length (l.length : Nat) y
  have h3 := hy.length_le
  have e : frB (l.length : Nat) x ++ [] = frB (l.length : Nat) y ++ (r ++ t) := by rw [List.append_nil, ht, hr, List.append_assoc]
  obtain ⟨_, he⟩ := frB_cut hi hi (by omega) (by omega) e
  rw [he] at hl
  omega
theorem scanL_whole {l : List (List Int)} {x : List Int} (hb : (cat 0 l).length < 100000000000) (hx : (frB (l.length : Nat) x).length < 1000000000) : scanL (cat 0 l ++ frB (l.length : Nat) x) = l ++ [x] := by
  have e : cat 0 l ++ frB (l.length : Nat) x = cat 0 (l ++ [x]) := by rw [cat_snoc, Nat.zero_add]
  rw [e]
  exact scanL_cat (by rw [← e, List.length_append]; omega)
theorem scanL_has {b : List Int} {l : List (List Int)} (h : cat 0 l <+: b) (hb : b.length < 1000000000000) : l <+: scanL b := (scanL_scn b).has hb l h
theorem scanL_len (b : List Int) : (cat 0 (scanL b)).length ≤ b.length := (scanL_scn b).pre.length_le
theorem scanL_take (b : List Int) : b.take (cat 0 (scanL b)).length = cat 0 (scanL b) := (List.prefix_iff_eq_take.1 (scanL_scn b).pre).symm
/-- Few bytes hold no record. -/
theorem scanL_few {b : List Int} (h : b.length < 4) : scanL b = [] := by
  have h1 := scanL_len b
  have h2 := cat_len 0 (scanL b)
  exact List.eq_nil_of_length_eq_zero (by omega)
/-- A log. -/
structure LS where
  file : Int
  n : Nat
  up : Bool
/-- What follows a file's records is removed. -/
noncomputable def cutS (s : DS) (f : Int) : Int × DS :=
  if (cat 0 (scanL (s.B f.toNat))).length < (s.B f.toNat).length then truncS s f ((cat 0 (scanL (s.B f.toNat))).length : Nat) else (0, s)
/-- Open: the records, the error, the disk. -/
noncomputable def openS (s : DS) (f : Int) : List (List Int) × Int × DS :=
  if isF f = false then ([], 1, s) else if s.off = true then ([], 23, s)
  else if (cutS s f).1 ≠ 0 then ([], (cutS s f).1, (cutS s f).2)
  else if (syncS (cutS s f).2).1 ≠ 0 then ([], (syncS (cutS s f).2).1, (syncS (cutS s f).2).2)
  else (scanL (s.B f.toNat), 0, (syncS (cutS s f).2).2)
/-- Append: the error, the log, the disk. -/
noncomputable def jappS (s : DS) (l : LS) (b : List Int) : Int × LS × DS :=
  if 65536 < b.length then (4, l, s) else if l.up = false then (23, l, s)
  else if (appendS s l.file (frB l.n b)).1 ≠ 0 then ((appendS s l.file (frB l.n b)).1, { l with up := decide ((appendS s l.file (frB l.n b)).1 ≠ 23) }, (appendS s l.file (frB l.n b)).2)
  else if (syncS (appendS s l.file (frB l.n b)).2).1 ≠ 0 then ((syncS (appendS s l.file (frB l.n b)).2).1, { l with up := false }, (syncS (appendS s l.file (frB l.n b)).2).2)
  else (0, { l with n := l.n + 1 }, (syncS (appendS s l.file (frB l.n b)).2).2)
theorem syncS_err (s : DS) : (syncS s).1 = 0 ∨ (syncS s).1 = 23 := by
  unfold syncS
  split
  · exact .inr rfl
  · split
    · exact .inr rfl
    · exact .inl rfl
theorem cutS_ok {s : DS} (h : s.Ok) (f : Int) : (cutS s f).2.Ok := by
  unfold cutS
  split
  · exact truncS_ok h
  · exact h
theorem openS_ok {s : DS} (h : s.Ok) (f : Int) : (openS s f).2.2.Ok := by
  unfold openS
  split
  · exact h
  · split
    · exact h
    · split
      · exact cutS_ok h f
      · split
        · exact syncS_ok (cutS_ok h f)
        · exact syncS_ok (cutS_ok h f)
theorem DS.ext' {a b : DS} (h1 : a.room = b.room) (h2 : a.B = b.B) (h3 : a.F = b.F) (h4 : a.off = b.off) (h5 : a.plan = b.plan) : a = b := by
  obtain ⟨_, _, _, _, _⟩ := a
  obtain ⟨_, _, _, _, _⟩ := b
  simp at h1 h2 h3 h4 h5
  simp [h1, h2, h3, h4, h5]
theorem setB_me (B : Nat → List Int) (i : Nat) : setB B i (B i) = B := by
  funext j; unfold setB; split
  · rename_i h; rw [h]
  · rfl
theorem setB_two (B : Nat → List Int) (i : Nat) (x y : List Int) : setB (setB B i x) i y = setB B i y := by
  funext j; unfold setB; split <;> rfl
theorem setB_at (B : Nat → List Int) (i : Nat) (x : List Int) : setB B i x i = x := by simp [setB]
theorem setB_off (B : Nat → List Int) {i j : Nat} (h : j ≠ i) (x : List Int) : setB B i x j = B j := by simp [setB, h]
/-- All bytes are firm, the power is on, p steps are left. -/
def firmP (room : Nat) (B : Nat → List Int) (p : Int) : DS := ⟨room, B, fun i => (B i).length, false, p⟩
theorem newS_firm (room : Nat) : newS room = firmP room (fun _ => []) (-1) := rfl
theorem crashS_firm (s : DS) (keep : List Int) (fp : Int) : crashS s keep fp = firmP s.room (crashB s keep (crashAt s keep fp)) (-1) := rfl
theorem isF_nat {f : Nat} (h : f < 64) : isF (f : Int) = true := by simp [isF]; omega
theorem used_setB (room : Nat) (B : Nat → List Int) {f : Nat} (hf : f < 64) (p : Int) (x : List Int) : used (firmP room (setB B f x) p) + (B f).length = used (firmP room B p) + x.length := by
  have h := tot_one (n := 64) (g := fun i => (setB B f x i).length) (h := fun i => (B i).length) (i := f) hf (fun j _ hne => by simp only [setB]; rw [if_neg hne])
  simp only [setB_at] at h
  unfold used firmP
  simp only
  omega
theorem append_firm {room : Nat} {B : Nat → List Int} {f : Nat} (hf : f < 64) (b : List Int) : appendS (firmP room B (-1)) f b = if room < used (firmP room B (-1)) + b.length then (22, firmP room B (-1)) else (0, { firmP room B (-1) with B := setB B f (B f ++ b) }) := by
  unfold appendS
  rw [isF_nat hf, if_neg (by simp), if_neg (by simp [firmP]), Int.toNat_natCast]
  show (if room < _ then _ else _) = _
  split
  · rfl
  · unfold stepS firmP
    simp
theorem sync_any {s : DS} (h : s.off = false) (hp : s.plan = -1) : syncS s = (0, firmP s.room s.B (-1)) := by
  have e : stepS s = (false, s) := by unfold stepS; rw [if_pos (by omega)]
  unfold syncS
  rw [if_neg (by simp [h]), e, if_neg (by simp)]
  exact Prod.ext rfl (DS.ext' rfl rfl rfl h hp)
theorem japp_limit (s : DS) (l : LS) {b : List Int} (h : 65536 < b.length) : jappS s l b = (4, l, s) := by unfold jappS; rw [if_pos h]
theorem japp_down (s : DS) {f : Int} {n : Nat} {b : List Int} (h : b.length ≤ 65536) : jappS s ⟨f, n, false⟩ b = (23, ⟨f, n, false⟩, s) := by unfold jappS; rw [if_neg (by omega), if_pos rfl]
theorem japp_full {room : Nat} {B : Nat → List Int} {f n : Nat} (hf : f < 64) {b : List Int} (hb : b.length ≤ 65536) (h : room < used (firmP room B (-1)) + (frB n b).length) :
    jappS (firmP room B (-1)) ⟨f, n, true⟩ b = (22, ⟨f, n, true⟩, firmP room B (-1)) := by
  unfold jappS
  rw [if_neg (by omega), if_neg (by simp), append_firm hf, if_pos h]
  simp
theorem japp_fits {room : Nat} {B : Nat → List Int} {f n : Nat} (hf : f < 64) {b : List Int} (hb : b.length ≤ 65536) (h : used (firmP room B (-1)) + (frB n b).length ≤ room) :
    jappS (firmP room B (-1)) ⟨f, n, true⟩ b = (0, ⟨f, n + 1, true⟩, firmP room (setB B f (B f ++ frB n b)) (-1)) := by
  have ea := append_firm (room := room) (B := B) hf (frB n b)
  rw [if_neg (by omega)] at ea
  have e := sync_any (s := { firmP room B (-1) with B := setB B f (B f ++ frB n b) }) rfl rfl
  unfold jappS
  rw [if_neg (by omega), if_neg (by simp)]
  dsimp only
  rw [ea, if_neg (by simp)]
  dsimp only at e ⊢
  rw [e, if_neg (by simp)]
  rfl
theorem open_firm {room : Nat} {B : Nat → List Int} {f : Nat} (hf : f < 64) : openS (firmP room B (-1)) f = (scanL (B f), 0, firmP room (setB B f (cat 0 (scanL (B f)))) (-1)) := by
  have hl := scanL_len (B f)
  have e : ∃ F, cutS (firmP room B (-1)) f = (0, { firmP room B (-1) with B := setB B f (cat 0 (scanL (B f))), F := F }) := by
    unfold cutS
    rw [Int.toNat_natCast]
    show ∃ F, (if (cat 0 (scanL (B f))).length < (B f).length then _ else _) = _
    split
    · refine ⟨setF (firmP room B (-1)).F f (min ((firmP room B (-1)).F f) (cat 0 (scanL (B f))).length), ?_⟩
      have es : stepS (firmP room B (-1)) = (false, firmP room B (-1)) := by unfold stepS firmP; simp
      unfold truncS
      rw [Int.toNat_natCast, isF_nat hf, if_neg (by simp [firmP]; omega), if_neg (by simp [firmP]), es, if_neg (by simp)]
      simp only [Int.toNat_natCast]
      show (0, _) = (0, _)
      rw [show (firmP room B (-1)).B f = B f from rfl, scanL_take]
      rfl
    · rename_i h
      have e2 : cat 0 (scanL (B f)) = B f := by rw [← scanL_take, List.take_of_length_le (by omega)]
      refine ⟨fun i => (B i).length, ?_⟩
      rw [e2, setB_me]
      rfl
  obtain ⟨F, e⟩ := e
  have e2 := sync_any (s := { firmP room B (-1) with B := setB B f (cat 0 (scanL (B f))), F := F }) rfl rfl
  unfold openS
  rw [isF_nat hf, if_neg (by simp), if_neg (by simp [firmP]), e, if_neg (by simp), e2, if_neg (by simp)]
  rfl
theorem open_arg (s : DS) {f : Int} (h : isF f = false) : openS s f = ([], 1, s) := by unfold openS; rw [if_pos h]
/-- An Append that meets the failure. -/
theorem japp_fails {room : Nat} {B : Nat → List Int} {f n : Nat} (hf : f < 64) {b : List Int} {p : Int} (hp : p = 0 ∨ p = 1) (hb : b.length ≤ 65536) (h : used (firmP room B p) + (frB n b).length ≤ room) :
    jappS (firmP room B p) ⟨f, n, true⟩ b = (23, ⟨f, n, false⟩, ⟨room, setB B f (B f ++ frB n b), fun i => (B i).length, true, -1⟩) := by
  have hu : ¬ (firmP room B p).room < used (firmP room B p) + (frB n b).length := by show ¬ room < _; omega
  unfold jappS
  rw [if_neg (by omega), if_neg (by simp)]
  rcases hp with rfl | rfl
  · have e : appendS (firmP room B 0) f (frB n b) = (23, ⟨room, setB B f (B f ++ frB n b), fun i => (B i).length, true, -1⟩) := by
      unfold appendS
      rw [isF_nat hf, if_neg (by simp), if_neg (by simp [firmP]), if_neg hu, Int.toNat_natCast]
      unfold stepS firmP
      simp
    rw [e, if_pos (by simp)]
    simp
  · have e : appendS (firmP room B 1) f (frB n b) = (0, ⟨room, setB B f (B f ++ frB n b), fun i => (B i).length, false, 0⟩) := by
      unfold appendS
      rw [isF_nat hf, if_neg (by simp), if_neg (by simp [firmP]), if_neg hu, Int.toNat_natCast]
      unfold stepS firmP
      simp
    have e2 : syncS ⟨room, setB B f (B f ++ frB n b), fun i => (B i).length, false, 0⟩ = (23, ⟨room, setB B f (B f ++ frB n b), fun i => (B i).length, true, -1⟩) := by
      unfold syncS stepS
      simp
    rw [e, if_neg (by simp), e2, if_pos (by simp)]
theorem japp_left {room : Nat} {B : Nat → List Int} {f n : Nat} (hf : f < 64) {b : List Int} {p : Int} (hp : 2 ≤ p) (hb : b.length ≤ 65536) (h : used (firmP room B p) + (frB n b).length ≤ room) :
    jappS (firmP room B p) ⟨f, n, true⟩ b = (0, ⟨f, n + 1, true⟩, firmP room (setB B f (B f ++ frB n b)) (p - 2)) := by
  have hu : ¬ (firmP room B p).room < used (firmP room B p) + (frB n b).length := by show ¬ room < _; omega
  unfold jappS
  rw [if_neg (by omega), if_neg (by simp)]
  have e : appendS (firmP room B p) f (frB n b) = (0, ⟨room, setB B f (B f ++ frB n b), fun i => (B i).length, false, p - 1⟩) := by
    unfold appendS
    rw [isF_nat hf, if_neg (by simp), if_neg (by simp [firmP]), if_neg hu, Int.toNat_natCast]
    have h1 : ¬ p < 0 := by omega
    have h2 : ¬ p = 0 := by omega
    unfold stepS firmP
    simp [h1, h2]
  have e2 : syncS ⟨room, setB B f (B f ++ frB n b), fun i => (B i).length, false, p - 1⟩ = (0, firmP room (setB B f (B f ++ frB n b)) (p - 2)) := by
    have h1 : ¬ p - 1 < 0 := by omega
    have h2 : ¬ p - 1 = 0 := by omega
    unfold syncS stepS
    simp [h1, h2]
    exact DS.ext' rfl rfl rfl rfl (by show p - 1 - 1 = p - 2; omega)
  rw [e, if_neg (by simp), e2, if_neg (by simp)]
theorem used_plan (room : Nat) (B : Nat → List Int) (p q : Int) : used (firmP room B p) = used (firmP room B q) := rfl
/-- Only file f holds bytes. -/
theorem used_one (room : Nat) {f : Nat} (hf : f < 64) (p : Int) (x : List Int) : used (firmP room (setB (fun _ => []) f x) p) = x.length := by
  have h := used_setB room (fun _ => []) hf p x
  have h0 : used (firmP room (fun _ => []) p) = 0 := tot_zero (fun _ _ => rfl)
  simp at h
  omega
theorem used_both (room : Nat) {f g : Nat} (hf : f < 64) (hg : g < 64) (hfg : g ≠ f) (p : Int) (x y : List Int) : used (firmP room (setB (setB (fun _ => []) f x) g y) p) = x.length + y.length := by
  have h := used_setB room (setB (fun _ => []) f x) hg p y
  rw [used_one room hf p x, setB_off _ hfg] at h
  simp at h
  omega
/-- What was firm stands behind a crash. -/
theorem firm_crash {s : DS} (h : s.Ok) (keep : List Int) (fp : Int) (i : Nat) : (s.B i).take (s.F i) <+: (crashS s keep fp).B i := by
  show _ <+: crashB s keep (crashAt s keep fp) i
  have hf := h.firm i
  have ht : (s.B i).take (s.F i) = ((s.B i).take (s.F i + keptN s keep i)).take (s.F i) := by rw [List.take_take, Nat.min_eq_left (by omega)]
  have hx : ∀ (l : List Int) (k : Nat), 8 * s.F i ≤ k → (flipL l k).take (s.F i) = l.take (s.F i) := fun l k hk => by
    apply List.ext_getElem?
    intro j
    unfold flipL
    rw [List.getElem?_take, List.getElem?_take, List.getElem?_modify]
    split
    · have e : ¬ k / 8 = j := by omega
      simp [e]
    · rfl
  unfold crashB
  simp only
  split
  · rw [ht]; exact List.take_prefix _ _
  · split
    · rw [ht, ← hx _ _ (Nat.le_add_right _ _)]; exact List.take_prefix _ _
    · rw [ht]; exact List.take_prefix _ _
/-- A crash that inverts nothing. -/
theorem plain_crash (s : DS) (keep : List Int) (i : Nat) : (crashS s keep (-1)).B i = (s.B i).take (s.F i + keptN s keep i) := by
  show crashB s keep (crashAt s keep (-1)) i = _
  have e : crashAt s keep (-1) = none := by unfold crashAt; rw [if_neg (by omega)]
  rw [e]
  rfl
theorem crash_len {s : DS} (h : s.Ok) (keep : List Int) (fp : Int) (i : Nat) : ((crashS s keep fp).B i).length ≤ (s.B i).length := by
  show (crashB s keep (crashAt s keep fp) i).length ≤ _
  rw [crashB_length s keep _ i h]
  have := keptN_le s keep i
  have := h.firm i
  omega
theorem arm_firm (room : Nat) (B : Nat → List Int) {n : Int} (h : 0 ≤ n) : armS (firmP room B (-1)) n = firmP room B n := by
  unfold armS
  rw [if_neg (by simp [firmP])]
  unfold firmP
  simp only [DS.mk.injEq, true_and]
  omega
end Jour
end Go.Proofs.YtfkgpecglcjpkaaGreat
