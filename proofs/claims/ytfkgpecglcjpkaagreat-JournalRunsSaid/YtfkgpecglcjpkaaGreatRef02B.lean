/- Walks through the reference of package wire: byte slices, written and read. Conditions: none. -/
import Derived.Test.YtfkgpecglcjpkaaGreatRef02
import Derived.Test.YtfkgpecglcjpkaaGreatJourP
import Derived.Test.YtfkgpecglcjpkaaGreatLists
import Derived.Test.YtfkgpecglcjpkaaGreatSame
set_option linter.unusedVariables false
set_option linter.unusedSimpArgs false
set_option linter.unusedSectionVars false
open Go.RowKit
namespace Go.Proofs.YtfkgpecglcjpkaaGreat
open L
namespace R02
open Wire Jour R01
theorem rdF_drop {bs : List Int} (p : Nat) : ∀ (f k acc : Nat), rdF bs p f k acc = ((rdF (bs.drop p) 0 f k acc).1, p + (rdF (bs.drop p) 0 f k acc).2.1, (rdF (bs.drop p) 0 f k acc).2.2)
  | 0, k, acc => by simp [rdF]
  | f + 1, k, acc => by
    unfold rdF
    rw [List.getElem?_drop, Nat.zero_add]
    cases bs[p + k]? with
    | none => simp
    | some c =>
      simp only
      split
      · simp
      · split
        · simp only [Prod.mk.injEq, and_true, true_and]; omega
        · exact rdF_drop p f (k + 1) _
theorem rdU_drop {bs : List Int} (p : Nat) (e : Int) : rdU bs p e = ((rdU (bs.drop p) 0 e).1, p + (rdU (bs.drop p) 0 e).2.1, (rdU (bs.drop p) 0 e).2.2) := by
  unfold rdU
  split
  · exact rdF_drop p _ _ _
  · simp
theorem rdR_drop {bs : List Int} {p : Nat} {e : Int} (hp : p ≤ bs.length) : rdR bs p e = ((rdR (bs.drop p) 0 e).1, p + (rdR (bs.drop p) 0 e).2.1, (rdR (bs.drop p) 0 e).2.2) := by
  have hle := rdU_le (bs := bs.drop p) (p := 0) (e := e) (Nat.zero_le _)
  unfold rdR
  rw [rdU_drop p e]
  simp only
  generalize rdU (bs.drop p) 0 e = r at *
  rw [List.length_drop] at hle ⊢
  by_cases h1 : r.2.2 ≠ 0
  · rw [if_pos h1, if_pos h1]
  · rw [if_neg h1, if_neg h1]
    by_cases h2 : bs.length - (p + r.2.1) < r.1
    · rw [if_pos h2, if_pos (by omega)]
    · rw [if_neg h2, if_neg (by omega), List.drop_drop]
      simp only [Prod.mk.injEq, and_true, true_and]
      omega
section
variable {w w' : World} {q : Nat} {T : List Nat} {rest : List Int} {e : Int}
set_option maxRecDepth 100000 in
set_option maxHeartbeats 2000000 in
theorem Raw_calls {v : Value} {xs : List Int} (hs : SL w 1 v xs.length (byts xs)) (hx : xs.length ≤ 17592186044416) : Calls Tryz.prog 54 #[v] w (BytT (rb xs) w) := by
  obtain ⟨a, cap, rfl, q1, r1, _⟩ := SL.form hs
  have hxi : (xs.length : Int) ≤ 17592186044416 := by omega
  have HU := Lib.hid (Uint_calls (w := w) xs.length (by omega))
  have hul := ub_length xs.length
  have HS := Lib.hid hs
  clear hs
  have hl1 : (ub xs.length).length + xs.length = (rb xs).length := by unfold rb; rw [List.length_append]
  have HE := Lib.hid (show rb xs = ub xs.length ++ xs from rfl)
  generalize ub xs.length = u at *
  go_enter Tryz.func54, Tryz.ntmps54
  go_wp2_with fail
  refine HU.out.mono ?_
  rintro e w1 ⟨a1, c1, rfl, o1⟩
  have HO := Lib.hid (And.intro o1 (HS.out.upd o1.u (by simp)))
  clear o1
  go_wp2_with (refine wpList_appS rfl _ _ _ rfl 5 1 1 _ Tryz.underlying39 infoByte rfl (by decide) (.slice a1 u.length c1) u.length (byts u) rfl HO.out.1.row (.slice a xs.length cap) xs.length (byts xs) rfl HO.out.2 (byts_one _) (by unfold maxLen; omega) (by omega) ?_; intro a6 cap6 w6 o6 u6 k6)
  have H6 := HO.out.1.app o6 u6 k6
  go_ret
  rw [HE.out]
  exact ⟨a6, cap6, by rw [List.length_append]; rfl, by rw [List.length_append]; exact H6⟩
/-- A reader of the reference at block q: the bytes that are left, which lie in the blocks T, and its error. -/
structure RR (w : World) (q : Nat) (T : List Nat) (rest : List Int) (e : Int) : Prop where
  u8 : ∀ x ∈ rest, IsU8 x
  len : rest.length ≤ 1000000000
  ex : ∃ sv, Blk w q [sv, .int .i64 e] 100 ∧ SL w 1 sv rest.length (byts rest) ∧ ∀ b, sv.ownBlock = some b → b ∈ T
  q : q ∉ T
theorem RR.upd {S : List Nat} (h : RR w q T rest e) (hu : Upd S w w') (hq : q ∉ S) (hT : ∀ b ∈ S, b ∉ T) : RR w' q T rest e := by
  obtain ⟨sv, h1, h2, h3⟩ := h.ex
  exact ⟨h.u8, h.len, ⟨sv, h1.upd hu hq, h2.upd hu (fun b hb hv => hT b hb (h3 b hv)), h3⟩, h.q⟩
def RRT (q : Nat) (T : List Nat) (w : World) (rest : List Int) (e : Int) (v : Value) (ed : Ending) (w' : World) : Prop :=
  ed = .returned v ∧ RR w' q T rest e ∧ Upd [q] w w'
theorem u8_drop {l : List Int} (h : ∀ x ∈ l, IsU8 x) (n : Nat) : ∀ x ∈ l.drop n, IsU8 x := fun x hx => h x (List.mem_of_mem_drop hx)
theorem byts_drop (l : List Int) (n : Nat) : (byts l).drop n = byts (l.drop n) := by simp [byts, List.map_drop]
theorem byts_take (l : List Int) (n : Nat) : (byts l).take n = byts (l.take n) := by simp [byts, List.map_take]
theorem unit_lt {k : Nat} (h : k ≤ 9) : 128 ^ k < 18446744073709551616 := by
  have : 128 ^ k ≤ 128 ^ 9 := Nat.pow_le_pow_right (by omega) h
  omega
theorem acc_add {acc k U : Nat} {c : Int} (hc : IsU8 c) (hk : k ≤ 9) (hU : 128 ^ k = U) (ha : acc < U) (h9 : k = 9 → c ≤ 1) :
    IntKind.u64.wrap ((acc : Int) + IntKind.u64.wrap (c % 128 * (U : Int))) = ((acc + c.toNat % 128 * U : Nat) : Int) := by
  obtain ⟨h0, h1⟩ := hc
  obtain ⟨n, rfl⟩ := Int.eq_ofNat_of_zero_le h0
  have hd := digit_lt (d := n % 128) hk (by omega) (fun h => by have := h9 h; omega)
  rw [hU] at hd
  have e2 : (n : Int) % 128 * (U : Int) = ((n % 128 * U : Nat) : Int) := by rw [Int.natCast_mul]; rfl
  rw [e2, Int.toNat_natCast, IntKind.wrap_u64, IntKind.wrap_u64]
  omega
theorem RR.set {e' : Int} {sv : Value} (h : RR w q T rest e) (hB : Blk w' q [sv, .int .i64 e'] 100) (hs : SL w' 1 sv rest.length (byts rest)) (hT : ∀ b, sv.ownBlock = some b → b ∈ T) : RR w' q T rest e' := ⟨h.u8, h.len, ⟨sv, hB, hs, hT⟩, h.q⟩
theorem RR.set' {e' : Int} {sv : Value} (h : RR w q T rest e) (n : Nat) (hB : Blk w' q [sv, .int .i64 e'] 100) (hs : SL w' 1 sv (rest.length - n) ((byts rest).drop n)) (hT : ∀ b, sv.ownBlock = some b → b ∈ T) : RR w' q T (rest.drop n) e' :=
  ⟨u8_drop h.u8 n, by rw [List.length_drop]; have := h.len; omega, ⟨sv, hB, by rw [List.length_drop, ← byts_drop]; exact hs, hT⟩, h.q⟩
attribute [-go_sem] sliced
theorem SL.uptoV {w : World} {a : Option Addr} {n m cap : Nat} {cs : List Value} (h : SL w 1 (.slice a n cap) n cs) (hm : m ≤ n) : SL w 1 (sliced a 0 m cap 1) m (cs.take m) := by
  unfold sliced
  obtain ⟨h1, a', cap', he, h2, h3, h5, h4⟩ := h
  cases he
  refine ⟨by rw [List.length_take]; omega, _, _, rfl, by omega, by omega, ?_, ?_⟩
  · intro hn
    split at hn
    · omega
    · cases a with
      | none => have := h5 rfl; omega
      | some x => cases hn
  · rcases h4 with h4 | ⟨b, off, rfl, h4⟩
    · left; omega
    · by_cases hc : cap = 0
      · left; omega
      · right
        rw [if_neg hc]
        refine ⟨b, off, by simp [addr_add], fun j u hj => h4 j u ?_⟩
        rw [List.getElem?_take] at hj
        split at hj
        · exact hj
        · cases hj
theorem sliced_own (a : Option Addr) (i n cap k m : Nat) : ∀ b, (sliced a i n cap k).ownBlock = some b → (Value.slice a m cap).ownBlock = some b := by
  intro b hb
  unfold sliced at hb
  cases a with
  | none => simp [Value.ownBlock] at hb
  | some x =>
    split at hb
    · simpa [Value.ownBlock] using hb
    · simp only [Option.map_some] at hb
      obtain ⟨xb, xo, xs⟩ := x
      simp only [Addr.add] at hb
      split at hb <;> simpa [Value.ownBlock] using hb
set_option maxRecDepth 100000 in
set_option maxHeartbeats 2000000 in
theorem Uint_r_calls (h : RR w q T rest e) : Calls Tryz.prog 80 #[.pointer (some ⟨q, 0, none⟩)] w (RRT q T w (rest.drop (rdU rest 0 e).2.1) (rdU rest 0 e).2.2 (.int .u64 (rdU rest 0 e).1)) := by
  obtain ⟨sv, hB, hO, hT⟩ := h.ex
  obtain ⟨a, cap, rfl, q1, r1, hc⟩ := SL.form hO
  have c0 := hB.cell (i := 0) rfl
  have c1 := hB.cell (i := 1) rfl
  have f0 := hB.free 0
  have f1 := hB.free 1
  have hql := hB.lt
  have hbl := h.len
  have HH := Lib.hid (And.intro h (And.intro hB (And.intro hO hT)))
  have HC := Lib.hid hc
  clear h hB hO hc hT
  by_cases he : e = 0
  · subst he
    have HE := Lib.hid (show rdU rest 0 0 = rdF rest 0 10 0 0 by simp [rdU])
    go_enter Tryz.func80, Tryz.ntmps80
    go_wp2_with fail
    go_loopw [3, 4, 5] (fun n u i wr => ∃ k acc : Nat, k ≤ 9 ∧ i = .int .i64 k ∧ n = .int .u64 acc ∧ u = .int .u64 ((128 ^ k : Nat) : Int) ∧ acc < 128 ^ k ∧ rdU rest 0 0 = rdF rest 0 (10 - k) k acc ∧ wr = w) (fun _ _ i _ => 10 - (intOf i).toNat)
    case atStart => exact ⟨0, 0, by omega, rfl, rfl, rfl, by omega, HE.out, rfl⟩
    case round =>
      obtain ⟨k, acc, hk, rfl, rfl, rfl, hacc, hrd, hw⟩ := hrel
      obtain rfl : w = wr := hw.symm
      have HA := Lib.hid (And.intro hacc hrd)
      clear hacc hrd
      by_cases hlt : k < rest.length
      · obtain ⟨g, off, rfl, hcc⟩ := HC.out (by omega)
        have d3 := hcc k _ (byts_get (List.getElem?_eq_getElem hlt))
        have hcu := HH.out.1.u8 _ (List.getElem_mem hlt)
        have hcg : rest[0 + k]? = some rest[k] := by rw [Nat.zero_add]; exact List.getElem?_eq_getElem hlt
        have HG := Lib.hid hcg
        generalize rest[k] = c at *
        clear hcc hcg
        obtain ⟨hc0, hc1⟩ := hcu
        have hlt2 : (k : Int) < rest.length := by omega
        have hul := unit_lt hk
        have HUL := Lib.hid (show 128 ^ k = 128 ^ k from rfl)
        generalize hU : 128 ^ k = U at *
        have HU := Lib.hid hU
        clear hU HUL
        go_upto_region 9 with fail
        go_cut [44] (fun t w3 => w3 = w ∧ t = .bool (decide ((k = 9 ∧ 1 < c) ∨ (0 < k ∧ c = 0))))
        case first =>
          rcases (by omega : (k = 9 ∧ 1 < c) ∨ (k = 9 ∧ c = 0) ∨ (k = 9 ∧ c = 1) ∨ (k < 9 ∧ 0 < k ∧ c = 0) ∨ (k < 9 ∧ 0 < k ∧ 0 < c) ∨ k = 0) with ⟨h1, h2⟩ | ⟨h1, h2⟩ | ⟨h1, h2⟩ | ⟨h1, h2, h3⟩ | ⟨h1, h2, h3⟩ | h1
          · subst h1
            go_wp2_with fail
            go_meet
            case rel => exact ⟨rfl, by simp [h2]⟩
          · subst h1; subst h2
            go_wp2_with fail
            go_meet
            case rel => exact ⟨rfl, by simp⟩
          · subst h1; subst h2
            go_wp2_with fail
            go_meet
            case rel => exact ⟨rfl, by simp⟩
          · subst h3
            have b9 : ((k : Int) == 9) = false := by simp; omega
            go_wp2_with fail
            go_meet
            case rel => exact ⟨rfl, by simp [h2]⟩
          · have b9 : ((k : Int) == 9) = false := by simp; omega
            have b0 : (c == 0) = false := by simp; omega
            go_wp2_with fail
            go_meet
            case rel => exact ⟨rfl, by rw [decide_eq_false (by omega)]⟩
          · subst h1
            go_wp2_with fail
            go_meet
            case rel => exact ⟨rfl, by rw [decide_eq_false (by omega)]⟩
        case rest =>
        obtain ⟨rfl, rfl⟩ := hcut
        by_cases hbad : (k = 9 ∧ 1 < c) ∨ (0 < k ∧ c = 0)
        · rw [decide_eq_true hbad]
          have er : rdU rest 0 0 = (0, 0, 2) := by
            rw [HA.out.2, show 10 - k = (9 - k) + 1 by omega, rdF, HG.out]
            simp only [if_pos hbad]
          clear hbad
          go_wp2_with fail
          go_ret
          have us := (Upd.refl [q] wc).set (p := ⟨q, 1, none⟩) (by simp) (.int .i64 2)
          exact ⟨rfl, RR.set HH.out.1 (HH.out.2.1.set 1 _) (HH.out.2.2.1.upd us (by simpa using fun h => HH.out.1.q (HH.out.2.2.2 _ h))) HH.out.2.2.2, us⟩
        · rw [decide_eq_false hbad]
          have HB := Lib.hid hbad
          clear hbad
          have hadd := acc_add (acc := acc) (k := k) (c := c) ⟨hc0, hc1⟩ hk HU.out HA.out.1 (fun h => by have := HB.out; omega)
          have HAD := Lib.hid hadd
          clear hadd
          by_cases hc128 : c < 128
          · obtain ⟨a', c', hslc, _⟩ := (SL.from_ HH.out.2.2.1 (i := k + 1) (by omega)).val
            have er : rdU rest 0 0 = (acc + c.toNat % 128 * U, k + 1, 0) := by
              rw [HA.out.2, show 10 - k = (9 - k) + 1 by omega, rdF, HG.out, ← HU.out]
              simp only [if_neg HB.out, if_pos hc128, Nat.zero_add]
            have ER := Lib.hid er
            clear er
            go_wp2_with fail
            go_ret
            rw [ER.out, HAD.out]
            simp only
            have us := (Upd.refl [q] wc).set (p := ⟨q, 0, none⟩) (by simp) (.slice a' (rest.length - (k + 1)) c')
            have hs2 := (SL.from_ HH.out.2.2.1 (i := k + 1) (by omega)).upd us (fun b hb hv => by simp at hb; subst hb; exact HH.out.1.q (HH.out.2.2.2 _ (sliced_own _ _ _ _ _ _ _ hv)))
            rw [hslc] at hs2
            refine ⟨rfl, RR.set' HH.out.1 (k + 1) (HH.out.2.1.set 0 _) hs2 (fun b hb => HH.out.2.2.2 _ (sliced_own (some ⟨g, off, none⟩) (k + 1) rest.length cap 1 _ _ (by rw [hslc]; exact hb))), us⟩
          · go_wp2_with fail
            have hk9 : k < 9 := by have := HB.out; omega
            refine ⟨⟨k + 1, acc + c.toNat % 128 * U, by omega, by go_num, by rw [HAD.out], ?_, ?_, ?_, trivial⟩, by simp [intOf]; omega⟩
            · rw [Nat.pow_succ, HU.out]
              congr 1
              rw [IntKind.wrap_u64]
              have := unit_lt (k := k + 1) (by omega)
              rw [Nat.pow_succ, HU.out] at this
              omega
            · rw [← HU.out]; exact acc_lt (by rw [HU.out]; exact HA.out.1) (by omega)
            · rw [HA.out.2, show 10 - k = (9 - k) + 1 by omega, rdF, HG.out, ← HU.out]
              simp only [if_neg HB.out, if_neg hc128]
              congr 1
              omega
      · have hge : ¬ (k : Int) < rest.length := by omega
        have er : rdU rest 0 0 = (0, 0, 3) := by
          rw [HA.out.2, show 10 - k = (9 - k) + 1 by omega, rdF, List.getElem?_eq_none (by omega)]
        go_wp2_with fail
        go_ret
        have us := (Upd.refl [q] w).set (p := ⟨q, 1, none⟩) (by simp) (.int .i64 3)
        exact ⟨rfl, RR.set HH.out.1 (HH.out.2.1.set 1 _) (HH.out.2.2.1.upd us (by simpa using fun h => HH.out.1.q (HH.out.2.2.2 _ h))) HH.out.2.2.2, us⟩
  · have HE := Lib.hid (show rdU rest 0 e = (0, 0, e) by simp [rdU, he])
    have hbe : (e == 0) = false := by simpa using he
    go_enter Tryz.func80, Tryz.ntmps80
    go_wp2_with fail
    go_loopw [5] (fun i wr => i = .int .i64 0 ∧ wr = w) (fun _ _ => 0)
    case atStart => exact ⟨rfl, rfl⟩
    case round =>
      obtain ⟨rfl, hw⟩ := hrel
      obtain rfl : w = wr := hw.symm
      go_wp2_with fail
      go_ret
      rw [HE.out]
      exact ⟨rfl, HH.out.1, Upd.refl _ _⟩
theorem Back_calls (u : Nat) (hu : u < 18446744073709551616) : Calls Tryz.prog 79 #[.int .u64 u] w fun e w' => e = .returned (.int .i64 (uzz u)) ∧ w = w' := by
  by_cases h : u % 2 = 0
  · have HZ := Lib.hid (show uzz u = ((u / 2 : Nat) : Int) by unfold uzz; rw [if_pos h])
    have hb : ((u : Int) % 2 == 1) = false := by simp; omega
    have h2 : (u : Int) % 2 = 0 := by omega
    go_enter Tryz.func79, Tryz.ntmps79
    go_wp2_with fail
    go_ret
    exact ⟨ret_int (by rw [HZ.out]; try omega), rfl⟩
  · have HZ := Lib.hid (show uzz u = -((u / 2 : Nat) : Int) - 1 by unfold uzz; rw [if_neg h])
    have h2 : (u : Int) % 2 = 1 := by omega
    go_enter Tryz.func79, Tryz.ntmps79
    go_wp2_with fail
    go_ret
    exact ⟨ret_int (by rw [HZ.out]; try omega), rfl⟩
theorem Int_r_calls (h : RR w q T rest e) : Calls Tryz.prog 62 #[.pointer (some ⟨q, 0, none⟩)] w (RRT q T w (rest.drop (rdU rest 0 e).2.1) (rdU rest 0 e).2.2 (.int .i64 (uzz (rdU rest 0 e).1))) := by
  have hlt := rdU_lt (p := 0) (e := e) h.u8
  have HU := Lib.hid (Uint_r_calls h)
  clear h
  generalize rdU rest 0 e = r at *
  obtain ⟨u, p1, e1⟩ := r
  simp only at *
  have hlti : (u : Int) < 18446744073709551616 := by omega
  go_enter Tryz.func62, Tryz.ntmps62
  go_wp2_with (first | (go_at_call 80; refine HU.out.mono ?_; rintro ed w1 ⟨rfl, r1, u1⟩) | (go_at_call 79; refine (Back_calls u hlt).mono ?_; rintro ed _ ⟨rfl, rfl⟩))
  go_ret
  exact ⟨rfl, r1, u1⟩
/-- What the length of a list is read as: the number, the place behind it, the error. -/
def rdL (rest : List Int) (e : Int) : Nat × Nat × Int :=
  if (rdU rest 0 e).2.2 ≠ 0 then (0, (rdU rest 0 e).2) else if rest.length - (rdU rest 0 e).2.1 < (rdU rest 0 e).1 then (0, (rdU rest 0 e).2.1, 3) else rdU rest 0 e
set_option maxRecDepth 100000 in
set_option maxHeartbeats 2000000 in
theorem Length_calls (h : RR w q T rest e) : Calls Tryz.prog 78 #[.pointer (some ⟨q, 0, none⟩)] w (RRT q T w (rest.drop (rdL rest e).2.1) (rdL rest e).2.2 (.int .i64 ((rdL rest e).1 : Nat))) := by
  have hlt := rdU_lt (p := 0) (e := e) h.u8
  have hle := rdU_le (p := 0) (e := e) (Nat.zero_le rest.length)
  have hlen := h.len
  have HU := Lib.hid (Uint_r_calls h)
  have HL := Lib.hid (show rdL rest e = if (rdU rest 0 e).2.2 ≠ 0 then (0, (rdU rest 0 e).2) else if rest.length - (rdU rest 0 e).2.1 < (rdU rest 0 e).1 then (0, (rdU rest 0 e).2.1, 3) else rdU rest 0 e from rfl)
  clear h
  generalize rdL rest e = res at *
  generalize rdU rest 0 e = r at *
  obtain ⟨n, p1, e1⟩ := r
  simp only at hlt hle HU HL
  have hlti : (n : Int) < 18446744073709551616 := by omega
  go_enter Tryz.func78, Tryz.ntmps78
  go_wp2_with fail
  refine HU.out.mono ?_
  rintro ed w1 ⟨rfl, r1, u1⟩
  obtain ⟨sv, hB, hO, hT⟩ := r1.ex
  obtain ⟨a, cap, rfl, q1, r1', _⟩ := SL.form hO
  have c0 := hB.cell (i := 0) rfl
  have c1 := hB.cell (i := 1) rfl
  have f1 := hB.free 1
  have hql := hB.lt
  have H1 := Lib.hid (And.intro r1 (And.intro u1 (And.intro hB (And.intro hO hT))))
  have hdl : (rest.drop p1).length = rest.length - p1 := List.length_drop
  rw [hdl] at c0
  clear r1 u1 hB hO hT HU hdl
  by_cases he : e1 = 0
  · subst he
    have HR1 := Lib.hid (show res = if rest.length - p1 < n then (0, p1, 3) else (n, p1, 0) by rw [HL.out, if_neg (by simp)])
    clear HL
    obtain ⟨m, hm⟩ : ∃ m, m = rest.length - p1 := ⟨_, rfl⟩
    rw [← hm] at c0 HR1
    have hm2 : m ≤ 1000000000 := by omega
    have HM := Lib.hid hm
    clear hm
    by_cases hn : m < n
    · have hn2 : (m : Int) < n := by omega
      have HR2 := Lib.hid (show res = (0, p1, 3) by rw [HR1.out, if_pos hn])
      clear HR1
      go_wp2_with fail
      go_ret
      rw [HR2.out]
      have us := (Upd.refl [q] w1).set (p := ⟨q, 1, none⟩) (by simp) (.int .i64 3)
      simp only
      refine ⟨?_, ?_, ?_⟩
      · rfl
      · exact RR.set H1.out.1 (H1.out.2.2.1.set 1 _) (H1.out.2.2.2.1.upd us (by simpa using fun h => H1.out.1.q (H1.out.2.2.2.2 _ h))) H1.out.2.2.2.2
      · exact H1.out.2.1.trans us
    · have hn2 : ¬ (m : Int) < n := by omega
      have hn3 : (n : Int) ≤ 1000000000 := by omega
      have HR2 := Lib.hid (show res = (n, p1, 0) by rw [HR1.out, if_neg hn])
      clear HR1
      go_wp2_with fail
      go_ret
      rw [HR2.out]
      simp only
      refine ⟨?_, H1.out.1, H1.out.2.1⟩
      rfl
  · have HR1 := Lib.hid (show res = (0, p1, e1) by rw [HL.out, if_pos he])
    have hbe : (e1 != 0) = true := by simpa using he
    have hbe2 : (e1 == 0) = false := by simpa using he
    go_wp2_with fail
    go_ret
    rw [HR1.out]
    exact ⟨rfl, H1.out.1, H1.out.2.1⟩
theorem rdR_L (rest : List Int) (e : Int) : rdR rest 0 e = if (rdL rest e).2.2 ≠ 0 then ([], (rdL rest e).2) else ((rest.drop (rdL rest e).2.1).take (rdL rest e).1, (rdL rest e).2.1 + (rdL rest e).1, 0) := by
  unfold rdR rdL
  by_cases h1 : (rdU rest 0 e).2.2 ≠ 0
  · rw [if_pos h1, if_pos h1, if_pos h1]
  · rw [if_neg h1, if_neg h1]
    by_cases h2 : rest.length - (rdU rest 0 e).2.1 < (rdU rest 0 e).1
    · rw [if_pos h2, if_pos h2, if_pos (by simp)]
    · rw [if_neg h2, if_neg h2, if_neg h1]
theorem rdL_le {rest : List Int} {e : Int} (h : (rdL rest e).2.2 = 0) : (rdL rest e).2.1 + (rdL rest e).1 ≤ rest.length := by
  have hle := rdU_le (p := 0) (e := e) (Nat.zero_le rest.length)
  unfold rdL at h ⊢
  by_cases h1 : (rdU rest 0 e).2.2 ≠ 0
  · rw [if_pos h1] at h; exact absurd h h1
  · rw [if_neg h1] at h ⊢
    by_cases h2 : rest.length - (rdU rest 0 e).2.1 < (rdU rest 0 e).1
    · rw [if_pos h2] at h; simp at h
    · rw [if_neg h2] at h ⊢; omega
set_option maxRecDepth 100000 in
set_option maxHeartbeats 2000000 in
theorem RRaw_calls (h : RR w q T rest e) : Calls Tryz.prog 61 #[.pointer (some ⟨q, 0, none⟩)] w fun ed w' =>
    ∃ v, ed = .returned v ∧ SL w' 1 v (rdR rest 0 e).1.length (byts (rdR rest 0 e).1) ∧ (∀ b, v.ownBlock = some b → b ∈ T) ∧ RR w' q T (rest.drop (rdR rest 0 e).2.1) (rdR rest 0 e).2.2 ∧ Upd [q] w w' := by
  have HL := Lib.hid (Length_calls h)
  have HR := Lib.hid (rdR_L rest e)
  have hle := rdL_le (rest := rest) (e := e)
  have hlen := h.len
  clear h
  generalize rdR rest 0 e = res at *
  generalize rdL rest e = r at *
  obtain ⟨n, p1, e1⟩ := r
  simp only at HL HR hle
  go_enter Tryz.func61, Tryz.ntmps61
  go_wp2_with fail
  refine HL.out.mono ?_
  rintro ed w1 ⟨rfl, r1, u1⟩
  obtain ⟨sv, hB, hO, hT⟩ := r1.ex
  obtain ⟨a, cap, rfl, q1, r1', _⟩ := SL.form hO
  have c0 := hB.cell (i := 0) rfl
  have c1 := hB.cell (i := 1) rfl
  have f0 := hB.free 0
  have hql := hB.lt
  have H1 := Lib.hid (And.intro r1 (And.intro u1 (And.intro hB (And.intro hO hT))))
  clear r1 u1 hB hO hT HL
  by_cases he : e1 = 0
  · subst he
    have hle := hle rfl
    have HR1 := Lib.hid (show res = ((rest.drop p1).take n, p1 + n, 0) by rw [HR.out, if_neg (by simp)])
    clear HR
    have hdl : (rest.drop p1).length = rest.length - p1 := List.length_drop
    have HDL := Lib.hid hdl
    have hnd : n ≤ (rest.drop p1).length := by omega
    have hni : (n : Int) ≤ ((rest.drop p1).length : Nat) := by omega
    have hncap : (n : Int) ≤ cap := by omega
    obtain ⟨a1, k1, hs1, _⟩ := (SL.uptoV H1.out.2.2.2.1 hnd).val
    obtain ⟨a2, k2, hs2, _⟩ := (SL.from_ H1.out.2.2.2.1 hnd).val
    clear hdl
    have HDD := Lib.hid (show (rest.drop p1).drop n = rest.drop (p1 + n) from List.drop_drop)
    generalize rest.drop p1 = rs at *
    go_wp2_with fail
    go_ret
    rw [HR1.out]
    simp only
    have us := (Upd.refl [q] w1).set (p := ⟨q, 0, none⟩) (by simp) (.slice a2 (rs.length - n) k2)
    have hsep : ∀ b ∈ [q], ∀ v : Value, (∀ c, v.ownBlock = some c → c ∈ T) → v.ownBlock ≠ some b := fun b hb v hv h => by simp at hb; subst hb; exact H1.out.1.q (hv _ h)
    have ht1 : ∀ b, (Value.slice a1 n k1).ownBlock = some b → b ∈ T := fun b hb => H1.out.2.2.2.2 _ (sliced_own a 0 n cap 1 rs.length _ (by rw [hs1]; exact hb))
    have ht2 : ∀ b, (Value.slice a2 (rs.length - n) k2).ownBlock = some b → b ∈ T := fun b hb => H1.out.2.2.2.2 _ (sliced_own a n rs.length cap 1 rs.length _ (by rw [hs2]; exact hb))
    have u1 := (SL.uptoV H1.out.2.2.2.1 hnd).upd us (fun b hb => by rw [hs1]; exact hsep b hb _ ht1)
    have u2 := (SL.from_ H1.out.2.2.2.1 hnd).upd us (fun b hb => by rw [hs2]; exact hsep b hb _ ht2)
    rw [hs1] at u1
    rw [hs2] at u2
    rw [byts_take] at u1
    have hl1 : (rs.take n).length = n := by rw [List.length_take]; omega
    refine ⟨_, rfl, by rw [hl1]; exact u1, ht1, ?_, H1.out.2.1.trans us⟩
    rw [← HDD.out]
    exact RR.set' H1.out.1 n (H1.out.2.2.1.set 0 _) u2 ht2
  · have HR1 := Lib.hid (show res = ([], p1, e1) by rw [HR.out, if_pos he])
    have hbe : (e1 != 0) = true := by simpa using he
    go_wp2_with fail
    go_ret
    rw [HR1.out]
    exact ⟨_, rfl, (OwnV.nil w w1 5 1).sl, by simp [Value.ownBlock], H1.out.1, H1.out.2.1⟩
end
end R02
end Go.Proofs.YtfkgpecglcjpkaaGreat
