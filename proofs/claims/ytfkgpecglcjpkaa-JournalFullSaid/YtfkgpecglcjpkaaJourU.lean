/- The law JournalFull: its walk. Conditions: none. -/
import Derived.Test.YtfkgpecglcjpkaaJourS
set_option linter.unusedVariables false
set_option linter.unusedSimpArgs false
set_option linter.unusedSectionVars false
open Go.RowKit
namespace Go.Proofs.Ytfkgpecglcjpkaa
open L
namespace Jour
open Wire Hash R01 R02 Disk
attribute [-go_sem] sliced
/-- An owned row. -/
def PRw (e : TypeId) (k : Nat) (v : Value) (n : Nat) (cs : List Value) : Pr where
  P w S := w.ownsRow 0 e k v n cs ∧ (∀ g, v.ownBlock = some g → g ∈ S) ∧ ∀ g ∈ S, g < w.heap.size
  upd h hu hT := ⟨ownsRow_updL h.1 hu (fun b hb e => hT b hb (h.2.1 b e)), h.2.1, fun g hg => Nat.lt_of_lt_of_le (h.2.2 g hg) hu.size⟩
  lt h := h.2.2
/-- A list of byte slices, its values named. -/
def PBV (v : Value) (l : List (List Int)) (vals : List Value) : Pr where
  P w S := (SL w 1 v l.length vals ∧ ∀ (i : Nat) (c : List Int), l[i]? = some c → ∃ y, vals[i]? = some y ∧ SL w 1 y c.length (byts c) ∧ ∀ g, y.ownBlock = some g → g ∈ S) ∧ (∀ g, v.ownBlock = some g → g ∈ S) ∧ ∀ g ∈ S, g < w.heap.size
  upd h hu hT := by
    obtain ⟨⟨h1, h2⟩, h3, h4⟩ := h
    refine ⟨⟨h1.upd hu (fun b hb e => hT b hb (h3 b e)), fun i c hi => ?_⟩, h3, fun g hg => Nat.lt_of_lt_of_le (h4 g hg) hu.size⟩
    obtain ⟨y, h5, h6, h7⟩ := h2 i c hi
    exact ⟨y, h5, h6.upd hu (fun b hb e => hT b hb (h7 b e)), h7⟩
  lt h := h.2.2
section
variable {w0 w w' : World} {ps : List Pr} {p q : Nat} {v vk : Value} {l m : List (List Int)} {vals kv : List Value}
theorem Sep.listV (h : L.Sep w0 ps w) (hu : Upd [] w w') (hb : BO w v l w') : ∃ vals, L.Sep w0 (PBV v l vals :: ps) w' := by
  obtain ⟨vals, h1, h2⟩ := hb.ex
  refine ⟨vals, ?_⟩
  have mem : ∀ g, w.heap.size ≤ g → g < w'.heap.size → g ∈ (List.range w'.heap.size).filter (fun g => decide (w.heap.size ≤ g)) := fun g h1 h2 => by simp; exact ⟨h2, h1⟩
  refine h.new (S := (List.range w'.heap.size).filter (fun g => decide (w.heap.size ≤ g))) hu ⟨⟨h1.sl, fun i c hi => ?_⟩, fun g hg => mem g (h1.fresh g hg) (h1.lt g hg), fun g hg => by simp at hg; exact hg.1⟩ (fun g hg => by simp at hg; exact hg.2)
  obtain ⟨y, h3, h4⟩ := h2 i c hi
  exact ⟨y, h3, h4.sl, fun g hg => mem g (h4.fresh g hg) (h4.lt g hg)⟩
/-- What m holds is held by l too. -/
def Subl (l : List (List Int)) (vals : List Value) (m : List (List Int)) (kv : List Value) : Prop := ∀ (i : Nat) (c : List Int), m[i]? = some c → ∃ (j : Nat) (y : Value), l[j]? = some c ∧ vals[j]? = some y ∧ kv[i]? = some y
theorem Subl.nil (l : List (List Int)) (vals kv : List Value) : Subl l vals [] kv := fun i c h => by simp at h
theorem Subl.push (h : Subl l vals m kv) (hl : kv.length = m.length) {j : Nat} {c : List Int} {y : Value} (h1 : l[j]? = some c) (h2 : vals[j]? = some y) : Subl l vals (m ++ [c]) (kv ++ [y]) := fun i d hd => by
  rcases list_snoc_get hd with ⟨e1, e2⟩ | ⟨rfl, rfl⟩
  · obtain ⟨j', y', a, b, c⟩ := h i d e2
    exact ⟨j', y', a, b, by rw [List.getElem?_append_left (by omega)]; exact c⟩
  · exact ⟨j, y, h1, h2, by rw [← hl, List.getElem?_append_right (Nat.le_refl _), Nat.sub_self]; rfl⟩
theorem Sep.sub (n k : Nat) (h : L.Sep w0 ps w) (hn : ps[n]? = some (PBV v l vals)) (hk : ps[k]? = some (PRw 23 1 vk m.length kv)) (hs : Subl l vals m kv) : BL w vk m := by
  obtain ⟨S, ⟨⟨_, h2⟩, _⟩, _⟩ := (h.pull n hn).head
  obtain ⟨T, ⟨r, _⟩, _⟩ := (h.pull k hk).head
  refine ⟨kv, SL.of_owns r, fun i c hi => ?_⟩
  obtain ⟨j, y, a, b, d⟩ := hs i c hi
  obtain ⟨y', e1, e2, _⟩ := h2 j c a
  rw [b] at e1
  cases e1
  exact ⟨y, d, e2⟩
theorem Sep.row (n : Nat) (h : L.Sep w0 ps w) {e : TypeId} {k c : Nat} (hn : ps[n]? = some (PRw e k v c vals)) : w.ownsRow 0 e k v c vals := by
  obtain ⟨S, h1, _⟩ := (h.pull n hn).head
  exact h1.1
theorem Sep.push_ {e : TypeId} {k n n' : Nat} {v v' : Value} {cs cs' : List Value} (h : L.Sep w0 (PRw e k v n cs :: ps) w) (o : w'.ownsRow 0 e k v' n' cs') (u : Upd v.ownBlock.toList w w') (kk : v.ownBlock = v'.ownBlock ∨ ∃ g, v'.ownBlock = some g ∧ w.heap.size ≤ g) : L.Sep w0 (PRw e k v' n' cs' :: ps) w' :=
  h.next (S := []) (S' := []) fun S hS _ => ⟨S ++ v'.ownBlock.toList, ⟨o, fun g hg => by simp [hg], fun g hg => by
    rcases List.mem_append.1 hg with hg | hg
    · exact Nat.lt_of_lt_of_le (hS.2.2 g hg) u.size
    · exact (show OwnV ({ w with heap := #[] } : World) e k v' n' cs' w' from ⟨o, fun _ _ => Nat.zero_le _⟩).lt g (by simpa using hg)⟩, u.wide (fun g hg => .inl (hS.2.1 g (by simpa using hg))), fun g hg => by
    rcases List.mem_append.1 hg with hg | hg
    · exact .inl hg
    · have hg : v'.ownBlock = some g := by simpa using hg
      rcases kk with kk | ⟨g', kk, hle⟩
      · exact .inl (hS.2.1 g (by rw [kk]; exact hg))
      · rw [hg] at kk; simp at kk; exact .inr (by omega)⟩
/-- An element of a list of byte slices. -/
theorem Sep.atV (n : Nat) (h : L.Sep w0 ps w) (hn : ps[n]? = some (PBV v l vals)) : ∃ a cap, v = .slice a l.length cap ∧ l.length ≤ cap ∧ cap ≤ 9223372036854775807 ∧ ∀ (k : Nat) (c : List Int), l[k]? = some c → ∃ g off ac cc, a = some ⟨g, off, none⟩ ∧ vals[k]? = some (.slice ac c.length cc) ∧ w.cell? ⟨g, off + k, none⟩ = some (.slice ac c.length cc) ∧ SL w 1 (.slice ac c.length cc) c.length (byts c) ∧ ∀ j, (Value.slice ac c.length cc).ownBlock = some j → j < w.heap.size := by
  obtain ⟨S, ⟨⟨h1, h2⟩, h3, h4⟩, _⟩ := (h.pull n hn).head
  obtain ⟨a, cap, rfl, q, r, hc⟩ := SL.form h1
  refine ⟨a, cap, rfl, q, r, fun k c hk => ?_⟩
  have hkl := (List.getElem?_eq_some_iff.1 hk).1
  obtain ⟨g, off, rfl, hcc⟩ := hc (by omega)
  obtain ⟨y, h5, h6, h7⟩ := h2 k c hk
  obtain ⟨ac, cc, rfl, _⟩ := h6.val
  exact ⟨g, off, ac, cc, rfl, h5, hcc k _ h5, h6, fun j hj => h4 j (h7 j hj)⟩
theorem Sep.cellV (n : Nat) (h : L.Sep w0 ps w) {g off cap k : Nat} {y : Value} {c : List Int} (hn : ps[n]? = some (PBV (.slice (some ⟨g, off, none⟩) l.length cap) l vals)) (hc : l[k]? = some c) (hv : vals[k]? = some y) : w.cell? ⟨g, off + k, none⟩ = some y := by
  obtain ⟨a, cap', he, _, _, hel⟩ := Sep.atV n h hn
  cases he
  obtain ⟨g', off', ac, cc, e, e2, e3, _⟩ := hel k c hc
  cases e
  rw [hv] at e2
  rw [e3, e2]
/-- n zero bytes. -/
def zers (n : Nat) : List Value := rows n fun _ => [.int .u8 0]
theorem zers_eq (n : Nat) : zers n = byts (List.replicate n 0) := by
  unfold zers
  rw [rows_one]
  simp [byts]
theorem make_bytes (n : Nat) (hn : n ≤ 1000000) (w : World) : (Instr.makeSlice 23 (.int .i64 (n : Int)) (.int .i64 (n : Int))).run Try.prog w = .ok (.slice (some ⟨w.heap.size, 0, none⟩) n n) (w.alloc (.cells (zers n).toArray 5)) := by
  obtain ⟨i, hi, hz, hs, hb⟩ := info_of infoByte
  have hb' : (i.bytes : Int) * (n : Int) ≤ 281474976710656 := by rw [hb]; omega
  have hr := run_make (P := Try.prog) w 23 5 i _ Try.underlying23 hi hz .i64 .i64 n n (by omega) (Int.le_refl _) hb' (by omega)
  rw [hr, Int.toNat_natCast, hs]
  have h := made_rows (Value.int IntKind.u8 0).cells n (by decide)
  have e1 : (Value.int IntKind.u8 0).cells.size = 1 := rfl
  rw [e1] at h
  rw [h]
  rfl
theorem LApp_big {p q : Nat} {s : DS} {ls : LS} {n : Nat} (h : L.Sep w0 (PDk p s :: PLg q p ls :: ps) w) (hf : IsI64 ls.file) (hk : ls.n ≤ 1000000000000) (hn : 65536 < n) (hn2 : n ≤ 1000000) :
    Calls Try.prog 32 #[.pointer (some ⟨q, 0, none⟩), .slice (some ⟨w.heap.size, 0, none⟩) n n] (w.alloc (.cells (zers n).toArray 5)) fun e w2 => e = .returned (.int .i64 4) ∧ L.Sep w0 (PDk p s :: PLg q p ls :: ps) w2 := by
  have hl : (List.replicate n (0 : Int)).length = n := List.length_replicate
  have hsl : SL (w.alloc (.cells (zers n).toArray 5)) 1 (.slice (some ⟨w.heap.size, 0, none⟩) n n) (List.replicate n (0 : Int)).length (byts (List.replicate n 0)) := by
    rw [hl, ← zers_eq]
    exact SL.of_blk (pad := []) (e := 5) (by rw [List.append_nil]; exact Blk.new w (zers n) 5) (by rw [zers_eq]; unfold byts; rw [List.length_map, hl, Nat.mul_one]) (Nat.le_refl _) (by unfold maxLen; omega)
  have h := LApp_calls (h.quiet (Upd.alloc (Upd.refl [] w) (.cells (zers n).toArray 5))) hsl (by intro g hg; simp [Value.ownBlock] at hg; simp; omega) hf hk (by intro x hx; rw [List.mem_replicate] at hx; rw [hx.2]; exact ⟨by omega, by omega⟩) (by omega)
  refine h.mono fun e w2 hh => ?_
  rw [japp_limit _ _ (by omega)] at hh
  exact hh
/-- What the loop of JournalFull holds. -/
def FullT (w : World) (p q R : Nat) (X : List (List Int)) (vals : List Value) (a3 : Option Addr) (c3 : Nat) (vk : Value) (m : List (List Int)) (kv : List Value) (W : World) : Prop :=
  L.Sep w [PDk p (firmP R (one 63 (cat 0 m)) (-1)), PLg q p ⟨63, m.length, true⟩, PRw 23 1 vk m.length kv, PBV (.slice a3 X.length c3) X vals] W ∧ Subl X vals m kv ∧ kv.length = m.length ∧ ∀ c ∈ m, c ∈ X
set_option maxRecDepth 100000 in
set_option maxHeartbeats 8000000 in
theorem JournalFull_calls {w : World} {v1 : Value} {room : Int} {l : List Int} (hr : IsI64 room) (h1 : SL w 1 v1 l.length (ints l)) (hi : ∀ x ∈ l, IsI64 x) :
    Calls Try.prog 6 #[.int .i64 room, v1] w fun e w' => e = .returned (.bool true) ∧ Upd [] w w' := by
  obtain ⟨a1, c1, rfl, _⟩ := h1.val
  have HH := Lib.hid (And.intro h1 hi)
  have m0 := around_lo (n := room) (k := 120) (by omega)
  have m1 := around_hi (n := room) (k := 120) (by omega)
  have HA := Lib.hid (Around_calls room 120 w hr (by omega) (by omega))
  clear h1 hi hr
  generalize around room 120 = kz at *
  obtain ⟨R, rfl⟩ := Int.eq_ofNat_of_zero_le m0
  have HF := Lib.hid (fresh_calls (w := w) (room := R) (by omega))
  go_enter Try.func6, Try.ntmps6
  go_upto_region 5 with (first
    | (go_at_call 19; refine HA.out.mono ?_; rintro e _ ⟨rfl, rfl⟩)
    | (go_at_call 29; refine HF.out.mono ?_; rintro e w1 ⟨p, rfl, s1⟩))
  have HO := Lib.hid (Open_calls s1 (f := 63) ⟨by omega, by omega⟩)
  rw [show openS (firmP R (fun _ => []) (-1)) 63 = _ from open_new R 63 (by omega)] at HO
  unfold OpT at HO
  simp only [if_pos] at HO
  clear s1 HF HA
  go_upto_region 8 with (go_at_call 30; refine HO.out.mono ?_; rintro e w2 ⟨q, ax, cx, rfl, s2⟩)
  have HS2 := Lib.hid (s2.pull 2 rfl).drop
  clear s2 HO
  have HR := Lib.hid (Recs_calls (HH.out.1.upd HS2.out.u (by simp)) HH.out.2)
  go_upto_region 9 with (go_at_call 14; refine HR.out.mono ?_; rintro e w3 ⟨X, a3, c3, rfl, h6, hsm, o3, u3⟩)
  obtain ⟨vals, s3⟩ := Sep.listV HS2.out u3 o3
  have s4 := s3.new (p := PRw 23 1 (.slice none 0 0) 0 []) (S := []) (Upd.refl [] w3) ⟨World.ownsRow_nil _ _ _ _, by simp [Value.ownBlock], by simp⟩ (by simp)
  have hT : FullT w p q R X vals a3 c3 (.slice none 0 0) [] [] w3 := ⟨(s4.pull 3 rfl).pull 3 rfl |>.pull 0 rfl, Subl.nil _ _ _, rfl, by simp⟩
  have HT := Lib.hid hT
  have HSM := Lib.hid hsm
  clear s3 s4 o3 u3 HS2 HR hT hsm
  go_upto_block 0 with fail
  go_cut [11] (fun vk w' => ∃ (m : List (List Int)) (kv : List Value) (ak : Option Addr) (ck : Nat), vk = .slice ak m.length ck ∧ m.length ≤ 6 ∧ FullT w p q R X vals a3 c3 vk m kv w')
  case first =>
    go_wp2_with fail
    go_loopw [11, 12] (fun vk i wr => ∃ (k : Nat) (m : List (List Int)) (kv : List Value) (ak : Option Addr) (ck : Nat), vk = .slice ak m.length ck ∧ i = .int .i64 k ∧ k ≤ X.length ∧ m.length ≤ k ∧ FullT w p q R X vals a3 c3 vk m kv wr) (fun _ i _ => X.length - (intOf i).toNat)
    case atStart => exact ⟨0, [], [], none, 0, rfl, rfl, Nat.zero_le _, Nat.zero_le _, HT.out⟩
    case round =>
      obtain ⟨wo, rfl⟩ : ∃ wo : World, wo = wr := ⟨_, rfl⟩
      obtain ⟨k, m, kv, ak, ck, rfl, rfl, hk, hmk, hF⟩ := hrel
      by_cases hlt : k < X.length
      · have hlt' : (k : Int) < X.length := by omega
        obtain ⟨_, _, he, hq1, _, hel⟩ := Sep.atV 3 hF.1 rfl
        cases he
        obtain ⟨g, off, ac, cc, rfl, hv, hd, hsl, hjl⟩ := hel k _ (List.getElem?_eq_getElem hlt)
        have hxm := HSM.out X[k] (List.getElem_mem hlt)
        have HX := Lib.hid (And.intro (List.getElem?_eq_getElem hlt) (And.intro hv (List.getElem_mem hlt)))
        generalize X[k] = x at *
        have hfl := frB_length (m.length : Nat) x
        have HU1 := Lib.hid (Sep.used hF.1)
        rw [one_used R 63 (by omega)] at HU1
        have HFF := Lib.hid hF
        have HV := Lib.hid (And.intro hsl (And.intro hjl hxm.1))
        have hx10 := hxm.2
        clear hel hsl hjl hxm hF hv
        have hct : (cat 0 m).length ≤ 50 * m.length := small_cat (fun c hc => HSM.out c (HFF.out.2.2.2 c hc)) 0
        go_upto_region 14 with (go_at_call 31; refine HU1.out.mono ?_; rintro e w4 ⟨rfl, u4⟩)
        have HFC := Lib.hid (Frame_calls (w := w4) (m.length : Nat) ⟨by omega, by omega⟩ (HV.out.1.upd u4 (by simp)) HV.out.2.2 (by omega) (fun j hj => Nat.lt_of_lt_of_le (HV.out.2.1 j hj) u4.size))
        have d4 := u4.some hd (by simp)
        have HU4 := Lib.hid u4
        have HFR := Lib.hid (show frB (m.length : Nat) x = frB (m.length : Nat) x from rfl)
        clear u4 HU1
        go_upto_region 15 with (go_at_call 12; refine HFC.out.mono ?_; rintro e w5 ⟨a5, c5, rfl, o5⟩)
        have U5 := HU4.out.step o5.u
        have d5 := U5.some hd (by simp)
        have HA := LApp_calls (HFF.out.1.quiet U5) (HV.out.1.upd U5 (by simp)) (fun j hj => Nat.lt_of_lt_of_le (HV.out.2.1 j hj) U5.size) (show IsI64 63 from ⟨by omega, by omega⟩) (by show m.length ≤ _; omega) HV.out.2.2 (by omega)
        have hus := one_used R 63 (by omega) (-1) (cat 0 m)
        clear hd d4 o5 U5 HFC HU4 HFR
        by_cases hroom : R < (cat 0 m).length + (frB (m.length : Nat) x).length
        · rw [show jappS (firmP R (one 63 (cat 0 m)) (-1)) ⟨63, m.length, true⟩ x = _ from japp_full (f := 63) (by omega) (by omega) (by omega)] at HA
          have HA := Lib.hid HA
          have hroom' : (R : Int) < ((cat 0 m).length : Nat) + ((frB (m.length : Nat) x).length : Nat) := by omega
          clear hus hroom
          generalize (frB (m.length : Nat) x).length = fl at *
          go_upto_region 16 with (go_at_call 32; refine HA.out.mono ?_; rintro e w6 ⟨rfl, s6⟩)
          have HU := Lib.hid (Sep.used s6)
          rw [one_used R 63 (by omega)] at HU
          have HS6 := Lib.hid s6
          clear HA s6 d5
          have HLn := Lib.hid (fun (w' : World) (u : Upd [] w6 w') => Len_calls (w := w') 1 (HS6.out.quiet u) rfl)
          have HUp := Lib.hid (fun (w' : World) (u : Upd [] w6 w') => Up_calls (w := w') 1 (HS6.out.quiet u) rfl)
          go_wp2_with (first
            | (go_at_call 31; refine HU.out.mono ?_; rintro e w7 ⟨rfl, u7⟩; have HU7 := Lib.hid u7; clear u7)
            | (go_at_call 33; refine (HLn.out _ HU7.out).mono ?_; rintro e _ ⟨rfl, rfl⟩)
            | (go_at_call 34; refine (HUp.out _ HU7.out).mono ?_; rintro e _ ⟨rfl, rfl⟩))
          go_roundw
          case rel => exact ⟨k + 1, m, kv, ak, ck, rfl, by go_num, by omega, by omega, HS6.out.quiet HU7.out, HFF.out.2⟩
          case measure => simp [intOf]; omega
        · have ecat : cat 0 (m ++ [x]) = cat 0 m ++ frB (m.length : Nat) x := by rw [cat_snoc, Nat.zero_add]
          have elen : (cat 0 (m ++ [x])).length = (cat 0 m).length + (frB (m.length : Nat) x).length := by rw [ecat, List.length_append]
          rw [show jappS (firmP R (one 63 (cat 0 m)) (-1)) ⟨63, m.length, true⟩ x = _ from japp_fits (f := 63) (by omega) (by omega) (by omega), one_app, ← ecat] at HA
          have HA := Lib.hid HA
          have hroom' : ((cat 0 m).length : Nat) + ((frB (m.length : Nat) x).length : Nat) ≤ (R : Int) := by omega
          have HEL := Lib.hid elen
          clear hus hroom ecat elen
          generalize (frB (m.length : Nat) x).length = fl at *
          go_upto_region 16 with (go_at_call 32; refine HA.out.mono ?_; rintro e w6 ⟨rfl, s6⟩)
          have HU := Lib.hid (Sep.used s6)
          rw [one_used R 63 (by omega), HEL.out, Int.natCast_add] at HU
          have HS6 := Lib.hid (show L.Sep w [PDk p (firmP R (one 63 (cat 0 (m ++ [x]))) (-1)), PLg q p ⟨63, m.length + 1, true⟩, PRw 23 1 (.slice ak m.length ck) m.length kv, PBV (.slice (some ⟨g, off, none⟩) X.length c3) X vals] w6 from s6)
          have d6 := Sep.cellV 3 s6 rfl HX.out.1 HX.out.2.1
          clear HA s6 d5
          go_upto_region 21 with (go_at_call 31; refine HU.out.mono ?_; rintro e w7 ⟨rfl, u7⟩)
          have d7 := u7.some d6 (by simp)
          have s7 := HS6.out.quiet u7
          have HS7 := Lib.hid s7
          clear d6 u7 HU s7 HS6
          go_upto_region 22 with (refine wpList_push rfl rfl _ _ _ _ rfl rfl rfl 23 1 24 _ Try.underlying27 infoBytes rfl (by decide) (by decide) (.slice ac x.length cc) [.slice ac x.length cc] rfl rfl rfl (by simp [Value.oneCell']) _ _ _ (Sep.row 2 HS7.out rfl) rfl rfl (by unfold maxLen; omega) (by omega) ?_; intro g8 cap8 w8 o8 u8 k8)
          have s8 := Sep.push_ (HS7.out.pull 2 rfl) o8 u8 (k8.elim (fun h => .inl h) (fun h => .inr ⟨g8, rfl, h⟩))
          have hml : (m ++ [x]).length = m.length + 1 := by simp
          have hF8 : FullT w p q R X vals (some ⟨g, off, none⟩) c3 (.slice (some ⟨g8, 0, none⟩) (m.length + 1) cap8) (m ++ [x]) (kv ++ [.slice ac x.length cc]) w8 := by
            refine ⟨?_, HFF.out.2.1.push HFF.out.2.2.1 HX.out.1 HX.out.2.1, by simp [HFF.out.2.2.1], fun c hc => ?_⟩
            · rw [hml]
              exact (s8.pull 2 rfl).pull 2 rfl
            · rcases List.mem_append.1 hc with hc | hc
              · exact HFF.out.2.2.2 c hc
              · simp at hc; rw [hc]; exact HX.out.2.2
          have HF8 := Lib.hid hF8
          have HML := Lib.hid hml
          have HLn := Lib.hid (Len_calls (w := w8) 1 hF8.1 rfl)
          have HUp := Lib.hid (Up_calls (w := w8) 1 hF8.1 rfl)
          rw [hml] at HLn
          clear s8 hF8 hml o8 u8 k8 HS7 d7
          go_wp2_with (first
            | (go_at_call 33; refine HLn.out.mono ?_; rintro e _ ⟨rfl, rfl⟩)
            | (go_at_call 34; refine HUp.out.mono ?_; rintro e _ ⟨rfl, rfl⟩))
          go_roundw
          case rel => exact ⟨k + 1, m ++ [x], _, _, _, by rw [HML.out], by go_num, by omega, by rw [HML.out]; omega, HF8.out⟩
          case measure => simp [intOf]; omega
      · have hkX : k = X.length := by omega
        have HE := Lib.hid hF
        clear hF
        go_wp2_with fail
        go_meet
        exact ⟨m, kv, ak, ck, rfl, by omega, HE.out⟩
  case rest =>
    obtain ⟨m, kv, ak, ck, rfl, hm6, hF⟩ := hcut
    have hct : (cat 0 m).length ≤ 50 * m.length := small_cat (fun c hc => HSM.out c (hF.2.2.2 c hc)) 0
    have HO := Open_calls hF.1 (f := 63) ⟨by omega, by omega⟩
    rw [show openS (firmP R (one 63 (cat 0 m)) (-1)) 63 = _ from open_one R 63 (by omega) _, scanL_cat (by omega)] at HO
    unfold OpT at HO
    simp only [if_pos] at HO
    have HO := Lib.hid HO
    have HFF := Lib.hid hF.2
    clear hF HT
    go_upto_region 25 with (go_at_call 30; refine HO.out.mono ?_; rintro e w4 ⟨q2, ag, cg, rfl, s4⟩)
    have HO2 := Lib.hid (Open_arg s4 (f := 64) ⟨by omega, by omega⟩ rfl)
    clear s4 HO
    go_upto_region 27 with (first
      | (go_at_call 30; (with_reducible refine (Open_nil 0).mono ?_); rintro e _ ⟨rfl, rfl⟩)
      | (go_at_call 30; refine HO2.out.mono ?_; rintro e w5 ⟨rfl, s5⟩))
    have hg := Sep.bl 2 s5 rfl
    have hk := Sep.sub 5 4 s5 rfl rfl HFF.out.1
    have HS := Lib.hid (SameL_calls hg hk)
    have HS5 := Lib.hid s5
    rw [decide_eq_true rfl] at HS
    clear hg hk s5 HO2
    obtain ⟨n, hn⟩ : ∃ n : Nat, n = 65537 := ⟨_, rfl⟩
    have hn1 : 65536 < n := by omega
    have hn2 : n ≤ 1000000 := by omega
    have hne : (n : Int) = 65537 := by omega
    have hmk : ∀ w' : World, (Instr.makeSlice 23 (.int .i64 65537) (.int .i64 65537)).run Try.prog w' = .ok (.slice (some ⟨w'.heap.size, 0, none⟩) n n) (w'.alloc (.cells (zers n).toArray 5)) := fun w' => by
      have h := make_bytes n hn2 w'
      rw [hne] at h
      exact h
    have HLM := Lib.hid (fun (w' : World) (u : Upd [] w5 w') => LApp_big (n := n) (((HS5.out.quiet u).pull 3 rfl).pull 1 rfl) (show IsI64 63 from ⟨by omega, by omega⟩) (by show m.length ≤ _; omega) hn1 hn2)
    clear hn hne hn1 hn2
    go_wp2_with (first
      | (go_at_call 17; refine HS.out.mono ?_; rintro e w6 ⟨rfl, u6⟩; have HU6 := Lib.hid u6; clear u6)
      | (go_at_call 32; refine (HLM.out _ HU6.out).mono ?_; rintro e w7 ⟨rfl, s7⟩; have HU7 := Lib.hid s7.u; clear s7)
      | (go_at_call 18; refine lives_calls.mono ?_; rintro e w8 ⟨rfl, u8⟩))
    go_ret
    exact ⟨rfl, HU7.out.step u8⟩
end
end Jour
end Go.Proofs.Ytfkgpecglcjpkaa
