/- Walks through the reference of package disk: Crash. Conditions: none. -/
import Derived.Test.YtnljjkmmnkldcaaDiskY
set_option linter.unusedVariables false
set_option linter.unusedSimpArgs false
set_option linter.unusedSectionVars false
open Go.RowKit
namespace Go.Proofs.Ytnljjkmmnkldcaa
open L
namespace Disk
open Wire
attribute [-go_sem] sliced
/-- The bytes of the files, where n of the surviving loose bytes were looked at. -/
def cutB (s : DS) (keep : List Int) (a : Int) (n : Nat) : Nat → List Int :=
  if 0 ≤ a ∧ a < 8 * (n : Int) then crashB s keep (some a.toNat) else crashB s keep none
theorem cutB_zero (s : DS) (keep : List Int) (a : Int) : cutB s keep a 0 = crashB s keep none := by unfold cutB; rw [if_neg (by omega)]
theorem cutB_skip {s : DS} {keep : List Int} {a : Int} {n : Nat} (h : a < 8 * (n : Int) ∨ 8 * (n : Int) + 8 ≤ a) : cutB s keep a (n + 1) = cutB s keep a n := by
  unfold cutB
  by_cases h1 : 0 ≤ a ∧ a < 8 * (n : Int)
  · rw [if_pos h1, if_pos (by omega)]
  · rw [if_neg h1, if_neg (by omega)]
theorem cutB_length {s : DS} (h : s.Ok) (keep : List Int) (a : Int) (n i : Nat) : (cutB s keep a n i).length = s.F i + keptN s keep i := by
  unfold cutB
  split
  · exact crashB_length s keep _ i h
  · exact crashB_length s keep _ i h
theorem cutB_hit {s : DS} (h : s.Ok) {keep : List Int} {q n i : Nat} {y : Int} (h1 : 8 * n ≤ q) (h2 : q < 8 * n + 8) (hi : i < 64) (ho : tot (keptN s keep) i ≤ n) (hn : n < tot (keptN s keep) i + keptN s keep i)
    (hy : (crashB s keep none i)[s.F i + (n - tot (keptN s keep) i)]? = some y) :
    cutB s keep (q : Int) (n + 1) = setB (cutB s keep (q : Int) n) i ((cutB s keep (q : Int) n i).set (s.F i + (n - tot (keptN s keep) i)) (flipB y (q - 8 * n))) := by
  have e1 : cutB s keep (q : Int) n = crashB s keep none := by unfold cutB; rw [if_neg (by omega)]
  have e2 : cutB s keep (q : Int) (n + 1) = crashB s keep (some q) := by unfold cutB; rw [if_pos ⟨by omega, by omega⟩, Int.toNat_natCast]
  have e3 := congrArg DS.B (crash_flip h (keep := keep) (i := i) (q := q) (by omega) (by omega) hi)
  simp only at e3
  rw [e1, e2, e3]
  congr 1
  unfold flipL
  have e4 : (8 * s.F i + (q - 8 * tot (keptN s keep) i)) / 8 = s.F i + (n - tot (keptN s keep) i) := by omega
  rw [e4]
  apply List.ext_getElem?
  intro j
  rw [List.getElem?_modify, List.getElem?_set]
  have hlt := (List.getElem?_eq_some_iff.1 hy).1
  by_cases e : s.F i + (n - tot (keptN s keep) i) = j
  · subst e
    rw [hy]
    have e5 : flipB y (8 * s.F i + (q - 8 * tot (keptN s keep) i)) = flipB y (q - 8 * n) := by
      unfold flipB
      rw [show (8 * s.F i + (q - 8 * tot (keptN s keep) i)) % 8 = (q - 8 * n) % 8 by omega]
    simp [hlt, e5]
  · simp [e]
def atOf (s : DS) (keep : List Int) (fp : Int) : Int := match crashAt s keep fp with
  | none => -1
  | some q => q
theorem cutB_end (s : DS) (keep : List Int) (fp : Int) : cutB s keep (atOf s keep fp) (tot (keptN s keep) 64) = crashB s keep (crashAt s keep fp) := by
  unfold cutB atOf crashAt
  by_cases h : 0 ≤ fp ∧ 0 < tot (keptN s keep) 64
  · rw [if_pos h]
    have hm := Nat.mod_lt fp.toNat (show 0 < 8 * tot (keptN s keep) 64 by omega)
    simp only [Int.toNat_natCast]
    rw [if_pos ⟨by omega, by omega⟩]
  · rw [if_neg h]
    simp only
    rw [if_neg (by omega)]
section
variable {w w' : World} {p : Nat} {s : DS} {S : List Nat}
set_option maxRecDepth 100000 in
set_option maxHeartbeats 8000000 in
theorem RCrash_calls (h : RDk w p s S) {vk : Value} {keep : List Int} {fp : Int} (hk : SL w 1 vk keep.length (ints keep)) (hkS : ∀ g, vk.ownBlock = some g → g ∉ S) (hkI : ∀ x ∈ keep, IsI64 x) (hfp : IsI64 fp) :
    Calls Try.prog 46 #[.pointer (some ⟨p, 0, none⟩), vk, .int .i64 fp] w (RDkT p S w (.tuple #[]) (crashS s keep fp)) := by
  obtain ⟨_, ak, ck, rfl, hk2⟩ := hk
  have HK := Lib.hid (And.intro (show SL w 1 (.slice ak keep.length ck) keep.length (ints keep) from ⟨ints_length _ |>.trans (by omega), ak, ck, rfl, hk2⟩) (And.intro hkS hkI))
  have HFL := Lib.hid (RFiles_calls h)
  have hfl := filesS_length s
  have H := Lib.hid h
  clear h hk2 hkS hkI
  go_enter Try.func46, Try.ntmps46
  go_upto_region 1 with (go_at_call 49; refine HFL.out.mono ?_; rintro e w2 ⟨v, rfl, o2, u2⟩; obtain ⟨_, va, vc, rfl, _⟩ := SL.of_owns o2.row)
  have H2 := Lib.hid (And.intro o2 u2)
  clear o2 u2 HFL
  generalize hfn : (filesS s).length = fn at *
  have HFN := Lib.hid hfn
  clear hfn
  have hs0 : ({ s with B := (crashK s keep 0).B } : DS) = s := by rw [crashK_zero]
  go_wp2_with fail
  go_loopw [7, 8] (fun mn i wr => ∃ k : Nat, i = .int .i64 k ∧ k ≤ fn ∧ mn = .int .i64 (sumL (keptN s keep) ((filesS s).take k) : Nat) ∧ OwnV w 3 1 (.slice va fn vc) fn (ints ((filesS s).map Int.ofNat)) wr ∧ Upd S w wr ∧ ∃ S2, RDk0 wr p { s with B := (crashK s keep k).B } S2 ∧ (∀ j ∈ S2, j ∈ S ∨ w.heap.size ≤ j ∧ some j ≠ (Value.slice va fn vc).ownBlock)) (fun _ i _ => fn - (intOf i).toNat)
  case atStart =>
    refine ⟨0, rfl, Nat.zero_le _, rfl, H2.out.1, H2.out.2.nil, S, ?_, fun j hj => .inl hj⟩
    rw [hs0]; exact H.out.to0.upd H2.out.2 (by simp)
  case round =>
    obtain ⟨wo, rfl⟩ : ∃ wo : World, wo = wr := ⟨_, rfl⟩
    obtain ⟨k, rfl, hk, rfl, ho, hu, S2, hd, hs2⟩ := hrel
    by_cases hlt : k < fn
    · have hlti : (k : Int) < fn := by omega
      have hkl : k < (filesS s).length := by rw [HFN.out]; exact hlt
      obtain ⟨i, hi⟩ : ∃ i, (filesS s)[k]? = some i := ⟨_, List.getElem?_eq_getElem hkl⟩
      obtain ⟨hi64, hne⟩ := filesS_mem.1 (List.mem_of_getElem? hi)
      obtain ⟨g0, hva⟩ : ∃ g, va = some ⟨g, 0, none⟩ := by
        obtain ⟨g, cap, he, _⟩ := owns_form ho.row (by omega)
        cases he
        exact ⟨g, rfl⟩
      subst hva
      have d0 := ho.row.cells (g := g0) rfl k _ (ints_get (x := (i : Int)) (by rw [List.getElem?_map, hi]; rfl))
      rw [addr_add, Nat.zero_add] at d0
      obtain ⟨hBi, _⟩ := crashK_at (keep := keep) hi
      obtain ⟨bB, aB, cB, f1, f2, f3, hbS, hrow, hown, hput⟩ := hd.file hi64
      obtain ⟨bF, e1, e2, e3, _⟩ := hd.mark hi64
      simp only [hBi] at f2 hrow hown hput
      have hcap : (s.B i).length ≤ cB := by
        obtain ⟨_, _, _, he, h2, _⟩ := SL.of_owns hrow
        cases he; exact h2
      have hlB := H.out.ok.len i
      have hF := H.out.ok.firm i
      have hkk := keptN_le s keep i
      have HKA := Lib.hid (kept_at (keep := keep) hi)
      have hbl1 := World.block_lt_of_cell? _ _ f2
      have hbl2 := World.block_lt_of_cell? _ _ e2
      have hiI : (i : Int) < 64 := by omega
      have HX := Lib.hid (And.intro hrow (And.intro hown (And.intro hput (And.intro hbS (And.intro ho (And.intro hu (And.intro hi (And.intro hd hs2))))))))
      have HCE := Lib.hid (And.intro f1 (And.intro f2 (And.intro f3 (And.intro e1 e2))))
      clear hrow hown hput hbS ho hu hi hne hd hs2 hBi hkl f3 e3 hs0
      generalize hfk : s.F i = F at *
      generalize hkn : keptN s keep i = kk at *
      generalize hln : (s.B i).length = ln at *
      have HQ := Lib.hid (And.intro hfk (And.intro hkn hln))
      clear hfk hkn hln
      go_upto_if 32 with fail
      go_cut [10] (fun t w' => t = .int .i64 (kk : Int) ∧ Upd [] wo w')
      case first =>
        by_cases hkp : k < keep.length
        · have hkpi : (k : Int) < keep.length := by omega
          have hx := List.getElem?_eq_getElem hkp
          have hkv := HKA.out
          rw [hx] at hkv
          have hxi := HK.out.2.2 _ (List.getElem_mem hkp)
          generalize keep[k] = x at *
          simp only at hkv
          obtain ⟨_, ak', ck', he, _, _, _, hc⟩ := HK.out.1
          cases he
          rcases hc with hc | ⟨gk, ok, rfl, hc⟩
          · omega
          · have dk := ((hc k _ (ints_get hx)))
            have dk4 := HX.out.2.2.2.2.2.1.some dk (fun hm => HK.out.2.1 gk rfl hm)
            clear dk hc hx
            have hfi : (F : Int) ≤ ln := by omega
            have hkv2 : max 0 (min x ((ln : Int) - F)) = kk := by omega
            have HKV := Lib.hid hkv2
            clear hkv hkv2
            go_wp2_with fail
            refine wp_region_qx (by kernel_rfl) (by kernel_rfl) ?_
            repeat (go_big_quiet_step ((fail)))
            refine wpQuiet_nil ?_
            intro x
            go_wp2_with fail
            go_meet
            case rel => exact ⟨by rw [HKV.out], Ext.upd _⟩
        · have hk0 : kk = 0 := by
            have := HKA.out
            rw [List.getElem?_eq_none (by omega)] at this
            exact this
          have hkpi : (keep.length : Int) ≤ k := by omega
          have HK0 := Lib.hid hk0
          clear hk0
          go_wp2_with fail
          go_meet
          case rel => exact ⟨by rw [HK0.out]; rfl, Upd.refl _ _⟩
      case rest =>
        obtain ⟨rfl, hu4⟩ := hcut
        have f1 := hu4.some HCE.out.1 (by simp)
        have f2 := hu4.some HCE.out.2.1 (by simp)
        have f3 := (hu4.frozen (World.block_lt_of_cell? _ _ HCE.out.2.1) (by simp)).trans HCE.out.2.2.1
        have e1 := hu4.some HCE.out.2.2.2.1 (by simp)
        have e2 := hu4.some HCE.out.2.2.2.2 (by simp)
        have hbl1 := World.block_lt_of_cell? _ _ f2
        have hbl2 := World.block_lt_of_cell? _ _ e2
        obtain ⟨fk, hfk⟩ : ∃ fk : Nat, fk = F + kk := ⟨_, rfl⟩
        have hfki : (F : Int) + (kk : Int) = (fk : Int) := by omega
        have hfv : (fk : Int) ≤ cB := by omega
        have hsl := sliced_pre ((owns_addr HX.out.1).elim (fun h => .inl h.1) (fun ⟨g, hg⟩ => .inr ⟨g, 0, hg⟩)) fk cB
        have HFK := Lib.hid hfk
        have HU4 := Lib.hid hu4
        clear hfk hu4
        go_upto_region 10 with fail
        refine wp_region_ord 25 1 [0, 1, 2, 3, 4, 5, 6, 7, 8, 9, 10, 11, 12, 13, 14, 15, 16, 17, 18, 19, 20, 21, 22, 24] [3, 9, 12, 16, 19] [0, 1, 2, 3, 4, 5, 6, 7, 8, 9, 10, 11, 12, 13, 14, 15, 16, 17, 18, 19, 20, 21, 22, 23, 24, 25] (fun w' => ∃ x : Ext wc, w' = x.val) (by kernel_rfl) (by kernel_rfl) (Ext.of (by iterate 25 (first | exact Upd.refl _ _ | assumption | refine Upd.alloc ?_ _ | refine Upd.drew ?_ | refine Upd.drewN ?_ _ | refine Upd.dl ?_ | refine Upd.step ?_ (Ext.upd _) | refine Upd.nil ?_ | skip))) ?_
        repeat (first | (refine wpOrd_load rfl rfl rfl rfl (fun K hK => ?_); go_big_quiet_step (fail); refine wpQuiet_nil ?_; refine hK _ ?_; clear hK K) | (refine wpOrd_free rfl rfl rfl (fun K hK => ?_); go_big_quiet_step (fail); refine wpQuiet_nil ?_; refine hK _ ?_; clear hK K))
        refine wpOrd_fix rfl rfl (fun K hK => ?_)
        have udr : Upd [] wo wc.drew := HU4.out.drew
        have hrow2 := ownsRow_updL (own_pre HX.out.1 (m := fk) (by have := HFK.out; omega)) udr (by simp)
        rw [Nat.mul_one, byts_take] at hrow2
        have HRW := Lib.hid (SL.of_owns hrow2)
        clear udr hrow2
        refine wpList_appS rfl _ _ _ rfl 5 1 1 _ Try.underlying27 infoByte rfl (by decide) (.slice none 0 0) 0 [] rfl (World.ownsRow_nil _ _ _ _) (.slice aB fk cB) _ _ rfl HRW.out (byts_one _) (by unfold maxLen; omega) (by omega) ?_
        intro a3 cap3 w3 o3 u3 k3
        simp only [Nat.zero_add, List.nil_append] at o3 u3 k3 ⊢
        go_wp2_with fail
        try (simp only [Act.put, List.setIfInBounds_toArray, List.set_cons_zero, List.set_cons_succ])
        have u3b : Upd [] wc.drew w3 := by simpa [Value.ownBlock] using u3
        have uc3 : Upd [] wc w3 := ((Upd.refl [] wc).drew).step u3b
        have uo3 : Upd [] wo w3 := HU4.out.step uc3
        have hbl3 := hb_none k3
        first | refine ⟨fun _ => Ext.of uc3, ?_⟩ | refine ⟨Ext.of uc3, ?_⟩
        repeat (first | (refine wpOrd_load rfl rfl rfl rfl (fun K hK => ?_); go_big_quiet_step (fail); refine wpQuiet_nil ?_; refine hK _ ?_; clear hK K) | (refine wpOrd_free rfl rfl rfl (fun K hK => ?_); go_big_quiet_step (fail); refine wpQuiet_nil ?_; refine hK _ ?_; clear hK K))
        have hlen : ((s.B i).take fk).length = fk := by rw [List.length_take, HQ.out.2.2]; have := HFK.out; omega
        have hwoc : wo.heap.size ≤ wc.drew.heap.size := HU4.out.size
        have hv3 : ∀ g, (Value.slice a3 fk cap3).ownBlock = some g → (g ∉ S2 ∧ g < w3.heap.size) ∨ (Value.slice aB ln cB).ownBlock = some g := fun g hg => by
          refine .inl ⟨fun hm => ?_, (o3.lt g hg).2⟩
          have h1 := HX.out.2.2.2.2.2.2.2.1.lt g hm
          have h2 := hbl3 g hg
          omega
        obtain ⟨q1, q2⟩ := HX.out.2.2.1 [] w3 (.slice a3 fk cap3) ((s.B i).take fk) (by simp) uo3 (by rw [hlen]; exact o3) hv3
        have g2' := uc3.some f2 (by simp)
        have g3' := (uc3.frozen (World.block_lt_of_cell? _ _ f2) (by simp)).trans f3
        have hstep := congrArg DS.B (crashK_step (keep := keep) HX.out.2.2.2.2.2.2.1)
        simp only at hstep
        rw [HQ.out.1, HQ.out.2.1, ← HFK.out] at hstep
        have hsum : sumL (keptN s keep) ((filesS s).take (k + 1)) = sumL (keptN s keep) ((filesS s).take k) + kk := by rw [List.take_add_one, HX.out.2.2.2.2.2.2.1, sumL_append, ← HQ.out.2.1]; simp [sumL]
        have hsb : sumL (keptN s keep) ((filesS s).take k) + kk ≤ 16777216 := by
          rw [before_at HX.out.2.2.2.2.2.2.1, ← HQ.out.2.1]
          have h1 := tot_mono2 (g := keptN s keep) hi64
          have hbt := tot_mono (n := 64) (g := keptN s keep) (h := fun i => (s.B i).length) (fun i _ => by have := keptN_le s keep i; omega)
          have hbt2 := H.out.ok.used
          have hbt3 := H.out.ok.room
          unfold used at hbt2
          omega
        rw [← hstep] at q1
        have HQ2 := Lib.hid (And.intro q1 (And.intro q2 (And.intro hsum hbl3)))
        clear q1 q2 hsum hstep hv3 o3 k3 hsl
        refine wpOrd_fix rfl rfl (fun K hK => ?_)
        go_wp2_with fail
        try (refine ⟨fun hC => absurd hC (by decide), ?_⟩)
        refine wpOrd_nil ?_
        clear g2' g3' f1 f2 f3 e1 e2
        generalize sumL (keptN s keep) ((filesS s).take k) = sk at *
        have hski : (sk : Int) + kk ≤ 16777216 := by omega
        clear hsb
        go_wp2_with fail
        go_roundw
        case rel =>
          obtain ⟨x1, x2, x3, x4, x5, x6, x7, x8, x9⟩ := HX.out
          have hbne : some bB ≠ (Value.slice (some ⟨g0, 0, none⟩) fn vc).ownBlock := by
            rcases x9 bB x4 with h | h
            · intro e
              have h1 := x5.fresh bB e.symm
              have h2 := H.out.lt bB h
              omega
            · exact h.2
          have hg0 := x5.lt g0 rfl
          refine ⟨k + 1, by go_num, by omega, by rw [HQ2.out.2.2.1]; go_num, x5.upd HQ2.out.2.1 (fun b hb e => by simp only [List.mem_singleton] at hb; subst hb; exact hbne e.symm), x6.fresh HQ2.out.2.1 (fun b hb => by simp only [List.mem_singleton] at hb; subst hb; exact (x9 b x4).imp id (fun h => h.1)), _, HQ2.out.1, fun j hj => ?_⟩
          rcases List.mem_append.1 hj with hj | hj
          · have h1 := HQ2.out.2.2.2 j (by simpa using hj)
            have h2 := x6.size
            refine .inr ⟨by omega, fun e => ?_⟩
            simp only [Value.ownBlock, Option.some.injEq] at e
            omega
          · exact x9 j hj
        case measure => simp [intOf]; omega
    · have hkn : k = fn := by omega
      subst hkn
      have hall : sumL (keptN s keep) ((filesS s).take k) = tot (keptN s keep) 64 := by rw [List.take_of_length_le (by rw [HFN.out]; exact Nat.le_refl _)]; exact kept_all s keep
      rw [hall]
      have hbt := tot_mono (n := 64) (g := keptN s keep) (h := fun i => (s.B i).length) (fun i _ => by have := keptN_le s keep i; omega)
      have hbt2 := H.out.ok.used
      have hbt3 := H.out.ok.room
      unfold used at hbt2
      have htot : tot (keptN s keep) 64 ≤ 16777216 := by omega
      have hBe : (crashK s keep k).B = crashB s keep none := by rw [← HFN.out, crashK_end H.out.ok]
      rw [hBe] at hd
      have HD := Lib.hid (And.intro hd (And.intro ho (And.intro hu (And.intro hs2 hall))))
      clear hd ho hu hs2 hall hBe hbt hbt2 hbt3 hs0
      go_upto_region 13 with fail
      go_cut [88] (fun t w' => t = .bool (decide (0 ≤ fp ∧ 0 < tot (keptN s keep) 64)) ∧ w' = wo)
      case first =>
        by_cases hf0 : 0 ≤ fp
        · by_cases ht0 : 0 < tot (keptN s keep) 64
          · have hti : (0 : Int) < (tot (keptN s keep) 64 : Nat) := by omega
            go_wp2_with fail
            go_meet
            case rel => exact ⟨by rw [decide_eq_true (show 0 ≤ fp ∧ 0 < tot (keptN s keep) 64 from ⟨hf0, ht0⟩)], rfl⟩
          · have hti : ¬ (0 : Int) < (tot (keptN s keep) 64 : Nat) := by omega
            go_wp2_with fail
            go_meet
            case rel => exact ⟨by rw [decide_eq_false (show ¬ (0 ≤ fp ∧ 0 < tot (keptN s keep) 64) from fun h => ht0 h.2)], rfl⟩
        · go_wp2_with fail
          go_meet
          case rel => exact ⟨by rw [decide_eq_false (show ¬ (0 ≤ fp ∧ 0 < tot (keptN s keep) 64) from fun h => by omega)], rfl⟩
      rename_i hcut
      obtain ⟨rfl, rfl⟩ := hcut
      go_upto_if 88 with fail
      go_cut [12] (fun t w' => t = .int .i64 (atOf s keep fp) ∧ w' = wc)
      case first =>
        by_cases hc : 0 ≤ fp ∧ 0 < tot (keptN s keep) 64
        · rw [decide_eq_true hc]
          obtain ⟨hf0, ht0⟩ := hc
          obtain ⟨fq, rfl⟩ := Int.eq_ofNat_of_zero_le hf0
          have hti : (0 : Int) < (tot (keptN s keep) 64 : Nat) := by omega
          have hat : atOf s keep (fq : Int) = (fq : Int) % (8 * ((tot (keptN s keep) 64 : Nat) : Int)) := by
            unfold atOf crashAt
            rw [if_pos ⟨hf0, ht0⟩]
            simp [Int.natCast_emod]
          have HAT := Lib.hid hat
          clear hat hf0
          go_wp2_with fail
          go_meet
          case rel => exact ⟨by rw [HAT.out], rfl⟩
        · have hat : atOf s keep fp = -1 := by
            unfold atOf crashAt
            rw [if_neg hc]
          have HAT := Lib.hid hat
          rw [decide_eq_false hc]
          clear hat hc
          go_wp2_with fail
          go_meet
          case rel => exact ⟨by rw [HAT.out], rfl⟩
      case rest =>
        obtain ⟨rfl, rfl⟩ := hcut
        have hatb : -1 ≤ atOf s keep fp ∧ atOf s keep fp ≤ 134217728 := by
          unfold atOf crashAt
          split
          · omega
          · rename_i q hq
            split at hq
            · have hm := Nat.mod_lt fp.toNat (show 0 < 8 * tot (keptN s keep) 64 by omega)
              cases hq
              omega
            · cases hq
        obtain ⟨hat0, hat1⟩ := hatb
        have HE := Lib.hid (cutB_end s keep fp)
        generalize atOf s keep fp = a0 at *
        go_wp2_with fail
        go_loopw [12, 13] (fun at_ i wr => ∃ j : Nat, i = .int .i64 j ∧ j ≤ k ∧ at_ = .int .i64 (a0 - 8 * (sumL (keptN s keep) ((filesS s).take j) : Nat)) ∧ RDk0 wr p { s with B := cutB s keep a0 (sumL (keptN s keep) ((filesS s).take j)) } S2 ∧ OwnV w 3 1 (.slice va k vc) k (ints ((filesS s).map Int.ofNat)) wr ∧ Upd S w wr) (fun _ i _ => k - (intOf i).toNat)
        case atStart => exact ⟨0, rfl, Nat.zero_le _, by simp [sumL], by rw [show sumL (keptN s keep) ((filesS s).take 0) = 0 by simp [sumL], cutB_zero]; exact HD.out.1, HD.out.2.1, HD.out.2.2.1⟩
        case round =>
          obtain ⟨wo, rfl⟩ : ∃ wo : World, wo = wr := ⟨_, rfl⟩
          obtain ⟨j, rfl, hj, rfl, hd, ho, hu⟩ := hrel
          by_cases hjk : j < k
          · have hjki : (j : Int) < k := by omega
            have hjl : j < (filesS s).length := by rw [HFN.out]; exact hjk
            obtain ⟨i, hi⟩ : ∃ i, (filesS s)[j]? = some i := ⟨_, List.getElem?_eq_getElem hjl⟩
            obtain ⟨hi64, hne⟩ := filesS_mem.1 (List.mem_of_getElem? hi)
            obtain ⟨g0, hva⟩ : ∃ g, va = some ⟨g, 0, none⟩ := by
              obtain ⟨g, cap, he, _⟩ := owns_form ho.row (by omega)
              cases he
              exact ⟨g, rfl⟩
            subst hva
            have d0 := ho.row.cells (g := g0) rfl j _ (ints_get (x := (i : Int)) (by rw [List.getElem?_map, hi]; rfl))
            rw [addr_add, Nat.zero_add] at d0
            obtain ⟨bF, e1, e2, e3, _⟩ := hd.mark hi64
            simp only at e2
            have hbe := before_at (keep := keep) hi
            have hkk := keptN_le s keep i
            have hlB := H.out.ok.len i
            have hFi := H.out.ok.firm i
            have hmono := tot_mono2 (g := keptN s keep) hi64
            have hstep : sumL (keptN s keep) ((filesS s).take (j + 1)) = sumL (keptN s keep) ((filesS s).take j) + keptN s keep i := by rw [List.take_add_one, hi, sumL_append]; simp [sumL]
            have HJ := Lib.hid (And.intro hi64 (And.intro hstep (And.intro hd (And.intro ho hu))))
            have hiI : (i : Int) < 64 := by omega
            rw [← hbe] at hmono
            have HBE := Lib.hid hbe
            clear hi hne hstep hd ho hu hjl hbe
            generalize hsj : sumL (keptN s keep) ((filesS s).take j) = sj at *
            have HSJ := Lib.hid hsj
            clear hsj
            generalize hkn : keptN s keep i = kk at *
            generalize hfn : s.F i = F at *
            have HKN := Lib.hid (And.intro hkn hfn)
            clear hkn hfn
            go_upto_block 4 with fail
            go_wp2_with fail
            go_loopw [12, 15] (fun at_ kx wr => ∃ n : Nat, n ≤ kk ∧ kx = .int .i64 ((F + n : Nat) : Int) ∧ at_ = .int .i64 (a0 - 8 * ((sj + n : Nat) : Int)) ∧ RDk0 wr p { s with B := cutB s keep a0 (sj + n) } S2 ∧ OwnV w 3 1 (.slice (some ⟨g0, 0, none⟩) k vc) k (ints ((filesS s).map Int.ofNat)) wr ∧ Upd S w wr) (fun _ kx _ => (F + kk) - (intOf kx).toNat)
            case atStart => exact ⟨0, Nat.zero_le _, rfl, rfl, HJ.out.2.2.1, HJ.out.2.2.2.1, HJ.out.2.2.2.2⟩
            case round =>
              clear d0 e1 e2 e3
              obtain ⟨wx, rfl⟩ : ∃ wo : World, wo = wr := ⟨_, rfl⟩
              obtain ⟨n, hn, rfl, rfl, hd, ho, hu⟩ := hrel
              have hcl := cutB_length H.out.ok keep a0 (sj + n) i
              rw [HKN.out.1, HKN.out.2] at hcl
              obtain ⟨bB, aB, cB, f1, f2, f3, _⟩ := hd.file hi64
              simp only [hcl] at f2
              have hbl1 := World.block_lt_of_cell? _ _ f2
              have HI := Lib.hid (And.intro hd (And.intro ho (And.intro hu hcl)))
              clear ho hu hcl
              by_cases hnk : n < kk
              · have hnki : ((F + n : Nat) : Int) < ((F + kk : Nat) : Int) := by omega
                by_cases hneg : a0 < 8 * ((sj + n : Nat) : Int)
                · have hsk := Lib.hid (cutB_skip (s := s) (keep := keep) (a := a0) (n := sj + n) (.inl hneg))
                  have hneg2 : a0 - 8 * ((sj + n : Nat) : Int) < 0 := by omega
                  have hlo : -268435456 ≤ a0 - 8 * ((sj + n : Nat) : Int) := by omega
                  obtain ⟨ax, hax⟩ : ∃ ax : Int, ax = a0 - 8 * ((sj + n : Nat) : Int) := ⟨_, rfl⟩
                  rw [← hax] at hneg2 hlo ⊢
                  have HAX := Lib.hid hax
                  clear hax hneg hd
                  go_wp2_with fail
                  go_roundw
                  case rel => exact ⟨n + 1, by omega, by go_num, congrArg (Value.int .i64) (by have := HAX.out; omega), by rw [← Nat.add_assoc, hsk.out]; exact HI.out.1, HI.out.2.1, HI.out.2.2.1⟩
                  case measure => simp [intOf]; omega
                · by_cases h8 : 8 * ((sj + n : Nat) : Int) + 8 ≤ a0
                  · have hsk := Lib.hid (cutB_skip (s := s) (keep := keep) (a := a0) (n := sj + n) (.inr h8))
                    have hneg2 : 8 ≤ a0 - 8 * ((sj + n : Nat) : Int) := by omega
                    have hhi : a0 - 8 * ((sj + n : Nat) : Int) ≤ 134217728 := by omega
                    obtain ⟨ax, hax⟩ : ∃ ax : Int, ax = a0 - 8 * ((sj + n : Nat) : Int) := ⟨_, rfl⟩
                    rw [← hax] at hneg2 hhi ⊢
                    have HAX := Lib.hid hax
                    clear hax hneg hd h8
                    go_wp2_with fail
                    go_roundw
                    case rel => exact ⟨n + 1, by omega, by go_num, congrArg (Value.int .i64) (by have := HAX.out; omega), by rw [← Nat.add_assoc, hsk.out]; exact HI.out.1, HI.out.2.1, HI.out.2.2.1⟩
                    case measure => simp [intOf]; omega
                  · obtain ⟨q, rfl⟩ := Int.eq_ofNat_of_zero_le (show 0 ≤ a0 by omega)
                    obtain ⟨ax, hax⟩ : ∃ ax : Nat, ax = q - 8 * (sj + n) := ⟨_, rfl⟩
                    have hax8 : ax < 8 := by omega
                    have haxi : (q : Int) - 8 * ((sj + n : Nat) : Int) = (ax : Int) := by omega
                    rw [haxi]
                    have hax8i : (ax : Int) < 8 := by omega
                    have hs7 : (7 : Int) - (ax : Int) = ((7 - ax % 8 : Nat) : Int) := by omega
                    have hcn : cutB s keep (q : Int) (sj + n) = crashB s keep none := by unfold cutB; rw [if_neg (by omega)]
                    have hix : F + n < (cutB s keep (q : Int) (sj + n) i).length := by rw [HI.out.2.2.2]; omega
                    have hy := List.getElem?_eq_getElem hix
                    have hpk := hd.poke hi64 (by intro e; have := HI.out.2.2.2; simp only at e; rw [e] at this; simp at this; omega)
                    obtain ⟨bC, gC, cC, p1, p2, hgS, hpc, hpp⟩ := hpk
                    simp only [HI.out.2.2.2] at p2 hpp
                    have hpc2 := hpc (F + n) _ hy
                    have hhit := cutB_hit H.out.ok (keep := keep) (q := q) (n := sj + n) (i := i) (y := (cutB s keep (q : Int) (sj + n) i)[F + n]) (by omega) (by omega) hi64 (by rw [← HBE.out]; omega) (by rw [← HBE.out, HKN.out.1]; omega) (by rw [← HBE.out, HKN.out.2, show F + (sj + n - sj) = F + n by omega, ← hcn]; exact hy)
                    rw [← HBE.out, HKN.out.2, show F + (sj + n - sj) = F + n by omega, ← hax] at hhit
                    generalize (cutB s keep (q : Int) (sj + n) i)[F + n] = y at *
                    obtain ⟨pc1, pc2⟩ := hpc2
                    have hq := hpp wx.drew (F + n) (flipB y ax) ((Upd.refl [] wx).drew) (by omega)
                    try simp only at hq
                    rw [← hhit] at hq
                    have HP := Lib.hid (And.intro hq (And.intro hgS (show flipB y ax = bits .xor .u8 y (2 ^ (7 - ax % 8) % 256) by unfold flipB; rw [flip_shl])))
                    have HAX := Lib.hid (And.intro hax (show 8 * (sj + n) ≤ q by omega))
                    have hgl := World.block_lt_of_cell? _ _ pc1
                    have hbl2 := World.block_lt_of_cell? _ _ p2
                    clear hq hgS hpc hpp hhit hy hix hcn hd h8 hneg haxi hax f1 f2 f3 hbl1
                    go_wp2_with fail
                    refine wp_region_ord 24 1 [0, 1, 2, 3, 4, 5, 6, 7, 8, 9, 10, 11, 12, 13, 14, 15, 16, 17, 18, 19, 20, 21, 22, 23] [3, 6, 11, 14, 17] [0, 1, 2, 3, 4, 5, 6, 7, 8, 9, 10, 11, 12, 13, 14, 15, 16, 17, 18, 19, 20, 21, 22, 23, 24] (fun w' => ∃ x : Ext wx, w' = x.val) (by kernel_rfl) (by kernel_rfl) (Ext.of (by iterate 25 (first | exact Upd.refl _ _ | assumption | refine Upd.alloc ?_ _ | refine Upd.drew ?_ | refine Upd.drewN ?_ _ | refine Upd.dl ?_ | refine Upd.step ?_ (Ext.upd _) | refine Upd.nil ?_ | skip))) ?_
                    repeat (first | (refine wpOrd_load rfl rfl rfl rfl (fun K hK => ?_); go_big_quiet_step (fail); refine wpQuiet_nil ?_; refine hK _ ?_; clear hK K) | (refine wpOrd_free rfl rfl rfl (fun K hK => ?_); go_big_quiet_step (fail); refine wpQuiet_nil ?_; refine hK _ ?_; clear hK K))
                    refine wpOrd_fix rfl rfl (fun K hK => ?_)
                    go_wp2_with fail
                    try (refine ⟨fun hC => absurd hC (by decide), ?_⟩)
                    refine wpOrd_nil ?_
                    rw [← HP.out.2.2]
                    obtain ⟨w7, hw7⟩ : ∃ w7 : World, w7 = (wx.setCell ⟨gC, F + n, none⟩ (.int .u8 (flipB y ax))).drew := ⟨_, rfl⟩
                    have r1 : RDk0 w7 p { s with B := cutB s keep (q : Int) (sj + n + 1) } S2 := by rw [hw7]; exact HP.out.1
                    have r2 : Upd [gC] wx w7 := by rw [hw7]; exact ((Upd.refl _ wx).set (.inl (by simp)) _).drew
                    rw [← hw7]
                    have hgc := HD.out.2.2.2.1 gC HP.out.2.1
                    have r3 := HI.out.2.1.upd r2 (fun b hb e => by
                      simp only [List.mem_singleton] at hb
                      subst hb
                      rcases hgc with h | h
                      · have h1 := HI.out.2.1.fresh b e
                        have h2 := H.out.lt b h
                        omega
                      · exact h.2 e.symm)
                    have r4 := HI.out.2.2.1.fresh r2 (fun b hb => by simp only [List.mem_singleton] at hb; subst hb; exact hgc.imp id (fun h => h.1))
                    have HR7 := Lib.hid (And.intro r1 (And.intro r3 r4))
                    clear hw7 r1 r2 r3 r4 hgc pc1 pc2 p1 p2
                    go_wp2_with fail
                    go_roundw
                    case rel => exact ⟨n + 1, by omega, by go_num, congrArg (Value.int .i64) (by have := HAX.out; omega), by rw [← Nat.add_assoc]; exact HR7.out.1, HR7.out.2.1, HR7.out.2.2⟩
                    case measure => simp [intOf]; omega
              · have hnk2 : n = kk := by omega
                subst hnk2
                clear hd
                go_wp2_with fail
                go_roundw
                case rel => exact ⟨j + 1, by go_num, by omega, by rw [HJ.out.2.1], by rw [HJ.out.2.1]; exact HI.out.1, HI.out.2.1, HI.out.2.2.1⟩
                case measure => simp [intOf]; omega
          · have hjk2 : j = k := by omega
            subst hjk2
            rw [HD.out.2.2.2.2, HE.out] at hd
            have hs9 := crashS_ok H.out.ok keep fp
            have HS9 := Lib.hid hs9
            have hst0 : ({ s with B := crashB s keep (crashAt s keep fp) } : DS) = syncM { s with B := crashB s keep (crashAt s keep fp) } 0 := (syncM_zero _).symm
            rw [hst0] at hd
            have hend : ({ syncM { s with B := crashB s keep (crashAt s keep fp) } 64 with off := false, plan := -1 } : DS) = crashS s keep fp := by
              refine DS.eq_of rfl rfl (funext fun i => ?_) rfl rfl
              simp only [syncM, crashS]
              split
              · rfl
              · have h1 := H.out.ok.firm i
                rw [H.out.ok.out i (by omega)] at h1
                rw [crashB_length s keep _ i H.out.ok, kept_nil (H.out.ok.out i (by omega))]
                simp
            have HEND := Lib.hid hend
            generalize ({ s with B := crashB s keep (crashAt s keep fp) } : DS) = s3 at *
            have H3 := Lib.hid (And.intro hd hu)
            clear hd hu ho hs9 hst0 hend
            go_wp2_with fail
            go_loopw [16] (fun i wr => ∃ n : Nat, i = .int .i64 n ∧ n ≤ 64 ∧ RDk0 wr p (syncM s3 n) S2 ∧ Upd S w wr) (fun i _ => 64 - (intOf i).toNat)
            case atStart => exact ⟨0, rfl, Nat.zero_le _, H3.out.1, H3.out.2⟩
            case round =>
              obtain ⟨wx, rfl⟩ : ∃ wo : World, wo = wr := ⟨_, rfl⟩
              obtain ⟨n, rfl, hn, hd, hu⟩ := hrel
              by_cases hlt : n < 64
              · have hlti : (n : Int) < 64 := by omega
                obtain ⟨bB, aB, cB, d1, d2, _⟩ := hd.file hlt
                obtain ⟨bF, e1, e2, e3, hfS, hmk⟩ := hd.mark hlt
                have hbl := World.block_lt_of_cell? _ _ e2
                have hbl2 := World.block_lt_of_cell? _ _ d2
                obtain ⟨m1, m2⟩ := hmk [] wx.drew (s3.B n).length (by simp) ((Upd.refl [] wx).drew)
                have hBk : (syncM s3 n).B n = s3.B n := rfl
                rw [hBk] at d2
                rw [← syncM_step] at m1
                have HM := Lib.hid (And.intro m1 (And.intro m2 (And.intro hfS hu)))
                clear hmk m1 m2 hfS hd hu hBk
                go_wp2_with fail
                refine wp_region_ord 14 1 [0, 1, 2, 3, 4, 5, 6, 7, 8, 9, 10, 11, 12, 13] [3, 8, 11] [0, 1, 2, 3, 4, 5, 6, 7, 8, 9, 10, 11, 12, 13, 14] (fun w' => ∃ x : Ext wx, w' = x.val) (by kernel_rfl) (by kernel_rfl) (Ext.of (by iterate 25 (first | exact Upd.refl _ _ | assumption | refine Upd.alloc ?_ _ | refine Upd.drew ?_ | refine Upd.drewN ?_ _ | refine Upd.dl ?_ | refine Upd.step ?_ (Ext.upd _) | refine Upd.nil ?_ | skip))) ?_
                repeat (first | (refine wpOrd_load rfl rfl rfl rfl (fun K hK => ?_); go_big_quiet_step (fail); refine wpQuiet_nil ?_; refine hK _ ?_; clear hK K) | (refine wpOrd_free rfl rfl rfl (fun K hK => ?_); go_big_quiet_step (fail); refine wpQuiet_nil ?_; refine hK _ ?_; clear hK K))
                refine wpOrd_fix rfl rfl (fun K hK => ?_)
                go_wp2_with fail
                try (refine ⟨fun hC => absurd hC (by decide), ?_⟩)
                refine wpOrd_nil ?_
                go_wp2_with fail
                go_roundw
                case rel => exact ⟨n + 1, by go_num, by omega, HM.out.1, HM.out.2.2.2.fresh HM.out.2.1 (fun b hb => by simp only [List.mem_singleton] at hb; subst hb; exact (HD.out.2.2.2.1 b HM.out.2.2.1).imp id (fun h => h.1))⟩
                case measure => simp [intOf]; omega
              · have hn64 : n = 64 := by omega
                subst hn64
                obtain ⟨x2, y2, h1⟩ := hd.cells
                have c3 := h1.cell (i := 3) rfl
                have c4 := h1.cell (i := 4) rfl
                have f3 := h1.free 3
                have f4 := h1.free 4
                have HX := Lib.hid (And.intro hd hu)
                clear hd hu h1
                go_wp2_with fail
                go_end0
                have hu2 : Upd [p] wx ((wx.setCell ⟨p, 3, none⟩ (.bool false)).setCell ⟨p, 4, none⟩ (.int .i64 (-1))) := ((Upd.refl _ wx).set (.inl (by simp)) _).set (.inl (by simp)) _
                have h9 := HX.out.1.head (s' := { syncM s3 64 with off := false, plan := -1 }) rfl rfl hu2 (fun x y hb => (hb.set 3 _).set 4 _)
                rw [HEND.out] at h9
                exact ⟨rfl, S2, h9.ok HS9.out, HX.out.2.fresh hu2 (fun b hb => .inl (by simp only [List.mem_singleton] at hb; subst hb; exact H.out.p_mem)), fun b hb => (HD.out.2.2.2.1 b hb).imp id (fun h => h.1)⟩
end
end Disk
end Go.Proofs.Ytnljjkmmnkldcaa
