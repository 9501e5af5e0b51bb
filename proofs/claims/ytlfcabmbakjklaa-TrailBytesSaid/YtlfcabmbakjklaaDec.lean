/- Walks through package trail: Decode. Conditions: none. -/
import Derived.Test.YtlfcabmbakjklaaDecP
import Derived.Test.YtlfcabmbakjklaaWireR
set_option linter.unusedVariables false
set_option linter.unusedSimpArgs false
set_option linter.unusedSectionVars false
open Go.RowKit
namespace Go.Proofs.Ytlfcabmbakjklaa
open L
namespace Trail
open Wire R01
theorem rows_set3 {f : Nat → List Value} (hf : ∀ i, (f i).length = 3) (a b c : Value) : ∀ (n k : Nat), k < n →
    (((rows n f).set (k * 3) a).set (k * 3 + 1) b).set (k * 3 + 2) c = rows n (fun i => if i = k then [a, b, c] else f i)
  | 0, k, h => by omega
  | n + 1, k, h => by
    have hl := rows_length hf n
    rw [rows_succ, rows_succ]
    by_cases hk : k = n
    · subst hk
      have h1 : rows k (fun i => if i = k then [a, b, c] else f i) = rows k f := rows_congr fun i hi => by rw [if_neg (by omega)]
      rw [h1, if_pos rfl]
      match hfk : f k, hf k with
      | [x, y, z], _ =>
        rw [List.set_append_right _ _ (by omega), List.set_append_right _ _ (by omega), List.set_append_right _ _ (by omega), hl]
        rw [show k * 3 - k * 3 = 0 by omega, show k * 3 + 1 - k * 3 = 1 by omega, show k * 3 + 2 - k * 3 = 2 by omega]
        rfl
    · have hkn : k < n := by omega
      have hk3 : k * 3 + 3 ≤ n * 3 := by omega
      rw [List.set_append_left _ _ (by omega), List.set_append_left _ _ (by simp; omega), List.set_append_left _ _ (by simp; omega), rows_set3 hf a b c n k hkn, if_neg (by omega)]
def lcell (L : Es) (k i : Nat) : List Value := if i < k then [.int .i64 (at_ L i).1, .int .i64 0, .int .i64 (at_ L i).2] else [.int .i64 0, .int .i64 0, .int .i64 0]
theorem lcell_len (L : Es) (k i : Nat) : (lcell L k i).length = 3 := by unfold lcell; split <;> rfl
theorem lcell_step {L L' : Es} {n k : Nat} {x : Int × Int} (hk : k < n) (hL : L.length = k) (hL' : L' = L ++ [x]) :
    (((rows n (lcell L k)).set (k * 3) (.int .i64 x.1)).set (k * 3 + 1) (.int .i64 0)).set (k * 3 + 2) (.int .i64 x.2) = rows n (lcell L' (k + 1)) := by
  rw [rows_set3 (lcell_len L k) _ _ _ n k hk]
  refine rows_congr fun i hi => ?_
  subst hL'
  by_cases h1 : i = k
  · subst h1
    rw [if_pos rfl]
    unfold lcell
    rw [if_pos (by omega), ← hL, at_snoc]
  · rw [if_neg h1]
    unfold lcell
    by_cases h2 : i < k
    · rw [if_pos h2, if_pos (by omega), at_append _ (by omega)]
    · rw [if_neg h2, if_neg (by omega)]
/-- What Decode leaves. -/
def DecT (bs : List Int) (w : World) (e : Ending) (w' : World) : Prop :=
  Upd [] w w' ∧ ((dec bs = none ∧ e = .returned (.tuple #[.pointer none, .int .i64 2])) ∨
    ∃ vs es b S, dec bs = some (vs, es) ∧ e = .returned (.tuple #[.pointer (some ⟨b, 0, none⟩), .int .i64 0]) ∧ Tr w' b vs es (decs es) S ∧ ∀ j ∈ S, w.heap.size ≤ j)
def PutT (b vs : Nat) (es : Es) (S : List Nat) (x r : Int) (w : World) (e : Ending) (w' : World) : Prop :=
  e = .returned (.int .i64 (putErr vs es x r)) ∧ ∃ S', Tr w' b vs (putEs vs es x r) (decs (putEs vs es x r)) S' ∧ Upd S w w' ∧ ∀ k ∈ S', k ∈ S ∨ w.heap.size ≤ k
theorem put_imply {w : World} {b vs : Nat} {es : Es} {S : List Nat} (h : Tr w b vs es (decs es) S) (x r : Int) (hr : IsI64 r) (hr1 : r ≠ -1) :
    Calls Try.prog 32 #[.pointer (some ⟨b, 0, none⟩), .int .i64 x, .int .i64 r] w (PutT b vs es S x r w) := by
  refine (Imply_calls h x r hr.2).mono fun e w' ⟨he, hS⟩ => ?_
  by_cases hn : r < 0
  · have hp : putErr vs es x r = 1 := by
      unfold putErr
      split
      · rw [if_pos (by omega)]
      · rfl
    have hpe : putEs vs es x r = es := by unfold putEs; rw [if_neg (by omega)]
    rw [if_pos hn] at he hS
    exact ⟨by rw [hp]; exact he, by rw [hpe]; exact hS⟩
  · rw [if_neg hn] at he hS
    exact ⟨he, hS⟩
section
variable {w : World}
set_option maxRecDepth 100000 in
set_option maxHeartbeats 4000000 in
theorem Decode_calls {v : Value} {bs : List Int} (h : SL w 1 v bs.length (byts bs)) (hu : ∀ x ∈ bs, IsU8 x) (hl : bs.length ≤ 1000000) : Calls Try.prog 37 #[v] w (DecT bs w) := by
  obtain ⟨av, cv, rfl, qv, rv, _⟩ := SL.form h
  have HR := Lib.hid (Read_calls h hu (by omega))
  have HU := Lib.hid hu
  clear h hu
  go_enter Try.func37, Try.ntmps37
  go_wp2_with fail
  refine HR.out.mono ?_
  rintro e w1 ⟨q, S, rfl, r1, u1, k1⟩
  have HA := Lib.hid (Int_r_calls r1 (rdU_lt HU.out))
  have hS1 : ∀ j ∈ S, w.heap.size ≤ j := k1
  have hqS : q ∈ S := by obtain ⟨sv, rfl, _⟩ := r1.ex; simp
  have hq1 := k1 q hqS
  clear r1 k1 HR
  rw [show rdU bs 0 0 = decA bs from rfl] at HA
  go_wp2_with fail
  refine HA.out.mono ?_
  rintro e w2 ⟨rfl, r2, u2⟩
  have HB := Lib.hid (Int_r_calls r2 (rdU_lt HU.out))
  rw [show rdU bs (decA bs).2.1 (decA bs).2.2 = decB bs from rfl] at HB
  have U2 : Upd [] w w2 := u1.fresh u2 (fun j hj => by simp at hj; subst hj; exact .inr hq1)
  clear u1 u2 r2 HA
  go_wp2_with fail
  refine HB.out.mono ?_
  rintro e w3 ⟨rfl, r3, u3⟩
  have U3 : Upd [] w w3 := U2.fresh u3 (fun j hj => by simp at hj; subst hj; exact .inr hq1)
  have HR3 := Lib.hid r3
  clear U2 u3 r3 HB
  by_cases hc : uzz (decB bs).1 < 0 ∨ (bs.length : Int) < uzz (decB bs).1
  · have HD := Lib.hid (show dec bs = none by unfold dec; rw [if_pos hc])
    generalize uzz (decB bs).1 = cnt at *
    rcases hc with hc | hc
    · go_wp2_with fail
      go_ret2
      exact ⟨U3, .inl ⟨HD.out, rfl⟩⟩
    · by_cases hc2 : cnt < 0
      · omega
      · go_wp2_with fail
        go_ret2
        exact ⟨U3, .inl ⟨HD.out, rfl⟩⟩
  · have HC := Lib.hid hc
    obtain ⟨n, hn⟩ := Int.eq_ofNat_of_zero_le (show 0 ≤ uzz (decB bs).1 by omega)
    have hn2 : n ≤ bs.length := by omega
    have HN := Lib.hid hn
    rw [hn]
    clear hn hc
    generalize hvv : uzz (decA bs).1 = vv at *
    have HVV := Lib.hid hvv
    clear hvv
    go_upto_region 6 with (at_make; refine wpList_mk rfl _ _ _ rfl 79 3 24 _ Try.underlying74 infoEntry rfl (by decide) .i64 .i64 n n n rfl rfl (by omega) (by omega) (by omega) (by omega) ?_)
    have N4 := Blk.new w3 (rows n fun _ => [Value.int .i64 0, .int .i64 0, .int .i64 0]) 79
    have u4 := (Upd.refl [] w3).alloc (.cells (rows n fun _ => [Value.int .i64 0, .int .i64 0, .int .i64 0]).toArray 79)
    generalize hw4 : w3.alloc (.cells (rows n fun _ => [Value.int .i64 0, .int .i64 0, .int .i64 0]).toArray 79) = w4 at *
    generalize hg : w3.heap.size = g at *
    have HG := Lib.hid (And.intro hw4 hg)
    clear hw4 hg
    have hS3 : ∀ j ∈ S, j < g := fun j hj => by rw [← HG.out.2]; exact HR3.out.lt j hj
    have HS3 := Lib.hid hS3
    have hqg : q ≠ g := by have := hS3 q hqS; omega
    have hwg : w.heap.size ≤ g := by rw [← HG.out.2]; exact U3.size
    have U4 := U3.step u4
    have R4 : Rd w4 q bs (decB bs).2.1 (decB bs).2.2 S := HR3.out.upd u4 (by simp)
    have HI := Lib.hid (And.intro R4 (And.intro N4 U4))
    clear hS3 N4 u4 U4 R4 U3 HR3
    go_wp2_with fail
    go_loopw [31] (fun i wr => ∃ k : Nat, i = .int .i64 k ∧ k ≤ n ∧ Rd wr q bs (rdL bs (decB bs).2.1 (decB bs).2.2 k).2.1 (rdL bs (decB bs).2.1 (decB bs).2.2 k).2.2 S ∧ Blk wr g (rows n (lcell (rdL bs (decB bs).2.1 (decB bs).2.2 k).1 k)) 79 ∧ Upd [] w wr) (fun i _ => n - (intOf i).toNat)
    case atStart => exact ⟨0, rfl, Nat.zero_le _, HI.out.1, by
      rw [show rows n (lcell (rdL bs (decB bs).2.1 (decB bs).2.2 0).1 0) = rows n fun _ => [Value.int .i64 0, .int .i64 0, .int .i64 0] from rows_congr fun i _ => by simp [lcell]]
      exact HI.out.2.1, HI.out.2.2⟩
    case round =>
      clear HI
      obtain ⟨k, rfl, hk, hr, hb, hu⟩ := hrel
      by_cases hlt : k < n
      · have hLL := rdL_length bs (decB bs).2.1 (decB bs).2.2 k
        generalize hL0 : rdL bs (decB bs).2.1 (decB bs).2.2 k = L0 at *
        obtain ⟨L0, p0, e0⟩ := L0
        simp only at hr hb hLL
        have ha := Int_r_calls hr (rdU_lt HU.out)
        generalize hra : rdU bs p0 e0 = ra at *
        obtain ⟨v1, p1, e1⟩ := ra
        simp only at ha
        have h2lt := rdU_lt (p := p1) (e := e1) HU.out
        have hb2 := fun w (h : Rd w q bs p1 e1 S) => Int_r_calls h h2lt
        generalize hrb : rdU bs p1 e1 = rb at *
        obtain ⟨v2, p2, e2⟩ := rb
        simp only at hb2
        have hL1 := rdL_succ hL0 hra hrb
        have HX := Lib.hid (And.intro ha hb2)
        have HY := Lib.hid (And.intro hL1 hLL)
        have HB := Lib.hid (And.intro hb hu)
        clear ha hb2 hra hrb hL0 hL1 hLL hb hu h2lt hr
        go_wp2_with fail
        refine HX.out.1.mono ?_
        rintro e w5 ⟨rfl, r5, u5⟩
        have hc5 := HX.out.2 _ r5
        have B5 := HB.out.1.upd u5 (by simpa using hqg.symm)
        have U5 : Upd [] w w5 := HB.out.2.fresh u5 (fun j hj => by simp at hj; subst hj; exact .inr hq1)
        have H5 := Lib.hid hc5
        clear hc5 r5 u5
        go_wp2_with fail
        refine H5.out.mono ?_
        rintro e w6 ⟨rfl, r6, u6⟩
        have B6 := B5.upd u6 (by simpa using hqg.symm)
        have U6 : Upd [] w w6 := U5.fresh u6 (fun j hj => by simp at hj; subst hj; exact .inr hq1)
        have hrl := rows_length (lcell_len L0 k) n
        have hk3 : k * 3 + 3 ≤ n * 3 := by omega
        have g6 := B6.lt
        have f0 := B6.free (k * 3)
        have f1 := B6.free (k * 3 + 1)
        have f2 := B6.free (k * 3 + 2)
        obtain ⟨x0, x1, x2, d0, d1, d2⟩ : ∃ x0 x1 x2, w6.cell? ⟨g, k * 3, none⟩ = some x0 ∧ w6.cell? ⟨g, k * 3 + 1, none⟩ = some x1 ∧ w6.cell? ⟨g, k * 3 + 2, none⟩ = some x2 :=
          ⟨_, _, _, B6.cell (List.getElem?_eq_getElem (by omega)), B6.cell (List.getElem?_eq_getElem (by omega)), B6.cell (List.getElem?_eq_getElem (by omega))⟩
        have H6 := Lib.hid (And.intro r6 (And.intro B6 (And.intro U6 hrl)))
        clear B5 U5 u6 r6 B6 U6 hrl
        go_wp2_with fail
        have us := (((Upd.refl [g] w6).set (p := ⟨g, k * 3, none⟩) (by simp) (.int .i64 (uzz v1))).set (p := ⟨g, k * 3 + 1, none⟩) (by simp) (.int .i64 0)).set (p := ⟨g, k * 3 + 2, none⟩) (by simp) (.int .i64 (uzz v2))
        have Bs := ((H6.out.2.1.set (k * 3) (.int .i64 (uzz v1))).set (k * 3 + 1) (.int .i64 0)).set (k * 3 + 2) (.int .i64 (uzz v2))
        rw [lcell_step (x := (uzz v1, uzz v2)) hlt HY.out.2 rfl] at Bs
        refine ⟨⟨k + 1, by go_num, by omega, ?_, ?_, H6.out.2.2.1.fresh us (fun j hj => by simp at hj; subst hj; exact .inr hwg)⟩, by simp [intOf]; omega⟩
        · have := H6.out.1.upd us (fun j hj hm => by simp at hm; subst hm; have := HS3.out _ hj; omega)
          rw [HY.out.1]
          exact this
        · rw [HY.out.1]
          exact Bs
      · have hkn : k = n := by omega
        subst hkn
        rw [show rdL bs (decB bs).2.1 (decB bs).2.2 k = decL bs by unfold decL; rw [HN.out]; rfl] at hr hb
        generalize hLL : decL bs = LL at *
        obtain ⟨L, p3, e3⟩ := LL
        simp only at hr hb
        have HLL := Lib.hid hLL
        have HE := Lib.hid (End_calls hr)
        have HB := Lib.hid (And.intro hb hu)
        clear hr hb hu hLL
        go_wp2_with fail
        refine HE.out.mono ?_
        rintro e w5 ⟨rfl, u5⟩
        have HB5 := Lib.hid (And.intro (HB.out.1.upd u5 (by simp)) (HB.out.2.step u5))
        clear u5 HE HB
        by_cases hE : e3 ≠ 0 ∨ p3 < bs.length
        · have HD := Lib.hid (show dec bs = none by unfold dec; rw [if_neg HC.out, HLL.out, if_pos hE])
          have hb : ((if e3 ≠ 0 then e3 else if p3 < bs.length then (2 : Int) else 0) != 0) = true := by
            by_cases h0 : e3 ≠ 0
            · rw [if_pos h0]; simpa using h0
            · rw [if_neg h0]
              rcases hE with h | h
              · exact absurd h h0
              · rw [if_pos h]; rfl
          generalize (if e3 ≠ 0 then e3 else if p3 < bs.length then (2 : Int) else 0) = er at *
          clear hE
          go_wp2_with fail
          go_ret2
          exact ⟨HB5.out.2, .inl ⟨HD.out, rfl⟩⟩
        · have hz : (if e3 ≠ 0 then e3 else if p3 < bs.length then (2 : Int) else 0) = 0 := by
            rw [if_neg (fun h => hE (.inl h)), if_neg (fun h => hE (.inr h))]
          rw [hz]
          have HEE := Lib.hid hE
          clear hE hz
          by_cases hv : vv < 0 ∨ 4194304 < vv
          · have HD := Lib.hid (show dec bs = none by unfold dec; rw [if_neg HC.out, HLL.out, if_neg HEE.out, HVV.out, if_pos hv])
            go_wp2_with fail
            refine (New_bad vv _ hv).mono ?_
            rintro e _ ⟨rfl, rfl⟩
            go_wp2_with fail
            go_ret2
            exact ⟨HB5.out.2, .inl ⟨HD.out, rfl⟩⟩
          · obtain ⟨vs, hvs⟩ := Int.eq_ofNat_of_zero_le (show 0 ≤ vv by omega)
            subst hvs
            have hvm : vs ≤ 4194304 := by omega
            have HD := Lib.hid (show dec bs = if okAll vs L = true then some (vs, L) else none by unfold dec; rw [if_neg HC.out, HLL.out, if_neg HEE.out, HVV.out, if_neg hv]; rfl)
            clear hv
            have hLn : L.length = k := by
              have := rdL_length bs (decB bs).2.1 (decB bs).2.2 (uzz (decB bs).1).toNat
              rw [show rdL bs (decB bs).2.1 (decB bs).2.2 (uzz (decB bs).1).toNat = decL bs from rfl, HLL.out, HN.out] at this
              simpa using this
            have hLi : ∀ x ∈ L, IsI64 x.1 ∧ IsI64 x.2 := by
              have := rdL_i64 (p := (decB bs).2.1) (e := (decB bs).2.2) HU.out (uzz (decB bs).1).toNat
              rw [show rdL bs (decB bs).2.1 (decB bs).2.2 (uzz (decB bs).1).toNat = decL bs from rfl, HLL.out] at this
              exact this
            have HLI := Lib.hid (And.intro hLn hLi)
            clear hLn hLi
            go_wp2_with fail
            refine (New_calls vs _ hvm).mono ?_
            rintro e w6 ⟨b, S2, rfl, t6, u6, k6⟩
            have B6 := HB5.out.1.upd u6 (by simp)
            have hg5 := HB5.out.1.lt
            have hw5 := HB5.out.2.size
            have HI := Lib.hid (And.intro t6 (And.intro B6 (And.intro (HB5.out.2.step u6) (fun j hj => (show w.heap.size ≤ j ∧ j ≠ g by have := k6 j hj; omega)))))
            clear t6 u6 B6 k6 HB5
            go_wp2_with fail
            go_loopw [55] (fun i wr => ∃ (m : Nat) (S2 : List Nat), i = .int .i64 m ∧ m ≤ k ∧ Tr wr b vs (L.take m) (decs (L.take m)) S2 ∧ Blk wr g (rows k (lcell L k)) 79 ∧ Upd [] w wr ∧ (∀ j ∈ S2, w.heap.size ≤ j ∧ j ≠ g) ∧ ∀ i, i < m → putErr vs (L.take i) (at_ L i).1 (at_ L i).2 = 0) (fun i _ => k - (intOf i).toNat)
            case atStart => exact ⟨0, S2, rfl, Nat.zero_le _, by simpa [decs] using HI.out.1, HI.out.2.1, HI.out.2.2.1, HI.out.2.2.2, by simp⟩
            case round =>
              clear HI
              obtain ⟨m, S2, rfl, hm, ht, hb, hu, hS, hok⟩ := hrel
              by_cases hml : m < k
              · have hmL : m < L.length := by rw [HLI.out.1]; exact hml
                have hxi := HLI.out.2 _ (at_mem hmL)
                have hcells : ∀ r u, (lcell L k m)[r]? = some u → wr.cell? ⟨g, m * 3 + r, none⟩ = some u := fun r u hr => hb.cell (by
                  have : r < 3 := by have := (List.getElem?_eq_some_iff.1 hr).1; rwa [lcell_len] at this
                  rw [rows_get (lcell_len L k) this hml]; exact hr)
                unfold lcell at hcells
                rw [if_pos hml] at hcells
                have d0 := hcells 0 _ rfl
                have d1 := hcells 1 _ rfl
                have d2 := hcells 2 _ rfl
                rw [Nat.add_zero] at d0
                have htk : L.take (m + 1) = L.take m ++ [at_ L m] := by
                  rw [List.take_add_one]
                  unfold at_
                  rw [List.getD_eq_getElem?_getD, List.getElem?_eq_getElem hmL]
                  rfl
                generalize hAT : at_ L m = xr at *
                obtain ⟨x, r⟩ := xr
                simp only at d0 d2 hxi
                have hOKm := fun h : putErr vs (L.take m) x r = 0 => show ∀ i, i < m + 1 → putErr vs (L.take i) (at_ L i).1 (at_ L i).2 = 0 from fun i hi => by
                  rcases Nat.lt_or_ge i m with h1 | h1
                  · exact hok i h1
                  · obtain rfl : i = m := by omega
                    rw [hAT]; exact h
                have hDN := fun h : putErr vs (L.take m) x r ≠ 0 => show dec bs = none from by
                  rw [HD.out, if_neg]
                  intro ho
                  unfold okAll at ho
                  rw [List.all_eq_true] at ho
                  have := ho m (by simpa using hmL)
                  rw [hAT] at this
                  simp at this
                  exact h this
                have hpes : putErr vs (L.take m) x r = 0 → putEs vs (L.take m) x r = L.take (m + 1) := fun h => by rw [htk]; unfold putEs; rw [if_pos h]
                have hdi : r = -1 → ∀ w', Upd [] wr w' → Calls Try.prog 43 #[.pointer (some ⟨b, 0, none⟩), .int .i64 x] w' (PutT b vs (L.take m) S2 x r w') := fun hr w' hu => by
                  subst hr
                  exact Decide_calls (ht.upd hu (by simp)) x
                have him : r ≠ -1 → ∀ w', Upd [] wr w' → Calls Try.prog 32 #[.pointer (some ⟨b, 0, none⟩), .int .i64 x, .int .i64 r] w' (PutT b vs (L.take m) S2 x r w') := fun hr w' hu => put_imply (ht.upd hu (by simp)) x r hxi.2 hr
                unfold PutT at hdi him
                generalize hE2 : L.take (m + 1) = es2 at *
                have HE2 := Lib.hid hE2
                clear hE2
                generalize L.take m = es1 at *
                generalize putErr vs es1 x r = pe at *
                generalize putEs vs es1 x r = pes at *
                have HM := Lib.hid (And.intro hOKm (And.intro hDN (And.intro hpes (And.intro hdi him))))
                have HW := Lib.hid (And.intro hb (And.intro hu hS))
                have hgw := hb.lt
                have hww := hu.size
                clear hOKm hDN hpes hdi him hb hu hS hok htk hcells hAT hmL
                have uA := (Upd.refl [] wr).alloc (.cells #[.int .i64 x, .int .i64 0, .int .i64 r] 79)
                have NB := Blk.new wr [.int .i64 x, .int .i64 0, .int .i64 r] 79
                have f0 := NB.cell (i := 0) rfl
                have f2 := NB.cell (i := 2) rfl
                have hres : ∀ (w' : World) (S7 : List Nat), Tr w' b vs pes (decs pes) S7 → Upd S2 (wr.alloc (.cells #[.int .i64 x, .int .i64 0, .int .i64 r] 79)) w' → (∀ k ∈ S7, k ∈ S2 ∨ (wr.alloc (.cells #[.int .i64 x, .int .i64 0, .int .i64 r] 79)).heap.size ≤ k) →
                    Tr w' b vs pes (decs pes) S7 ∧ Blk w' g (rows k (lcell L k)) 79 ∧ Upd [] w w' ∧ ∀ j ∈ S7, w.heap.size ≤ j ∧ j ≠ g := fun w' S7 t7 u7 k7 => by
                  refine ⟨t7, (HW.out.1.upd uA (by simp)).upd u7 (fun hm => (HW.out.2.2 g hm).2 rfl), (HW.out.2.1.step uA).fresh u7 (fun j hj => .inr (HW.out.2.2 j hj).1), fun j hj => ?_⟩
                  rcases k7 j hj with h | h
                  · exact HW.out.2.2 j h
                  · simp at h; omega
                have HRS := Lib.hid hres
                clear hres ht
                by_cases hr1 : r = -1
                · have hbr : (r == -1) = true := by simpa using hr1
                  have HR1 := Lib.hid hr1
                  clear hr1
                  by_cases hpe : pe = 0
                  · have HPE := Lib.hid hpe
                    clear hpe
                    go_wp2_with (go_at_call 43; refine (HM.out.2.2.2.1 HR1.out _ uA).mono ?_; rintro e w7 ⟨rfl, S7, t7, u7, k7⟩; rw [HPE.out]; have H7 := Lib.hid (HRS.out _ _ t7 u7 k7); clear t7 u7 k7)
                    refine ⟨⟨m + 1, S7, by go_num, by omega, ?_, H7.out.2.1, H7.out.2.2.1, H7.out.2.2.2, HM.out.1 HPE.out⟩, by simp [intOf]; omega⟩
                    have := H7.out.1
                    rw [HM.out.2.2.1 HPE.out] at this
                    rw [HE2.out]
                    exact this
                  · have hb : (pe != 0) = true := by simpa using hpe
                    have HPE := Lib.hid hpe
                    clear hpe
                    go_wp2_with (go_at_call 43; refine (HM.out.2.2.2.1 HR1.out _ uA).mono ?_; rintro e w7 ⟨rfl, S7, t7, u7, k7⟩; have H7 := Lib.hid (HRS.out _ _ t7 u7 k7); clear t7 u7 k7)
                    go_ret2
                    exact ⟨H7.out.2.2.1, .inl ⟨HM.out.2.1 HPE.out, rfl⟩⟩
                · have hbr : (r == -1) = false := by simpa using hr1
                  have HR1 := Lib.hid hr1
                  clear hr1
                  by_cases hpe : pe = 0
                  · have HPE := Lib.hid hpe
                    clear hpe
                    go_wp2_with (go_at_call 32; refine (HM.out.2.2.2.2 HR1.out _ uA).mono ?_; rintro e w7 ⟨rfl, S7, t7, u7, k7⟩; rw [HPE.out]; have H7 := Lib.hid (HRS.out _ _ t7 u7 k7); clear t7 u7 k7)
                    refine ⟨⟨m + 1, S7, by go_num, by omega, ?_, H7.out.2.1, H7.out.2.2.1, H7.out.2.2.2, HM.out.1 HPE.out⟩, by simp [intOf]; omega⟩
                    have := H7.out.1
                    rw [HM.out.2.2.1 HPE.out] at this
                    rw [HE2.out]
                    exact this
                  · have hb : (pe != 0) = true := by simpa using hpe
                    have HPE := Lib.hid hpe
                    clear hpe
                    go_wp2_with (go_at_call 32; refine (HM.out.2.2.2.2 HR1.out _ uA).mono ?_; rintro e w7 ⟨rfl, S7, t7, u7, k7⟩; have H7 := Lib.hid (HRS.out _ _ t7 u7 k7); clear t7 u7 k7)
                    go_ret2
                    exact ⟨H7.out.2.2.1, .inl ⟨HM.out.2.1 HPE.out, rfl⟩⟩
              · have hmk : m = k := by omega
                have hko : okAll vs L = true := by
                  unfold okAll
                  rw [List.all_eq_true]
                  intro i hi
                  simp only [List.mem_range, HLI.out.1] at hi
                  simpa using hok i (by omega)
                have HK := Lib.hid (show dec bs = some (vs, L) by rw [HD.out, if_pos hko])
                rw [show L.take m = L by rw [hmk, ← HLI.out.1, List.take_length]] at ht
                have HT := Lib.hid (And.intro ht (And.intro hu hS))
                clear ht hu hS hok hko hb hmk
                go_wp2_with fail
                go_ret2
                exact ⟨HT.out.2.1, .inr ⟨vs, L, b, S2, HK.out, rfl, HT.out.1, fun j hj => (HT.out.2.2 j hj).1⟩⟩
end
end Trail
end Go.Proofs.Ytlfcabmbakjklaa
