/- Walks through package clause and its reference: Encode, Decode. Conditions: none. -/
import Derived.Test.YtgdpbhbdeaifbaaIntsW
import Derived.Test.YtgdpbhbdeaifbaaListR
import Derived.Test.YtgdpbhbdeaifbaaVal
set_option linter.unusedVariables false
set_option linter.unusedSimpArgs false
set_option linter.unusedSectionVars false
open Go.RowKit
namespace Go.Proofs.Ytgdpbhbdeaifbaa
open L
namespace Wire
open R01 R14 R02 Cla
section
variable {w w' : World} {q : Nat} {bs : List Int} {p : Nat} {e : Int} {S : List Nat}
set_option maxRecDepth 100000 in
theorem Ints_r_calls (h : Rd w q bs p e S) (hb : bs.length ≤ 1000000000) : Calls Try.prog 38 #[.pointer (some ⟨q, 0, none⟩)] w (LstT q bs S w (rdIs bs p e)) := by
  have HL := Lib.hid (list_calls h hb)
  clear h
  go_enter Try.func38, Try.ntmps38
  go_wp2_with fail
  refine HL.out.mono ?_
  rintro e' w1 ⟨v, rfl, hr⟩
  have HR := Lib.hid hr
  obtain ⟨a, cap, rfl, _⟩ := hr.2.1.val
  clear hr
  go_wp2_with fail
  go_ret
  exact ⟨_, rfl, HR.out⟩
end
end Wire
namespace Cla
open R01 R14 R02 Wire
theorem valid_i64 {c : List Int} (h : validErr c = 0) : (∀ x ∈ c, IsI64 x) ∧ c.length ≤ 65536 := by
  obtain ⟨h1, h2⟩ := listErr_lit (validErr_ok.1 h).1
  refine ⟨fun x hx => ?_, h1⟩
  have := h2 x hx
  unfold IsI64; omega
/-- What encoding leaves. -/
def EncT (c : List Int) (w : World) (e : Ending) (w' : World) : Prop :=
  (validErr c ≠ 0 → e = .returned (.tuple #[.slice none 0 0, .int .i64 (validErr c)]) ∧ Upd [] w w') ∧
  (validErr c = 0 → ∃ a cap, e = .returned (.tuple #[.slice a (lb c).length cap, .int .i64 0]) ∧ OwnB w (.slice a (lb c).length cap) (lb c) w')
section
variable {w : World}
set_option maxRecDepth 100000 in
set_option maxHeartbeats 2000000 in
theorem Encode_calls {v : Value} {c : List Int} (h : SL w 1 v c.length (ints c)) : Calls Try.prog 33 #[v] w (EncT c w) := by
  have HV := Lib.hid (Valid_calls h)
  have HS := Lib.hid h
  obtain ⟨a, cap, rfl, q1, r1, hc⟩ := SL.form h
  clear h hc
  by_cases hv : validErr c = 0
  · obtain ⟨hi, hl⟩ := valid_i64 hv
    have HI := Lib.hid hi
    have HE := Lib.hid hv
    rw [hv] at HV
    clear hi hv
    go_enter Try.func33, Try.ntmps33
    go_wp2_with fail
    refine HV.out.mono ?_
    rintro e w1 ⟨rfl, u1⟩
    have W0 := WtF.start w1
    have W0u := (Upd.refl [] w1).alloc (.cells #[.slice none 0 0] 67)
    have H0 := Lib.hid (And.intro u1 (HS.out.upd u1 (by simp)))
    clear u1 HV HS
    go_wp2_with fail
    generalize w1.alloc (.cells #[.slice none 0 0] 67) = w2 at *
    generalize w1.heap.size = q at *
    refine (Ints_w W0 H0.out.2 HI.out (by omega)).mono ?_
    rintro e w3 ⟨rfl, W3⟩
    have HW3 := Lib.hid W3
    have hlb := (lb_length c).2
    clear W0 W0u W3
    go_wp2_with fail
    obtain ⟨S4, t4, _⟩ := HW3.out.ex
    refine (Done_calls t4 (by omega)).mono ?_
    rintro e w5 ⟨a5, cap5, rfl, o5, u5⟩
    have U := (H0.out.1.step HW3.out.u).step u5
    have z1 := H0.out.1.size
    have z3 := HW3.out.u.size
    go_wp2_with fail
    go_ret2
    refine ⟨fun h => absurd HE.out h, fun _ => ⟨a5, cap5, rfl, ⟨o5.row, fun g hg => ?_, U⟩⟩⟩
    have := o5.fresh g hg
    omega
  · have hb : (validErr c != 0) = true := by simpa using hv
    have HE := Lib.hid hv
    clear hv
    go_enter Try.func33, Try.ntmps33
    go_wp2_with fail
    refine HV.out.mono ?_
    rintro e w1 ⟨rfl, u1⟩
    have HU := Lib.hid u1
    clear u1
    go_wp2_with fail
    go_ret2
    exact ⟨fun _ => ⟨rfl, HU.out⟩, fun h => absurd h HE.out⟩
end
end Cla
namespace R14
open R01 R02 Wire Cla
section
variable {w : World}
set_option maxRecDepth 100000 in
set_option maxHeartbeats 2000000 in
theorem REncode_calls {v : Value} {c : List Int} (h : SL w 1 v c.length (ints c)) : Calls Try.prog 34 #[v] w (EncT c w) := by
  have HV := Lib.hid (RValid_calls h)
  have HS := Lib.hid h
  obtain ⟨a, cap, rfl, q1, r1, hc⟩ := SL.form h
  clear h hc
  by_cases hv : validErr c = 0
  · obtain ⟨hi, hl⟩ := valid_i64 hv
    have HI := Lib.hid hi
    have HE := Lib.hid hv
    rw [hv] at HV
    clear hi hv
    go_enter Try.func34, Try.ntmps34
    go_wp2_with fail
    refine HV.out.mono ?_
    rintro e w1 ⟨rfl, u1⟩
    have H0 := Lib.hid (And.intro u1 (HS.out.upd u1 (by simp)))
    clear u1 HV HS
    go_wp2_with fail
    refine (RInts_calls H0.out.2 HI.out (by omega)).mono ?_
    rintro e w3 ⟨a5, cap5, rfl, o5⟩
    have HO := Lib.hid (o5.base H0.out.1)
    clear o5
    go_wp2_with fail
    go_ret2
    exact ⟨fun h => absurd HE.out h, fun _ => ⟨a5, cap5, rfl, HO.out⟩⟩
  · have hb : (validErr c != 0) = true := by simpa using hv
    have HE := Lib.hid hv
    clear hv
    go_enter Try.func34, Try.ntmps34
    go_wp2_with fail
    refine HV.out.mono ?_
    rintro e w1 ⟨rfl, u1⟩
    have HU := Lib.hid u1
    clear u1
    go_wp2_with fail
    go_ret2
    exact ⟨fun _ => ⟨rfl, HU.out⟩, fun h => absurd h HE.out⟩
end
end R14
namespace Cla
open R01 R14 R02 Wire
/-- The clause that bytes encode. -/
def decC (bs : List Int) : Option (List Int) := if (rdIs bs 0 0).2.2 = 0 ∧ ¬ (rdIs bs 0 0).2.1 < bs.length ∧ validErr (rdIs bs 0 0).1 = 0 then some (rdIs bs 0 0).1 else none
theorem decC_read {bs c : List Int} (hu : ∀ x ∈ bs, IsU8 x) (h : decC bs = some c) : bs = lb c ∧ validErr c = 0 := by
  unfold decC at h
  split at h
  · rename_i h1
    cases h
    exact ⟨rdIs_read hu (p := (rdIs bs 0 0).2.1) (Prod.ext rfl (Prod.ext rfl h1.1)) h1.2.1, h1.2.2⟩
  · cases h
theorem decC_write {c : List Int} (h : validErr c = 0) : decC (lb c) = some c := by
  obtain ⟨h1, h2⟩ := valid_i64 h
  have h3 := rdIs_write h1 (by omega)
  unfold decC
  rw [h3, if_pos ⟨rfl, by simp, h⟩]
def DecCT (bs : List Int) (w : World) (e : Ending) (w' : World) : Prop :=
  (decC bs = none ∧ e = .returned (.tuple #[.slice none 0 0, .int .i64 2]) ∧ Upd [] w w') ∨ ∃ c v, decC bs = some c ∧ e = .returned (.tuple #[v, .int .i64 0]) ∧ SL w' 1 v c.length (ints c) ∧ Upd [] w w' ∧ ∀ g, v.ownBlock = some g → w.heap.size ≤ g
section
variable {w : World}
set_option maxRecDepth 100000 in
set_option maxHeartbeats 2000000 in
theorem Decode_calls {v : Value} {bs : List Int} (h : SL w 1 v bs.length (byts bs)) (hx : ∀ x ∈ bs, IsU8 x) (hl : bs.length ≤ 1000000000) : Calls Try.prog 37 #[v] w (DecCT bs w) := by
  have HR := Lib.hid (Read_calls h hx (by omega))
  have HD := Lib.hid (show decC bs = if (rdIs bs 0 0).2.2 = 0 ∧ ¬ (rdIs bs 0 0).2.1 < bs.length ∧ validErr (rdIs bs 0 0).1 = 0 then some (rdIs bs 0 0).1 else none from rfl)
  clear h
  go_enter Try.func37, Try.ntmps37
  go_wp2_with fail
  refine HR.out.mono ?_
  rintro e w1 ⟨q, S, rfl, r1, u1, k1⟩
  have H1 := Lib.hid (And.intro r1 (And.intro u1 k1))
  clear r1 u1 k1 HR
  go_wp2_with fail
  refine (Ints_r_calls H1.out.1 hl).mono ?_
  rintro e w2 ⟨v2, rfl, r2, s2, u2, k2⟩
  have H2 := Lib.hid (And.intro (End_calls r2) (And.intro s2 (H1.out.2.1.fresh u2 (fun j hj => by simp at hj; subst hj; exact .inr (H1.out.2.2 _ H1.out.1.q_mem)))))
  have HK := Lib.hid (fun g (hg : v2.ownBlock = some g) => Nat.le_trans H1.out.2.1.size (k2 g hg))
  clear r2 s2 u2 k2 H1
  generalize rdIs bs 0 0 = r at *
  obtain ⟨c, p, er⟩ := r
  simp only at HD H2
  obtain ⟨a2, cap2, rfl, _⟩ := H2.out.2.1.val
  by_cases he : er = 0
  · by_cases hp : p < bs.length
    · have HN := Lib.hid (show decC bs = none by rw [HD.out, if_neg (fun h => h.2.1 hp)])
      have H3 := Lib.hid (And.intro H2.out.1 H2.out.2)
      rw [if_neg (by simpa using he), if_pos hp] at H3
      clear H2 he HD hp
      go_wp2_with fail
      refine H3.out.1.mono ?_
      rintro e w3 ⟨rfl, u3⟩
      have HU := Lib.hid u3
      clear u3
      go_wp2_with fail
      go_ret2
      exact .inl ⟨HN.out, rfl, H3.out.2.2.step HU.out⟩
    · have H3 := Lib.hid (And.intro H2.out.1 H2.out.2)
      rw [if_neg (by simpa using he), if_neg hp] at H3
      clear H2
      by_cases hv : validErr c = 0
      · have HN := Lib.hid (show decC bs = some c by rw [HD.out, if_pos ⟨he, hp, hv⟩])
        have HV := Lib.hid hv
        clear hv he hp HD
        go_wp2_with fail
        refine H3.out.1.mono ?_
        rintro e w3 ⟨rfl, u3⟩
        have H4 := Lib.hid (And.intro (H3.out.2.2.step u3) (H3.out.2.1.upd u3 (by simp)))
        clear u3
        go_wp2_with fail
        refine (Valid_calls H4.out.2).mono ?_
        rintro e w4 ⟨rfl, u4⟩
        rw [HV.out]
        have H5 := Lib.hid (And.intro (H4.out.1.step u4) (H4.out.2.upd u4 (by simp)))
        clear u4
        go_wp2_with fail
        go_ret2
        exact .inr ⟨c, _, HN.out, rfl, H5.out.2, H5.out.1, HK.out⟩
      · have HN := Lib.hid (show decC bs = none by rw [HD.out, if_neg (fun h => hv h.2.2)])
        have hb : (validErr c != 0) = true := by simpa using hv
        clear hv he hp HD
        go_wp2_with fail
        refine H3.out.1.mono ?_
        rintro e w3 ⟨rfl, u3⟩
        have H4 := Lib.hid (And.intro (H3.out.2.2.step u3) (H3.out.2.1.upd u3 (by simp)))
        clear u3
        go_wp2_with fail
        refine (Valid_calls H4.out.2).mono ?_
        rintro e w4 ⟨rfl, u4⟩
        have H5 := Lib.hid (H4.out.1.step u4)
        clear u4
        go_wp2_with fail
        go_ret2
        exact .inl ⟨HN.out, rfl, H5.out⟩
  · have HN := Lib.hid (show decC bs = none by rw [HD.out, if_neg (fun h => he h.1)])
    have hb : (er != 0) = true := by simpa using he
    have H3 := Lib.hid (And.intro H2.out.1 H2.out.2)
    rw [if_pos he] at H3
    clear H2 he HD
    go_wp2_with fail
    refine H3.out.1.mono ?_
    rintro e w3 ⟨rfl, u3⟩
    have HU := Lib.hid u3
    clear u3
    go_wp2_with fail
    go_ret2
    exact .inl ⟨HN.out, rfl, H3.out.2.2.step HU.out⟩
end
end Cla
end Go.Proofs.Ytgdpbhbdeaifbaa
