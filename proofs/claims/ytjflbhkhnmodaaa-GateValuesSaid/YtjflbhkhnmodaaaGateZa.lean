/- Walks through the laws of gates: GateValues. Conditions: none. -/
import Derived.Test.YtjflbhkhnmodaaaGateM
import Derived.Test.YtjflbhkhnmodaaaGateD
import Derived.Test.YtjflbhkhnmodaaaGateY
import Derived.Test.YtjflbhkhnmodaaaReg3
import Derived.Test.YtjflbhkhnmodaaaCuts
set_option linter.unusedVariables false
set_option linter.unusedSimpArgs false
set_option linter.unusedSectionVars false
open Go.RowKit
namespace Go.Proofs.Ytjflbhkhnmodaaa
open L
namespace Gate
open Cla R14 R01
def bit (m : Int) (v : Nat) : Bool := m / 2 ^ v % 2 == 1
def bitL (m : Int) (n : Nat) : List Bool := (List.range n).map (bit m)
theorem bitL_snoc (m : Int) (n : Nat) : bitL m (n + 1) = bitL m n ++ [bit m n] := by simp [bitL, List.range_succ]
theorem bitL_len (m : Int) (n : Nat) : (bitL m n).length = n := by simp [bitL]
theorem bis_snoc (l : List Bool) (b : Bool) : bis (l ++ [b]) = bis l ++ [bi b] := by simp [bis]
theorem bi_bit (m : Int) (v : Nat) (h : 0 ≤ m / 2 ^ v) : m / 2 ^ v % 2 = bi (bit m v) := by
  unfold bi bit
  generalize m / 2 ^ v = q at *
  rcases (by omega : q % 2 = 0 ∨ q % 2 = 1) with h | h <;> rw [h] <;> rfl
theorem SL_upto {w : World} {a : Option Addr} {n m cap : Nat} {cs : List Value} (h : SL w 1 (.slice a n cap) n cs) (hm : m ≤ n) : SL w 1 (sliced a 0 m cap 1) m (cs.take m) := by
  unfold sliced
  obtain ⟨h1, a', cap', he, h2, h3, h5, h4⟩ := h
  cases he
  refine ⟨by rw [List.length_take]; omega, _, _, rfl, by omega, by omega, ?_, ?_⟩
  · intro hn
    split at hn
    · omega
    · cases a with
      | none => have := h5 rfl; omega
      | some x => cases hn
  · rcases h4 with h4 | ⟨b, off, rfl, h4⟩
    · left; omega
    · by_cases hc : cap = 0
      · left; omega
      · right
        rw [if_neg hc]
        refine ⟨b, off, by simp [addr_add], fun j u hj => h4 j u ?_⟩
        rw [List.getElem?_take] at hj
        split at hj
        · exact hj
        · cases hj
theorem bools_take (l : List Bool) (n : Nat) : (bools l).take n = bools (l.take n) := by simp [bools, List.map_take]
theorem ints_take (l : List Int) (n : Nat) : (ints l).take n = ints (l.take n) := by simp [ints, List.map_take]
theorem bis_take (l : List Bool) (n : Nat) : (bis l).take n = bis (l.take n) := by simp [bis, List.map_take]
theorem Value_lit {w : World} {g n : Nat} {bs : List Bool} {k : Int} (hB : Blk w g (bools bs) 4) (hn : n = bs.length) (hn' : bs.length = ninp k) (hk : kOk k = true) :
    Calls Try.prog 5 #[.int .i64 k, .slice (some ⟨g, 0, none⟩) n n] w fun e w' => e = .returned (.tuple #[.bool (gVal k bs), .int .i64 0]) ∧ Upd [] w w' := by
  subst hn
  have h3 := ninp_le k
  have hs : SL w 1 (.slice (some ⟨g, 0, none⟩) bs.length bs.length) bs.length (bools bs) := SL.of_blk (pad := []) (by simpa using hB) (by simp [bools]) (Nat.le_refl _) (by unfold maxLen; omega)
  have hok : vOk k bs.length = true := by unfold vOk; rw [hk, hn']; simp
  refine (Value_calls hs).mono ?_
  rintro e w' ⟨he, hu⟩
  rw [hok, if_pos rfl, Bool.true_and] at he
  exact ⟨he, hu⟩
theorem SL_part {w : World} {a : Option Addr} {i n m cap : Nat} {cs : List Value} (h : SL w 1 (.slice a n cap) n cs) (hm : m ≤ n) (hi : i ≤ m) : SL w 1 (sliced a i m cap 1) (m - i) ((cs.take m).drop i) := by
  have h' : SL w 1 (.slice a m cap) m (cs.take m) := by
    obtain ⟨h1, a', cap', he, h2, h3, h5, h4⟩ := h
    cases he
    refine ⟨by rw [List.length_take]; omega, a, cap, rfl, by omega, h3, h5, ?_⟩
    rcases h4 with h4 | ⟨b, off, rfl, h4⟩
    · left; omega
    · right
      refine ⟨b, off, rfl, fun j u hj => h4 j u ?_⟩
      rw [List.getElem?_take] at hj
      split at hj
      · exact hj
      · cases hj
  exact h'.from_ hi
theorem bools_one (l : List Bool) : ∀ u ∈ bools l, u.oneCell' = true := by
  intro u hu
  obtain ⟨b, _, rfl⟩ := List.mem_map.1 hu
  rfl
theorem bools_drop (l : List Bool) (n : Nat) : (bools l).drop n = bools (l.drop n) := by simp [bools, List.map_drop]
theorem rows_false (n : Nat) : rows n (fun _ => (Value.bool false).cells.toList) = bools (List.replicate n false) := by
  rw [show (fun _ : Nat => (Value.bool false).cells.toList) = (fun _ => [Value.bool false]) from rfl, rows_one]
  simp [bools]
theorem turned {k nn : Nat} (hk : k < 7) (h4 : k ≠ 4) (hn : nn = ninp k) (h1 : 1 < nn) (b0 b1 b2 : Bool) : gVal (k : Int) ([b1, b0] ++ ([b0, b1, b2].take nn).drop 2) = gVal (k : Int) ([b0, b1, b2].take nn) := by
  rcases (by omega : k = 0 ∨ k = 1 ∨ k = 2 ∨ k = 3 ∨ k = 5 ∨ k = 6) with rfl | rfl | rfl | rfl | rfl | rfl
  · exact absurd hn (by have : ninp ((0 : Nat) : Int) = 1 := rfl; omega)
  · rw [show nn = 2 from hn]; revert b0 b1 b2; decide
  · rw [show nn = 2 from hn]; revert b0 b1 b2; decide
  · rw [show nn = 2 from hn]; revert b0 b1 b2; decide
  · rw [show nn = 3 from hn]; revert b0 b1 b2; decide
  · rw [show nn = 3 from hn]; revert b0 b1 b2; decide
theorem Value_bad {w : World} {g n : Nat} {bs : List Bool} {k : Int} (hB : Blk w g (bools bs) 4) (hn : bs.length = n) (hm : n ≤ maxLen) (hk : vOk k n = false) :
    Calls Try.prog 5 #[.int .i64 k, .slice (some ⟨g, 0, none⟩) n n] w fun e w' => e = .returned (.tuple #[.bool false, .int .i64 1]) ∧ Upd [] w w' := by
  subst hn
  have hs : SL w 1 (.slice (some ⟨g, 0, none⟩) bs.length bs.length) bs.length (bools bs) := SL.of_blk (pad := []) (by simpa using hB) (by simp [bools]) (Nat.le_refl _) hm
  refine (Value_calls hs).mono ?_
  rintro e w' ⟨he, hu⟩
  rw [hk, Bool.false_and, if_neg (by decide)] at he
  exact ⟨he, hu⟩
attribute [-go_sem] sliced
set_option maxRecDepth 100000 in
set_option maxHeartbeats 16000000 in
def gz (w : World) (kind more : Int) (hk : IsI64 kind) (hm : IsI64 more) : { T : Prop × Prop × Prop // RowKit.Hid T.1 → RowKit.Hid T.2.1 → RowKit.Hid T.2.2 → Calls Try.prog 3 #[.int .i64 kind, .int .i64 more] w fun e w' => e = .returned (.bool true) ∧ Upd [] w w' } :=
  cut3 _ _ _ (by
  intro K1 K2 K3
  go_enter Try.func3, Try.ntmps3
  go_wp2_with fail
  go_loopw [5] (fun i wr => ∃ k : Nat, i = .int .i64 k ∧ k ≤ 7 ∧ Upd [] w wr) (fun i _ => 7 - (intOf i).toNat)
  case atStart => exact ⟨0, rfl, Nat.zero_le _, Upd.refl _ _⟩
  case round =>
    obtain ⟨wk, rfl⟩ : ∃ wk : World, wk = wr := ⟨_, rfl⟩
    obtain ⟨k, rfl, hk7, hu⟩ := hrel
    by_cases hlk : k < 7
    · have HU := Lib.hid hu
      clear hu
      have hlk' : (k : Int) < 7 := by omega
      go_upto_region 5 with (go_at_call 4; refine (InputsR_calls (k : Int) (by omega) (by omega)).mono ?_; rintro e w2 ⟨rfl, u2⟩; have HU2 := Lib.hid (HU.out.step u2); clear u2)
      obtain ⟨nn, hnn⟩ : ∃ nn : Nat, nn = ninp k := ⟨_, rfl⟩
      have hn3 := ninp_le k
      have hn1 := ninp_pos (k := (k : Int)) (by omega) (by omega)
      have HNN := Lib.hid hnn
      rw [← hnn] at hn3 hn1 ⊢
      clear hnn
      go_wp2_with fail
      go_loopw [7] (fun i wr => ∃ m : Nat, i = .int .i64 m ∧ m ≤ 8 ∧ Upd [] w2 wr) (fun i _ => 8 - (intOf i).toNat)
      case atStart => exact ⟨0, rfl, Nat.zero_le _, Upd.refl _ _⟩
      case round =>
        obtain ⟨wo, rfl⟩ : ∃ wk : World, wk = wr := ⟨_, rfl⟩
        obtain ⟨m, rfl, hm8, hu⟩ := hrel
        by_cases hlm : m < 8
        · have HM := Lib.hid hu
          clear hu
          have hlm' : (m : Int) < 8 := by omega
          go_wp2_with fail
          go_loopw [8, 9, 10] (fun o p i wr => ∃ v : Nat, i = .int .i64 v ∧ v ≤ 3 ∧ OwnV wo 4 1 o v (bools (bitL m v)) wr ∧ OwnV wo 3 1 p v (ints (bis (bitL m v))) wr ∧ (∀ g, o.ownBlock = some g → p.ownBlock ≠ some g) ∧ Upd [] wo wr) (fun _ _ i _ => 3 - (intOf i).toNat)
          case atStart => exact ⟨0, rfl, Nat.zero_le _, OwnV.nil _ _ _ _, OwnV.nil _ _ _ _, by simp [Value.ownBlock], Upd.refl _ _⟩
          case round =>
            obtain ⟨v, rfl, hv, hO, hP, hap, hu⟩ := hrel
            by_cases hlv : v < 3
            · have hq0 := shr_lo (show 0 ≤ (m : Int) by omega) v
              have hq1 := shr_hi (show 0 ≤ (m : Int) by omega) v
              have HS := Lib.hid (And.intro (bitL_snoc m v) (bi_bit (m : Int) v hq0))
              have HO := Lib.hid (And.intro hO (And.intro hP (And.intro hap hu)))
              obtain ⟨ao, co, rfl, _, _⟩ := hO.sl.val
              obtain ⟨ap, cp, rfl, _, _⟩ := hP.sl.val
              clear hO hP hap hu
              go_upto_region 14 with (refine wpList_push rfl rfl _ _ _ _ rfl rfl rfl 4 1 1 _ Try.underlying23 infoBool rfl (by decide) (by decide) (.bool _) [.bool _] rfl rfl rfl (by simp [Value.oneCell']) _ _ _ HO.out.1.row rfl rfl (by unfold maxLen; omega) (by omega) ?_; intro g4 cap4 w4 o4 u4 k4)
              have N1 := HO.out.1.push HO.out.2.2.2.size o4 k4
              have hz := HO.out.2.2.2.size
              have U4 := HO.out.2.2.2.fresh u4 (fun q hq => .inr (HO.out.1.fresh q (by simpa using hq)))
              have P4 := HO.out.2.1.upd u4 (fun q hq h => by simp only [Option.mem_toList] at hq; exact HO.out.2.2.1 q hq h)
              have hg4 : g4 < w4.heap.size := (o4.lt g4 rfl).2
              have hapl := HO.out.2.1.lt
              have hap4 : ∀ q, (Value.slice ap v cp).ownBlock = some q → q ≠ g4 := fun q hq he => by
                subst he
                rcases k4 with k4 | k4
                · exact HO.out.2.2.1 _ k4 hq
                · have := hapl _ hq; omega
              have H4 := Lib.hid (And.intro N1 (And.intro P4 (And.intro U4 (And.intro hg4 hap4))))
              clear N1 P4 U4 hg4 hap4 hapl o4 u4 k4 HO
              go_wp2_with (refine wpList_push rfl rfl _ _ _ _ rfl rfl rfl 3 1 8 _ Try.underlying24 infoInt rfl (by decide) (by decide) (.int .i64 _) [.int .i64 _] rfl rfl rfl (ints_one [_]) _ _ _ H4.out.2.1.row rfl rfl (by unfold maxLen; omega) (by omega) ?_; intro g5 cap5 w5 o5 u5 k5)
              have N5 := H4.out.2.1.push H4.out.2.2.1.size o5 k5
              have U5 := H4.out.2.2.1.fresh u5 (fun q hq => .inr (H4.out.2.1.fresh q (by simpa using hq)))
              have O5 := H4.out.1.upd u5 (fun q hq h => by
                simp only [Option.mem_toList] at hq
                simp only [Value.ownBlock, Option.some.injEq] at h
                exact H4.out.2.2.2.2 q hq h.symm)
              refine ⟨⟨v + 1, by go_num, by omega, ?_, ?_, ?_, U5⟩, by simp [intOf]; omega⟩
              · rw [HS.out.1]; simpa [bools, bit] using O5
              · rw [HS.out.1, bis_snoc, ← HS.out.2, ints_append]; exact N5
              · intro q hq h
                simp only [Value.ownBlock, Option.some.injEq] at hq h
                rcases k5 with k5 | k5
                · exact H4.out.2.2.2.2 g5 k5 (by omega)
                · have := H4.out.2.2.2.1; omega
            · have hv3 : v = 3 := by omega
              subst hv3
              rw [show ((3 : Nat) : Int) = 3 from rfl]
              obtain ⟨b0, b1, b2, hbl⟩ : ∃ b0 b1 b2, bitL (m : Int) 3 = [b0, b1, b2] := ⟨_, _, _, rfl⟩
              rw [hbl] at hO hP
              have SO := hO.sl
              have SP := hP.sl
              obtain ⟨ao, co, rfl, hco1, hco2, _, hoc⟩ := id hO.sl.val
              obtain ⟨ap, cp, rfl, hcp1, hcp2, _, hpc⟩ := id hP.sl.val
              unfold maxLen at hco2 hcp2
              obtain ⟨go, oo, rfl, kO⟩ := hoc.resolve_left (by omega)
              obtain ⟨gp, op, rfl, kP⟩ := hpc.resolve_left (by omega)
              have eo0 : wr.cell? ⟨go, oo, none⟩ = some (.bool b0) := kO 0 _ rfl
              have eo1 : wr.cell? ⟨go, oo + 1, none⟩ = some (.bool b1) := kO 1 _ rfl
              have eo2 : wr.cell? ⟨go, oo + 2, none⟩ = some (.bool b2) := kO 2 _ rfl
              have ep0 : wr.cell? ⟨gp, op, none⟩ = some (.int .i64 (bi b0)) := kP 0 _ rfl
              have ep1 : wr.cell? ⟨gp, op + 1, none⟩ = some (.int .i64 (bi b1)) := kP 1 _ rfl
              have ep2 : wr.cell? ⟨gp, op + 2, none⟩ = some (.int .i64 (bi b2)) := kP 2 _ rfl
              have HE := Lib.hid (And.intro eo0 (And.intro eo1 (And.intro eo2 (And.intro ep0 (And.intro ep1 ep2)))))
              have HB := Lib.hid (And.intro SO (And.intro SP (HM.out.step hu)))
              clear hO hP hap hu SO SP kO kP hoc hpc hbl eo0 eo1 eo2 ep0 ep1 ep2
              have htl : ([b0, b1, b2].take nn).length = nn := by rw [List.length_take]; simp only [List.length_cons, List.length_nil]; omega
              have hvs := SL_upto HB.out.1 hn3
              rw [bools_take] at hvs
              have hvs' : SL wr 1 (sliced (some ⟨go, oo, none⟩) 0 nn co 1) ([b0, b1, b2].take nn).length (bools ([b0, b1, b2].take nn)) := by rw [htl]; exact hvs
              have HV := Lib.hid (Value_calls (k := (k : Int)) hvs')
              have hvok : vOk (k : Int) ([b0, b1, b2].take nn).length = true := by unfold vOk kOk; rw [htl, HNN.out]; simp; omega
              have HVO := Lib.hid hvok
              clear hvs hvs' hvok
              go_wp2_with fail
              refine HV.out.mono ?_
              rintro e w6 ⟨rfl, u6⟩
              rw [HVO.out, Bool.true_and, if_pos rfl]
              have hps := SL_upto (HB.out.2.1.upd u6 (by simp)) hn3
              rw [ints_take, bis_take] at hps
              have hps' : SL w6 1 (sliced (some ⟨gp, op, none⟩) 0 nn cp 1) ([b0, b1, b2].take nn).length (ints (bis ([b0, b1, b2].take nn))) := by rw [htl]; exact hps
              have HR := Lib.hid (RVal_calls (k := (k : Int)) hps' (by omega) (by omega) (by rw [htl]; exact HNN.out))
              have H6 := Lib.hid u6
              clear hps hps' u6 HV HVO htl
              generalize hvx : gVal (k : Int) ([b0, b1, b2].take nn) = vx at *
              have HVX := Lib.hid hvx
              clear hvx
              go_wp2_with fail
              refine HR.out.mono ?_
              rintro e w7 ⟨rfl, u7⟩
              have H7 := Lib.hid (H6.out.step u7)
              clear u7 HR H6
              have hbx : (bi vx == 1) = vx := by cases vx <;> rfl
              have hbx2 : (vx != vx) = false := by cases vx <;> rfl
              clear K2 K3
              rename_i x1 x2 x3 x4 x5 x6 x7 x8 x9 x10 x11 x12 x13 x14 x15 x16 x17 x18 x19 x20 x21 x22 x23 x24 x25 x26 x27 x28 x29 x30 x31 x32 x33 x34 x35 x36 x37 x38 x39 x40 x41 x42 x43 x44 x45 x46 x47 x48 x49 x50 x51 x52 x53 x54 x55 x56 x57 x58 x59 x60 x61 x62 x63 x64 x65 x66 x67 x68 x69 x70 x71 x72 x73 x74 x75 x76 x77 x78 x79 x80 x81 x82 x83 x84 x85 x86 x87 x88 x89 x90 x91 x92 x93 x94 x95 x96 x97 x98 x99 x100 x101 x102 x103 x104 x105 x106 x107 x108 x109 x110 x111 x112 x113 x114 x115 x116 x117 x118 x119 x120 x121 x122 x123 x124 x125 x126 x127 x128 x129 x130 x131 x132 x133 x134 x135 x136 x137 x138 x139 x140 x141 x142 x143 x144 x145 x146 x147 x148 x149 x150 x151 x152 x153 x154 x155 x156 x157 x158 x159 x160 x161 x162 x163 x164 x165 x166 x167 x168 x169 x170 x171 x172 x173 x174 x175 x176 x177 x178 x179 x180 x181 x182 x183 x184 x185 x186 x187 x188 x189 x190 x191 x192 x193 x194 x195 x196 x197 x198 x199 x200 x201 x202 x203 x204 x205 x206 x207 x208 x209 x210 x211 x212 x213 x214 x215 x216 x217 x218 x219 x220 x221 x222 x223 x224 x225 x226 x227 x228 x229 x230 x231 x232 x233 x234 x235 x236 x237 x238 x239 x240 x241 x242 x243 x244 x245 x246 x247 x248 x249 x250 x251 x252 x253 x254 x255 x256 x257 x258 x259 x260 x261 x262 x263 x264 x265 x266 x267 x268 x269 x270 x271 x272 x273 x274 x275 x276 x277 x278 x279 x280 x281 x282 x283 x284 x285 x286 x287 x288 x289 x290 x291 x292 x293 x294 x295 x296 x297 x298 x299 x300 x301 x302 x303
              revert x1 x2 x3 x4 u6 u7 x5 x6 x7 x8 x9 x10 x11 x12 x13 x14 x15 x16 x17 x18 x19 x20 x21 x22 x23 x24 x25 x26 x27 x28 x29 x30 x31 u35 u36 u37 u38 u43 u44 u45 u46 u47 u48 x32 x33 x34 x35 x36 x37 x38 x39 x40 x41 x42 x43 x44 x45 x46 x47 x48 x49 x50 x51 x52 x53 x54 x55 x56 x57 x58 x59 x60 x61 x62 x63 x64 x65 x66 x67 x68 x69 x70 x71 x72 x73 x74 x75 x76 x77 x78 x79 x80 x81 x82 x83 x84 x85 x86 x87 x88 x89 x90 x91 x92 x93 x94 x95 x96 x97 x98 x99 x100 x101 x102 x103 x104 x105 x106 x107 x108 x109 x110 x111 x112 x113 x114 x115 x116 x117 x118 x119 x120 x121 x122 x123 x124 x125 x126 x127 x128 x129 x130 x131 x132 x133 x134 x135 x136 x137 x138 x139 x140 x141 x142 x143 x144 x145 x146 x147 x148 x149 x150 x151 x152 x153 x154 x155 x156 x157 x158 x159 x160 x161 x162 x163 x164 x165 x166 x167 x168 x169 x170 x171 x172 x173 x174 x175 x176 x177 x178 x179 x180 x181 x182 x183 x184 x185 x186 x187 x188 x189 x190 x191 x192 x193 x194 x195 x196 x197 x198 x199 x200 x201 x202 x203 x204 x205 x206 x207 x208 x209 x210 x211 x212 x213 x214 x215 x216 x217 x218 x219 x220 x221 x222 x223 x224 x225 x226 x227 x228 x229 x230 x231 x232 x233 x234 x235 x236 x237 x238 x239 x240 x241 x242 x243 x244 x245 x246 x247 x248 x249 x250 x251 x252 x253 x254 x255 x256 x257 x258 x259 x260 x261 x262 u280 u281 u282 u283 u284 u285 u286 u287 u288 u289 u290 u291 u292 u293 u294 u295 u296 u297 u298 u299 u300 u301 wk k hk7 hlk HU hlk' x263 x264 x265 w2 HU2 x266 x267 nn hn3 hn1 HNN u4 u8 u9 u10 u11 u12 u13 u14 u15 u16 u17 u18 u19 u20 u21 u22 u23 u24 u25 u26 u27 u28 u29 u30 u31 u32 u33 u34 u49 u50 u51 u52 x268 x269 x270 x271 x272 x273 x274 x275 x276 x277 x278 x279 x280 x281 x282 x283 x284 x285 x286 x287 x288 u74 u75 u76 u77 u78 u79 u80 u81 u82 u83 u84 u85 u86 u87 u88 u89 u90 u91 u92 u93 u94 u95 u96 u97 u98 u99 u100 u101 u102 u103 u104 u105 u106 u107 u108 u109 u110 u111 u112 u113 u114 u115 u116 u117 u118 u119 u120 u121 u122 u123 u124 u125 u126 u127 u128 u129 u130 u131 u132 u133 u134 u135 u136 u137 u138 u139 u140 u141 u142 u143 u144 u145 u146 u147 u148 u149 u150 u151 u152 u153 u154 u155 u156 u157 u158 u159 u160 u161 u162 u163 u164 u165 u166 u167 u168 u169 u170 u171 u172 u173 u174 u175 u176 u177 u178 u179 u180 u181 u182 u183 u184 u185 u186 u187 u188 u189 u190 u191 u192 u193 u194 u195 u196 u197 u198 u199 u200 u201 u202 u203 u204 u205 u206 u207 u208 u209 u210 u211 u212 u213 u214 u215 u216 u217 u218 u219 u220 u221 u222 u223 u224 u225 u226 u227 u228 u229 u230 u231 u232 u233 u234 u235 u236 u237 u238 u239 u240 u241 u242 u243 u244 u245 u246 u247 u248 u249 u250 u251 u252 u253 u254 u255 u256 u257 u258 u259 u260 u261 u262 u263 u264 u265 u266 u267 u268 u269 u270 u271 u272 u273 u274 u275 u276 u277 u278 u279 wo m hm8 hlm HM hlm' x289 x290 x291 x292 wr u53 u54 u55 u56 u57 u58 u59 u60 u61 u62 u63 u64 u65 u66 u67 u68 u69 u70 u71 u72 u73 hv hlv b0 b1 b2 co hco1 hco2 cp hcp1 hcp2 go oo x293 gp op x294 HE HB x295 x296 x297 w6 vx HVX x298 x299 x300 x301 x302 x303 w7 H7 hbx hbx2
              exact K1.out
        · clear K1 K3
          rename_i x1 x2 x3 x4 x5 x6 x7 x8 x9 x10 x11 x12 x13 x14 x15 x16 x17 x18 x19 x20 x21 x22 x23 x24 x25 x26 x27 x28 x29 x30 x31 x32 x33 x34 x35 x36 x37 x38 x39 x40 x41 x42 x43 x44 x45 x46 x47 x48 x49 x50 x51 x52 x53 x54 x55 x56 x57 x58 x59 x60 x61 x62 x63 x64 x65 x66 x67 x68 x69 x70 x71 x72 x73 x74 x75 x76 x77 x78 x79 x80 x81 x82 x83 x84 x85 x86 x87 x88 x89 x90 x91 x92 x93 x94 x95 x96 x97 x98 x99 x100 x101 x102 x103 x104 x105 x106 x107 x108 x109 x110 x111 x112 x113 x114 x115 x116 x117 x118 x119 x120 x121 x122 x123 x124 x125 x126 x127 x128 x129 x130 x131 x132 x133 x134 x135 x136 x137 x138 x139 x140 x141 x142 x143 x144 x145 x146 x147 x148 x149 x150 x151 x152 x153 x154 x155 x156 x157 x158 x159 x160 x161 x162 x163 x164 x165 x166 x167 x168 x169 x170 x171 x172 x173 x174 x175 x176 x177 x178 x179 x180 x181 x182 x183 x184 x185 x186 x187 x188 x189 x190 x191 x192 x193 x194 x195 x196 x197 x198 x199 x200 x201 x202 x203 x204 x205 x206 x207 x208 x209 x210 x211 x212 x213 x214 x215 x216 x217 x218 x219 x220 x221 x222 x223 x224 x225 x226 x227 x228 x229 x230 x231 x232 x233 x234 x235 x236 x237 x238 x239 x240 x241 x242 x243 x244 x245 x246 x247 x248 x249 x250 x251 x252 x253 x254 x255 x256 x257 x258 x259 x260 x261 x262 x263 x264 x265 x266 x267
          revert x1 x2 x3 x4 u6 u7 x5 x6 x7 x8 x9 x10 x11 x12 x13 x14 x15 x16 x17 x18 x19 x20 x21 x22 x23 x24 x25 x26 x27 x28 x29 x30 x31 u35 u36 u37 u38 u43 u44 u45 u46 u47 u48 x32 x33 x34 x35 x36 x37 x38 x39 x40 x41 x42 x43 x44 x45 x46 x47 x48 x49 x50 x51 x52 x53 x54 x55 x56 x57 x58 x59 x60 x61 x62 x63 x64 x65 x66 x67 x68 x69 x70 x71 x72 x73 x74 x75 x76 x77 x78 x79 x80 x81 x82 x83 x84 x85 x86 x87 x88 x89 x90 x91 x92 x93 x94 x95 x96 x97 x98 x99 x100 x101 x102 x103 x104 x105 x106 x107 x108 x109 x110 x111 x112 x113 x114 x115 x116 x117 x118 x119 x120 x121 x122 x123 x124 x125 x126 x127 x128 x129 x130 x131 x132 x133 x134 x135 x136 x137 x138 x139 x140 x141 x142 x143 x144 x145 x146 x147 x148 x149 x150 x151 x152 x153 x154 x155 x156 x157 x158 x159 x160 x161 x162 x163 x164 x165 x166 x167 x168 x169 x170 x171 x172 x173 x174 x175 x176 x177 x178 x179 x180 x181 x182 x183 x184 x185 x186 x187 x188 x189 x190 x191 x192 x193 x194 x195 x196 x197 x198 x199 x200 x201 x202 x203 x204 x205 x206 x207 x208 x209 x210 x211 x212 x213 x214 x215 x216 x217 x218 x219 x220 x221 x222 x223 x224 x225 x226 x227 x228 x229 x230 x231 x232 x233 x234 x235 x236 x237 x238 x239 x240 x241 x242 x243 x244 x245 x246 x247 x248 x249 x250 x251 x252 x253 x254 x255 x256 x257 x258 x259 x260 x261 x262 u280 u281 u282 u283 u284 u285 u286 u287 u288 u289 u290 u291 u292 u293 u294 u295 u296 u297 u298 u299 u300 u301 wk k hk7 hlk HU hlk' x263 x264 x265 w2 HU2 x266 x267 nn hn3 hn1 HNN u4 u8 u9 u10 u11 u12 u13 u14 u15 u16 u17 u18 u19 u20 u21 u22 u23 u24 u25 u26 u27 u28 u29 u30 u31 u32 u33 u34 u49 u50 u51 u52 u53 u54 u55 u56 u57 u58 u59 u60 u61 u62 u63 u64 u65 u66 u67 u68 u69 u70 u71 u72 u73 u74 u75 u76 u77 u78 u79 u80 u81 u82 u83 u84 u85 u86 u87 u88 u89 u90 u91 u92 u93 u94 u95 u96 u97 u98 u99 u100 u101 u102 u103 u104 u105 u106 u107 u108 u109 u110 u111 u112 u113 u114 u115 u116 u117 u118 u119 u120 u121 u122 u123 u124 u125 u126 u127 u128 u129 u130 u131 u132 u133 u134 u135 u136 u137 u138 u139 u140 u141 u142 u143 u144 u145 u146 u147 u148 u149 u150 u151 u152 u153 u154 u155 u156 u157 u158 u159 u160 u161 u162 u163 u164 u165 u166 u167 u168 u169 u170 u171 u172 u173 u174 u175 u176 u177 u178 u179 u180 u181 u182 u183 u184 u185 u186 u187 u188 u189 u190 u191 u192 u193 u194 u195 u196 u197 u198 u199 u200 u201 u202 u203 u204 u205 u206 u207 u208 u209 u210 u211 u212 u213 u214 u215 u216 u217 u218 u219 u220 u221 u222 u223 u224 u225 u226 u227 u228 u229 u230 u231 u232 u233 u234 u235 u236 u237 u238 u239 u240 u241 u242 u243 u244 u245 u246 u247 u248 u249 u250 u251 u252 u253 u254 u255 u256 u257 u258 u259 u260 u261 u262 u263 u264 u265 u266 u267 u268 u269 u270 u271 u272 u273 u274 u275 u276 u277 u278 u279 wo m hm8 hu hlm
          exact K2.out
    · clear K1 K2
      rename_i x1 x2 x3
      revert x1 x2 x3 u4 u6 u7 u8 u9 u10 u11 u12 u13 u14 u15 u16 u17 u18 u19 u20 u21 u22 u23 u24 u25 u26 u27 u28 u29 u30 u31 u32 u33 u34 u35 u36 u37 u38 u43 u44 u45 u46 u47 u48 u49 u50 u51 u52 u53 u54 u55 u56 u57 u58 u59 u60 u61 u62 u63 u64 u65 u66 u67 u68 u69 u70 u71 u72 u73 u74 u75 u76 u77 u78 u79 u80 u81 u82 u83 u84 u85 u86 u87 u88 u89 u90 u91 u92 u93 u94 u95 u96 u97 u98 u99 u100 u101 u102 u103 u104 u105 u106 u107 u108 u109 u110 u111 u112 u113 u114 u115 u116 u117 u118 u119 u120 u121 u122 u123 u124 u125 u126 u127 u128 u129 u130 u131 u132 u133 u134 u135 u136 u137 u138 u139 u140 u141 u142 u143 u144 u145 u146 u147 u148 u149 u150 u151 u152 u153 u154 u155 u156 u157 u158 u159 u160 u161 u162 u163 u164 u165 u166 u167 u168 u169 u170 u171 u172 u173 u174 u175 u176 u177 u178 u179 u180 u181 u182 u183 u184 u185 u186 u187 u188 u189 u190 u191 u192 u193 u194 u195 u196 u197 u198 u199 u200 u201 u202 u203 u204 u205 u206 u207 u208 u209 u210 u211 u212 u213 u214 u215 u216 u217 u218 u219 u220 u221 u222 u223 u224 u225 u226 u227 u228 u229 u230 u231 u232 u233 u234 u235 u236 u237 u238 u239 u240 u241 u242 u243 u244 u245 u246 u247 u248 u249 u250 u251 u252 u253 u254 u255 u256 u257 u258 u259 u260 u261 u262 u263 u264 u265 u266 u267 u268 u269 u270 u271 u272 u273 u274 u275 u276 u277 u278 u279 u280 u281 u282 u283 u284 u285 u286 u287 u288 u289 u290 u291 u292 u293 u294 u295 u296 u297 u298 u299 u300 u301 wk k hk7 hu hlk
      exact K3.out)
end Gate
end Go.Proofs.Ytjflbhkhnmodaaa
