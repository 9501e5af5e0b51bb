/- Walks through the reference of package trim: put, Premises. Conditions: none. -/
import Derived.Test.YtnmfihgdedifoaaTrimK
set_option linter.unusedVariables false
set_option linter.unusedSimpArgs false
set_option linter.unusedSectionVars false
open Go.RowKit
namespace Go.Proofs.Ytnmfihgdedifoaa
open L
namespace Trim
/-- What put gives. -/
def PutR (l : List ByteArray) (s : ByteArray) (R : List ByteArray) : Prop := ∃ k, k ≤ l.length ∧ (∀ x ∈ l.take k, x.data.toList < s.data.toList) ∧
  ((l[k]? = some s ∧ R = l) ∨ ((∀ x, l[k]? = some x → ¬ x.data.toList < s.data.toList ∧ x ≠ s) ∧ R = l.take k ++ [s] ++ l.drop k))
theorem putR_sorted {l R : List ByteArray} {s : ByteArray} (hl : l.Pairwise (fun x y => x.data.toList < y.data.toList)) (h : PutR l s R) : R.Pairwise (fun x y => x.data.toList < y.data.toList) ∧ ∀ x, x ∈ R ↔ x ∈ l ∨ x = s := by
  obtain ⟨k, hk, hlt, ⟨h1, rfl⟩ | ⟨h1, rfl⟩⟩ := h
  · exact ⟨hl, fun x => ⟨.inl, fun h => h.elim id (fun e => e ▸ List.mem_of_getElem? h1)⟩⟩
  · have hdt := List.take_append_drop k l
    have hp : (l.take k ++ l.drop k).Pairwise (fun x y => x.data.toList < y.data.toList) := by rw [hdt]; exact hl
    rw [List.pairwise_append] at hp
    have hgt : ∀ y ∈ l.drop k, s.data.toList < y.data.toList := by
      cases hd : l.drop k with
      | nil => intro y hy; cases hy
      | cons z m =>
        have hz : l[k]? = some z := by
          have := congrArg (fun q : List ByteArray => q[0]?) hd
          simpa using this
        have h2 := h1 z hz
        have h3 : s.data.toList < z.data.toList := by
          by_cases e : s.data.toList < z.data.toList
          · exact e
          · have h4 : s.data.toList = z.data.toList := List.le_antisymm (List.not_lt.1 h2.1) (List.not_lt.1 e)
            refine absurd ?_ h2.2
            have h5 : (⟨z.data.toList.toArray⟩ : ByteArray) = ⟨s.data.toList.toArray⟩ := by rw [h4]
            rwa [baT, baT] at h5
        intro y hy
        rcases List.mem_cons.1 hy with rfl | hy
        · exact h3
        · have h6 := hp.2.1
          rw [hd, List.pairwise_cons] at h6
          exact List.lt_trans h3 (h6.1 y hy)
    refine ⟨?_, fun x => ?_⟩
    · rw [List.append_assoc, List.pairwise_append]
      refine ⟨hp.1, ?_, fun a ha b hb => ?_⟩
      · rw [List.singleton_append, List.pairwise_cons]
        exact ⟨hgt, hp.2.1⟩
      · rw [List.singleton_append, List.mem_cons] at hb
        rcases hb with rfl | hb
        · exact hlt a ha
        · exact hp.2.2 a ha b hb
    · rw [List.mem_append, List.mem_append, List.mem_singleton]
      have : x ∈ l ↔ x ∈ l.take k ∨ x ∈ l.drop k := by rw [← List.mem_append, hdt]
      rw [this]
      constructor
      · rintro ((h | h) | h)
        · exact .inl (.inl h)
        · exact .inr h
        · exact .inl (.inr h)
      · rintro ((h | h) | h)
        · exact .inl (.inl h)
        · exact .inr h
        · exact .inl (.inr h)
theorem strs_take (l : List ByteArray) (k : Nat) : (strs l).take k = strs (l.take k) := by simp [strs, List.map_take]
theorem strs_drop (l : List ByteArray) (k : Nat) : (strs l).drop k = strs (l.drop k) := by simp [strs, List.map_drop]
theorem SLs_upto {w : World} {a : Option Addr} {n m cap : Nat} {cs : List Value} (h : SL w 1 (.slice a n cap) n cs) (hm : m ≤ n) : SL w 1 (sliced a 0 m cap 1) m (cs.take m) := by
  unfold sliced
  obtain ⟨h1, a', cap', he, h2, h3, h5, h4⟩ := h
  cases he
  refine ⟨by rw [List.length_take]; omega, _, _, rfl, by omega, by omega, ?_, ?_⟩
  · intro hn
    split at hn
    · omega
    · cases a with
      | none => have := h5 rfl; omega
      | some x => cases hn
  · rcases h4 with h4 | ⟨b, off, rfl, h4⟩
    · left; omega
    · by_cases hc : cap = 0
      · left; omega
      · right
        rw [if_neg hc]
        refine ⟨b, off, by simp [addr_add], fun j u hj => h4 j u ?_⟩
        rw [List.getElem?_take] at hj
        split at hj
        · exact hj
        · cases hj
theorem OwnV.appS {w0 w w' : World} {e : TypeId} {k : Nat} {v v' : Value} {n m : Nat} {xs ys : List Value} (h : OwnV w0 e k v n xs w) (hz : w0.heap.size ≤ w.heap.size) (o : w'.ownsRow 0 e k v' m ys) (hk : v'.ownBlock = v.ownBlock ∨ v'.ownBlock = some w.heap.size) : OwnV w0 e k v' m ys w' :=
  ⟨o, fun g hg => by
    rcases hk with hk | hk
    · exact h.fresh g (by rw [← hk]; exact hg)
    · rw [hk] at hg; cases hg; exact hz⟩
theorem OwnV.nm {w0 w : World} {v : Value} {l : List ByteArray} (h : OwnV w0 9 1 v l.length (strs l) w) : NmL w v l := h.row
theorem less_true {x s : ByteArray} (h : x.data.toList < s.data.toList) : Op.bytesLess x.toList s.toList = true := by
  rw [bytesLess_eq, ByteArray.toList_eq, ByteArray.toList_eq]; exact decide_eq_true h
theorem less_false {x s : ByteArray} (h : ¬ x.data.toList < s.data.toList) : Op.bytesLess x.toList s.toList = false := by
  rw [bytesLess_eq, ByteArray.toList_eq, ByteArray.toList_eq]; exact decide_eq_false h
attribute [-go_sem] sliced
section
variable {w : World}
theorem strs_one (l : List ByteArray) : ∀ u ∈ strs l, u.oneCell' = true := by
  intro u hu
  obtain ⟨x, _, rfl⟩ := List.mem_map.1 hu
  simp [Value.oneCell']
theorem NmL.sl' {v : Value} {l : List ByteArray} (h : NmL w v l) : SL w 1 v l.length (strs l) := SL.of_owns h
theorem put_upd (w : World) {w6 w7 : World} {a6 : Option Addr} {k c6 g7 : Nat} (k6 : (Value.slice a6 k c6).ownBlock = (Value.slice none 0 0).ownBlock ∨ (Value.slice a6 k c6).ownBlock = some w.heap.size) (u6 : Upd (Value.slice none 0 0).ownBlock.toList w w6) (u7 : Upd (Value.slice a6 k c6).ownBlock.toList w6 w7) (_ : (Value.slice a6 k c6).ownBlock = some g7 ∨ w6.heap.size ≤ g7) : Upd [] w w7 :=
  (show Upd [] w w6 from u6).fresh u7 (fun j hj => .inr (by
    simp only [Option.mem_toList] at hj
    rcases k6 with k6 | k6
    · rw [k6] at hj; simp [Value.ownBlock] at hj
    · rw [k6] at hj; simp at hj; omega))
theorem put_fin {w w6 w7 w8 : World} {l : List ByteArray} {s : ByteArray} {k c6 g7 c7 c8 : Nat} {a6 a8 : Option Addr} (hk : k ≤ l.length) (k6 : (Value.slice a6 k c6).ownBlock = (Value.slice none 0 0).ownBlock ∨ (Value.slice a6 k c6).ownBlock = some w.heap.size) (u6 : Upd (Value.slice none 0 0).ownBlock.toList w w6)
    (u7 : Upd (Value.slice a6 k c6).ownBlock.toList w6 w7) (k7 : (Value.slice a6 k c6).ownBlock = some g7 ∨ w6.heap.size ≤ g7)
    (o8 : w8.ownsRow 0 9 1 (.slice a8 (k + 1 + (l.length - k)) c8) (k + 1 + (l.length - k)) (strs (l.take k) ++ [.string s] ++ strs (l.drop k))) (u8 : Upd (Value.slice (some ⟨g7, 0, none⟩) (k + 1) c7).ownBlock.toList w7 w8) :
    NmL w8 (.slice a8 (k + 1 + (l.length - k)) c8) (l.take k ++ [s] ++ l.drop k) ∧ Upd [] w w8 := by
  have U7 := put_upd w k6 u6 u7 k7
  refine ⟨?_, U7.fresh u8 (fun j hj => .inr ?_)⟩
  · unfold NmL
    have hl : (l.take k ++ [s] ++ l.drop k).length = k + 1 + (l.length - k) := by rw [List.length_append, List.length_append, List.length_take, List.length_drop, List.length_singleton]; omega
    rw [hl, strs_append, strs_append]
    exact o8
  · simp [Value.ownBlock] at hj
    subst hj
    have h6 := u6.size
    rcases k7 with k7 | k7
    · rcases k6 with k6 | k6
      · rw [k6] at k7; simp [Value.ownBlock] at k7
      · rw [k6] at k7; simp at k7; omega
    · omega
set_option maxRecDepth 100000 in
set_option maxHeartbeats 4000000 in
theorem put_calls {v : Value} {l : List ByteArray} {s : ByteArray} (h : NmL w v l) (hl : l.length ≤ 2000000) : Calls Try.prog 36 #[v, .string s] w fun e w' => ∃ (v' : Value) (R : List ByteArray), e = .returned v' ∧ NmL w' v' R ∧ PutR l s R ∧ Upd [] w w' := by
  obtain ⟨a, cap, rfl, q, r, hc⟩ := h.cells
  have HC := Lib.hid (And.intro h hc)
  clear h hc
  go_enter Try.func36, Try.ntmps36
  go_wp2_with fail
  go_loopw [5] (fun i wr => ∃ k : Nat, i = .int .i64 k ∧ k ≤ l.length ∧ (∀ x ∈ l.take k, x.data.toList < s.data.toList) ∧ wr = w) (fun i _ => l.length - (intOf i).toNat)
  case atStart => exact ⟨0, rfl, Nat.zero_le _, by simp, rfl⟩
  case round =>
    obtain ⟨k, rfl, hk, hlt, hw⟩ := hrel
    obtain rfl : w = wr := hw.symm
    have HL := Lib.hid hlt
    clear hlt
    by_cases hkl : k < l.length
    · have hki : (k : Int) < l.length := by omega
      have hg := List.getElem?_eq_getElem hkl
      obtain ⟨g, rfl, hcell⟩ := HC.out.2 k _ hg
      have HG := Lib.hid (And.intro hg (show l.take (k + 1) = l.take k ++ [l[k]] by rw [List.take_add_one, List.getElem?_eq_getElem hkl]; rfl))
      generalize l[k] = x at *
      clear hg
      by_cases hxs : x.data.toList < s.data.toList
      · have hb := less_true hxs
        have HX := Lib.hid hxs
        clear hxs
        go_wp2_with fail
        refine ⟨⟨k + 1, by go_num, by omega, ?_, trivial⟩, by simp [intOf]; omega⟩
        intro z hz
        rw [HG.out.2, List.mem_append, List.mem_singleton] at hz
        rcases hz with hz | rfl
        · exact HL.out z hz
        · exact HX.out
      · have hb := less_false hxs
        by_cases he : x = s
        · subst he
          have hq := tl_refl x
          clear hxs
          go_wp2_with fail
          go_ret
          exact ⟨_, rfl, l, HC.out.1, ⟨k, by omega, HL.out, .inl ⟨HG.out.1, rfl⟩⟩, Upd.refl _ _⟩
        · have hq := tl_ne he
          have HN := Lib.hid (And.intro hxs he)
          have hsl := HC.out.1.sl'
          have HI := Lib.hid (And.intro (show SL w 1 (sliced (some ⟨g, 0, none⟩) 0 k cap 1) k (strs (l.take k)) by rw [← strs_take]; exact SLs_upto hsl hk) (And.intro (show SL w 1 (sliced (some ⟨g, 0, none⟩) k l.length cap 1) (l.length - k) (strs (l.drop k)) by rw [← strs_drop]; exact SL.from_ hsl hk) trivial))
          clear hxs he hsl
          go_wp2_with (first | (refine wpList_appS rfl _ _ _ rfl 9 1 16 _ Try.underlying35 infoStr rfl (by decide) (.slice none 0 0) 0 [] rfl (World.ownsRow_nil _ _ _ _) (sliced (some ⟨g, 0, none⟩) 0 k cap 1) k (strs (l.take k)) rfl HI.out.1 (strs_one _) (by unfold maxLen; omega) (by omega) ?_; intro a6 c6 w6 o6 u6 k6; rw [Nat.zero_add] at o6 k6 ⊢; rw [List.nil_append] at o6) | (refine wpList_push rfl rfl _ _ _ _ rfl rfl rfl 9 1 16 _ Try.underlying35 infoStr rfl (by decide) (by decide) (.string s) [.string s] rfl rfl rfl (by simp [Value.oneCell']) _ _ _ o6 rfl rfl (by unfold maxLen; omega) (by omega) ?_; intro g7 c7 w7 o7 u7 k7) | (refine wpList_appS rfl _ _ _ rfl 9 1 16 _ Try.underlying35 infoStr rfl (by decide) (.slice (some ⟨g7, 0, none⟩) (k + 1) c7) (k + 1) _ rfl o7 (sliced (some ⟨g, 0, none⟩) k l.length cap 1) (l.length - k) (strs (l.drop k)) rfl ((HI.out.2.1.upd (put_upd w k6 u6 u7 k7) (by simp))) (strs_one _) (by unfold maxLen; omega) (by omega) ?_; intro a8 c8 w8 o8 u8 k8))
          go_ret
          have hF := put_fin hk k6 u6 u7 k7 o8 u8
          exact ⟨_, rfl, _, hF.1, ⟨k, hk, HL.out, .inr ⟨fun z hz => by rw [HG.out.1] at hz; cases hz; exact HN.out, rfl⟩⟩, hF.2⟩
    · have hki : ¬ (k : Int) < l.length := by omega
      have hkn : k = l.length := by omega
      have HKN := Lib.hid hkn
      clear hkn
      have hsl := HC.out.1.sl'
      have HI := Lib.hid (And.intro (show SL w 1 (sliced a 0 k cap 1) k (strs (l.take k)) by rw [← strs_take]; exact SLs_upto hsl hk) (And.intro (show SL w 1 (sliced a k l.length cap 1) (l.length - k) (strs (l.drop k)) by rw [← strs_drop]; exact SL.from_ hsl hk) trivial))
      clear hsl
      go_wp2_with (first | (refine wpList_appS rfl _ _ _ rfl 9 1 16 _ Try.underlying35 infoStr rfl (by decide) (.slice none 0 0) 0 [] rfl (World.ownsRow_nil _ _ _ _) (sliced a 0 k cap 1) k (strs (l.take k)) rfl HI.out.1 (strs_one _) (by unfold maxLen; omega) (by omega) ?_; intro a6 c6 w6 o6 u6 k6; rw [Nat.zero_add] at o6 k6 ⊢; rw [List.nil_append] at o6) | (refine wpList_push rfl rfl _ _ _ _ rfl rfl rfl 9 1 16 _ Try.underlying35 infoStr rfl (by decide) (by decide) (.string s) [.string s] rfl rfl rfl (by simp [Value.oneCell']) _ _ _ o6 rfl rfl (by unfold maxLen; omega) (by omega) ?_; intro g7 c7 w7 o7 u7 k7) | (refine wpList_appS rfl _ _ _ rfl 9 1 16 _ Try.underlying35 infoStr rfl (by decide) (.slice (some ⟨g7, 0, none⟩) (k + 1) c7) (k + 1) _ rfl o7 (sliced a k l.length cap 1) (l.length - k) (strs (l.drop k)) rfl ((HI.out.2.1.upd (put_upd w k6 u6 u7 k7) (by simp))) (strs_one _) (by unfold maxLen; omega) (by omega) ?_; intro a8 c8 w8 o8 u8 k8))
      go_ret
      have hF := put_fin hk k6 u6 u7 k7 o8 u8
      exact ⟨_, rfl, _, hF.1, ⟨k, hk, HL.out, .inr ⟨fun z hz => by have := (List.getElem?_eq_some_iff.1 hz).1; have := HKN.out; omega, rfl⟩⟩, hF.2⟩
theorem putR_length {l R : List ByteArray} {s : ByteArray} (h : PutR l s R) : R.length ≤ l.length + 1 := by
  obtain ⟨k, hk, _, ⟨_, rfl⟩ | ⟨_, rfl⟩⟩ := h
  · omega
  · rw [List.length_append, List.length_append, List.length_take, List.length_drop, List.length_singleton]; omega
/-- The marks below a place. -/
def lowOf (u : Nat → Bool) (k : Nat) : Nat → Bool := fun j => u j && decide (j < k)
theorem asserted_low {l : List StepD} {u : Nat → Bool} {k : Nat} {st : StepD} (hs : l[k]? = some st) (x : ByteArray) : asserted l (lowOf u (k + 1)) x ↔ asserted l (lowOf u k) x ∨ (u k = true ∧ st.kind = 1 ∧ st.name = x) := by
  unfold asserted lowOf
  constructor
  · rintro ⟨j, s, h1, h2, h3⟩
    rw [Bool.and_eq_true, decide_eq_true_eq] at h2
    by_cases hj : j = k
    · subst hj; rw [hs] at h1; cases h1; exact .inr ⟨h2.1, h3⟩
    · exact .inl ⟨j, s, h1, by rw [Bool.and_eq_true, decide_eq_true_eq]; exact ⟨h2.1, by omega⟩, h3⟩
  · rintro (⟨j, s, h1, h2, h3⟩ | ⟨h2, h3⟩)
    · rw [Bool.and_eq_true, decide_eq_true_eq] at h2
      exact ⟨j, s, h1, by rw [Bool.and_eq_true, decide_eq_true_eq]; exact ⟨h2.1, by omega⟩, h3⟩
    · exact ⟨k, st, hs, by rw [Bool.and_eq_true, decide_eq_true_eq]; exact ⟨h2, by omega⟩, h3⟩
theorem PremOf.same {l : List StepD} {u : Nat → Bool} {k : Nat} {st : StepD} {R : List ByteArray} (hs : l[k]? = some st) (h : PremOf l (lowOf u k) R) (hn : ¬ (u k = true ∧ st.kind = 1)) : PremOf l (lowOf u (k + 1)) R :=
  ⟨h.1, fun x => by rw [asserted_low hs, h.2 x]; exact ⟨.inl, fun h => h.resolve_right (fun h => hn ⟨h.1, h.2.1⟩)⟩⟩
theorem PremOf.put {l : List StepD} {u : Nat → Bool} {k : Nat} {st : StepD} {R R' : List ByteArray} (hs : l[k]? = some st) (h : PremOf l (lowOf u k) R) (hu : u k = true) (hk : st.kind = 1) (hp : PutR R st.name R') : PremOf l (lowOf u (k + 1)) R' := by
  have h2 := putR_sorted h.1 hp
  refine ⟨h2.1, fun x => ?_⟩
  rw [asserted_low hs, h2.2 x, h.2 x]
  constructor
  · rintro (h | rfl)
    · exact .inl h
    · exact .inr ⟨hu, hk, rfl⟩
  · rintro (h | ⟨_, _, rfl⟩)
    · exact .inl h
    · exact .inr rfl
set_option maxRecDepth 100000 in
set_option maxHeartbeats 8000000 in
theorem RPrem_calls {v : Value} {p : PrfD} (h : PrL w v p) (hwf : Wf p) {s : Int} (hs : IsI64 s) : Calls Try.prog 15 #[v, .int .i64 s] w fun e w' => ∃ (v' : Value) (R : List ByteArray), e = .returned v' ∧ NmL w' v' R ∧ PremOf p.steps (down p.steps p.steps.length (fun k => decide ((k : Int) = s))) R ∧ Upd [] w w' := by
  obtain ⟨vl, vs, rfl, hL, hS⟩ := h
  obtain ⟨al, cl, rfl, ql, rl⟩ := hL.form
  obtain ⟨a2, c2, rfl, qs, rs, hat⟩ := hS.at_
  have HAT := Lib.hid hat
  have hlen := hwf.len
  have HV := Lib.hid (fun (w' : World) (u : Upd [] w w') => rests_calls (w := w') (p := p) (s := s) ⟨_, _, rfl, hL.ext u, hS.ext u⟩ hwf hs)
  clear hL hS hwf hat hs
  generalize down p.steps p.steps.length (fun k => decide ((k : Int) = s)) = u at *
  have b1 := Blk.new w [.slice al p.lemmas.length cl, .slice a2 p.steps.length c2] 30
  have u1 := (Upd.refl [] w).alloc (.cells #[.slice al p.lemmas.length cl, .slice a2 p.steps.length c2] 30)
  have c0 := b1.cell (i := 0) rfl
  have c1 := b1.cell (i := 1) rfl
  go_enter Try.func15, Try.ntmps15
  go_wp2_with (first | (go_at_call 16; (with_reducible refine (HV.out _ u1).mono ?_); rintro e w2 ⟨g, rfl, hB, hg, u3⟩))
  have U2 := u1.step u3
  have P2 := b1.upd u3 (by simp)
  have HU2 := Lib.hid (And.intro U2 (And.intro P2 hB))
  clear c0 c1 b1 u1 u3 U2 P2 hB HV
  go_loopw [6, 7] (fun o i wr => ∃ (k : Nat) (R : List ByteArray), i = .int .i64 k ∧ k ≤ p.steps.length ∧ R.length ≤ k ∧ NmL wr o R ∧ PremOf p.steps (lowOf u k) R ∧ Upd [] w2 wr) (fun _ i _ => p.steps.length - (intOf i).toNat)
  case atStart =>
    refine ⟨0, [], rfl, Nat.zero_le _, Nat.le_refl _, World.ownsRow_nil _ _ _ _, ⟨List.Pairwise.nil, fun x => ⟨fun h => absurd h (by simp), fun ⟨j, s, _, h2, _⟩ => by simp [lowOf] at h2⟩⟩, Upd.refl _ _⟩
  case round =>
    obtain ⟨wo, rfl⟩ : ∃ wo : World, wo = wr := ⟨_, rfl⟩
    obtain ⟨k, R, rfl, hk, hRk, hN, hP, hU⟩ := hrel
    obtain ⟨ao, co, rfl, _⟩ := hN.cells
    have hBk := HU2.out.2.2.upd hU (by simp)
    have hPk := HU2.out.2.1.upd hU (by simp)
    have HN := Lib.hid (And.intro hN (And.intro hP hU))
    clear hN hP hU
    by_cases hkl : k < p.steps.length
    · have hki : (k : Int) < p.steps.length := by omega
      have hs' := List.getElem?_eq_getElem hkl
      obtain ⟨g2, vp, vl, vh, rfl, hcell, hR⟩ := HAT.out k _ hs'
      generalize p.steps[k] = st at *
      have e0 := (HU2.out.1.step HN.out.2.2).some (hcell 0 _ rfl) (by simp)
      have e4 := (HU2.out.1.step HN.out.2.2).some (hcell 4 _ rfl) (by simp)
      rw [Nat.add_zero] at e0
      have c1 := hPk.cell (i := 1) rfl
      have dk := hBk.cell (i := k) (bools_get (tab_get (u := u) hkl))
      have HH := Lib.hid (And.intro hs' hBk)
      clear hcell hR hs' hBk hPk
      cases hu : u k with
      | false =>
        rw [hu] at dk
        have HP2 := Lib.hid (HN.out.2.1.same HH.out.1 (fun h => by rw [hu] at h; cases h.1))
        clear hu
        go_wp2_with fail
        exact ⟨⟨k + 1, R, by go_num, by omega, by omega, HN.out.1, HP2.out, HN.out.2.2⟩, by simp [intOf]; omega⟩
      | true =>
        rw [hu] at dk
        by_cases hk1 : st.kind = 1
        · have hb1 : (st.kind == 1) = true := by simp [hk1]
          have HC := Lib.hid (And.intro hu (And.intro hk1 (put_calls (s := st.name) HN.out.1 (by omega))))
          clear hu hk1
          go_wp2_with (go_at_call 36; (with_reducible refine HC.out.2.2.mono ?_); rintro e w4 ⟨v4, R4, rfl, hN4, hP4, u4⟩)
          have hl4 := putR_length hP4
          exact ⟨⟨k + 1, R4, by go_num, by omega, by omega, hN4, HN.out.2.1.put HH.out.1 HC.out.1 HC.out.2.1 hP4, HN.out.2.2.step u4⟩, by simp [intOf]; omega⟩
        · have hb1 : (st.kind == 1) = false := by simpa using hk1
          have HP2 := Lib.hid (HN.out.2.1.same HH.out.1 (fun h => hk1 h.2))
          clear hu hk1
          go_wp2_with fail
          exact ⟨⟨k + 1, R, by go_num, by omega, by omega, HN.out.1, HP2.out, HN.out.2.2⟩, by simp [intOf]; omega⟩
    · have hki : ¬ (k : Int) < p.steps.length := by omega
      have hkn : k = p.steps.length := by omega
      have HK := Lib.hid hkn
      clear hkn
      go_wp2_with fail
      go_ret
      refine ⟨_, rfl, R, HN.out.1, ⟨HN.out.2.1.1, fun x => (HN.out.2.1.2 x).trans (asserted_congr (fun j hj => ?_) x)⟩, HU2.out.1.step HN.out.2.2⟩
      have := HK.out
      simp [lowOf]
      intro _
      omega
end
end Trim
end Go.Proofs.Ytnmfihgdedifoaa
