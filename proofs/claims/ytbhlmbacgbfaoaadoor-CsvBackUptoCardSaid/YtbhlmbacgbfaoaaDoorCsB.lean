/- Where one of the four signs of csv stands: strings.IndexAny, IndexRune at them. -/
import Derived.Test.YtbhlmbacgbfaoaaDoorCsA
set_option linter.all false
namespace Go.Proofs.Ut
open Go.Ai Classical Go.Shelf Go.RowKit
set_option linter.unusedSimpArgs false
set_option linter.unusedVariables false
set_option maxHeartbeats 1000000
set_option maxRecDepth 100000
def SG : List UInt8 := [44, 34, 13, 10]
theorem set115 (n : Int) : DRet 115 [.int .i64 n] (.bool (decide (8 < n))) := by
  refine acalls_go c115 (by simp [f115]) ?_
  simp only [f115, ↓gos, gop, Nat.reduceBEq, Nat.reduceAdd, Nat.reduceSub, Nat.reduceLeDiff, Nat.reduceMul, Int.reduceLE, Int.reduceLT, Int.reduceNe, Int.reduceToNat]
  repeat' (first | refine And.intro ?_ ?_ | intro _)
  all_goals first
    | (refine endb ?_; simp; omega)
    | (refine endb ?_; simp [*])
    | exact endb rfl
theorem valid125 (c : Nat) (h : okC c) : DRet 125 [.int .i32 c] (.bool true) := by
  refine acalls_go c125 (by simp [f125]) ?_
  simp only [f125, ↓gos, gop, Nat.reduceBEq, Nat.reduceAdd, Nat.reduceSub, Nat.reduceLeDiff, Nat.reduceMul, Int.reduceLE, Int.reduceLT, Int.reduceNe, Int.reduceToNat]
  unfold okC at h
  repeat' (first | refine And.intro ?_ ?_ | intro _)
  all_goals first
    | exact endb rfl
    | (exfalso; omega)
/-- What a place's character tells of the bytes there. -/
theorem D_sign (s : List UInt8) (i : Nat) : (by_ s i < 128 ∧ D s i = (by_ s i, 1)) ∨ (128 ≤ by_ s i ∧ 128 ≤ (D s i).1 ∧ ∀ q, i ≤ q → q < i + (D s i).2 → 128 ≤ by_ s q) := by
  by_cases h0 : by_ s i < 128
  · exact .inl ⟨h0, D1 h0⟩
  · refine .inr ⟨by omega, ?_⟩
    have hb := by_lt s i
    have z : 128 ≤ ((65533, 1) : Nat × Nat).1 ∧ ∀ q, i ≤ q → q < i + ((65533, 1) : Nat × Nat).2 → 128 ≤ by_ s q := ⟨by simp, fun q h1 h2 => by
      have : q = i := by simp at h2; omega
      subst this; omega⟩
    rw [D_eq, if_neg h0]
    split
    · rename_i h
      split
      · rename_i hc
        refine ⟨hc, fun q h1 h2 => ?_⟩
        simp only at h2
        have : q = i ∨ q = i + 1 := by omega
        rcases this with rfl | rfl <;> omega
      · exact z
    · split
      · rename_i h
        split
        · rename_i hc
          refine ⟨by have := hc.1; simp only; omega, fun q h1 h2 => ?_⟩
          simp only at h2
          have : q = i ∨ q = i + 1 ∨ q = i + 2 := by omega
          rcases this with rfl | rfl | rfl <;> omega
        · exact z
      · split
        · rename_i h
          split
          · rename_i hc
            refine ⟨by have := hc.1; simp only; omega, fun q h1 h2 => ?_⟩
            simp only at h2
            have : q = i ∨ q = i + 1 ∨ q = i + 2 ∨ q = i + 3 := by omega
            rcases this with rfl | rfl | rfl | rfl <;> omega
          · exact z
        · exact z
theorem enc_shape (c : Nat) (h : okC c) (h1 : 128 ≤ c) : (∃ x y, (Utf8.encode (c : Int)).data.toList = [x, y] ∧ 128 ≤ y.toNat) ∨ (∃ x y z, (Utf8.encode (c : Int)).data.toList = [x, y, z] ∧ 128 ≤ z.toNat) ∨
    (∃ x y z t, (Utf8.encode (c : Int)).data.toList = [x, y, z, t] ∧ 128 ≤ t.toNat) := by
  have e := en_eq h
  unfold en at e
  rw [e, if_neg (by omega)]
  have hm : 128 ≤ (UInt8.ofNat (128 + c % 64)).toNat := by rw [toNat_of _ (by omega)]; omega
  split
  · exact .inl ⟨_, _, rfl, hm⟩
  · split
    · exact .inr (.inl ⟨_, _, _, rfl, hm⟩)
    · exact .inr (.inr ⟨_, _, _, _, rfl, hm⟩)
theorem index_none (l : List UInt8) (b : UInt8) (hl : ∀ x ∈ l, x.toNat < 128) (hb : 128 ≤ b.toNat) : Lib.indexByte l b = -1 := by
  induction l with
  | nil => rfl
  | cons x l ih =>
    unfold Lib.indexByte
    have hx : (x == b) = false := by
      have := hl x (by simp)
      simp only [beq_eq_false_iff_ne, ne_eq]
      intro e; subst e; omega
    rw [hx, ih fun y hy => hl y (by simp [hy])]
    rfl
theorem rune114 (c : Nat) (h : okC c) : DRet 114 [.str SG, .int .i32 c] (.int .i64 (if c < 128 then Lib.indexByte SG (UInt8.ofNat c) else -1)) := by
  refine acalls_go c114 (by simp [f114]) ?_
  simp only [f114, SG, ↓gos, gop, Nat.reduceBEq, Nat.reduceAdd, Nat.reduceSub, Nat.reduceLeDiff, Nat.reduceMul, Int.reduceLE, Int.reduceLT, Int.reduceNe, Int.reduceToNat]
  refine ⟨fun hc => fun v hv => ?_, fun hc => ⟨fun h3 => ?_, fun h3 => ?_⟩⟩
  · have hv : v = (c : Int) := by rw [hv]; simp [IntKind.wrap, IntKind.bits, IntKind.signed]; omega
    subst hv
    refine call_ret (byte124 [44, 34, 13, 10] c) rfl rfl ?_
    simp only [↓gos, gop, Nat.reduceBEq, Nat.reduceAdd, Nat.reduceSub, Nat.reduceLeDiff, Nat.reduceMul, Int.reduceLE, Int.reduceLT, Int.reduceNe, Int.reduceToNat]
    rw [if_pos (by omega)]
    exact endi rfl
  · rw [if_neg (by omega)]
    refine goN_lp (γ := Nat) (fun p => [(175, .ptr 0 0)]) (fun p => [.iter [44, 34, 13, 10] p]) (fun p => p ≤ 4) (fun p => 4 - p) 0 (wks rfl (by simp) ⟨rfl, trivial⟩) (by simp) fun p hp => ?_
    simp only [f114l0, ↓gos, gop, Nat.reduceBEq, Nat.reduceAdd, Nat.reduceSub, Nat.reduceLeDiff, Nat.reduceMul, Int.reduceLE, Int.reduceLT, Int.reduceNe, Int.reduceToNat]
    refine ⟨fun h4 => ?_, fun h4 => endi rfl⟩
    have hb : by_ [44, 34, 13, 10] p < 128 := by
      have : p = 0 ∨ p = 1 ∨ p = 2 ∨ p = 3 := by omega
      rcases this with rfl | rfl | rfl | rfl <;> decide
    have hd := D1 hb
    unfold D at hd
    rw [hd]
    refine ⟨fun h5 => by exfalso; omega, fun h5 => ?_⟩
    exact rnd_s (p + 1) rfl (by simp) ⟨rfl, trivial⟩ (by omega) (by omega)
  · rw [if_neg (by omega)]
    refine call_ret (valid125 c h) rfl rfl ?_
    simp only [↓gos, gop, Nat.reduceBEq, Nat.reduceAdd, Nat.reduceSub, Nat.reduceLeDiff, Nat.reduceMul, Int.reduceLE, Int.reduceLT, Int.reduceNe, Int.reduceToNat]
    have hc : 128 ≤ c := by omega
    have key : ∀ b : UInt8, 128 ≤ b.toNat → ∀ i : Nat, i < 4 → ∀ l : List UInt8, (∀ x ∈ l, x.toNat < 128) → Lib.indexByte l ((b.toNat : Int)).toNat.toUInt8 = -1 := fun b hb i hi l hl => by
      have : ((b.toNat : Int)).toNat.toUInt8 = b := by
        rw [Int.toNat_natCast]; exact UInt8.ofNat_toNat
      rw [this]; exact index_none l b hl hb
    rcases enc_shape c h hc with ⟨x, y, e, hb⟩ | ⟨x, y, z, e, hb⟩ | ⟨x, y, z, t, e, hb⟩
    · rw [e]
      simp only [↓gos, gop, Nat.reduceBEq, Nat.reduceAdd, Nat.reduceSub, Nat.reduceLeDiff, Nat.reduceMul, Int.reduceLE, Int.reduceLT, Int.reduceNe, Int.reduceToNat]
      intro v hv
      have hv : v = 1 := by rw [hv]; rfl
      subst hv
      refine goN_lp (γ := Unit) (fun _ => [(9, .int .i64 1), (8, .int .i64 1), (7, .str [x, y]), (0, .str [44, 34, 13, 10])]) (fun _ => []) (fun _ => True) (fun _ => 0) () (wks rfl (by simp) ⟨rfl, rfl, rfl, rfl, trivial⟩) trivial fun _ _ => ?_
      simp only [f114l2, ↓gos, gop, Nat.reduceBEq, Nat.reduceAdd, Nat.reduceSub, Nat.reduceLeDiff, Nat.reduceMul, Int.reduceLE, Int.reduceLT, Int.reduceNe, Int.reduceToNat]
      have hl : bt [x, y] 1 = (y.toNat : Int) := rfl
      have hs : bt [44, 34, 13, 10] 1 = 34 := rfl
      refine ⟨fun _ v hv2 => ?_, fun q => by rw [hl, hs] at q; omega⟩
      have hv2 : v = 2 := by rw [hv2]; rfl
      subst hv2
      refine ⟨by omega, by omega, call_ret (byte124 _ _) rfl rfl ?_⟩
      rw [hl, key y hb 1 (by omega) _ (by decide)]
      simp only [↓gos, gop, Nat.reduceBEq, Nat.reduceAdd, Nat.reduceSub, Nat.reduceLeDiff, Nat.reduceMul, Int.reduceLE, Int.reduceLT, Int.reduceNe, Int.reduceToNat]
      exact endi rfl
    · rw [e]
      simp only [↓gos, gop, Nat.reduceBEq, Nat.reduceAdd, Nat.reduceSub, Nat.reduceLeDiff, Nat.reduceMul, Int.reduceLE, Int.reduceLT, Int.reduceNe, Int.reduceToNat]
      intro v hv
      have hv : v = 2 := by rw [hv]; rfl
      subst hv
      refine goN_lp (γ := Unit) (fun _ => [(9, .int .i64 2), (8, .int .i64 2), (7, .str [x, y, z]), (0, .str [44, 34, 13, 10])]) (fun _ => []) (fun _ => True) (fun _ => 0) () (wks rfl (by simp) ⟨rfl, rfl, rfl, rfl, trivial⟩) trivial fun _ _ => ?_
      simp only [f114l2, ↓gos, gop, Nat.reduceBEq, Nat.reduceAdd, Nat.reduceSub, Nat.reduceLeDiff, Nat.reduceMul, Int.reduceLE, Int.reduceLT, Int.reduceNe, Int.reduceToNat]
      have hl : bt [x, y, z] 2 = (z.toNat : Int) := rfl
      have hs : bt [44, 34, 13, 10] 2 = 13 := rfl
      refine ⟨fun _ v hv2 => ?_, fun q => by rw [hl, hs] at q; omega⟩
      have hv2 : v = 3 := by rw [hv2]; rfl
      subst hv2
      refine ⟨by omega, by omega, call_ret (byte124 _ _) rfl rfl ?_⟩
      rw [hl, key z hb 2 (by omega) _ (by decide)]
      simp only [↓gos, gop, Nat.reduceBEq, Nat.reduceAdd, Nat.reduceSub, Nat.reduceLeDiff, Nat.reduceMul, Int.reduceLE, Int.reduceLT, Int.reduceNe, Int.reduceToNat]
      exact endi rfl
    · rw [e]
      simp only [↓gos, gop, Nat.reduceBEq, Nat.reduceAdd, Nat.reduceSub, Nat.reduceLeDiff, Nat.reduceMul, Int.reduceLE, Int.reduceLT, Int.reduceNe, Int.reduceToNat]
      intro v hv
      have hv : v = 3 := by rw [hv]; rfl
      subst hv
      refine goN_lp (γ := Unit) (fun _ => [(9, .int .i64 3), (8, .int .i64 3), (7, .str [x, y, z, t]), (0, .str [44, 34, 13, 10])]) (fun _ => []) (fun _ => True) (fun _ => 0) () (wks rfl (by simp) ⟨rfl, rfl, rfl, rfl, trivial⟩) trivial fun _ _ => ?_
      simp only [f114l2, ↓gos, gop, Nat.reduceBEq, Nat.reduceAdd, Nat.reduceSub, Nat.reduceLeDiff, Nat.reduceMul, Int.reduceLE, Int.reduceLT, Int.reduceNe, Int.reduceToNat]
      have hl : bt [x, y, z, t] 3 = (t.toNat : Int) := rfl
      have hs : bt [44, 34, 13, 10] 3 = 10 := rfl
      refine ⟨fun _ v hv2 => ?_, fun q => by rw [hl, hs] at q; omega⟩
      have hv2 : v = 4 := by rw [hv2]; rfl
      subst hv2
      refine ⟨by omega, by omega, call_ret (byte124 _ _) rfl rfl ?_⟩
      rw [hl, key t hb 3 (by omega) _ (by decide)]
      simp only [↓gos, gop, Nat.reduceBEq, Nat.reduceAdd, Nat.reduceSub, Nat.reduceLeDiff, Nat.reduceMul, Int.reduceLE, Int.reduceLT, Int.reduceNe, Int.reduceToNat]
      exact endi rfl
theorem any_at {s : List UInt8} {p : Nat} (hp : p < s.length) (h : ∀ q, q < p → SG.contains (s.getD q 0) = false) (h1 : SG.contains (s.getD p 0) = true) : Lib.indexAny s SG = p := by
  induction s generalizing p with
  | nil => simp at hp
  | cons x s ih =>
    unfold Lib.indexAny
    cases p with
    | zero => rw [if_pos (by simpa using h1)]; rfl
    | succ p =>
      have h0 := h 0 (by omega)
      have hx : SG.contains x = false := by simpa using h0
      rw [hx, ih (p := p) (by simpa using hp) (fun q hq => by have := h (q + 1) (by omega); simpa using this) (by simpa using h1)]
      rw [if_neg (by simp), if_neg (by first | (simp; done) | (simp; omega))]
      omega
theorem any_no {s : List UInt8} (h : ∀ q, q < s.length → SG.contains (s.getD q 0) = false) : Lib.indexAny s SG = -1 := by
  induction s with
  | nil => rfl
  | cons x s ih =>
    unfold Lib.indexAny
    have h0 := h 0 (by simp)
    have hx : SG.contains x = false := by simpa using h0
    rw [hx, ih fun q hq => by have := h (q + 1) (by simpa using hq); simpa using this]
    rfl
theorem sg_index (b : UInt8) : (0 ≤ Lib.indexByte SG b) ↔ SG.contains b = true := by
  unfold SG
  by_cases h1 : b = 44
  · subst h1; decide
  by_cases h2 : b = 34
  · subst h2; decide
  by_cases h3 : b = 13
  · subst h3; decide
  by_cases h4 : b = 10
  · subst h4; decide
  have e : Lib.indexByte [44, 34, 13, 10] b = -1 := by
    simp [Lib.indexByte, Ne.symm h1, Ne.symm h2, Ne.symm h3, Ne.symm h4]
  rw [e]
  simp [h1, h2, h3, h4]
theorem any106 (s : List UInt8) (hs : s.length < 1000000000) : DRet 106 [.str s, .str SG] (.int .i64 (Lib.indexAny s SG)) := by
  by_cases h8 : 8 < s.length
  · refine scal ⟨Tryd.f106, Tryd.func106, by kernel_rfl, by kernel_rfl⟩ fun w ok β vs hl hv => ?_
    obtain ⟨u, v, rfl⟩ := two hl
    obtain rfl := of_str (hv 0 u _ rfl rfl)
    obtain rfl := of_str (hv 1 v _ rfl rfl)
    have hcs : ∀ (j : Nat) (b : UInt8), SG[j]? = some b → b.toNat < 128 := fun j b hj => by
      have hm : b ∈ SG := List.mem_of_getElem? hj
      have hall : ∀ b ∈ SG, b.toNat < 128 := by decide
      exact hall b hm
    refine ⟨_, fun _ _ _ => .int _ _, (Any.strings_IndexAny_long Tryd.lays153 (zero_of_info Tryd.set153).1 (zero_of_info Tryd.set153).2 ⟨s.toArray⟩ ⟨SG.toArray⟩ w (by decide) (by simp [ByteArray.size]; omega) (by simp [ByteArray.size]; omega) (by decide) (by simpa using hcs)).mono ?_⟩
    rintro e w' ⟨rfl, rfl⟩
    exact ⟨rfl, ((Below.refl _ w).alloc (Nat.le_refl _) _).alloc (by simp) _⟩
  · refine acalls_go c106 (by simp [f106]) ?_
    simp only [f106, SG, ↓gos, gop, Nat.reduceBEq, Nat.reduceAdd, Nat.reduceSub, Nat.reduceLeDiff, Nat.reduceMul, Int.reduceLE, Int.reduceLT, Int.reduceNe, Int.reduceToNat]
    refine ⟨fun h => (by cases h), fun _ => ⟨fun h => (by omega), fun _ => call_ret (set115 _) rfl rfl ?_⟩⟩
    rw [decide_eq_false (by omega)]
    simp only [↓gos, gop, Nat.reduceBEq, Nat.reduceAdd, Nat.reduceSub, Nat.reduceLeDiff, Nat.reduceMul, Int.reduceLE, Int.reduceLT, Int.reduceNe, Int.reduceToNat]
    refine goN_lp (γ := Nat) (fun p => [(45, .ptr 0 0), (0, .str s), (1, .str [44, 34, 13, 10])]) (fun p => [.iter s p]) (fun p => p ≤ s.length ∧ ∀ q, q < p → SG.contains (s.getD q 0) = false) (fun p => s.length - p) 0
      (wks rfl (by simp) ⟨rfl, rfl, rfl, trivial⟩) ⟨by omega, fun q h => by omega⟩ fun p hp => ?_
    obtain ⟨hp, hq⟩ := hp
    simp only [f106l1, ↓gos, gop, Nat.reduceBEq, Nat.reduceAdd, Nat.reduceSub, Nat.reduceLeDiff, Nat.reduceMul, Int.reduceLE, Int.reduceLT, Int.reduceNe, Int.reduceToNat]
    refine ⟨fun h1 => ?_, fun h1 => ?_⟩
    · have hl := D_len s p h1
      refine call_ret (rune114 _ hl.2.2) rfl rfl ?_
      have hd : Utf8.decode ⟨s.toArray⟩ p = D s p := rfl
      rw [hd]
      rcases D_sign s p with ⟨h2, h3⟩ | ⟨h2, h3, h4⟩
      · rw [h3]
        have hb : UInt8.ofNat (by_ s p) = s.getD p 0 := by unfold by_; exact UInt8.ofNat_toNat
        simp only [h2, if_true, hb]
        have hg := sg_index (s.getD p 0)
        unfold SG at hg
        cases hc : [44, 34, 13, 10].contains (s.getD p 0)
        · rw [hc] at hg
          simp only [↓gos, gop, Nat.reduceBEq, Nat.reduceAdd, Nat.reduceSub, Nat.reduceLeDiff, Nat.reduceMul, Int.reduceLE, Int.reduceLT, Int.reduceNe, Int.reduceToNat]
          refine ⟨fun h => ?_, fun h => ?_⟩
          · have := hg.1 h; cases this
          · refine rnd_s (p + 1) rfl (by simp) ⟨rfl, rfl, rfl, trivial⟩ ⟨by omega, fun q hq' => ?_⟩ (by omega)
            by_cases e : q = p
            · subst e; exact hc
            · exact hq q (by omega)
        · rw [hc] at hg
          simp only [↓gos, gop, Nat.reduceBEq, Nat.reduceAdd, Nat.reduceSub, Nat.reduceLeDiff, Nat.reduceMul, Int.reduceLE, Int.reduceLT, Int.reduceNe, Int.reduceToNat]
          refine ⟨fun h => endi ?_, fun h => ?_⟩
          · exact (any_at h1 hq hc).symm
          · exact absurd (hg.2 rfl) h
      · rw [if_neg (by omega)]
        simp only [↓gos, gop, Nat.reduceBEq, Nat.reduceAdd, Nat.reduceSub, Nat.reduceLeDiff, Nat.reduceMul, Int.reduceLE, Int.reduceLT, Int.reduceNe, Int.reduceToNat]
        refine rnd_s (p + (D s p).2) rfl (by simp) ⟨rfl, rfl, rfl, trivial⟩ ⟨hl.2.1, fun q hq' => ?_⟩ (by have := hl.1; omega)
        by_cases e : q < p
        · exact hq q e
        · have h5 := h4 q (by omega) hq'
          unfold by_ at h5
          cases hc : SG.contains (s.getD q 0)
          · rfl
          · have hm : s.getD q 0 ∈ SG := List.contains_iff_mem.1 hc
            have hall : ∀ b ∈ SG, b.toNat < 128 := by decide
            have := hall _ hm
            omega
    · refine endi ?_
      exact (any_no fun q h => hq q (by omega)).symm
theorem any_iff (s : List UInt8) : (0 ≤ Lib.indexAny s SG) ↔ s.any SG.contains = true := by
  induction s with
  | nil => decide
  | cons x s ih =>
    unfold Lib.indexAny
    cases hx : SG.contains x
    · simp only [Bool.false_eq_true, if_false, List.any_cons, hx, Bool.false_or]
      rw [← ih]
      have := Lib.indexAny_ge SG s
      by_cases e : Lib.indexAny s SG = -1
      · rw [e]; simp
      · rw [if_neg (by simpa using e)]; omega
    · rw [if_pos rfl]
      simp only [List.any_cons, hx, Bool.true_or]
      decide
theorem has86 (s : List UInt8) (hs : s.length < 1000000000) : DRet 86 [.str s, .str SG] (.bool (s.any SG.contains)) := by
  refine acalls_go c86 (by simp [f86]) ?_
  simp only [f86, ↓gos, gop, Nat.reduceBEq, Nat.reduceAdd, Nat.reduceSub, Nat.reduceLeDiff, Nat.reduceMul, Int.reduceLE, Int.reduceLT, Int.reduceNe, Int.reduceToNat]
  refine call_ret (any106 s hs) rfl rfl ?_
  simp only [↓gos, gop, Nat.reduceBEq, Nat.reduceAdd, Nat.reduceSub, Nat.reduceLeDiff, Nat.reduceMul, Int.reduceLE, Int.reduceLT, Int.reduceNe, Int.reduceToNat]
  have := any_iff s
  refine ⟨fun h => endb ?_, fun h => endb ?_⟩
  · rw [this.1 h]
  · cases hc : s.any SG.contains
    · rfl
    · exact absurd (this.2 hc) h
/-- The field ahead of a text. -/
def plainC (c : UInt8) : Bool := !SG.contains c
def fieldF (s : List UInt8) : List UInt8 × List UInt8 × Bool := if [34].isPrefixOf s then qd (s.drop 1) else (s.takeWhile plainC, s.dropWhile plainC, true)
theorem any_take (s : List UInt8) : (Lib.indexAny s SG < 0 ∧ s.takeWhile plainC = s ∧ s.dropWhile plainC = []) ∨ (∃ n : Nat, Lib.indexAny s SG = n ∧ n < s.length ∧ s.takeWhile plainC = s.take n ∧ s.dropWhile plainC = s.drop n) := by
  induction s with
  | nil => exact .inl ⟨by decide, rfl, rfl⟩
  | cons x s ih =>
    unfold Lib.indexAny
    cases hx : SG.contains x
    · have hp : plainC x = true := by unfold plainC; rw [hx]; rfl
      simp only [Bool.false_eq_true, if_false, List.takeWhile_cons, List.dropWhile_cons, hp, if_true]
      have hg := Lib.indexAny_ge SG s
      rcases ih with ⟨h1, h2, h3⟩ | ⟨n, h1, h2, h3, h4⟩
      · have e : Lib.indexAny s SG = -1 := by omega
        rw [e, h2, h3]
        exact .inl ⟨by decide, rfl, rfl⟩
      · rw [h1, if_neg (by first | (simp; done) | (simp; omega)), h3, h4]
        exact .inr ⟨n + 1, by omega, by simpa using h2, rfl, rfl⟩
    · have hp : plainC x = false := by unfold plainC; rw [hx]; rfl
      simp only [if_true, List.takeWhile_cons, List.dropWhile_cons, hp, Bool.false_eq_true, if_false]
      exact .inr ⟨0, rfl, by simp, rfl, rfl⟩
theorem field82 (s : List UInt8) (hs : s.length < 1000000000) : DRet 82 [.str s] (.tup [.str (fieldF s).1, .str (fieldF s).2.1, .bool (fieldF s).2.2]) := by
  refine acalls_go c82 (by simp [f82]) ?_
  simp only [f82, ↓gos, gop, Nat.reduceBEq, Nat.reduceAdd, Nat.reduceSub, Nat.reduceLeDiff, Nat.reduceMul, Int.reduceLE, Int.reduceLT, Int.reduceNe, Int.reduceToNat]
  refine call_ret (cutp84 s [34] (by omega) (by simp)) rfl rfl ?_
  unfold fieldF behind
  cases hp : [34].isPrefixOf s
  · simp only [↓gos, gop, Nat.reduceBEq, Nat.reduceAdd, Nat.reduceSub, Nat.reduceLeDiff, Nat.reduceMul, Int.reduceLE, Int.reduceLT, Int.reduceNe, Int.reduceToNat]
    refine call_ret (any106 s hs) rfl rfl ?_
    simp only [↓gos, gop, Nat.reduceBEq, Nat.reduceAdd, Nat.reduceSub, Nat.reduceLeDiff, Nat.reduceMul, Int.reduceLE, Int.reduceLT, Int.reduceNe, Int.reduceToNat]
    simp only [if_false]
    rcases any_take s with ⟨h1, h2, h3⟩ | ⟨n, h1, h2, h3, h4⟩
    · refine ⟨fun _ => ⟨by omega, by omega, finE_closed rfl ⟨rfl, ?_⟩⟩, fun h => absurd h1 h⟩
      rw [h2, h3, Nat.sub_self]
      rfl
    · rw [h1, h3, h4]
      refine ⟨fun h => absurd h (by omega), fun _ => ⟨by omega, by omega, by omega, by omega, finE_closed rfl ⟨rfl, ?_⟩⟩⟩
      rw [Int.toNat_natCast, List.take_of_length_le (l := s.drop n) (by simp)]
      rfl
  · simp only [↓gos, gop, Nat.reduceBEq, Nat.reduceAdd, Nat.reduceSub, Nat.reduceLeDiff, Nat.reduceMul, Int.reduceLE, Int.reduceLT, Int.reduceNe, Int.reduceToNat]
    refine call_ret (quoted105 (s.drop 1) (by simp; omega)) rfl rfl ?_
    simp only [↓gos, gop, Nat.reduceBEq, Nat.reduceAdd, Nat.reduceSub, Nat.reduceLeDiff, Nat.reduceMul, Int.reduceLE, Int.reduceLT, Int.reduceNe, Int.reduceToNat]
    exact finE_closed rfl ⟨rfl, rfl⟩
end Go.Proofs.Ut
