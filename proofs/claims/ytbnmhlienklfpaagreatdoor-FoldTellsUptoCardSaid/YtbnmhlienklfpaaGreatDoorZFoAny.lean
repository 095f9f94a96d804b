/- Where one of some ASCII signs stands: strings.IndexAny, IndexRune, ContainsAny at them. -/
import Derived.Test.YtbnmhlienklfpaaGreatDoorZFoCsA
set_option linter.all false
namespace Go.Proofs.Ut
open Go.Ai Classical Go.Shelf Go.RowKit
set_option linter.unusedSimpArgs false
set_option linter.unusedVariables false
set_option maxHeartbeats 1000000
set_option maxRecDepth 100000
theorem set115 (n : Int) : DRet 84 [.int .i64 n] (.bool (decide (8 < n))) := by
  refine acalls_go c84 (by simp [f84]) ?_
  simp only [f84, ↓gos, gop, Nat.reduceBEq, Nat.reduceAdd, Nat.reduceSub, Nat.reduceLeDiff, Nat.reduceMul, Int.reduceLE, Int.reduceLT, Int.reduceNe, Int.reduceToNat]
  repeat' (first | refine And.intro ?_ ?_ | intro _)
  all_goals first
    | (refine endb ?_; simp; omega)
    | (refine endb ?_; simp [*])
    | exact endb rfl
theorem valid125 (c : Nat) (h : okC c) : DRet 111 [.int .i32 c] (.bool true) := by
  refine acalls_go c111 (by simp [f111]) ?_
  simp only [f111, ↓gos, gop, Nat.reduceBEq, Nat.reduceAdd, Nat.reduceSub, Nat.reduceLeDiff, Nat.reduceMul, Int.reduceLE, Int.reduceLT, Int.reduceNe, Int.reduceToNat]
  unfold okC at h
  repeat' (first | refine And.intro ?_ ?_ | intro _)
  all_goals first
    | exact endb rfl
    | (exfalso; omega)
/-- What a place's character tells of the bytes there. -/
theorem D_sign (s : List UInt8) (i : Nat) : (by_ s i < 128 ∧ D s i = (by_ s i, 1)) ∨ (128 ≤ by_ s i ∧ 128 ≤ (D s i).1 ∧ ∀ q, i ≤ q → q < i + (D s i).2 → 128 ≤ by_ s q) := by
  by_cases h0 : by_ s i < 128
  · exact .inl ⟨h0, D1 h0⟩
  · refine .inr ⟨by omega, ?_⟩
    have hb := by_lt s i
    have z : 128 ≤ ((65533, 1) : Nat × Nat).1 ∧ ∀ q, i ≤ q → q < i + ((65533, 1) : Nat × Nat).2 → 128 ≤ by_ s q := ⟨by simp, fun q h1 h2 => by
      have : q = i := by simp at h2; omega
      subst this; omega⟩
    rw [D_eq, if_neg h0]
    split
    · rename_i h
      split
      · rename_i hc
        refine ⟨hc, fun q h1 h2 => ?_⟩
        simp only at h2
        have : q = i ∨ q = i + 1 := by omega
        rcases this with rfl | rfl <;> omega
      · exact z
    · split
      · rename_i h
        split
        · rename_i hc
          refine ⟨by have := hc.1; simp only; omega, fun q h1 h2 => ?_⟩
          simp only at h2
          have : q = i ∨ q = i + 1 ∨ q = i + 2 := by omega
          rcases this with rfl | rfl | rfl <;> omega
        · exact z
      · split
        · rename_i h
          split
          · rename_i hc
            refine ⟨by have := hc.1; simp only; omega, fun q h1 h2 => ?_⟩
            simp only at h2
            have : q = i ∨ q = i + 1 ∨ q = i + 2 ∨ q = i + 3 := by omega
            rcases this with rfl | rfl | rfl | rfl <;> omega
          · exact z
        · exact z
theorem enc_shape (c : Nat) (h : okC c) (h1 : 128 ≤ c) : (∃ x y, (Utf8.encode (c : Int)).data.toList = [x, y] ∧ 128 ≤ y.toNat) ∨ (∃ x y z, (Utf8.encode (c : Int)).data.toList = [x, y, z] ∧ 128 ≤ z.toNat) ∨
    (∃ x y z t, (Utf8.encode (c : Int)).data.toList = [x, y, z, t] ∧ 128 ≤ t.toNat) := by
  have e := en_eq h
  unfold en at e
  rw [e, if_neg (by omega)]
  have hm : 128 ≤ (UInt8.ofNat (128 + c % 64)).toNat := by rw [toNat_of _ (by omega)]; omega
  split
  · exact .inl ⟨_, _, rfl, hm⟩
  · split
    · exact .inr (.inl ⟨_, _, _, rfl, hm⟩)
    · exact .inr (.inr ⟨_, _, _, _, rfl, hm⟩)
theorem index_none (l : List UInt8) (b : UInt8) (hl : ∀ x ∈ l, x.toNat < 128) (hb : 128 ≤ b.toNat) : Lib.indexByte l b = -1 := by
  induction l with
  | nil => rfl
  | cons x l ih =>
    unfold Lib.indexByte
    have hx : (x == b) = false := by
      have := hl x (by simp)
      simp only [beq_eq_false_iff_ne, ne_eq]
      intro e; subst e; omega
    rw [hx, ih fun y hy => hl y (by simp [hy])]
    rfl
/-- Signs of one byte each, and not many. -/
def Sg (S : List UInt8) : Prop := 2 ≤ S.length ∧ S.length < 1000 ∧ ∀ x ∈ S, x.toNat < 128
theorem enc_last (c : Nat) (h : okC c) (h1 : 128 ≤ c) : 2 ≤ (Utf8.encode (c : Int)).data.toList.length ∧ (Utf8.encode (c : Int)).data.toList.length ≤ 4 ∧ 128 ≤ by_ (Utf8.encode (c : Int)).data.toList ((Utf8.encode (c : Int)).data.toList.length - 1) := by
  rcases enc_shape c h h1 with ⟨x, y, e, hb⟩ | ⟨x, y, z, e, hb⟩ | ⟨x, y, z, t, e, hb⟩ <;> rw [e] <;> exact ⟨by simp, by simp, hb⟩
theorem rune74 (S : List UInt8) (hS : Sg S) (c : Nat) (h : okC c) : DRet 83 [.str S, .int .i32 c] (.int .i64 (if c < 128 then Lib.indexByte S (UInt8.ofNat c) else -1)) := by
  obtain ⟨g1, g2, g3⟩ := hS
  refine acalls_go c83 (by simp [f83]) ?_
  simp only [f83, ↓gos, gop, Nat.reduceBEq, Nat.reduceAdd, Nat.reduceSub, Nat.reduceLeDiff, Nat.reduceMul, Int.reduceLE, Int.reduceLT, Int.reduceNe, Int.reduceToNat]
  refine ⟨fun hc => fun v hv => ?_, fun hc => ⟨fun h3 => ?_, fun h3 => ?_⟩⟩
  · have hv : v = (c : Int) := by rw [hv]; simp [IntKind.wrap, IntKind.bits, IntKind.signed]; omega
    subst hv
    refine call_ret (byte124 S c) rfl rfl ?_
    simp only [↓gos, gop, Nat.reduceBEq, Nat.reduceAdd, Nat.reduceSub, Nat.reduceLeDiff, Nat.reduceMul, Int.reduceLE, Int.reduceLT, Int.reduceNe, Int.reduceToNat]
    rw [if_pos (by omega)]
    exact endi rfl
  · rw [if_neg (by omega)]
    refine goN_lp (γ := Nat) (fun p => [(175, .ptr 0 0)]) (fun p => [.iter S p]) (fun p => p ≤ S.length) (fun p => S.length - p) 0 (wks rfl (by simp) ⟨rfl, trivial⟩) (by simp) fun p hp => ?_
    simp only [f83l0, ↓gos, gop, Nat.reduceBEq, Nat.reduceAdd, Nat.reduceSub, Nat.reduceLeDiff, Nat.reduceMul, Int.reduceLE, Int.reduceLT, Int.reduceNe, Int.reduceToNat]
    refine ⟨fun h4 => ?_, fun h4 => endi rfl⟩
    have hb : by_ S p < 128 := by
      unfold by_
      rw [List.getD_eq_getElem?_getD, List.getElem?_eq_getElem h4]
      exact g3 _ (List.getElem_mem _)
    have hd := D1 hb
    unfold D at hd
    rw [hd]
    refine ⟨fun h5 => by exfalso; omega, fun h5 => ?_⟩
    exact rnd_s (p + 1) rfl (by simp) ⟨rfl, trivial⟩ (by omega) (by omega)
  · rw [if_neg (by omega)]
    refine call_ret (valid125 c h) rfl rfl ?_
    simp only [↓gos, gop, Nat.reduceBEq, Nat.reduceAdd, Nat.reduceSub, Nat.reduceLeDiff, Nat.reduceMul, Int.reduceLE, Int.reduceLT, Int.reduceNe, Int.reduceToNat]
    have hc : 128 ≤ c := by omega
    obtain ⟨n1, n2, n3⟩ := enc_last c h hc
    generalize (Utf8.encode (c : Int)).data.toList = rs at n1 n2 n3 ⊢
    intro v hv
    rw [wrap_i64 (by omega) (by omega)] at hv
    have hv : v = ((rs.length - 1 : Nat) : Int) := by omega
    subst hv
    refine goN_lp (γ := Unit) (fun _ => [(9, .int .i64 ((rs.length - 1 : Nat) : Int)), (8, .int .i64 ((rs.length - 1 : Nat) : Int)), (7, .str rs), (0, .str S)]) (fun _ => []) (fun _ => True) (fun _ => 0) () (wks rfl (by simp) ⟨rfl, rfl, rfl, rfl, trivial⟩) trivial fun _ _ => ?_
    simp only [f83l2, ↓gos, gop, Nat.reduceBEq, Nat.reduceAdd, Nat.reduceSub, Nat.reduceLeDiff, Nat.reduceMul, Int.reduceLE, Int.reduceLT, Int.reduceNe, Int.reduceToNat]
    refine ⟨fun h1 => ⟨by omega, by omega, fun _ v hv2 => ?_, fun q => ?_⟩, fun h1 => endi rfl⟩
    · rw [wrap_i64 (by omega) (by omega)] at hv2
      subst hv2
      refine ⟨by omega, by omega, by omega, call_ret (byte124 _ _) rfl rfl ?_⟩
      have e : Lib.indexByte (List.take (S.length - (((rs.length - 1 : Nat) : Int) + 1).toNat) (List.drop (((rs.length - 1 : Nat) : Int) + 1).toNat S)) (bt rs (rs.length - 1)).toNat.toUInt8 = -1 := by
        refine index_none _ _ (fun x hx => g3 x (List.mem_of_mem_drop (List.mem_of_mem_take hx))) ?_
        rw [bt_by, Int.toNat_natCast]
        have := by_lt rs (rs.length - 1)
        show 128 ≤ (UInt8.ofNat _).toNat
        rw [toNat_of _ this]; exact n3
      rw [e]
      simp only [↓gos, gop, Nat.reduceBEq, Nat.reduceAdd, Nat.reduceSub, Nat.reduceLeDiff, Nat.reduceMul, Int.reduceLE, Int.reduceLT, Int.reduceNe, Int.reduceToNat]
      exact endi rfl
    · exfalso
      rw [bt_by, bt_by] at q
      have hb : by_ S (rs.length - 1) < 128 := by
        unfold by_
        rw [List.getD_eq_getElem?_getD, List.getElem?_eq_getElem (show rs.length - 1 < S.length by omega)]
        exact g3 _ (List.getElem_mem _)
      omega
theorem any_at {SG s : List UInt8} {p : Nat} (hp : p < s.length) (h : ∀ q, q < p → SG.contains (s.getD q 0) = false) (h1 : SG.contains (s.getD p 0) = true) : Lib.indexAny s SG = p := by
  induction s generalizing p with
  | nil => simp at hp
  | cons x s ih =>
    unfold Lib.indexAny
    cases p with
    | zero => rw [if_pos (by simpa using h1)]; rfl
    | succ p =>
      have h0 := h 0 (by omega)
      have hx : SG.contains x = false := by simpa using h0
      rw [hx, ih (p := p) (by simpa using hp) (fun q hq => by have := h (q + 1) (by omega); simpa using this) (by simpa using h1)]
      rw [if_neg (by simp), if_neg (by first | (simp; done) | (simp; omega))]
      omega
theorem any_no {SG s : List UInt8} (h : ∀ q, q < s.length → SG.contains (s.getD q 0) = false) : Lib.indexAny s SG = -1 := by
  induction s with
  | nil => rfl
  | cons x s ih =>
    unfold Lib.indexAny
    have h0 := h 0 (by simp)
    have hx : SG.contains x = false := by simpa using h0
    rw [hx, ih fun q hq => by have := h (q + 1) (by simpa using hq); simpa using this]
    rfl
theorem sg_index (SG : List UInt8) (b : UInt8) : (0 ≤ Lib.indexByte SG b) ↔ SG.contains b = true := by
  induction SG with
  | nil => simp [Lib.indexByte]
  | cons x l ih =>
    unfold Lib.indexByte
    by_cases hx : x = b
    · subst hx; simp
    · rw [if_neg (by simpa using hx), List.contains_cons]
      have hb : (b == x) = false := by simpa using Ne.symm hx
      rw [hb, Bool.false_or, ← ih]
      have := Lib.indexByte_ge l b
      by_cases e : Lib.indexByte l b = -1
      · rw [e]; simp
      · rw [if_neg (by simpa using e)]; omega
theorem any106 (SG : List UInt8) (hS : Sg SG) (s : List UInt8) (hs : s.length < 1000000000) : DRet 60 [.str s, .str SG] (.int .i64 (Lib.indexAny s SG)) := by
  by_cases h8 : 8 < s.length
  · refine scal ⟨Tryz.f60, Tryz.func60, by kernel_rfl, by kernel_rfl⟩ fun w ok β vs hl hv => ?_
    obtain ⟨u, v, rfl⟩ := two hl
    obtain rfl := of_str (hv 0 u _ rfl rfl)
    obtain rfl := of_str (hv 1 v _ rfl rfl)
    have hcs : ∀ (j : Nat) (b : UInt8), SG[j]? = some b → b.toNat < 128 := fun j b hj => hS.2.2 b (List.mem_of_getElem? hj)
    have hS1 := hS.1
    have hS2 := hS.2.1
    refine ⟨_, fun _ _ _ => .int _ _, (Any.strings_IndexAny_long Tryz.lays153 (zero_of_info Tryz.set153).1 (zero_of_info Tryz.set153).2 ⟨s.toArray⟩ ⟨SG.toArray⟩ w (by simp [ByteArray.size]; omega) (by simp [ByteArray.size]; omega) (by simp [ByteArray.size]; omega) (by simp [ByteArray.size]; omega) (by simpa using hcs)).mono ?_⟩
    rintro e w' ⟨rfl, rfl⟩
    exact ⟨rfl, ((Below.refl _ w).alloc (Nat.le_refl _) _).alloc (by simp) _⟩
  · refine acalls_go c60 (by simp [f60]) ?_
    simp only [f60, ↓gos, gop, Nat.reduceBEq, Nat.reduceAdd, Nat.reduceSub, Nat.reduceLeDiff, Nat.reduceMul, Int.reduceLE, Int.reduceLT, Int.reduceNe, Int.reduceToNat]
    have hS1 := hS.1
    refine ⟨fun h => (by exfalso; subst h; simp at hS1), fun _ => ⟨fun h => (by omega), fun _ => call_ret (set115 _) rfl rfl ?_⟩⟩
    rw [decide_eq_false (by omega)]
    simp only [↓gos, gop, Nat.reduceBEq, Nat.reduceAdd, Nat.reduceSub, Nat.reduceLeDiff, Nat.reduceMul, Int.reduceLE, Int.reduceLT, Int.reduceNe, Int.reduceToNat]
    refine goN_lp (γ := Nat) (fun p => [(45, .ptr 0 0), (0, .str s), (1, .str SG)]) (fun p => [.iter s p]) (fun p => p ≤ s.length ∧ ∀ q, q < p → SG.contains (s.getD q 0) = false) (fun p => s.length - p) 0
      (wks rfl (by simp) ⟨rfl, rfl, rfl, trivial⟩) ⟨by omega, fun q h => by omega⟩ fun p hp => ?_
    obtain ⟨hp, hq⟩ := hp
    simp only [f60l1, ↓gos, gop, Nat.reduceBEq, Nat.reduceAdd, Nat.reduceSub, Nat.reduceLeDiff, Nat.reduceMul, Int.reduceLE, Int.reduceLT, Int.reduceNe, Int.reduceToNat]
    refine ⟨fun h1 => ?_, fun h1 => ?_⟩
    · have hl := D_len s p h1
      refine call_ret (rune74 SG hS _ hl.2.2) rfl rfl ?_
      have hd : Utf8.decode ⟨s.toArray⟩ p = D s p := rfl
      rw [hd]
      rcases D_sign s p with ⟨h2, h3⟩ | ⟨h2, h3, h4⟩
      · rw [h3]
        have hb : UInt8.ofNat (by_ s p) = s.getD p 0 := by unfold by_; exact UInt8.ofNat_toNat
        simp only [h2, if_true, hb]
        have hg := sg_index SG (s.getD p 0)
        cases hc : SG.contains (s.getD p 0)
        · rw [hc] at hg
          simp only [↓gos, gop, Nat.reduceBEq, Nat.reduceAdd, Nat.reduceSub, Nat.reduceLeDiff, Nat.reduceMul, Int.reduceLE, Int.reduceLT, Int.reduceNe, Int.reduceToNat]
          refine ⟨fun h => ?_, fun h => ?_⟩
          · have := hg.1 h; cases this
          · refine rnd_s (p + 1) rfl (by simp) ⟨rfl, rfl, rfl, trivial⟩ ⟨by omega, fun q hq' => ?_⟩ (by omega)
            by_cases e : q = p
            · subst e; exact hc
            · exact hq q (by omega)
        · rw [hc] at hg
          simp only [↓gos, gop, Nat.reduceBEq, Nat.reduceAdd, Nat.reduceSub, Nat.reduceLeDiff, Nat.reduceMul, Int.reduceLE, Int.reduceLT, Int.reduceNe, Int.reduceToNat]
          refine ⟨fun h => endi ?_, fun h => ?_⟩
          · exact (any_at h1 hq hc).symm
          · exact absurd (hg.2 rfl) h
      · rw [if_neg (by omega)]
        simp only [↓gos, gop, Nat.reduceBEq, Nat.reduceAdd, Nat.reduceSub, Nat.reduceLeDiff, Nat.reduceMul, Int.reduceLE, Int.reduceLT, Int.reduceNe, Int.reduceToNat]
        refine rnd_s (p + (D s p).2) rfl (by simp) ⟨rfl, rfl, rfl, trivial⟩ ⟨hl.2.1, fun q hq' => ?_⟩ (by have := hl.1; omega)
        by_cases e : q < p
        · exact hq q e
        · have h5 := h4 q (by omega) hq'
          unfold by_ at h5
          cases hc : SG.contains (s.getD q 0)
          · rfl
          · have hm : s.getD q 0 ∈ SG := List.contains_iff_mem.1 hc
            have := hS.2.2 _ hm
            omega
    · refine endi ?_
      exact (any_no fun q h => hq q (by omega)).symm
theorem any_iff (SG s : List UInt8) : (0 ≤ Lib.indexAny s SG) ↔ s.any SG.contains = true := by
  induction s with
  | nil => simp [Lib.indexAny]
  | cons x s ih =>
    unfold Lib.indexAny
    cases hx : SG.contains x
    · simp only [Bool.false_eq_true, if_false, List.any_cons, hx, Bool.false_or]
      rw [← ih]
      have := Lib.indexAny_ge SG s
      by_cases e : Lib.indexAny s SG = -1
      · rw [e]; simp
      · rw [if_neg (by simpa using e)]; omega
    · rw [if_pos rfl]
      simp only [List.any_cons, hx, Bool.true_or]
      decide
theorem has86 (SG : List UInt8) (hS : Sg SG) (s : List UInt8) (hs : s.length < 1000000000) : DRet 30 [.str s, .str SG] (.bool (s.any SG.contains)) := by
  refine acalls_go c30 (by simp [f30]) ?_
  simp only [f30, ↓gos, gop, Nat.reduceBEq, Nat.reduceAdd, Nat.reduceSub, Nat.reduceLeDiff, Nat.reduceMul, Int.reduceLE, Int.reduceLT, Int.reduceNe, Int.reduceToNat]
  refine call_ret (any106 SG hS s hs) rfl rfl ?_
  simp only [↓gos, gop, Nat.reduceBEq, Nat.reduceAdd, Nat.reduceSub, Nat.reduceLeDiff, Nat.reduceMul, Int.reduceLE, Int.reduceLT, Int.reduceNe, Int.reduceToNat]
  have := any_iff SG s
  refine ⟨fun h => endb ?_, fun h => endb ?_⟩
  · rw [this.1 h]
  · cases hc : s.any SG.contains
    · rfl
    · exact absurd (this.2 hc) h
end Go.Proofs.Ut
