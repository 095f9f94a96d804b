import Derived.Test.YtbhlmbacgbfaoaaDoorAiEnd
import Derived.Test.YtbhlmbacgbfaoaaDoorUtFuns
set_option linter.all false
namespace Go.Proofs.Ut
open Go.Ai Classical
set_option linter.unusedSimpArgs false
set_option maxHeartbeats 1000000
set_option maxRecDepth 100000
/-! numbers -/
theorem and192 : ∀ n : Nat, n < 256 → IntKind.u8.wrap ((BitVec.ofInt IntKind.u8.bits (n : Int) &&& BitVec.ofInt IntKind.u8.bits 192).toNat : Int) = ((n / 64 * 64 : Nat) : Int) := by decide +kernel
theorem and63 : ∀ n : Nat, n < 256 → IntKind.u8.wrap ((BitVec.ofInt IntKind.u8.bits (n : Int) &&& BitVec.ofInt IntKind.u8.bits 63).toNat : Int) = ((n % 64 : Nat) : Int) := by decide +kernel
theorem and31 : ∀ n : Nat, n < 256 → IntKind.i64.wrap ((BitVec.ofInt IntKind.i64.bits (n : Int) &&& BitVec.ofInt IntKind.i64.bits 31).toNat : Int) = ((n % 32 : Nat) : Int) := by decide +kernel
theorem and15 : ∀ n : Nat, n < 256 → IntKind.i64.wrap ((BitVec.ofInt IntKind.i64.bits (n : Int) &&& BitVec.ofInt IntKind.i64.bits 15).toNat : Int) = ((n % 16 : Nat) : Int) := by decide +kernel
theorem and7 : ∀ n : Nat, n < 256 → IntKind.i64.wrap ((BitVec.ofInt IntKind.i64.bits (n : Int) &&& BitVec.ofInt IntKind.i64.bits 7).toNat : Int) = ((n % 8 : Nat) : Int) := by decide +kernel
theorem or64 (c b : Nat) (hc : c < 16777216) (hb : b < 64) : IntKind.i64.wrap ((BitVec.ofInt IntKind.i64.bits ((c * 64 : Nat) : Int) ||| BitVec.ofInt IntKind.i64.bits (b : Int)).toNat : Int) = ((c * 64 + b : Nat) : Int) := by
  have h1 : (BitVec.ofInt IntKind.i64.bits ((c * 64 : Nat) : Int)).toNat = c * 64 := by
    simp [IntKind.bits, BitVec.toNat_ofInt]; omega
  have h2 : (BitVec.ofInt IntKind.i64.bits (b : Int)).toNat = b := by
    simp [IntKind.bits, BitVec.toNat_ofInt]; omega
  rw [BitVec.toNat_or, h1, h2]
  have : c * 64 ||| b = c * 64 + b := by
    have := Nat.shiftLeft_add_eq_or_of_lt (i := 6) (b := b) (by omega) c
    rw [Nat.shiftLeft_eq] at this
    exact this.symm
  rw [this]
  exact wrap_i64 (by omega) (by omega)
def by_ (s : List UInt8) (i : Nat) : Nat := (s.getD i 0).toNat
theorem bt_by (s : List UInt8) (i : Nat) : bt s i = (by_ s i : Int) := rfl
theorem by_lt (s : List UInt8) (i : Nat) : by_ s i < 256 := UInt8.toNat_lt _
/-- What the document's decoder makes of a first byte's part. -/
def accR (s : List UInt8) (i c0 : Nat) : Nat → Nat
  | 0 => c0
  | k + 1 => accR s i c0 k * 64 + by_ s (i + k + 1) % 64
noncomputable def tailR (s : List UInt8) (i n least c0 : Nat) : Nat × Nat :=
  if i + n > s.length then (0, 0) else
  if ∀ k, 1 ≤ k → k < n → by_ s (i + k) / 64 = 2 then
    if accR s i c0 (n - 1) < least ∨ accR s i c0 (n - 1) > 1114111 ∨ (55296 ≤ accR s i c0 (n - 1) ∧ accR s i c0 (n - 1) ≤ 57343) then (0, 0) else (accR s i c0 (n - 1), n)
  else (0, 0)
theorem endT {k k' : IntKind} {a b a' b' : Int} {h : List AObj} (e1 : a = a') (e2 : b = b') : finE 0 (fun h d => h = [] ∧ d = .tup [.int k a', .int k' b']) (some [.int k a, .int k' b]) h := finE_closed rfl ⟨rfl, by rw [e1, e2]; rfl⟩
def f65t : ACode := tl (tl (tl (tl f65.body)))
def f65s : ACode := hd (tl (tl (tl f65.body)))
theorem f65e : f65.body = .seq (hd f65.body) (.seq (hd (tl f65.body)) (.seq (hd (tl (tl f65.body))) (.seq f65s f65t))) := rfl
abbrev post2 (x : Nat × Nat) : List AObj → DV → Prop := fun h d => h = [] ∧ d = .tup [.int .i64 (x.1 : Int), .int .i64 (x.2 : Int)]
theorem f65_tail {E : Env} (L : List (Nat × DV)) (s : List UInt8) (i n least c0 : Nat) (hi : i < s.length) (hs : s.length < 100000000000) (hn : 1 ≤ n ∧ n ≤ 4) (hc : c0 < 256)
    (h0 : slots L 0 = .str s) (h1 : slots L 1 = .int .i64 i) (h6 : slots L 6 = .int .i64 c0) (h7 : slots L 7 = .int .i64 n) (h8 : slots L 8 = .int .i64 least) :
    goN E 0 (fin 0 f65.res (post2 (tailR s i n least c0))) [] f65t L [] := by
  simp only [f65t, f65, tl_seq, h0, h1, h6, h7, h8, ↓gos, gop, Nat.reduceBEq, Nat.reduceAdd, Nat.reduceSub, Nat.reduceLeDiff, Nat.reduceMul, Int.reduceLE, Int.reduceLT, Int.reduceNe, Int.reduceToNat]
  intro v hv
  rw [wrap_i64 (by omega) (by omega)] at hv
  refine ⟨fun g1 => endT ?_ ?_, fun g1 => ?_⟩
  · unfold tailR; rw [if_pos (by omega)]; rfl
  · unfold tailR; rw [if_pos (by omega)]; rfl
  have accb : ∀ k, k < 4 → accR s i c0 k < 256 * 64 ^ k := by
    intro k hk
    have step : ∀ k, accR s i c0 k < 256 * 64 ^ k → accR s i c0 (k + 1) < 256 * 64 ^ (k + 1) := fun k h => by
      simp only [accR, Nat.pow_succ]
      have : by_ s (i + k + 1) % 64 < 64 := Nat.mod_lt _ (by omega)
      omega
    induction k with
    | zero => simpa [accR] using hc
    | succ k ih => exact step k (ih (by omega))
  refine goN_lp (γ := Nat) (fun k => [(0, .str s), (1, .int .i64 i), (6, .int .i64 (accR s i c0 (k - 1) : Nat)), (7, .int .i64 n), (8, .int .i64 least), (9, .int .i64 k)]) (fun _ => []) (fun k => 1 ≤ k ∧ k ≤ n ∧ ∀ j, 1 ≤ j → j < k → by_ s (i + j) / 64 = 2) (fun k => n - k) 1
    (wks rfl (Nat.zero_le _) ⟨?_, ?_, ?_, ?_, ?_, rfl, trivial⟩) ⟨by omega, by omega, fun j h1 h2 => by omega⟩ fun k hk => ?_
  · simp only [↓gos, gop, Nat.reduceBEq, Nat.reduceAdd, Nat.reduceSub, Nat.reduceLeDiff, Nat.reduceMul, Int.reduceLE, Int.reduceLT, Int.reduceNe, Int.reduceToNat]; exact h0
  · simp only [↓gos, gop, Nat.reduceBEq, Nat.reduceAdd, Nat.reduceSub, Nat.reduceLeDiff, Nat.reduceMul, Int.reduceLE, Int.reduceLT, Int.reduceNe, Int.reduceToNat]; exact h1
  · simp only [↓gos, gop, Nat.reduceBEq, Nat.reduceAdd, Nat.reduceSub, Nat.reduceLeDiff, Nat.reduceMul, Int.reduceLE, Int.reduceLT, Int.reduceNe, Int.reduceToNat]; exact h6
  · simp only [↓gos, gop, Nat.reduceBEq, Nat.reduceAdd, Nat.reduceSub, Nat.reduceLeDiff, Nat.reduceMul, Int.reduceLE, Int.reduceLT, Int.reduceNe, Int.reduceToNat]; exact h7
  · simp only [↓gos, gop, Nat.reduceBEq, Nat.reduceAdd, Nat.reduceSub, Nat.reduceLeDiff, Nat.reduceMul, Int.reduceLE, Int.reduceLT, Int.reduceNe, Int.reduceToNat]; exact h8
  obtain ⟨k1, k2, k3⟩ := hk
  simp only [f65l0, ↓gos, gop, Nat.reduceBEq, Nat.reduceAdd, Nat.reduceSub, Nat.reduceLeDiff, Nat.reduceMul, Int.reduceLE, Int.reduceLT, Int.reduceNe, Int.reduceToNat]
  have hA := accb (k - 1) (by omega)
  have hA4 : 256 * 64 ^ (k - 1) ≤ 67108864 := by
    have : k - 1 = 0 ∨ k - 1 = 1 ∨ k - 1 = 2 ∨ k - 1 = 3 := by omega
    rcases this with e | e | e | e <;> rw [e] <;> omega
  refine ⟨fun g2 v1 hv1 => ?_, fun g2 => ?_⟩
  · rw [wrap_i64 (by omega) (by omega)] at hv1
    refine ⟨by omega, by omega, fun v2 hv2 => ?_⟩
    have e1 : v1.toNat = i + k := by omega
    have hb := by_lt s (i + k)
    rw [e1, bt_by, and192 _ hb] at hv2
    refine ⟨fun g3 => ?_, fun g3 v3 hv3 v4 hv4 => ?_⟩
    · have : tailR s i n least c0 = (0, 0) := by
        unfold tailR
        rw [if_neg (by omega), if_neg]
        intro h
        have := h k k1 (by omega)
        omega
      exact endT (by rw [this]; rfl) (by rw [this]; rfl)
    · rw [wrap_i64 (by omega) (by omega)] at hv4
      refine ⟨by omega, by omega, fun v5 hv5 v6 hv6 v7 hv7 v8 hv8 => ?_⟩
      have e2 : v4.toNat = i + k := by omega
      rw [e2, bt_by, and63 _ hb] at hv5
      have hm : by_ s (i + k) % 64 < 64 := Nat.mod_lt _ (by omega)
      rw [wrap_i64 (by omega) (by omega)] at hv6
      have hk3 : accR s i c0 (k - 1) < 16777216 := by
        have : 256 * 64 ^ (k - 1) ≤ 1048576 := by
          have : k - 1 = 0 ∨ k - 1 = 1 ∨ k - 1 = 2 := by omega
          rcases this with e | e | e <;> rw [e] <;> omega
        omega
      have h64 : (2 : Int) ^ min 6 IntKind.i64.bits = 64 := by decide
      rw [h64, wrap_i64 (by omega) (by omega)] at hv3
      have e3 : v3 = ((accR s i c0 (k - 1) * 64 : Nat) : Int) := by rw [hv3]; simp
      rw [e3, hv6, hv5, or64 _ _ hk3 hm] at hv7
      rw [wrap_i64 (by omega) (by omega)] at hv8
      have e4 : accR s i c0 k = accR s i c0 (k - 1) * 64 + by_ s (i + k) % 64 := by
        obtain ⟨k', rfl⟩ : ∃ k', k = k' + 1 := ⟨k - 1, by omega⟩
        rfl
      refine rnd_s (k + 1) rfl (Nat.zero_le _) ⟨rfl, rfl, ?_, rfl, rfl, ?_, trivial⟩ ⟨by omega, by omega, fun j h1 h2 => ?_⟩ (by omega)
      · show DV.int .i64 v7 = _
        rw [hv7, Nat.add_sub_cancel, e4]
      · show DV.int .i64 v8 = _
        rw [hv8]; rfl
      · by_cases hj : j = k
        · subst hj; omega
        · exact k3 j h1 (by omega)
  · obtain rfl : k = n := by omega
    have hT : tailR s i k least c0 = if accR s i c0 (k - 1) < least ∨ accR s i c0 (k - 1) > 1114111 ∨ (55296 ≤ accR s i c0 (k - 1) ∧ accR s i c0 (k - 1) ≤ 57343) then (0, 0) else (accR s i c0 (k - 1), k) := by
      unfold tailR
      rw [if_neg (by omega), if_pos k3]
    rw [hT]
    generalize accR s i c0 (k - 1) = c at hA
    have bad : c < least ∨ c > 1114111 ∨ (55296 ≤ c ∧ c ≤ 57343) → finE 0 (post2 (if c < least ∨ c > 1114111 ∨ (55296 ≤ c ∧ c ≤ 57343) then (0, 0) else (c, k))) (some [DV.int IntKind.i64 0, DV.int IntKind.i64 0]) [] := fun h => by
      rw [if_pos h]; exact endT rfl rfl
    have good : ¬ (c < least ∨ c > 1114111 ∨ (55296 ≤ c ∧ c ≤ 57343)) → finE 0 (post2 (if c < least ∨ c > 1114111 ∨ (55296 ≤ c ∧ c ≤ 57343) then (0, 0) else (c, k))) (some [DV.int IntKind.i64 c, DV.int IntKind.i64 k]) [] := fun h => by
      rw [if_neg h]; exact endT rfl rfl
    exact ⟨fun q1 => bad (by omega), fun q1 => ⟨fun q2 => bad (by omega), fun q2 => ⟨fun q3 => ⟨fun q4 => bad (by omega), fun q4 => good (by omega)⟩, fun q3 => good (by omega)⟩⟩⟩
noncomputable def decR (s : List UInt8) (i : Nat) : Nat × Nat :=
  if by_ s i < 128 then tailR s i 1 0 (by_ s i)
  else if 192 ≤ by_ s i ∧ by_ s i < 224 then tailR s i 2 128 (by_ s i % 32)
  else if 224 ≤ by_ s i ∧ by_ s i < 240 then tailR s i 3 2048 (by_ s i % 16)
  else if 240 ≤ by_ s i ∧ by_ s i < 248 then tailR s i 4 65536 (by_ s i % 8)
  else (0, 0)
theorem f65_go {E : Env} (s : List UInt8) (i : Nat) (hi : i < s.length) (hs : s.length < 100000000000) : goN E 0 (fin 0 f65.res (post2 (decR s i))) [] f65.body [(0, .str s), (1, .int .i64 i)] [] := by
  rw [f65e]
  have hb := by_lt s i
  simp only [f65, hd_seq, tl_seq, ↓gos, gop, Nat.reduceBEq, Nat.reduceAdd, Nat.reduceSub, Nat.reduceLeDiff, Nat.reduceMul, Int.reduceLE, Int.reduceLT, Int.reduceNe, Int.reduceToNat]
  refine ⟨by omega, fun v hv => ?_⟩
  rw [bt_by, wrap_i64 (by omega) (by omega)] at hv
  subst hv
  have ht : ∀ (L : List (Nat × DV)) (n least c0 : Nat), decR s i = tailR s i n least c0 → 1 ≤ n ∧ n ≤ 4 → c0 < 256 → slots L 0 = .str s → slots L 1 = .int .i64 i → slots L 6 = .int .i64 c0 → slots L 7 = .int .i64 n → slots L 8 = .int .i64 least →
      goN E 0 (fin 0 [RV.t 4, RV.t 5] (post2 (decR s i))) [] f65t L [] := fun L n least c0 he hn hc h0 h1 h6 h7 h8 => by
    rw [he]; exact f65_tail L s i n least c0 hi hs hn hc h0 h1 h6 h7 h8
  by_cases b1 : by_ s i < 128
  · simp only [f65s, f65, hd_seq, tl_seq, show ((by_ s i : Int) < 128) = True by simp; omega, ↓gos, gop, Nat.reduceBEq, Nat.reduceAdd, Nat.reduceSub, Nat.reduceLeDiff, Nat.reduceMul, Int.reduceLE, Int.reduceLT, Int.reduceNe, Int.reduceToNat]
    exact ht _ 1 0 (by_ s i) (by unfold decR; rw [if_pos b1]) (by omega) (by omega) rfl rfl rfl rfl rfl
  have n1 : ((by_ s i : Int) < 128) = False := by simp; omega
  by_cases b2 : 192 ≤ by_ s i ∧ by_ s i < 224
  · simp only [f65s, f65, hd_seq, tl_seq, n1, show (192 ≤ (by_ s i : Int)) = True by simp; omega, show ((by_ s i : Int) < 224) = True by simp; omega, and31 _ hb, ↓gos, gop, Nat.reduceBEq, Nat.reduceAdd, Nat.reduceSub, Nat.reduceLeDiff, Nat.reduceMul, Int.reduceLE, Int.reduceLT, Int.reduceNe, Int.reduceToNat]
    rintro v rfl
    exact ht _ 2 128 _ (by unfold decR; rw [if_neg b1, if_pos b2]) (by omega) (by omega) rfl rfl rfl rfl rfl
  by_cases b3 : 224 ≤ by_ s i ∧ by_ s i < 240
  · simp only [f65s, f65, hd_seq, tl_seq, n1, show (192 ≤ (by_ s i : Int)) = True by simp; omega, show ((by_ s i : Int) < 224) = False by simp; omega, show (224 ≤ (by_ s i : Int)) = True by simp; omega, show ((by_ s i : Int) < 240) = True by simp; omega, and15 _ hb, ↓gos, gop, Nat.reduceBEq, Nat.reduceAdd, Nat.reduceSub, Nat.reduceLeDiff, Nat.reduceMul, Int.reduceLE, Int.reduceLT, Int.reduceNe, Int.reduceToNat]
    rintro v rfl
    exact ht _ 3 2048 _ (by unfold decR; rw [if_neg b1, if_neg b2, if_pos b3]) (by omega) (by omega) rfl rfl rfl rfl rfl
  by_cases b4 : 240 ≤ by_ s i ∧ by_ s i < 248
  · simp only [f65s, f65, hd_seq, tl_seq, n1, show (192 ≤ (by_ s i : Int)) = True by simp; omega, show ((by_ s i : Int) < 224) = False by simp; omega, show (224 ≤ (by_ s i : Int)) = True by simp; omega, show ((by_ s i : Int) < 240) = False by simp; omega,
      show (240 ≤ (by_ s i : Int)) = True by simp; omega, show ((by_ s i : Int) < 248) = True by simp; omega, and7 _ hb, ↓gos, gop, Nat.reduceBEq, Nat.reduceAdd, Nat.reduceSub, Nat.reduceLeDiff, Nat.reduceMul, Int.reduceLE, Int.reduceLT, Int.reduceNe, Int.reduceToNat]
    rintro v rfl
    exact ht _ 4 65536 _ (by unfold decR; rw [if_neg b1, if_neg b2, if_neg b3, if_pos b4]) (by omega) (by omega) rfl rfl rfl rfl rfl
  have hz : decR s i = (0, 0) := by unfold decR; rw [if_neg b1, if_neg b2, if_neg b3, if_neg b4]
  rw [hz]
  by_cases b5 : by_ s i < 192
  · simp only [f65s, f65, hd_seq, tl_seq, n1, show (192 ≤ (by_ s i : Int)) = False by simp; omega, show (224 ≤ (by_ s i : Int)) = False by simp; omega, show (240 ≤ (by_ s i : Int)) = False by simp; omega, ↓gos, gop, Nat.reduceBEq, Nat.reduceAdd, Nat.reduceSub, Nat.reduceLeDiff, Nat.reduceMul, Int.reduceLE, Int.reduceLT, Int.reduceNe, Int.reduceToNat]
    exact endT rfl rfl
  · simp only [f65s, f65, hd_seq, tl_seq, n1, show (192 ≤ (by_ s i : Int)) = True by simp; omega, show ((by_ s i : Int) < 224) = False by simp; omega, show (224 ≤ (by_ s i : Int)) = True by simp; omega, show ((by_ s i : Int) < 240) = False by simp; omega,
      show (240 ≤ (by_ s i : Int)) = True by simp; omega, show ((by_ s i : Int) < 248) = False by simp; omega, ↓gos, gop, Nat.reduceBEq, Nat.reduceAdd, Nat.reduceSub, Nat.reduceLeDiff, Nat.reduceMul, Int.reduceLE, Int.reduceLT, Int.reduceNe, Int.reduceToNat]
    exact endT rfl rfl
end Go.Proofs.Ut
