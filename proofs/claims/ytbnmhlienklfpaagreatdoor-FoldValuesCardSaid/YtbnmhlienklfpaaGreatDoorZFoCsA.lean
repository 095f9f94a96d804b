/- Characters and their bytes: put behind one another, cut, written. Nothing of any program. -/
import Derived.Test.YtbnmhlienklfpaaGreatDoorZFoUtE
import Derived.Test.YtbnmhlienklfpaaGreatDoorZFoUtF
import Derived.Test.YtbnmhlienklfpaaGreatDoorAiBld
import Derived.Test.YtbnmhlienklfpaaGreatDoorZFuns
import Derived.Test.YtbnmhlienklfpaaGreatDoorZFoShelf
import Derived.Shelf.Strings.Count
import Derived.Shelf.Strings.IndexAnyAll
set_option linter.all false
namespace Go.Proofs.Ut
open Go.Ai Classical
set_option linter.unusedSimpArgs false
set_option maxHeartbeats 1000000
set_option maxRecDepth 100000
theorem by_app_l {a t : List UInt8} {i : Nat} (h : i < a.length) : by_ (a ++ t) i = by_ a i := by
  unfold by_; simp [List.getElem?_append_left h]
theorem by_app_r {a t : List UInt8} {j : Nat} : by_ (a ++ t) (a.length + j) = by_ t j := by
  unfold by_; simp [List.getElem?_append_right (Nat.le_add_right a.length j)]
theorem D_shift (a b : List UInt8) (j : Nat) : D (a ++ b) (a.length + j) = D b j := by
  rw [← decodeL_at, ← decodeL_at, List.drop_append, List.drop_eq_nil_of_le (by omega), Nat.add_sub_cancel_left, List.nil_append]
/-- A character that is one stays one, whatever comes behind. -/
theorem D_local (a t : List UInt8) (i : Nat) (hi : i < a.length) (h : D a i ≠ (65533, 1)) : D (a ++ t) i = D a i := by
  have e0 : by_ (a ++ t) i = by_ a i := by_app_l hi
  have hl : (a ++ t).length = a.length + t.length := List.length_append
  have hb := by_lt a i
  have lt : ∀ k, i + k < a.length → i + k < (a ++ t).length := fun k hk => by omega
  by_cases b1 : by_ a i < 128
  · rw [D1 b1, D1 (e0 ▸ b1), e0]
  by_cases b2 : 192 ≤ by_ a i ∧ by_ a i < 224
  · rw [D2 b2] at h ⊢
    rw [D2 (e0 ▸ b2)]
    by_cases c : i + 1 < a.length ∧ by_ a (i + 1) / 64 = 2
    · have e1 : by_ (a ++ t) (i + 1) = by_ a (i + 1) := by_app_l c.1
      rw [if_pos c, if_pos ⟨lt _ c.1, e1 ▸ c.2⟩, e0, e1]
    · rw [if_neg c] at h; exact absurd rfl h
  by_cases b3 : 224 ≤ by_ a i ∧ by_ a i < 240
  · rw [D3 b3] at h ⊢
    rw [D3 (e0 ▸ b3)]
    by_cases c : (i + 1 < a.length ∧ by_ a (i + 1) / 64 = 2) ∧ i + 2 < a.length ∧ by_ a (i + 2) / 64 = 2
    · have e1 : by_ (a ++ t) (i + 1) = by_ a (i + 1) := by_app_l c.1.1
      have e2 : by_ (a ++ t) (i + 2) = by_ a (i + 2) := by_app_l c.2.1
      rw [if_pos c, if_pos ⟨⟨lt _ c.1.1, e1 ▸ c.1.2⟩, lt _ c.2.1, e2 ▸ c.2.2⟩, e0, e1, e2]
    · rw [if_neg c] at h; exact absurd rfl h
  by_cases b4 : 240 ≤ by_ a i ∧ by_ a i < 248
  · rw [D4 b4] at h ⊢
    rw [D4 (e0 ▸ b4)]
    by_cases c : (i + 1 < a.length ∧ by_ a (i + 1) / 64 = 2) ∧ (i + 2 < a.length ∧ by_ a (i + 2) / 64 = 2) ∧ i + 3 < a.length ∧ by_ a (i + 3) / 64 = 2
    · have e1 : by_ (a ++ t) (i + 1) = by_ a (i + 1) := by_app_l c.1.1
      have e2 : by_ (a ++ t) (i + 2) = by_ a (i + 2) := by_app_l c.2.1.1
      have e3 : by_ (a ++ t) (i + 3) = by_ a (i + 3) := by_app_l c.2.2.1
      rw [if_pos c, if_pos ⟨⟨lt _ c.1.1, e1 ▸ c.1.2⟩, ⟨lt _ c.2.1.1, e2 ▸ c.2.1.2⟩, lt _ c.2.2.1, e3 ▸ c.2.2.2⟩, e0, e1, e2, e3]
    · rw [if_neg c] at h; exact absurd rfl h
  · rw [D0 b1 (by omega) hb] at h; exact absurd rfl h
theorem runAt_shift (p : Int → Bool) (a b : List UInt8) : ∀ n j, b.length - j ≤ n → runAt p (a ++ b) (a.length + j) = runAt p b j := fun n => by
  have hl : (a ++ b).length = a.length + b.length := List.length_append
  induction n with
  | zero => intro j h; rw [runAt_end _ _ _ (by omega), runAt_end _ _ _ (by omega)]
  | succ n ih =>
    intro j h
    by_cases hj : j < b.length
    · have := D_len b j hj
      rw [runAt_step p (a ++ b) _ (by omega), runAt_step p b j hj, D_shift, Nat.add_assoc, ih _ (by omega)]
    · rw [runAt_end _ _ _ (by omega), runAt_end _ _ _ (by omega)]
theorem rlAt_shift (a b : List UInt8) : ∀ n j, b.length - j ≤ n → rlAt (a ++ b) (a.length + j) = rlAt b j := fun n => by
  have hl : (a ++ b).length = a.length + b.length := List.length_append
  induction n with
  | zero => intro j h; rw [rlAt_end _ _ (by omega), rlAt_end _ _ (by omega)]
  | succ n ih =>
    intro j h
    by_cases hj : j < b.length
    · have := D_len b j hj
      rw [rlAt_step (a ++ b) _ (by omega), rlAt_step b j hj, D_shift, Nat.add_assoc, ih _ (by omega)]
    · rw [rlAt_end _ _ (by omega), rlAt_end _ _ (by omega)]
theorem run_app (p q : Int → Bool) (a b : List UInt8) : ∀ n i, a.length - i ≤ n → i ≤ a.length → runAt q a i = true → runAt p (a ++ b) i = (runAt p a i && runAt p b 0) ∧ rlAt (a ++ b) i = rlAt a i ++ rlAt b 0 := fun n => by
  have hl : (a ++ b).length = a.length + b.length := List.length_append
  have fin : runAt p (a ++ b) a.length = (runAt p a a.length && runAt p b 0) ∧ rlAt (a ++ b) a.length = rlAt a a.length ++ rlAt b 0 := by
    rw [runAt_end _ a _ (by omega), rlAt_end a _ (by omega), Bool.true_and, List.nil_append]
    exact ⟨by simpa using runAt_shift p a b _ 0 (Nat.le_refl _), by simpa using rlAt_shift a b _ 0 (Nat.le_refl _)⟩
  induction n with
  | zero =>
    intro i h hi _
    obtain rfl : i = a.length := by omega
    exact fin
  | succ n ih =>
    intro i h hi hr
    by_cases hia : i < a.length
    · have := D_len a i hia
      rw [runAt_step q a i hia] at hr
      by_cases hb : D a i = (65533, 1)
      · rw [if_pos hb] at hr; cases hr
      · rw [if_neg hb, Bool.and_eq_true] at hr
        have := ih (i + (D a i).2) (by omega) (by omega) hr.2
        rw [runAt_step p (a ++ b) i (by omega), runAt_step p a i hia, rlAt_step (a ++ b) i (by omega), rlAt_step a i hia, D_local a b i hia hb, if_neg hb, if_neg hb, this.1, this.2, Bool.and_assoc, List.cons_append]
        exact ⟨rfl, rfl⟩
    · obtain rfl : i = a.length := by omega
      exact fin
theorem runAt_app (p : Int → Bool) {q : Int → Bool} {a : List UInt8} (h : runAt q a 0 = true) (b : List UInt8) : runAt p (a ++ b) 0 = (runAt p a 0 && runAt p b 0) := (run_app p q a b _ 0 (Nat.le_refl _) (Nat.zero_le _) h).1
theorem rlAt_app {q : Int → Bool} {a : List UInt8} (h : runAt q a 0 = true) (b : List UInt8) : rlAt (a ++ b) 0 = rlAt a 0 ++ rlAt b 0 := (run_app q q a b _ 0 (Nat.le_refl _) (Nat.zero_le _) h).2
theorem runAt_bad (p : Int → Bool) {s : List UInt8} (h0 : 0 < s.length) (h : D s 0 = (65533, 1)) : runAt p s 0 = false := by
  rw [runAt_step p s 0 h0, if_pos h]
/-- A character's bytes. -/
def en (c : Int) : List UInt8 := (Utf8.encode c).data.toList
theorem en_eq {c : Nat} (h : okC c) : en c = if c < 128 then [UInt8.ofNat c] else if c < 2048 then [UInt8.ofNat (192 + c / 64), UInt8.ofNat (128 + c % 64)] else if c < 65536 then [UInt8.ofNat (224 + c / 4096), UInt8.ofNat (128 + c / 64 % 64), UInt8.ofNat (128 + c % 64)] else [UInt8.ofNat (240 + c / 262144), UInt8.ofNat (128 + c / 4096 % 64), UInt8.ofNat (128 + c / 64 % 64), UInt8.ofNat (128 + c % 64)] := by
  unfold en Utf8.encode
  rw [if_pos ((valid_iff c).2 h)]
  simp only [Int.toNat_natCast]
  split
  · rfl
  · split
    · rfl
    · split <;> rfl
theorem toNat_of (n : Nat) (h : n < 256) : (UInt8.ofNat n).toNat = n := by simp; omega
theorem D_en (c : Nat) (h : okC c) (t : List UInt8) : D (en c ++ t) 0 = (c, (en c).length) := by
  have ho := h
  unfold okC at ho
  rw [en_eq h]
  split
  · rename_i h1
    have b0 : by_ ([UInt8.ofNat c] ++ t) 0 = c := toNat_of c (by omega)
    rw [D1 (by rw [b0]; exact h1), b0]; rfl
  split
  · rename_i h1 h2
    have b0 : by_ ([UInt8.ofNat (192 + c / 64), UInt8.ofNat (128 + c % 64)] ++ t) 0 = 192 + c / 64 := toNat_of _ (by omega)
    have b1 : by_ ([UInt8.ofNat (192 + c / 64), UInt8.ofNat (128 + c % 64)] ++ t) (0 + 1) = 128 + c % 64 := toNat_of _ (by omega)
    rw [D2 (by rw [b0]; omega), b0, b1, if_pos ⟨by simp, by omega⟩, if_pos (by omega)]
    exact Prod.ext (by simp only; omega) rfl
  split
  · rename_i h1 h2 h3
    have b0 : by_ ([UInt8.ofNat (224 + c / 4096), UInt8.ofNat (128 + c / 64 % 64), UInt8.ofNat (128 + c % 64)] ++ t) 0 = 224 + c / 4096 := toNat_of _ (by omega)
    have b1 : by_ ([UInt8.ofNat (224 + c / 4096), UInt8.ofNat (128 + c / 64 % 64), UInt8.ofNat (128 + c % 64)] ++ t) (0 + 1) = 128 + c / 64 % 64 := toNat_of _ (by omega)
    have b2 : by_ ([UInt8.ofNat (224 + c / 4096), UInt8.ofNat (128 + c / 64 % 64), UInt8.ofNat (128 + c % 64)] ++ t) (0 + 2) = 128 + c % 64 := toNat_of _ (by omega)
    have e : (224 + c / 4096) % 16 * 4096 + (128 + c / 64 % 64) % 64 * 64 + (128 + c % 64) % 64 = c := by omega
    rw [D3 (by rw [b0]; omega), b0, b1, b2, if_pos ⟨⟨by simp, by omega⟩, by simp, by omega⟩, e, if_pos ⟨by omega, h⟩]
    rfl
  · rename_i h1 h2 h3
    have b0 : by_ ([UInt8.ofNat (240 + c / 262144), UInt8.ofNat (128 + c / 4096 % 64), UInt8.ofNat (128 + c / 64 % 64), UInt8.ofNat (128 + c % 64)] ++ t) 0 = 240 + c / 262144 := toNat_of _ (by omega)
    have b1 : by_ ([UInt8.ofNat (240 + c / 262144), UInt8.ofNat (128 + c / 4096 % 64), UInt8.ofNat (128 + c / 64 % 64), UInt8.ofNat (128 + c % 64)] ++ t) (0 + 1) = 128 + c / 4096 % 64 := toNat_of _ (by omega)
    have b2 : by_ ([UInt8.ofNat (240 + c / 262144), UInt8.ofNat (128 + c / 4096 % 64), UInt8.ofNat (128 + c / 64 % 64), UInt8.ofNat (128 + c % 64)] ++ t) (0 + 2) = 128 + c / 64 % 64 := toNat_of _ (by omega)
    have b3 : by_ ([UInt8.ofNat (240 + c / 262144), UInt8.ofNat (128 + c / 4096 % 64), UInt8.ofNat (128 + c / 64 % 64), UInt8.ofNat (128 + c % 64)] ++ t) (0 + 3) = 128 + c % 64 := toNat_of _ (by omega)
    have e : (240 + c / 262144) % 8 * 262144 + (128 + c / 4096 % 64) % 64 * 4096 + (128 + c / 64 % 64) % 64 * 64 + (128 + c % 64) % 64 = c := by omega
    rw [D4 (by rw [b0]; omega), b0, b1, b2, b3, if_pos ⟨⟨by simp, by omega⟩, ⟨by simp, by omega⟩, by simp, by omega⟩, e, if_pos ⟨by omega, h⟩]
    rfl
theorem en_len {c : Nat} (h : okC c) : 1 ≤ (en c).length ∧ (en c).length ≤ 4 ∧ (2 ≤ (en c).length ↔ 128 ≤ c) := by
  rw [en_eq h]
  split
  · simp; omega
  split
  · simp; omega
  split
  · simp; omega
  · simp; omega
theorem en_good {c : Nat} (h : okC c) (t : List UInt8) : D (en c ++ t) 0 ≠ (65533, 1) := by
  rw [D_en c h t]
  intro q
  obtain ⟨q1, q2⟩ := Prod.mk.inj q
  have := (en_len h).2.2
  omega
theorem run_en (p : Int → Bool) {c : Nat} (h : okC c) (t : List UInt8) : runAt p (en c ++ t) 0 = (p c && runAt p t 0) := by
  have := en_len h
  rw [runAt_step p _ 0 (by simp; omega), if_neg (en_good h t), D_en c h t, Nat.zero_add]
  have := runAt_shift p (en c) t _ 0 (Nat.le_refl _)
  rw [Nat.add_zero] at this
  rw [this]
theorem rl_en {c : Nat} (h : okC c) (t : List UInt8) : rlAt (en c ++ t) 0 = (c : Int) :: rlAt t 0 := by
  have := en_len h
  rw [rlAt_step _ 0 (by simp; omega), D_en c h t, Nat.zero_add]
  have := rlAt_shift (en c) t _ 0 (Nat.le_refl _)
  rw [Nat.add_zero] at this
  rw [this]
/-- A row of characters, written. -/
theorem run_ens (p : Int → Bool) (t : List UInt8) : ∀ cs : List Nat, (∀ c ∈ cs, okC c) → runAt p (cs.flatMap (fun c : Nat => en c) ++ t) 0 = (cs.all (fun c : Nat => p c) && runAt p t 0)
  | [], _ => by simp
  | c :: cs, h => by
    rw [List.flatMap_cons, List.append_assoc, run_en p (h c (by simp)), run_ens p t cs (fun x hx => h x (by simp [hx])), List.all_cons, Bool.and_assoc]
theorem rl_ens (t : List UInt8) : ∀ cs : List Nat, (∀ c ∈ cs, okC c) → rlAt (cs.flatMap (fun c : Nat => en c) ++ t) 0 = cs.map (fun c : Nat => (c : Int)) ++ rlAt t 0
  | [], _ => by simp
  | c :: cs, h => by
    rw [List.flatMap_cons, List.append_assoc, rl_en (h c (by simp)), rl_ens t cs (fun x hx => h x (by simp [hx])), List.map_cons, List.cons_append]
theorem run_nil (p : Int → Bool) : runAt p [] 0 = true := rfl
theorem rl_nil : rlAt [] 0 = [] := rfl
/-- A character that is cut is none. -/
theorem en_cut (p : Int → Bool) {c : Nat} (h : okC c) (k : Nat) (hk : k < (en c).length) (h0 : 0 < k) : runAt p ((en c).take k) 0 = false := by
  have hl := en_len h
  refine runAt_bad p (by simp; omega) ?_
  have ho := h
  unfold okC at ho
  have hb := en_eq h
  by_cases h1 : c < 128
  · rw [if_pos h1] at hb; rw [hb] at hk; simp at hk; omega
  rw [if_neg h1] at hb
  by_cases h2 : c < 2048
  · rw [if_pos h2] at hb
    rw [hb] at hk ⊢
    simp at hk
    obtain rfl : k = 1 := by omega
    have b0 : by_ (List.take 1 [UInt8.ofNat (192 + c / 64), UInt8.ofNat (128 + c % 64)]) 0 = 192 + c / 64 := toNat_of _ (by omega)
    rw [D2 (by rw [b0]; omega), if_neg (by simp)]
  rw [if_neg h2] at hb
  by_cases h3 : c < 65536
  · rw [if_pos h3] at hb
    rw [hb] at hk ⊢
    simp at hk
    have b0 : by_ (List.take k [UInt8.ofNat (224 + c / 4096), UInt8.ofNat (128 + c / 64 % 64), UInt8.ofNat (128 + c % 64)]) 0 = 224 + c / 4096 := by
      obtain ⟨j, rfl⟩ : ∃ j, k = j + 1 := ⟨k - 1, by omega⟩
      exact toNat_of _ (by omega)
    rw [D3 (by rw [b0]; omega), if_neg (by simp; omega)]
  · rw [if_neg h3] at hb
    rw [hb] at hk ⊢
    simp at hk
    have b0 : by_ (List.take k [UInt8.ofNat (240 + c / 262144), UInt8.ofNat (128 + c / 4096 % 64), UInt8.ofNat (128 + c / 64 % 64), UInt8.ofNat (128 + c % 64)]) 0 = 240 + c / 262144 := by
      obtain ⟨j, rfl⟩ : ∃ j, k = j + 1 := ⟨k - 1, by omega⟩
      exact toNat_of _ (by omega)
    rw [D4 (by rw [b0]; omega), if_neg (by simp; omega)]
/-- A byte that is none. -/
theorem run_none (p : Int → Bool) (b : UInt8) (t : List UInt8) (hb : 128 ≤ b.toNat) (ht : t.head? = none ∨ ∃ x, t.head? = some x ∧ x.toNat < 128) : runAt p (b :: t) 0 = false := by
  refine runAt_bad p (by simp) ?_
  have b0 : by_ (b :: t) 0 = b.toNat := rfl
  have hlt : b.toNat < 256 := b.toNat_lt
  have b1 : ¬ (0 + 1 < (b :: t).length ∧ by_ (b :: t) (0 + 1) / 64 = 2) := by
    rintro ⟨q1, q2⟩
    match t, ht with
    | [], _ => simp at q1
    | x :: t, h =>
      rcases h with h | ⟨y, h, hy⟩
      · cases h
      · cases h
        have : by_ (b :: x :: t) (0 + 1) = x.toNat := rfl
        omega
  by_cases c2 : 192 ≤ b.toNat ∧ b.toNat < 224
  · rw [D2 (b0.symm ▸ c2), if_neg b1]
  by_cases c3 : 224 ≤ b.toNat ∧ b.toNat < 240
  · rw [D3 (b0.symm ▸ c3), if_neg (fun q => b1 q.1)]
  by_cases c4 : 240 ≤ b.toNat ∧ b.toNat < 248
  · rw [D4 (b0.symm ▸ c4), if_neg (fun q => b1 q.1)]
  · exact D0 (b0.symm ▸ by omega) (b0.symm ▸ by omega) (b0.symm ▸ hlt)
/-- What is shown may be; what may be, and is not below 32, is shown. -/
theorem shown_may (c : Int) : shownB c = (mayB c && decide (32 ≤ c)) := by
  unfold mayB shownB
  rw [Bool.eq_iff_iff]
  simp only [Bool.or_eq_true, Bool.and_eq_true, decide_eq_true_eq]
  omega
theorem run_and (p q : Int → Bool) (s : List UInt8) : ∀ n i, s.length - i ≤ n → runAt (fun c => p c && q c) s i = (runAt p s i && (rlAt s i).all q) := fun n => by
  induction n with
  | zero => intro i h; rw [runAt_end _ _ _ (by omega), runAt_end _ _ _ (by omega), rlAt_end _ _ (by omega)]; rfl
  | succ n ih =>
    intro i h
    by_cases hi : i < s.length
    · have := D_len s i hi
      rw [runAt_step _ s i hi, runAt_step p s i hi, rlAt_step s i hi]
      by_cases hb : D s i = (65533, 1)
      · rw [if_pos hb, if_pos hb]; rfl
      · rw [if_neg hb, if_neg hb, ih _ (by omega), List.all_cons]
        cases p (D s i).1 <;> cases q (D s i).1 <;> cases runAt p s (i + (D s i).2) <;> rfl
    · rw [runAt_end _ _ _ hi, runAt_end _ _ _ hi, rlAt_end _ _ hi]; rfl
theorem run_shown (s : List UInt8) : runAt shownB s 0 = (runAt mayB s 0 && (rs s).all (fun c => decide (32 ≤ c))) := by
  rw [show shownB = fun c => mayB c && decide (32 ≤ c) from funext shown_may, run_and _ _ s _ 0 (Nat.le_refl _)]
  unfold rs
  cases runAt mayB s 0 <;> rfl
end Go.Proofs.Ut

/- The law of layer 1: awake, UtfTells. -/
namespace Go.Proofs.Ut
open Go.Ai Classical
set_option linter.unusedSimpArgs false
set_option maxHeartbeats 1000000
set_option maxRecDepth 100000
abbrev DRet (f : Nat) (args : List DV) (D : DV) : Prop := ACalls ED f [] args fun h d => h = [] ∧ d = D
theorem valid_c (s : List UInt8) (hs : s.length < 100000000000) : DRet 26 [.str s] (.bool (runAt mayB s 0)) := by
  have := valid16 rfl vED s (by omega)
  rw [valid_runAt] at this
  exact this
theorem ascii_runes : ∀ s : List UInt8, (∀ b ∈ s, b.toNat < 128) → s = (s.map (·.toNat)).flatMap (fun c : Nat => en c)
  | [], _ => rfl
  | b :: s, h => by
    have hb := h b (by simp)
    rw [List.map_cons, List.flatMap_cons, ← ascii_runes s (fun x hx => h x (by simp [hx])), en_eq (by unfold okC; omega), if_pos hb]
    simp
theorem run_ascii (p : Int → Bool) (s : List UInt8) (h : ∀ b ∈ s, b.toNat < 128) : runAt p s 0 = s.all (fun b => p b.toNat) ∧ rlAt s 0 = s.map (fun b => (b.toNat : Int)) := by
  have e := ascii_runes s h
  have ho : ∀ c ∈ s.map (·.toNat), okC c := fun c hc => by
    obtain ⟨b, hb, rfl⟩ := List.mem_map.1 hc
    have := h b hb
    unfold okC; omega
  constructor
  · conv => lhs; rw [e]
    have := run_ens p [] _ ho
    rw [List.append_nil, run_nil, Bool.and_true] at this
    rw [this, List.all_map]; rfl
  · conv => lhs; rw [e]
    have := rl_ens [] _ ho
    rw [List.append_nil, rl_nil, List.append_nil] at this
    rw [this, List.map_map]; rfl
theorem rs_ascii (s : List UInt8) (h : ∀ b ∈ s, b.toNat < 128) (hm : s.all (fun b => mayB b.toNat) = true) : rs s = s.map (fun b => (b.toNat : Int)) := by
  unfold rs
  rw [(run_ascii mayB s h).1, hm, (run_ascii mayB s h).2]; rfl
theorem rs_len (s : List UInt8) : (rs s).length ≤ s.length := by
  unfold rs; split
  · exact runes_len s _ 0
  · simp
theorem num_rows (l : List Int) : (l.map fun n => [DV.int .i64 n]) = l.map num := rfl
theorem dn_row {h : List AObj} {i n : Nat} {l : List Int} {c : Option Nat} (hi : h[i]? = some (.arr 1 (l.map num))) (hn : n = l.length) : DV.dn [] h (.osl 1 i 0 n c) = .sl 1 (l.map num) := dn_osl hi (by simpa using hn)
end Go.Proofs.Ut

/- What the library does for csv: where a sign stands, what is ahead of it, what a builder holds. -/
namespace Go.Proofs.Ut
open Go.Ai Classical Go.Shelf Go.RowKit
set_option linter.unusedSimpArgs false
set_option maxHeartbeats 1000000
set_option maxRecDepth 100000
/-- A call that leaves all as it lies. -/
theorem scal {f : Nat} {args : List DV} {r : DV} (hent : Ent Tryz.prog f) (h : ∀ (w : World) (ok : Nat → Prop) (β : Ai.Loc) (vs : List Value), vs.length = args.length → (∀ (i : Nat) v d, vs[i]? = some v → args[i]? = some d → Rep w ok β v d) →
    ∃ v, (∀ w ok β, Rep w ok β v r) ∧ Calls Tryz.prog f vs.toArray w fun e w' => e = .returned v ∧ Below w.heap.size w w') : DRet f args r := by
  refine ⟨hent, fun w ok β vs hg hn hh hl hv => ?_⟩
  obtain ⟨v, hr, hc⟩ := h w ok β vs hl hv
  refine hc.mono ?_
  rintro e w' ⟨rfl, hb⟩
  exact ⟨_, ok, β, [], _, rfl, ⟨rfl, rfl⟩, stable_below hg hn hb, Ev.below hb, hrep_nil hh hb.size, hr _ _ _, fun l cs q => by simp at q, Nat.le_refl _, fun _ _ _ => rfl⟩
theorem of_str {w : World} {ok : Nat → Prop} {β : Ai.Loc} {v : Value} {s : List UInt8} (h : Rep w ok β v (.str s)) : v = .string ⟨s.toArray⟩ := by
  generalize hd : DV.str s = d at h
  cases h <;> try cases hd
  rfl
theorem of_int {w : World} {ok : Nat → Prop} {β : Ai.Loc} {v : Value} {k : IntKind} {n : Int} (h : Rep w ok β v (.int k n)) : v = .int k n := by
  cases h; rfl
theorem str_of (w : World) (ok : Nat → Prop) (β : Ai.Loc) (s : List UInt8) : Rep w ok β (.string ⟨s.toArray⟩) (.str s) := by
  have := Rep.str (w := w) (ok := ok) (β := β) ⟨s.toArray⟩
  simpa using this
theorem two {vs : List Value} {a b : DV} (h : vs.length = [a, b].length) : ∃ u v, vs = [u, v] := by
  match vs, h with
  | [u, v], _ => exact ⟨u, v, rfl⟩
theorem index131 (s : List UInt8) (c : UInt8) : DRet 82 [.str s, .str [c]] (.int .i64 (Lib.indexByte s c)) := by
  refine scal ⟨Tryz.f82, Tryz.func82, by kernel_rfl, by kernel_rfl⟩ fun w ok β vs hl hv => ?_
  obtain ⟨u, v, rfl⟩ := two hl
  obtain rfl := of_str (hv 0 u _ rfl rfl)
  obtain rfl := of_str (hv 1 v _ rfl rfl)
  refine ⟨_, fun _ _ _ => .int _ _, (Any.stringslite_Index_one Tryz.lays219 ⟨s.toArray⟩ c w).mono ?_⟩
  rintro e w' ⟨rfl, rfl⟩
  exact ⟨rfl, Below.refl _ _⟩
theorem index121 (s : List UInt8) (c : UInt8) : DRet 63 [.str s, .str [c]] (.int .i64 (Lib.indexByte s c)) := by
  refine scal ⟨Tryz.f63, Tryz.func63, by kernel_rfl, by kernel_rfl⟩ fun w ok β vs hl hv => ?_
  obtain ⟨u, v, rfl⟩ := two hl
  obtain rfl := of_str (hv 0 u _ rfl rfl)
  obtain rfl := of_str (hv 1 v _ rfl rfl)
  refine ⟨_, fun _ _ _ => .int _ _, (Any.strings_Index_one Tryz.lays143 ⟨s.toArray⟩ c w).mono ?_⟩
  rintro e w' ⟨rfl, rfl⟩
  exact ⟨rfl, Below.refl _ _⟩
theorem byte133 (s : List UInt8) (c : Int) : DRet 106 [.str s, .int .u8 c] (.int .i64 (Lib.indexByte s c.toNat.toUInt8)) := by
  refine scal ⟨Tryz.f106, Tryz.func106, by kernel_rfl, by kernel_rfl⟩ fun w ok β vs hl hv => ?_
  obtain ⟨u, v, rfl⟩ := two hl
  obtain rfl := of_str (hv 0 u _ rfl rfl)
  obtain rfl := of_int (hv 1 v _ rfl rfl)
  refine ⟨_, fun _ _ _ => .int _ _, (Any.stringslite_IndexByte Tryz.lays217 ⟨s.toArray⟩ c w).mono ?_⟩
  rintro e w' ⟨rfl, rfl⟩
  exact ⟨rfl, Below.refl _ _⟩
theorem byte124 (s : List UInt8) (c : Int) : DRet 110 [.str s, .int .u8 c] (.int .i64 (Lib.indexByte s c.toNat.toUInt8)) := by
  refine acalls_go c110 (by simp [f110]) ?_
  simp only [f110, ↓gos, gop, Nat.reduceBEq, Nat.reduceAdd, Nat.reduceSub, Nat.reduceLeDiff, Nat.reduceMul, Int.reduceLE, Int.reduceLT, Int.reduceNe, Int.reduceToNat]
  refine call_ret (byte133 s c) rfl rfl ?_
  simp only [↓gos, gop, Nat.reduceBEq, Nat.reduceAdd, Nat.reduceSub, Nat.reduceLeDiff, Nat.reduceMul, Int.reduceLE, Int.reduceLT, Int.reduceNe, Int.reduceToNat]
  exact endi rfl
theorem ws58 (gr : Bool) (bs s : List UInt8) (hlen : bs.length + s.length ≤ 140737488355328) : ACalls ED 33 (Bld gr 57 5 bs) [.ptr 1 0, .str s] (fun h' d => h' = Bld gr 57 5 (bs ++ s) ∧ d = .undef) :=
  ws_prim (E := ED) Tryz.lays166 Tryz.extra166 rfl rfl rfl ⟨Tryz.f33, Tryz.func33, by kernel_rfl, by kernel_rfl⟩ gr bs s hlen
theorem str60 (gr : Bool) (bs : List UInt8) : ACalls ED 34 (Bld gr 57 5 bs) [.ptr 1 0] (fun h' d => h' = [.dead, .box [.undef, .undef]] ∧ d = .str bs) :=
  str_prim (E := ED) Tryz.lays169 Tryz.extra169 rfl rfl rfl ⟨Tryz.f34, Tryz.func34, by kernel_rfl, by kernel_rfl⟩ gr bs
/-- What is ahead of a sign, and what behind it. -/
def cut (c : UInt8) : List UInt8 → List UInt8 × List UInt8 × Bool
  | [] => ([], [], false)
  | x :: s => if x = c then ([], s, true) else (x :: (cut c s).1, (cut c s).2.1, (cut c s).2.2)
theorem index_cut (c : UInt8) : ∀ s : List UInt8, (Lib.indexByte s c < 0 ∧ cut c s = (s, [], false)) ∨ (∃ n : Nat, Lib.indexByte s c = n ∧ n < s.length ∧ cut c s = (s.take n, s.drop (n + 1), true))
  | [] => .inl ⟨by simp [Lib.indexByte], rfl⟩
  | x :: s => by
    unfold Lib.indexByte cut
    by_cases hx : x = c
    · rw [if_pos hx, if_pos (by simp [hx])]
      exact .inr ⟨0, rfl, by simp, rfl⟩
    · rw [if_neg hx, if_neg (by simp [hx])]
      rcases index_cut c s with ⟨h1, h2⟩ | ⟨n, h1, h2, h3⟩
      · have := Lib.indexByte_ge s c
        have e : Lib.indexByte s c = -1 := by omega
        rw [h2, if_pos (by rw [e]; rfl)]
        exact .inl ⟨by omega, rfl⟩
      · rw [h3, h1, if_neg (by first | (simp; done) | (simp; omega))]
        exact .inr ⟨n + 1, by omega, by simpa using h2, rfl⟩
theorem cut123 (s : List UInt8) (c : UInt8) (hs : s.length < 1000000000000) : DRet 58 [.str s, .str [c]] (.tup [.str (cut c s).1, .str (cut c s).2.1, .bool (cut c s).2.2]) := by
  refine acalls_go c58 (by simp [f58]) ?_
  simp only [f58, ↓gos, gop, Nat.reduceBEq, Nat.reduceAdd, Nat.reduceSub, Nat.reduceLeDiff, Nat.reduceMul, Int.reduceLE, Int.reduceLT, Int.reduceNe, Int.reduceToNat]
  refine call_ret (index131 s c) rfl rfl ?_
  simp only [↓gos, gop, Nat.reduceBEq, Nat.reduceAdd, Nat.reduceSub, Nat.reduceLeDiff, Nat.reduceMul, Int.reduceLE, Int.reduceLT, Int.reduceNe, Int.reduceToNat]
  rcases index_cut c s with ⟨h1, h2⟩ | ⟨n, h1, h2, h3⟩
  · refine ⟨fun h => absurd h (by omega), fun _ => ?_⟩
    rw [h2]
    exact finE_closed rfl ⟨rfl, rfl⟩
  · rw [h1]
    refine ⟨fun _ => ⟨by omega, by omega, fun v hv => ?_⟩, fun h => absurd h (by omega)⟩
    rw [wrap_i64 (by omega) (by omega)] at hv
    subst hv
    refine ⟨by omega, by omega, ?_⟩
    rw [h3]
    refine finE_closed rfl ⟨rfl, ?_⟩
    have e1 : ((n : Int)).toNat = n := by omega
    have e2 : ((n : Int) + 1).toNat = n + 1 := by omega
    rw [e1, e2, List.take_of_length_le (l := s.drop (n + 1)) (by simp)]
    rfl
theorem cut112 (s : List UInt8) (c : UInt8) (hs : s.length < 1000000000000) : DRet 27 [.str s, .str [c]] (.tup [.str (cut c s).1, .str (cut c s).2.1, .bool (cut c s).2.2]) := by
  refine acalls_go c27 (by simp [f27]) ?_
  simp only [f27, ↓gos, gop, Nat.reduceBEq, Nat.reduceAdd, Nat.reduceSub, Nat.reduceLeDiff, Nat.reduceMul, Int.reduceLE, Int.reduceLT, Int.reduceNe, Int.reduceToNat]
  refine call_ret (cut123 s c hs) rfl rfl ?_
  simp only [↓gos, gop, Nat.reduceBEq, Nat.reduceAdd, Nat.reduceSub, Nat.reduceLeDiff, Nat.reduceMul, Int.reduceLE, Int.reduceLT, Int.reduceNe, Int.reduceToNat]
  exact finE_closed rfl ⟨rfl, rfl⟩
theorem pre118 (s p : List UInt8) (hs : s.length < 1000000000000) (hp : p.length < 1000000000000) : DRet 59 [.str s, .str p] (.bool (p.isPrefixOf s)) := by
  refine acalls_go c59 (by simp [f59]) ?_
  simp only [f59, ↓gos, gop, Nat.reduceBEq, Nat.reduceAdd, Nat.reduceSub, Nat.reduceLeDiff, Nat.reduceMul, Int.reduceLE, Int.reduceLT, Int.reduceNe, Int.reduceToNat]
  have hiff : p.isPrefixOf s = true ↔ s.take p.length = p := by
    rw [List.isPrefixOf_iff_prefix, List.prefix_iff_eq_take]
    exact eq_comm
  refine ⟨fun h => ⟨h, fun q => endb ?_, fun q => endb ?_⟩, fun h => endb ?_⟩
  · rw [hiff.2 q]
  · cases hp : p.isPrefixOf s
    · rfl
    · exact absurd (hiff.1 hp) q
  · cases hp : p.isPrefixOf s
    · rfl
    · have := congrArg List.length (hiff.1 hp)
      rw [List.length_take] at this
      omega
theorem pre113 (s p : List UInt8) (hs : s.length < 1000000000000) (hp : p.length < 1000000000000) : DRet 28 [.str s, .str p] (.bool (p.isPrefixOf s)) := by
  refine acalls_go c28 (by simp [f28]) ?_
  simp only [f28, ↓gos, gop, Nat.reduceBEq, Nat.reduceAdd, Nat.reduceSub, Nat.reduceLeDiff, Nat.reduceMul, Int.reduceLE, Int.reduceLT, Int.reduceNe, Int.reduceToNat]
  refine call_ret (pre118 s p hs hp) rfl rfl ?_
  simp only [↓gos, gop, Nat.reduceBEq, Nat.reduceAdd, Nat.reduceSub, Nat.reduceLeDiff, Nat.reduceMul, Int.reduceLE, Int.reduceLT, Int.reduceNe, Int.reduceToNat]
  exact endb rfl
/-- What is behind what a text begins with. -/
def behind (p s : List UInt8) : List UInt8 × Bool := if p.isPrefixOf s then (s.drop p.length, true) else (s, false)
theorem cutp107 (s p : List UInt8) (hs : s.length < 1000000000000) (hp : p.length < 1000000000000) : DRet 137 [.str s, .str p] (.tup [.str (behind p s).1, .bool (behind p s).2]) := by
  refine acalls_go c137 (by simp [f137]) ?_
  simp only [f137, ↓gos, gop, Nat.reduceBEq, Nat.reduceAdd, Nat.reduceSub, Nat.reduceLeDiff, Nat.reduceMul, Int.reduceLE, Int.reduceLT, Int.reduceNe, Int.reduceToNat]
  refine call_ret (pre118 s p hs hp) rfl rfl ?_
  unfold behind
  cases h : p.isPrefixOf s
  · simp only [↓gos, gop, Nat.reduceBEq, Nat.reduceAdd, Nat.reduceSub, Nat.reduceLeDiff, Nat.reduceMul, Int.reduceLE, Int.reduceLT, Int.reduceNe, Int.reduceToNat]
    exact finE_closed rfl ⟨rfl, rfl⟩
  · have hle : p.length ≤ s.length := (List.isPrefixOf_iff_prefix.1 h).length_le
    simp only [↓gos, gop, Nat.reduceBEq, Nat.reduceAdd, Nat.reduceSub, Nat.reduceLeDiff, Nat.reduceMul, Int.reduceLE, Int.reduceLT, Int.reduceNe, Int.reduceToNat]
    refine ⟨by omega, finE_closed rfl ⟨rfl, ?_⟩⟩
    rw [List.take_of_length_le (l := s.drop p.length) (by simp)]
    rfl
theorem cutp84 (s p : List UInt8) (hs : s.length < 1000000000000) (hp : p.length < 1000000000000) : DRet 119 [.str s, .str p] (.tup [.str (behind p s).1, .bool (behind p s).2]) := by
  refine acalls_go c119 (by simp [f119]) ?_
  simp only [f119, ↓gos, gop, Nat.reduceBEq, Nat.reduceAdd, Nat.reduceSub, Nat.reduceLeDiff, Nat.reduceMul, Int.reduceLE, Int.reduceLT, Int.reduceNe, Int.reduceToNat]
  refine call_ret (cutp107 s p hs hp) rfl rfl ?_
  simp only [↓gos, gop, Nat.reduceBEq, Nat.reduceAdd, Nat.reduceSub, Nat.reduceLeDiff, Nat.reduceMul, Int.reduceLE, Int.reduceLT, Int.reduceNe, Int.reduceToNat]
  exact finE_closed rfl ⟨rfl, rfl⟩
/-- The field between quotes ahead of a text, what is behind it, and whether it has an end. -/
def qd : List UInt8 → List UInt8 × List UInt8 × Bool
  | [] => ([], [], false)
  | [c] => if c = 34 then ([], [], true) else ([c], [], false)
  | c :: d :: s => if c = 34 then (if d = 34 then (34 :: (qd s).1, (qd s).2.1, (qd s).2.2) else ([], d :: s, true)) else (c :: (qd (d :: s)).1, (qd (d :: s)).2.1, (qd (d :: s)).2.2)
theorem cut_len2 (c : UInt8) (s : List UInt8) (h : (cut c s).2.2 = true) : (cut c s).1.length + (cut c s).2.1.length + 1 = s.length := by
  rcases index_cut c s with ⟨_, e⟩ | ⟨n, _, h2, e⟩ <;> rw [e] at h ⊢
  · cases h
  · simp; omega
theorem qd_cut : ∀ t : List UInt8, qd t = if (cut 34 t).2.2 = true then (if [34].isPrefixOf (cut 34 t).2.1 = true then ((cut 34 t).1 ++ 34 :: (qd ((cut 34 t).2.1.drop 1)).1, (qd ((cut 34 t).2.1.drop 1)).2.1, (qd ((cut 34 t).2.1.drop 1)).2.2)
      else ((cut 34 t).1, (cut 34 t).2.1, true)) else ((cut 34 t).1, [], false)
  | [] => rfl
  | [c] => by
    by_cases hc : c = 34
    · subst hc; rfl
    · simp [qd, cut, hc]
  | c :: d :: s => by
    by_cases hc : c = 34
    · subst hc
      by_cases hd : d = 34
      · subst hd; simp [qd, cut, List.isPrefixOf]
      · have : (34 == d) = false := by simpa using fun e => hd e.symm
        simp [qd, cut, List.isPrefixOf, hd, this]
    · have ih := qd_cut (d :: s)
      rw [qd, if_neg hc, cut, if_neg hc, ih]
      simp only
      split
      · split <;> rfl
      · rfl
theorem cut_len (c : UInt8) (s : List UInt8) : (cut c s).1.length ≤ s.length ∧ (cut c s).2.1.length ≤ s.length := by
  rcases index_cut c s with ⟨_, h⟩ | ⟨n, _, _, h⟩ <;> rw [h] <;> simp <;> omega
end Go.Proofs.Ut
