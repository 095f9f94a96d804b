/- Characters and their bytes: put behind one another, cut, written. Nothing of any program. -/
import Derived.Test.YtgamnnfndidclaaGreatDoorYFoUtF
import Derived.Test.YtgamnnfndidclaaGreatDoorAiEnd
set_option linter.all false
namespace Go.Proofs.Ut
open Go.Ai Classical
set_option linter.unusedSimpArgs false
set_option maxHeartbeats 1000000
set_option maxRecDepth 100000
theorem D_shift (a b : List UInt8) (j : Nat) : D (a ++ b) (a.length + j) = D b j := by
  rw [← decodeL_at, ← decodeL_at, List.drop_append, List.drop_eq_nil_of_le (by omega), Nat.add_sub_cancel_left, List.nil_append]
theorem runAt_shift (p : Int → Bool) (a b : List UInt8) : ∀ n j, b.length - j ≤ n → runAt p (a ++ b) (a.length + j) = runAt p b j := fun n => by
  have hl : (a ++ b).length = a.length + b.length := List.length_append
  induction n with
  | zero => intro j h; rw [runAt_end _ _ _ (by omega), runAt_end _ _ _ (by omega)]
  | succ n ih =>
    intro j h
    by_cases hj : j < b.length
    · have := D_len b j hj
      rw [runAt_step p (a ++ b) _ (by omega), runAt_step p b j hj, D_shift, Nat.add_assoc, ih _ (by omega)]
    · rw [runAt_end _ _ _ (by omega), runAt_end _ _ _ (by omega)]
theorem rlAt_shift (a b : List UInt8) : ∀ n j, b.length - j ≤ n → rlAt (a ++ b) (a.length + j) = rlAt b j := fun n => by
  have hl : (a ++ b).length = a.length + b.length := List.length_append
  induction n with
  | zero => intro j h; rw [rlAt_end _ _ (by omega), rlAt_end _ _ (by omega)]
  | succ n ih =>
    intro j h
    by_cases hj : j < b.length
    · have := D_len b j hj
      rw [rlAt_step (a ++ b) _ (by omega), rlAt_step b j hj, D_shift, Nat.add_assoc, ih _ (by omega)]
    · rw [rlAt_end _ _ (by omega), rlAt_end _ _ (by omega)]
def en (c : Int) : List UInt8 := (Utf8.encode c).data.toList
theorem en_eq {c : Nat} (h : okC c) : en c = if c < 128 then [UInt8.ofNat c] else if c < 2048 then [UInt8.ofNat (192 + c / 64), UInt8.ofNat (128 + c % 64)] else if c < 65536 then [UInt8.ofNat (224 + c / 4096), UInt8.ofNat (128 + c / 64 % 64), UInt8.ofNat (128 + c % 64)] else [UInt8.ofNat (240 + c / 262144), UInt8.ofNat (128 + c / 4096 % 64), UInt8.ofNat (128 + c / 64 % 64), UInt8.ofNat (128 + c % 64)] := by
  unfold en Utf8.encode
  rw [if_pos ((valid_iff c).2 h)]
  simp only [Int.toNat_natCast]
  split
  · rfl
  · split
    · rfl
    · split <;> rfl
theorem toNat_of (n : Nat) (h : n < 256) : (UInt8.ofNat n).toNat = n := by simp; omega
theorem D_en (c : Nat) (h : okC c) (t : List UInt8) : D (en c ++ t) 0 = (c, (en c).length) := by
  have ho := h
  unfold okC at ho
  rw [en_eq h]
  split
  · rename_i h1
    have b0 : by_ ([UInt8.ofNat c] ++ t) 0 = c := toNat_of c (by omega)
    rw [D1 (by rw [b0]; exact h1), b0]; rfl
  split
  · rename_i h1 h2
    have b0 : by_ ([UInt8.ofNat (192 + c / 64), UInt8.ofNat (128 + c % 64)] ++ t) 0 = 192 + c / 64 := toNat_of _ (by omega)
    have b1 : by_ ([UInt8.ofNat (192 + c / 64), UInt8.ofNat (128 + c % 64)] ++ t) (0 + 1) = 128 + c % 64 := toNat_of _ (by omega)
    rw [D2 (by rw [b0]; omega), b0, b1, if_pos ⟨by simp, by omega⟩, if_pos (by omega)]
    exact Prod.ext (by simp only; omega) rfl
  split
  · rename_i h1 h2 h3
    have b0 : by_ ([UInt8.ofNat (224 + c / 4096), UInt8.ofNat (128 + c / 64 % 64), UInt8.ofNat (128 + c % 64)] ++ t) 0 = 224 + c / 4096 := toNat_of _ (by omega)
    have b1 : by_ ([UInt8.ofNat (224 + c / 4096), UInt8.ofNat (128 + c / 64 % 64), UInt8.ofNat (128 + c % 64)] ++ t) (0 + 1) = 128 + c / 64 % 64 := toNat_of _ (by omega)
    have b2 : by_ ([UInt8.ofNat (224 + c / 4096), UInt8.ofNat (128 + c / 64 % 64), UInt8.ofNat (128 + c % 64)] ++ t) (0 + 2) = 128 + c % 64 := toNat_of _ (by omega)
    have e : (224 + c / 4096) % 16 * 4096 + (128 + c / 64 % 64) % 64 * 64 + (128 + c % 64) % 64 = c := by omega
    rw [D3 (by rw [b0]; omega), b0, b1, b2, if_pos ⟨⟨by simp, by omega⟩, by simp, by omega⟩, e, if_pos ⟨by omega, h⟩]
    rfl
  · rename_i h1 h2 h3
    have b0 : by_ ([UInt8.ofNat (240 + c / 262144), UInt8.ofNat (128 + c / 4096 % 64), UInt8.ofNat (128 + c / 64 % 64), UInt8.ofNat (128 + c % 64)] ++ t) 0 = 240 + c / 262144 := toNat_of _ (by omega)
    have b1 : by_ ([UInt8.ofNat (240 + c / 262144), UInt8.ofNat (128 + c / 4096 % 64), UInt8.ofNat (128 + c / 64 % 64), UInt8.ofNat (128 + c % 64)] ++ t) (0 + 1) = 128 + c / 4096 % 64 := toNat_of _ (by omega)
    have b2 : by_ ([UInt8.ofNat (240 + c / 262144), UInt8.ofNat (128 + c / 4096 % 64), UInt8.ofNat (128 + c / 64 % 64), UInt8.ofNat (128 + c % 64)] ++ t) (0 + 2) = 128 + c / 64 % 64 := toNat_of _ (by omega)
    have b3 : by_ ([UInt8.ofNat (240 + c / 262144), UInt8.ofNat (128 + c / 4096 % 64), UInt8.ofNat (128 + c / 64 % 64), UInt8.ofNat (128 + c % 64)] ++ t) (0 + 3) = 128 + c % 64 := toNat_of _ (by omega)
    have e : (240 + c / 262144) % 8 * 262144 + (128 + c / 4096 % 64) % 64 * 4096 + (128 + c / 64 % 64) % 64 * 64 + (128 + c % 64) % 64 = c := by omega
    rw [D4 (by rw [b0]; omega), b0, b1, b2, b3, if_pos ⟨⟨by simp, by omega⟩, ⟨by simp, by omega⟩, by simp, by omega⟩, e, if_pos ⟨by omega, h⟩]
    rfl
theorem en_len {c : Nat} (h : okC c) : 1 ≤ (en c).length ∧ (en c).length ≤ 4 ∧ (2 ≤ (en c).length ↔ 128 ≤ c) := by
  rw [en_eq h]
  split
  · simp; omega
  split
  · simp; omega
  split
  · simp; omega
  · simp; omega
theorem en_good {c : Nat} (h : okC c) (t : List UInt8) : D (en c ++ t) 0 ≠ (65533, 1) := by
  rw [D_en c h t]
  intro q
  obtain ⟨q1, q2⟩ := Prod.mk.inj q
  have := (en_len h).2.2
  omega
theorem run_en (p : Int → Bool) {c : Nat} (h : okC c) (t : List UInt8) : runAt p (en c ++ t) 0 = (p c && runAt p t 0) := by
  have := en_len h
  rw [runAt_step p _ 0 (by simp; omega), if_neg (en_good h t), D_en c h t, Nat.zero_add]
  have := runAt_shift p (en c) t _ 0 (Nat.le_refl _)
  rw [Nat.add_zero] at this
  rw [this]
theorem rl_en {c : Nat} (h : okC c) (t : List UInt8) : rlAt (en c ++ t) 0 = (c : Int) :: rlAt t 0 := by
  have := en_len h
  rw [rlAt_step _ 0 (by simp; omega), D_en c h t, Nat.zero_add]
  have := rlAt_shift (en c) t _ 0 (Nat.le_refl _)
  rw [Nat.add_zero] at this
  rw [this]
theorem run_ens (p : Int → Bool) (t : List UInt8) : ∀ cs : List Nat, (∀ c ∈ cs, okC c) → runAt p (cs.flatMap (fun c : Nat => en c) ++ t) 0 = (cs.all (fun c : Nat => p c) && runAt p t 0)
  | [], _ => by simp
  | c :: cs, h => by
    rw [List.flatMap_cons, List.append_assoc, run_en p (h c (by simp)), run_ens p t cs (fun x hx => h x (by simp [hx])), List.all_cons, Bool.and_assoc]
theorem rl_ens (t : List UInt8) : ∀ cs : List Nat, (∀ c ∈ cs, okC c) → rlAt (cs.flatMap (fun c : Nat => en c) ++ t) 0 = cs.map (fun c : Nat => (c : Int)) ++ rlAt t 0
  | [], _ => by simp
  | c :: cs, h => by
    rw [List.flatMap_cons, List.append_assoc, rl_en (h c (by simp)), rl_ens t cs (fun x hx => h x (by simp [hx])), List.map_cons, List.cons_append]
theorem run_nil (p : Int → Bool) : runAt p [] 0 = true := rfl
theorem rl_nil : rlAt [] 0 = [] := rfl
theorem shown_may (c : Int) : shownB c = (mayB c && decide (32 ≤ c)) := by
  unfold mayB shownB
  rw [Bool.eq_iff_iff]
  simp only [Bool.or_eq_true, Bool.and_eq_true, decide_eq_true_eq]
  omega
theorem run_and (p q : Int → Bool) (s : List UInt8) : ∀ n i, s.length - i ≤ n → runAt (fun c => p c && q c) s i = (runAt p s i && (rlAt s i).all q) := fun n => by
  induction n with
  | zero => intro i h; rw [runAt_end _ _ _ (by omega), runAt_end _ _ _ (by omega), rlAt_end _ _ (by omega)]; rfl
  | succ n ih =>
    intro i h
    by_cases hi : i < s.length
    · have := D_len s i hi
      rw [runAt_step _ s i hi, runAt_step p s i hi, rlAt_step s i hi]
      by_cases hb : D s i = (65533, 1)
      · rw [if_pos hb, if_pos hb]; rfl
      · rw [if_neg hb, if_neg hb, ih _ (by omega), List.all_cons]
        cases p (D s i).1 <;> cases q (D s i).1 <;> cases runAt p s (i + (D s i).2) <;> rfl
    · rw [runAt_end _ _ _ hi, runAt_end _ _ _ hi, rlAt_end _ _ hi]; rfl
theorem run_shown (s : List UInt8) : runAt shownB s 0 = (runAt mayB s 0 && (rs s).all (fun c => decide (32 ≤ c))) := by
  rw [show shownB = fun c => mayB c && decide (32 ≤ c) from funext shown_may, run_and _ _ s _ 0 (Nat.le_refl _)]
  unfold rs
  cases runAt mayB s 0 <;> rfl
end Go.Proofs.Ut

/- The law of layer 1: awake, UtfTells. -/
namespace Go.Proofs.Ut
open Go.Ai Classical
set_option linter.unusedSimpArgs false
set_option maxHeartbeats 1000000
set_option maxRecDepth 100000
abbrev DRet (f : Nat) (args : List DV) (D : DV) : Prop := ACalls ED f [] args fun h d => h = [] ∧ d = D
theorem valid_c (s : List UInt8) (hs : s.length < 100000000000) : DRet 64 [.str s] (.bool (runAt mayB s 0)) := by
  have := valid16 rfl vED s (by omega)
  rw [valid_runAt] at this
  exact this
theorem ascii_runes : ∀ s : List UInt8, (∀ b ∈ s, b.toNat < 128) → s = (s.map (·.toNat)).flatMap (fun c : Nat => en c)
  | [], _ => rfl
  | b :: s, h => by
    have hb := h b (by simp)
    rw [List.map_cons, List.flatMap_cons, ← ascii_runes s (fun x hx => h x (by simp [hx])), en_eq (by unfold okC; omega), if_pos hb]
    simp
theorem run_ascii (p : Int → Bool) (s : List UInt8) (h : ∀ b ∈ s, b.toNat < 128) : runAt p s 0 = s.all (fun b => p b.toNat) ∧ rlAt s 0 = s.map (fun b => (b.toNat : Int)) := by
  have e := ascii_runes s h
  have ho : ∀ c ∈ s.map (·.toNat), okC c := fun c hc => by
    obtain ⟨b, hb, rfl⟩ := List.mem_map.1 hc
    have := h b hb
    unfold okC; omega
  constructor
  · conv => lhs; rw [e]
    have := run_ens p [] _ ho
    rw [List.append_nil, run_nil, Bool.and_true] at this
    rw [this, List.all_map]; rfl
  · conv => lhs; rw [e]
    have := rl_ens [] _ ho
    rw [List.append_nil, rl_nil, List.append_nil] at this
    rw [this, List.map_map]; rfl
theorem rs_ascii (s : List UInt8) (h : ∀ b ∈ s, b.toNat < 128) (hm : s.all (fun b => mayB b.toNat) = true) : rs s = s.map (fun b => (b.toNat : Int)) := by
  unfold rs
  rw [(run_ascii mayB s h).1, hm, (run_ascii mayB s h).2]; rfl
theorem rs_len (s : List UInt8) : (rs s).length ≤ s.length := by
  unfold rs; split
  · exact runes_len s _ 0
  · simp
theorem dn_row {h : List AObj} {i n : Nat} {l : List Int} {c : Option Nat} (hi : h[i]? = some (.arr 1 (l.map num))) (hn : n = l.length) : DV.dn [] h (.osl 1 i 0 n c) = .sl 1 (l.map num) := dn_osl hi (by simpa using hn)
end Go.Proofs.Ut

/- A loop of a known number of rounds, taken round by round. -/
namespace Go.Ai
theorem chk_i {p q : Prop} (h : p) (k : q) : chk p q := ⟨h, k⟩
section
variable {E : Env} {m0 : Nat} {post : AExit → St → Prop} {ks : List Fr} {b : ACode} {n : Nat} {L : List (Nat × DV)} {h : List AObj}
end
theorem call_clo {E : Env} {L : List (Nat × DV)} {h : List AObj} {b : Bool} {f : Nat} {ds : List DV} {D : DV} {K : DV → St → Prop} (hc : ACalls E f [] ds fun h d => h = [] ∧ d = D) (hcl : ds.all DV.closed = true) (hD : D.closed = true) (hk : K D (sta L h)) : acall E b f ds K (sta L h) :=
  .go (.inr (.inl ⟨_, hc, fun d hd => List.all_eq_true.1 hcl d hd, ⟨[], D, rfl, rfl⟩, fun h' d hp => by
    obtain ⟨rfl, rfl⟩ := hp
    rw [closed_ren hD]
    have e : ({ sta L h with h := (sta L h).h ++ ([] : List AObj).map (renO ((sta L h).h.length + ·)) } : St) = sta L h := by simp [sta]
    rw [e]; exact hk⟩))
theorem frz_row {F : List Nat} {h : List AObj} {sz i n : Nat} {es : List (List DV)} {c : Option Nat} (hi : h[i]? = some (.arr sz es)) (hn : n = es.length) (hF : F.contains i = true) : rvd (frzDs F h [.osl sz i 0 n c]) = .sl sz es := by
  subst hn
  have hF' : i ∈ F := by simpa using hF
  simp [rvd, frzDs, frzD, DV.low, frz, hF', hi]
def finEF (m0 : Nat) (post : List AObj → DV → Prop) (o : Option (List DV)) (h : List AObj) : Prop := ∃ ds, o = some ds ∧ ∃ F : List Nat, (∀ l ∈ F, m0 ≤ l) ∧ finD m0 post (frzDs F h ds) (frzH F h 0 h)
@[congr] theorem finEF_congr {m0 : Nat} {post : List AObj → DV → Prop} {o o' : Option (List DV)} {h : List AObj} (e : o = o') : finEF m0 post o h = finEF m0 post o' h := by rw [e]
section
variable {E : Env} {m0 : Nat} {res : List RV} {post : List AObj → DV → Prop} {L : List (Nat × DV)} {h : List AObj}
theorem finF_e : finF m0 res post .ret (sta L h) = finEF m0 post (rvl (sta L h) res) h := by
  unfold finF finEF
  simp only [sta_freeze]; rfl
theorem finF_en : finF m0 res post .normal (sta L h) = finEF m0 post (rvl (sta L h) res) h := by
  unfold finF finEF
  simp only [sta_freeze]; rfl
theorem acalls_goF {f : Nat} {af : AFun} {h : List AObj} {args : List DV} {post : List AObj → DV → Prop} (hc : cfun E.P f = some af) (hle : args.length ≤ af.nt)
    (hk : goN E h.length (finF h.length af.res post) [] af.body (args.zipIdx.map fun p => (p.2, p.1)) h) : ACalls E f h args post := by
  refine acalls_of_awpF hc hle ?_
  have e : (⟨fun s => args.getD s .undef, h⟩ : St) = sta (args.zipIdx.map fun p => (p.2, p.1)) h := by
    have e2 : (fun s => args.getD s .undef) = slots (args.zipIdx.map fun p => (p.2, p.1)) := by
      funext s
      have key : ∀ (l : List DV) (k : Nat), slots ((l.zipIdx k).map fun p => (p.2, p.1)) (k + s) = l.getD s .undef := by
        intro l
        induction l generalizing s with
        | nil => intro k; simp [slots]
        | cons d l ih =>
          intro k
          rw [List.zipIdx_cons, List.map_cons]
          simp only [slots]
          cases s with
          | zero => simp
          | succ s =>
            have : ¬ k + (s + 1) = k := by omega
            rw [if_neg this]
            have := ih s (k + 1)
            rw [show k + 1 + s = k + (s + 1) by omega] at this
            rw [this]; simp
      have := key args 0
      rw [Nat.zero_add] at this
      exact this.symm
    rw [e2]; rfl
  rw [e]
  exact hk
theorem finE_D {ds : List DV} (hf : finE m0 post (some ds) h) : finD m0 post ds h := by
  obtain ⟨ds', e, hf⟩ := hf
  cases e
  exact hf
theorem end_fc (F : List Nat) {ds : List DV} {D : DV} (hD : rvd (frzDs F h ds) = D) (hc : D.closed = true) (hp : post [] D) : finEF 0 post (some ds) h := by
  subst hD
  exact ⟨ds, rfl, F, fun _ _ => Nat.zero_le _, finE_D (finE_closed hc hp)⟩
end
def finGE (m0 : Nat) (post : List AObj → DV → Prop) (h0 : List AObj) (args : List DV) (o : Option (List DV)) (L : List (Nat × DV)) (h : List AObj) : Prop :=
  finE m0 post o h ∧ ∀ l, l < m0 → (∃ cs, h0[l]? = some (.box cs)) ∨ ∃ i sz off n c, slots L (1000000 + i) = .osl sz l off n c ∧ 0 < n ∧ args[i]? = some (.osl sz l off n c)
@[congr] theorem finGE_congr {m0 : Nat} {post : List AObj → DV → Prop} {h0 : List AObj} {args : List DV} {o o' : Option (List DV)} {L : List (Nat × DV)} {h : List AObj} (e : o = o') : finGE m0 post h0 args o L h = finGE m0 post h0 args o' L h := by rw [e]
section
variable {E : Env} {m0 : Nat} {res : List RV} {post : List AObj → DV → Prop} {L : List (Nat × DV)} {h h0 : List AObj} {args : List DV}
end
end Go.Ai
