/- Characters and their bytes: put behind one another, cut, written. Nothing of any program. -/
import Derived.Test.YtgamnnfndidclaaGreatDoorYFoUtF
import Derived.Test.YtgamnnfndidclaaGreatDoorAiEnd
set_option linter.all false
namespace Go.Proofs.Ut
open Go.Ai Classical
set_option linter.unusedSimpArgs false
set_option maxHeartbeats 1000000
set_option maxRecDepth 100000
theorem D_shift (a b : List UInt8) (j : Nat) : D (a ++ b) (a.length + j) = D b j := by
  rw [← decodeL_at, ← decodeL_at, List.drop_append, List.drop_eq_nil_of_le (by omega), Nat.add_sub_cancel_left, List.nil_append]
def en (c : Int) : List UInt8 := (Utf8.encode c).data.toList
theorem en_eq {c : Nat} (h : okC c) : en c = if c < 128 then [UInt8.ofNat c] else if c < 2048 then [UInt8.ofNat (192 + c / 64), UInt8.ofNat (128 + c % 64)] else if c < 65536 then [UInt8.ofNat (224 + c / 4096), UInt8.ofNat (128 + c / 64 % 64), UInt8.ofNat (128 + c % 64)] else [UInt8.ofNat (240 + c / 262144), UInt8.ofNat (128 + c / 4096 % 64), UInt8.ofNat (128 + c / 64 % 64), UInt8.ofNat (128 + c % 64)] := by
  unfold en Utf8.encode
  rw [if_pos ((valid_iff c).2 h)]
  simp only [Int.toNat_natCast]
  split
  · rfl
  · split
    · rfl
    · split <;> rfl
theorem toNat_of (n : Nat) (h : n < 256) : (UInt8.ofNat n).toNat = n := by simp; omega
end Go.Proofs.Ut

/- The law of layer 1: awake, UtfTells. -/
namespace Go.Proofs.Ut
open Go.Ai Classical
set_option linter.unusedSimpArgs false
set_option maxHeartbeats 1000000
set_option maxRecDepth 100000
abbrev DRet (f : Nat) (args : List DV) (D : DV) : Prop := ACalls ED f [] args fun h d => h = [] ∧ d = D
theorem valid_c (s : List UInt8) (hs : s.length < 100000000000) : DRet 64 [.str s] (.bool (runAt mayB s 0)) := by
  have := valid16 rfl vED s (by omega)
  rw [valid_runAt] at this
  exact this
theorem rs_len (s : List UInt8) : (rs s).length ≤ s.length := by
  unfold rs; split
  · exact runes_len s _ 0
  · simp
theorem dn_row {h : List AObj} {i n : Nat} {l : List Int} {c : Option Nat} (hi : h[i]? = some (.arr 1 (l.map num))) (hn : n = l.length) : DV.dn [] h (.osl 1 i 0 n c) = .sl 1 (l.map num) := dn_osl hi (by simpa using hn)
end Go.Proofs.Ut

/- A loop of a known number of rounds, taken round by round. -/
namespace Go.Ai
theorem chk_i {p q : Prop} (h : p) (k : q) : chk p q := ⟨h, k⟩
def Un (E : Env) (m0 : Nat) (post : AExit → St → Prop) (ks : List Fr) (b : ACode) (n : Nat) (st' : St) : Prop :=
  ∃ g : Nat × St, ∃ _ : g.1 < n, Wk m0 st' g.2 ∧ awp E m0 b (fun e s => match e with | .normal => Un E m0 post ks b g.1 s | e => kont E m0 post ks e s) g.2
termination_by n
section
variable {E : Env} {m0 : Nat} {post : AExit → St → Prop} {ks : List Fr} {b : ACode} {n : Nat} {L : List (Nat × DV)} {h : List AObj}
theorem un_kont : kont E m0 post (.inv (Un E m0 post ks b n) :: ks) = fun e s => match e with | .normal => Un E m0 post ks b n s | e => kont E m0 post ks e s := by
  funext e s; cases e <;> rfl
theorem wk_same (m0 : Nat) (st : St) : Wk m0 st st :=
  ⟨.inl ⟨max m0 st.h.length, Nat.le_max_left _ _, (List.take_of_length_le (Nat.le_max_right _ _)).symm, fun _ => .inr ⟨rfl, fun h => absurd h (Nat.not_lt.2 (Nat.le_max_right _ _))⟩, fun h => absurd h (Nat.not_lt.2 (Nat.le_max_right _ _))⟩⟩
theorem goN_un (n : Nat) (h0 : goN E m0 post (.inv (Un E m0 post ks b n) :: ks) b L h) : goN E m0 post ks (.loop b) L h := by
  refine ⟨Nat × St, fun g => g.2, fun g => awp E m0 b (kont E m0 post (.inv (Un E m0 post ks b g.1) :: ks)) g.2, fun g => g.1, ⟨(n, sta L h), wk_same m0 _, h0⟩, fun g hg => ?_⟩
  have e : (fun (e : AExit) (s : St) => match e with | .normal => ∃ g' : Nat × St, Wk m0 s g'.2 ∧ awp E m0 b (kont E m0 post (.inv (Un E m0 post ks b g'.1) :: ks)) g'.2 ∧ g'.1 < g.1 | e => kont E m0 post ks e s) = kont E m0 post (.inv (Un E m0 post ks b g.1) :: ks) := by
    funext e s
    cases e <;> first | rfl | skip
    show _ = Un E m0 post ks b g.1 s
    rw [Un]
    apply propext
    constructor
    · rintro ⟨g', h1, h2, h3⟩; exact ⟨g', h3, h1, by rw [← un_kont]; exact h2⟩
    · rintro ⟨g', h3, h1, h2⟩; exact ⟨g', h1, by rw [un_kont]; exact h2, h3⟩
  show awp E m0 b (fun e s => match e with | .normal => ∃ g' : Nat × St, Wk m0 s g'.2 ∧ awp E m0 b (kont E m0 post (.inv (Un E m0 post ks b g'.1) :: ks)) g'.2 ∧ g'.1 < g.1 | e => kont E m0 post ks e s) g.2
  rw [e]
  exact hg
theorem un_w {L' : List (Nat × DV)} {h' : List AObj} (hw : Wk m0 (sta L h) (sta L' h')) (hk : goN E m0 post (.inv (Un E m0 post ks b n) :: ks) b L' h') : Un E m0 post ks b (n + 1) (sta L h) := by
  rw [Un]
  exact ⟨(n, sta L' h'), Nat.lt_succ_self n, hw, by rw [← un_kont]; exact hk⟩
theorem un_go (hk : goN E m0 post (.inv (Un E m0 post ks b n) :: ks) b L h) : Un E m0 post ks b (n + 1) (sta L h) := un_w (wk_same m0 _) hk
theorem knm_emp {l : List AOper} {dst : Option Nat} {e : Bool} {k : Nat} {st : St} : knm E m0 post ks dst l (.emp e k) st = kgo E m0 post ks dst l (.emp e k) st := rfl
end
theorem clr_osl {E : Env} {L : List (Nat × DV)} {h : List AObj} {sz i off n : Nat} {c : Option Nat} {z : List DV} {es : List (List DV)} {K : DV → St → Prop} (hi : h[i]? = some (.arr sz es)) (hb : off + n ≤ es.length)
    (hk : K (.tup []) (sta L (h.set i (.arr sz (es.take off ++ List.replicate n z ++ es.drop (off + n)))))) : clearD sz z (.osl sz i off n c) K (sta L h) := ⟨rfl, es, hi, hb, hk⟩
theorem call_clo {E : Env} {L : List (Nat × DV)} {h : List AObj} {b : Bool} {f : Nat} {ds : List DV} {D : DV} {K : DV → St → Prop} (hc : ACalls E f [] ds fun h d => h = [] ∧ d = D) (hcl : ds.all DV.closed = true) (hD : D.closed = true) (hk : K D (sta L h)) : acall E b f ds K (sta L h) :=
  .go (.inr (.inl ⟨_, hc, fun d hd => List.all_eq_true.1 hcl d hd, ⟨[], D, rfl, rfl⟩, fun h' d hp => by
    obtain ⟨rfl, rfl⟩ := hp
    rw [closed_ren hD]
    have e : ({ sta L h with h := (sta L h).h ++ ([] : List AObj).map (renO ((sta L h).h.length + ·)) } : St) = sta L h := by simp [sta]
    rw [e]; exact hk⟩))
theorem frz_row {F : List Nat} {h : List AObj} {sz i n : Nat} {es : List (List DV)} {c : Option Nat} (hi : h[i]? = some (.arr sz es)) (hn : n = es.length) (hF : F.contains i = true) : rvd (frzDs F h [.osl sz i 0 n c]) = .sl sz es := by
  subst hn
  have hF' : i ∈ F := by simpa using hF
  simp [rvd, frzDs, frzD, DV.low, frz, hF', hi]
def finEF (m0 : Nat) (post : List AObj → DV → Prop) (o : Option (List DV)) (h : List AObj) : Prop := ∃ ds, o = some ds ∧ ∃ F : List Nat, (∀ l ∈ F, m0 ≤ l) ∧ finD m0 post (frzDs F h ds) (frzH F h 0 h)
@[congr] theorem finEF_congr {m0 : Nat} {post : List AObj → DV → Prop} {o o' : Option (List DV)} {h : List AObj} (e : o = o') : finEF m0 post o h = finEF m0 post o' h := by rw [e]
section
variable {E : Env} {m0 : Nat} {res : List RV} {post : List AObj → DV → Prop} {L : List (Nat × DV)} {h : List AObj}
theorem finF_e : finF m0 res post .ret (sta L h) = finEF m0 post (rvl (sta L h) res) h := by
  unfold finF finEF
  simp only [sta_freeze]; rfl
theorem finF_en : finF m0 res post .normal (sta L h) = finEF m0 post (rvl (sta L h) res) h := by
  unfold finF finEF
  simp only [sta_freeze]; rfl
theorem acalls_goF {f : Nat} {af : AFun} {h : List AObj} {args : List DV} {post : List AObj → DV → Prop} (hc : cfun E.P f = some af) (hle : args.length ≤ af.nt)
    (hk : goN E h.length (finF h.length af.res post) [] af.body (args.zipIdx.map fun p => (p.2, p.1)) h) : ACalls E f h args post := by
  refine acalls_of_awpF hc hle ?_
  have e : (⟨fun s => args.getD s .undef, h⟩ : St) = sta (args.zipIdx.map fun p => (p.2, p.1)) h := by
    have e2 : (fun s => args.getD s .undef) = slots (args.zipIdx.map fun p => (p.2, p.1)) := by
      funext s
      have key : ∀ (l : List DV) (k : Nat), slots ((l.zipIdx k).map fun p => (p.2, p.1)) (k + s) = l.getD s .undef := by
        intro l
        induction l generalizing s with
        | nil => intro k; simp [slots]
        | cons d l ih =>
          intro k
          rw [List.zipIdx_cons, List.map_cons]
          simp only [slots]
          cases s with
          | zero => simp
          | succ s =>
            have : ¬ k + (s + 1) = k := by omega
            rw [if_neg this]
            have := ih s (k + 1)
            rw [show k + 1 + s = k + (s + 1) by omega] at this
            rw [this]; simp
      have := key args 0
      rw [Nat.zero_add] at this
      exact this.symm
    rw [e2]; rfl
  rw [e]
  exact hk
theorem finE_D {ds : List DV} (hf : finE m0 post (some ds) h) : finD m0 post ds h := by
  obtain ⟨ds', e, hf⟩ := hf
  cases e
  exact hf
theorem end_fc (F : List Nat) {ds : List DV} {D : DV} (hD : rvd (frzDs F h ds) = D) (hc : D.closed = true) (hp : post [] D) : finEF 0 post (some ds) h := by
  subst hD
  exact ⟨ds, rfl, F, fun _ _ => Nat.zero_le _, finE_D (finE_closed hc hp)⟩
end
def finGE (m0 : Nat) (post : List AObj → DV → Prop) (h0 : List AObj) (args : List DV) (o : Option (List DV)) (L : List (Nat × DV)) (h : List AObj) : Prop :=
  finE m0 post o h ∧ ∀ l, l < m0 → (∃ cs, h0[l]? = some (.box cs)) ∨ ∃ i sz off n c, slots L (1000000 + i) = .osl sz l off n c ∧ 0 < n ∧ args[i]? = some (.osl sz l off n c)
@[congr] theorem finGE_congr {m0 : Nat} {post : List AObj → DV → Prop} {h0 : List AObj} {args : List DV} {o o' : Option (List DV)} {L : List (Nat × DV)} {h : List AObj} (e : o = o') : finGE m0 post h0 args o L h = finGE m0 post h0 args o' L h := by rw [e]
section
variable {E : Env} {m0 : Nat} {res : List RV} {post : List AObj → DV → Prop} {L : List (Nat × DV)} {h h0 : List AObj} {args : List DV}
theorem finG_e : finG m0 res post h0 args .ret (sta L h) = finGE m0 post h0 args (rvl (sta L h) res) L h := rfl
theorem finG_en : finG m0 res post h0 args .normal (sta L h) = finGE m0 post h0 args (rvl (sta L h) res) L h := rfl
theorem zip_slots (l : List DV) : ∀ (k s : Nat), slots ((l.zipIdx k).map fun p => (p.2, p.1)) (k + s) = l.getD s .undef := by
  induction l with
  | nil => intro k s; simp [slots]
  | cons d l ih =>
    intro k s
    rw [List.zipIdx_cons, List.map_cons]
    simp only [slots]
    cases s with
    | zero => simp
    | succ s =>
      have : ¬ k + (s + 1) = k := by omega
      rw [if_neg this]
      have := ih (k + 1) s
      rw [show k + 1 + s = k + (s + 1) by omega] at this
      rw [this]; simp
theorem slots_two (A B : List (Nat × DV)) (s : Nat) (h : ∀ p ∈ A, p.1 ≠ s) : slots (A ++ B) s = slots B s := by
  induction A with
  | nil => rfl
  | cons p A ih =>
    obtain ⟨t, d⟩ := p
    simp only [List.cons_append, slots]
    rw [if_neg (fun e => h (t, d) (by simp) e.symm)]
    exact ih fun q hq => h q (by simp [hq])
theorem slots_none (B : List (Nat × DV)) (s : Nat) (h : ∀ p ∈ B, p.1 ≠ s) : slots B s = .undef := by
  have := slots_two B [] s h
  rw [List.append_nil] at this
  exact this
theorem slots_left (A B : List (Nat × DV)) (s : Nat) (h : ∀ p ∈ B, p.1 ≠ s) : slots (A ++ B) s = slots A s := by
  induction A with
  | nil => rw [List.nil_append, slots_none B s h]; rfl
  | cons p A ih =>
    obtain ⟨t, d⟩ := p
    simp only [List.cons_append, slots]
    rw [ih]
theorem zip_mem {l : List DV} {k : Nat} {p : Nat × DV} (h : p ∈ (l.zipIdx k).map fun p => (p.2, p.1)) : k ≤ p.1 ∧ p.1 < k + l.length := by
  obtain ⟨q, hq, rfl⟩ := List.mem_map.1 h
  have := List.mem_zipIdx hq
  omega
theorem acalls_goG {f : Nat} {af : AFun} {h : List AObj} {args : List DV} {post : List AObj → DV → Prop} (hc : cfun E.P f = some af) (hle : args.length ≤ af.nt) (hsm : args.length < 1000000)
    (hk : goN E h.length (finG h.length af.res post h args) [] af.body (((args.zipIdx 1000000).map fun p => (p.2, p.1)) ++ (args.zipIdx.map fun p => (p.2, p.1))) h) : ACallsK E true f h args post := by
  refine acalls_of_awpG hc hle ?_
  have e : (fun s => if s < 1000000 then args.getD s .undef else args.getD (s - 1000000) .undef) = slots (((args.zipIdx 1000000).map fun p => (p.2, p.1)) ++ (args.zipIdx.map fun p => (p.2, p.1))) := by
    funext s
    split
    · rename_i hs
      rw [slots_two _ _ s (fun p hp => by have := zip_mem hp; omega)]
      have := zip_slots args 0 s
      rw [Nat.zero_add] at this
      exact this.symm
    · rename_i hs
      rw [slots_left _ _ s (fun p hp => by have := zip_mem hp; omega)]
      have := zip_slots args 1000000 (s - 1000000)
      rw [show 1000000 + (s - 1000000) = s by omega] at this
      exact this.symm
  rw [e]
  exact hk
theorem end_G1 {ds : List DV} {sz n off : Nat} {c : Option Nat} {es : List (List DV)} (hs : (rvd ds).closed = true) (hi : h[0]? = some (.arr sz es)) (hp : post [.arr sz es] (rvd ds)) (hg : slots L 1000000 = .osl sz 0 off n c) (hn : 0 < n)
    (ha : args[0]? = some (.osl sz 0 off n c)) : finGE 1 post h0 args (some ds) L h :=
  ⟨end_in1 hs hi hp, fun l hl => by
    obtain rfl : l = 0 := by omega
    exact .inr ⟨0, sz, off, n, c, hg, hn, ha⟩⟩
end
end Go.Ai
