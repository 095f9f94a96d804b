/- A loop of a known number of rounds, taken round by round. -/
import Derived.Test.YtbnmhlienklfpaaGreatDoorAiGo4
set_option linter.all false
namespace Go.Ai
theorem chk_i {p q : Prop} (h : p) (k : q) : chk p q := ⟨h, k⟩
/-- At a round's end: some rounds are left. -/
def Un (E : Env) (m0 : Nat) (post : AExit → St → Prop) (ks : List Fr) (b : ACode) (n : Nat) (st' : St) : Prop :=
  ∃ g : Nat × St, ∃ _ : g.1 < n, Wk m0 st' g.2 ∧ awp E m0 b (fun e s => match e with | .normal => Un E m0 post ks b g.1 s | e => kont E m0 post ks e s) g.2
termination_by n
section
variable {E : Env} {m0 : Nat} {post : AExit → St → Prop} {ks : List Fr} {b : ACode} {n : Nat} {L : List (Nat × DV)} {h : List AObj}
theorem un_kont : kont E m0 post (.inv (Un E m0 post ks b n) :: ks) = fun e s => match e with | .normal => Un E m0 post ks b n s | e => kont E m0 post ks e s := by
  funext e s; cases e <;> rfl
theorem wk_same (m0 : Nat) (st : St) : Wk m0 st st :=
  ⟨.inl ⟨max m0 st.h.length, Nat.le_max_left _ _, (List.take_of_length_le (Nat.le_max_right _ _)).symm, fun _ => .inr ⟨rfl, fun h => absurd h (Nat.not_lt.2 (Nat.le_max_right _ _))⟩, fun h => absurd h (Nat.not_lt.2 (Nat.le_max_right _ _))⟩⟩
theorem goN_un (n : Nat) (h0 : goN E m0 post (.inv (Un E m0 post ks b n) :: ks) b L h) : goN E m0 post ks (.loop b) L h := by
  refine ⟨Nat × St, fun g => g.2, fun g => awp E m0 b (kont E m0 post (.inv (Un E m0 post ks b g.1) :: ks)) g.2, fun g => g.1, ⟨(n, sta L h), wk_same m0 _, h0⟩, fun g hg => ?_⟩
  have e : (fun (e : AExit) (s : St) => match e with | .normal => ∃ g' : Nat × St, Wk m0 s g'.2 ∧ awp E m0 b (kont E m0 post (.inv (Un E m0 post ks b g'.1) :: ks)) g'.2 ∧ g'.1 < g.1 | e => kont E m0 post ks e s) = kont E m0 post (.inv (Un E m0 post ks b g.1) :: ks) := by
    funext e s
    cases e <;> first | rfl | skip
    show _ = Un E m0 post ks b g.1 s
    rw [Un]
    apply propext
    constructor
    · rintro ⟨g', h1, h2, h3⟩; exact ⟨g', h3, h1, by rw [← un_kont]; exact h2⟩
    · rintro ⟨g', h3, h1, h2⟩; exact ⟨g', h1, by rw [un_kont]; exact h2, h3⟩
  show awp E m0 b (fun e s => match e with | .normal => ∃ g' : Nat × St, Wk m0 s g'.2 ∧ awp E m0 b (kont E m0 post (.inv (Un E m0 post ks b g'.1) :: ks)) g'.2 ∧ g'.1 < g.1 | e => kont E m0 post ks e s) g.2
  rw [e]
  exact hg
/-- One more round. -/
theorem un_w {L' : List (Nat × DV)} {h' : List AObj} (hw : Wk m0 (sta L h) (sta L' h')) (hk : goN E m0 post (.inv (Un E m0 post ks b n) :: ks) b L' h') : Un E m0 post ks b (n + 1) (sta L h) := by
  rw [Un]
  exact ⟨(n, sta L' h'), Nat.lt_succ_self n, hw, by rw [← un_kont]; exact hk⟩
theorem un_go (hk : goN E m0 post (.inv (Un E m0 post ks b n) :: ks) b L h) : Un E m0 post ks b (n + 1) (sta L h) := un_w (wk_same m0 _) hk
theorem knm_emp {l : List AOper} {dst : Option Nat} {e : Bool} {k : Nat} {st : St} : knm E m0 post ks dst l (.emp e k) st = kgo E m0 post ks dst l (.emp e k) st := rfl
end
end Go.Ai
