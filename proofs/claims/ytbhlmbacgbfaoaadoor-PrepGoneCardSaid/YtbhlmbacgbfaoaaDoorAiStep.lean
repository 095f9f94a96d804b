/- Steps of an abstract proof: loops by data, values by slot. -/
import Derived.Test.YtbhlmbacgbfaoaaDoorAiCode
set_option linter.all false
namespace Go.Ai

/-- A frame that has those slots alone. -/
def slots : List (Nat × DV) → Nat → DV
  | [], _ => .undef
  | (t, d) :: l, s => if s = t then d else slots l s

theorem wk_slots {m0 m : Nat} {st : St} {L : List (Nat × DV)} (hm : m0 ≤ m) (hL : ∀ p ∈ L, st.fr p.1 = p.2 ∧ (m < st.h.length → p.2.under m = true))
    (hb : m < st.h.length → ∀ (l : Nat) cs, l < m → st.h[l]? = some (.box cs) → ∀ d ∈ cs, d.under m = true) : Wk m0 st ⟨slots L, st.h.take m⟩ := by
  refine ⟨m, hm, rfl, fun s => ?_, hb⟩
  have key : ∀ (L' : List (Nat × DV)), (∀ p ∈ L', p ∈ L) → slots L' s = .undef ∨ slots L' s = st.fr s ∧ (m < st.h.length → (st.fr s).under m = true) := by
    intro L'
    induction L' with
    | nil => exact fun _ => .inl rfl
    | cons p L' ih =>
      intro hsub
      obtain ⟨t, d⟩ := p
      simp only [slots]
      split
      · rename_i e
        have hq := hL (s, d) (hsub _ (by rw [e]; simp))
        have h1 : st.fr s = d := hq.1
        have h2 : m < st.h.length → d.under m = true := hq.2
        exact .inr ⟨h1.symm, fun h => by rw [h1]; exact h2 h⟩
      · exact ih fun p hp => hsub p (by simp [hp])
  exact key L fun _ h => h


theorem closed_inL {p : Nat → Bool} : ∀ {d : DV}, d.closed = true → d.inL p = true := by
  intro d
  refine DV.rec (motive_1 := fun d => d.closed = true → d.inL p = true) (motive_2 := fun l => DV.closed.closedAll l = true → DV.inL.inAll p l = true) (motive_3 := fun _ => True)
    ?_ ?_ ?_ ?_ ?_ ?_ ?_ ?_ ?_ ?_ ?_ ?_ ?_ ?_ ?_ ?_ ?_ ?_ ?_ ?_ ?_ d
  all_goals first
    | (intros; rfl)
    | (intros; simp_all [DV.closed, DV.inL, DV.closed.closedAll, DV.inL.inAll]; done)
    | skip
theorem closed_ren {ρ : Nat → Nat} : ∀ {d : DV}, d.closed = true → d.ren ρ = d := by
  intro d
  refine DV.rec (motive_1 := fun d => d.closed = true → d.ren ρ = d) (motive_2 := fun l => DV.closed.closedAll l = true → DV.ren.renAll ρ l = l) (motive_3 := fun _ => True)
    ?_ ?_ ?_ ?_ ?_ ?_ ?_ ?_ ?_ ?_ ?_ ?_ ?_ ?_ ?_ ?_ ?_ ?_ ?_ ?_ ?_ d
  all_goals first
    | (intros; rfl)
    | (intros; simp_all [DV.closed, DV.ren, DV.closed.closedAll, DV.ren.renAll]; done)
    | skip
theorem awp_ret {E : Env} {m0 : Nat} {K : AExit → St → Prop} {st : St} (h : K .ret st) : awp E m0 .ret K st := h
theorem fin_ret {res : List RV} {post : List AObj → DV → Prop} {st : St} {ds : List DV} (h : rvl st res = some ds) (hs : (rvd ds).closed = true) (hp : post [] (rvd ds)) : fin 0 res post .ret st :=
  ⟨ds, h, [], List.nodup_nil, Nat.le_refl _, fun _ h => by omega, fun _ h => by simp at h, closed_inL hs, fun _ h => by simp at h, by rw [closed_ren hs]; exact hp⟩
def agr (st : St) (p : DV → Prop) : List (Nat × DV) → Prop
  | [] => True
  | (t, d) :: L => (st.fr t = d ∧ p d) ∧ agr st p L
theorem agr_mem {st : St} {p : DV → Prop} : ∀ {L : List (Nat × DV)}, agr st p L → ∀ q ∈ L, st.fr q.1 = q.2 ∧ p q.2
  | [], _, q, hq => by simp at hq
  | (t, d) :: L, h, q, hq => by
    rcases List.mem_cons.1 hq with rfl | hq
    · exact h.1
    · exact agr_mem h.2 q hq
/-- Slots are forgotten; every place is kept. -/
theorem wk_keep {m0 : Nat} {st : St} {L : List (Nat × DV)} {h : List AObj} (hh : st.h = h) (hm : m0 ≤ st.h.length) (hL : agr st (fun _ => True) L) : Wk m0 st ⟨slots L, h⟩ := by
  have := wk_slots (L := L) (m := st.h.length) hm (fun p hp => ⟨(agr_mem hL p hp).1, fun h => absurd h (Nat.lt_irrefl _)⟩) (fun h => absurd h (Nat.lt_irrefl _))
  rwa [List.take_length, hh] at this
/-- Slots are forgotten, and the newest places. -/
theorem wk_drop (m : Nat) {m0 : Nat} {st : St} {L : List (Nat × DV)} {h : List AObj} (hh : st.h.take m = h) (hm : m0 ≤ m) (hL : agr st (fun d => d.under m = true) L) (hb : (h.all fun o => inO (fun l => decide (l < m)) o) = true) : Wk m0 st ⟨slots L, h⟩ := by
  have := wk_slots (L := L) (m := m) hm (fun p hp => ⟨(agr_mem hL p hp).1, fun _ => (agr_mem hL p hp).2⟩) (fun _ l cs hl hc d hd => by
    have : h[l]? = some (.box cs) := by rw [← hh, List.getElem?_take, if_pos hl]; exact hc
    have hq := List.all_eq_true.1 hb _ (List.mem_of_getElem? this)
    exact List.all_eq_true.1 hq d hd)
  rwa [hh] at this
theorem map_at {α : Type} (f : α → List DV) (l : List α) (i : Nat) (h : i < l.length) : (l.map f)[((i : Nat) : Int).toNat]? = some (f l[i]) := by simp [h]
theorem map_d {α : Type} (f : α → List DV) (l : List α) (d : α) (v : Int) (h0 : 0 ≤ v) (h1 : v < l.length) : (l.map f)[v.toNat]? = some (f (l.getD v.toNat d)) := by
  have : v.toNat < l.length := by omega
  simp [this]
theorem wrap_i64 {x : Int} (h0 : -9223372036854775808 ≤ x) (h1 : x < 9223372036854775808) : IntKind.i64.wrap x = x := by
  simp [IntKind.wrap, IntKind.bits, IntKind.signed]; omega

/-- The same, of what 'fin' stands for. -/
theorem fin_w {m0 : Nat} {res : List RV} {post : List AObj → DV → Prop} {st : St} {ds : List DV} (hm : m0 = 0) (h : rvl st res = some ds) (hs : (rvd ds).closed = true) (hp : post [] (rvd ds)) :
    ∃ ds, rvl st res = some ds ∧ ∃ ρ : List Nat, ρ.Nodup ∧ m0 ≤ ρ.length ∧ (∀ i, i < m0 → ρ[i]? = some i) ∧ (∀ l ∈ ρ, l < st.h.length) ∧ (rvd ds).inL ρ.contains = true ∧
      (∀ l ∈ ρ, inO ρ.contains (st.h.getD l .dead) = true) ∧
      atEnd post (ρ.map fun l => renO (ρ.idxOf ·) (st.h.getD l .dead)) ((rvd ds).ren (ρ.idxOf ·)) := by
  subst hm; exact fin_ret h hs hp
end Go.Ai
