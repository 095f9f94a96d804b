/- Operations, third part: parts of texts and rows, conversions, iterators. -/
import Derived.Test.YtbhlmbacgbfaoaaDoorAiOps2
set_option linter.all false
namespace Go.Ai
open Go.Instr
section
variable {E : Env} {C : Ctx} {a : Act} {w : World} {ok : Nat → Prop} {β : Loc} {st : St} {K : DV → St → Prop}

theorem flatten_drop {sz : Nat} : ∀ {es : List (List DV)} (_ : ∀ e ∈ es, e.length = sz) (i : Nat), (es.drop i).flatten = es.flatten.drop (i * sz)
  | [], _, i => by simp
  | e :: es, h, 0 => by simp
  | e :: es, h, i + 1 => by
    have h0 : e.length = sz := h e (by simp)
    have hd : e.drop ((i + 1) * sz) = [] := List.drop_eq_nil_of_le (by rw [h0, Nat.succ_mul]; omega)
    rw [List.drop_succ_cons, flatten_drop (fun e he => h e (by simp [he])) i, List.flatten_cons, List.drop_append, hd, List.nil_append]
    congr 1
    rw [h0, Nat.succ_mul]; omega
theorem flatten_take {sz : Nat} : ∀ {es : List (List DV)} (_ : ∀ e ∈ es, e.length = sz) (i : Nat), (es.take i).flatten = es.flatten.take (i * sz)
  | [], _, i => by simp
  | e :: es, h, 0 => by simp
  | e :: es, h, i + 1 => by
    have h0 : e.length = sz := h e (by simp)
    rw [List.take_succ_cons, List.flatten_cons, flatten_take (fun e he => h e (by simp [he])) i, List.flatten_cons, List.take_append, List.take_of_length_le (l := e) (by rw [h0, Nat.succ_mul]; omega)]
    congr 2
    rw [h0, Nat.succ_mul]; omega

theorem cut_get {sz : Nat} {es : List (List DV)} (h : ∀ e ∈ es, e.length = sz) (i n k : Nat) (d : DV) (hd : ((es.drop i).take n).flatten[k]? = some d) : es.flatten[i * sz + k]? = some d := by
  rw [flatten_take (fun e he => h e (List.mem_of_mem_drop he)), flatten_drop h, List.getElem?_take] at hd
  split at hd
  · rwa [List.getElem?_drop] at hd
  · cases hd

/-- What is said of a slice's bounds, and what the machine makes of them. -/
theorem bnd_run {ρ : Operand → Value} {lo hi : Option AX} {lo' hi' : Option Operand} (hlo : ∀ x, lo = some x → ∃ y, lo' = some y ∧ Rep w ok β (ρ y) (x.ev st.fr)) (hlo' : lo = none → lo' = none)
    (hhi : ∀ x, hi = some x → ∃ y, hi' = some y ∧ Rep w ok β (ρ y) (x.ev st.fr)) (hhi' : hi = none → hi' = none) (n c : Nat) (hnc : n ≤ c) (isS : Bool) {Q : Nat → Nat → Prop} (h : bnd st.fr lo hi n c Q) (P : Program) :
    ∃ i j, i ≤ j ∧ j ≤ c ∧ (hi = none → j = n) ∧ Q i j ∧ (sliceBounds isS n c (lo'.map ρ) (hi'.map ρ) none).run P w = .ok (i, j, c) w := by
  unfold bnd at h
  cases lo with
  | none =>
    have := hlo' rfl
    subst this
    cases hi with
    | none =>
      have := hhi' rfl
      subst this
      exact ⟨0, n, Nat.zero_le _, hnc, fun _ => rfl, h, by simp [sliceBounds]⟩
    | some y =>
      obtain ⟨y', rfl, hy⟩ := hhi y rfl
      simp only at h
      generalize AX.ev st.fr y = d at h hy
      cases d <;> (try exact h.elim)
      obtain ⟨h0, h1, hq⟩ := h
      have := hy.int_inv
      refine ⟨0, _, Nat.zero_le _, by omega, (fun e => by cases e), hq, ?_⟩
      simp [sliceBounds, sliceBound, asIntOf, this, h0, h1]
  | some x =>
    obtain ⟨x', rfl, hx⟩ := hlo x rfl
    cases hi with
    | none =>
      have := hhi' rfl
      subst this
      simp only at h
      generalize AX.ev st.fr x = d at h hx
      cases d <;> (try exact h.elim)
      obtain ⟨h0, h1, hq⟩ := h
      have := hx.int_inv
      refine ⟨_, n, by omega, hnc, fun _ => rfl, hq, ?_⟩
      simp [sliceBounds, sliceBound, asIntOf, this, h0, h1]
    | some y =>
      obtain ⟨y', rfl, hy⟩ := hhi y rfl
      simp only at h
      generalize AX.ev st.fr x = d at h hx
      generalize AX.ev st.fr y = d' at h hy
      cases d <;> cases d' <;> (try exact h.elim)
      obtain ⟨h0, h1, h2, hq⟩ := h
      have e1 := hx.int_inv
      have e2 := hy.int_inv
      rename_i k i k' j
      have h3 : i ≤ (j.toNat : Int) := by omega
      refine ⟨_, _, by omega, by omega, (fun e => by cases e), hq, ?_⟩
      have h4 : 0 ≤ j := by omega
      simp [sliceBounds, sliceBound, asIntOf, e1, e2, h0, h2, h4]
      omega

theorem bnd_mono {lo hi : Option AX} {n c c' : Nat} (hc : c ≤ c') {Q : Nat → Nat → Prop} {fr : Nat → DV} (h : bnd fr lo hi n c Q) : bnd fr lo hi n c' Q := by
  unfold bnd at *
  cases lo with
  | none =>
    cases hi with
    | none => exact h
    | some y =>
      simp only at *
      generalize AX.ev fr y = d at *
      cases d <;> (try exact h.elim)
      exact ⟨h.1, by have := h.2.1; omega, h.2.2⟩
  | some x =>
    cases hi with
    | none => exact h
    | some y =>
      simp only at *
      generalize AX.ev fr x = d at *
      generalize AX.ev fr y = d' at *
      cases d <;> cases d' <;> (try exact h.elim)
      exact ⟨h.1, h.2.1, by have := h.2.2.1; omega, h.2.2.2⟩

theorem bnd_le {lo hi : Option AX} {n : Nat} {Q : Nat → Nat → Prop} {fr : Nat → DV} (h : bnd fr lo hi n n Q) : bnd fr lo hi n n (fun i j => j ≤ n ∧ Q i j) := by
  unfold bnd at *
  cases lo with
  | none =>
    cases hi with
    | none => exact ⟨Nat.le_refl _, h⟩
    | some y =>
      simp only at *
      generalize AX.ev fr y = d at *
      cases d <;> (try exact h.elim)
      exact ⟨h.1, h.2.1, by have := h.2.1; omega, h.2.2⟩
  | some x =>
    cases hi with
    | none =>
      simp only at *
      generalize AX.ev fr x = d at *
      cases d <;> (try exact h.elim)
      exact ⟨h.1, h.2.1, Nat.le_refl _, h.2.2⟩
    | some y =>
      simp only at *
      generalize AX.ev fr x = d at *
      generalize AX.ev fr y = d' at *
      cases d <;> cases d' <;> (try exact h.elim)
      exact ⟨h.1, h.2.1, h.2.2.1, by have := h.2.2.1; omega, h.2.2.2⟩

theorem extract_list (s : ByteArray) (i j : Nat) : (s.extract i j).data.toList = (s.data.toList.drop i).take (j - i) := by
  rw [ByteArray.data_extract, Array.toList_extract, List.extract_eq_take_drop]

theorem slice_lv {t : TypeId} {td : TypeDesc} (hu : E.P.underlying t = some td) {k : Option Nat} (htd : (td = .string ∧ k = none) ∨ ∃ e i, td = .slice e ∧ E.P.info? e = some i ∧ k = some i.size) {ρ : Operand → Value} {x : AX} {lo hi : Option AX} {lo' hi' : Option Operand}
    (hlo : ∀ x, lo = some x → ∃ y, lo' = some y ∧ Rep w ok β (ρ y) (x.ev st.fr)) (hlo' : lo = none → lo' = none)
    (hhi : ∀ x, hi = some x → ∃ y, hi' = some y ∧ Rep w ok β (ρ y) (x.ev st.fr)) (hhi' : hi = none → hi' = none) {v : Value}
    (hs : SRep E C a w ok β st) (h : Rep w ok β v (x.ev st.fr)) (hk : aop E (.slice k x lo hi) K st) : LV E C a K (sliceAt t v (lo'.map ρ) (hi'.map ρ) none) w := by
  simp only [aop] at hk
  generalize x.ev st.fr = d at h hk
  have hsl : k.isSome = true → ∃ e i, td = .slice e ∧ E.P.info? e = some i ∧ k = some i.size := fun h => by
    rcases htd with ⟨_, h2⟩ | h2
    · subst h2; cases h
    · exact h2
  have hrunS : ∀ (i : TypeInfo) (e : TypeId) (A : Option Addr) (n c p q : Nat), td = .slice e → E.P.info? e = some i → (sliceBounds true n c (lo'.map ρ) (hi'.map ρ) none).run E.P w = .ok (p, q, c) w →
      (sliceAt t (.slice A n c) (lo'.map ρ) (hi'.map ρ) none).run E.P w = .ok (.slice (if c = p then A else A.map (·.add (p * i.size))) (q - p) (c - p)) w := fun i e A n c p q ht hi hr => by
    subst ht
    simp [sliceAt, slice, run_underlying hu, hr, sizeOf, typeInfo, hi]
  cases h with
  | str s =>
    obtain ⟨hk0, hk⟩ := hk
    subst hk0
    have : td = .string := by rcases htd with ⟨h1, _⟩ | ⟨_, _, _, _, h⟩; exact h1; cases h
    subst this
    obtain ⟨p, q, h1, h2, _, hq, hr⟩ := bnd_run hlo hlo' hhi hhi' s.data.toList.length s.data.toList.length (Nat.le_refl _) false hk E.P
    refine LV.same (v := .string (s.extract p q)) ?_ hs (str_mk _ _ (extract_list s p q)) hq
    have hr' : (sliceBounds false s.size s.size (lo'.map ρ) (hi'.map ρ) none).run E.P w = .ok (p, q, s.data.toList.length) w := by simpa using hr
    simp [sliceAt, slice, run_underlying hu, hr']
  | sl A n c sz es b x vs hn hnc hsz hes hA hc h1 hh =>
    obtain ⟨hk0, hk⟩ := hk
    subst hk0
    obtain ⟨e, i, ht, hinf, he0⟩ := hsl rfl
    have he : sz = i.size := by injection he0
    subst hn
    have hk' : bnd st.fr lo hi es.length c fun i j => j ≤ es.length ∧ K (.sl sz ((es.drop i).take (j - i))) st := bnd_mono hnc (bnd_le hk)
    obtain ⟨p, q, h1', h2', _, ⟨hqn, hq⟩, hr⟩ := bnd_run hlo hlo' hhi hhi' es.length c hnc true hk' E.P
    refine LV.same (hrunS i e A es.length c p q ht hinf hr) hs ?_ hq
    have hlen : ((es.drop p).take (q - p)).length = q - p := by rw [List.length_take, List.length_drop]; omega
    have hbd : ∀ k, k < (q - p) * sz → p * sz + k < es.length * sz := fun k hk => by
      have : q * sz ≤ es.length * sz := Nat.mul_le_mul_right _ hqn
      have e3 : q * sz = p * sz + (q - p) * sz := by rw [← Nat.add_mul]; congr 1; omega
      omega
    refine .sl _ _ _ sz _ b (x + p * sz) (fun k => vs (p * sz + k)) hlen.symm (by omega) hsz (fun e he => hes e (List.mem_of_mem_drop (List.mem_of_mem_take he))) (fun hp => ?_)
      (fun k hk => by rw [Nat.add_assoc]; exact hc _ (hbd k hk)) (fun k hk => h1 _ (hbd k hk)) (fun k d hd => hh _ d (cut_get hes p _ k d hd))
    obtain ⟨hA1, hA2⟩ := hA (by omega)
    refine ⟨?_, hA2⟩
    rw [if_neg (by omega), hA1]
    simp only [Option.map_some, add_mk, he]
  | oslnil sz l off cap hcap hz =>
    have hk0 : k = some sz := by cases cap <;> exact hk.1
    subst hk0
    obtain ⟨e, i, ht, hinf, he0⟩ := hsl rfl
    have h0 : ∃ p q, p = 0 ∧ q = 0 ∧ K (.osl sz l (off + p) (q - p) (cap.map (· - p))) st ∧ (sliceBounds true 0 0 (lo'.map ρ) (hi'.map ρ) none).run E.P w = .ok (p, q, 0) w := by
      cases cap with
      | none =>
        obtain ⟨p, q, h1, h2, _, hq, hr⟩ := bnd_run hlo hlo' hhi hhi' 0 0 (Nat.le_refl _) true hk.2 E.P
        exact ⟨p, q, by omega, by omega, hq, hr⟩
      | some c =>
        have := hcap c rfl
        subst this
        obtain ⟨p, q, h1, h2, _, hq, hr⟩ := bnd_run hlo hlo' hhi hhi' 0 0 (Nat.le_refl _) true hk.2 E.P
        exact ⟨p, q, by omega, by omega, hq, hr⟩
    obtain ⟨p, q, rfl, rfl, hq, hr⟩ := h0
    refine LV.same (hrunS i e none 0 0 0 0 ht hinf hr) hs ?_ hq
    exact .oslnil _ _ _ _ (fun k hk => by
      cases cap with
      | none => cases hk
      | some c => have := hcap c rfl; subst this; simp at hk; omega) hz
  | nils sz hz =>
    obtain ⟨hk0, hk⟩ := hk
    obtain ⟨e, i, ht, hinf, he0⟩ := hsl hk0
    obtain ⟨p, q, h1, h2, _, hq, hr⟩ := bnd_run hlo hlo' hhi hhi' 0 0 (Nat.le_refl _) true hk E.P
    obtain rfl : p = 0 := by omega
    obtain rfl : q = 0 := by omega
    exact LV.same (hrunS i e none 0 0 0 0 ht hinf hr) hs (.nils sz hz) hq
  | osl sz l off n c b x y ty m hb hnc hsz hy hm' hr' cap hcap =>
    have hk0 : k = some sz := by cases cap <;> exact hk.1
    subst hk0
    obtain ⟨e, i, ht, hinf, he0⟩ := hsl rfl
    have he : sz = i.size := by injection he0
    have h0 : ∃ p q, p ≤ q ∧ q ≤ c ∧ K (.osl sz l (off + p) (q - p) (cap.map (· - p))) st ∧ (sliceBounds true n c (lo'.map ρ) (hi'.map ρ) none).run E.P w = .ok (p, q, c) w := by
      cases cap with
      | none =>
        have hk' : bnd st.fr lo hi n c fun i j => K (.osl sz l (off + i) (j - i) none) st := bnd_mono hnc hk.2
        obtain ⟨p, q, h1, h2, _, hq, hr⟩ := bnd_run hlo hlo' hhi hhi' n c hnc true hk' E.P
        exact ⟨p, q, h1, h2, hq, hr⟩
      | some c' =>
        have := hcap c' rfl
        subst this
        obtain ⟨p, q, h1, h2, _, hq, hr⟩ := bnd_run hlo hlo' hhi hhi' n c hnc true hk.2 E.P
        exact ⟨p, q, h1, h2, hq, hr⟩
    obtain ⟨p, q, h1, h2, hq, hr⟩ := h0
    refine LV.same (hrunS i e (some ⟨b, y, none⟩) n c p q ht hinf hr) hs ?_ hq
    have hcap' : ∀ k, cap.map (· - p) = some k → c - p = k := fun k hk => by
      cases cap with
      | none => cases hk
      | some c' => have := hcap c' rfl; subst this; simpa using hk
    by_cases hcp : c = p
    · rw [if_pos hcp]
      exact .osl sz l (off + p) (q - p) (c - p) b x y ty m hb (by omega) hsz (fun h => by omega) hm' (fun h => by omega) _ hcap'
    · rw [if_neg hcp]
      have hy' := hy (by omega)
      subst hy'
      simp only [Option.map_some, add_mk]
      refine .osl sz l (off + p) (q - p) (c - p) b x _ ty m hb (by omega) hsz (fun h => ?_) hm' (fun h => ?_) _ hcap'
      · rw [he, Nat.add_mul]; omega
      · have := hr' (by omega)
        have e2 : off + p + (c - p) = off + c := by omega
        rw [e2]; exact this
  | _ => exact hk.elim
end
end Go.Ai
