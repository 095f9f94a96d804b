/- Operations, fourth part: what makes rows: conversions, literals, iterators. -/
import Derived.Test.YtbhlmbacgbfaoaaDoorAiOps3
set_option linter.all false
namespace Go.Ai
open Go.Instr
section
variable {E : Env} {C : Ctx} {a : Act} {w : World} {ok : Nat → Prop} {β : Loc} {st : St} {K : DV → St → Prop}

theorem shape_new (w : World) (vs : Array Value) (t : TypeId) (fz : Nat × Nat) : (w.alloc (.cells vs t fz)).shape? w.heap.size = some (t, vs.size) := by
  unfold World.shape?; rw [push_new]

/-- A new row. -/
theorem SRep.newarr (hs : SRep E C a w ok β st) (t : TypeId) (vs : Array Value) (sz : Nat) (es : List (List DV)) (hes : ∀ e ∈ es, e.length = sz) (hsz : 0 < sz) (hle : es.length * sz ≤ vs.size)
    (hrep : ∀ (k : Nat) v d, vs[k]? = some v → es.flatten[k]? = some d → v.oneCell' = true ∧ Rep w ok noLoc v d) :
    ∃ β', SRep E C a (w.alloc (.cells vs t)) ok β' (st.new (.arr sz es)) ∧ β' st.h.length = some (w.heap.size, 0) ∧ (∀ l x, β l = some x → β' l = some x) ∧
      ∀ (n c : Nat) (cap : Option Nat), n ≤ c → c * sz ≤ vs.size → (∀ k, cap = some k → c = k) → Rep (w.alloc (.cells vs t)) ok β' (.slice (some ⟨w.heap.size, 0, none⟩) n c) (.osl sz st.h.length 0 n cap) := by
  obtain ⟨β', n1, n2, n3⟩ := hs.new (.cells vs t) (.arr sz es) (fun β' hβ' hn =>
    ⟨hes, .inr ⟨hsz, w.heap.size, 0, vs, t, (0, 0), hn, push_new w _, .zero _, by omega, fun k v d hv hd => by
      rw [Nat.zero_add] at hv
      obtain ⟨h1, h2⟩ := hrep k v d hv hd
      exact ⟨h1, h2.mono (fun _ h => h) (fun b hb => push_old w _ (hs.heap.okl b hb)) (fun l x hx => by simp [noLoc] at hx)⟩⟩⟩)
  refine ⟨β', n1, n2, n3, fun n c cap hn hc hcap => ?_⟩
  exact .osl sz _ 0 n c w.heap.size 0 0 t vs.size n2 hn hsz (fun _ => by omega) (shape_new w vs t _) (fun _ => by rw [Nat.zero_add, Nat.zero_add]; exact hc) cap hcap

/-- A block's frozen range, set behind its cells. -/
theorem SRep.mark (hs : SRep E C a w ok β st) {l b : Nat} {sz : Nat} {es : List (List DV)} {vs : Array Value} {t : TypeId} (hl : st.h[l]? = some (.arr sz es)) (hb : β l = some (b, 0)) (hw : w.heap[b]? = some (.cells vs t (0, 0))) :
    SRep E C a (w.freeze ⟨b, vs.size, none⟩ 1) ok β st ∧ (w.freeze ⟨b, vs.size, none⟩ 1).shape? b = w.shape? b := by
  have hw' : (w.freeze ⟨b, vs.size, none⟩ 1).heap[b]? = some (.cells vs t (vs.size, vs.size + 1)) := by
    simp [World.freeze, Array.getElem?_modify, hw]
  have ho : ∀ k, k ≠ b → (w.freeze ⟨b, vs.size, none⟩ 1).heap[k]? = w.heap[k]? := fun k hk => by
    simp only [World.freeze, Nat.one_ne_zero, if_false, Array.getElem?_modify]
    rw [if_neg (fun e : b = k => hk e.symm)]
  have hsh : (w.freeze ⟨b, vs.size, none⟩ 1).shape? b = w.shape? b := by simp [World.shape?, hw', hw]
  refine ⟨?_, hsh⟩
  have hlt : l < st.h.length := by
    rcases Nat.lt_or_ge l st.h.length with hlt | hge
    · exact hlt
    · rw [List.getElem?_eq_none hge] at hl; cases hl
  have := hs.write (w' := w.freeze ⟨b, vs.size, none⟩ 1) l b 0 (.arr sz es) _ hb hl (fun cs h => by cases h) rfl rfl rfl (by simp [World.freeze]) ho hsh (by
    obtain ⟨h1, h2⟩ := hs.heap.obj l _ hl
    rcases h2 with ⟨_, h2⟩ | ⟨hz, b', x, vs', t', fz, k1, k2, k3, k4, k5⟩
    · rw [hb] at h2; cases h2
    · rw [hb] at k1
      injection k1 with k1; injection k1 with k1a k1b
      subst k1a; subst k1b
      rw [hw] at k2
      injection k2 with k2; injection k2 with k2a k2b k2c
      subst k2a; subst k2b
      refine ⟨h1, .inr ⟨hz, b, 0, vs, t, _, hb, hw', fun o ho => by simp; omega, k4, fun k v d hv hd => ⟨(k5 k v d hv hd).1, (k5 k v d hv hd).2.mono (fun _ h => h) (fun c hc => ho c fun e => hs.heap.dis l b 0 hb (e ▸ hc)) (fun l x hx => by simp [noLoc] at hx)⟩⟩⟩)
  have e : st.at l (.arr sz es) = st := by
    simp only [St.at]
    congr 1
    apply List.ext_getElem?
    intro k
    by_cases hk : l = k
    · subst hk; rw [List.getElem?_set_self hlt, hl]
    · rw [List.getElem?_set_ne hk]
  rwa [e] at this

theorem ones_flat {α : Type} (l : List α) (f : α → DV) : (l.map fun x => [f x]).flatten = l.map f := by
  induction l with
  | nil => rfl
  | cons x l ih => simp [ih]

/-- A new row of single cells, with more cells behind, behind a draw, marked. -/
theorem ones_lv {α : Type} (l : List α) (f : α → DV) (g : α → Value) (hfg : ∀ x (w : World) ok, (g x).oneCell' = true ∧ Rep w ok noLoc (g x) (f x)) (t : TypeId) (hs : SRep E C a w ok β st) (cap : Nat) (hc : l.length ≤ cap) (z : Value) :
    ∃ β', SRep E C a (w.alloc (.cells ((l.map g).toArray ++ Array.replicate (cap - l.length) z) t)) ok β' (st.new (.arr 1 (l.map fun x => [f x]))) ∧ β' st.h.length = some (w.heap.size, 0) ∧
      Rep (w.alloc (.cells ((l.map g).toArray ++ Array.replicate (cap - l.length) z) t)) ok β' (.slice (some ⟨w.heap.size, 0, none⟩) l.length cap) (.osl 1 st.h.length 0 l.length none) := by
  obtain ⟨β', h1, h2, _, h4⟩ := hs.newarr t ((l.map g).toArray ++ Array.replicate (cap - l.length) z) 1 (l.map fun x => [f x]) (fun e he => by
      obtain ⟨x, _, rfl⟩ := List.mem_map.1 he; rfl) (by omega) (by simp) (fun k v d hv hd => by
      rw [ones_flat] at hd
      rw [List.getElem?_map] at hd
      cases hx : l[k]? with
      | none => simp [hx] at hd
      | some x =>
        simp [hx] at hd
        subst hd
        have hk : k < l.length := by
          rcases Nat.lt_or_ge k l.length with hlt | hge
          · exact hlt
          · rw [List.getElem?_eq_none hge] at hx; cases hx
        rw [Array.getElem?_append_left (by simpa using hk)] at hv
        simp [hx] at hv
        subst hv
        exact hfg x w ok)
  exact ⟨β', h1, h2, h4 _ _ none hc (by simp; omega) (fun _ h => by cases h)⟩

theorem runesFrom_eq (s : ByteArray) : ∀ (n i : Nat) (acc : Array Value), Conv.runesFrom s n i acc = acc ++ ((runesL s.data.toList n i).map fun r => Value.int .i32 r).toArray
  | 0, i, acc => by simp [Conv.runesFrom, runesL]
  | n + 1, i, acc => by
    simp only [Conv.runesFrom, runesL, ba_eta]
    by_cases h : i < s.size
    · rw [if_pos h, if_pos (by simpa using h)]
      rw [runesFrom_eq s n]
      simp
    · rw [if_neg h, if_neg (by simpa using h)]
      simp

theorem s2b_lv {src dst e : TypeId} {td : TypeDesc} (hsrc : E.P.underlying src = some td) (hdst : E.P.underlying dst = some (.slice e)) (he : E.P.underlying e = some (.int .u8)) {v : Value} {s : List UInt8}
    (hs : SRep E C a w ok β st) (h : Rep w ok β v (.str s)) (hk : K (.osl 1 st.h.length 0 s.length none) (st.new (.arr 1 (s.map fun b => [.int .u8 b.toNat])))) : LV E C a K (convert src dst v) w := by
  obtain ⟨s, rfl, rfl⟩ := h.str_inv
  have hs1 := hs.drewN 1
  let cap := (Question.appendCap s.size 0 e).cut (w.tape w.drawn (.appendCap s.size 0 e))
  have hcap : s.data.toList.length ≤ cap := by simp [cap, Question.cut]
  obtain ⟨β', h1, h2, h3⟩ := ones_lv s.data.toList (fun b => DV.int .u8 b.toNat) (fun b : UInt8 => Value.int .u8 b.toNat) (fun x w ok => ⟨rfl, .int _ _⟩) e hs1 cap hcap (.int .u8 0)
  obtain ⟨h4, h5⟩ := h1.mark (l := st.h.length) (sz := 1) (es := s.data.toList.map fun b => [.int .u8 b.toNat]) (by simp [St.new]) h2 (push_new _ _)
  have hw2 := push_new { w with drawn := w.drawn + 1 } (.cells ((s.data.toList.map fun b : UInt8 => Value.int .u8 b.toNat).toArray ++ Array.replicate (cap - s.data.toList.length) (Value.int .u8 0)) e)
  refine ⟨_, _, ok, β', _, _, ?_, h4, h3.mono (fun _ h => h) (fun b hb => ?_) (fun l x hx => ⟨hx, ?_⟩), hk⟩
  · have e1 : (s.data.toList.map fun b : UInt8 => Value.int .u8 b.toNat).toArray = s.data.map fun b => Value.int .u8 b.toNat := by rw [← Array.toList_map, Array.toArray_toList]
    simp only [convert, Sem.run_bind, run_underlying hsrc, run_underlying hdst, Result.andThen_ok, run_underlying he, Conv.stringToBytes, run_choose, Question.forced]
    simp [newRow, markStringish, cap, shape_new, e1]
  · have hne : b ≠ w.heap.size := fun e' => by have := hs.heap.okl b hb; omega
    simp only [World.freeze, Nat.one_ne_zero, if_false, Array.getElem?_modify]
    rw [if_neg (fun e' : w.heap.size = b => hne e'.symm)]
  · by_cases hx1 : x.1 = w.heap.size
    · rw [hx1]; exact h5
    · simp only [World.shape?, World.freeze, Nat.one_ne_zero, if_false, Array.getElem?_modify]
      rw [if_neg (fun e' : w.heap.size = x.1 => hx1 e'.symm)]
end
end Go.Ai
