/- The call of the law of what is told. -/
import Derived.Test.YtbnmhlienklfpaaGreatDoorZJ
import Derived.Test.YtbnmhlienklfpaaGreatDoorZFoRow
import Derived.Test.YtbnmhlienklfpaaGreatDoorAiOpen
import Derived.Test.YtbnmhlienklfpaaGreatDoorAiOpenW
set_option linter.all false
namespace Go.Proofs.Ut
open Go.Ai Go.Shelf Go.RowKit Classical
set_option linter.unusedVariables false
theorem rows_ofP {α : Type} {f : α → List DV} {p : α → Prop} : ∀ es : List (List DV), (∀ e ∈ es, ∃ x, e = f x ∧ p x) → ∃ l : List α, es = l.map f ∧ ∀ x ∈ l, p x
  | [], _ => ⟨[], rfl, fun x h => by simp at h⟩
  | e :: es, h => by
    obtain ⟨l, rfl, hp⟩ := rows_ofP es fun x hx => h x (by simp [hx])
    obtain ⟨x, rfl, hx⟩ := h e (by simp)
    exact ⟨x :: l, rfl, fun y hy => by
      rcases List.mem_cons.1 hy with q | q
      · subst q; exact hx
      · exact hp y q⟩
theorem cl_1 {w : World} {v v' : Value} {d d' : DV} {i : Nat} (h : Ai.Cl w [v] [d]) (hv : [v][i]? = some v') (hd : [d][i]? = some d') : Rep w (fun b => b < w.heap.size) noLoc v' d' := (h.2 i v' d' hv hd).2
abbrev attrT : AT := .st [.str, .str]
abbrev propT : AT := .st [.str, .str, .sl attrT, .str]
theorem attr_of {ds : List DV} (h : attrT.has ds) : ∃ a : List UInt8 × List UInt8, ds = av a := by
  obtain ⟨x, y, rfl, ⟨s, rfl, _⟩, z, u, rfl, ⟨t, rfl, _⟩, rfl⟩ := h
  exact ⟨(s, t), rfl⟩
theorem wt_av (l : List (List UInt8 × List UInt8)) : wtA l ≤ 3 * DV.wt.wtEs (l.map av) := by
  induction l with
  | nil => simp [wtA]
  | cons a l ih =>
    rw [wtA_cons, List.map_cons, DV.wt.wtEs]
    simp only [av, DV.wt.wtL, DV.wt]
    omega
theorem prop_of {ds : List DV} (h : propT.has ds) : ∃ p : PR, ds = pv p ∧ wtP p ≤ 3 * DV.wt.wtL ds := by
  obtain ⟨x1, y1, rfl, ⟨g, rfl, _⟩, x2, y2, rfl, ⟨n, rfl, _⟩, x3, y3, rfl, ⟨es, rfl, _, hes⟩, x4, y4, rfl, ⟨v, rfl, _⟩, rfl⟩ := h
  obtain ⟨l, rfl, _⟩ := rows_ofP (f := av) (p := fun _ => True) es fun e he => by
    obtain ⟨a, rfl⟩ := attr_of (hes e he)
    exact ⟨a, rfl, trivial⟩
  refine ⟨⟨g, n, l, v⟩, rfl, ?_⟩
  have := wt_av l
  simp only [wtP, List.cons_append, List.nil_append, DV.wt.wtL, DV.wt]
  omega
theorem wtEs_len : ∀ es : List (List DV), (∀ e ∈ es, 0 < e.length) → es.length ≤ DV.wt.wtEs es
  | [], _ => Nat.le_refl _
  | e :: es, h => by
    have h1 := wtEs_len es fun x hx => h x (by simp [hx])
    have h2 := h e (by simp)
    cases e with
    | nil => simp at h2
    | cons d e =>
      have hd : 1 ≤ d.wt := by cases d <;> simp [DV.wt]
      rw [DV.wt.wtEs, DV.wt.wtL, List.length_cons]
      omega
theorem wtEs_mem {es : List (List DV)} {e : List DV} (h : e ∈ es) : DV.wt.wtL e ≤ DV.wt.wtEs es := by
  induction es with
  | nil => simp at h
  | cons x es ih =>
    rw [DV.wt.wtEs]
    rcases List.mem_cons.1 h with rfl | h
    · omega
    · have := ih h; omega
theorem card_of {ds : List DV} (h : (AT.sl propT).has ds) : ∃ c : List PR, ds = cv c ∧ c.length ≤ DV.wt.wtL ds ∧ wtS' c ≤ 3 * DV.wt.wtL ds := by
  obtain ⟨es, rfl, _, hes⟩ := h
  obtain ⟨c, rfl, _⟩ := rows_ofP (f := pv) (p := fun _ => True) es fun e he => by
    obtain ⟨p, rfl, _⟩ := prop_of (hes e he)
    exact ⟨p, rfl, trivial⟩
  have hlen := wtEs_len (c.map pv) fun e he => by
    obtain ⟨p, _, rfl⟩ := List.mem_map.1 he
    simp [pv]
  rw [List.length_map] at hlen
  refine ⟨c, rfl, by simp only [DV.wt.wtL, DV.wt]; omega, ?_⟩
  have key : ∀ c : List PR, (∀ e ∈ c.map pv, propT.has e) → wtS' c ≤ 3 * DV.wt.wtEs (c.map pv) := fun c => by
    induction c with
    | nil => intro _; simp [wtS']
    | cons p c ih =>
      intro h
      have h1 := ih fun e he => h e (by simp only [List.map_cons, List.mem_cons]; exact .inr he)
      obtain ⟨q, hq, hw⟩ := prop_of (h (pv p) (by simp))
      have hpq : wtP p ≤ 3 * DV.wt.wtL (pv p) := by
        have e : ∀ a b : List (List UInt8 × List UInt8), a.map av = b.map av → a = b := fun a b h => by
          refine (List.map_inj_right fun x y hxy => ?_).1 h
          obtain ⟨x1, x2⟩ := x
          obtain ⟨y1, y2⟩ := y
          simp only [av, List.cons.injEq, DV.str.injEq, and_true] at hxy
          rw [hxy.1, hxy.2]
        have : q = p := by
          obtain ⟨g, n, l, v⟩ := p
          obtain ⟨g', n', l', v'⟩ := q
          simp only [pv, List.cons.injEq, DV.str.injEq, DV.sl.injEq, and_true, true_and] at hq
          obtain ⟨h1, h2, h3, h4⟩ := hq
          rw [h1, h2, e _ _ h3, h4]
        rw [← this, ← hq]; rw [hq]; rw [hq] at hw; exact hw
      have e : wtS' (p :: c) = wtP p + wtS' c := by simp [wtS']
      rw [e, List.map_cons, DV.wt.wtEs]
      omega
  have := key c hes
  simp only [cv, AT.cells, DV.wt.wtL, DV.wt]
  omega
theorem cards_of {ds : List DV} (h : (AT.sl (.sl propT)).has ds) : ∃ l : List (List PR), ds = [.sl 1 (l.map cv)] ∧ l.length ≤ DV.wt.wtL ds ∧ ∀ c ∈ l, c.length ≤ DV.wt.wtL ds ∧ wtS' c ≤ 3 * DV.wt.wtL ds := by
  obtain ⟨es, rfl, _, hes⟩ := h
  obtain ⟨l, rfl, hl⟩ := rows_ofP (f := cv) (p := fun c => c.length ≤ DV.wt.wtL (cv c) ∧ wtS' c ≤ 3 * DV.wt.wtL (cv c)) es fun e he => by
    obtain ⟨c, rfl, h1, h2⟩ := card_of (hes e he)
    exact ⟨c, rfl, h1, h2⟩
  have hlen := wtEs_len (l.map cv) fun e he => by
    obtain ⟨c, _, rfl⟩ := List.mem_map.1 he
    simp [cv]
  rw [List.length_map] at hlen
  refine ⟨l, rfl, by simp only [DV.wt.wtL, DV.wt]; omega, fun c hc => ?_⟩
  have h1 := hl c hc
  have h2 := wtEs_mem (List.mem_map_of_mem (f := cv) hc)
  simp only [DV.wt.wtL, DV.wt] at h1 h2 ⊢
  omega
theorem witness_row_sh {H : Type} {enc : TypeId × Value → H} {C : Checked} {os : Os} {f : FuncId} {fn : Func} {s : OpenSpec} {conds : List PathCond} {apart : Bool} {laid : List (String × DataW Unit)} (modest : Bool) (w0 : World) (args : Array Value) (hos : w0.os = os)
    (hsh : (w0.forCall (fun _ _ => 0) ⟨#[], args, []⟩).Shaped C.prog)
    (hok : Input.okWideB C.prog (w0.forCall (fun _ _ => 0) ⟨#[], args, []⟩) f ⟨#[], args, []⟩ = true)
    (hrow : s.preRow enc C.prog fn conds apart laid (w0.forCall (fun _ _ => 0) ⟨#[], args, []⟩).memory args) :
    ∃ (w : World) (tape : Tape) (i : Input), w.os = os ∧ (w.forCall tape i).Shaped C.prog ∧ i.vars = [] ∧ Input.okWide C.prog (w.forCall tape i) .any w.heap.size f i ∧
      s.preRow enc C.prog fn conds apart laid (w.forCall tape i).memory i.args ∧ ({ modest := modest } : Assume).holds C.prog (lone (Frame.enter C.prog f i.args .normal) [] (w.forCall tape i)) :=
  ⟨w0, fun _ _ => 0, ⟨#[], args, []⟩, hos, hsh, (Input.okWide_of_okWideB (base := 0) hok).1, (Input.okWide_of_okWideB hok).2, hrow, by
    simp only [Assume.holds]
    exact ⟨by simp, by simp, fun _ => Modest.zero, by simp, by simp⟩⟩
theorem tells_walk (W : World) (hT : Laid W) (a0 : ByteArray) (w0' : a0.size ≤ 1048576) {v1 : Value} {ds1 : List DV} (h1 : (AT.sl (.sl propT)).has ds1) (c1 : Ai.Cl W [v1] ds1) (w1 : DV.wt.wtL ds1 ≤ 1048576) :
    Calls Tryz.prog 5 #[.string a0, v1] W fun e W' => e = .returned (.bool true) ∧ Below W.heap.size W W' := by
  obtain ⟨l, rfl, hl, hc⟩ := cards_of h1
  refine door_walk (tells5 a0.data.toList l (by simp; have e : a0.size = a0.data.size := rfl; omega) (by omega) (fun c hm => by have := hc c hm; omega)) W hT [.string a0, v1] rfl fun i v d g1 g2 => ?_
  rcases i with _ | _ | i
  · cases g1; cases g2; exact .str _
  · exact cl_1 (i := 0) c1 g1 g2
  · simp at g1
end Go.Proofs.Ut
