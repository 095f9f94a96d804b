/- What is said of a value may be said weaker: nil is a row of nothing. -/
import Derived.Test.YtbnmhlienklfpaaDoorAiHand3
set_option linter.all false
namespace Go.Ai
def Less (d d' : DV) : Prop := ∀ (w : World) (ok : Nat → Prop) (β : Loc) (v : Value), Rep w ok β v d → Rep w ok β v d'
theorem Less.rfl' {d : DV} : Less d d := fun _ _ _ _ h => h
theorem less_nil {a b : Nat} (hb : 0 < b) : Less (.nils a) (.sl b []) := fun w ok β v h => by
  cases h
  exact .sl none 0 0 b [] 0 0 (fun _ => undef) rfl (Nat.le_refl _) hb (by simp) (fun h => by omega) (fun k h => by simp at h) (fun k h => by simp at h) (fun k d h => by simp at h)
inductive LessL : List DV → List DV → Prop
  | nil : LessL [] []
  | cons {d d' : DV} {l l' : List DV} (h : Less d d') (t : LessL l l') : LessL (d :: l) (d' :: l')
theorem LessL.len {l l' : List DV} (h : LessL l l') : l.length = l'.length := by
  induction h with
  | nil => rfl
  | cons _ _ ih => simp [ih]
theorem LessL.get {l l' : List DV} (h : LessL l l') : ∀ (i : Nat) d', l'[i]? = some d' → ∃ d, l[i]? = some d ∧ Less d d' := by
  induction h with
  | nil => intro i d' h; simp at h
  | cons h _ ih =>
    intro i d' hi
    cases i with
    | zero => simp at hi; subst hi; exact ⟨_, rfl, h⟩
    | succ i => exact ih i d' (by simpa using hi)
theorem LessL.refl : ∀ l : List DV, LessL l l
  | [] => .nil
  | _ :: l => .cons Less.rfl' (LessL.refl l)
theorem LessL.app {a a' b b' : List DV} (h : LessL a a') (k : LessL b b') : LessL (a ++ b) (a' ++ b') := by
  induction h with
  | nil => exact k
  | cons h _ ih => exact .cons h ih
theorem less_sl {sz : Nat} {es es' : List (List DV)} (hl : es.length = es'.length) (h : ∀ (i : Nat) e e', es[i]? = some e → es'[i]? = some e' → LessL e e') : Less (.sl sz es) (.sl sz es') := fun w ok β v hr => by
  have hfl : LessL es.flatten es'.flatten := by
    induction es generalizing es' with
    | nil =>
      cases es' with
      | nil => exact .nil
      | cons _ _ => simp at hl
    | cons e es ih =>
      cases es' with
      | nil => simp at hl
      | cons e' es' =>
        simp only [List.flatten_cons]
        have hr' : True := trivial
        refine LessL.app (h 0 e e' rfl rfl) ?_
        clear hr
        have : ∀ (es es' : List (List DV)), es.length = es'.length → (∀ (i : Nat) e e', es[i]? = some e → es'[i]? = some e' → LessL e e') → LessL es.flatten es'.flatten := by
          intro es
          induction es with
          | nil => intro es' hl _; cases es' with
            | nil => exact .nil
            | cons _ _ => simp at hl
          | cons e es ih =>
            intro es' hl h
            cases es' with
            | nil => simp at hl
            | cons e' es' =>
              simp only [List.flatten_cons]
              exact LessL.app (h 0 e e' rfl rfl) (ih es' (by simpa using hl) fun i a b ha hb => h (i + 1) a b ha hb)
        exact this es es' (by simpa using hl) fun i a b ha hb => h (i + 1) a b ha hb
  cases hr with
  | sl A n c sz es b x vs hn hnc hsz hes hA hc h1 h2 =>
    have hlen : ∀ e ∈ es', e.length = sz := fun e' he' => by
      obtain ⟨i, hi⟩ := List.getElem?_of_mem he'
      have hlt : i < es.length := by
        have := (List.getElem?_eq_some_iff.1 hi).1
        omega
      have hg := List.getElem?_eq_getElem hlt
      rw [← (h i _ e' hg hi).len]
      exact hes _ (List.getElem_mem _)
    refine .sl A n c sz es' b x vs (by omega) hnc hsz hlen hA hc h1 fun k d' hd' => ?_
    obtain ⟨d, hd, hdd⟩ := hfl.get k d' hd'
    exact hdd w ok noLoc _ (h2 k d hd)
theorem less_rep {sz n : Nat} {e e' : List DV} (h : LessL e e') : Less (.sl sz (List.replicate n e)) (.sl sz (List.replicate n e')) :=
  less_sl (by simp) fun i a b ha hb => by
    have h1 := List.eq_of_mem_replicate (List.mem_of_getElem? ha)
    have h2 := List.eq_of_mem_replicate (List.mem_of_getElem? hb)
    subst h1; subst h2; exact h
theorem acalls_less {E : Env} {kp : Bool} {f : Nat} {h : List AObj} {args args' : List DV} {post : List AObj → DV → Prop} (hl : LessL args args') (hc : ACallsK E kp f h args' post) : ACallsK E kp f h args post := by
  refine ⟨hc.1, fun w ok β vs hg hn hh hlen hv => ?_⟩
  refine hc.2 w ok β vs hg hn hh (hlen.trans hl.len) fun i v d' hi hd' => ?_
  obtain ⟨d, hd, hdd⟩ := hl.get i d' hd'
  exact hdd _ _ _ _ (hv i v d hi hd)
end Go.Ai
