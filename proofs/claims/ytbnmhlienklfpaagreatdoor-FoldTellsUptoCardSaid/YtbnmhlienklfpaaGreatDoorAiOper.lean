/- From an operation's text to ours, its guard too. -/
import Derived.Test.YtbnmhlienklfpaaGreatDoorAiSound2
import Derived.Tactics
set_option linter.all false
namespace Go.Ai
section
variable {full bad : Bool} {E : Env} {C : Ctx} {a : Act} {w : World} {ok : Nat → Prop} {β : Loc} {st : St}

def dstOK (n : Nat) : Option Tmp → Bool
  | some d => decide (d < n)
  | none => true
/-- What is not taken may not be reached. -/
def copB (P : Program) (full bad : Bool) (o : Oper) : Option AOp := match cop P full o with
  | some op => some op
  | none => bif bad then some .bad else none
theorem aop_soundB {E : Env} {C : Ctx} {a : Act} {w : World} {ok : Nat → Prop} {β : Loc} {st : St} {K : DV → St → Prop} {full bad : Bool} {o : Oper} {op : AOp} (hc : copB E.P full bad o = some op) (hs : SRep E C a w ok β st) (hk : aop E op K st) {next : Act → World → Prop} {Q : Exit → Act → World → Prop}
    (hn : ∀ v d w' ok' β' st', K d st' → SRep E C a w' ok' β' st' → Rep w' ok' β' v d → next (a.put o.dst v) w') : o.wp E.P a w next Q := by
  unfold copB at hc
  split at hc
  · rename_i op' h
    injection hc with hc; subst hc
    exact aop_sound h hs hk hn
  · cases bad with
    | false => cases hc
    | true => injection hc with hc; subst hc; exact hk.elim
def coper (P : Program) (full bad : Bool) (n : Nat) (all : Array Oper) (o : Oper) : Option AOper :=
  (copB P full bad o).bind fun op =>
    if dstOK n o.dst = true then
      match o.guard with
      | none => some ⟨o.dst, op, none⟩
      | some (j, want) => ((all[j]?).bind (·.dst)).map fun g => ⟨o.dst, op, some (g, want)⟩
    else none
def copers (P : Program) (full bad : Bool) (n : Nat) (all : Array Oper) : List Oper → Option (List AOper)
  | [] => some []
  | o :: l => (coper P full bad n all o).bind fun x => (copers P full bad n all l).map (x :: ·)

/-- One operation, its guard too. -/
theorem oper_sound {o : Oper} {ao : AOper} {all : Array Oper} (hc : coper E.P full bad C.n all o = some ao) (hs : SRep E C a w ok β st) {K : St → Prop} (hk : ao.run E K st) {next : Act → World → Prop} {Q : Exit → Act → World → Prop}
    (hn : ∀ a' w' ok' β' st', K st' → SRep E C a' w' ok' β' st' → next a' w') :
    if Region.wanted o (yielded all a.tmps) then o.wp E.P a w next Q else next (a.put o.dst undef) w := by
  rw [AOper.run_iff] at hk
  simp only [coper, Option.bind_eq_some_iff] at hc
  obtain ⟨op, hop, hc⟩ := hc
  split at hc
  · rename_i hd
    have hdst : ∀ s, o.dst = some s → s < C.n := fun s h => by rw [h] at hd; simpa [dstOK] using hd
    split at hc
    · rename_i hg
      injection hc with hc; subst hc
      have hw : Region.wanted o (yielded all a.tmps) = true := by simp [Region.wanted, hg]
      rw [if_pos hw]
      exact aop_soundB (K := fun d st' => K (st'.put o.dst d)) hop hs hk fun v d w' ok' β' st' k1 k2 k3 => hn _ _ _ _ _ k1 (k2.put k3 _ hdst)
    · rename_i j want hg
      simp only [Option.map_eq_some_iff] at hc
      obtain ⟨g, hgd, rfl⟩ := hc
      simp only [AOper.run0] at hk
      have hr := hs.fr g
      generalize hdv : st.fr g = d at hr hk
      cases d with
      | bool b =>
        have hv : a.tmps.getD g undef = .bool b := by generalize a.tmps.getD g undef = v at hr; cases hr; rfl
        have hv' : a.tmps[g]? = some (.bool b) := by
          rw [Array.getD_eq_getD_getElem?] at hv
          cases hx : a.tmps[g]? with
          | none => rw [hx] at hv; simp [undef] at hv
          | some x => rw [hx] at hv; simp at hv; rw [hv]
        have hw : Region.wanted o (yielded all a.tmps) = (b == want) := by
          simp only [Region.wanted, hg, yielded, hgd, Option.bind_some, hv']
          cases b <;> cases want <;> rfl
        rw [hw]
        by_cases hb : b = want
        · rw [if_pos (by simp [hb])]
          exact aop_soundB (K := fun d st' => K (st'.put o.dst d)) hop hs (hk.1 hb) fun v d w' ok' β' st' k1 k2 k3 => hn _ _ _ _ _ k1 (k2.put k3 _ hdst)
        · rw [if_neg (by simp [hb])]
          exact hn _ _ _ _ _ (hk.2 (by cases b <;> cases want <;> simp_all)) (hs.put (.tup [] [] rfl (fun i v d hv _ => by simp at hv)) _ hdst)
      | tup l =>
        cases l with
        | cons _ _ => exact hk.elim
        | nil =>
          have hv : a.tmps.getD g undef = undef := by
            generalize a.tmps.getD g undef = v at hr
            cases hr with
            | tup vs ds hl _ =>
              obtain rfl : vs = [] := List.eq_nil_of_length_eq_zero (by simpa using hl)
              rfl
          have hw : Region.wanted o (yielded all a.tmps) = false := by
            simp only [Region.wanted, hg, yielded, hgd, Option.bind_some]
            rw [Array.getD_eq_getD_getElem?] at hv
            cases hx : a.tmps[g]? with
            | none => simp
            | some x =>
              rw [hx] at hv
              simp at hv
              subst hv
              simp [undef]
          rw [hw, if_neg (by simp)]
          exact hn _ _ _ _ _ hk (hs.put (.tup [] [] rfl (fun i v d hv _ => by simp at hv)) _ hdst)
      | _ => exact hk.elim
  · cases hc

theorem opers_sound {all : Array Oper} {Q : Exit → Act → World → Prop} {K : St → Prop} (hQ : ∀ a' w' ok' β' st', K st' → SRep E C a' w' ok' β' st' → Q .normal a' w') :
    ∀ (l : List Oper) (al : List AOper) (_ : copers E.P full bad C.n all l = some al) (st : St) (a : Act) (w : World) (ok : Nat → Prop) (β : Loc), SRep E C a w ok β st → aops E al K st → wpList E.P all Q l a w
  | [], al, hc, st, a, w, ok, β, hs, hk => by
    simp [copers] at hc; subst hc
    exact hQ a w ok β st hk hs
  | o :: l, al, hc, st, a, w, ok, β, hs, hk => by
    simp only [copers, Option.bind_eq_some_iff, Option.map_eq_some_iff] at hc
    obtain ⟨x, hx, xs, hxs, rfl⟩ := hc
    have := oper_sound (next := wpList E.P all Q l) (Q := Q) hx hs hk (fun a' w' ok' β' st' k1 k2 => opers_sound hQ l xs hxs st' a' w' ok' β' k2 k1)
    unfold wpList
    split
    · rename_i hw; rw [if_pos hw] at this; exact .inl this
    · rename_i hw; rw [if_neg hw] at this; exact this

end
end Go.Ai
