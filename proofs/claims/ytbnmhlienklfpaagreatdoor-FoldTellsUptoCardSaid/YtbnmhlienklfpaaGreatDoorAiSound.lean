/- Each operation of the model does what ours says. -/
import Derived.Test.YtbnmhlienklfpaaGreatDoorAiComp
set_option linter.all false
namespace Go.Ai
open Go.Instr
section
variable {E : Env} {C : Ctx} {a : Act} {w : World} {ok : Nat → Prop} {β : Loc} {st : St} {K : DV → St → Prop}

theorem load_sound {t : TypeId} {td : TypeDesc} {i : TypeInfo} (ht : E.P.underlying t = some td) (hi : E.P.info? t = some i) {v : Value} {x : AX} (hs : SRep E C a w ok β st) (hv : Rep w ok β v (x.ev st.fr))
    (hk : aop E (.load (if isAggD td then some i.size else none) x) K st) : LV E C a K (loadAt t v) w := by
  cases hb : isAggD td with
  | false =>
    simp only [hb, Bool.false_eq_true, if_false, aop] at hk
    generalize hd : x.ev st.fr = d at hv hk
    have hb' := hb
    cases hv with
    | ptr l o b x' h =>
      obtain ⟨cs, hl, d, hd', hk⟩ := hk
      obtain ⟨b', vs, ty, fz, g1, g2, g3, g4, g5⟩ := hs.heap.obj l _ hl
      rw [h] at g1
      injection g1 with g1; injection g1 with e1 e2
      subst e1; subst e2
      have ho : o < vs.size := by
        rcases Nat.lt_or_ge o cs.length with h' | h'
        · omega
        · rw [List.getElem?_eq_none h'] at hd'; cases hd'
      exact load1_lv ht hb' hs (v := vs[o]) (by simp [World.cell?, g2, ho]) (g5 o _ d (Array.getElem?_eq_getElem ho) hd') hk
    | aptr sz l j q b x' h =>
      obtain ⟨es, hl, e, he, d, hd', hk⟩ := hk
      obtain ⟨h1, h2⟩ := hs.heap.obj l _ hl
      have hel := h1 e (List.mem_of_getElem? he)
      rcases h2 with ⟨h2, _⟩ | ⟨hz, b', x2, vs, ty, fz, g1, g2, g3, g4, g5⟩
      · subst h2; simp at he
      · rw [h] at g1
        injection g1 with g1; injection g1 with e1 e2
        subst e1; subst e2
        have hq : q < sz := by
          rcases Nat.lt_or_ge q e.length with h' | h'
          · omega
          · rw [List.getElem?_eq_none h'] at hd'; cases hd'
        have hj : j < es.length := by
          rcases Nat.lt_or_ge j es.length with h' | h'
          · exact h'
          · rw [List.getElem?_eq_none h'] at he; cases he
        have hin : x' + (j * sz + q) < vs.size := by
          have : (j + 1) * sz ≤ es.length * sz := Nat.mul_le_mul_right _ hj
          rw [Nat.succ_mul] at this; omega
        have hf := flatten_get h1 he hq
        exact load1_lv ht hb' hs (v := vs[x' + (j * sz + q)]) (by simp [World.cell?, g2, hin]) ((g5 _ _ d (Array.getElem?_eq_getElem hin) (by rw [hf]; exact hd')).2.shut_none) hk
    | eptr cs o b x' vs hok hc hh =>
      obtain ⟨d, hd', hk⟩ := hk
      have ho : o < cs.length := by
        rcases Nat.lt_or_ge o cs.length with h' | h'
        · exact h'
        · rw [List.getElem?_eq_none h'] at hd'; cases hd'
      exact load1_lv ht hb' hs (hc o ho) ((hh o d hd').shut_none) hk
    | _ => exact hk.elim
  | true =>
    simp only [hb, if_true, aop] at hk
    generalize hd : x.ev st.fr = d at hv hk
    have hb' := hb
    cases hv with
    | ptr l o b x' h =>
      obtain ⟨cs, hl, hn, hk⟩ := hk
      obtain ⟨b', vs, ty, fz, g1, g2, g3, g4, g5⟩ := hs.heap.obj l _ hl
      rw [h] at g1
      injection g1 with g1; injection g1 with e1 e2
      subst e1; subst e2
      refine loadN_lv ht hb' hi (vs := (vs.toList.drop o).take i.size) (by simp; omega) (by simp; omega) hs (fun j v hv => ?_) (fun j v e hv he => ?_) hk
      · rw [List.getElem?_take] at hv
        split at hv
        · rw [List.getElem?_drop] at hv
          rw [add_mk]
          simpa [World.cell?, g2, Nat.add_assoc] using hv
        · cases hv
      · rw [List.getElem?_take] at hv he
        split at hv
        · rename_i hj
          rw [if_pos hj, List.getElem?_drop] at he
          rw [List.getElem?_drop] at hv
          exact g5 _ v e (by simpa using hv) he
        · cases hv
    | aptr sz l j q b x' h =>
      obtain ⟨es, hl, e, he, hn, hk⟩ := hk
      obtain ⟨h1, h2⟩ := hs.heap.obj l _ hl
      have hel := h1 e (List.mem_of_getElem? he)
      rcases h2 with ⟨h2, _⟩ | ⟨hz, b', x2, vs, ty, fz, g1, g2, g3, g4, g5⟩
      · subst h2; simp at he
      · rw [h] at g1
        injection g1 with g1; injection g1 with e1 e2
        subst e1; subst e2
        have hj : j < es.length := by
          rcases Nat.lt_or_ge j es.length with h' | h'
          · exact h'
          · rw [List.getElem?_eq_none h'] at he; cases he
        have hin : x' + (j * sz + q) + i.size ≤ vs.size := by
          have : (j + 1) * sz ≤ es.length * sz := Nat.mul_le_mul_right _ hj
          rw [Nat.succ_mul] at this; omega
        refine loadN_lv ht hb' hi (vs := (vs.toList.drop (x' + (j * sz + q))).take i.size) (by simp; omega) (by simp; omega) hs (fun k v hv => ?_) (fun k v d hv hd2 => ?_) hk
        · rw [List.getElem?_take] at hv
          split at hv
          · rw [List.getElem?_drop] at hv
            rw [add_mk]
            simpa [World.cell?, g2] using hv
          · cases hv
        · rw [List.getElem?_take] at hv hd2
          split at hv
          · rename_i hk'
            rw [if_pos hk', List.getElem?_drop] at hd2
            rw [List.getElem?_drop] at hv
            have hf := flatten_get h1 he (q := q + k) (by omega)
            exact (g5 (j * sz + (q + k)) v d (by
              have e3 : x' + (j * sz + (q + k)) = x' + (j * sz + q) + k := by omega
              rw [e3]; simpa using hv) (by rw [hf]; exact hd2)).2.shut_none
          · cases hv
    | eptr cs o b x' vs hok hc hh =>
      obtain ⟨hn, hk⟩ := hk
      refine loadN_lv ht hb' hi (vs := (List.range i.size).map fun k => vs (o + k)) (by simp) (by simp; omega) hs (fun j v hv => ?_) (fun j v e hv he => ?_) hk
      · rw [List.getElem?_map] at hv
        rcases Nat.lt_or_ge j i.size with h' | h'
        · rw [List.getElem?_range h'] at hv
          simp at hv
          subst hv
          rw [add_mk, Nat.add_assoc]
          exact hc _ (by omega)
        · rw [List.getElem?_eq_none (by simpa using h')] at hv; cases hv
      · rw [List.getElem?_map] at hv
        rcases Nat.lt_or_ge j i.size with h' | h'
        · rw [List.getElem?_range h'] at hv
          simp at hv
          subst hv
          rw [List.getElem?_take, if_pos h', List.getElem?_drop] at he
          exact (hh _ e he).shut_none
        · rw [List.getElem?_eq_none (by simpa using h')] at hv; cases hv
    | _ => exact hk.elim

theorem Rep.aptr_inv {v : Value} {sz l j q : Nat} (h : Rep w ok β v (.aptr sz l j q)) : ∃ b x, β l = some (b, x) ∧ v = .pointer (some ⟨b, x + (j * sz + q), none⟩) := by
  cases h with
  | aptr _ _ _ _ b x h => exact ⟨b, x, h, rfl⟩

theorem store_aptr {t : TypeId} {i : TypeInfo} (hi : E.P.info? t = some i) {u : Value} {e : DV} {sz l j q b x' : Nat} {es : List (List DV)} {el : List DV} (hs : SRep E C a w ok β st) (h : β l = some (b, x')) (hu : Rep w ok β u e)
    (hl : st.h[l]? = some (.arr sz es)) (hel : es[j]? = some el) (hcl : e.closed = true) (h1 : e.cells.all DV.one = true) (h2 : e.cells.length = i.size) (h3 : q + i.size ≤ el.length)
    (hk : K .undef (st.at l (.arr sz (es.set j (el.take q ++ e.cells ++ el.drop (q + i.size)))))) : ∃ w' β' st', (storeAt t (.pointer (some ⟨b, x' + (j * sz + q), none⟩)) u).run E.P w = .ok () w' ∧ SRep E C a w' ok β' st' ∧ K .undef st' := by
  obtain ⟨c1, c2, c3⟩ := hu.cells h1
  obtain ⟨q1, q2⟩ := hs.heap.obj l _ hl
  have hell := q1 el (List.mem_of_getElem? hel)
  have hj : j < es.length := by
    rcases Nat.lt_or_ge j es.length with h' | h'
    · exact h'
    · rw [List.getElem?_eq_none h'] at hel; cases hel
  rcases q2 with ⟨q2, _⟩ | ⟨hz, b', x2, vs, ty, fz, g1, g2, g3, g4, g5⟩
  · subst q2; simp at hj
  · rw [h] at g1
    injection g1 with g1; injection g1 with e1 e2
    subst e1; subst e2
    have hrow : (j + 1) * sz ≤ es.length * sz := Nat.mul_le_mul_right _ hj
    rw [Nat.succ_mul] at hrow
    have hcl' : u.cells.toList.length = i.size := by simp; omega
    obtain ⟨w', r, o1, o2, o3, o4, oth, cur', f1, f2, f3⟩ := run_storeCells_own E.P b (x' + (j * sz + q)) ty fz u.cells.toList 0 vs w g2 g3 (by rw [hcl']; omega) c3
    have hmono : ∀ {v : Value} {d : DV}, Rep w ok noLoc v d → Rep w' ok noLoc v d := fun h' => h'.mono (fun _ k => k)
      (fun k hk => oth k fun e => hs.heap.dis l b x' h (e ▸ hk)) (fun l' y hy => by simp [noLoc] at hy)
    have hset : ∀ e' ∈ es.set j (el.take q ++ e.cells ++ el.drop (q + i.size)), e'.length = sz := fun e' he' => by
      rcases List.mem_or_eq_of_mem_set he' with h' | h'
      · exact q1 e' h'
      · subst h'; simp; omega
    refine ⟨w', β, _, ?_, hs.write l b x' (.arr sz (es.set j (el.take q ++ e.cells ++ el.drop (q + i.size)))) _ h hl (fun cs h' => by cases h') o1 o2 o3 o4 oth (by simp [World.shape?, f1, g2, f2])
      ⟨hset, .inr ⟨hz, b, x', cur', ty, fz, h, f1, by rw [f2]; exact g3, by rw [f2]; simpa using g4, fun k v d hv' hd' => ?_⟩⟩, hk⟩
    · have := run_storeVar (w := w) hi (v := u) (by omega) (b := b) (x := x' + (j * sz + q)) (s := storeCells ⟨b, x' + (j * sz + q), none⟩ u.cells.toList) rfl
      rw [this]; exact r
    · rw [f3, hcl'] at hv'
      have hfl : (es.set j (el.take q ++ e.cells ++ el.drop (q + i.size))).flatten[k]? = if j * sz + q ≤ k ∧ k < j * sz + q + i.size then e.cells[k - (j * sz + q)]? else es.flatten[k]? := by
        have hkd : k < es.length * sz ∨ es.length * sz ≤ k := Nat.lt_or_ge _ _
        rcases hkd with hk1 | hk1
        · have hkm : k / sz < es.length := Nat.div_lt_of_lt_mul (by rw [Nat.mul_comm]; exact hk1)
          have hkr : k % sz < sz := Nat.mod_lt _ hz
          have hke : k = k / sz * sz + k % sz := by have := Nat.div_add_mod k sz; rw [Nat.mul_comm] at this; omega
          have hgs : (es.set j (el.take q ++ e.cells ++ el.drop (q + i.size)))[k / sz]? = some (if k / sz = j then el.take q ++ e.cells ++ el.drop (q + i.size) else es[k / sz]) := by
            by_cases hj2 : k / sz = j
            · rw [if_pos hj2, hj2, List.getElem?_set_self (by omega)]
            · rw [if_neg hj2, List.getElem?_set_ne (fun q => hj2 q.symm), List.getElem?_eq_getElem hkm]
          have hf1 := flatten_get hset hgs hkr
          rw [← hke] at hf1
          rw [hf1]
          by_cases hj2 : k / sz = j
          · rw [if_pos hj2, splice_get _ _ _ _ _ h2 h3]
            have hf2 := flatten_get q1 hel hkr
            have hke2 : j * sz + k % sz = k := by rw [← hj2]; exact hke.symm
            rw [hke2] at hf2
            by_cases hin : q ≤ k % sz ∧ k % sz < q + i.size
            · rw [if_pos hin, if_pos (by omega)]
              congr 1; omega
            · rw [if_neg hin, if_neg (by omega), hf2]
          · rw [if_neg hj2, if_neg (by
              rintro ⟨hh1, hh2⟩
              have : k / sz = j := by
                apply Nat.div_eq_of_lt_le
                · omega
                · rw [Nat.succ_mul]; omega
              exact hj2 this)]
            have hf2 := flatten_get q1 (List.getElem?_eq_getElem hkm) hkr
            rw [← hke] at hf2
            exact hf2.symm
        · rw [List.getElem?_eq_none (by rw [flatten_len hset]; simpa using hk1), if_neg (by omega), List.getElem?_eq_none (by rw [flatten_len q1]; exact hk1)]
      rw [hfl] at hd'
      by_cases hin : j * sz + q ≤ k ∧ k < j * sz + q + i.size
      · rw [if_pos hin] at hd'
        rw [if_pos (by omega)] at hv'
        have e4 : x' + k - (x' + (j * sz + q) + 0) = k - (j * sz + q) := by omega
        rw [e4] at hv'
        exact ⟨c3 v (List.mem_of_getElem? hv'), hmono ((c2 _ v d (by simpa using hv') hd').shut (cells_closed hcl (List.mem_of_getElem? hd')))⟩
      · rw [if_neg hin] at hd'
        rw [if_neg (by omega)] at hv'
        exact ⟨(g5 k v d hv' hd').1, hmono (g5 k v d hv' hd').2⟩

theorem store_sound {o : Oper} {t : TypeId} {i : TypeInfo} (hi : E.P.info? t = some i) {v u : Value} {x y : AX} (hs : SRep E C a w ok β st) (hv : Rep w ok β v (x.ev st.fr)) (hu : Rep w ok β u (y.ev st.fr))
    {full : Bool} (hk : aop E (.store full i.size x y) K st) : ∃ w' ok' β' st', (storeAt t v u).run E.P w = .ok () w' ∧ SRep E C a w' ok' β' st' ∧ K .undef st' := by
  simp only [aop] at hk
  generalize hd : x.ev st.fr = d at hv hk
  generalize he : y.ev st.fr = e at hu hk
  cases hv with
  | ptr l o b x' h =>
    obtain ⟨cs, hl, h1, h2, h3, hk⟩ := hk
    obtain ⟨b', vs, ty, fz, g1, g2, g3, g4, g5⟩ := hs.heap.obj l _ hl
    rw [h] at g1
    injection g1 with g1; injection g1 with e1 e2
    subst e1; subst e2
    obtain ⟨w', r1, r2⟩ := store_box (o := o) hi hs h hl hu h1 h2 h3
    exact ⟨w', ok, β, _, r1, r2, hk⟩
  | aptr sz l j q b x' h =>
    obtain ⟨ds', st', ok', β', hk, hs', hlen, hds, hp⟩ := shutL_sound hs hk.2
    obtain ⟨d', rfl, es, hl, el, hel, hcl, h1, h2, h3, hk⟩ := hk
    have hu' := hds [u] (fun i v d hv hd => by
      cases i with
      | zero => simp at hv hd; subst hv; subst hd; exact hu
      | succ i => simp at hv) 0 u d' rfl rfl
    have hv' := hp _ sz l j q sz es (.aptr sz l j q b x' h) hl
    obtain ⟨b2, x2, h', e'⟩ := hv'.aptr_inv
    obtain ⟨w', β2, st2, r1, r2, r3⟩ := store_aptr hi hs' h' hu' hl hel hcl h1 h2 h3 hk
    exact ⟨w', ok', β2, st2, by rw [e']; exact r1, r2, r3⟩
  | _ => exact hk.elim
end
end Go.Ai
