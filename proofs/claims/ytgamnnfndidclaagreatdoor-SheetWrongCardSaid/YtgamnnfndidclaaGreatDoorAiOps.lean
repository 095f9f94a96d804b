/- Each operation does in memory what it does in the abstract state. -/
import Derived.Test.YtgamnnfndidclaaGreatDoorAiWp
import GoSem.Dispatch
set_option linter.all false
namespace Go.Ai
open Go.Instr

/-- A computation that ends in a value, in a world that the new state tells, with K. -/
def LV (E : Env) (C : Ctx) (a : Act) (K : DV → St → Prop) (s : Sem Value) (w : World) : Prop :=
  ∃ v w' ok' β' d st', s.run E.P w = .ok v w' ∧ SRep E C a w' ok' β' st' ∧ Rep w' ok' β' v d ∧ K d st'

section
variable {E : Env} {C : Ctx} {a : Act} {w : World} {ok : Nat → Prop} {β : Loc} {st : St} {K : DV → St → Prop}

theorem LV.pure {v : Value} {d : DV} (hs : SRep E C a w ok β st) (hv : Rep w ok β v d) (hk : K d st) : LV E C a K (pure v) w :=
  ⟨v, w, ok, β, d, st, rfl, hs, hv, hk⟩

theorem LV.same {s : Sem Value} {v : Value} {d : DV} (hr : s.run E.P w = .ok v w) (hs : SRep E C a w ok β st) (hv : Rep w ok β v d) (hk : K d st) : LV E C a K s w :=
  ⟨v, w, ok, β, d, st, hr, hs, hv, hk⟩

/-! ### Values' cells -/
theorem Rep.oneCell {v : Value} {d : DV} (h : Rep w ok β v d) (h1 : d.one = true) : v.oneCell' = true := by
  cases h <;> first | rfl | simp [DV.one] at h1
/-- A value's cells, one by one. -/
theorem Rep.cells {v : Value} {d : DV} (h : Rep w ok β v d) (h1 : d.cells.all DV.one = true) :
    v.cells.size = d.cells.length ∧ (∀ (i : Nat) u e, v.cells[i]? = some u → d.cells[i]? = some e → Rep w ok β u e) ∧ ∀ u ∈ v.cells.toList, u.oneCell' = true := by
  cases h with
  | agg vs ds hl hh =>
    refine ⟨by simpa [Value.cells, DV.cells] using hl, fun i u e hu he => hh i u e (by simpa [Value.cells] using hu) he, fun u hu => ?_⟩
    simp only [Value.cells] at hu
    obtain ⟨i, hi, rfl⟩ := List.mem_iff_getElem.1 hu
    have hi' : i < ds.length := by rw [← hl]; exact hi
    have hd : ds[i].one = true := by
      simp only [DV.cells, List.all_eq_true] at h1
      exact h1 _ (List.getElem_mem hi')
    exact (hh i vs[i] ds[i] (List.getElem?_eq_getElem hi) (List.getElem?_eq_getElem hi')).oneCell hd
  | tup vs ds hl hh => simp [DV.cells, DV.one] at h1
  | undef v => simp [DV.cells, DV.one] at h1
  | _ =>
    refine ⟨rfl, fun i u e hu he => ?_, fun u hu => ?_⟩
    · cases i with
      | zero =>
        simp [Value.cells] at hu
        simp [DV.cells] at he
        subst hu; subst he
        constructor <;> assumption
      | succ i => simp [Value.cells] at hu
    · simp [Value.cells] at hu
      subst hu
      rfl

/-! ### Nil slices that are kept -/
theorem ownCell_sound {v : Value} {d : DV} (hs : SRep E C a w ok β st) (hv : Rep w ok β v d) :
    SRep E C a w ok β { st with h := (ownCell d st.h).2 } ∧ Rep w ok β v (ownCell d st.h).1 := by
  cases hv with
  | nils sz hz => exact ⟨hs.newnone sz, .oslnil _ _ _ _ (fun _ h => by cases h) hz⟩
  | _ => exact ⟨hs, by constructor <;> assumption⟩

theorem ownCells_sound : ∀ (ds : List DV) (vs : List Value) (st : St), SRep E C a w ok β st → vs.length = ds.length →
    (∀ (i : Nat) v d, vs[i]? = some v → ds[i]? = some d → Rep w ok β v d) →
    SRep E C a w ok β { st with h := (ownCells ds st.h).2 } ∧ (ownCells ds st.h).1.length = ds.length ∧
      ∀ (i : Nat) v d, vs[i]? = some v → (ownCells ds st.h).1[i]? = some d → Rep w ok β v d
  | [], vs, st, hs, hl, h => ⟨hs, rfl, fun i v d _ hd => by simp [ownCells] at hd⟩
  | d :: ds, [], st, hs, hl, h => by simp at hl
  | d :: ds, v :: vs, st, hs, hl, h => by
    obtain ⟨h1, h2⟩ := ownCell_sound (st := st) hs (h 0 v d rfl rfl)
    obtain ⟨k1, k2, k3⟩ := ownCells_sound ds vs { st with h := (ownCell d st.h).2 } h1 (by simpa using hl) (fun i v' d' hv hd => h (i + 1) v' d' (by simpa using hv) (by simpa using hd))
    refine ⟨k1, by simp only [ownCells, List.length_cons]; exact congrArg (· + 1) k2, fun i v' d' hv hd => ?_⟩
    cases i with
    | zero => simp [ownCells] at hd; simp at hv; subst hd; subst hv; exact h2
    | succ i => exact k3 i v' d' (by simpa using hv) (by simpa [ownCells] using hd)

theorem ownCell_ext (d : DV) (h : List AObj) : ∃ tl, (ownCell d h).2 = h ++ tl := by
  cases d <;> first | exact ⟨_, rfl⟩ | exact ⟨[], by simp [ownCell]⟩
theorem ownCells_ext : ∀ (ds : List DV) (h : List AObj), ∃ tl, (ownCells ds h).2 = h ++ tl
  | [], h => ⟨[], by simp [ownCells]⟩
  | d :: ds, h => by
    obtain ⟨t1, h1⟩ := ownCell_ext d h
    obtain ⟨t2, h2⟩ := ownCells_ext ds (ownCell d h).2
    exact ⟨t1 ++ t2, by simp only [ownCells]; rw [h2, h1, List.append_assoc]⟩
theorem ownVal_sound {v : Value} {d : DV} (hs : SRep E C a w ok β st) (hv : Rep w ok β v d) :
    SRep E C a w ok β { st with h := (ownVal d st.h).2 } ∧ Rep w ok β v (ownVal d st.h).1 := by
  cases hv with
  | agg vs ds hl hh =>
    obtain ⟨h1, h2, h3⟩ := ownCells_sound ds vs st hs hl hh
    exact ⟨h1, .agg vs _ (by rw [h2]; exact hl) h3⟩
  | nils sz hz => exact ⟨hs.newnone sz, .oslnil _ _ _ _ (fun _ h => by cases h) hz⟩
  | _ => exact ⟨hs, by constructor <;> assumption⟩

/-! ### New variables -/
theorem box_lv (t : TypeId) {v : Value} {d : DV} (hs : SRep E C a w ok β st) (hv : Rep w ok β v d) (h1 : d.cells.all DV.one = true)
    (hk : K (.ptr (ownCells d.cells st.h).2.length 0) { st with h := (ownCells d.cells st.h).2 ++ [.box (ownCells d.cells st.h).1] }) :
    LV E C a K (Instr.box t v) w := by
  obtain ⟨c1, c2, _⟩ := hv.cells h1
  obtain ⟨k1, k2, k3⟩ := ownCells_sound d.cells v.cells.toList st hs (by simpa using c1) (fun i u e hu he => c2 i u e (by simpa using hu) he)
  obtain ⟨β', n1, n2, n3⟩ := k1.new (.cells v.cells t) (.box (ownCells d.cells st.h).1) (fun β' hβ' hn => by
    refine ⟨w.heap.size, v.cells, t, (0, 0), hn, push_new w _, .zero _, by rw [k2]; exact c1, fun i u e hu he => ?_⟩
    exact (k3 i u e (by simpa using hu) he).mono (fun _ h => h) (fun b hb => push_old w _ (hs.heap.okl b hb)) hβ')
  exact ⟨_, _, ok, β', _, _, rfl, n1, .ptr _ 0 _ 0 n2, hk⟩

theorem alloc_lv (t : TypeId) {z : Value} {zs : List DV} (hs : SRep E C a w ok β st) (hz : (E.P.info? t).bind (·.zero) = some z)
    (hlen : z.cells.size = zs.length) (hv : ∀ (i : Nat) u e, z.cells[i]? = some u → zs[i]? = some e → Rep w ok β u e)
    (hk : K (.ptr (ownCells zs st.h).2.length 0) { st with h := (ownCells zs st.h).2 ++ [.box (ownCells zs st.h).1] }) :
    LV E C a K (Instr.alloc t true (.tuple #[])) w := by
  obtain ⟨k1, k2, k3⟩ := ownCells_sound zs z.cells.toList st hs (by simpa using hlen) (fun i u e hu he => hv i u e (by simpa using hu) he)
  obtain ⟨β', n1, n2, n3⟩ := k1.new (.cells z.cells t) (.box (ownCells zs st.h).1) (fun β' hβ' hn => by
    refine ⟨w.heap.size, z.cells, t, (0, 0), hn, push_new w _, .zero _, by rw [k2]; exact hlen, fun i u e hu he => ?_⟩
    exact (k3 i u e (by simpa using hu) he).mono (fun _ h => h) (fun b hb => push_old w _ (hs.heap.okl b hb)) hβ')
  refine ⟨_, _, ok, β', _, _, ?_, n1, .ptr _ 0 _ 0 n2, hk⟩
  cases hi : E.P.info? t with
  | none => simp [hi] at hz
  | some i =>
    simp [hi] at hz
    simp [Instr.alloc, zeroValue, typeInfo, hi, hz, newVar, newRow]

theorem allocb_lv (t : TypeId) {z : Value} (hs : SRep E C a w ok β st) (hz : (E.P.info? t).bind (·.zero) = some z)
    (hlen : z.cells.size = 2) (hv : ∀ (i : Nat) u e, z.cells[i]? = some u → ([.nilp, .nils 1] : List DV)[i]? = some e → Rep w ok β u e)
    (e : Nat) (hk : K (.ptr (st.h.length + 1) 0) { st with h := (st.h ++ [.buf e []]) ++ [.box [.self (st.h.length + 1) t 2, .hdr st.h.length e 0]] }) :
    LV E C a K (Instr.alloc t true (.tuple #[])) w := by
  have k1 := hs.newbuf e
  obtain ⟨β', n1, n2, n3⟩ := k1.new (.cells z.cells t) (.box [.self (st.h.length + 1) t 2, .hdr st.h.length e 0]) (fun β' hβ' hn => by
    have hl : ((st.h ++ [AObj.buf e []]).length) = st.h.length + 1 := by simp
    refine ⟨w.heap.size, z.cells, t, (0, 0), hn, push_new w _, .zero _, by simpa using hlen, fun i u e hu he => ?_⟩
    match i, he with
    | 0, he =>
      simp at he; subst he
      have r := hv 0 u .nilp hu rfl
      cases r
      refine .selfn _ t 2 w.heap.size ?_ ?_
      · rw [← hl]; exact hn
      · unfold World.shape?; rw [push_new]; simp [hlen]
    | 1, he =>
      simp at he; subst he
      have r := hv 1 u (.nils 1) hu rfl
      cases r with
      | nils sz hz => exact .hdrn _ _)
  refine ⟨.pointer (some ⟨w.heap.size, 0, none⟩), _, ok, β', _, _, ?_, n1, ?_, hk⟩
  rotate_left
  · have hl : ((st.h ++ [AObj.buf e []]).length) = st.h.length + 1 := by simp
    exact .ptr _ 0 w.heap.size 0 (by rw [← hl]; exact n2)
  cases hi : E.P.info? t with
  | none => simp [hi] at hz
  | some i =>
    simp [hi] at hz
    simp [Instr.alloc, zeroValue, typeInfo, hi, hz, newVar, newRow]

/-! ### Loads -/
def isAggD : TypeDesc → Bool
  | .struct _ | .array _ _ => true
  | _ => false

theorem isAgg_run {t : TypeId} {d : TypeDesc} (h : E.P.underlying t = some d) (b : Bool) (hb : isAggD d = b) (w : World) :
    (isAgg t).run E.P w = .ok b w := by
  subst hb
  simp only [isAgg, Sem.run_bind, run_underlying h, Result.andThen_ok]
  cases d <;> rfl

theorem load1_lv {t : TypeId} {d : TypeDesc} (ht : E.P.underlying t = some d) (hb : isAggD d = false)
    {ad : Addr} {v : Value} {e : DV} (hs : SRep E C a w ok β st) (hc : w.cell? ad = some v) (hv : Rep w ok β v e) (hk : K e st) :
    LV E C a K (loadAt t (.pointer (some ad))) w := by
  refine LV.same (v := v) ?_ hs hv hk
  simp [loadAt, sureAddr, loadVar, isAgg_run ht false hb, hc]

theorem loadN_lv {t : TypeId} {d : TypeDesc} {i : TypeInfo} (ht : E.P.underlying t = some d) (hb : isAggD d = true)
    (hi : E.P.info? t = some i) {ad : Addr} {vs : List Value} {es : List DV} (hn : vs.length = i.size) (hl : vs.length = es.length) (hs : SRep E C a w ok β st)
    (hc : ∀ (j : Nat) v, vs[j]? = some v → w.cell? (ad.add j) = some v) (hv : ∀ (j : Nat) v e, vs[j]? = some v → es[j]? = some e → Rep w ok β v e) (hk : K (.agg es) st) :
    LV E C a K (loadAt t (.pointer (some ad))) w := by
  refine LV.same (v := .agg vs.toArray) ?_ hs (.agg vs es hl hv) hk
  have hL := run_loadCells_list (P := E.P) w ad vs hc
  rw [hn] at hL
  simp [loadAt, sureAddr, loadVar, isAgg_run ht true hb, sizeOf, typeInfo, hi, hL]

theorem add_mk (b x n : Nat) : (⟨b, x, none⟩ : Addr).add n = ⟨b, x + n, none⟩ := by
  unfold Addr.add; split
  · rename_i h; subst h; rfl
  · rfl

/-! ### Stores -/
theorem run_storeCells_own (P : Program) (b x : Nat) (t : TypeId) (fz : Nat × Nat) : ∀ (vs : List Value) (i : Nat) (cur : Array Value) (w : World), w.heap[b]? = some (.cells cur t fz) →
    Thaw fz cur.size → x + i + vs.length ≤ cur.size → (∀ v ∈ vs, v.oneCell' = true) →
    ∃ w', (storeCells ⟨b, x, none⟩ vs i).run P w = .ok () w' ∧ w'.os = w.os ∧ w'.tape = w.tape ∧ w'.output = w.output ∧ w'.heap.size = w.heap.size ∧ (∀ k, k ≠ b → w'.heap[k]? = w.heap[k]?) ∧
      ∃ cur', w'.heap[b]? = some (.cells cur' t fz) ∧ cur'.size = cur.size ∧ ∀ k, cur'[k]? = if x + i ≤ k ∧ k < x + i + vs.length then vs[k - (x + i)]? else cur[k]?
  | [], i, cur, w, hg, _, _, _ => ⟨w, rfl, rfl, rfl, rfl, rfl, fun _ _ => rfl, cur, hg, rfl, fun k => by rw [if_neg (by simp)]⟩
  | v :: vs, i, cur, w, hg, hth, hl, h1 => by
    simp only [List.length_cons] at hl
    have hi : x + i < cur.size := by omega
    have hcell : w.cell? ⟨b, x + i, none⟩ = some cur[x + i] := by simp [World.cell?, hg, hi]
    have hfro : w.frozen? ⟨b, x + i, none⟩ = false := by
      obtain ⟨lo, hi'⟩ := fz
      have := hth (x + i) hi
      simpa [World.frozen?, hg] using this
    have hw1 : (w.setCell ⟨b, x + i, none⟩ v).heap[b]? = some (.cells (cur.setIfInBounds (x + i) v) t fz) := by
      simp [World.setCell, Array.getElem?_modify, hg]
    have hst : (store ((⟨b, x, none⟩ : Addr).add i) v).run P w = .ok () (w.setCell ⟨b, x + i, none⟩ v) := by
      rw [run_store P w _ v .plain (h1 v (by simp)), add_mk, hcell]
      simp [hfro]
    obtain ⟨w', r, o, tp, ot, sz, oth, cur', g', s', c'⟩ := run_storeCells_own P b x t fz vs (i + 1) (cur.setIfInBounds (x + i) v) (w.setCell ⟨b, x + i, none⟩ v) hw1
      (by simpa using hth) (by simp; omega) (fun u hu => h1 u (by simp [hu]))
    refine ⟨w', ?_, o, tp, ot, by rw [sz]; simp [World.setCell], fun k hk => ?_, cur', g', by rw [s']; simp, fun k => ?_⟩
    · rw [storeCells]
      simp only [Sem.run_bind, hst, Result.andThen_ok]
      exact r
    · rw [oth k hk]
      simp only [World.setCell, Array.getElem?_modify]
      rw [if_neg (fun e : b = k => hk e.symm)]
    · rw [c' k]
      simp only [List.length_cons]
      by_cases h0 : k = x + i
      · subst h0
        rw [if_neg (by omega), if_pos (by omega)]
        simp [hi]
      · rw [Array.getElem?_setIfInBounds_ne (fun e => h0 e.symm)]
        by_cases h2 : x + (i + 1) ≤ k ∧ k < x + (i + 1) + vs.length
        · rw [if_pos h2, if_pos (by omega)]
          have : k - (x + i) = (k - (x + (i + 1))) + 1 := by omega
          rw [this, List.getElem?_cons_succ]
        · rw [if_neg h2, if_neg (by omega)]

theorem run_storeVar {t : TypeId} {i : TypeInfo} (hi : E.P.info? t = some i) {v : Value} (hn : v.cells.size = i.size) {b x : Nat} {s : Sem Unit}
    (hr : (storeCells ⟨b, x, none⟩ v.cells.toList).run E.P w = s.run E.P w) : (storeAt t (.pointer (some ⟨b, x, none⟩)) v).run E.P w = s.run E.P w := by
  simp [storeAt, sureAddr, storeVar, sizeOf, typeInfo, hi, hn, hr]

theorem splice_get (cs new : List DV) (o n k : Nat) (hn : new.length = n) (ho : o + n ≤ cs.length) :
    (cs.take o ++ new ++ cs.drop (o + n))[k]? = if o ≤ k ∧ k < o + n then new[k - o]? else cs[k]? := by
  have ht : (cs.take o).length = o := by rw [List.length_take]; omega
  rcases Nat.lt_or_ge k o with h | h
  · rw [if_neg (by omega), List.append_assoc, List.getElem?_append_left (by omega), List.getElem?_take, if_pos h]
  · rcases Nat.lt_or_ge k (o + n) with h2 | h2
    · rw [if_pos ⟨h, h2⟩, List.append_assoc, List.getElem?_append_right (by omega), List.getElem?_append_left (by omega), ht]
    · rw [if_neg (by omega), List.getElem?_append_right (by simp [ht]; omega), List.getElem?_drop]
      congr 1
      simp [ht]; omega

/-- What is stored into a variable of the call's own. -/
theorem store_box {t : TypeId} {i : TypeInfo} (hi : E.P.info? t = some i) {l o b x : Nat} {v : Value} {d : DV} {cs : List DV}
    (hs : SRep E C a w ok β st) (hb : β l = some (b, x)) (hl : st.h[l]? = some (.box cs)) (hv : Rep w ok β v d) (h1 : d.cells.all DV.one = true) (hn : d.cells.length = i.size)
    (ho : o + i.size ≤ cs.length) :
    ∃ w', (storeAt t (.pointer (some ⟨b, x + o, none⟩)) v).run E.P w = .ok () w' ∧
      SRep E C a w' ok β ({ st with h := (ownCells d.cells st.h).2 }.at l (.box (cs.take o ++ (ownCells d.cells st.h).1 ++ cs.drop (o + i.size)))) := by
  obtain ⟨c1, c2, c3⟩ := hv.cells h1
  obtain ⟨k1, k2, k3⟩ := ownCells_sound d.cells v.cells.toList st hs (by simpa using c1) (fun i u e hu he => c2 i u e (by simpa using hu) he)
  obtain ⟨b', vs, ty, fz, g1, g2, g3, g4, g5⟩ := hs.heap.obj l _ hl
  rw [hb] at g1
  injection g1 with g1; injection g1 with g1a g1b
  subst g1a; subst g1b
  obtain ⟨w', r, o1, o2, o3, o4, oth, cur', e1, e2, e3⟩ := run_storeCells_own E.P b (0 + o) ty fz v.cells.toList 0 vs w g2 g3 (by simp; omega) c3
  refine ⟨w', ?_, ?_⟩
  · have := run_storeVar (w := w) hi (v := v) (by omega) (b := b) (x := 0 + o) (s := storeCells ⟨b, 0 + o, none⟩ v.cells.toList) rfl
    rw [this]; exact r
  · have hlt : l < st.h.length := by
      rcases Nat.lt_or_ge l st.h.length with hlt | hge
      · exact hlt
      · rw [List.getElem?_eq_none hge] at hl; cases hl
    have hmono : ∀ {v : Value} {d : DV}, Rep w ok β v d → Rep w' ok β v d := fun h => h.mono (fun _ k => k)
      (fun k hk => oth k fun e => hs.heap.dis l b 0 hb (e ▸ hk)) (fun l' y hy => ⟨hy, by
        by_cases e : y.1 = b
        · rw [e]; simp [World.shape?, e1, g2, e2]
        · simp [World.shape?, oth _ e]⟩)
    have hold : (ownCells d.cells st.h).2[l]? = some (.box cs) := by
      obtain ⟨tl, htl⟩ := ownCells_ext d.cells st.h
      rw [htl, List.getElem?_append_left hlt, hl]
    refine k1.write l b 0 _ _ hb hold (fun cs' _ => ⟨_, rfl⟩) o1 o2 o3 o4 oth (by simp [World.shape?, e1, g2, e2]) ?_
    refine ⟨b, cur', ty, fz, hb, e1, by rw [e2]; exact g3, ?_, fun k u e hu he => ?_⟩
    · rw [e2, g4]; simp [k2]; omega
    · rw [splice_get _ _ _ _ _ (by rw [k2]; exact hn) ho] at he
      rw [e3] at hu
      have hcl : v.cells.toList.length = i.size := by simp; omega
      rw [hcl] at hu
      by_cases hk : o ≤ k ∧ k < o + i.size
      · rw [if_pos hk] at he
        rw [if_pos (by omega)] at hu
        have : k - (0 + o + 0) = k - o := by omega
        rw [this] at hu
        exact hmono (k3 _ _ _ hu he)
      · rw [if_neg hk] at he
        rw [if_neg (by omega)] at hu
        exact hmono (g5 k u e hu he)
end
end Go.Ai
