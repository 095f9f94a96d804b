/- Operations, seventh part: literals of structs and of slices. -/
import Derived.Test.YtbhlmbacgbfaoaaDoorAiOps6
set_option linter.all false
namespace Go.Ai
open Go.Instr
section
variable {E : Env} {C : Ctx} {a : Act} {w : World} {ok : Nat → Prop} {β : Loc} {st : St} {K : DV → St → Prop}

theorem foldset_get (off : Nat) : ∀ (vs : List Value) (j : Nat) (cells : Array Value), off + j + vs.length ≤ cells.size →
    ((vs.zipIdx j).foldl (fun cs (c, j) => cs.setIfInBounds (off + j) c) cells).size = cells.size ∧
    ∀ k, ((vs.zipIdx j).foldl (fun cs (c, j) => cs.setIfInBounds (off + j) c) cells)[k]? = if off + j ≤ k ∧ k < off + j + vs.length then vs[k - (off + j)]? else cells[k]?
  | [], j, cells, _ => ⟨rfl, fun k => by rw [if_neg (by simp)]; rfl⟩
  | v :: vs, j, cells, h => by
    simp only [List.length_cons] at h
    obtain ⟨h1, h2⟩ := foldset_get off vs (j + 1) (cells.setIfInBounds (off + j) v) (by simp; omega)
    refine ⟨by rw [List.zipIdx_cons, List.foldl_cons, h1]; simp, fun k => ?_⟩
    rw [List.zipIdx_cons, List.foldl_cons, h2]
    simp only [List.length_cons]
    by_cases h0 : k = off + j
    · subst h0
      rw [if_neg (by omega), if_pos (by omega)]
      have : off + j < cells.size := by omega
      simp [this]
    · rw [Array.getElem?_setIfInBounds_ne (fun e => h0 e.symm)]
      by_cases h3 : off + (j + 1) ≤ k ∧ k < off + (j + 1) + vs.length
      · rw [if_pos h3, if_pos (by omega)]
        have : k - (off + j) = (k - (off + (j + 1))) + 1 := by omega
        rw [this, List.getElem?_cons_succ]
      · rw [if_neg h3, if_neg (by omega)]

/-- The machine's filling of cells and ours. -/
theorem fill_rep (place : Nat → Option (Nat × Nat)) : ∀ (ps : List (Nat × Value)) (ds : List (Nat × Nat × DV)) (cells : Array Value) (cs : List DV) {Q : List DV → Prop}, ps.length = ds.length →
    (∀ (i : Nat) p d, ps[i]? = some p → ds[i]? = some d → place p.1 = some (d.1, d.2.1) ∧ Rep w ok β p.2 d.2.2) → cells.size = cs.length →
    (∀ (k : Nat) v d, cells[k]? = some v → cs[k]? = some d → Rep w ok β v d) → bldD cs ds Q →
    ∃ cells' cs', fill place cells ps = some cells' ∧ cells'.size = cs'.length ∧ (∀ (k : Nat) v d, cells'[k]? = some v → cs'[k]? = some d → Rep w ok β v d) ∧ Q cs'
  | [], [], cells, cs, Q, _, _, hs, hr, hq => ⟨cells, cs, rfl, hs, hr, hq⟩
  | [], _ :: _, _, _, _, h, _, _, _, _ => by simp at h
  | _ :: _, [], _, _, _, h, _, _, _, _ => by simp at h
  | (i, v) :: ps, (off, n, d) :: ds, cells, cs, Q, hl, hp, hs, hr, hq => by
    obtain ⟨h1, h2, h3, hq⟩ := hq
    obtain ⟨hpl, hv⟩ := hp 0 (i, v) (off, n, d) rfl rfl
    simp only at hpl hv
    obtain ⟨c1, c2, _⟩ := hv.cells h1
    have hfit : off + 0 + v.cells.toList.length ≤ cells.size := by simp; omega
    obtain ⟨f1, f2⟩ := foldset_get off v.cells.toList 0 cells hfit
    have hlen : (cs.take off ++ d.cells ++ cs.drop (off + n)).length = cs.length := by simp; omega
    obtain ⟨cells', cs', r1, r2, r3, r4⟩ := fill_rep place ps ds ((v.cells.toList.zipIdx 0).foldl (fun cs (c, j) => cs.setIfInBounds (off + j) c) cells) (cs.take off ++ d.cells ++ cs.drop (off + n)) (by simpa using hl)
      (fun j p d hp' hd' => hp (j + 1) p d (by simpa using hp') (by simpa using hd')) (by rw [f1, hlen]; exact hs) (fun k u e hu he => by
        rw [splice_get _ _ _ _ _ h2 h3] at he
        rw [f2] at hu
        have e1 : v.cells.toList.length = n := by simp; omega
        rw [e1] at hu
        by_cases hk : off ≤ k ∧ k < off + n
        · rw [if_pos hk] at he
          rw [if_pos (by omega), Nat.add_zero] at hu
          exact c2 _ u e (by simpa using hu) he
        · rw [if_neg hk] at he
          rw [if_neg (by omega)] at hu
          exact hr k u e hu he) hq
    refine ⟨cells', cs', ?_, r2, r3, r4⟩
    rw [fill, hpl]
    have hfe : v.cells.zipIdx.foldl (fun cs (c, j) => cs.setIfInBounds (off + j) c) cells = (v.cells.toList.zipIdx 0).foldl (fun cs (c, j) => cs.setIfInBounds (off + j) c) cells := by
      rw [← Array.foldl_toList]
      simp
    show (if (decide (v.cells.size ≠ n) || decide (off + v.cells.size > cells.size)) = true then none else fill place (v.cells.zipIdx.foldl (fun cs (c, j) => cs.setIfInBounds (off + j) c) cells) ps) = some cells'
    rw [if_neg (by simp; omega), hfe]
    exact r1

theorem mapM_run (P : Program) (w : World) (f : Field → Sem (Nat × Nat)) (g : Field → Nat × Nat) : ∀ (l : List Field), (∀ x ∈ l, (f x).run P w = .ok (g x) w) → (l.mapM f).run P w = .ok (l.map g) w
  | [], _ => rfl
  | x :: l, h => by
    rw [List.mapM_cons]
    simp [h x (by simp), mapM_run P w f g l (fun y hy => h y (by simp [hy]))]

theorem build_lv {t : TypeId} {fields : Array Field} (hu : E.P.underlying t = some (.struct fields)) {z : Value} (hz : (E.P.info? t).bind (·.zero) = some z) {zs : List DV}
    (hf : ∀ x ∈ fields.toList, (E.P.info? x.type).isSome = true) (hzl : z.cells.size = zs.length) (hzr : ∀ (k : Nat) v d, z.cells[k]? = some v → zs[k]? = some d → Rep w ok β v d)
    {ps : Array (Nat × Value)} {ds : List (Nat × Nat × DV)} (hl : ps.size = ds.length)
    (hp : ∀ (i : Nat) p d, ps[i]? = some p → ds[i]? = some d → (∃ fd, fields[p.1]? = some fd ∧ fd.offset = d.1 ∧ E.P.cellsOf fd.type = d.2.1) ∧ Rep w ok β p.2 d.2.2)
    (hs : SRep E C a w ok β st) (hk : bldD zs ds fun cs => K (.agg cs) st) : LV E C a K (build t ps) w := by
  have hm : (fields.mapM fun (f : Field) => do pure (f.offset, ← sizeOf f.type)).run E.P w = .ok (fields.map fun (f : Field) => (f.offset, E.P.cellsOf f.type)) w := by
    rw [Array.mapM_eq_mapM_toList]
    have := mapM_run E.P w (fun (f : Field) => do pure (f.offset, ← sizeOf f.type)) (fun (f : Field) => (f.offset, E.P.cellsOf f.type)) fields.toList (fun x hx => by
      have h1 := hf x hx
      cases hi : E.P.info? x.type with
      | none => simp [hi] at h1
      | some i => simp [sizeOf, typeInfo, hi, Program.cellsOf])
    simp only [Sem.run_map]
    rw [this]
    simp only [Result.andThen_ok]
    rw [← Array.toList_map, Array.toArray_toList]
  obtain ⟨cells', cs', r1, r2, r3, r4⟩ := fill_rep (w := w) (ok := ok) (β := β) ((fields.map fun (f : Field) => (f.offset, E.P.cellsOf f.type))[·]?) ps.toList ds z.cells zs (by simpa using hl) (fun i p d h1 h2 => by
    obtain ⟨⟨fd, q1, q2, q3⟩, q4⟩ := hp i p d (by simpa using h1) h2
    exact ⟨by simp [q1, q2, q3], q4⟩) hzl hzr hk
  refine LV.same (v := .agg cells') ?_ hs (by
    have := Rep.agg (w := w) (ok := ok) (β := β) cells'.toList cs' (by simpa using r2) (fun i v d h1 h2 => r3 i v d (by simpa using h1) h2)
    simpa using this) r4
  cases hi : E.P.info? t with
  | none => simp [hi] at hz
  | some i =>
    simp [hi] at hz
    simp only [build, zeroValue, typeInfo, Sem.run_bind, run_program, Result.andThen_ok, hi, Sem.run_pure, hz, run_underlying hu, hm, r1]

theorem bslice_get (sz : Nat) (place : Nat → Option (Nat × Nat)) (hpl : ∀ i, place i = some (i * sz, sz)) : ∀ (vs : List Value) (j : Nat) (cells : Array Value), (∀ v ∈ vs, v.cells.size = sz) → (j + vs.length) * sz ≤ cells.size →
    ∃ cells', fill place cells ((vs.zipIdx j).map fun (v, i) => (i, v)) = some cells' ∧ cells'.size = cells.size ∧
      ∀ k, cells'[k]? = if j * sz ≤ k ∧ k < (j + vs.length) * sz then (vs.map fun v => v.cells.toList).flatten[k - j * sz]? else cells[k]?
  | [], j, cells, _, _ => ⟨cells, rfl, rfl, fun k => by rw [if_neg (by simp)]⟩
  | v :: vs, j, cells, hv, h => by
    have h1 : v.cells.size = sz := hv v (by simp)
    simp only [List.length_cons] at h
    have e0 : (j + (vs.length + 1)) * sz = j * sz + sz + vs.length * sz := by rw [Nat.add_mul, Nat.add_mul, Nat.one_mul]; omega
    have hfit : j * sz + 0 + v.cells.toList.length ≤ cells.size := by simp; omega
    obtain ⟨f1, f2⟩ := foldset_get (j * sz) v.cells.toList 0 cells hfit
    obtain ⟨cells', r1, r2, r3⟩ := bslice_get sz place hpl vs (j + 1) ((v.cells.toList.zipIdx 0).foldl (fun cs (c, q) => cs.setIfInBounds (j * sz + q) c) cells) (fun u hu => hv u (by simp [hu])) (by
      rw [f1]
      have : (j + 1 + vs.length) * sz = (j + (vs.length + 1)) * sz := by congr 1; omega
      omega)
    refine ⟨cells', ?_, by rw [r2, f1], fun k => ?_⟩
    · rw [List.zipIdx_cons, List.map_cons, fill, hpl]
      have hfe : v.cells.zipIdx.foldl (fun cs (c, q) => cs.setIfInBounds (j * sz + q) c) cells = (v.cells.toList.zipIdx 0).foldl (fun cs (c, q) => cs.setIfInBounds (j * sz + q) c) cells := by
        rw [← Array.foldl_toList]
        simp
      show (if (decide (v.cells.size ≠ sz) || decide (j * sz + v.cells.size > cells.size)) = true then none else fill place (v.cells.zipIdx.foldl (fun cs (c, q) => cs.setIfInBounds (j * sz + q) c) cells) _) = some cells'
      rw [if_neg (by simp; omega), hfe]
      exact r1
    · rw [r3, f2]
      simp only [List.length_cons, List.map_cons, List.flatten_cons]
      have e1 : (j + 1) * sz = j * sz + sz := Nat.succ_mul j sz
      have e2 : (j + 1 + vs.length) * sz = j * sz + sz + vs.length * sz := by rw [Nat.add_mul, Nat.add_mul, Nat.one_mul]
      have e3 : v.cells.toList.length = sz := by simpa using h1
      rw [e1, e2, e0]
      by_cases hk : j * sz + sz ≤ k ∧ k < j * sz + sz + vs.length * sz
      · rw [if_pos hk, if_pos (by omega), List.getElem?_append_right (by omega), e3]
        congr 1
        omega
      · rw [if_neg hk, e3]
        by_cases hk2 : j * sz ≤ k ∧ k < j * sz + sz
        · rw [if_pos (by omega), if_pos (by omega), List.getElem?_append_left (by omega)]
          simp
        · rw [if_neg (by omega), if_neg (by omega)]

theorem cells_closed {d e : DV} (h : d.closed = true) (he : e ∈ d.cells) : e.closed = true := by
  cases d with
  | agg l =>
    simp only [DV.cells] at he
    obtain ⟨i, hi, rfl⟩ := List.mem_iff_getElem.1 he
    exact closedAll_get l (by simpa [DV.closed] using h) i _ (List.getElem?_eq_getElem hi)
  | _ => simp [DV.cells] at he; subst he; exact h

theorem flat_rep {sz : Nat} : ∀ (vs : List Value) (ds : List DV), vs.length = ds.length → (∀ (k : Nat) v d, vs[k]? = some v → ds[k]? = some d → Rep w ok β v d) → (∀ d ∈ ds, d.closed = true ∧ d.cells.all DV.one = true ∧ d.cells.length = sz) →
    (∀ v ∈ vs, v.cells.size = sz) → ∀ (k : Nat) v d, (vs.map fun v => v.cells.toList).flatten[k]? = some v → (ds.map DV.cells).flatten[k]? = some d → v.oneCell' = true ∧ Rep w ok noLoc v d
  | [], ds, hl, _, _, _, k, v, d, hv, hd => by simp at hv
  | u :: vs, [], hl, _, _, _, k, v, d, hv, hd => by simp at hl
  | u :: vs, e :: ds, hl, hr, hc, hz, k, v, d, hv, hd => by
    obtain ⟨h1, h2, h3⟩ := hc e (by simp)
    obtain ⟨c1, c2, c3⟩ := (hr 0 u e rfl rfl).cells h2
    rw [List.map_cons, List.flatten_cons] at hv hd
    have e1 : u.cells.toList.length = e.cells.length := by simpa using c1
    rcases Nat.lt_or_ge k e.cells.length with h | h
    · rw [List.getElem?_append_left (by omega)] at hv
      rw [List.getElem?_append_left h] at hd
      refine ⟨c3 v (List.mem_of_getElem? hv), (c2 k v d (by simpa using hv) hd).shut ?_⟩
      exact cells_closed h1 (List.mem_of_getElem? hd)
    · rw [List.getElem?_append_right (by omega)] at hv
      rw [List.getElem?_append_right h] at hd
      rw [e1] at hv
      exact flat_rep vs ds (by simpa using hl) (fun k v d h1 h2 => hr (k + 1) v d (by simpa using h1) (by simpa using h2)) (fun d hd => hc d (by simp [hd])) (fun v hv => hz v (by simp [hv])) _ v d hv hd

theorem bslice_lv {t el : TypeId} {i : TypeInfo} {z : Value} {n : Nat} (hu : E.P.underlying t = some (.slice el)) (hi : E.P.info? el = some i) (hz : i.zero = some z) (hzs : z.cells.size = i.size) (hpos : 0 < i.size) {vs : List Value} {ds : List DV} (hl : vs.length = ds.length)
    (hn : n = vs.length) (hmax : n * i.size ≤ 2 ^ 24) (hv : ∀ (k : Nat) v d, vs[k]? = some v → ds[k]? = some d → Rep w ok β v d) (hd : ∀ d ∈ ds, d.closed = true ∧ d.cells.all DV.one = true ∧ d.cells.length = i.size)
    (hs : SRep E C a w ok β st) (hk : K (.osl i.size st.h.length 0 ds.length none) (st.new (.arr i.size (ds.map DV.cells)))) {ps : Array (Nat × Value)} (hps : ps.toList = (vs.zipIdx 0).map fun (v, i) => (i, v)) : LV E C a K (buildSlice t n ps) w := by
  subst hn
  have hcell : ∀ v ∈ vs, v.cells.size = i.size := fun v hvm => by
    obtain ⟨k, hk, rfl⟩ := List.mem_iff_getElem.1 hvm
    have hk' : k < ds.length := by omega
    have h1 := hd ds[k] (List.getElem_mem hk')
    have := ((hv k _ _ (List.getElem?_eq_getElem hk) (List.getElem?_eq_getElem hk')).cells h1.2.1).1
    omega
  obtain ⟨cells', r1, r2, r3⟩ := bslice_get i.size (fun k => some (k * i.size, i.size)) (fun _ => rfl) vs 0 ((Array.range (vs.length * i.size)).map (z.cells[· % z.cells.size]!)) hcell (by simp)
  have hsz : cells'.size = vs.length * i.size := by rw [r2]; simp
  have hds : ∀ e ∈ ds.map DV.cells, e.length = i.size := fun e he => by
    obtain ⟨d, hd', rfl⟩ := List.mem_map.1 he
    exact (hd d hd').2.2
  obtain ⟨β', n1, n2, n3, n4⟩ := hs.newarr el cells' i.size (ds.map DV.cells) hds hpos (by rw [hsz]; simp [hl]) (fun k v d hv' hd' => by
    have hk : k < vs.length * i.size := by
      rw [hl]
      have : (ds.map DV.cells).flatten.length = ds.length * i.size := by rw [flatten_len hds]; simp
      rcases Nat.lt_or_ge k (ds.length * i.size) with h | h
      · exact h
      · rw [List.getElem?_eq_none (by omega)] at hd'; cases hd'
    rw [r3, if_pos (by simpa using hk)] at hv'
    simp only [Nat.zero_mul, Nat.sub_zero] at hv'
    exact flat_rep vs ds hl hv hd hcell k v d hv' hd')
  refine ⟨_, _, ok, β', _, _, ?_, n1, n4 ds.length ds.length none (Nat.le_refl _) (by rw [hsz, hl]; exact Nat.le_refl _) (fun _ h => by cases h), hk⟩
  have hno : ¬ vs.length * i.size > 2 ^ 24 := by omega
  have hno' : ¬ 16777216 < vs.length * i.size := by omega
  rw [← hl]
  by_cases h0 : vs.length * i.size = 0
  · have hv0 : vs = [] := by
      rcases Nat.mul_eq_zero.1 h0 with h | h
      · exact List.eq_nil_of_length_eq_zero h
      · omega
    subst hv0
    have hps' : ps.toList = [] := by simpa using hps
    have hc' : cells' = #[] := Array.eq_empty_of_size_eq_zero (by simpa using hsz)
    subst hc'
    obtain rfl : ps = #[] := by simpa using hps'
    simp [buildSlice, run_underlying hu, sizeOf, typeInfo, hi, fill, newRow]
    have e0 : Array.map (fun _ => (default : Value)) (Array.range 0) = #[] := Array.eq_empty_of_size_eq_zero (by simp)
    rw [e0]
  · have hmul : ¬ (vs = [] ∨ i.size = 0) := fun h => by
      rcases h with h | h
      · subst h; simp at h0
      · omega
    simp only [buildSlice, Sem.run_bind, run_underlying hu, Result.andThen_ok, sizeOf, typeInfo, run_program, hi, Sem.run_pure]
    simp only [if_neg hno, if_neg h0, zeroValue, typeInfo, Sem.run_bind, run_program, Result.andThen_ok, hi, Sem.run_pure, hz, hps, r1]
    simp [newRow]
end
end Go.Ai
