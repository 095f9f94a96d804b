/- Operations, fifth part. -/
import Derived.Test.YtbnmhlienklfpaaGreatDoorAiOps4
import Derived.Laws.BytesArg
import Derived.Laws.Cover4
set_option linter.all false
namespace Go.Ai
open Go.Instr
section
variable {E : Env} {C : Ctx} {a : Act} {w : World} {ok : Nat → Prop} {β : Loc} {st : St} {K : DV → St → Prop}

theorem s2r_lv {src dst e : TypeId} {td : TypeDesc} (hsrc : E.P.underlying src = some td) (hdst : E.P.underlying dst = some (.slice e)) (he : E.P.underlying e = some (.int .i32)) {v : Value} {s : List UInt8}
    (hs : SRep E C a w ok β st) (h : Rep w ok β v (.str s)) (hk : K (.osl 1 st.h.length 0 (runesL s s.length 0).length none) (st.new (.arr 1 ((runesL s s.length 0).map fun r => [.int .i32 r])))) :
    LV E C a K (convert src dst v) w := by
  obtain ⟨s, rfl, rfl⟩ := h.str_inv
  have hs1 := hs.drewN 1
  have hl0 : s.data.toList.length = s.size := by simp
  generalize hL : runesL s.data.toList s.data.toList.length 0 = L at hk
  have hcv : Conv.runesFrom s s.size 0 #[] = (L.map fun r => Value.int .i32 r).toArray := by
    rw [runesFrom_eq, ← hL, hl0]; simp
  let cap := (Question.appendCap L.length 0 e).cut (w.tape w.drawn (.appendCap L.length 0 e))
  have hcap : L.length ≤ cap := by simp [cap, Question.cut]
  obtain ⟨β', h1, h2, h3⟩ := ones_lv L (fun r => DV.int .i32 r) (fun r : Int => Value.int .i32 r) (fun x w ok => ⟨rfl, .int _ _⟩) e hs1 cap hcap (.int .i32 0)
  refine ⟨_, _, ok, β', _, _, ?_, h1, h3, hk⟩
  simp only [convert, Sem.run_bind, run_underlying hsrc, run_underlying hdst, Result.andThen_ok, run_underlying he, Conv.stringToRunes, run_choose, Question.forced, hcv]
  simp [newRow, cap]

theorem i2s_lv {src dst : TypeId} {k : IntKind} (hsrc : E.P.underlying src = some (.int k)) (hdst : E.P.underlying dst = some .string) {v : Value} {k' : IntKind} {n : Int}
    (hs : SRep E C a w ok β st) (h : Rep w ok β v (.int k' n)) (hk : K (.str (Utf8.encode n).data.toList) st) : LV E C a K (convert src dst v) w := by
  have := h.int_inv
  subst this
  refine LV.same (v := .string (Utf8.encode n)) ?_ hs (.str _) hk
  simp [convert, run_underlying hsrc, run_underlying hdst, Conv.intToString]

theorem int_lv {src dst : TypeId} {td : TypeDesc} {k : IntKind} (hsrc : E.P.underlying src = some td) (hdst : E.P.underlying dst = some (.int k)) {v : Value} {k' : IntKind} {n : Int}
    (hs : SRep E C a w ok β st) (h : Rep w ok β v (.int k' n)) (hk : K (.int k (k.wrap n)) st) : LV E C a K (convert src dst v) w := by
  have := h.int_inv
  subst this
  refine LV.same (v := .int k (k.wrap n)) ?_ hs (.int _ _) hk
  simp [convert, run_underlying hsrc, run_underlying hdst, Conv.intToInt]

theorem id_lv {src dst : TypeId} {td : TypeDesc} (hsrc : E.P.underlying src = some td) (hdst : E.P.underlying dst = some .string) {v : Value} {s : List UInt8}
    (hs : SRep E C a w ok β st) (h : Rep w ok β v (.str s)) (hk : K (.str s) st) : LV E C a K (convert src dst v) w := by
  obtain ⟨s, rfl, rfl⟩ := h.str_inv
  refine LV.same (v := .string s) ?_ hs (.str _) hk
  simp [convert, run_underlying hsrc, run_underlying hdst]

/-- The bytes of a row of single cells. -/
theorem bytes_of (bs : List UInt8) {x b : Nat} {vs : Nat → Value} (hc : ∀ k, k < bs.length → w.cell? ⟨b, x + k, none⟩ = some (vs k)) (hr : ∀ k d, (bs.map fun b => DV.int .u8 b.toNat)[k]? = some d → Rep w ok noLoc (vs k) d) :
    ∀ k, k < bs.length → w.cell? ⟨b, x + k, none⟩ = some (.int .u8 ((bs.getD k 0).toNat : Int)) := fun k hk => by
  have := hr k (.int .u8 (bs[k].toNat)) (by simp [List.getElem?_eq_getElem hk])
  rw [hc k hk, this.int_inv, List.getD_eq_getElem?_getD, List.getElem?_eq_getElem hk]
  rfl

theorem b2s_run {src dst e : TypeId} (hsrc : E.P.underlying src = some (.slice e)) (hdst : E.P.underlying dst = some .string) (he : E.P.underlying e = some (.int .u8)) {bs : List UInt8} {b x c : Nat}
    (hc : ∀ k, k < bs.length → w.cell? ⟨b, x + k, none⟩ = some (.int .u8 ((bs.getD k 0).toNat : Int))) :
    (convert src dst (.slice (some ⟨b, x, none⟩) bs.length c)).run E.P w = .ok (.string ⟨bs.toArray⟩) w := by
  have h := run_convert_bytes_arg (P := E.P) w src e hsrc he b x bs.length c (bs.map fun b => (b.toNat : Int)) (by simp) (fun i hi => by
    rw [hc i hi]
    simp [List.getD_eq_getElem?_getD, List.getElem?_map, List.getElem?_eq_getElem hi]) dst hdst
  have e1 : strOfNums (bs.map fun b => (b.toNat : Int)) = ⟨bs.toArray⟩ := by
    unfold strOfNums
    congr 2
    rw [List.map_map]
    conv => rhs; rw [← List.map_id bs]
    apply List.map_congr_left
    intro x _
    simp
  rwa [e1] at h

theorem b2s_nil {src dst e : TypeId} (hsrc : E.P.underlying src = some (.slice e)) (hdst : E.P.underlying dst = some .string) (he : E.P.underlying e = some (.int .u8)) (n c : Nat) :
    (convert src dst (.slice none n c)).run E.P w = .ok (.string .empty) w := by
  simp [convert, run_underlying hsrc, run_underlying hdst, run_underlying he, Conv.bytesToString]

/-- The cells of a row of the call's own. -/
theorem osl_cells {sz l off n b x y : Nat} {es : List (List DV)} (hs : SRep E C a w ok β st) (hb : β l = some (b, x)) (hl : st.h[l]? = some (.arr sz es)) (hn : 0 < n) (hoff : off + n ≤ es.length) (hsz : 0 < sz) (hy : y = x + off * sz) :
    ∃ cs : List Value, cs.length = n * sz ∧ (∀ (k : Nat) v, cs[k]? = some v → w.cell? ⟨b, y + k, none⟩ = some v) ∧
      ∀ (k : Nat) v d, cs[k]? = some v → ((es.drop off).take n).flatten[k]? = some d → v.oneCell' = true ∧ Rep w ok noLoc v d := by
  obtain ⟨h1, h2⟩ := hs.heap.obj l _ hl
  rcases h2 with ⟨h2, _⟩ | ⟨_, b', x', vs, ty, fz, k1, k2, k3, k4, k5⟩
  · subst h2; simp at hoff; omega
  · rw [hb] at k1
    injection k1 with k1; injection k1 with k1a k1b
    subst k1a; subst k1b
    subst hy
    have hbd : ∀ k, k < n * sz → x + off * sz + k < vs.size := fun k hk => by
      have h3 : (off + n) * sz ≤ es.length * sz := Nat.mul_le_mul_right _ hoff
      rw [Nat.add_mul] at h3
      omega
    refine ⟨(vs.toList.drop (x + off * sz)).take (n * sz), by simp only [List.length_take, List.length_drop, Array.length_toList]; have := hbd (n * sz - 1) (by have : 0 < n * sz := Nat.mul_pos hn hsz; omega); have : 0 < n * sz := Nat.mul_pos hn hsz; omega, fun k v hv => ?_, fun k v d hv hd => ?_⟩
    · rw [List.getElem?_take] at hv
      split at hv
      · rw [List.getElem?_drop] at hv
        simpa [World.cell?, k2] using hv
      · cases hv
    · rw [List.getElem?_take] at hv
      split at hv
      · rw [List.getElem?_drop] at hv
        exact k5 (off * sz + k) v d (by rw [← Nat.add_assoc]; simpa using hv) (cut_get h1 off n k d hd)
      · cases hv

theorem b2s_lv {src dst e : TypeId} (hsrc : E.P.underlying src = some (.slice e)) (hdst : E.P.underlying dst = some .string) (he : E.P.underlying e = some (.int .u8)) {v : Value} {d : DV}
    (hs : SRep E C a w ok β st) (h : Rep w ok β v d) (hk : convD .b2s d K st) : LV E C a K (convert src dst v) w := by
  cases h with
  | sl A n c sz es b x vs hn hnc hsz hes hA hc h1 hh =>
    unfold convD at hk
    split at hk <;> first | exact hk.elim | skip
    all_goals rename_i h1 h2 <;> first | (cases h1; done) | skip
    all_goals first | (cases h2; done) | skip
    obtain ⟨bs, rfl, hk⟩ := hk
    cases h2
    have hlen : n = bs.length := by simpa using hn
    subst hlen
    refine LV.same (v := .string ⟨bs.toArray⟩) ?_ hs (str_mk _ _ (by simp)) hk
    by_cases h0 : bs.length = 0
    · obtain rfl : bs = [] := List.eq_nil_of_length_eq_zero h0
      cases A with
      | none => exact b2s_nil hsrc hdst he _ _
      | some A =>
        have := b2s_run (w := w) hsrc hdst he (bs := []) (b := A.block) (x := A.off) (c := c) (fun k hk => by simp at hk)
        simp [convert, run_underlying hsrc, run_underlying hdst, run_underlying he, Conv.bytesToString, loadCells, loadCellsFrom]
        rfl
    · obtain ⟨hA1, _⟩ := hA (by omega)
      subst hA1
      refine b2s_run hsrc hdst he (bytes_of bs (vs := vs) (fun k hk => hc k (by omega)) (fun k d hd => hh k d (by rw [ones_flat]; exact hd)))
  | nils sz => exact LV.same (b2s_nil hsrc hdst he 0 0) hs (str_mk _ _ rfl) hk
  | oslnil sz l off cap hcap hz =>
    unfold convD at hk
    split at hk <;> first | exact hk.elim | skip
    all_goals rename_i h1 h2 <;> first | (cases h1; done) | skip
    all_goals first | (cases h2; done) | skip
    cases h2
    rcases hk with ⟨_, hk⟩ | ⟨es, hl, ho, bs, hbs, hk⟩
    · exact LV.same (b2s_nil hsrc hdst he 0 0) hs (str_mk _ _ rfl) hk
    have h0 : bs = [] := by
      have := congrArg List.length hbs
      simp at this
      exact List.eq_nil_of_length_eq_zero this.symm
    subst h0
    exact LV.same (b2s_nil hsrc hdst he 0 0) hs (str_mk _ _ rfl) hk
  | osl sz l off n c b x y ty m hb hnc hsz hy hm hr cap hcap =>
    unfold convD at hk
    split at hk <;> first | exact hk.elim | skip
    all_goals rename_i h1 h2 <;> first | (cases h1; done) | skip
    all_goals first | (cases h2; done) | skip
    cases h2
    rcases hk with ⟨rfl, hk⟩ | ⟨es, hl, ho, bs, hbs, hk⟩
    · refine LV.same (v := .string .empty) ?_ hs (str_mk _ _ (by simp)) hk
      simp [convert, run_underlying hsrc, run_underlying hdst, run_underlying he, Conv.bytesToString, loadCells, loadCellsFrom]
    have hlen : n = bs.length := by
      have := congrArg List.length hbs
      simp at this
      omega
    refine LV.same (v := .string ⟨bs.toArray⟩) ?_ hs (str_mk _ _ (by simp)) hk
    by_cases h0 : n = 0
    · subst h0
      obtain rfl : bs = [] := List.eq_nil_of_length_eq_zero hlen.symm
      simp [convert, run_underlying hsrc, run_underlying hdst, run_underlying he, Conv.bytesToString, loadCells, loadCellsFrom]
      rfl
    · obtain ⟨cs, e1, e2, e3⟩ := osl_cells hs hb hl (by omega) ho hsz (hy (by omega))
      subst hlen
      refine b2s_run hsrc hdst he (bytes_of (ok := ok) bs (vs := fun k => cs.getD k undef) (fun k hk => ?_) (fun k d hd => ?_))
      · have hk' : k < cs.length := by omega
        exact e2 k _ (by rw [List.getD_eq_getElem?_getD, List.getElem?_eq_getElem hk']; rfl)
      · have hk : k < bs.length := by
          rcases Nat.lt_or_ge k bs.length with hlt | hge
          · exact hlt
          · rw [List.getElem?_eq_none (by simpa using hge)] at hd; cases hd
        have hk' : k < cs.length := by omega
        exact (e3 k _ d (by rw [List.getD_eq_getElem?_getD, List.getElem?_eq_getElem hk']; rfl) (by rw [hbs, ones_flat]; exact hd)).2
  | _ => exact hk.elim

theorem loadCells_at (b y : Nat) (cs : List Value) (h : ∀ (k : Nat) v, cs[k]? = some v → w.cell? ⟨b, y + k, none⟩ = some v) : (loadCells ⟨b, y, none⟩ cs.length).run E.P w = .ok cs.toArray w :=
  run_loadCells_list (P := E.P) w ⟨b, y, none⟩ cs (fun j v hv => by rw [add_mk]; exact h j v hv)

/-- What an append takes. -/
theorem elems_run {sz : Nat} {Q : List (List DV) → Prop} {v : Value} {d : DV} (hs : SRep E C a w ok β st) (h : Rep w ok β v d) (hsz : 0 < sz) (hq : elems st.h d sz Q) :
    ∃ (ys : List (List DV)) (cs : List Value), Q ys ∧ (∀ e ∈ ys, e.length = sz) ∧ cs.length = ys.length * sz ∧ (Builtin.lenOf v).run E.P w = .ok ys.length w ∧ (∀ w' : World, w'.heap = w.heap → (Builtin.firstCells sz ys.length v).run E.P w' = .ok cs.toArray w') ∧
      ∀ (k : Nat) u e, cs[k]? = some u → ys.flatten[k]? = some e → u.oneCell' = true ∧ Rep w ok noLoc u e := by
  cases h with
  | str s =>
    obtain ⟨rfl, hq⟩ := hq
    refine ⟨_, s.data.toList.map fun b => .int .u8 b.toNat, hq, by simp, by simp, by simp [Builtin.lenOf], fun w' _ => ?_, fun k u e hu he => ?_⟩
    · have : s.extract 0 s.size = s := ByteArray.extract_zero_size
      simp [Builtin.firstCells, this]
      rw [← Array.toList_map, Array.toArray_toList]
    · rw [ones_flat] at he
      rw [List.getElem?_map] at hu he
      cases hx : s.data.toList[k]? with
      | none => simp [hx] at hu
      | some x => simp [hx] at hu he; subst hu; subst he; exact ⟨rfl, .int _ _⟩
  | nils sz' => exact ⟨[], [], hq, by simp, by simp, by simp [Builtin.lenOf], (fun w' _ => by simp [Builtin.firstCells]), fun k u e hu _ => by simp at hu⟩
  | emp0 sz' => exact ⟨[], [], hq, by simp, by simp, by simp [Builtin.lenOf], (fun w' _ => by simp [Builtin.firstCells]), fun k u e hu _ => by simp at hu⟩
  | emp1 A c sz' =>
    refine ⟨[], [], hq, by simp, by simp, by simp [Builtin.lenOf], (fun w' _ => ?_), fun k u e hu _ => by simp at hu⟩
    simp [Builtin.firstCells, loadCells, loadCellsFrom]
  | sl A n c sz' es b x vs hn hnc hsz' hes hA hc h1 hh =>
    obtain ⟨hor, hq⟩ := hq
    subst hn
    by_cases h0 : es = []
    · subst h0
      refine ⟨[], [], hq, by simp, by simp, by simp [Builtin.lenOf], (fun w' _ => ?_), fun k u e hu _ => by simp at hu⟩
      cases A <;> simp [Builtin.firstCells, loadCells, loadCellsFrom]
    · have hsz2 : sz' = sz := hor.resolve_left h0
      subst hsz2
      have hpos : 0 < es.length := List.length_pos_iff.2 h0
      obtain ⟨hA1, hA2⟩ := hA hpos
      subst hA1
      refine ⟨es, (List.range (es.length * sz')).map vs, hq, hes, by simp, by simp [Builtin.lenOf], (fun w' hw' => ?_), fun k u e hu he => ?_⟩
      · have hcell : ∀ a, w'.cell? a = w.cell? a := fun a => by simp [World.cell?, hw']
        have := loadCells_at (E := E) (w := w') b x ((List.range (es.length * sz')).map vs) (fun k v hv => by
          rw [List.getElem?_map] at hv
          rcases Nat.lt_or_ge k (es.length * sz') with hlt | hge
          · rw [List.getElem?_range hlt] at hv; simp at hv; subst hv; rw [hcell]; exact hc k hlt
          · rw [List.getElem?_eq_none (by simpa using hge)] at hv; cases hv)
        simpa [Builtin.firstCells] using this
      · rw [List.getElem?_map] at hu
        rcases Nat.lt_or_ge k (es.length * sz') with hlt | hge
        · rw [List.getElem?_range hlt] at hu; simp at hu; subst hu; exact ⟨h1 k hlt, hh k e he⟩
        · rw [List.getElem?_eq_none (by simpa using hge)] at hu; cases hu
  | oslnil sz' l off cap hcap =>
    obtain ⟨rfl, es, hl, ho, hq⟩ := hq
    refine ⟨_, [], hq, by simp, by simp, by simp [Builtin.lenOf], (fun w' _ => by simp [Builtin.firstCells]), fun k u e hu _ => by simp at hu⟩
  | osl sz' l off n c b x y ty m hb hnc hsz' hy hm hr cap hcap =>
    obtain ⟨rfl, es, hl, ho, hq⟩ := hq
    have hlen : ((es.drop off).take n).length = n := by rw [List.length_take, List.length_drop]; omega
    have hes := (hs.heap.obj l _ hl).1
    by_cases h0 : n = 0
    · subst h0
      refine ⟨_, [], hq, by simp, by simp, by simp [Builtin.lenOf], (fun w' _ => by simp [Builtin.firstCells, loadCells, loadCellsFrom]), fun k u e hu _ => by simp at hu⟩
    · obtain ⟨cs, e1, e2, e3⟩ := osl_cells hs hb hl (by omega) ho hsz' (hy (by omega))
      refine ⟨_, cs, hq, fun e he => hes e (List.mem_of_mem_drop (List.mem_of_mem_take he)), by rw [hlen]; exact e1, by simp [Builtin.lenOf, hlen], (fun w' hw' => ?_), e3⟩
      have hcell : ∀ a, w'.cell? a = w.cell? a := fun a => by simp [World.cell?, hw']
      have := loadCells_at (E := E) (w := w') b y cs (fun k v hv => by rw [hcell]; exact e2 k v hv)
      rw [e1] at this
      rw [hlen]
      simpa [Builtin.firstCells] using this
  | _ => exact hq.elim

theorem range_lv {t : TypeId} (hu : E.P.underlying t = some .string) {v : Value} {s : List UInt8} (hs : SRep E C a w ok β st) (h : Rep w ok β v (.str s)) (hk : K (.ptr st.h.length 0) (st.new (.iter s 0))) :
    LV E C a K (range t v) w := by
  obtain ⟨s, rfl, rfl⟩ := h.str_inv
  obtain ⟨β', n1, n2, n3⟩ := hs.new (.stringIter s 0) (.iter s.data.toList 0) (fun β' _ hn => ⟨_, hn, by rw [push_new, ba_eta]⟩)
  refine ⟨_, _, ok, β', _, _, ?_, n1, .ptr _ 0 _ 0 n2, hk⟩
  simp [range, run_underlying hu]

theorem next_lv {t : TypeId} {v : Value} {l : Nat} {s : List UInt8} {pos : Nat} (hs : SRep E C a w ok β st) (h : Rep w ok β v (.ptr l 0)) (hl : st.h[l]? = some (.iter s pos))
    (hk1 : pos < s.length → K (.tup [.bool true, .int .i64 pos, .int .i32 (Utf8.decode ⟨s.toArray⟩ pos).1]) (st.at l (.iter s (pos + (Utf8.decode ⟨s.toArray⟩ pos).2))))
    (hk2 : ¬ pos < s.length → K (.tup [.bool false]) st) : LV E C a K (next v true t) w := by
  obtain ⟨b, hb, hw⟩ := hs.heap.obj l _ hl
  cases h with
  | ptr l o b' x hb' =>
    rw [hb] at hb'
    injection hb' with hb'; injection hb' with e1 e2
    subst e1; subst e2
    by_cases hp : pos < s.length
    · let w' : World := { w with heap := w.heap.setIfInBounds b (.stringIter ⟨s.toArray⟩ (pos + (Utf8.decode ⟨s.toArray⟩ pos).2)) }
      have hblt : b < w.heap.size := (hs.heap.lt l b 0 hb).2
      have hw' : w'.heap[b]? = some (.stringIter ⟨s.toArray⟩ (pos + (Utf8.decode ⟨s.toArray⟩ pos).2)) := by simp [w', hblt]
      have hs' := hs.write (w' := w') l b 0 (.iter s (pos + (Utf8.decode ⟨s.toArray⟩ pos).2)) _ hb hl (fun cs h => by cases h) rfl rfl rfl (by simp [w']) (fun k hk => by
        simp only [w']; rw [Array.getElem?_setIfInBounds_ne (fun e => hk e.symm)]) (by simp [World.shape?, hw', hw]) ⟨b, hb, hw'⟩
      refine ⟨_, w', ok, β, _, _, ?_, hs', .tup [.bool true, .int .i64 pos, .int .i32 (Utf8.decode ⟨s.toArray⟩ pos).1] _ rfl (fun i v d h1 h2 => ?_), hk1 hp⟩
      · have hp' : pos < (⟨s.toArray⟩ : ByteArray).size := hp
        simp only [next, Nat.zero_add, Sem.run_bind, getObj, Sem.run, hw, Result.andThen_ok]
        simp only [if_pos hp']
        simp only [Sem.run_bind, setObj, Sem.run, hw, Result.andThen_ok]
        rfl
      · match i with
        | 0 => simp at h1 h2; subst h1; subst h2; exact .bool _
        | 1 => simp at h1 h2; subst h1; subst h2; exact .int _ _
        | 2 => simp at h1 h2; subst h1; subst h2; exact .int _ _
        | i + 3 => simp at h1
    · refine LV.same (v := .tuple #[.bool false]) ?_ hs (.tup [.bool false] _ rfl (fun i v d h1 h2 => ?_)) (hk2 hp)
      · have hp' : ¬ pos < (⟨s.toArray⟩ : ByteArray).size := hp
        simp only [next, Nat.zero_add, Sem.run_bind, getObj, Sem.run, hw, Result.andThen_ok]
        simp only [if_neg hp']
        rfl
      · match i with
        | 0 => simp at h1 h2; subst h1; subst h2; exact .bool _
        | i + 1 => simp at h1
end
end Go.Ai

/- Operations, sixth part: append. -/
namespace Go.Ai
open Go.Instr
section
variable {E : Env} {C : Ctx} {a : Act} {w : World} {ok : Nat → Prop} {β : Loc} {st : St} {K : DV → St → Prop}

set_option linter.unusedSimpArgs false
def isInt : TypeDesc → Bool
  | .int _ => true
  | _ => false

theorem growBy_le (newLen : Nat) : ∀ (r c : Nat), Builtin.growBy newLen r c ≤ max c (newLen + (newLen + 768) / 4)
  | 0, c => by simp only [Builtin.growBy]; omega
  | r + 1, c => by
    simp only [Builtin.growBy]
    split
    · omega
    · have := growBy_le newLen r (c + (c + 768) / 4)
      omega

theorem next_le (need cap : Nat) (h : cap < need) : Builtin.nextslicecap need cap ≤ 2 * need + 192 := by
  unfold Builtin.nextslicecap
  split
  · omega
  · split
    · omega
    · have := growBy_le need 4 cap
      omega

theorem next_bound {need cap bytes : Nat} (h : cap < need) (hb : need * bytes ≤ 1099511627776) : ¬ Builtin.nextslicecap need cap * bytes > 2 ^ 48 := by
  have h1 := Nat.mul_le_mul_right bytes (next_le need cap h)
  have h2 : 1 * bytes ≤ need * bytes := Nat.mul_le_mul_right _ (by omega)
  rw [Nat.add_mul, Nat.mul_assoc] at h1
  omega

theorem zeroCells_size (z : Array Value) (n : Nat) : (Builtin.zeroCells z n).size = n * z.size := by simp [Builtin.zeroCells]

/-- The machine's append, in place. -/
theorem append_fits {T : Array TypeId} {t0 t1 el ty : TypeId} {td1 : TypeDesc} {i : TypeInfo} (h0 : T[0]? = some t0) (hu0 : E.P.underlying t0 = some (.slice el)) (h1 : T[1]? = some t1) (hu1 : E.P.underlying t1 = some td1)
    (hn1 : isInt td1 = false) (hi : E.P.info? el = some i) {A : Option Addr} {n c m : Nat} {y : Value} {cs : List Value}
    (hlen : (Builtin.lenOf y).run E.P w = .ok m w) (hfc : (Builtin.firstCells i.size m y).run E.P w = .ok cs.toArray w) (hfit : n + m ≤ c) {w' : World}
    (hst : ∀ ad, A = some ad → (storeCells (ad.add (n * i.size)) cs).run E.P w = .ok () w') (hA : A = none → w' = w) :
    (Builtin.append_ T ty #[.slice A n c, y]).run E.P w = .ok (.slice A (n + m) c) w' := by
  cases A with
  | none =>
    have := hA rfl
    subst this
    simp only [Builtin.append_, h0, h1]
    simp [run_underlying hu0, run_underlying hu1, sizeOf, typeInfo, hi, hlen, hfc, hfit]
    cases td1 <;> first | (simp [isInt] at hn1; done) | simp [hlen, hfc, hfit]
  | some ad =>
    have := hst ad rfl
    simp only [Builtin.append_, h0, h1]
    simp [run_underlying hu0, run_underlying hu1, sizeOf, typeInfo, hi, hlen, hfc, hfit, this]
    cases td1 <;> first | (simp [isInt] at hn1; done) | simp [hlen, hfc, hfit, this]

/-- The machine's append, into a new row. -/
theorem append_moves {T : Array TypeId} {t0 t1 el ty : TypeId} {td1 : TypeDesc} {i : TypeInfo} {z : Value} (h0 : T[0]? = some t0) (hu0 : E.P.underlying t0 = some (.slice el)) (h1 : T[1]? = some t1) (hu1 : E.P.underlying t1 = some td1)
    (hn1 : isInt td1 = false) (hi : E.P.info? el = some i) (hz0 : i.zero = some z) {A : Option Addr} {n c m : Nat} {y : Value} {os cs : List Value}
    (hlen : (Builtin.lenOf y).run E.P w = .ok m w) (hgrow : c < n + m) (hb : (n + m) * i.bytes ≤ 1099511627776) (hm : n + m ≤ 1099511627776)
    (hfo : ∀ w' : World, w'.heap = w.heap → (Builtin.firstCells i.size n (.slice A n c)).run E.P w' = .ok os.toArray w')
    (hfc : ∀ w' : World, w'.heap = w.heap → (Builtin.firstCells i.size m y).run E.P w' = .ok cs.toArray w') :
    ∃ cap, n + m ≤ cap ∧ (Builtin.append_ T ty #[.slice A n c, y]).run E.P w =
      .ok (.slice (some ⟨w.heap.size, 0, none⟩) (n + m) cap) (w.drew.alloc (.cells (os.toArray ++ (cs.toArray ++ Builtin.zeroCells z.cells (cap - (n + m)))) el)) := by
  have hnf : ¬ n + m ≤ c := by omega
  have hi64 : ¬ ((n + m : Nat) : Int) > IntKind.i64.max := by
    have : IntKind.i64.max = 9223372036854775807 := rfl
    omega
  have hnb := next_bound hgrow hb
  refine ⟨(Question.appendCap (n + m) c el).cut (w.tape w.drawn (.appendCap (n + m) c el)), by simp [Question.cut], ?_⟩
  have e1 := hfo w.drew rfl
  have e2 := hfc w.drew rfl
  have hnb' : ¬ 2 ^ 48 < Builtin.nextslicecap (n + m) c * i.bytes := hnb
  have hi64' : ¬ IntKind.i64.max < (n : Int) + (m : Int) := by simpa using hi64
  have hi3 : ¬ (9223372036854775807 : Int) < (n : Int) + (m : Int) := hi64'
  have hnb3 : ¬ 281474976710656 < Builtin.nextslicecap (n + m) c * i.bytes := hnb
  simp only [Builtin.append_, h0, h1]
  simp [run_underlying hu0, run_underlying hu1, sizeOf, typeInfo, hi, hlen]
  cases td1 <;> first | (simp [isInt] at hn1; done) | simp [hlen, hnf, hi3, hnb3, zeroValue, typeInfo, hi, hz0, newRow, Question.forced, e1, e2]

theorem heap_shape {w w' : World} (h : w'.heap = w.heap) (b : Nat) : w'.shape? b = w.shape? b := by simp [World.shape?, h]
theorem Rep.heap {w w' : World} (h : w'.heap = w.heap) {v : Value} {d : DV} (r : Rep w ok β v d) : Rep w' ok β v d :=
  r.mono (fun _ k => k) (fun b _ => by rw [h]) (fun l x hx => ⟨hx, heap_shape h _⟩)
theorem flat_app_get {sz : Nat} {xs ys : List (List DV)} (hx : ∀ e ∈ xs, e.length = sz) {os cs rest : List Value} (ho : os.length = xs.length * sz) (hc : cs.length = ys.length * sz) (hy : ∀ e ∈ ys, e.length = sz)
    {k : Nat} {v : Value} {d : DV} (hv : (os ++ (cs ++ rest))[k]? = some v) (hd : (xs ++ ys).flatten[k]? = some d) :
    (os[k]? = some v ∧ xs.flatten[k]? = some d) ∨ (cs[k - os.length]? = some v ∧ ys.flatten[k - os.length]? = some d) := by
  have h1 := flatten_len hx
  have h2 := flatten_len hy
  rw [List.flatten_append] at hd
  rcases Nat.lt_or_ge k os.length with h | h
  · rw [List.getElem?_append_left h] at hv
    rw [List.getElem?_append_left (by omega)] at hd
    exact .inl ⟨hv, hd⟩
  · rw [List.getElem?_append_right h] at hv
    rw [List.getElem?_append_right (by omega), h1, ← ho] at hd
    have hk : k - os.length < ys.flatten.length := by
      rcases Nat.lt_or_ge (k - os.length) ys.flatten.length with h3 | h3
      · exact h3
      · rw [List.getElem?_eq_none h3] at hd; cases hd
    rw [List.getElem?_append_left (by omega)] at hv
    exact .inr ⟨hv, hd⟩

/-- A row's object is another one, in the same world. -/
theorem SRep.setArr {l sz : Nat} {es es' : List (List DV)} (hs : SRep E C a w ok β st) (hl : st.h[l]? = some (.arr sz es)) (hr : ORep w ok β l (.arr sz es')) : SRep E C a w ok β (st.at l (.arr sz es')) := by
  have hlt : l < st.h.length := by
    rcases Nat.lt_or_ge l st.h.length with hlt | hge
    · exact hlt
    · rw [List.getElem?_eq_none hge] at hl; cases hl
  refine ⟨hs.g, hs.ev, ⟨fun k hk => hs.heap.out k (by simpa [St.at] using hk), hs.heap.inj, hs.heap.lt, hs.heap.dis, hs.heap.okl, fun k o hk => ?_⟩, fun k cs hk => ?_, by simpa [St.at] using hs.len, hs.fr, hs.size, hs.defers, hs.base⟩
  · simp only [St.at] at hk
    by_cases e : k = l
    · subst e
      rw [List.getElem?_set_self hlt] at hk
      injection hk with hk; subst hk; exact hr
    · rw [List.getElem?_set_ne (fun q => e q.symm)] at hk
      exact hs.heap.obj k o hk
  · obtain ⟨e, cs', hcs⟩ := hs.fix k cs hk
    refine ⟨e, cs', ?_⟩
    have hne : k ≠ l := fun q => by subst q; rw [hl] at hcs; cases hcs
    simp only [St.at]
    rw [List.getElem?_set_ne (fun q => hne q.symm)]
    exact hcs

theorem ORep.nilArr {l sz : Nat} {es : List (List DV)} (h : ORep w ok β l (.arr sz es)) : ORep w ok β l (.arr sz []) := by
  obtain ⟨_, h2⟩ := h
  refine ⟨by simp, ?_⟩
  rcases h2 with ⟨_, h2⟩ | ⟨hz, b, x, vs, t, fz, k1, k2, k3, k4, k5⟩
  · exact .inl ⟨rfl, h2⟩
  · exact .inr ⟨hz, b, x, vs, t, fz, k1, k2, k3, by simp; omega, fun k v d _ hd => by simp at hd⟩

theorem kill_arr {l sz : Nat} {es : List (List DV)} {p : Nat → Bool} (hl : st.h[l]? = some (.arr sz es)) : (st.kill p).h[l]? = some (.arr sz es) := by
  simp [St.kill, List.getElem?_map, hl, killO]

/-- The new row behind an append that moves. -/
theorem moved {l sz n cap : Nat} {es ys : List (List DV)} {os cs : List Value} {z : Value} {el : TypeId} (hs : SRep E C a w ok β st) (hl : st.h[l]? = some (.arr sz es)) (hpos : 0 < sz) (hzs : z.cells.size = sz) (hes : ∀ e ∈ es, e.length = sz) (hn : n ≤ es.length)
    (hys : ∀ e ∈ ys, e.length = sz) (ho : os.length = n * sz) (hcs : cs.length = ys.length * sz)
    (hor : ∀ (k : Nat) u e, os[k]? = some u → (es.take n).flatten[k]? = some e → u.oneCell' = true ∧ Rep w ok noLoc u e)
    (hcr : ∀ (k : Nat) u e, cs[k]? = some u → ys.flatten[k]? = some e → u.oneCell' = true ∧ Rep w ok noLoc u e) (hcap : n + ys.length ≤ cap) :
    ∃ β', SRep E C a (w.drew.alloc (.cells (os.toArray ++ (cs.toArray ++ Builtin.zeroCells z.cells (cap - (n + ys.length)))) el)) ok β' ((st.kill (· == l)).at l (.arr sz (es.take n ++ ys))) ∧
      Rep (w.drew.alloc (.cells (os.toArray ++ (cs.toArray ++ Builtin.zeroCells z.cells (cap - (n + ys.length)))) el)) ok β' (.slice (some ⟨w.heap.size, 0, none⟩) (n + ys.length) cap) (.osl sz l 0 (n + ys.length) none) := by
  have hsz : (os.toArray ++ (cs.toArray ++ Builtin.zeroCells z.cells (cap - (n + ys.length)))).size = cap * sz := by
    simp only [Array.size_append, zeroCells_size, hzs, List.size_toArray, ho, hcs]
    rw [← Nat.add_mul, ← Nat.add_mul]
    congr 1; omega
  have htl : (es.take n).length = n := by rw [List.length_take]; omega
  have hte : ∀ e ∈ es.take n, e.length = sz := fun e he => hes e (List.mem_of_mem_take he)
  obtain ⟨β', h1, h2⟩ := (hs.drewN 1).move l sz es (es.take n ++ ys) (.cells (os.toArray ++ (cs.toArray ++ Builtin.zeroCells z.cells (cap - (n + ys.length)))) el) hl (fun β' hb => by
    refine ⟨fun e he => ?_, .inr ⟨hpos, w.heap.size, 0, _, el, (0, 0), hb, push_new w.drew _, .zero _, ?_, fun k v d hv hd => ?_⟩⟩
    · rcases List.mem_append.1 he with he | he
      · exact hte e he
      · exact hys e he
    · rw [hsz, List.length_append, htl, Nat.zero_add]
      exact Nat.mul_le_mul_right _ hcap
    · rw [Nat.zero_add] at hv
      have hmono : ∀ {u : Value} {e : DV}, Rep w ok noLoc u e → Rep (w.drew.alloc (.cells (os.toArray ++ (cs.toArray ++ Builtin.zeroCells z.cells (cap - (n + ys.length)))) el)) ok noLoc u e := fun r =>
        r.mono (fun _ k => k) (fun b hb => push_old w.drew _ (hs.heap.okl b hb)) (fun l x hx => by simp [noLoc] at hx)
      have hv' : (os ++ (cs ++ (Builtin.zeroCells z.cells (cap - (n + ys.length))).toList))[k]? = some v := by
        have := hv
        rw [← Array.getElem?_toList] at this
        simpa using this
      rcases flat_app_get hte (by rw [htl]; exact ho) hcs hys hv' hd with ⟨q1, q2⟩ | ⟨q1, q2⟩
      · exact ⟨(hor k v d q1 q2).1, hmono (hor k v d q1 q2).2⟩
      · exact ⟨(hcr _ v d q1 q2).1, hmono (hcr _ v d q1 q2).2⟩)
  refine ⟨β', h1, ?_⟩
  exact .osl sz l 0 (n + ys.length) cap w.heap.size 0 0 el _ h2 hcap hpos (fun _ => by omega) (shape_new w.drew _ _ _) (fun _ => by rw [hsz, Nat.zero_add, Nat.zero_add]; exact Nat.le_refl _) none (fun _ h => by cases h)

/-- What lies in a row with some of it replaced. -/
theorem splice_flat {sz : Nat} {es ys : List (List DV)} (he : ∀ e ∈ es, e.length = sz) (hy : ∀ e ∈ ys, e.length = sz) {j : Nat} (hj : j + ys.length ≤ es.length) {k : Nat} {d : DV}
    (hd : (es.take j ++ ys ++ es.drop (j + ys.length)).flatten[k]? = some d) :
    (j * sz ≤ k ∧ k < j * sz + ys.length * sz ∧ ys.flatten[k - j * sz]? = some d) ∨ ((k < j * sz ∨ j * sz + ys.length * sz ≤ k) ∧ es.flatten[k]? = some d) := by
  have h1 : (es.take j).flatten.length = j * sz := by
    rw [flatten_len (sz := sz) (fun e h => he e (List.mem_of_mem_take h)), List.length_take]; congr 1; omega
  have h2 : ys.flatten.length = ys.length * sz := flatten_len hy
  rw [List.flatten_append, List.flatten_append] at hd
  rcases Nat.lt_or_ge k (j * sz) with h | h
  · right
    rw [List.getElem?_append_left (by rw [List.length_append]; omega), List.getElem?_append_left (by omega), flatten_take he, List.getElem?_take, if_pos h] at hd
    exact ⟨.inl h, hd⟩
  · rcases Nat.lt_or_ge k (j * sz + ys.length * sz) with h3 | h3
    · left
      rw [List.getElem?_append_left (by rw [List.length_append]; omega), List.getElem?_append_right (by omega), h1] at hd
      exact ⟨h, h3, hd⟩
    · right
      rw [List.getElem?_append_right (by rw [List.length_append]; omega), flatten_drop he, List.getElem?_drop, List.length_append, h1, h2, Nat.add_mul] at hd
      refine ⟨.inr h3, ?_⟩
      rw [← hd]; congr 1; omega

/-- Laid into the room behind a slice. -/
theorem append_room {l sz off n c b x yy : Nat} {es ys : List (List DV)} {cs : List Value} (hs : SRep E C a w ok β st) (hl : st.h[l]? = some (.arr sz es)) (hb : β l = some (b, x)) (hpos : 0 < sz)
    (hyy : 0 < c → yy = x + off * sz) (hno : off + c ≤ es.length) (hfit : n + ys.length ≤ c) (hys : ∀ e ∈ ys, e.length = sz) (hcs : cs.length = ys.length * sz)
    (hcr : ∀ (k : Nat) u e, cs[k]? = some u → ys.flatten[k]? = some e → u.oneCell' = true ∧ Rep w ok noLoc u e) :
    ∃ w', (storeCells ((⟨b, yy, none⟩ : Addr).add (n * sz)) cs).run E.P w = .ok () w' ∧ SRep E C a w' ok β (st.at l (.arr sz (es.take (off + n) ++ ys ++ es.drop (off + n + ys.length)))) ∧ w'.shape? b = w.shape? b := by
  obtain ⟨hes, h2⟩ := hs.heap.obj l _ hl
  rcases h2 with ⟨_, h2⟩ | ⟨_, b', x', vs, ty', fz, k1, k2, k3, k4, k5⟩
  · rw [hb] at h2; cases h2
  · rw [hb] at k1
    injection k1 with k1; injection k1 with k1a k1b
    subst k1a; subst k1b
    have hroom : (off + n) * sz + cs.length ≤ es.length * sz := by
      rw [hcs, ← Nat.add_mul]; exact Nat.mul_le_mul_right _ (by omega)
    have hw : ∃ w', (storeCells ((⟨b, yy, none⟩ : Addr).add (n * sz)) cs).run E.P w = .ok () w' ∧ w'.os = w.os ∧ w'.tape = w.tape ∧ w'.output = w.output ∧ w'.heap.size = w.heap.size ∧ (∀ k, k ≠ b → w'.heap[k]? = w.heap[k]?) ∧
        ∃ cur', w'.heap[b]? = some (.cells cur' ty' fz) ∧ cur'.size = vs.size ∧ ∀ k, cur'[k]? = if x + (off + n) * sz ≤ k ∧ k < x + (off + n) * sz + cs.length then cs[k - (x + (off + n) * sz)]? else vs[k]? := by
      rcases Nat.eq_zero_or_pos c with h3 | h3
      · have hy0 : ys.length = 0 := by omega
        obtain rfl : cs = [] := List.eq_nil_of_length_eq_zero (by rw [hcs, hy0, Nat.zero_mul])
        exact ⟨w, rfl, rfl, rfl, rfl, rfl, fun _ _ => rfl, vs, k2, rfl, fun k => by rw [if_neg (by simp)]⟩
      · have h4 := hyy h3
        have e1 : yy + n * sz = x + (off + n) * sz := by rw [h4, Nat.add_mul]; omega
        have h5 := run_storeCells_own E.P b (yy + n * sz) ty' fz cs 0 vs w k2 k3 (by omega) (fun u hu => by
          obtain ⟨q, hq', rfl⟩ := List.mem_iff_getElem.1 hu
          have hq2 : q < ys.flatten.length := by rw [flatten_len hys]; omega
          exact (hcr q _ _ (List.getElem?_eq_getElem hq') (List.getElem?_eq_getElem hq2)).1)
        rw [add_mk]
        rw [e1] at h5 ⊢
        simpa using h5
    obtain ⟨w', r, o1, o2, o3, o4, oth, cur', e1, e2, e3⟩ := hw
    have hmono : ∀ {v : Value} {d : DV}, Rep w ok noLoc v d → Rep w' ok noLoc v d := fun h => h.mono (fun _ k => k)
      (fun k hk => oth k fun e => hs.heap.dis l b x hb (e ▸ hk)) (fun l' y hy => by simp [noLoc] at hy)
    have hsh : w'.shape? b = w.shape? b := by simp [World.shape?, e1, k2, e2]
    have hlen : (es.take (off + n) ++ ys ++ es.drop (off + n + ys.length)).length = es.length := by
      simp only [List.length_append, List.length_take, List.length_drop]; omega
    refine ⟨w', r, hs.write l b x _ _ hb hl (fun cs h => by cases h) o1 o2 o3 o4 oth hsh ⟨fun e he => ?_, .inr ⟨hpos, b, x, cur', ty', fz, hb, e1, by rw [e2]; exact k3, by rw [e2, hlen]; exact k4, fun k v d hv hd => ?_⟩⟩, hsh⟩
    · rcases List.mem_append.1 he with he | he
      · rcases List.mem_append.1 he with he | he
        · exact hes e (List.mem_of_mem_take he)
        · exact hys e he
      · exact hes e (List.mem_of_mem_drop he)
    · rw [e3] at hv
      rcases splice_flat hes hys (by omega) hd with ⟨q1, q2, q3⟩ | ⟨q1, q3⟩
      · rw [if_pos (by omega)] at hv
        have e4 : x + k - (x + (off + n) * sz) = k - (off + n) * sz := by omega
        rw [e4] at hv
        obtain ⟨c1, c2⟩ := hcr _ v d hv q3
        exact ⟨c1, hmono c2⟩
      · rw [if_neg (by omega)] at hv
        obtain ⟨c1, c2⟩ := k5 k v d hv q3
        exact ⟨c1, hmono c2⟩

theorem append_lv {T : Array TypeId} {t0 t1 el ty : TypeId} {td1 : TypeDesc} {i : TypeInfo} {z : Value} (h0 : T[0]? = some t0) (hu0 : E.P.underlying t0 = some (.slice el)) (h1 : T[1]? = some t1) (hu1 : E.P.underlying t1 = some td1)
    (hn1 : isInt td1 = false) (hi : E.P.info? el = some i) (hz0 : i.zero = some z) (hzs : z.cells.size = i.size) (hpos : 0 < i.size) {x y : Value} {dx dy : DV}
    (hs : SRep E C a w ok β st) (hx : Rep w ok β x dx) (hy : Rep w ok β y dy) (hk : appendD i.size i.bytes dx dy K st) : LV E C a K (Builtin.append_ T ty #[x, y]) w := by
  obtain ⟨ys, cs, hq, hys, hcs, hlen, hfc, hcr⟩ := elems_run hs hy hpos hk
  have arr_len : ∀ {l : Nat} {es : List (List DV)}, st.h[l]? = some (.arr i.size es) → (∀ e ∈ es, e.length = i.size) := fun hl => (hs.heap.obj _ _ hl).1
  cases hx with
  | nils sz =>
    obtain ⟨hb, hm, hk⟩ := hq
    by_cases h00 : ys.length = 0
    · obtain rfl : ys = [] := List.eq_nil_of_length_eq_zero h00
      obtain rfl : cs = [] := List.eq_nil_of_length_eq_zero (by simpa using hcs)
      exact ⟨_, w, ok, β, _, _, append_fits (A := none) (n := 0) (c := 0) h0 hu0 h1 hu1 hn1 hi hlen (hfc w rfl) (Nat.le_refl _) (fun _ h => by cases h) (fun _ => rfl), hs.newnone _, .oslnil _ _ _ _ (fun _ h => by cases h) hpos, hk⟩
    · obtain ⟨cap, hcap, hr⟩ := append_moves (A := none) (n := 0) (c := 0) (os := []) h0 hu0 h1 hu1 hn1 hi hz0 hlen (by omega) (by simpa using hb) (by simpa using hm) (fun w' _ => by simp [Builtin.firstCells]) hfc
      obtain ⟨β', k1, k2, k3, k4⟩ := (hs.drewN 1).newarr el (#[] ++ (cs.toArray ++ Builtin.zeroCells z.cells (cap - (0 + ys.length)))) i.size ys hys hpos (by simp [zeroCells_size, hcs]) (fun k v d hv hd => by
        have hk : k < cs.length := by
          rw [hcs, ← flatten_len hys]
          rcases Nat.lt_or_ge k ys.flatten.length with h3 | h3
          · exact h3
          · rw [List.getElem?_eq_none h3] at hd; cases hd
        simp at hv
        rw [Array.getElem?_append_left (by simpa using hk)] at hv
        obtain ⟨c1, c2⟩ := hcr k v d (by simpa using hv) hd
        refine ⟨c1, ?_⟩; refine c2.mono ?_ ?_ ?_; (exact fun _ k => k); (exact fun _ _ => rfl); (exact fun l x hx => by simp [noLoc] at hx))
      have hk4 := k4 (0 + ys.length) cap none hcap (by
        simp only [Array.size_append, zeroCells_size, hzs]
        simp [hcs]
        rw [← Nat.add_mul]
        exact Nat.mul_le_mul_right _ (by omega)) (fun _ h => by cases h)
      exact ⟨_, _, ok, β', _, _, hr, k1, by simpa using hk4, hk⟩
  | oslnil sz l off cap0 hcap0 hz =>
    cases cap0 with
    | some c0 =>
      obtain ⟨rfl, es, hl, hno, hfit, hk⟩ := hq
      have hc0 := hcap0 _ rfl
      subst hc0
      obtain rfl : ys = [] := List.eq_nil_of_length_eq_zero (by omega)
      obtain rfl : cs = [] := List.eq_nil_of_length_eq_zero (by simpa using hcs)
      refine ⟨_, w, ok, β, _, _, append_fits (A := none) (n := 0) (c := 0) h0 hu0 h1 hu1 hn1 hi hlen (hfc w rfl) (Nat.le_refl _) (fun _ h => by cases h) (fun _ => rfl),
        hs.setArr hl ?_, .oslnil _ _ _ _ (fun _ h => by cases h; rfl) hpos, hk⟩
      have := hs.heap.obj l _ hl
      simpa using this
    | none =>
    obtain ⟨rfl, rfl, es, hl, hno, hb, hm, hk⟩ := hq
    by_cases h00 : ys.length = 0
    · obtain rfl : ys = [] := List.eq_nil_of_length_eq_zero h00
      obtain rfl : cs = [] := List.eq_nil_of_length_eq_zero (by simpa using hcs)
      exact ⟨_, w, ok, β, _, _, append_fits (A := none) (n := 0) (c := 0) h0 hu0 h1 hu1 hn1 hi hlen (hfc w rfl) (Nat.le_refl _) (fun _ h => by cases h) (fun _ => rfl),
        (hs.kill (· == l)).setArr (kill_arr hl) (by simpa using ORep.nilArr ((hs.kill (· == l)).heap.obj l _ (kill_arr hl))), .oslnil _ _ _ _ (fun _ h => by cases h) hpos, hk⟩
    · obtain ⟨cap, hcap, hr⟩ := append_moves (A := none) (n := 0) (c := 0) (os := []) h0 hu0 h1 hu1 hn1 hi hz0 hlen (by omega) hb hm (fun w' _ => by simp [Builtin.firstCells]) hfc
      obtain ⟨β', k1, k2⟩ := moved (z := z) (el := el) (n := 0) (os := []) hs hl hpos hzs (arr_len hl) hno hys (by simp) hcs (fun k u e hu _ => by simp at hu) hcr hcap
      exact ⟨_, _, ok, β', _, _, hr, k1, k2, hk⟩
  | osl sz l off n c b x yy tt m hb hnc hsz hyy hmm hr cap0 hcap0 =>
    cases cap0 with
    | some c0 =>
      obtain ⟨rfl, es, hl, hno, hfit, hk⟩ := hq
      have hc0 := hcap0 _ rfl
      subst hc0
      obtain ⟨w', r, hs', hsh⟩ := append_room (yy := yy) (n := n) (c := c) hs hl hb hpos hyy hno hfit hys hcs hcr
      exact ⟨_, w', ok, β, _, _, append_fits h0 hu0 h1 hu1 hn1 hi hlen (hfc w rfl) hfit (fun ad had => by cases had; exact r) (fun h => by cases h), hs',
        .osl i.size l off (n + ys.length) c b x yy tt m hb hfit hpos hyy (hsh.trans hmm) hr (some c) (fun _ h => by cases h; rfl), hk⟩
    | none =>
    obtain ⟨rfl, rfl, es, hl, hno, hbd, hm, hk⟩ := hq
    by_cases hfit : n + ys.length ≤ c
    · obtain ⟨_, h2⟩ := hs.heap.obj l _ hl
      rcases h2 with ⟨_, h2⟩ | ⟨_, b', x', vs, ty', fz, k1, k2, k3, k4, k5⟩
      · rw [hb] at h2; cases h2
      · rw [hb] at k1
        injection k1 with k1; injection k1 with k1a k1b
        subst k1a; subst k1b
        have hms : m = vs.size := by simp [World.shape?, k2] at hmm; exact hmm.2.symm
        have hroom : n * i.size + cs.length ≤ c * i.size := by
          rw [hcs, ← Nat.add_mul]; exact Nat.mul_le_mul_right _ hfit
        have hin : cs.length = 0 ∨ (x + n * i.size + 0 + cs.length ≤ vs.size ∧ yy = x) := by
          rcases Nat.eq_zero_or_pos c with hc0 | hc0
          · left; rw [hc0, Nat.zero_mul] at hroom; omega
          · right
            have h3 := hr hc0
            have h4 := hyy hc0
            rw [Nat.zero_add] at h3
            exact ⟨by omega, by simpa using h4⟩
        have hw : ∃ w', (storeCells ((⟨b, yy, none⟩ : Addr).add (n * i.size)) cs).run E.P w = .ok () w' ∧ w'.os = w.os ∧ w'.tape = w.tape ∧ w'.output = w.output ∧ w'.heap.size = w.heap.size ∧ (∀ k, k ≠ b → w'.heap[k]? = w.heap[k]?) ∧
            ∃ cur', w'.heap[b]? = some (.cells cur' ty' fz) ∧ cur'.size = vs.size ∧ ∀ k, cur'[k]? = if x + n * i.size ≤ k ∧ k < x + n * i.size + cs.length then cs[k - (x + n * i.size)]? else vs[k]? := by
          rcases hin with h3 | ⟨h3, h4⟩
          · obtain rfl : cs = [] := List.eq_nil_of_length_eq_zero h3
            exact ⟨w, rfl, rfl, rfl, rfl, rfl, fun _ _ => rfl, vs, k2, rfl, fun k => by rw [if_neg (by simp)]⟩
          · subst h4
            have h5 := run_storeCells_own E.P b (yy + n * i.size) ty' fz cs 0 vs w k2 k3 h3 (fun u hu => by
              obtain ⟨q, hq', rfl⟩ := List.mem_iff_getElem.1 hu
              have hq2 : q < ys.flatten.length := by rw [flatten_len hys]; omega
              exact (hcr q _ _ (List.getElem?_eq_getElem hq') (List.getElem?_eq_getElem hq2)).1)
            rw [add_mk]
            simpa using h5
        obtain ⟨w', r, o1, o2, o3, o4, oth, cur', e1, e2, e3⟩ := hw
        have hmono : ∀ {v : Value} {d : DV}, Rep w ok noLoc v d → Rep w' ok noLoc v d := fun h => h.mono (fun _ k => k)
          (fun k hk => oth k fun e => hs.heap.dis l b x hb (e ▸ hk)) (fun l' y hy => by simp [noLoc] at hy)
        have htl : (es.take n).length = n := by rw [List.length_take]; omega
        have hte : ∀ e ∈ es.take n, e.length = i.size := fun e he => arr_len hl e (List.mem_of_mem_take he)
        have hfl : (es.take n).flatten.length = n * i.size := by rw [flatten_len hte, htl]
        have hsh : w'.shape? b = w.shape? b := by simp [World.shape?, e1, k2, e2]
        have hro : ORep w' ok β l (.arr i.size (es.take n ++ ys)) := by
          refine ⟨fun e he => ?_, .inr ⟨hpos, b, x, cur', ty', fz, hb, e1, by rw [e2]; exact k3, ?_, fun k v d hv hd => ?_⟩⟩
          · rcases List.mem_append.1 he with he | he
            · exact hte e he
            · exact hys e he
          · rw [e2, List.length_append, htl, Nat.add_mul, ← hcs]
            rcases hin with h3 | ⟨h3, h4⟩
            · have : n * i.size ≤ es.length * i.size := Nat.mul_le_mul_right _ hno
              omega
            · omega
          · rw [List.flatten_append] at hd
            rw [e3] at hv
            rcases Nat.lt_or_ge k (n * i.size) with hlt | hge
            · rw [if_neg (by omega)] at hv
              rw [List.getElem?_append_left (by omega), flatten_take (arr_len hl), List.getElem?_take, if_pos hlt] at hd
              obtain ⟨c1, c2⟩ := k5 k v d hv hd
              exact ⟨c1, hmono c2⟩
            · rw [List.getElem?_append_right (by omega), hfl] at hd
              have hk2 : k - n * i.size < ys.flatten.length := by
                rcases Nat.lt_or_ge (k - n * i.size) ys.flatten.length with h3 | h3
                · exact h3
                · rw [List.getElem?_eq_none h3] at hd; cases hd
              rw [flatten_len hys, ← hcs] at hk2
              rw [if_pos (by omega)] at hv
              have e4 : x + k - (x + n * i.size) = k - n * i.size := by omega
              rw [e4] at hv
              obtain ⟨c1, c2⟩ := hcr _ v d hv hd
              exact ⟨c1, hmono c2⟩
        refine ⟨_, w', ok, β, _, _, append_fits h0 hu0 h1 hu1 hn1 hi hlen (hfc w rfl) hfit (fun ad had => by cases had; exact r) (fun h => by cases h),
          (hs.kill (· == l)).write l b x _ _ hb (kill_arr hl) (fun cs h => by cases h) o1 o2 o3 o4 oth hsh hro, ?_, hk⟩
        exact .osl i.size l 0 (n + ys.length) c b x yy tt m hb hfit hpos hyy (hsh.trans hmm) hr none (fun _ h => by cases h)
    · have hfo : ∃ os : List Value, os.length = n * i.size ∧ (∀ w' : World, w'.heap = w.heap → (Builtin.firstCells i.size n (.slice (some ⟨b, yy, none⟩) n c)).run E.P w' = .ok os.toArray w') ∧
          ∀ (k : Nat) u e, os[k]? = some u → (es.take n).flatten[k]? = some e → u.oneCell' = true ∧ Rep w ok noLoc u e := by
        by_cases hn0 : n = 0
        · subst hn0
          exact ⟨[], by simp, fun w' _ => by simp [Builtin.firstCells, loadCells, loadCellsFrom], fun k u e hu _ => by simp at hu⟩
        · obtain ⟨os, q1, q2, q3⟩ := osl_cells (off := 0) (n := n) hs hb hl (by omega) (by omega) hpos (hyy (by omega))
          refine ⟨os, q1, fun w' hw' => ?_, fun k u e hu he => q3 k u e hu (by simpa using he)⟩
          have hcell : ∀ a, w'.cell? a = w.cell? a := fun a => by simp [World.cell?, hw']
          have := loadCells_at (E := E) (w := w') b yy os (fun k v hv => by rw [hcell]; exact q2 k v hv)
          rw [q1] at this
          simpa [Builtin.firstCells] using this
      obtain ⟨os, q1, q2, q3⟩ := hfo
      obtain ⟨cap, hcap, hrr⟩ := append_moves (n := n) (c := c) h0 hu0 h1 hu1 hn1 hi hz0 hlen (by omega) hbd hm q2 hfc
      obtain ⟨β', k1, k2⟩ := moved (z := z) (el := el) hs hl hpos hzs (arr_len hl) hno hys q1 hcs q3 hcr hcap
      exact ⟨_, _, ok, β', _, _, hrr, k1, k2, hk⟩
  | _ => exact hq.elim

theorem copy_lv {T : Array TypeId} {t0 el ty : TypeId} {i : TypeInfo} (h0 : T[0]? = some t0) (hu0 : E.P.underlying t0 = some (.slice el)) (hi : E.P.info? el = some i) (hpos : 0 < i.size) {x y : Value} {dx dy : DV}
    (hs : SRep E C a w ok β st) (hx : Rep w ok β x dx) (hy : Rep w ok β y dy) (hk : copyD i.size dx dy K st) : LV E C a K (Builtin.copy_ T ty #[x, y]) w := by
  obtain ⟨ys, cs, hq, hys, hcs, hlen, hfc, hcr⟩ := elems_run hs hy hpos hk
  cases hx with
  | osl sz l off n c b x yy tt m hb hnc hsz hyy hmm hr cap0 hcap0 =>
    obtain ⟨rfl, es, hl, hno, hfit, hk⟩ := hq
    obtain ⟨w', r, hs', hsh⟩ := append_room (yy := yy) (n := 0) (c := n) hs hl hb hpos (fun h => hyy (by omega)) hno (by omega) hys hcs hcr
    rw [Nat.zero_mul] at r
    have hrun : (Builtin.copy_ T ty #[.slice (some ⟨b, yy, none⟩) n c, y]).run E.P w = .ok (.int .i64 ys.length) w' := by
      have hmin : Nat.min ys.length n = ys.length := Nat.min_eq_left hfit
      have r' : (storeCells ⟨b, yy, none⟩ cs).run E.P w = .ok () w' := by simpa [add_mk] using r
      simp [Builtin.copy_, h0, run_underlying hu0, hlen, hmin, sizeOf, typeInfo, hi, hfc w rfl, r', goInt]
    exact ⟨_, w', ok, β, _, _, hrun, by simpa using hs', .int _ _, hk⟩
  | oslnil sz l off cap0 hcap0 hz =>
    obtain ⟨rfl, es, hl, hno, hfit, hk⟩ := hq
    obtain rfl : ys = [] := List.eq_nil_of_length_eq_zero (by omega)
    obtain rfl : cs = [] := List.eq_nil_of_length_eq_zero (by simpa using hcs)
    have hrun : (Builtin.copy_ T ty #[.slice none 0 0, y]).run E.P w = .ok (.int .i64 0) w := by
      have hf := hfc w rfl
      simp only [List.length_nil] at hf hlen
      simp [Builtin.copy_, h0, run_underlying hu0, hlen, sizeOf, typeInfo, hi, hf, goInt]
    refine ⟨_, w, ok, β, _, _, hrun, hs.setArr hl ?_, .int _ _, hk⟩
    have := hs.heap.obj l _ hl
    simpa using this
  | _ => exact hq.elim
end
end Go.Ai

/- Operations, seventh part: literals of structs and of slices. -/
namespace Go.Ai
open Go.Instr
section
variable {E : Env} {C : Ctx} {a : Act} {w : World} {ok : Nat → Prop} {β : Loc} {st : St} {K : DV → St → Prop}

theorem foldset_get (off : Nat) : ∀ (vs : List Value) (j : Nat) (cells : Array Value), off + j + vs.length ≤ cells.size →
    ((vs.zipIdx j).foldl (fun cs (c, j) => cs.setIfInBounds (off + j) c) cells).size = cells.size ∧
    ∀ k, ((vs.zipIdx j).foldl (fun cs (c, j) => cs.setIfInBounds (off + j) c) cells)[k]? = if off + j ≤ k ∧ k < off + j + vs.length then vs[k - (off + j)]? else cells[k]?
  | [], j, cells, _ => ⟨rfl, fun k => by rw [if_neg (by simp)]; rfl⟩
  | v :: vs, j, cells, h => by
    simp only [List.length_cons] at h
    obtain ⟨h1, h2⟩ := foldset_get off vs (j + 1) (cells.setIfInBounds (off + j) v) (by simp; omega)
    refine ⟨by rw [List.zipIdx_cons, List.foldl_cons, h1]; simp, fun k => ?_⟩
    rw [List.zipIdx_cons, List.foldl_cons, h2]
    simp only [List.length_cons]
    by_cases h0 : k = off + j
    · subst h0
      rw [if_neg (by omega), if_pos (by omega)]
      have : off + j < cells.size := by omega
      simp [this]
    · rw [Array.getElem?_setIfInBounds_ne (fun e => h0 e.symm)]
      by_cases h3 : off + (j + 1) ≤ k ∧ k < off + (j + 1) + vs.length
      · rw [if_pos h3, if_pos (by omega)]
        have : k - (off + j) = (k - (off + (j + 1))) + 1 := by omega
        rw [this, List.getElem?_cons_succ]
      · rw [if_neg h3, if_neg (by omega)]

/-- The machine's filling of cells and ours. -/
theorem fill_rep (place : Nat → Option (Nat × Nat)) : ∀ (ps : List (Nat × Value)) (ds : List (Nat × Nat × DV)) (cells : Array Value) (cs : List DV) {Q : List DV → Prop}, ps.length = ds.length →
    (∀ (i : Nat) p d, ps[i]? = some p → ds[i]? = some d → place p.1 = some (d.1, d.2.1) ∧ Rep w ok β p.2 d.2.2) → cells.size = cs.length →
    (∀ (k : Nat) v d, cells[k]? = some v → cs[k]? = some d → Rep w ok β v d) → bldD cs ds Q →
    ∃ cells' cs', fill place cells ps = some cells' ∧ cells'.size = cs'.length ∧ (∀ (k : Nat) v d, cells'[k]? = some v → cs'[k]? = some d → Rep w ok β v d) ∧ Q cs'
  | [], [], cells, cs, Q, _, _, hs, hr, hq => ⟨cells, cs, rfl, hs, hr, hq⟩
  | [], _ :: _, _, _, _, h, _, _, _, _ => by simp at h
  | _ :: _, [], _, _, _, h, _, _, _, _ => by simp at h
  | (i, v) :: ps, (off, n, d) :: ds, cells, cs, Q, hl, hp, hs, hr, hq => by
    obtain ⟨h1, h2, h3, hq⟩ := hq
    obtain ⟨hpl, hv⟩ := hp 0 (i, v) (off, n, d) rfl rfl
    simp only at hpl hv
    obtain ⟨c1, c2, _⟩ := hv.cells h1
    have hfit : off + 0 + v.cells.toList.length ≤ cells.size := by simp; omega
    obtain ⟨f1, f2⟩ := foldset_get off v.cells.toList 0 cells hfit
    have hlen : (cs.take off ++ d.cells ++ cs.drop (off + n)).length = cs.length := by simp; omega
    obtain ⟨cells', cs', r1, r2, r3, r4⟩ := fill_rep place ps ds ((v.cells.toList.zipIdx 0).foldl (fun cs (c, j) => cs.setIfInBounds (off + j) c) cells) (cs.take off ++ d.cells ++ cs.drop (off + n)) (by simpa using hl)
      (fun j p d hp' hd' => hp (j + 1) p d (by simpa using hp') (by simpa using hd')) (by rw [f1, hlen]; exact hs) (fun k u e hu he => by
        rw [splice_get _ _ _ _ _ h2 h3] at he
        rw [f2] at hu
        have e1 : v.cells.toList.length = n := by simp; omega
        rw [e1] at hu
        by_cases hk : off ≤ k ∧ k < off + n
        · rw [if_pos hk] at he
          rw [if_pos (by omega), Nat.add_zero] at hu
          exact c2 _ u e (by simpa using hu) he
        · rw [if_neg hk] at he
          rw [if_neg (by omega)] at hu
          exact hr k u e hu he) hq
    refine ⟨cells', cs', ?_, r2, r3, r4⟩
    rw [fill, hpl]
    have hfe : v.cells.zipIdx.foldl (fun cs (c, j) => cs.setIfInBounds (off + j) c) cells = (v.cells.toList.zipIdx 0).foldl (fun cs (c, j) => cs.setIfInBounds (off + j) c) cells := by
      rw [← Array.foldl_toList]
      simp
    show (if (decide (v.cells.size ≠ n) || decide (off + v.cells.size > cells.size)) = true then none else fill place (v.cells.zipIdx.foldl (fun cs (c, j) => cs.setIfInBounds (off + j) c) cells) ps) = some cells'
    rw [if_neg (by simp; omega), hfe]
    exact r1

theorem mapM_run (P : Program) (w : World) (f : Field → Sem (Nat × Nat)) (g : Field → Nat × Nat) : ∀ (l : List Field), (∀ x ∈ l, (f x).run P w = .ok (g x) w) → (l.mapM f).run P w = .ok (l.map g) w
  | [], _ => rfl
  | x :: l, h => by
    rw [List.mapM_cons]
    simp [h x (by simp), mapM_run P w f g l (fun y hy => h y (by simp [hy]))]

theorem build_lv {t : TypeId} {fields : Array Field} (hu : E.P.underlying t = some (.struct fields)) {z : Value} (hz : (E.P.info? t).bind (·.zero) = some z) {zs : List DV}
    (hf : ∀ x ∈ fields.toList, (E.P.info? x.type).isSome = true) (hzl : z.cells.size = zs.length) (hzr : ∀ (k : Nat) v d, z.cells[k]? = some v → zs[k]? = some d → Rep w ok β v d)
    {ps : Array (Nat × Value)} {ds : List (Nat × Nat × DV)} (hl : ps.size = ds.length)
    (hp : ∀ (i : Nat) p d, ps[i]? = some p → ds[i]? = some d → (∃ fd, fields[p.1]? = some fd ∧ fd.offset = d.1 ∧ E.P.cellsOf fd.type = d.2.1) ∧ Rep w ok β p.2 d.2.2)
    (hs : SRep E C a w ok β st) (hk : bldD zs ds fun cs => K (.agg cs) st) : LV E C a K (build t ps) w := by
  have hm : (fields.mapM fun (f : Field) => do pure (f.offset, ← sizeOf f.type)).run E.P w = .ok (fields.map fun (f : Field) => (f.offset, E.P.cellsOf f.type)) w := by
    rw [Array.mapM_eq_mapM_toList]
    have := mapM_run E.P w (fun (f : Field) => do pure (f.offset, ← sizeOf f.type)) (fun (f : Field) => (f.offset, E.P.cellsOf f.type)) fields.toList (fun x hx => by
      have h1 := hf x hx
      cases hi : E.P.info? x.type with
      | none => simp [hi] at h1
      | some i => simp [sizeOf, typeInfo, hi, Program.cellsOf])
    simp only [Sem.run_map]
    rw [this]
    simp only [Result.andThen_ok]
    rw [← Array.toList_map, Array.toArray_toList]
  obtain ⟨cells', cs', r1, r2, r3, r4⟩ := fill_rep (w := w) (ok := ok) (β := β) ((fields.map fun (f : Field) => (f.offset, E.P.cellsOf f.type))[·]?) ps.toList ds z.cells zs (by simpa using hl) (fun i p d h1 h2 => by
    obtain ⟨⟨fd, q1, q2, q3⟩, q4⟩ := hp i p d (by simpa using h1) h2
    exact ⟨by simp [q1, q2, q3], q4⟩) hzl hzr hk
  refine LV.same (v := .agg cells') ?_ hs (by
    have := Rep.agg (w := w) (ok := ok) (β := β) cells'.toList cs' (by simpa using r2) (fun i v d h1 h2 => r3 i v d (by simpa using h1) h2)
    simpa using this) r4
  cases hi : E.P.info? t with
  | none => simp [hi] at hz
  | some i =>
    simp [hi] at hz
    simp only [build, zeroValue, typeInfo, Sem.run_bind, run_program, Result.andThen_ok, hi, Sem.run_pure, hz, run_underlying hu, hm, r1]

theorem bslice_get (sz : Nat) (place : Nat → Option (Nat × Nat)) (hpl : ∀ i, place i = some (i * sz, sz)) : ∀ (vs : List Value) (j : Nat) (cells : Array Value), (∀ v ∈ vs, v.cells.size = sz) → (j + vs.length) * sz ≤ cells.size →
    ∃ cells', fill place cells ((vs.zipIdx j).map fun (v, i) => (i, v)) = some cells' ∧ cells'.size = cells.size ∧
      ∀ k, cells'[k]? = if j * sz ≤ k ∧ k < (j + vs.length) * sz then (vs.map fun v => v.cells.toList).flatten[k - j * sz]? else cells[k]?
  | [], j, cells, _, _ => ⟨cells, rfl, rfl, fun k => by rw [if_neg (by simp)]⟩
  | v :: vs, j, cells, hv, h => by
    have h1 : v.cells.size = sz := hv v (by simp)
    simp only [List.length_cons] at h
    have e0 : (j + (vs.length + 1)) * sz = j * sz + sz + vs.length * sz := by rw [Nat.add_mul, Nat.add_mul, Nat.one_mul]; omega
    have hfit : j * sz + 0 + v.cells.toList.length ≤ cells.size := by simp; omega
    obtain ⟨f1, f2⟩ := foldset_get (j * sz) v.cells.toList 0 cells hfit
    obtain ⟨cells', r1, r2, r3⟩ := bslice_get sz place hpl vs (j + 1) ((v.cells.toList.zipIdx 0).foldl (fun cs (c, q) => cs.setIfInBounds (j * sz + q) c) cells) (fun u hu => hv u (by simp [hu])) (by
      rw [f1]
      have : (j + 1 + vs.length) * sz = (j + (vs.length + 1)) * sz := by congr 1; omega
      omega)
    refine ⟨cells', ?_, by rw [r2, f1], fun k => ?_⟩
    · rw [List.zipIdx_cons, List.map_cons, fill, hpl]
      have hfe : v.cells.zipIdx.foldl (fun cs (c, q) => cs.setIfInBounds (j * sz + q) c) cells = (v.cells.toList.zipIdx 0).foldl (fun cs (c, q) => cs.setIfInBounds (j * sz + q) c) cells := by
        rw [← Array.foldl_toList]
        simp
      show (if (decide (v.cells.size ≠ sz) || decide (j * sz + v.cells.size > cells.size)) = true then none else fill place (v.cells.zipIdx.foldl (fun cs (c, q) => cs.setIfInBounds (j * sz + q) c) cells) _) = some cells'
      rw [if_neg (by simp; omega), hfe]
      exact r1
    · rw [r3, f2]
      simp only [List.length_cons, List.map_cons, List.flatten_cons]
      have e1 : (j + 1) * sz = j * sz + sz := Nat.succ_mul j sz
      have e2 : (j + 1 + vs.length) * sz = j * sz + sz + vs.length * sz := by rw [Nat.add_mul, Nat.add_mul, Nat.one_mul]
      have e3 : v.cells.toList.length = sz := by simpa using h1
      rw [e1, e2, e0]
      by_cases hk : j * sz + sz ≤ k ∧ k < j * sz + sz + vs.length * sz
      · rw [if_pos hk, if_pos (by omega), List.getElem?_append_right (by omega), e3]
        congr 1
        omega
      · rw [if_neg hk, e3]
        by_cases hk2 : j * sz ≤ k ∧ k < j * sz + sz
        · rw [if_pos (by omega), if_pos (by omega), List.getElem?_append_left (by omega)]
          simp
        · rw [if_neg (by omega), if_neg (by omega)]

theorem cells_closed {d e : DV} (h : d.closed = true) (he : e ∈ d.cells) : e.closed = true := by
  cases d with
  | agg l =>
    simp only [DV.cells] at he
    obtain ⟨i, hi, rfl⟩ := List.mem_iff_getElem.1 he
    exact closedAll_get l (by simpa [DV.closed] using h) i _ (List.getElem?_eq_getElem hi)
  | _ => simp [DV.cells] at he; subst he; exact h

theorem flat_rep {sz : Nat} : ∀ (vs : List Value) (ds : List DV), vs.length = ds.length → (∀ (k : Nat) v d, vs[k]? = some v → ds[k]? = some d → Rep w ok β v d) → (∀ d ∈ ds, d.closed = true ∧ d.cells.all DV.one = true ∧ d.cells.length = sz) →
    (∀ v ∈ vs, v.cells.size = sz) → ∀ (k : Nat) v d, (vs.map fun v => v.cells.toList).flatten[k]? = some v → (ds.map DV.cells).flatten[k]? = some d → v.oneCell' = true ∧ Rep w ok noLoc v d
  | [], ds, hl, _, _, _, k, v, d, hv, hd => by simp at hv
  | u :: vs, [], hl, _, _, _, k, v, d, hv, hd => by simp at hl
  | u :: vs, e :: ds, hl, hr, hc, hz, k, v, d, hv, hd => by
    obtain ⟨h1, h2, h3⟩ := hc e (by simp)
    obtain ⟨c1, c2, c3⟩ := (hr 0 u e rfl rfl).cells h2
    rw [List.map_cons, List.flatten_cons] at hv hd
    have e1 : u.cells.toList.length = e.cells.length := by simpa using c1
    rcases Nat.lt_or_ge k e.cells.length with h | h
    · rw [List.getElem?_append_left (by omega)] at hv
      rw [List.getElem?_append_left h] at hd
      refine ⟨c3 v (List.mem_of_getElem? hv), (c2 k v d (by simpa using hv) hd).shut ?_⟩
      exact cells_closed h1 (List.mem_of_getElem? hd)
    · rw [List.getElem?_append_right (by omega)] at hv
      rw [List.getElem?_append_right h] at hd
      rw [e1] at hv
      exact flat_rep vs ds (by simpa using hl) (fun k v d h1 h2 => hr (k + 1) v d (by simpa using h1) (by simpa using h2)) (fun d hd => hc d (by simp [hd])) (fun v hv => hz v (by simp [hv])) _ v d hv hd

theorem bslice_lv {t el : TypeId} {i : TypeInfo} {z : Value} {n : Nat} (hu : E.P.underlying t = some (.slice el)) (hi : E.P.info? el = some i) (hz : i.zero = some z) (hzs : z.cells.size = i.size) (hpos : 0 < i.size) {vs : List Value} {ds : List DV} (hl : vs.length = ds.length)
    (hn : n = vs.length) (hmax : n * i.size ≤ 2 ^ 24) (hv : ∀ (k : Nat) v d, vs[k]? = some v → ds[k]? = some d → Rep w ok β v d) (hd : ∀ d ∈ ds, d.closed = true ∧ d.cells.all DV.one = true ∧ d.cells.length = i.size)
    (hs : SRep E C a w ok β st) (hk : K (.osl i.size st.h.length 0 ds.length none) (st.new (.arr i.size (ds.map DV.cells)))) {ps : Array (Nat × Value)} (hps : ps.toList = (vs.zipIdx 0).map fun (v, i) => (i, v)) : LV E C a K (buildSlice t n ps) w := by
  subst hn
  have hcell : ∀ v ∈ vs, v.cells.size = i.size := fun v hvm => by
    obtain ⟨k, hk, rfl⟩ := List.mem_iff_getElem.1 hvm
    have hk' : k < ds.length := by omega
    have h1 := hd ds[k] (List.getElem_mem hk')
    have := ((hv k _ _ (List.getElem?_eq_getElem hk) (List.getElem?_eq_getElem hk')).cells h1.2.1).1
    omega
  obtain ⟨cells', r1, r2, r3⟩ := bslice_get i.size (fun k => some (k * i.size, i.size)) (fun _ => rfl) vs 0 ((Array.range (vs.length * i.size)).map (z.cells[· % z.cells.size]!)) hcell (by simp)
  have hsz : cells'.size = vs.length * i.size := by rw [r2]; simp
  have hds : ∀ e ∈ ds.map DV.cells, e.length = i.size := fun e he => by
    obtain ⟨d, hd', rfl⟩ := List.mem_map.1 he
    exact (hd d hd').2.2
  obtain ⟨β', n1, n2, n3, n4⟩ := hs.newarr el cells' i.size (ds.map DV.cells) hds hpos (by rw [hsz]; simp [hl]) (fun k v d hv' hd' => by
    have hk : k < vs.length * i.size := by
      rw [hl]
      have : (ds.map DV.cells).flatten.length = ds.length * i.size := by rw [flatten_len hds]; simp
      rcases Nat.lt_or_ge k (ds.length * i.size) with h | h
      · exact h
      · rw [List.getElem?_eq_none (by omega)] at hd'; cases hd'
    rw [r3, if_pos (by simpa using hk)] at hv'
    simp only [Nat.zero_mul, Nat.sub_zero] at hv'
    exact flat_rep vs ds hl hv hd hcell k v d hv' hd')
  refine ⟨_, _, ok, β', _, _, ?_, n1, n4 ds.length ds.length none (Nat.le_refl _) (by rw [hsz, hl]; exact Nat.le_refl _) (fun _ h => by cases h), hk⟩
  have hno : ¬ vs.length * i.size > 2 ^ 24 := by omega
  have hno' : ¬ 16777216 < vs.length * i.size := by omega
  rw [← hl]
  by_cases h0 : vs.length * i.size = 0
  · have hv0 : vs = [] := by
      rcases Nat.mul_eq_zero.1 h0 with h | h
      · exact List.eq_nil_of_length_eq_zero h
      · omega
    subst hv0
    have hps' : ps.toList = [] := by simpa using hps
    have hc' : cells' = #[] := Array.eq_empty_of_size_eq_zero (by simpa using hsz)
    subst hc'
    obtain rfl : ps = #[] := by simpa using hps'
    simp [buildSlice, run_underlying hu, sizeOf, typeInfo, hi, fill, newRow]
    have e0 : Array.map (fun _ => (default : Value)) (Array.range 0) = #[] := Array.eq_empty_of_size_eq_zero (by simp)
    rw [e0]
  · have hmul : ¬ (vs = [] ∨ i.size = 0) := fun h => by
      rcases h with h | h
      · subst h; simp at h0
      · omega
    simp only [buildSlice, Sem.run_bind, run_underlying hu, Result.andThen_ok, sizeOf, typeInfo, run_program, hi, Sem.run_pure]
    simp only [if_neg hno, if_neg h0, zeroValue, typeInfo, Sem.run_bind, run_program, Result.andThen_ok, hi, Sem.run_pure, hz, hps, r1]
    simp [newRow]
end
end Go.Ai

/- Operations, eighth part: a row of characters as text, a new row with room, its room, the least and the greatest. -/
namespace Go.Ai
open Go.Instr
set_option linter.unusedSimpArgs false
section
variable {E : Env} {C : Ctx} {a : Act} {w : World} {ok : Nat → Prop} {β : Loc} {st : St} {K : DV → St → Prop}

theorem runes_of (rs : List Int) {x b : Nat} {vs : Nat → Value} (hc : ∀ k, k < rs.length → w.cell? ⟨b, x + k, none⟩ = some (vs k)) (hr : ∀ k d, (rs.map fun r => DV.int .i32 r)[k]? = some d → Rep w ok noLoc (vs k) d) :
    ∀ k, k < rs.length → w.cell? ⟨b, x + k, none⟩ = some (.int .i32 (rs.getD k 0)) := fun k hk => by
  have := hr k (.int .i32 rs[k]) (by simp [List.getElem?_eq_getElem hk])
  rw [hc k hk, this.int_inv, List.getD_eq_getElem?_getD, List.getElem?_eq_getElem hk]
  rfl

theorem ba_app (a b : ByteArray) : (a ++ b).data.toList = a.data.toList ++ b.data.toList := by simp [ByteArray.append_eq, ByteArray.append]
theorem runesBytes_list : ∀ (rs : List Int) (s : ByteArray), (rs.foldl (fun r n => r ++ Utf8.encode n) s).data.toList = s.data.toList ++ rs.flatMap fun r => (Utf8.encode r).data.toList
  | [], s => by simp
  | r :: rs, s => by
    rw [List.foldl_cons, runesBytes_list rs, ba_app, List.flatMap_cons, List.append_assoc]

theorem r2s_run {src dst e : TypeId} (hsrc : E.P.underlying src = some (.slice e)) (hdst : E.P.underlying dst = some .string) (he : E.P.underlying e = some (.int .i32)) {rs : List Int} {b x c : Nat}
    (hc : ∀ k, k < rs.length → w.cell? ⟨b, x + k, none⟩ = some (.int .i32 (rs.getD k 0))) :
    (convert src dst (.slice (some ⟨b, x, none⟩) rs.length c)).run E.P w = .ok (.string (runesBytes rs)) w := by
  have h := run_convert_runes (P := E.P) w src dst e ⟨b, x, none⟩ rs.length c rs (Nat.le_refl _) hsrc he hdst (fun j hj => by rw [add_mk]; exact hc j hj)
  rwa [List.take_length] at h
theorem r2s_str (rs : List Int) {β : Loc} : Rep w ok β (.string (runesBytes rs)) (.str (rs.flatMap fun r => (Utf8.encode r).data.toList)) :=
  str_mk _ _ (by unfold runesBytes; rw [runesBytes_list]; rfl)

theorem r2s_lv {src dst e : TypeId} (hsrc : E.P.underlying src = some (.slice e)) (hdst : E.P.underlying dst = some .string) (he : E.P.underlying e = some (.int .i32)) {v : Value} {d : DV}
    (hs : SRep E C a w ok β st) (h : Rep w ok β v d) (hk : convD .r2s d K st) : LV E C a K (convert src dst v) w := by
  have hnil : ∀ n c, (convert src dst (.slice none n c)).run E.P w = .ok (.string .empty) w := fun n c => run_convert_runes_nil (P := E.P) w src dst e n c hsrc he hdst
  cases h with
  | sl A n c sz es b x vs hn hnc hsz hes hA hc h1 hh =>
    unfold convD at hk
    split at hk <;> first | exact hk.elim | skip
    all_goals rename_i h1 h2 <;> first | (cases h1; done) | skip
    all_goals first | (cases h2; done) | skip
    obtain ⟨rs, rfl, hk⟩ := hk
    cases h2
    have hlen : n = rs.length := by simpa using hn
    subst hlen
    by_cases h0 : rs.length = 0
    · obtain rfl : rs = [] := List.eq_nil_of_length_eq_zero h0
      cases A with
      | none => exact LV.same (hnil _ _) hs (str_mk _ _ rfl) hk
      | some A =>
        refine LV.same (v := .string (runesBytes [])) ?_ hs (r2s_str []) hk
        exact run_convert_runes (P := E.P) w src dst e A 0 c [] (Nat.le_refl _) hsrc he hdst (fun j hj => by simp at hj)
    · obtain ⟨hA1, _⟩ := hA (by omega)
      subst hA1
      exact LV.same (r2s_run hsrc hdst he (runes_of (ok := ok) rs (vs := vs) (fun k hk => hc k (by omega)) (fun k d hd => hh k d (by rw [ones_flat]; exact hd)))) hs (r2s_str rs) hk
  | nils sz => exact LV.same (hnil 0 0) hs (str_mk _ _ rfl) hk
  | oslnil sz l off cap hcap hz =>
    unfold convD at hk
    split at hk <;> first | exact hk.elim | skip
    all_goals rename_i h1 h2 <;> first | (cases h1; done) | skip
    all_goals first | (cases h2; done) | skip
    cases h2
    rcases hk with ⟨_, hk⟩ | ⟨es, hl, ho, rs, hrs, hk⟩
    · exact LV.same (hnil 0 0) hs (str_mk _ _ rfl) hk
    have h0 : rs = [] := by
      have := congrArg List.length hrs
      simp at this
      exact List.eq_nil_of_length_eq_zero this.symm
    subst h0
    exact LV.same (hnil 0 0) hs (str_mk _ _ rfl) hk
  | osl sz l off n c b x y ty m hb hnc hsz hy hm hr cap hcap =>
    unfold convD at hk
    split at hk <;> first | exact hk.elim | skip
    all_goals rename_i h1 h2 <;> first | (cases h1; done) | skip
    all_goals first | (cases h2; done) | skip
    cases h2
    rcases hk with ⟨rfl, hk⟩ | ⟨es, hl, ho, rs, hrs, hk⟩
    · refine LV.same (v := .string (runesBytes [])) ?_ hs (r2s_str []) hk
      exact run_convert_runes (P := E.P) w src dst e _ 0 c [] (Nat.le_refl _) hsrc he hdst (fun j hj => by simp at hj)
    have hlen : n = rs.length := by
      have := congrArg List.length hrs
      simp at this
      omega
    refine LV.same (v := .string (runesBytes rs)) ?_ hs (r2s_str rs) hk
    by_cases h0 : n = 0
    · subst h0
      obtain rfl : rs = [] := List.eq_nil_of_length_eq_zero hlen.symm
      exact run_convert_runes (P := E.P) w src dst e _ 0 c [] (Nat.le_refl _) hsrc he hdst (fun j hj => by simp at hj)
    · obtain ⟨cs, e1, e2, e3⟩ := osl_cells hs hb hl (by omega) ho hsz (hy (by omega))
      subst hlen
      refine r2s_run hsrc hdst he (runes_of (ok := ok) rs (vs := fun k => cs.getD k undef) (fun k hk => ?_) (fun k d hd => ?_))
      · have hk' : k < cs.length := by omega
        exact e2 k _ (by rw [List.getD_eq_getElem?_getD, List.getElem?_eq_getElem hk']; rfl)
      · have hk : k < rs.length := by
          rcases Nat.lt_or_ge k rs.length with hlt | hge
          · exact hlt
          · rw [List.getElem?_eq_none (by simpa using hge)] at hd; cases hd
        have hk' : k < cs.length := by omega
        exact (e3 k _ d (by rw [List.getD_eq_getElem?_getD, List.getElem?_eq_getElem hk']; rfl) (by rw [hrs, ones_flat]; exact hd)).2
  | _ => exact hk.elim

theorem replicate_flat_get (z : List DV) : ∀ (n k : Nat) (d : DV), (List.replicate n z).flatten[k]? = some d → z[k % z.length]? = some d
  | 0, k, d, h => by simp at h
  | n + 1, k, d, h => by
    rw [List.replicate_succ, List.flatten_cons] at h
    rcases Nat.lt_or_ge k z.length with hlt | hge
    · rw [List.getElem?_append_left hlt] at h
      rwa [Nat.mod_eq_of_lt hlt]
    · rw [List.getElem?_append_right hge] at h
      have := replicate_flat_get z n (k - z.length) d h
      rw [Nat.mod_eq_sub_mod hge]
      exact this

/-- A new row with room. -/
theorem mkslice_lv {t el : TypeId} {i : TypeInfo} {z : Value} {zs : List DV} (hu : E.P.underlying t = some (.slice el)) (hi : E.P.info? el = some i) (hz : i.zero = some z) (hzs : z.cells.size = i.size) (hpos : 0 < i.size)
    (hzl : z.cells.size = zs.length) (hz1 : z.cells.all (·.oneCell') = true) (hzr : ∀ (w : World) ok β (k : Nat) v d, z.cells[k]? = some v → zs[k]? = some d → Rep w ok β v d) {v u : Value} {x y : AX}
    (hs : SRep E C a w ok β st) (hv : Rep w ok β v (x.ev st.fr)) (hu2 : Rep w ok β u (y.ev st.fr)) (hk : aop E (.mkslice i.size i.bytes zs x y) K st) : LV E C a K (makeSlice t v u) w := by
  simp only [aop] at hk
  generalize x.ev st.fr = d at hv hk
  generalize y.ev st.fr = e at hu2 hk
  split at hk
  · rename_i n m
    obtain ⟨h0, h1, h2, h3, hk⟩ := hk
    cases hv; cases hu2
    have hN : n = (n.toNat : Int) := by omega
    have hM : m = (m.toNat : Int) := by omega
    generalize hn' : n.toNat = n' at *
    generalize hm' : m.toNat = m' at *
    subst hN; subst hM
    have wn : IntKind.i64.wrap (n' : Int) = n' := by simp [IntKind.wrap, IntKind.bits, IntKind.signed]; omega
    have wm : IntKind.i64.wrap (m' : Int) = m' := by simp [IntKind.wrap, IntKind.bits, IntKind.signed]; omega
    have hmz : m' * i.size = 0 ↔ m' = 0 := by
      constructor
      · intro h
        rcases Nat.mul_eq_zero.1 h with h | h
        · exact h
        · omega
      · intro h; rw [h, Nat.zero_mul]
    let zc : Array Value := if m' * i.size = 0 then #[] else z.cells
    let cells : Array Value := (Array.range (m' * i.size)).map (zc[· % zc.size]!)
    have hget : ∀ k v, cells[k]? = some v → z.cells[k % i.size]? = some v := fun k v h => by
      have hk : k < m' * i.size := by
        rcases Nat.lt_or_ge k (m' * i.size) with h1 | h1
        · exact h1
        · rw [Array.getElem?_eq_none (by simpa [cells] using h1)] at h; cases h
      have hne : ¬ m' * i.size = 0 := by omega
      have hlt : k % i.size < z.cells.size := by rw [hzs]; exact Nat.mod_lt _ hpos
      simp only [cells, zc, if_neg hne] at h
      simp [hk, hzs] at h
      rw [getElem!_pos z.cells _ hlt] at h
      rw [Array.getElem?_eq_getElem hlt, h]
    have hsz : cells.size = m' * i.size := by simp [cells]
    obtain ⟨β', n1, n2, n3, n4⟩ := hs.newarr el cells i.size (List.replicate m' zs) (fun e he => by rw [List.eq_of_mem_replicate he]; omega) hpos (by rw [hsz, List.length_replicate]; exact Nat.le_refl _) (fun k v d hv hd => by
      have h1 := hget k v hv
      have h2 := replicate_flat_get zs m' k d hd
      rw [← hzl, hzs] at h2
      refine ⟨?_, hzr _ _ _ _ v d h1 h2⟩
      rw [Array.all_eq_true'] at hz1
      exact hz1 v (Array.mem_of_getElem? h1))
    refine ⟨_, _, ok, β', _, _, ?_, n1, n4 n' m' (some m') (by omega) (by rw [hsz]; exact Nat.le_refl _) (fun _ h => by cases h; rfl), hk⟩
    have hroom : ¬ m' * i.bytes > roomBytes := by
      have : roomBytes = 140737488355328 := rfl
      have h2' : ((m' * i.bytes : Nat) : Int) ≤ 1099511627776 := by rw [Int.natCast_mul]; exact h2
      omega
    have hbig : ¬ (i.bytes : Int) * m' > 2 ^ 48 := by
      rw [Int.mul_comm]
      omega
    have hbig' : ¬ (281474976710656 : Int) < (i.bytes : Int) * m' := by
      rw [Int.mul_comm]; omega
    have hneg : ¬ (m' : Int) < 0 := by omega
    have hneg2 : ¬ (n' : Int) < 0 := by omega
    have hle : ¬ (n' : Int) > m' := by omega
    have hle' : n' ≤ m' := by omega
    have hle2 : ¬ m' < n' := by omega
    have hbB : ((m' : Int) < 0 || decide ((i.bytes : Int) * m' > 2 ^ 48)) = false := by simp [hbig']
    simp only [makeSlice, Sem.run_bind, run_underlying hu, Result.andThen_ok, asInt, asIntOf, Sem.run_pure, typeInfo, run_program, hi]
    rw [wm, wn]
    simp [hbig', hle2, askRoom, hroom, sizeOf, typeInfo, hi, zeroValue, hz, newRow]
    rw [if_neg (by omega)]
    by_cases hm0 : m' * i.size = 0
    · rw [if_pos hm0]
      have e1 : cells = Array.map (fun x => (default : Value)) (Array.range (m' * i.size)) := by
        apply Array.ext
        · simp [cells]
        · intro k h1 h2
          rw [hsz] at h1; omega
      rw [← e1]
    · rw [if_neg hm0]
      have e1 : cells = Array.map (fun x => z.cells[x % z.cells.size]!) (Array.range (m' * i.size)) := by
        simp only [cells, zc, if_neg hm0]
      rw [← e1]
  · exact hk.elim

theorem cap_lv {T : Array TypeId} {t ty el : TypeId} {x : Value} {y : AX} (h0 : T[0]? = some t) (hu : E.P.underlying t = some (.slice el)) (hs : SRep E C a w ok β st) (hv : Rep w ok β x (y.ev st.fr)) (hk : aop E (.cap y) K st) :
    LV E C a K (Builtin.cap_ T ty #[x]) w := by
  simp only [aop] at hk
  generalize y.ev st.fr = d at hv hk
  have hrun : ∀ A n c, (Builtin.cap_ T ty #[.slice A n c]).run E.P w = .ok (.int .i64 c) w := fun A n c => by
    simp [Builtin.cap_, h0, run_underlying hu, goInt]
  split at hk
  · rename_i sz l off n c
    cases hv with
    | oslnil _ _ _ _ hcap hz => have := hcap _ rfl; subst this; exact LV.same (hrun _ _ _) hs (.int _ _) hk
    | osl _ _ _ _ c' _ _ _ _ _ _ _ _ _ _ _ _ hcap => have := hcap _ rfl; subst this; exact LV.same (hrun _ _ _) hs (.int _ _) hk
  · cases hv; exact LV.same (hrun _ _ _) hs (.int _ _) hk
  · exact hk.elim

theorem mmF_run (f : Int → Int → Int) (g : Value → Value → Sem Value) (hg : ∀ k x k' y, g (.int k x) (.int k' y) = pure (.int k (f x y))) {Kd : DV → Prop} :
    ∀ (vs : List Value) (ds : List DV) (v : Value) (d : DV), vs.length = ds.length → (∀ (i : Nat) v d, vs[i]? = some v → ds[i]? = some d → Rep w ok β v d) → Rep w ok β v d → mmF f Kd d ds →
      ∃ u e, (vs.foldlM g v).run E.P w = .ok u w ∧ Rep w ok β u e ∧ Kd e
  | [], [], v, d, _, _, hv, hk => ⟨v, d, rfl, hv, hk⟩
  | [], _ :: _, _, _, h, _, _, _ => by simp at h
  | _ :: _, [], _, _, h, _, _, _ => by simp at h
  | v' :: vs, d' :: ds, v, d, hl, hr, hv, hk => by
    have h1 := hr 0 v' d' rfl rfl
    cases d with
    | int k x =>
      cases d' with
      | int k' y =>
        cases hv; cases h1
        rw [List.foldlM_cons, hg]
        simp only [Sem.run_bind, Sem.run_pure, Result.andThen_ok]
        exact mmF_run f g hg vs ds _ _ (by simpa using hl) (fun i v d h1 h2 => hr (i + 1) v d (by simpa using h1) (by simpa using h2)) (.int _ _) hk
      | _ => simp [mmF] at hk
    | _ => simp [mmF] at hk

theorem mx_lv {T : Array TypeId} {ty : TypeId} {vs : List Value} {ds : List DV} (hs : SRep E C a w ok β st) (hl : vs.length = ds.length) (hr : ∀ (i : Nat) v d, vs[i]? = some v → ds[i]? = some d → Rep w ok β v d)
    (hk : mm (fun x y => if y > x then y else x) ds fun d => K d st) : LV E C a K (Builtin.max_ T ty vs.toArray) w := by
  unfold mm at hk
  split at hk
  · rename_i k x ds
    cases vs with
    | nil => simp at hl
    | cons v vs =>
      obtain ⟨u, e, h1, h2, h3⟩ := mmF_run (E := E) (fun x y => if y > x then y else x) Builtin.max2 (fun k x k' y => rfl) vs ds v (.int k x) (by simpa using hl) (fun i v d h1 h2 => hr (i + 1) v d (by simpa using h1) (by simpa using h2)) (hr 0 _ _ rfl rfl) hk
      exact LV.same (by simpa [Builtin.max_] using h1) hs h2 h3
  · exact hk.elim
theorem mn_lv {T : Array TypeId} {ty : TypeId} {vs : List Value} {ds : List DV} (hs : SRep E C a w ok β st) (hl : vs.length = ds.length) (hr : ∀ (i : Nat) v d, vs[i]? = some v → ds[i]? = some d → Rep w ok β v d)
    (hk : mm (fun x y => if y < x then y else x) ds fun d => K d st) : LV E C a K (Builtin.min_ T ty vs.toArray) w := by
  unfold mm at hk
  split at hk
  · rename_i k x ds
    cases vs with
    | nil => simp at hl
    | cons v vs =>
      obtain ⟨u, e, h1, h2, h3⟩ := mmF_run (E := E) (fun x y => if y < x then y else x) Builtin.min2 (fun k x k' y => rfl) vs ds v (.int k x) (by simpa using hl) (fun i v d h1 h2 => hr (i + 1) v d (by simpa using h1) (by simpa using h2)) (hr 0 _ _ rfl rfl) hk
      exact LV.same (by simpa [Builtin.min_] using h1) hs h2 h3
  · exact hk.elim
/-- So many zeros behind nothing. -/
theorem appendz_lv {T : Array TypeId} {t0 t1 el ty : TypeId} {td1 : TypeDesc} {i : TypeInfo} {z : Value} {zs : List DV} (h0 : T[0]? = some t0) (hu0 : E.P.underlying t0 = some (.slice el)) (h1 : T[1]? = some t1) (hu1 : E.P.underlying t1 = some td1)
    (hn1 : isInt td1 = true) (hi : E.P.info? el = some i) (hz0 : i.zero = some z) (hzs : z.cells.size = i.size) (hpos : 0 < i.size)
    (hzl : z.cells.size = zs.length) (hz1 : z.cells.all (·.oneCell') = true) (hzr : ∀ (w : World) ok β (k : Nat) v d, z.cells[k]? = some v → zs[k]? = some d → Rep w ok β v d) {v u : Value} {x y : AX}
    (hs : SRep E C a w ok β st) (hv : Rep w ok β v (x.ev st.fr)) (hu2 : Rep w ok β u (y.ev st.fr)) (hk : aop E (.appendz i.size i.bytes zs x y) K st) : LV E C a K (Builtin.append_ T ty #[v, u]) w := by
  simp only [aop] at hk
  generalize x.ev st.fr = d at hv hk
  generalize y.ev st.fr = e at hu2 hk
  split at hk
  · rename_i kk m
    obtain ⟨p0, p1, p2, hk⟩ := hk
    cases hv; cases hu2
    have hM : m = (m.toNat : Int) := by omega
    generalize hm' : m.toNat = m' at *
    subst hM
    have wm : IntKind.i64.wrap (m' : Int) = m' := by simp [IntKind.wrap, IntKind.bits, IntKind.signed]; omega
    have hbytes : m' * i.bytes ≤ 1099511627776 := by
      have : ((m' * i.bytes : Nat) : Int) ≤ 1099511627776 := by rw [Int.natCast_mul]; exact p1
      omega
    cases td1 <;> first | (simp [isInt] at hn1; done) | skip
    rename_i ik
    have hget : ∀ (n : Nat) k v, (Builtin.zeroCells z.cells n)[k]? = some v → z.cells[k % i.size]? = some v := fun n k v h => by
      have hk : k < n * z.cells.size := by
        rcases Nat.lt_or_ge k (n * z.cells.size) with h1 | h1
        · exact h1
        · rw [Array.getElem?_eq_none (by simpa [Builtin.zeroCells] using h1)] at h; cases h
      have hlt : k % i.size < z.cells.size := by rw [hzs]; exact Nat.mod_lt _ hpos
      rw [hzs] at hk
      simp only [Builtin.zeroCells] at h
      simp [hk, hzs] at h
      rw [getElem!_pos z.cells _ hlt] at h
      rw [Array.getElem?_eq_getElem hlt, h]
    by_cases hm0 : m' = 0
    · subst hm0
      refine ⟨_, w, ok, β, _, _, ?_, hs.newnone _, .oslnil _ _ _ _ (fun _ h => by cases h) hpos, hk⟩
      simp only [Builtin.append_, h0, h1]
      have w0 : IntKind.i64.wrap 0 = 0 := by decide
      simp [run_underlying hu0, run_underlying hu1, sizeOf, typeInfo, hi, asInt, asIntOf, w0]
    · have hnb := next_bound (need := m') (cap := 0) (by omega) hbytes
      have hnb3 : ¬ 281474976710656 < Builtin.nextslicecap m' 0 * i.bytes := hnb
      let cap := (Question.appendCap m' 0 el).cut (w.tape w.drawn (.appendCap m' 0 el))
      have hcap : m' ≤ cap := by simp [cap, Question.cut]
      let cells := Builtin.zeroCells z.cells m' ++ Builtin.zeroCells z.cells (cap - m')
      have hsz : cells.size = cap * i.size := by
        simp only [cells, Array.size_append, zeroCells_size, hzs]
        rw [← Nat.add_mul]; congr 1; omega
      obtain ⟨β', n1, n2, n3, n4⟩ := (hs.drewN 1).newarr el cells i.size (List.replicate m' zs) (fun e he => by rw [List.eq_of_mem_replicate he]; omega) hpos (by rw [hsz, List.length_replicate]; exact Nat.mul_le_mul_right _ hcap) (fun k v d hv hd => by
        have hkl : k < m' * i.size := by
          have h3 : (List.replicate m' zs).flatten.length = m' * i.size := by rw [flatten_len (sz := i.size) (fun e he => by rw [List.eq_of_mem_replicate he]; omega), List.length_replicate]
          rcases Nat.lt_or_ge k (m' * i.size) with h4 | h4
          · exact h4
          · rw [List.getElem?_eq_none (by omega)] at hd; cases hd
        have hv' : (Builtin.zeroCells z.cells m')[k]? = some v := by
          simp only [cells] at hv
          rwa [Array.getElem?_append_left (by rw [zeroCells_size, hzs]; exact hkl)] at hv
        have h1 := hget m' k v hv'
        have h2 := replicate_flat_get zs m' k d hd
        rw [← hzl, hzs] at h2
        refine ⟨?_, hzr _ _ _ _ v d h1 h2⟩
        rw [Array.all_eq_true'] at hz1
        exact hz1 v (Array.mem_of_getElem? h1))
      refine ⟨_, _, ok, β', _, _, ?_, n1, n4 m' cap none hcap (by rw [hsz]; exact Nat.le_refl _) (fun _ h => by cases h), hk⟩
      have hb2 : ¬ (281474976710656 : Int) < (m' : Int) * i.bytes := by
        have : ((m' * i.bytes : Nat) : Int) = (m' : Int) * i.bytes := Int.natCast_mul _ _
        omega
      have hneg : ¬ (m' : Int) < 0 := by omega
      have hn0 : ¬ m' ≤ 0 := by omega
      have hmx : ¬ (9223372036854775807 : Int) < (m' : Int) := by omega
      have hms : ¬ m' * i.size = 0 := by
        intro h
        rcases Nat.mul_eq_zero.1 h with h | h <;> omega
      simp only [Builtin.append_, h0, h1]
      simp [run_underlying hu0, run_underlying hu1, sizeOf, typeInfo, hi, asInt, asIntOf, wm, hb2, hneg, hm0, hms, hmx, hnb3, hn0, zeroValue, hz0, newRow, Question.forced, Builtin.firstCells]
      exact ⟨rfl, rfl⟩
  · exact hk.elim
end
end Go.Ai
