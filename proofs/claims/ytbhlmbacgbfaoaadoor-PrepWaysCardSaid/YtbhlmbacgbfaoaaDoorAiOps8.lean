/- Operations, eighth part: a row of characters as text, a new row with room, its room, the least and the greatest. -/
import Derived.Test.YtbhlmbacgbfaoaaDoorAiOps7
import Derived.Laws.Cover4
set_option linter.all false
namespace Go.Ai
open Go.Instr
set_option linter.unusedSimpArgs false
section
variable {E : Env} {C : Ctx} {a : Act} {w : World} {ok : Nat → Prop} {β : Loc} {st : St} {K : DV → St → Prop}

theorem runes_of (rs : List Int) {x b : Nat} {vs : Nat → Value} (hc : ∀ k, k < rs.length → w.cell? ⟨b, x + k, none⟩ = some (vs k)) (hr : ∀ k d, (rs.map fun r => DV.int .i32 r)[k]? = some d → Rep w ok noLoc (vs k) d) :
    ∀ k, k < rs.length → w.cell? ⟨b, x + k, none⟩ = some (.int .i32 (rs.getD k 0)) := fun k hk => by
  have := hr k (.int .i32 rs[k]) (by simp [List.getElem?_eq_getElem hk])
  rw [hc k hk, this.int_inv, List.getD_eq_getElem?_getD, List.getElem?_eq_getElem hk]
  rfl

theorem ba_app (a b : ByteArray) : (a ++ b).data.toList = a.data.toList ++ b.data.toList := by simp [ByteArray.append_eq, ByteArray.append]
theorem runesBytes_list : ∀ (rs : List Int) (s : ByteArray), (rs.foldl (fun r n => r ++ Utf8.encode n) s).data.toList = s.data.toList ++ rs.flatMap fun r => (Utf8.encode r).data.toList
  | [], s => by simp
  | r :: rs, s => by
    rw [List.foldl_cons, runesBytes_list rs, ba_app, List.flatMap_cons, List.append_assoc]

theorem r2s_run {src dst e : TypeId} (hsrc : E.P.underlying src = some (.slice e)) (hdst : E.P.underlying dst = some .string) (he : E.P.underlying e = some (.int .i32)) {rs : List Int} {b x c : Nat}
    (hc : ∀ k, k < rs.length → w.cell? ⟨b, x + k, none⟩ = some (.int .i32 (rs.getD k 0))) :
    (convert src dst (.slice (some ⟨b, x, none⟩) rs.length c)).run E.P w = .ok (.string (runesBytes rs)) w := by
  have h := run_convert_runes (P := E.P) w src dst e ⟨b, x, none⟩ rs.length c rs (Nat.le_refl _) hsrc he hdst (fun j hj => by rw [add_mk]; exact hc j hj)
  rwa [List.take_length] at h
theorem r2s_str (rs : List Int) {β : Loc} : Rep w ok β (.string (runesBytes rs)) (.str (rs.flatMap fun r => (Utf8.encode r).data.toList)) :=
  str_mk _ _ (by unfold runesBytes; rw [runesBytes_list]; rfl)

theorem r2s_lv {src dst e : TypeId} (hsrc : E.P.underlying src = some (.slice e)) (hdst : E.P.underlying dst = some .string) (he : E.P.underlying e = some (.int .i32)) {v : Value} {d : DV}
    (hs : SRep E C a w ok β st) (h : Rep w ok β v d) (hk : convD .r2s d K st) : LV E C a K (convert src dst v) w := by
  have hnil : ∀ n c, (convert src dst (.slice none n c)).run E.P w = .ok (.string .empty) w := fun n c => run_convert_runes_nil (P := E.P) w src dst e n c hsrc he hdst
  cases h with
  | sl A n c sz es b x vs hn hnc hsz hes hA hc h1 hh =>
    unfold convD at hk
    split at hk <;> first | exact hk.elim | skip
    all_goals rename_i h1 h2 <;> first | (cases h1; done) | skip
    all_goals first | (cases h2; done) | skip
    obtain ⟨rs, rfl, hk⟩ := hk
    cases h2
    have hlen : n = rs.length := by simpa using hn
    subst hlen
    by_cases h0 : rs.length = 0
    · obtain rfl : rs = [] := List.eq_nil_of_length_eq_zero h0
      cases A with
      | none => exact LV.same (hnil _ _) hs (str_mk _ _ rfl) hk
      | some A =>
        refine LV.same (v := .string (runesBytes [])) ?_ hs (r2s_str []) hk
        exact run_convert_runes (P := E.P) w src dst e A 0 c [] (Nat.le_refl _) hsrc he hdst (fun j hj => by simp at hj)
    · obtain ⟨hA1, _⟩ := hA (by omega)
      subst hA1
      exact LV.same (r2s_run hsrc hdst he (runes_of (ok := ok) rs (vs := vs) (fun k hk => hc k (by omega)) (fun k d hd => hh k d (by rw [ones_flat]; exact hd)))) hs (r2s_str rs) hk
  | nils sz => exact LV.same (hnil 0 0) hs (str_mk _ _ rfl) hk
  | oslnil sz l off cap hcap hz =>
    unfold convD at hk
    split at hk <;> first | exact hk.elim | skip
    all_goals rename_i h1 h2 <;> first | (cases h1; done) | skip
    all_goals first | (cases h2; done) | skip
    cases h2
    rcases hk with ⟨_, hk⟩ | ⟨es, hl, ho, rs, hrs, hk⟩
    · exact LV.same (hnil 0 0) hs (str_mk _ _ rfl) hk
    have h0 : rs = [] := by
      have := congrArg List.length hrs
      simp at this
      exact List.eq_nil_of_length_eq_zero this.symm
    subst h0
    exact LV.same (hnil 0 0) hs (str_mk _ _ rfl) hk
  | osl sz l off n c b x y ty m hb hnc hsz hy hm hr cap hcap =>
    unfold convD at hk
    split at hk <;> first | exact hk.elim | skip
    all_goals rename_i h1 h2 <;> first | (cases h1; done) | skip
    all_goals first | (cases h2; done) | skip
    cases h2
    rcases hk with ⟨rfl, hk⟩ | ⟨es, hl, ho, rs, hrs, hk⟩
    · refine LV.same (v := .string (runesBytes [])) ?_ hs (r2s_str []) hk
      exact run_convert_runes (P := E.P) w src dst e _ 0 c [] (Nat.le_refl _) hsrc he hdst (fun j hj => by simp at hj)
    have hlen : n = rs.length := by
      have := congrArg List.length hrs
      simp at this
      omega
    refine LV.same (v := .string (runesBytes rs)) ?_ hs (r2s_str rs) hk
    by_cases h0 : n = 0
    · subst h0
      obtain rfl : rs = [] := List.eq_nil_of_length_eq_zero hlen.symm
      exact run_convert_runes (P := E.P) w src dst e _ 0 c [] (Nat.le_refl _) hsrc he hdst (fun j hj => by simp at hj)
    · obtain ⟨cs, e1, e2, e3⟩ := osl_cells hs hb hl (by omega) ho hsz (hy (by omega))
      subst hlen
      refine r2s_run hsrc hdst he (runes_of (ok := ok) rs (vs := fun k => cs.getD k undef) (fun k hk => ?_) (fun k d hd => ?_))
      · have hk' : k < cs.length := by omega
        exact e2 k _ (by rw [List.getD_eq_getElem?_getD, List.getElem?_eq_getElem hk']; rfl)
      · have hk : k < rs.length := by
          rcases Nat.lt_or_ge k rs.length with hlt | hge
          · exact hlt
          · rw [List.getElem?_eq_none (by simpa using hge)] at hd; cases hd
        have hk' : k < cs.length := by omega
        exact (e3 k _ d (by rw [List.getD_eq_getElem?_getD, List.getElem?_eq_getElem hk']; rfl) (by rw [hrs, ones_flat]; exact hd)).2
  | _ => exact hk.elim

theorem replicate_flat_get (z : List DV) : ∀ (n k : Nat) (d : DV), (List.replicate n z).flatten[k]? = some d → z[k % z.length]? = some d
  | 0, k, d, h => by simp at h
  | n + 1, k, d, h => by
    rw [List.replicate_succ, List.flatten_cons] at h
    rcases Nat.lt_or_ge k z.length with hlt | hge
    · rw [List.getElem?_append_left hlt] at h
      rwa [Nat.mod_eq_of_lt hlt]
    · rw [List.getElem?_append_right hge] at h
      have := replicate_flat_get z n (k - z.length) d h
      rw [Nat.mod_eq_sub_mod hge]
      exact this

/-- A new row with room. -/
theorem mkslice_lv {t el : TypeId} {i : TypeInfo} {z : Value} {zs : List DV} (hu : E.P.underlying t = some (.slice el)) (hi : E.P.info? el = some i) (hz : i.zero = some z) (hzs : z.cells.size = i.size) (hpos : 0 < i.size)
    (hzl : z.cells.size = zs.length) (hz1 : z.cells.all (·.oneCell') = true) (hzr : ∀ (w : World) ok β (k : Nat) v d, z.cells[k]? = some v → zs[k]? = some d → Rep w ok β v d) {v u : Value} {x y : AX}
    (hs : SRep E C a w ok β st) (hv : Rep w ok β v (x.ev st.fr)) (hu2 : Rep w ok β u (y.ev st.fr)) (hk : aop E (.mkslice i.size i.bytes zs x y) K st) : LV E C a K (makeSlice t v u) w := by
  simp only [aop] at hk
  generalize x.ev st.fr = d at hv hk
  generalize y.ev st.fr = e at hu2 hk
  split at hk
  · rename_i n m
    obtain ⟨h0, h1, h2, h3, hk⟩ := hk
    cases hv; cases hu2
    have hN : n = (n.toNat : Int) := by omega
    have hM : m = (m.toNat : Int) := by omega
    generalize hn' : n.toNat = n' at *
    generalize hm' : m.toNat = m' at *
    subst hN; subst hM
    have wn : IntKind.i64.wrap (n' : Int) = n' := by simp [IntKind.wrap, IntKind.bits, IntKind.signed]; omega
    have wm : IntKind.i64.wrap (m' : Int) = m' := by simp [IntKind.wrap, IntKind.bits, IntKind.signed]; omega
    have hmz : m' * i.size = 0 ↔ m' = 0 := by
      constructor
      · intro h
        rcases Nat.mul_eq_zero.1 h with h | h
        · exact h
        · omega
      · intro h; rw [h, Nat.zero_mul]
    let zc : Array Value := if m' * i.size = 0 then #[] else z.cells
    let cells : Array Value := (Array.range (m' * i.size)).map (zc[· % zc.size]!)
    have hget : ∀ k v, cells[k]? = some v → z.cells[k % i.size]? = some v := fun k v h => by
      have hk : k < m' * i.size := by
        rcases Nat.lt_or_ge k (m' * i.size) with h1 | h1
        · exact h1
        · rw [Array.getElem?_eq_none (by simpa [cells] using h1)] at h; cases h
      have hne : ¬ m' * i.size = 0 := by omega
      have hlt : k % i.size < z.cells.size := by rw [hzs]; exact Nat.mod_lt _ hpos
      simp only [cells, zc, if_neg hne] at h
      simp [hk, hzs] at h
      rw [getElem!_pos z.cells _ hlt] at h
      rw [Array.getElem?_eq_getElem hlt, h]
    have hsz : cells.size = m' * i.size := by simp [cells]
    obtain ⟨β', n1, n2, n3, n4⟩ := hs.newarr el cells i.size (List.replicate m' zs) (fun e he => by rw [List.eq_of_mem_replicate he]; omega) hpos (by rw [hsz, List.length_replicate]; exact Nat.le_refl _) (fun k v d hv hd => by
      have h1 := hget k v hv
      have h2 := replicate_flat_get zs m' k d hd
      rw [← hzl, hzs] at h2
      refine ⟨?_, hzr _ _ _ _ v d h1 h2⟩
      rw [Array.all_eq_true'] at hz1
      exact hz1 v (Array.mem_of_getElem? h1))
    refine ⟨_, _, ok, β', _, _, ?_, n1, n4 n' m' (some m') (by omega) (by rw [hsz]; exact Nat.le_refl _) (fun _ h => by cases h; rfl), hk⟩
    have hroom : ¬ m' * i.bytes > roomBytes := by
      have : roomBytes = 140737488355328 := rfl
      have h2' : ((m' * i.bytes : Nat) : Int) ≤ 1099511627776 := by rw [Int.natCast_mul]; exact h2
      omega
    have hbig : ¬ (i.bytes : Int) * m' > 2 ^ 48 := by
      rw [Int.mul_comm]
      omega
    have hbig' : ¬ (281474976710656 : Int) < (i.bytes : Int) * m' := by
      rw [Int.mul_comm]; omega
    have hneg : ¬ (m' : Int) < 0 := by omega
    have hneg2 : ¬ (n' : Int) < 0 := by omega
    have hle : ¬ (n' : Int) > m' := by omega
    have hle' : n' ≤ m' := by omega
    have hle2 : ¬ m' < n' := by omega
    have hbB : ((m' : Int) < 0 || decide ((i.bytes : Int) * m' > 2 ^ 48)) = false := by simp [hbig']
    simp only [makeSlice, Sem.run_bind, run_underlying hu, Result.andThen_ok, asInt, asIntOf, Sem.run_pure, typeInfo, run_program, hi]
    rw [wm, wn]
    simp [hbig', hle2, askRoom, hroom, sizeOf, typeInfo, hi, zeroValue, hz, newRow]
    rw [if_neg (by omega)]
    by_cases hm0 : m' * i.size = 0
    · rw [if_pos hm0]
      have e1 : cells = Array.map (fun x => (default : Value)) (Array.range (m' * i.size)) := by
        apply Array.ext
        · simp [cells]
        · intro k h1 h2
          rw [hsz] at h1; omega
      rw [← e1]
    · rw [if_neg hm0]
      have e1 : cells = Array.map (fun x => z.cells[x % z.cells.size]!) (Array.range (m' * i.size)) := by
        simp only [cells, zc, if_neg hm0]
      rw [← e1]
  · exact hk.elim

theorem cap_lv {T : Array TypeId} {t ty el : TypeId} {x : Value} {y : AX} (h0 : T[0]? = some t) (hu : E.P.underlying t = some (.slice el)) (hs : SRep E C a w ok β st) (hv : Rep w ok β x (y.ev st.fr)) (hk : aop E (.cap y) K st) :
    LV E C a K (Builtin.cap_ T ty #[x]) w := by
  simp only [aop] at hk
  generalize y.ev st.fr = d at hv hk
  have hrun : ∀ A n c, (Builtin.cap_ T ty #[.slice A n c]).run E.P w = .ok (.int .i64 c) w := fun A n c => by
    simp [Builtin.cap_, h0, run_underlying hu, goInt]
  split at hk
  · rename_i sz l off n c
    cases hv with
    | oslnil _ _ _ _ hcap hz => have := hcap _ rfl; subst this; exact LV.same (hrun _ _ _) hs (.int _ _) hk
    | osl _ _ _ _ c' _ _ _ _ _ _ _ _ _ _ _ _ hcap => have := hcap _ rfl; subst this; exact LV.same (hrun _ _ _) hs (.int _ _) hk
  · cases hv; exact LV.same (hrun _ _ _) hs (.int _ _) hk
  · exact hk.elim

theorem mmF_run (f : Int → Int → Int) (g : Value → Value → Sem Value) (hg : ∀ k x k' y, g (.int k x) (.int k' y) = pure (.int k (f x y))) {Kd : DV → Prop} :
    ∀ (vs : List Value) (ds : List DV) (v : Value) (d : DV), vs.length = ds.length → (∀ (i : Nat) v d, vs[i]? = some v → ds[i]? = some d → Rep w ok β v d) → Rep w ok β v d → mmF f Kd d ds →
      ∃ u e, (vs.foldlM g v).run E.P w = .ok u w ∧ Rep w ok β u e ∧ Kd e
  | [], [], v, d, _, _, hv, hk => ⟨v, d, rfl, hv, hk⟩
  | [], _ :: _, _, _, h, _, _, _ => by simp at h
  | _ :: _, [], _, _, h, _, _, _ => by simp at h
  | v' :: vs, d' :: ds, v, d, hl, hr, hv, hk => by
    have h1 := hr 0 v' d' rfl rfl
    cases d with
    | int k x =>
      cases d' with
      | int k' y =>
        cases hv; cases h1
        rw [List.foldlM_cons, hg]
        simp only [Sem.run_bind, Sem.run_pure, Result.andThen_ok]
        exact mmF_run f g hg vs ds _ _ (by simpa using hl) (fun i v d h1 h2 => hr (i + 1) v d (by simpa using h1) (by simpa using h2)) (.int _ _) hk
      | _ => simp [mmF] at hk
    | _ => simp [mmF] at hk

theorem mx_lv {T : Array TypeId} {ty : TypeId} {vs : List Value} {ds : List DV} (hs : SRep E C a w ok β st) (hl : vs.length = ds.length) (hr : ∀ (i : Nat) v d, vs[i]? = some v → ds[i]? = some d → Rep w ok β v d)
    (hk : mm (fun x y => if y > x then y else x) ds fun d => K d st) : LV E C a K (Builtin.max_ T ty vs.toArray) w := by
  unfold mm at hk
  split at hk
  · rename_i k x ds
    cases vs with
    | nil => simp at hl
    | cons v vs =>
      obtain ⟨u, e, h1, h2, h3⟩ := mmF_run (E := E) (fun x y => if y > x then y else x) Builtin.max2 (fun k x k' y => rfl) vs ds v (.int k x) (by simpa using hl) (fun i v d h1 h2 => hr (i + 1) v d (by simpa using h1) (by simpa using h2)) (hr 0 _ _ rfl rfl) hk
      exact LV.same (by simpa [Builtin.max_] using h1) hs h2 h3
  · exact hk.elim
theorem mn_lv {T : Array TypeId} {ty : TypeId} {vs : List Value} {ds : List DV} (hs : SRep E C a w ok β st) (hl : vs.length = ds.length) (hr : ∀ (i : Nat) v d, vs[i]? = some v → ds[i]? = some d → Rep w ok β v d)
    (hk : mm (fun x y => if y < x then y else x) ds fun d => K d st) : LV E C a K (Builtin.min_ T ty vs.toArray) w := by
  unfold mm at hk
  split at hk
  · rename_i k x ds
    cases vs with
    | nil => simp at hl
    | cons v vs =>
      obtain ⟨u, e, h1, h2, h3⟩ := mmF_run (E := E) (fun x y => if y < x then y else x) Builtin.min2 (fun k x k' y => rfl) vs ds v (.int k x) (by simpa using hl) (fun i v d h1 h2 => hr (i + 1) v d (by simpa using h1) (by simpa using h2)) (hr 0 _ _ rfl rfl) hk
      exact LV.same (by simpa [Builtin.min_] using h1) hs h2 h3
  · exact hk.elim
/-- So many zeros behind nothing. -/
theorem appendz_lv {T : Array TypeId} {t0 t1 el ty : TypeId} {td1 : TypeDesc} {i : TypeInfo} {z : Value} {zs : List DV} (h0 : T[0]? = some t0) (hu0 : E.P.underlying t0 = some (.slice el)) (h1 : T[1]? = some t1) (hu1 : E.P.underlying t1 = some td1)
    (hn1 : isInt td1 = true) (hi : E.P.info? el = some i) (hz0 : i.zero = some z) (hzs : z.cells.size = i.size) (hpos : 0 < i.size)
    (hzl : z.cells.size = zs.length) (hz1 : z.cells.all (·.oneCell') = true) (hzr : ∀ (w : World) ok β (k : Nat) v d, z.cells[k]? = some v → zs[k]? = some d → Rep w ok β v d) {v u : Value} {x y : AX}
    (hs : SRep E C a w ok β st) (hv : Rep w ok β v (x.ev st.fr)) (hu2 : Rep w ok β u (y.ev st.fr)) (hk : aop E (.appendz i.size i.bytes zs x y) K st) : LV E C a K (Builtin.append_ T ty #[v, u]) w := by
  simp only [aop] at hk
  generalize x.ev st.fr = d at hv hk
  generalize y.ev st.fr = e at hu2 hk
  split at hk
  · rename_i kk m
    obtain ⟨p0, p1, p2, hk⟩ := hk
    cases hv; cases hu2
    have hM : m = (m.toNat : Int) := by omega
    generalize hm' : m.toNat = m' at *
    subst hM
    have wm : IntKind.i64.wrap (m' : Int) = m' := by simp [IntKind.wrap, IntKind.bits, IntKind.signed]; omega
    have hbytes : m' * i.bytes ≤ 1099511627776 := by
      have : ((m' * i.bytes : Nat) : Int) ≤ 1099511627776 := by rw [Int.natCast_mul]; exact p1
      omega
    cases td1 <;> first | (simp [isInt] at hn1; done) | skip
    rename_i ik
    have hget : ∀ (n : Nat) k v, (Builtin.zeroCells z.cells n)[k]? = some v → z.cells[k % i.size]? = some v := fun n k v h => by
      have hk : k < n * z.cells.size := by
        rcases Nat.lt_or_ge k (n * z.cells.size) with h1 | h1
        · exact h1
        · rw [Array.getElem?_eq_none (by simpa [Builtin.zeroCells] using h1)] at h; cases h
      have hlt : k % i.size < z.cells.size := by rw [hzs]; exact Nat.mod_lt _ hpos
      rw [hzs] at hk
      simp only [Builtin.zeroCells] at h
      simp [hk, hzs] at h
      rw [getElem!_pos z.cells _ hlt] at h
      rw [Array.getElem?_eq_getElem hlt, h]
    by_cases hm0 : m' = 0
    · subst hm0
      refine ⟨_, w, ok, β, _, _, ?_, hs.newnone _, .oslnil _ _ _ _ (fun _ h => by cases h) hpos, hk⟩
      simp only [Builtin.append_, h0, h1]
      have w0 : IntKind.i64.wrap 0 = 0 := by decide
      simp [run_underlying hu0, run_underlying hu1, sizeOf, typeInfo, hi, asInt, asIntOf, w0]
    · have hnb := next_bound (need := m') (cap := 0) (by omega) hbytes
      have hnb3 : ¬ 281474976710656 < Builtin.nextslicecap m' 0 * i.bytes := hnb
      let cap := (Question.appendCap m' 0 el).cut (w.tape w.drawn (.appendCap m' 0 el))
      have hcap : m' ≤ cap := by simp [cap, Question.cut]
      let cells := Builtin.zeroCells z.cells m' ++ Builtin.zeroCells z.cells (cap - m')
      have hsz : cells.size = cap * i.size := by
        simp only [cells, Array.size_append, zeroCells_size, hzs]
        rw [← Nat.add_mul]; congr 1; omega
      obtain ⟨β', n1, n2, n3, n4⟩ := (hs.drewN 1).newarr el cells i.size (List.replicate m' zs) (fun e he => by rw [List.eq_of_mem_replicate he]; omega) hpos (by rw [hsz, List.length_replicate]; exact Nat.mul_le_mul_right _ hcap) (fun k v d hv hd => by
        have hkl : k < m' * i.size := by
          have h3 : (List.replicate m' zs).flatten.length = m' * i.size := by rw [flatten_len (sz := i.size) (fun e he => by rw [List.eq_of_mem_replicate he]; omega), List.length_replicate]
          rcases Nat.lt_or_ge k (m' * i.size) with h4 | h4
          · exact h4
          · rw [List.getElem?_eq_none (by omega)] at hd; cases hd
        have hv' : (Builtin.zeroCells z.cells m')[k]? = some v := by
          simp only [cells] at hv
          rwa [Array.getElem?_append_left (by rw [zeroCells_size, hzs]; exact hkl)] at hv
        have h1 := hget m' k v hv'
        have h2 := replicate_flat_get zs m' k d hd
        rw [← hzl, hzs] at h2
        refine ⟨?_, hzr _ _ _ _ v d h1 h2⟩
        rw [Array.all_eq_true'] at hz1
        exact hz1 v (Array.mem_of_getElem? h1))
      refine ⟨_, _, ok, β', _, _, ?_, n1, n4 m' cap none hcap (by rw [hsz]; exact Nat.le_refl _) (fun _ h => by cases h), hk⟩
      have hb2 : ¬ (281474976710656 : Int) < (m' : Int) * i.bytes := by
        have : ((m' * i.bytes : Nat) : Int) = (m' : Int) * i.bytes := Int.natCast_mul _ _
        omega
      have hneg : ¬ (m' : Int) < 0 := by omega
      have hn0 : ¬ m' ≤ 0 := by omega
      have hmx : ¬ (9223372036854775807 : Int) < (m' : Int) := by omega
      have hms : ¬ m' * i.size = 0 := by
        intro h
        rcases Nat.mul_eq_zero.1 h with h | h <;> omega
      simp only [Builtin.append_, h0, h1]
      simp [run_underlying hu0, run_underlying hu1, sizeOf, typeInfo, hi, asInt, asIntOf, wm, hb2, hneg, hm0, hms, hmx, hnb3, hn0, zeroValue, hz0, newRow, Question.forced, Builtin.firstCells]
      exact ⟨rfl, rfl⟩
  · exact hk.elim
end
end Go.Ai
