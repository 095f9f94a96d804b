/- Operations, second part: numbers, texts, parts of values, places in rows. -/
import Derived.Test.YtbhlmbacgbfaoaaDoorAiOps
import Derived.Laws.Strings
import Derived.Laws.StructEq
set_option linter.all false
namespace Go.Ai
open Go.Instr
section
variable {E : Env} {C : Ctx} {a : Act} {w : World} {ok : Nat → Prop} {β : Loc} {st : St} {K : DV → St → Prop}

theorem eqGuard_int (op : BinOp) (t : TypeId) (x y : Operand) (k k' : IntKind) (m n : Int) (P : Program) (w : World) : (eqGuard op t x y (.int k m) (.int k' n)).run P w = .ok () w := by
  unfold eqGuard; split <;> rfl
theorem eqGuard_str (op : BinOp) (t : TypeId) (x y : Operand) (m n : ByteArray) (P : Program) (w : World) : (eqGuard op t x y (.string m) (.string n)).run P w = .ok () w := by
  unfold eqGuard; split <;> rfl
theorem eqGuard_bool (op : BinOp) (t : TypeId) (x y : Operand) (m n : Bool) (P : Program) (w : World) : (eqGuard op t x y (.bool m) (.bool n)).run P w = .ok () w := by
  unfold eqGuard; split <;> rfl

theorem str_mk (s : ByteArray) (l : List UInt8) (h : s.data.toList = l) {β : Loc} : Rep w ok β (.string s) (.str l) := by subst h; exact .str s

theorem beqd (s s' : ByteArray) : (s.data == s'.data) = decide (s.data = s'.data) := by rw [Bool.eq_iff_iff]; simp

theorem equalIn_bool {P : Program} {t : TypeId} (d : Nat) (hu : P.underlying t = some .bool) (m n : Bool) (w : World) : (Op.equalIn (d + 1) t (.bool m) (.bool n)).run P w = .ok (m == n) w := by
  simp only [Op.equalIn, Sem.run_bind, run_underlying hu, Result.andThen_ok]
  rfl

/-- What a type of plain parts says of its fields. -/
def FKt (P : Program) (t : TypeId) : FK → Prop
  | .int => ∃ k, P.underlying t = some (.int k)
  | .str => P.underlying t = some .string
  | .bool => P.underlying t = some .bool
structure FlatT (P : Program) (t : TypeId) (ks : List FK) : Prop where
  st : P.stoodInHeld t = false
  eg : P.eqGuardType P.depth t = false
  un : P.underlying t = some (.struct (P.fieldsOf t))
  fs : ∀ (j : Nat) f, (P.fieldsOf t).toList[j]? = some f → ∃ k, ks[j]? = some k ∧ (f.name ≠ "_") ∧ f.offset = 0 + j ∧ FKt P f.type k
  len : (P.fieldsOf t).toList.length = ks.length
theorem Rep.int_in {v : Value} {k : IntKind} {n : Int} (h : Rep w ok β v (.int k n)) : v = .int k n := by cases h; rfl
theorem Rep.bool_in {v : Value} {b : Bool} (h : Rep w ok β v (.bool b)) : v = .bool b := by cases h; rfl
theorem Rep.str_in {v : Value} {l : List UInt8} (h : Rep w ok β v (.str l)) : ∃ s : ByteArray, v = .string s ∧ s.data.toList = l := by cases h; exact ⟨_, rfl, rfl⟩
theorem eqF_run {P : Program} {d : Nat} {ds ds' : List DV} {vs vs' : List Value} (hl : vs.length = ds.length) (hl' : vs'.length = ds'.length)
    (h : ∀ (i : Nat) v d, vs[i]? = some v → ds[i]? = some d → Rep w ok β v d) (h' : ∀ (i : Nat) v d, vs'[i]? = some v → ds'[i]? = some d → Rep w ok β v d) : ∀ (fs : List Field) (ks : List FK) (i : Nat) (es es' : List DV) (b : Bool),
    ds.drop i = es → ds'.drop i = es' → fs.length = ks.length → eqL ks es es' = some b →
    (∀ (j : Nat) f, fs[j]? = some f → ∃ k, ks[j]? = some k ∧ (f.name ≠ "_") ∧ f.offset = i + j ∧ FKt P f.type k) →
    (Op.eqFields (d + 1) vs.toArray vs'.toArray fs).run P w = .ok b w
  | [], ks, i, es, es', b, h1, h2, hlen, hb, _ => by
    have : ks = [] := List.length_eq_zero_iff.1 hlen.symm
    subst this
    cases es <;> cases es' <;> simp only [eqL, Option.some.injEq] at hb <;> first | (subst hb; rfl) | (cases hb; done)
  | f :: fs, ks, i, es, es', b, h1, h2, hlen, hb, hf => by
    obtain ⟨k, hk, hn, ho, ht⟩ := hf 0 f rfl
    cases ks with
    | nil => simp at hlen
    | cons k0 ks =>
    simp only [List.getElem?_cons_zero, Option.some.injEq] at hk
    subst hk
    cases es with
    | nil => cases k0 <;> simp [eqL] at hb
    | cons e es =>
      cases es' with
      | nil => cases k0 <;> cases e <;> simp [eqL] at hb
      | cons e' es' =>
        have g1 : ds[i]? = some e := by have := congrArg (·[0]?) h1; simpa using this
        have g2 : ds'[i]? = some e' := by have := congrArg (·[0]?) h2; simpa using this
        have n1 : ds.drop (i + 1) = es := by rw [← List.drop_drop, h1]; rfl
        have n2 : ds'.drop (i + 1) = es' := by rw [← List.drop_drop, h2]; rfl
        have l1 : i < vs.length := by rw [hl]; exact (List.getElem?_eq_some_iff.1 g1).1
        have l2 : i < vs'.length := by rw [hl']; exact (List.getElem?_eq_some_iff.1 g2).1
        have k1 : vs[i]? = some vs[i] := List.getElem?_eq_getElem l1
        have k2 : vs'[i]? = some vs'[i] := List.getElem?_eq_getElem l2
        have r1 := h i _ _ k1 g1
        have r2 := h' i _ _ k2 g2
        have ho' : f.offset = i := by simpa using ho
        have hrest : ∀ (b' : Bool), eqL ks es es' = some b' → (Op.eqFields (d + 1) vs.toArray vs'.toArray fs).run P w = .ok b' w := fun b' hb' =>
          eqF_run hl hl' h h' fs ks (i + 1) es es' b' n1 n2 (by simpa using hlen) hb' fun j f hj => by
            obtain ⟨k, q1, q2, q3, q4⟩ := hf (j + 1) f (by simpa using hj)
            exact ⟨k, by simpa using q1, q2, by omega, q4⟩
        have hag : ∀ w : World, (isAgg f.type).run P w = .ok false w := fun w => by
          cases k0 <;> simp only [FKt] at ht <;> (try obtain ⟨_, ht⟩ := ht) <;> simp [isAgg, run_underlying ht]
        have hp1 : (part f.type vs.toArray f.offset).run P w = .ok vs[i] w := by
          simp only [part, Sem.run_bind, hag, Result.andThen_ok, Bool.false_eq_true, if_false, ho', List.getElem?_toArray, k1]; rfl
        have hp2 : (part f.type vs'.toArray f.offset).run P w = .ok vs'[i] w := by
          simp only [part, Sem.run_bind, hag, Result.andThen_ok, Bool.false_eq_true, if_false, ho', List.getElem?_toArray, k2]; rfl
        rw [Op.eqFields, if_pos hn]
        simp only [Sem.run_bind, hp1, hp2, Result.andThen_ok]
        have fin : ∀ (q b' : Bool), (Op.equalIn (d + 1) f.type vs[i] vs'[i]).run P w = .ok q w → eqL ks es es' = some b' → b = (q && b') →
            ((Op.equalIn (d + 1) f.type vs[i] vs'[i]).run P w).andThen (fun r w => (if (!r) = true then pure false else Op.eqFields (d + 1) vs.toArray vs'.toArray fs : Sem Bool).run P w) = .ok b w := by
          intro q b' hq hb' e
          rw [hq, Result.andThen_ok]
          cases q with
          | true => simpa [e] using hrest b' hb'
          | false => simp [e]
        cases k0 <;> cases e <;> cases e' <;> simp only [eqL] at hb <;> try (cases hb; done)
        · rename_i ka a kb b2
          split at hb
          · rename_i ek
            subst ek
            rw [Option.map_eq_some_iff] at hb
            obtain ⟨b', hb', e⟩ := hb
            refine fin (decide (a = b2)) b' ?_ hb' e.symm
            obtain ⟨k, ht⟩ := ht
            rw [r1.int_in, r2.int_in, run_equalIn_int w d _ _ _ _ _ ht]
            congr 1
          · cases hb
        · rename_i s1 s2
          rw [Option.map_eq_some_iff] at hb
          obtain ⟨b', hb', e⟩ := hb
          refine fin (decide (s1 = s2)) b' ?_ hb' e.symm
          obtain ⟨t1, e1, q1⟩ := r1.str_in
          obtain ⟨t2, e2, q2⟩ := r2.str_in
          rw [e1, e2, run_equalIn_string w d _ _ _ ht]
          congr 1
          rw [ByteArray.toList_eq, ByteArray.toList_eq, q1, q2, Bool.eq_iff_iff]; simp
        · rename_i b1 b2
          rw [Option.map_eq_some_iff] at hb
          obtain ⟨b', hb', e⟩ := hb
          refine fin (b1 == b2) b' ?_ hb' e.symm
          rw [r1.bool_in, r2.bool_in, run_equalIn_bool' w d _ _ _ ht]
theorem eq_flat {P : Program} {t : TypeId} {ks : List FK} (hT : FlatT P t ks) {v1 v2 : Value} {l l' : List DV} {b : Bool} (h1 : Rep w ok β v1 (.agg l)) (h2 : Rep w ok β v2 (.agg l')) (hb : eqL ks l l' = some b) (op : BinOp) (x y : Operand) :
    (eqGuard op t x y v1 v2).run P w = .ok () w ∧ (binOp .eql t v1 v2).run P w = .ok (.bool b) w ∧ (binOp .neq t v1 v2).run P w = .ok (.bool !b) w := by
  cases h1 with | agg vs _ hl hh =>
  cases h2 with | agg vs' _ hl' hh' =>
  have hr : (Op.equalIn 10000 t (.agg vs.toArray) (.agg vs'.toArray)).run P w = .ok b w := by
    rw [run_equalIn_agg w 9999 t _ _ hT.un hT.st]
    exact eqF_run (d := 9998) hl hl' hh hh' _ ks 0 l l' b rfl rfl hT.len hb hT.fs
  refine ⟨run_eqGuard_agg w op t x y _ _ hT.eg, ?_, ?_⟩
  · rw [run_eql_struct, hr]; rfl
  · rw [run_neq_struct, hr]; rfl
theorem bin_lv (op : BinOp) (ty : Ty) (t : TypeId) (x y : Operand) {v1 v2 : Value} {d1 d2 : DV} (hs : SRep E C a w ok β st) (h1 : Rep w ok β v1 d1) (h2 : Rep w ok β v2 d2)
    (hty : ty = .bool → E.P.underlying t = some .bool) (hfl : ∀ ks, ty = .flat ks → FlatT E.P t ks) (hk : binD op ty d1 d2 fun d => K d st) : LV E C a K (do eqGuard op t x y v1 v2; binOp op t v1 v2) w := by
  unfold binD at hk
  split at hk
  · cases h1; cases h2
    rename_i k m k' n
    cases op <;> (try exact hk.elim) <;> first
      | (obtain ⟨rfl, hk⟩ := hk
         first
           | (obtain ⟨hz, hk⟩ := hk
              refine LV.same ?_ hs (.int _ _) hk
              simp [eqGuard_int, binOp, Op.intDiv, hz]
              done)
           | (refine LV.same ?_ hs (.int _ _) hk
              simp [eqGuard_int, binOp, Op.intArith, Op.intBits]
              done)
           | (refine LV.same ?_ hs (.bool _) hk
              simp [eqGuard_int, binOp, Op.intCmp]
              done)
           | (refine LV.same ?_ hs (.bool _) hk
              simp [eqGuard_int, binOp, Op.intCmp]
              rfl))
      | (obtain ⟨hb, hk⟩ := hk
         refine LV.same ?_ hs (.int _ _) hk
         have hb' : ¬ n < 0 := by omega
         simp [eqGuard_int, binOp, Op.shift, hb'])
  · cases h1; cases h2
    rename_i s s'
    cases op <;> (try exact hk.elim)
    case add =>
      obtain ⟨hl, hk⟩ := hk
      refine LV.same (v := .string (s ++ s')) ?_ hs (str_mk _ _ (by simp [ByteArray.data_append])) hk
      have hsz : ¬ ((s.size + s'.size : Nat) : Int) > IntKind.i64.max := by
        have e1 : s.data.toList.length = s.size := by simp
        have e2 : s'.data.toList.length = s'.size := by simp
        have : IntKind.i64.max = 9223372036854775807 := rfl
        rw [e1, e2] at hl
        omega
      simp only [Sem.run_bind, eqGuard_str, Result.andThen_ok, binOp, Op.stringOp]
      rw [if_neg hsz]
      rfl
    all_goals
      refine LV.same ?_ hs (.bool _) hk
      simp [eqGuard_str, binOp, Op.stringOp, ByteArray.toList_eq, beqd]
  · cases h1; cases h2
    have hu := hty rfl
    have hq : ∀ (m n : Bool) (w : World), (Op.equal t (.bool m) (.bool n)).run E.P w = .ok (m == n) w := fun m n w => by
      exact equalIn_bool 9999 hu m n w
    cases op <;> (try exact hk.elim)
    all_goals
      refine LV.same ?_ hs (.bool _) hk
      simp [eqGuard_bool, binOp, hq]
  · cases op <;> (try exact hk.elim)
    all_goals
      obtain ⟨b, hb, hk⟩ := hk
      have hq := fun op' => eq_flat (hfl _ rfl) h1 h2 hb op' x y
      refine LV.same ?_ hs (.bool _) hk
      simp only [Sem.run_bind, (hq _).1, Result.andThen_ok, (hq .eql).2.1, (hq .eql).2.2]
  · exact hk.elim

theorem un_lv (op : UnOp) {v : Value} {d : DV} (hs : SRep E C a w ok β st) (h : Rep w ok β v d) (hk : unD op d fun d => K d st) : LV E C a K (Op.unary op v) w := by
  unfold unD at hk
  split at hk
  · cases h; exact LV.same rfl hs (.bool _) hk
  · cases h; exact LV.same rfl hs (.int _ _) hk
  · exact hk.elim

theorem Rep.str_inv {v : Value} {l : List UInt8} (h : Rep w ok β v (.str l)) : ∃ s : ByteArray, v = .string s ∧ s.data.toList = l := by
  cases h with | str s => exact ⟨s, rfl, rfl⟩
theorem Rep.int_inv {v : Value} {k : IntKind} {n : Int} (h : Rep w ok β v (.int k n)) : v = .int k n := by cases h; rfl
theorem ba_eta (s : ByteArray) : (⟨s.data.toList.toArray⟩ : ByteArray) = s := by cases s; simp

/-! ### Places -/
theorem faddr_lv {S : TypeId} {fields : Array Field} {f : Nat} {fd : Field} (hu : E.P.underlying S = some (.struct fields)) (hf : fields[f]? = some fd)
    {i : TypeInfo} (hi : E.P.info? fd.type = some i) (hz : i.size ≠ 0) {v : Value} {d : DV} (hs : SRep E C a w ok β st) (h : Rep w ok β v d)
    (hk : match d with
      | .ptr l o => K (.ptr l (o + fd.offset)) st
      | .aptr sz l j q => K (.aptr sz l j (q + fd.offset)) st
      | .eptr cs o => K (.eptr cs (o + fd.offset)) st
      | _ => False) : LV E C a K (fieldAt S v f) w := by
  have hrun : ∀ b x, (fieldAt S (.pointer (some ⟨b, x, none⟩)) f).run E.P w = .ok (.pointer (some ⟨b, x + fd.offset, none⟩)) w := fun b x => by
    simp [fieldAt, run_underlying hu, hf, sureAddr, fieldPlace, sizeOf, typeInfo, hi, hz, add_mk]
  cases h with
  | ptr l o b x hb => exact LV.same (hrun b (x + o)) hs (by rw [Nat.add_assoc]; exact .ptr l _ b x hb) hk
  | aptr sz l j q b x hb => exact LV.same (hrun b _) hs (by rw [Nat.add_assoc, Nat.add_assoc]; exact .aptr sz l j _ b x hb) hk
  | eptr cs o b x vs hok hc hh => exact LV.same (hrun b (x + o)) hs (by rw [Nat.add_assoc]; exact .eptr cs _ b x vs hok hc hh) hk
  | _ => exact hk.elim

theorem flatten_get {sz : Nat} : ∀ {es : List (List DV)} (_ : ∀ e ∈ es, e.length = sz) {j : Nat} {e : List DV} (_ : es[j]? = some e) {q : Nat} (_ : q < sz), es.flatten[j * sz + q]? = e[q]?
  | [], _, j, e, hj, q, _ => by simp at hj
  | e0 :: es, hes, 0, e, hj, q, hq => by
    simp at hj
    subst hj
    have : e0.length = sz := hes e0 (by simp)
    simp [List.getElem?_append_left (show q < e0.length by omega)]
  | e0 :: es, hes, j + 1, e, hj, q, hq => by
    have h0 : e0.length = sz := hes e0 (by simp)
    rw [List.flatten_cons, List.getElem?_append_right (by rw [h0, Nat.succ_mul]; omega)]
    have : (j + 1) * sz + q - e0.length = j * sz + q := by rw [h0, Nat.succ_mul]; omega
    rw [this]
    exact flatten_get (fun e he => hes e (by simp [he])) (by simpa using hj) hq
theorem flatten_len {sz : Nat} : ∀ {es : List (List DV)} (_ : ∀ e ∈ es, e.length = sz), es.flatten.length = es.length * sz
  | [], _ => by simp
  | e :: es, h => by
    rw [List.flatten_cons, List.length_append, flatten_len (fun e he => h e (by simp [he])), h e (by simp), List.length_cons, Nat.succ_mul]
    omega

theorem iaddr_lv {t el : TypeId} (hu : E.P.underlying t = some (.slice el)) {i : TypeInfo} (hi : E.P.info? el = some i) {v v2 : Value} {d d2 : DV}
    (hs : SRep E C a w ok β st) (h : Rep w ok β v d) (h2 : Rep w ok β v2 d2)
    (hk : match d, d2 with
      | .sl sz' es, .int _ j => sz' = i.size ∧ 0 ≤ j ∧ ∃ e, es[j.toNat]? = some e ∧ K (.eptr e 0) st
      | .osl sz' l off n _, .int _ j => sz' = i.size ∧ 0 ≤ j ∧ j < n ∧ K (.aptr i.size l (off + j.toNat) 0) st
      | _, _ => False) : LV E C a K (indexAt t v v2) w := by
  have hrun : ∀ (b x n c : Nat) (k : IntKind) (j : Int), 0 ≤ j → j < (n : Int) → (indexAt t (.slice (some ⟨b, x, none⟩) n c) (.int k j)).run E.P w = .ok (.pointer (some ⟨b, x + j.toNat * i.size, none⟩)) w := fun b x n c k j h0 h1 => by
    simp [indexAt, asIntOf, run_underlying hu, h0, h1, sizeOf, typeInfo, hi, add_mk]
  cases h with
  | sl A n c sz es b x vs hn hnc hsz hes hA hc h1 hh =>
    cases h2 with
    | int k j =>
      obtain ⟨rfl, h0, e, he, hk⟩ := hk
      have hj : j.toNat < es.length := by
        rcases Nat.lt_or_ge j.toNat es.length with hlt | hge
        · exact hlt
        · rw [List.getElem?_eq_none hge] at he; cases he
      obtain ⟨hA1, hA2⟩ := hA (by omega)
      subst hA1
      have hel : e.length = i.size := hes e (List.mem_of_getElem? he)
      have hbd : ∀ q, q < i.size → j.toNat * i.size + q < n * i.size := fun q hq => by
        have : (j.toNat + 1) * i.size ≤ n * i.size := Nat.mul_le_mul_right _ (by omega)
        rw [Nat.succ_mul] at this; omega
      refine LV.same (hrun b x n c k j h0 (by omega)) hs ?_ hk
      have := Rep.eptr (w := w) (ok := ok) (β := β) e 0 b (x + j.toNat * i.size) (fun q => vs (j.toNat * i.size + q)) hA2
        (fun q hq => by rw [Nat.add_assoc]; exact hc _ (hbd q (by omega)))
        (fun q d hd => by
          have hq : q < i.size := by
            rcases Nat.lt_or_ge q e.length with hlt | hge
            · omega
            · rw [List.getElem?_eq_none hge] at hd; cases hd
          exact hh _ d (by rw [flatten_get hes he hq]; exact hd))
      exact this
    | _ => exact hk.elim
  | osl sz l off n c b x y ty m hb hnc hsz hy hm hr cap hcap =>
    cases h2 with
    | int k j =>
      obtain ⟨rfl, h0, hj, hk⟩ := hk
      have hy' := hy (by omega)
      subst hy'
      refine LV.same (hrun b _ n c k j h0 hj) hs ?_ hk
      have := Rep.aptr (w := w) (ok := ok) (β := β) i.size l (off + j.toNat) 0 b x hb
      rw [Nat.add_mul, Nat.add_zero, ← Nat.add_assoc] at this
      exact this
    | _ => exact hk.elim
  | oslnil sz l off cap hcap hz =>
    cases h2 with
    | int k j => obtain ⟨_, h0, hj, _⟩ := hk; omega
    | _ => exact hk.elim
  | _ => exact hk.elim

theorem sidx_lv {t : TypeId} (hu : E.P.underlying t = some .string) {v v2 : Value} {d d2 : DV} (hs : SRep E C a w ok β st) (h : Rep w ok β v d) (h2 : Rep w ok β v2 d2)
    (hk : match d, d2 with
      | .str s, .int _ j => 0 ≤ j ∧ j < s.length ∧ K (.int .u8 (bt s j.toNat)) st
      | _, _ => False) : LV E C a K (index t v v2) w := by
  cases h with
  | str s =>
    cases h2 with
    | int k j =>
      obtain ⟨h0, hj, hk⟩ := hk
      have hlt : j.toNat < s.size := by simp at hj; omega
      refine LV.same (v := .int .u8 (bt s.data.toList j.toNat)) ?_ hs (.int _ _) hk
      have e : s[j.toNat]? = some s[j.toNat] := getElem?_pos s j.toNat hlt
      have eb : bt s.data.toList j.toNat = ((s[j.toNat]'hlt).toNat : Int) := by
        have : s.data.toList.getD j.toNat 0 = s[j.toNat]'hlt := by
          rw [List.getD_eq_getElem?_getD, List.getElem?_eq_getElem (by simpa using hlt)]; rfl
        unfold bt; rw [this]
      simp [index, asIntOf, run_underlying hu, h0, e, eb]
    | _ => exact hk.elim
  | _ => exact hk.elim

theorem extr_lv {v : Value} {d : DV} {n : Nat} (hs : SRep E C a w ok β st) (h : Rep w ok β v d)
    (hk : match d with
      | .tup l => ∃ d, l[n]? = some d ∧ K d st
      | _ => False) : LV E C a K (extract v n) w := by
  cases h with
  | tup vs ds hl hh =>
    obtain ⟨d, hd, hk⟩ := hk
    have hn : n < vs.length := by
      rcases Nat.lt_or_ge n ds.length with hlt | hge
      · omega
      · rw [List.getElem?_eq_none hge] at hd; cases hd
    refine LV.same (v := vs[n]) ?_ hs (hh n _ d (List.getElem?_eq_getElem hn) hd) hk
    simp [extract, List.getElem?_eq_getElem hn]
  | _ => exact hk.elim

theorem len_lv {t : TypeId} {T : Array TypeId} {td : TypeDesc} {k : Bool} (hT : T[0]? = some t) (hu : E.P.underlying t = some td) (htd : (td = .string ∧ k = true) ∨ ∃ e, td = .slice e ∧ k = false) {ty : TypeId} {v : Value} {x : AX}
    (hs : SRep E C a w ok β st) (h : Rep w ok β v (x.ev st.fr)) (hk : aop E (.len k x) K st) : LV E C a K (Builtin.len_ T ty #[v]) w := by
  simp only [aop] at hk
  generalize x.ev st.fr = d at h hk
  have hsl : k = false → ∃ e, td = .slice e := fun h => by
    rcases htd with ⟨_, h2⟩ | ⟨e, h2, _⟩
    · subst h2; cases h
    · exact ⟨e, h2⟩
  cases h with
  | str s =>
    obtain ⟨hk0, hk⟩ := hk
    have : td = .string := by rcases htd with ⟨h1, _⟩ | ⟨_, _, h⟩; exact h1; rw [h] at hk0; cases hk0
    subst this
    refine LV.same (v := .int .i64 s.data.toList.length) ?_ hs (.int _ _) hk
    simp [Builtin.len_, hT, run_underlying hu, goInt]
  | sl A n c sz es b x vs hn =>
    obtain ⟨hk0, hk⟩ := hk
    obtain ⟨e, rfl⟩ := hsl hk0
    refine LV.same (v := .int .i64 es.length) ?_ hs (.int _ _) hk
    simp [Builtin.len_, hT, run_underlying hu, goInt, hn]
  | osl sz l off n c b x y =>
    obtain ⟨hk0, hk⟩ := hk
    obtain ⟨e, rfl⟩ := hsl hk0
    refine LV.same (v := .int .i64 n) ?_ hs (.int _ _) hk
    simp [Builtin.len_, hT, run_underlying hu, goInt]
  | oslnil sz l off =>
    obtain ⟨hk0, hk⟩ := hk
    obtain ⟨e, rfl⟩ := hsl hk0
    refine LV.same (v := .int .i64 (0 : Nat)) ?_ hs (.int _ _) hk
    simp [Builtin.len_, hT, run_underlying hu, goInt]
  | nils sz =>
    obtain ⟨hk0, hk⟩ := hk
    obtain ⟨e, rfl⟩ := hsl hk0
    refine LV.same (v := .int .i64 0) ?_ hs (.int _ _) hk
    simp [Builtin.len_, hT, run_underlying hu, goInt]
  | _ => exact hk.elim
end
end Go.Ai
