/- Operations, second part: numbers, texts, parts of values, places in rows. -/
import Derived.Test.YtgamnnfndidclaaGreatDoorAiOps
import Derived.Laws.Strings
import Derived.Laws.StructEq
set_option linter.all false
namespace Go.Ai
open Go.Instr
section
variable {E : Env} {C : Ctx} {a : Act} {w : World} {ok : Nat → Prop} {β : Loc} {st : St} {K : DV → St → Prop}

theorem eqGuard_int (op : BinOp) (t : TypeId) (x y : Operand) (k k' : IntKind) (m n : Int) (P : Program) (w : World) : (eqGuard op t x y (.int k m) (.int k' n)).run P w = .ok () w := by
  unfold eqGuard; split <;> rfl
theorem eqGuard_str (op : BinOp) (t : TypeId) (x y : Operand) (m n : ByteArray) (P : Program) (w : World) : (eqGuard op t x y (.string m) (.string n)).run P w = .ok () w := by
  unfold eqGuard; split <;> rfl
theorem eqGuard_bool (op : BinOp) (t : TypeId) (x y : Operand) (m n : Bool) (P : Program) (w : World) : (eqGuard op t x y (.bool m) (.bool n)).run P w = .ok () w := by
  unfold eqGuard; split <;> rfl

theorem str_mk (s : ByteArray) (l : List UInt8) (h : s.data.toList = l) {β : Loc} : Rep w ok β (.string s) (.str l) := by subst h; exact .str s

theorem beqd (s s' : ByteArray) : (s.data == s'.data) = decide (s.data = s'.data) := by rw [Bool.eq_iff_iff]; simp

theorem equalIn_bool {P : Program} {t : TypeId} (d : Nat) (hu : P.underlying t = some .bool) (m n : Bool) (w : World) : (Op.equalIn (d + 1) t (.bool m) (.bool n)).run P w = .ok (m == n) w := by
  simp only [Op.equalIn, Sem.run_bind, run_underlying hu, Result.andThen_ok]
  rfl

/-- What a type of plain parts says of its fields. -/
def FKt (P : Program) (t : TypeId) : FK → Prop
  | .int => ∃ k, P.underlying t = some (.int k)
  | .str => P.underlying t = some .string
  | .bool => P.underlying t = some .bool
structure FlatT (P : Program) (t : TypeId) (ks : List FK) : Prop where
  st : P.stoodInHeld t = false
  eg : P.eqGuardType P.depth t = false
  un : P.underlying t = some (.struct (P.fieldsOf t))
  fs : ∀ (j : Nat) f, (P.fieldsOf t).toList[j]? = some f → ∃ k, ks[j]? = some k ∧ (f.name ≠ "_") ∧ f.offset = 0 + j ∧ FKt P f.type k
  len : (P.fieldsOf t).toList.length = ks.length
theorem Rep.int_in {v : Value} {k : IntKind} {n : Int} (h : Rep w ok β v (.int k n)) : v = .int k n := by cases h; rfl
theorem Rep.bool_in {v : Value} {b : Bool} (h : Rep w ok β v (.bool b)) : v = .bool b := by cases h; rfl
theorem Rep.str_in {v : Value} {l : List UInt8} (h : Rep w ok β v (.str l)) : ∃ s : ByteArray, v = .string s ∧ s.data.toList = l := by cases h; exact ⟨_, rfl, rfl⟩
theorem eqF_run {P : Program} {d : Nat} {ds ds' : List DV} {vs vs' : List Value} (hl : vs.length = ds.length) (hl' : vs'.length = ds'.length)
    (h : ∀ (i : Nat) v d, vs[i]? = some v → ds[i]? = some d → Rep w ok β v d) (h' : ∀ (i : Nat) v d, vs'[i]? = some v → ds'[i]? = some d → Rep w ok β v d) : ∀ (fs : List Field) (ks : List FK) (i : Nat) (es es' : List DV) (b : Bool),
    ds.drop i = es → ds'.drop i = es' → fs.length = ks.length → eqL ks es es' = some b →
    (∀ (j : Nat) f, fs[j]? = some f → ∃ k, ks[j]? = some k ∧ (f.name ≠ "_") ∧ f.offset = i + j ∧ FKt P f.type k) →
    (Op.eqFields (d + 1) vs.toArray vs'.toArray fs).run P w = .ok b w
  | [], ks, i, es, es', b, h1, h2, hlen, hb, _ => by
    have : ks = [] := List.length_eq_zero_iff.1 hlen.symm
    subst this
    cases es <;> cases es' <;> simp only [eqL, Option.some.injEq] at hb <;> first | (subst hb; rfl) | (cases hb; done)
  | f :: fs, ks, i, es, es', b, h1, h2, hlen, hb, hf => by
    obtain ⟨k, hk, hn, ho, ht⟩ := hf 0 f rfl
    cases ks with
    | nil => simp at hlen
    | cons k0 ks =>
    simp only [List.getElem?_cons_zero, Option.some.injEq] at hk
    subst hk
    cases es with
    | nil => cases k0 <;> simp [eqL] at hb
    | cons e es =>
      cases es' with
      | nil => cases k0 <;> cases e <;> simp [eqL] at hb
      | cons e' es' =>
        have g1 : ds[i]? = some e := by have := congrArg (·[0]?) h1; simpa using this
        have g2 : ds'[i]? = some e' := by have := congrArg (·[0]?) h2; simpa using this
        have n1 : ds.drop (i + 1) = es := by rw [← List.drop_drop, h1]; rfl
        have n2 : ds'.drop (i + 1) = es' := by rw [← List.drop_drop, h2]; rfl
        have l1 : i < vs.length := by rw [hl]; exact (List.getElem?_eq_some_iff.1 g1).1
        have l2 : i < vs'.length := by rw [hl']; exact (List.getElem?_eq_some_iff.1 g2).1
        have k1 : vs[i]? = some vs[i] := List.getElem?_eq_getElem l1
        have k2 : vs'[i]? = some vs'[i] := List.getElem?_eq_getElem l2
        have r1 := h i _ _ k1 g1
        have r2 := h' i _ _ k2 g2
        have ho' : f.offset = i := by simpa using ho
        have hrest : ∀ (b' : Bool), eqL ks es es' = some b' → (Op.eqFields (d + 1) vs.toArray vs'.toArray fs).run P w = .ok b' w := fun b' hb' =>
          eqF_run hl hl' h h' fs ks (i + 1) es es' b' n1 n2 (by simpa using hlen) hb' fun j f hj => by
            obtain ⟨k, q1, q2, q3, q4⟩ := hf (j + 1) f (by simpa using hj)
            exact ⟨k, by simpa using q1, q2, by omega, q4⟩
        have hag : ∀ w : World, (isAgg f.type).run P w = .ok false w := fun w => by
          cases k0 <;> simp only [FKt] at ht <;> (try obtain ⟨_, ht⟩ := ht) <;> simp [isAgg, run_underlying ht]
        have hp1 : (part f.type vs.toArray f.offset).run P w = .ok vs[i] w := by
          simp only [part, Sem.run_bind, hag, Result.andThen_ok, Bool.false_eq_true, if_false, ho', List.getElem?_toArray, k1]; rfl
        have hp2 : (part f.type vs'.toArray f.offset).run P w = .ok vs'[i] w := by
          simp only [part, Sem.run_bind, hag, Result.andThen_ok, Bool.false_eq_true, if_false, ho', List.getElem?_toArray, k2]; rfl
        rw [Op.eqFields, if_pos hn]
        simp only [Sem.run_bind, hp1, hp2, Result.andThen_ok]
        have fin : ∀ (q b' : Bool), (Op.equalIn (d + 1) f.type vs[i] vs'[i]).run P w = .ok q w → eqL ks es es' = some b' → b = (q && b') →
            ((Op.equalIn (d + 1) f.type vs[i] vs'[i]).run P w).andThen (fun r w => (if (!r) = true then pure false else Op.eqFields (d + 1) vs.toArray vs'.toArray fs : Sem Bool).run P w) = .ok b w := by
          intro q b' hq hb' e
          rw [hq, Result.andThen_ok]
          cases q with
          | true => simpa [e] using hrest b' hb'
          | false => simp [e]
        cases k0 <;> cases e <;> cases e' <;> simp only [eqL] at hb <;> try (cases hb; done)
        · rename_i ka a kb b2
          split at hb
          · rename_i ek
            subst ek
            rw [Option.map_eq_some_iff] at hb
            obtain ⟨b', hb', e⟩ := hb
            refine fin (decide (a = b2)) b' ?_ hb' e.symm
            obtain ⟨k, ht⟩ := ht
            rw [r1.int_in, r2.int_in, run_equalIn_int w d _ _ _ _ _ ht]
            congr 1
          · cases hb
        · rename_i s1 s2
          rw [Option.map_eq_some_iff] at hb
          obtain ⟨b', hb', e⟩ := hb
          refine fin (decide (s1 = s2)) b' ?_ hb' e.symm
          obtain ⟨t1, e1, q1⟩ := r1.str_in
          obtain ⟨t2, e2, q2⟩ := r2.str_in
          rw [e1, e2, run_equalIn_string w d _ _ _ ht]
          congr 1
          rw [ByteArray.toList_eq, ByteArray.toList_eq, q1, q2, Bool.eq_iff_iff]; simp
        · rename_i b1 b2
          rw [Option.map_eq_some_iff] at hb
          obtain ⟨b', hb', e⟩ := hb
          refine fin (b1 == b2) b' ?_ hb' e.symm
          rw [r1.bool_in, r2.bool_in, run_equalIn_bool' w d _ _ _ ht]
theorem eq_flat {P : Program} {t : TypeId} {ks : List FK} (hT : FlatT P t ks) {v1 v2 : Value} {l l' : List DV} {b : Bool} (h1 : Rep w ok β v1 (.agg l)) (h2 : Rep w ok β v2 (.agg l')) (hb : eqL ks l l' = some b) (op : BinOp) (x y : Operand) :
    (eqGuard op t x y v1 v2).run P w = .ok () w ∧ (binOp .eql t v1 v2).run P w = .ok (.bool b) w ∧ (binOp .neq t v1 v2).run P w = .ok (.bool !b) w := by
  cases h1 with | agg vs _ hl hh =>
  cases h2 with | agg vs' _ hl' hh' =>
  have hr : (Op.equalIn 10000 t (.agg vs.toArray) (.agg vs'.toArray)).run P w = .ok b w := by
    rw [run_equalIn_agg w 9999 t _ _ hT.un hT.st]
    exact eqF_run (d := 9998) hl hl' hh hh' _ ks 0 l l' b rfl rfl hT.len hb hT.fs
  refine ⟨run_eqGuard_agg w op t x y _ _ hT.eg, ?_, ?_⟩
  · rw [run_eql_struct, hr]; rfl
  · rw [run_neq_struct, hr]; rfl
theorem Rep.osl_some {v : Value} {sz l off n : Nat} {c : Option Nat} (h : Rep w ok β v (.osl sz l off n c)) (hn : 0 < n) : ∃ a i k, v = .slice (some a) i k := by
  cases h with
  | oslnil => omega
  | osl => exact ⟨_, _, _, rfl⟩
theorem Rep.sl_some {v : Value} {sz : Nat} {es : List (List DV)} (h : Rep w ok β v (.sl sz es)) (hn : es ≠ []) : ∃ a i k, v = .slice (some a) i k := by
  cases h with
  | sl A n c _ _ b x vs h1 _ _ _ hA =>
    have : 0 < n := by rw [h1]; exact List.length_pos_iff.2 hn
    rw [(hA this).1]
    exact ⟨_, _, _, rfl⟩
theorem eqGuard_ptr (op : BinOp) (t : TypeId) (x y : Operand) (m n : Option Addr) (P : Program) (w : World) : (eqGuard op t x y (.pointer m) (.pointer n)).run P w = .ok () w := by
  unfold eqGuard; split <;> rfl
theorem eqGuard_slc (op : BinOp) (t : TypeId) (x y : Operand) (m n : Option Addr) (a b c d : Nat) (P : Program) (w : World) : (eqGuard op t x y (.slice m a b) (.slice n c d)).run P w = .ok () w := by
  unfold eqGuard; split <;> rfl
theorem equalIn_nilp (d : Nat) {P : Program} {t e : TypeId} (hu : P.underlying t = some (.pointer e)) (w : World) : (Op.equalIn (d + 1) t (.pointer none) (.pointer none)).run P w = .ok true w := by
  simp only [Op.equalIn, Sem.run_bind, run_underlying hu, Result.andThen_ok]; rfl
theorem equalIn_ptrp (d : Nat) {P : Program} {t e : TypeId} (hu : P.underlying t = some (.pointer e)) (a : Addr) (w : World) : (Op.equalIn (d + 1) t (.pointer (some a)) (.pointer none)).run P w = .ok false w := by
  simp only [Op.equalIn, Sem.run_bind, run_underlying hu, Result.andThen_ok]; rfl
theorem equalIn_slc (d : Nat) {P : Program} {t e : TypeId} (hu : P.underlying t = some (.slice e)) (a : Addr) (n c k l : Nat) (w : World) : (Op.equalIn (d + 1) t (.slice (some a) n c) (.slice none k l)).run P w = .ok false w := by
  simp only [Op.equalIn, Sem.run_bind, run_underlying hu, Result.andThen_ok]; rfl
theorem equal_nilp {P : Program} {t e : TypeId} (hu : P.underlying t = some (.pointer e)) (w : World) : (Op.equal t (.pointer none) (.pointer none)).run P w = .ok true w := equalIn_nilp 9999 hu w
theorem equal_ptrp {P : Program} {t e : TypeId} (hu : P.underlying t = some (.pointer e)) (a : Addr) (w : World) : (Op.equal t (.pointer (some a)) (.pointer none)).run P w = .ok false w := equalIn_ptrp 9999 hu a w
theorem equalIn_slc0 (d : Nat) {P : Program} {t e : TypeId} (hu : P.underlying t = some (.slice e)) (n c k l : Nat) (w : World) : (Op.equalIn (d + 1) t (.slice none n c) (.slice none k l)).run P w = .ok true w := by
  simp only [Op.equalIn, Sem.run_bind, run_underlying hu, Result.andThen_ok]; rfl
theorem equal_slc0 {P : Program} {t e : TypeId} (hu : P.underlying t = some (.slice e)) (n c k l : Nat) (w : World) : (Op.equal t (.slice none n c) (.slice none k l)).run P w = .ok true w := equalIn_slc0 9999 hu n c k l w
theorem equal_slc {P : Program} {t e : TypeId} (hu : P.underlying t = some (.slice e)) (a : Addr) (n c k l : Nat) (w : World) : (Op.equal t (.slice (some a) n c) (.slice none k l)).run P w = .ok false w := equalIn_slc 9999 hu a n c k l w
theorem eqGuard_ifc (op : BinOp) (t : TypeId) (x : Operand) (c : Value) (v : Value) (P : Program) (w : World) : (eqGuard op t x (.const c) v .nilIface).run P w = .ok () w := by
  unfold eqGuard
  cases op <;> cases v <;> first | rfl | (cases x <;> rfl)
theorem equalIn_ifc0 (d : Nat) {P : Program} {t : TypeId} {e : Array (String × TypeId)} (hu : P.underlying t = some (.interface e)) (w : World) : (Op.equalIn (d + 1) t .nilIface .nilIface).run P w = .ok true w := by
  simp only [Op.equalIn, Sem.run_bind, run_underlying hu, Result.andThen_ok]; rfl
theorem equalIn_ifc1 (d : Nat) {P : Program} {t u : TypeId} {v : Value} {e : Array (String × TypeId)} (hu : P.underlying t = some (.interface e)) (w : World) : (Op.equalIn (d + 1) t (.iface u v) .nilIface).run P w = .ok false w := by
  simp only [Op.equalIn, Sem.run_bind, run_underlying hu, Result.andThen_ok]; rfl
theorem equal_ifc0 {P : Program} {t : TypeId} {e : Array (String × TypeId)} (hu : P.underlying t = some (.interface e)) (w : World) : (Op.equal t .nilIface .nilIface).run P w = .ok true w := equalIn_ifc0 9999 hu w
theorem equal_ifc1 {P : Program} {t u : TypeId} {v : Value} {e : Array (String × TypeId)} (hu : P.underlying t = some (.interface e)) (w : World) : (Op.equal t (.iface u v) .nilIface).run P w = .ok false w := equalIn_ifc1 9999 hu w
theorem bin_lv (op : BinOp) (ty : Ty) (t : TypeId) (x y : Operand) {v1 v2 : Value} {d1 d2 : DV} (hs : SRep E C a w ok β st) (h1 : Rep w ok β v1 d1) (h2 : Rep w ok β v2 d2)
    (hty : ty = .bool → E.P.underlying t = some .bool) (hfl : ∀ ks, ty = .flat ks → FlatT E.P t ks) (hpt : ty = .ptr → ∃ e, E.P.underlying t = some (.pointer e)) (hsc : ty = .slc → ∃ e, E.P.underlying t = some (.slice e)) (hif : ty = .ifc → (∃ e, E.P.underlying t = some (.interface e)) ∧ ∃ c, y = .const c) (hk : binD op ty d1 d2 fun d => K d st) : LV E C a K (do eqGuard op t x y v1 v2; binOp op t v1 v2) w := by
  unfold binD at hk
  split at hk
  · cases h1; cases h2
    rename_i k m k' n
    cases op <;> (try exact hk.elim) <;> first
      | (obtain ⟨rfl, hk⟩ := hk
         first
           | (obtain ⟨hz, hk⟩ := hk
              refine LV.same ?_ hs (.int _ _) hk
              simp [eqGuard_int, binOp, Op.intDiv, hz]
              done)
           | (refine LV.same ?_ hs (.int _ _) hk
              simp [eqGuard_int, binOp, Op.intArith, Op.intBits]
              done)
           | (refine LV.same ?_ hs (.bool _) hk
              simp [eqGuard_int, binOp, Op.intCmp]
              done)
           | (refine LV.same ?_ hs (.bool _) hk
              simp [eqGuard_int, binOp, Op.intCmp]
              rfl))
      | (obtain ⟨hb, hk⟩ := hk
         refine LV.same ?_ hs (.int _ _) hk
         have hb' : ¬ n < 0 := by omega
         simp [eqGuard_int, binOp, Op.shift, hb'])
  · cases h1; cases h2
    rename_i s s'
    cases op <;> (try exact hk.elim)
    case add =>
      obtain ⟨hl, hk⟩ := hk
      refine LV.same (v := .string (s ++ s')) ?_ hs (str_mk _ _ (by simp [ByteArray.data_append])) hk
      have hsz : ¬ ((s.size + s'.size : Nat) : Int) > IntKind.i64.max := by
        have e1 : s.data.toList.length = s.size := by simp
        have e2 : s'.data.toList.length = s'.size := by simp
        have : IntKind.i64.max = 9223372036854775807 := rfl
        rw [e1, e2] at hl
        omega
      simp only [Sem.run_bind, eqGuard_str, Result.andThen_ok, binOp, Op.stringOp]
      rw [if_neg hsz]
      rfl
    all_goals
      refine LV.same ?_ hs (.bool _) hk
      simp [eqGuard_str, binOp, Op.stringOp, ByteArray.toList_eq, beqd]
  · cases h1; cases h2
    have hu := hty rfl
    have hq : ∀ (m n : Bool) (w : World), (Op.equal t (.bool m) (.bool n)).run E.P w = .ok (m == n) w := fun m n w => by
      exact equalIn_bool 9999 hu m n w
    cases op <;> (try exact hk.elim)
    all_goals
      refine LV.same ?_ hs (.bool _) hk
      simp [eqGuard_bool, binOp, hq]
  · cases op <;> (try exact hk.elim)
    all_goals
      obtain ⟨b, hb, hk⟩ := hk
      have hq := fun op' => eq_flat (hfl _ rfl) h1 h2 hb op' x y
      refine LV.same ?_ hs (.bool _) hk
      simp only [Sem.run_bind, (hq _).1, Result.andThen_ok, (hq .eql).2.1, (hq .eql).2.2]
  · cases h1; cases h2
    obtain ⟨e, hu⟩ := hpt rfl
    cases op <;> (try exact hk.elim)
    all_goals
      refine LV.same ?_ hs (.bool _) hk
      simp [eqGuard_ptr, binOp, equal_nilp hu]
  · cases h1; cases h2
    obtain ⟨e, hu⟩ := hpt rfl
    cases op <;> (try exact hk.elim)
    all_goals
      refine LV.same ?_ hs (.bool _) hk
      simp [eqGuard_ptr, binOp, equal_ptrp hu]
  · cases h1; cases h2
    obtain ⟨e, hu⟩ := hpt rfl
    cases op <;> (try exact hk.elim)
    all_goals
      refine LV.same ?_ hs (.bool _) hk
      simp [eqGuard_ptr, binOp, equal_ptrp hu]
  · cases h1; cases h2
    obtain ⟨e, hu⟩ := hpt rfl
    cases op <;> (try exact hk.elim)
    all_goals
      refine LV.same ?_ hs (.bool _) hk
      simp [eqGuard_ptr, binOp, equal_ptrp hu]
  · obtain ⟨e, hu⟩ := hsc rfl
    obtain ⟨hn, hk⟩ := hk
    obtain ⟨a, k, c, rfl⟩ := h1.osl_some hn
    cases h2
    cases op <;> (try exact hk.elim)
    all_goals
      refine LV.same ?_ hs (.bool _) hk
      simp [eqGuard_slc, binOp, equal_slc hu]
  · obtain ⟨e, hu⟩ := hsc rfl
    obtain ⟨hn, hk⟩ := hk
    obtain ⟨a, k, c, rfl⟩ := h1.sl_some hn
    cases h2
    cases op <;> (try exact hk.elim)
    all_goals
      refine LV.same ?_ hs (.bool _) hk
      simp [eqGuard_slc, binOp, equal_slc hu]
  · obtain ⟨e, hu⟩ := hsc rfl
    cases h2
    cases h1
    all_goals
      cases op <;> (try exact hk.elim)
      all_goals
        refine LV.same ?_ hs (.bool _) hk
        simp [eqGuard_slc, binOp, equal_slc hu, equal_slc0 hu]
  · cases h1; cases h2
    obtain ⟨⟨e, hu⟩, c, rfl⟩ := hif rfl
    cases op <;> (try exact hk.elim)
    all_goals
      refine LV.same ?_ hs (.bool _) hk
      simp [eqGuard_ifc, binOp, equal_ifc0 hu]
  · cases h1; cases h2
    obtain ⟨⟨e, hu⟩, c, rfl⟩ := hif rfl
    cases op <;> (try exact hk.elim)
    all_goals
      refine LV.same ?_ hs (.bool _) hk
      simp [eqGuard_ifc, binOp, equal_ifc1 hu]
  · exact hk.elim

theorem un_lv (op : UnOp) {v : Value} {d : DV} (hs : SRep E C a w ok β st) (h : Rep w ok β v d) (hk : unD op d fun d => K d st) : LV E C a K (Op.unary op v) w := by
  unfold unD at hk
  split at hk
  · cases h; exact LV.same rfl hs (.bool _) hk
  · cases h; exact LV.same rfl hs (.int _ _) hk
  · exact hk.elim

theorem Rep.str_inv {v : Value} {l : List UInt8} (h : Rep w ok β v (.str l)) : ∃ s : ByteArray, v = .string s ∧ s.data.toList = l := by
  cases h with | str s => exact ⟨s, rfl, rfl⟩
theorem Rep.int_inv {v : Value} {k : IntKind} {n : Int} (h : Rep w ok β v (.int k n)) : v = .int k n := by cases h; rfl
theorem ba_eta (s : ByteArray) : (⟨s.data.toList.toArray⟩ : ByteArray) = s := by cases s; simp

/-! ### Places -/
theorem faddr_lv {S : TypeId} {fields : Array Field} {f : Nat} {fd : Field} (hu : E.P.underlying S = some (.struct fields)) (hf : fields[f]? = some fd)
    {i : TypeInfo} (hi : E.P.info? fd.type = some i) (hz : i.size ≠ 0) {v : Value} {d : DV} (hs : SRep E C a w ok β st) (h : Rep w ok β v d)
    (hk : match d with
      | .ptr l o => K (.ptr l (o + fd.offset)) st
      | .aptr sz l j q => K (.aptr sz l j (q + fd.offset)) st
      | .eptr cs o => K (.eptr cs (o + fd.offset)) st
      | _ => False) : LV E C a K (fieldAt S v f) w := by
  have hrun : ∀ b x, (fieldAt S (.pointer (some ⟨b, x, none⟩)) f).run E.P w = .ok (.pointer (some ⟨b, x + fd.offset, none⟩)) w := fun b x => by
    simp [fieldAt, run_underlying hu, hf, sureAddr, fieldPlace, sizeOf, typeInfo, hi, hz, add_mk]
  cases h with
  | ptr l o b x hb => exact LV.same (hrun b (x + o)) hs (by rw [Nat.add_assoc]; exact .ptr l _ b x hb) hk
  | aptr sz l j q b x hb => exact LV.same (hrun b _) hs (by rw [Nat.add_assoc, Nat.add_assoc]; exact .aptr sz l j _ b x hb) hk
  | eptr cs o b x vs hok hc hh => exact LV.same (hrun b (x + o)) hs (by rw [Nat.add_assoc]; exact .eptr cs _ b x vs hok hc hh) hk
  | _ => exact hk.elim

theorem flatten_get {sz : Nat} : ∀ {es : List (List DV)} (_ : ∀ e ∈ es, e.length = sz) {j : Nat} {e : List DV} (_ : es[j]? = some e) {q : Nat} (_ : q < sz), es.flatten[j * sz + q]? = e[q]?
  | [], _, j, e, hj, q, _ => by simp at hj
  | e0 :: es, hes, 0, e, hj, q, hq => by
    simp at hj
    subst hj
    have : e0.length = sz := hes e0 (by simp)
    simp [List.getElem?_append_left (show q < e0.length by omega)]
  | e0 :: es, hes, j + 1, e, hj, q, hq => by
    have h0 : e0.length = sz := hes e0 (by simp)
    rw [List.flatten_cons, List.getElem?_append_right (by rw [h0, Nat.succ_mul]; omega)]
    have : (j + 1) * sz + q - e0.length = j * sz + q := by rw [h0, Nat.succ_mul]; omega
    rw [this]
    exact flatten_get (fun e he => hes e (by simp [he])) (by simpa using hj) hq
theorem flatten_len {sz : Nat} : ∀ {es : List (List DV)} (_ : ∀ e ∈ es, e.length = sz), es.flatten.length = es.length * sz
  | [], _ => by simp
  | e :: es, h => by
    rw [List.flatten_cons, List.length_append, flatten_len (fun e he => h e (by simp [he])), h e (by simp), List.length_cons, Nat.succ_mul]
    omega

theorem baddr_lv {t el : TypeId} {n : Nat} (hu : E.P.underlying t = some (.array n el)) {i : TypeInfo} (hi : E.P.info? el = some i) {v v2 : Value} {d d2 : DV}
    (hs : SRep E C a w ok β st) (h : Rep w ok β v d) (h2 : Rep w ok β v2 d2)
    (hk : match d, d2 with
      | .ptr l o, .int _ j => 0 ≤ j ∧ j < n ∧ K (.ptr l (o + j.toNat * i.size)) st
      | _, _ => False) : LV E C a K (indexAt t v v2) w := by
  cases h with
  | ptr l o b x hb =>
    cases h2 with
    | int k j =>
      obtain ⟨h0, hj, hk⟩ := hk
      have hrun : (indexAt t (.pointer (some ⟨b, x + o, none⟩)) (.int k j)).run E.P w = .ok (.pointer (some ⟨b, x + o + j.toNat * i.size, none⟩)) w := by
        simp [indexAt, asIntOf, sureAddr, run_underlying hu, h0, hj, sizeOf, typeInfo, hi, add_mk]
      refine LV.same hrun hs ?_ hk
      have := Rep.ptr (w := w) (ok := ok) (β := β) l (o + j.toNat * i.size) b x hb
      rw [← Nat.add_assoc] at this
      exact this
    | _ => exact hk.elim
  | _ => first | exact hk.elim | (cases h2 <;> exact hk.elim)
theorem iaddr_lv {t el : TypeId} (hu : E.P.underlying t = some (.slice el)) {i : TypeInfo} (hi : E.P.info? el = some i) {v v2 : Value} {d d2 : DV}
    (hs : SRep E C a w ok β st) (h : Rep w ok β v d) (h2 : Rep w ok β v2 d2)
    (hk : match d, d2 with
      | .sl sz' es, .int _ j => sz' = i.size ∧ 0 ≤ j ∧ ∃ e, es[j.toNat]? = some e ∧ K (.eptr e 0) st
      | .osl sz' l off n _, .int _ j => sz' = i.size ∧ 0 ≤ j ∧ j < n ∧ K (.aptr i.size l (off + j.toNat) 0) st
      | _, _ => False) : LV E C a K (indexAt t v v2) w := by
  have hrun : ∀ (b x n c : Nat) (k : IntKind) (j : Int), 0 ≤ j → j < (n : Int) → (indexAt t (.slice (some ⟨b, x, none⟩) n c) (.int k j)).run E.P w = .ok (.pointer (some ⟨b, x + j.toNat * i.size, none⟩)) w := fun b x n c k j h0 h1 => by
    simp [indexAt, asIntOf, run_underlying hu, h0, h1, sizeOf, typeInfo, hi, add_mk]
  cases h with
  | sl A n c sz es b x vs hn hnc hsz hes hA hc h1 hh =>
    cases h2 with
    | int k j =>
      obtain ⟨rfl, h0, e, he, hk⟩ := hk
      have hj : j.toNat < es.length := by
        rcases Nat.lt_or_ge j.toNat es.length with hlt | hge
        · exact hlt
        · rw [List.getElem?_eq_none hge] at he; cases he
      obtain ⟨hA1, hA2⟩ := hA (by omega)
      subst hA1
      have hel : e.length = i.size := hes e (List.mem_of_getElem? he)
      have hbd : ∀ q, q < i.size → j.toNat * i.size + q < n * i.size := fun q hq => by
        have : (j.toNat + 1) * i.size ≤ n * i.size := Nat.mul_le_mul_right _ (by omega)
        rw [Nat.succ_mul] at this; omega
      refine LV.same (hrun b x n c k j h0 (by omega)) hs ?_ hk
      have := Rep.eptr (w := w) (ok := ok) (β := β) e 0 b (x + j.toNat * i.size) (fun q => vs (j.toNat * i.size + q)) hA2
        (fun q hq => by rw [Nat.add_assoc]; exact hc _ (hbd q (by omega)))
        (fun q d hd => by
          have hq : q < i.size := by
            rcases Nat.lt_or_ge q e.length with hlt | hge
            · omega
            · rw [List.getElem?_eq_none hge] at hd; cases hd
          exact hh _ d (by rw [flatten_get hes he hq]; exact hd))
      exact this
    | _ => exact hk.elim
  | osl sz l off n c b x y ty m hb hnc hsz hy hm hr cap hcap =>
    cases h2 with
    | int k j =>
      obtain ⟨rfl, h0, hj, hk⟩ := hk
      have hy' := hy (by omega)
      subst hy'
      refine LV.same (hrun b _ n c k j h0 hj) hs ?_ hk
      have := Rep.aptr (w := w) (ok := ok) (β := β) i.size l (off + j.toNat) 0 b x hb
      rw [Nat.add_mul, Nat.add_zero, ← Nat.add_assoc] at this
      exact this
    | _ => exact hk.elim
  | oslnil sz l off cap hcap hz =>
    cases h2 with
    | int k j => obtain ⟨_, h0, hj, _⟩ := hk; omega
    | _ => exact hk.elim
  | _ => exact hk.elim

theorem sidx_lv {t : TypeId} (hu : E.P.underlying t = some .string) {v v2 : Value} {d d2 : DV} (hs : SRep E C a w ok β st) (h : Rep w ok β v d) (h2 : Rep w ok β v2 d2)
    (hk : match d, d2 with
      | .str s, .int _ j => 0 ≤ j ∧ j < s.length ∧ K (.int .u8 (bt s j.toNat)) st
      | _, _ => False) : LV E C a K (index t v v2) w := by
  cases h with
  | str s =>
    cases h2 with
    | int k j =>
      obtain ⟨h0, hj, hk⟩ := hk
      have hlt : j.toNat < s.size := by simp at hj; omega
      refine LV.same (v := .int .u8 (bt s.data.toList j.toNat)) ?_ hs (.int _ _) hk
      have e : s[j.toNat]? = some s[j.toNat] := getElem?_pos s j.toNat hlt
      have eb : bt s.data.toList j.toNat = ((s[j.toNat]'hlt).toNat : Int) := by
        have : s.data.toList.getD j.toNat 0 = s[j.toNat]'hlt := by
          rw [List.getD_eq_getElem?_getD, List.getElem?_eq_getElem (by simpa using hlt)]; rfl
        unfold bt; rw [this]
      simp [index, asIntOf, run_underlying hu, h0, e, eb]
    | _ => exact hk.elim
  | _ => exact hk.elim

theorem extr_lv {v : Value} {d : DV} {n : Nat} (hs : SRep E C a w ok β st) (h : Rep w ok β v d)
    (hk : match d with
      | .tup l => ∃ d, l[n]? = some d ∧ K d st
      | _ => False) : LV E C a K (extract v n) w := by
  cases h with
  | tup vs ds hl hh =>
    obtain ⟨d, hd, hk⟩ := hk
    have hn : n < vs.length := by
      rcases Nat.lt_or_ge n ds.length with hlt | hge
      · omega
      · rw [List.getElem?_eq_none hge] at hd; cases hd
    refine LV.same (v := vs[n]) ?_ hs (hh n _ d (List.getElem?_eq_getElem hn) hd) hk
    simp [extract, List.getElem?_eq_getElem hn]
  | _ => exact hk.elim

theorem len_lv {t : TypeId} {T : Array TypeId} {td : TypeDesc} {k : Bool} (hT : T[0]? = some t) (hu : E.P.underlying t = some td) (htd : (td = .string ∧ k = true) ∨ ∃ e, td = .slice e ∧ k = false) {ty : TypeId} {v : Value} {x : AX}
    (hs : SRep E C a w ok β st) (h : Rep w ok β v (x.ev st.fr)) (hk : aop E (.len k x) K st) : LV E C a K (Builtin.len_ T ty #[v]) w := by
  simp only [aop] at hk
  generalize x.ev st.fr = d at h hk
  have hsl : k = false → ∃ e, td = .slice e := fun h => by
    rcases htd with ⟨_, h2⟩ | ⟨e, h2, _⟩
    · subst h2; cases h
    · exact ⟨e, h2⟩
  cases h with
  | str s =>
    obtain ⟨hk0, hk⟩ := hk
    have : td = .string := by rcases htd with ⟨h1, _⟩ | ⟨_, _, h⟩; exact h1; rw [h] at hk0; cases hk0
    subst this
    refine LV.same (v := .int .i64 s.data.toList.length) ?_ hs (.int _ _) hk
    simp [Builtin.len_, hT, run_underlying hu, goInt]
  | sl A n c sz es b x vs hn =>
    obtain ⟨hk0, hk⟩ := hk
    obtain ⟨e, rfl⟩ := hsl hk0
    refine LV.same (v := .int .i64 es.length) ?_ hs (.int _ _) hk
    simp [Builtin.len_, hT, run_underlying hu, goInt, hn]
  | osl sz l off n c b x y =>
    obtain ⟨hk0, hk⟩ := hk
    obtain ⟨e, rfl⟩ := hsl hk0
    refine LV.same (v := .int .i64 n) ?_ hs (.int _ _) hk
    simp [Builtin.len_, hT, run_underlying hu, goInt]
  | oslnil sz l off =>
    obtain ⟨hk0, hk⟩ := hk
    obtain ⟨e, rfl⟩ := hsl hk0
    refine LV.same (v := .int .i64 (0 : Nat)) ?_ hs (.int _ _) hk
    simp [Builtin.len_, hT, run_underlying hu, goInt]
  | nils sz =>
    obtain ⟨hk0, hk⟩ := hk
    obtain ⟨e, rfl⟩ := hsl hk0
    refine LV.same (v := .int .i64 0) ?_ hs (.int _ _) hk
    simp [Builtin.len_, hT, run_underlying hu, goInt]
  | emp0 c sz =>
    obtain ⟨hk0, hk⟩ := hk
    obtain ⟨e, rfl⟩ := hsl hk0
    refine LV.same (v := .int .i64 0) ?_ hs (.int _ _) hk
    simp [Builtin.len_, hT, run_underlying hu, goInt]
  | emp1 A c sz =>
    obtain ⟨hk0, hk⟩ := hk
    obtain ⟨e, rfl⟩ := hsl hk0
    refine LV.same (v := .int .i64 0) ?_ hs (.int _ _) hk
    simp [Builtin.len_, hT, run_underlying hu, goInt]
  | _ => exact hk.elim
end
end Go.Ai

/- Operations, third part: parts of texts and rows, conversions, iterators. -/
namespace Go.Ai
open Go.Instr
section
variable {E : Env} {C : Ctx} {a : Act} {w : World} {ok : Nat → Prop} {β : Loc} {st : St} {K : DV → St → Prop}

theorem flatten_drop {sz : Nat} : ∀ {es : List (List DV)} (_ : ∀ e ∈ es, e.length = sz) (i : Nat), (es.drop i).flatten = es.flatten.drop (i * sz)
  | [], _, i => by simp
  | e :: es, h, 0 => by simp
  | e :: es, h, i + 1 => by
    have h0 : e.length = sz := h e (by simp)
    have hd : e.drop ((i + 1) * sz) = [] := List.drop_eq_nil_of_le (by rw [h0, Nat.succ_mul]; omega)
    rw [List.drop_succ_cons, flatten_drop (fun e he => h e (by simp [he])) i, List.flatten_cons, List.drop_append, hd, List.nil_append]
    congr 1
    rw [h0, Nat.succ_mul]; omega
theorem flatten_take {sz : Nat} : ∀ {es : List (List DV)} (_ : ∀ e ∈ es, e.length = sz) (i : Nat), (es.take i).flatten = es.flatten.take (i * sz)
  | [], _, i => by simp
  | e :: es, h, 0 => by simp
  | e :: es, h, i + 1 => by
    have h0 : e.length = sz := h e (by simp)
    rw [List.take_succ_cons, List.flatten_cons, flatten_take (fun e he => h e (by simp [he])) i, List.flatten_cons, List.take_append, List.take_of_length_le (l := e) (by rw [h0, Nat.succ_mul]; omega)]
    congr 2
    rw [h0, Nat.succ_mul]; omega

theorem cut_get {sz : Nat} {es : List (List DV)} (h : ∀ e ∈ es, e.length = sz) (i n k : Nat) (d : DV) (hd : ((es.drop i).take n).flatten[k]? = some d) : es.flatten[i * sz + k]? = some d := by
  rw [flatten_take (fun e he => h e (List.mem_of_mem_drop he)), flatten_drop h, List.getElem?_take] at hd
  split at hd
  · rwa [List.getElem?_drop] at hd
  · cases hd

/-- What is said of a slice's bounds, and what the machine makes of them. -/
theorem bnd_run {ρ : Operand → Value} {lo hi : Option AX} {lo' hi' : Option Operand} (hlo : ∀ x, lo = some x → ∃ y, lo' = some y ∧ Rep w ok β (ρ y) (x.ev st.fr)) (hlo' : lo = none → lo' = none)
    (hhi : ∀ x, hi = some x → ∃ y, hi' = some y ∧ Rep w ok β (ρ y) (x.ev st.fr)) (hhi' : hi = none → hi' = none) (n c : Nat) (hnc : n ≤ c) (isS : Bool) {Q : Nat → Nat → Prop} (h : bnd st.fr lo hi n c Q) (P : Program) :
    ∃ i j, i ≤ j ∧ j ≤ c ∧ (hi = none → j = n) ∧ Q i j ∧ (sliceBounds isS n c (lo'.map ρ) (hi'.map ρ) none).run P w = .ok (i, j, c) w := by
  unfold bnd at h
  cases lo with
  | none =>
    have := hlo' rfl
    subst this
    cases hi with
    | none =>
      have := hhi' rfl
      subst this
      exact ⟨0, n, Nat.zero_le _, hnc, fun _ => rfl, h, by simp [sliceBounds]⟩
    | some y =>
      obtain ⟨y', rfl, hy⟩ := hhi y rfl
      simp only at h
      generalize AX.ev st.fr y = d at h hy
      cases d <;> (try exact h.elim)
      obtain ⟨h0, h1, hq⟩ := h
      have := hy.int_inv
      refine ⟨0, _, Nat.zero_le _, by omega, (fun e => by cases e), hq, ?_⟩
      simp [sliceBounds, sliceBound, asIntOf, this, h0, h1]
  | some x =>
    obtain ⟨x', rfl, hx⟩ := hlo x rfl
    cases hi with
    | none =>
      have := hhi' rfl
      subst this
      simp only at h
      generalize AX.ev st.fr x = d at h hx
      cases d <;> (try exact h.elim)
      obtain ⟨h0, h1, hq⟩ := h
      have := hx.int_inv
      refine ⟨_, n, by omega, hnc, fun _ => rfl, hq, ?_⟩
      simp [sliceBounds, sliceBound, asIntOf, this, h0, h1]
    | some y =>
      obtain ⟨y', rfl, hy⟩ := hhi y rfl
      simp only at h
      generalize AX.ev st.fr x = d at h hx
      generalize AX.ev st.fr y = d' at h hy
      cases d <;> cases d' <;> (try exact h.elim)
      obtain ⟨h0, h1, h2, hq⟩ := h
      have e1 := hx.int_inv
      have e2 := hy.int_inv
      rename_i k i k' j
      have h3 : i ≤ (j.toNat : Int) := by omega
      refine ⟨_, _, by omega, by omega, (fun e => by cases e), hq, ?_⟩
      have h4 : 0 ≤ j := by omega
      simp [sliceBounds, sliceBound, asIntOf, e1, e2, h0, h2, h4]
      omega

theorem bnd_mono {lo hi : Option AX} {n c c' : Nat} (hc : c ≤ c') {Q : Nat → Nat → Prop} {fr : Nat → DV} (h : bnd fr lo hi n c Q) : bnd fr lo hi n c' Q := by
  unfold bnd at *
  cases lo with
  | none =>
    cases hi with
    | none => exact h
    | some y =>
      simp only at *
      generalize AX.ev fr y = d at *
      cases d <;> (try exact h.elim)
      exact ⟨h.1, by have := h.2.1; omega, h.2.2⟩
  | some x =>
    cases hi with
    | none => exact h
    | some y =>
      simp only at *
      generalize AX.ev fr x = d at *
      generalize AX.ev fr y = d' at *
      cases d <;> cases d' <;> (try exact h.elim)
      exact ⟨h.1, h.2.1, by have := h.2.2.1; omega, h.2.2.2⟩

theorem bnd_le {lo hi : Option AX} {n : Nat} {Q : Nat → Nat → Prop} {fr : Nat → DV} (h : bnd fr lo hi n n Q) : bnd fr lo hi n n (fun i j => j ≤ n ∧ Q i j) := by
  unfold bnd at *
  cases lo with
  | none =>
    cases hi with
    | none => exact ⟨Nat.le_refl _, h⟩
    | some y =>
      simp only at *
      generalize AX.ev fr y = d at *
      cases d <;> (try exact h.elim)
      exact ⟨h.1, h.2.1, by have := h.2.1; omega, h.2.2⟩
  | some x =>
    cases hi with
    | none =>
      simp only at *
      generalize AX.ev fr x = d at *
      cases d <;> (try exact h.elim)
      exact ⟨h.1, h.2.1, Nat.le_refl _, h.2.2⟩
    | some y =>
      simp only at *
      generalize AX.ev fr x = d at *
      generalize AX.ev fr y = d' at *
      cases d <;> cases d' <;> (try exact h.elim)
      exact ⟨h.1, h.2.1, h.2.2.1, by have := h.2.2.1; omega, h.2.2.2⟩

theorem extract_list (s : ByteArray) (i j : Nat) : (s.extract i j).data.toList = (s.data.toList.drop i).take (j - i) := by
  rw [ByteArray.data_extract, Array.toList_extract, List.extract_eq_take_drop]

theorem slice_lv {t : TypeId} {td : TypeDesc} (hu : E.P.underlying t = some td) {k : Option Nat} (htd : (td = .string ∧ k = none) ∨ ∃ e i, td = .slice e ∧ E.P.info? e = some i ∧ k = some i.size) {ρ : Operand → Value} {x : AX} {lo hi : Option AX} {lo' hi' : Option Operand}
    (hlo : ∀ x, lo = some x → ∃ y, lo' = some y ∧ Rep w ok β (ρ y) (x.ev st.fr)) (hlo' : lo = none → lo' = none)
    (hhi : ∀ x, hi = some x → ∃ y, hi' = some y ∧ Rep w ok β (ρ y) (x.ev st.fr)) (hhi' : hi = none → hi' = none) {v : Value}
    (hs : SRep E C a w ok β st) (h : Rep w ok β v (x.ev st.fr)) (hk : aop E (.slice k x lo hi) K st) : LV E C a K (sliceAt t v (lo'.map ρ) (hi'.map ρ) none) w := by
  simp only [aop] at hk
  generalize x.ev st.fr = d at h hk
  have hsl : k.isSome = true → ∃ e i, td = .slice e ∧ E.P.info? e = some i ∧ k = some i.size := fun h => by
    rcases htd with ⟨_, h2⟩ | h2
    · subst h2; cases h
    · exact h2
  have hrunS : ∀ (i : TypeInfo) (e : TypeId) (A : Option Addr) (n c p q : Nat), td = .slice e → E.P.info? e = some i → (sliceBounds true n c (lo'.map ρ) (hi'.map ρ) none).run E.P w = .ok (p, q, c) w →
      (sliceAt t (.slice A n c) (lo'.map ρ) (hi'.map ρ) none).run E.P w = .ok (.slice (if c = p then A else A.map (·.add (p * i.size))) (q - p) (c - p)) w := fun i e A n c p q ht hi hr => by
    subst ht
    simp [sliceAt, slice, run_underlying hu, hr, sizeOf, typeInfo, hi]
  cases h with
  | str s =>
    obtain ⟨hk0, hk⟩ := hk
    subst hk0
    have : td = .string := by rcases htd with ⟨h1, _⟩ | ⟨_, _, _, _, h⟩; exact h1; cases h
    subst this
    obtain ⟨p, q, h1, h2, _, hq, hr⟩ := bnd_run hlo hlo' hhi hhi' s.data.toList.length s.data.toList.length (Nat.le_refl _) false hk E.P
    refine LV.same (v := .string (s.extract p q)) ?_ hs (str_mk _ _ (extract_list s p q)) hq
    have hr' : (sliceBounds false s.size s.size (lo'.map ρ) (hi'.map ρ) none).run E.P w = .ok (p, q, s.data.toList.length) w := by simpa using hr
    simp [sliceAt, slice, run_underlying hu, hr']
  | sl A n c sz es b x vs hn hnc hsz hes hA hc h1 hh =>
    obtain ⟨hk0, hk⟩ := hk
    subst hk0
    obtain ⟨e, i, ht, hinf, he0⟩ := hsl rfl
    have he : sz = i.size := by injection he0
    subst hn
    have hk' : bnd st.fr lo hi es.length c fun i j => j ≤ es.length ∧ K (.sl sz ((es.drop i).take (j - i))) st := bnd_mono hnc (bnd_le hk)
    obtain ⟨p, q, h1', h2', _, ⟨hqn, hq⟩, hr⟩ := bnd_run hlo hlo' hhi hhi' es.length c hnc true hk' E.P
    refine LV.same (hrunS i e A es.length c p q ht hinf hr) hs ?_ hq
    have hlen : ((es.drop p).take (q - p)).length = q - p := by rw [List.length_take, List.length_drop]; omega
    have hbd : ∀ k, k < (q - p) * sz → p * sz + k < es.length * sz := fun k hk => by
      have : q * sz ≤ es.length * sz := Nat.mul_le_mul_right _ hqn
      have e3 : q * sz = p * sz + (q - p) * sz := by rw [← Nat.add_mul]; congr 1; omega
      omega
    refine .sl _ _ _ sz _ b (x + p * sz) (fun k => vs (p * sz + k)) hlen.symm (by omega) hsz (fun e he => hes e (List.mem_of_mem_drop (List.mem_of_mem_take he))) (fun hp => ?_)
      (fun k hk => by rw [Nat.add_assoc]; exact hc _ (hbd k hk)) (fun k hk => h1 _ (hbd k hk)) (fun k d hd => hh _ d (cut_get hes p _ k d hd))
    obtain ⟨hA1, hA2⟩ := hA (by omega)
    refine ⟨?_, hA2⟩
    rw [if_neg (by omega), hA1]
    simp only [Option.map_some, add_mk, he]
  | oslnil sz l off cap hcap hz =>
    have hk0 : k = some sz := by cases cap <;> exact hk.1
    subst hk0
    obtain ⟨e, i, ht, hinf, he0⟩ := hsl rfl
    have h0 : ∃ p q, p = 0 ∧ q = 0 ∧ K (.osl sz l (off + p) (q - p) (cap.map (· - p))) st ∧ (sliceBounds true 0 0 (lo'.map ρ) (hi'.map ρ) none).run E.P w = .ok (p, q, 0) w := by
      cases cap with
      | none =>
        obtain ⟨p, q, h1, h2, _, hq, hr⟩ := bnd_run hlo hlo' hhi hhi' 0 0 (Nat.le_refl _) true hk.2 E.P
        exact ⟨p, q, by omega, by omega, hq, hr⟩
      | some c =>
        have := hcap c rfl
        subst this
        obtain ⟨p, q, h1, h2, _, hq, hr⟩ := bnd_run hlo hlo' hhi hhi' 0 0 (Nat.le_refl _) true hk.2 E.P
        exact ⟨p, q, by omega, by omega, hq, hr⟩
    obtain ⟨p, q, rfl, rfl, hq, hr⟩ := h0
    refine LV.same (hrunS i e none 0 0 0 0 ht hinf hr) hs ?_ hq
    exact .oslnil _ _ _ _ (fun k hk => by
      cases cap with
      | none => cases hk
      | some c => have := hcap c rfl; subst this; simp at hk; omega) hz
  | nils sz hz =>
    obtain ⟨hk0, hk⟩ := hk
    obtain ⟨e, i, ht, hinf, he0⟩ := hsl hk0
    obtain ⟨p, q, h1, h2, _, hq, hr⟩ := bnd_run hlo hlo' hhi hhi' 0 0 (Nat.le_refl _) true hk E.P
    obtain rfl : p = 0 := by omega
    obtain rfl : q = 0 := by omega
    exact LV.same (hrunS i e none 0 0 0 0 ht hinf hr) hs (.nils sz hz) hq
  | osl sz l off n c b x y ty m hb hnc hsz hy hm' hr' cap hcap =>
    have hk0 : k = some sz := by cases cap <;> exact hk.1
    subst hk0
    obtain ⟨e, i, ht, hinf, he0⟩ := hsl rfl
    have he : sz = i.size := by injection he0
    have h0 : ∃ p q, p ≤ q ∧ q ≤ c ∧ K (.osl sz l (off + p) (q - p) (cap.map (· - p))) st ∧ (sliceBounds true n c (lo'.map ρ) (hi'.map ρ) none).run E.P w = .ok (p, q, c) w := by
      cases cap with
      | none =>
        have hk' : bnd st.fr lo hi n c fun i j => K (.osl sz l (off + i) (j - i) none) st := bnd_mono hnc hk.2
        obtain ⟨p, q, h1, h2, _, hq, hr⟩ := bnd_run hlo hlo' hhi hhi' n c hnc true hk' E.P
        exact ⟨p, q, h1, h2, hq, hr⟩
      | some c' =>
        have := hcap c' rfl
        subst this
        obtain ⟨p, q, h1, h2, _, hq, hr⟩ := bnd_run hlo hlo' hhi hhi' n c hnc true hk.2 E.P
        exact ⟨p, q, h1, h2, hq, hr⟩
    obtain ⟨p, q, h1, h2, hq, hr⟩ := h0
    refine LV.same (hrunS i e (some ⟨b, y, none⟩) n c p q ht hinf hr) hs ?_ hq
    have hcap' : ∀ k, cap.map (· - p) = some k → c - p = k := fun k hk => by
      cases cap with
      | none => cases hk
      | some c' => have := hcap c' rfl; subst this; simpa using hk
    by_cases hcp : c = p
    · rw [if_pos hcp]
      exact .osl sz l (off + p) (q - p) (c - p) b x y ty m hb (by omega) hsz (fun h => by omega) hm' (fun h => by omega) _ hcap'
    · rw [if_neg hcp]
      have hy' := hy (by omega)
      subst hy'
      simp only [Option.map_some, add_mk]
      refine .osl sz l (off + p) (q - p) (c - p) b x _ ty m hb (by omega) hsz (fun h => ?_) hm' (fun h => ?_) _ hcap'
      · rw [he, Nat.add_mul]; omega
      · have := hr' (by omega)
        have e2 : off + p + (c - p) = off + c := by omega
        rw [e2]; exact this
  | _ => exact hk.elim
end
end Go.Ai
