/- Steps by rewriting: what comes next stands as data, so nothing is reckoned ahead of its time. -/
import Derived.Test.YtbhlmbacgbfaoaaDoorAiStep
set_option linter.all false
namespace Go.Ai

/-- One of two, of which nothing is looked at ahead of the choice. -/
def sel {α : Type} (b : Bool) (x y : α) : α := bif b then x else y
@[congr] theorem sel_congr {α : Type} {b b' : Bool} {x y : α} (h : b = b') : sel b x y = sel b' x y := by rw [h]
theorem sel_true {α : Type} {x y : α} : sel true x y = x := rfl
theorem sel_false {α : Type} {x y : α} : sel false x y = y := rfl
def setS (t : Nat) (d : DV) : List (Nat × DV) → List (Nat × DV)
  | [] => [(t, d)]
  | (s, e) :: L => sel (s == t) ((s, d) :: L) ((s, e) :: setS t d L)
theorem slots_setS (t : Nat) (d : DV) : ∀ L : List (Nat × DV), slots (setS t d L) = upd t d (slots L)
  | [] => by funext s; simp [setS, slots, upd]
  | (u, e) :: L => by
    funext s
    by_cases h : u = t
    · subst h
      simp only [setS, beq_self_eq_true, sel_true, slots, upd]
      split <;> rfl
    · have : (u == t) = false := by simpa using h
      simp only [setS, this, sel_false, slots, slots_setS t d L, upd]
      by_cases h1 : s = u
      · have : s ≠ t := fun e => h (h1 ▸ e)
        simp [h1]
        intro e; exact absurd e h
      · simp [h1]
def slotAt : List (Nat × DV) → Nat → DV
  | [], _ => .undef
  | (t, d) :: L, s => sel (s == t) d (slotAt L s)
theorem slots_at : ∀ (L : List (Nat × DV)) (s : Nat), slots L s = slotAt L s
  | [], _ => rfl
  | (t, d) :: L, s => by
    simp only [slots, slotAt, slots_at L s]
    by_cases h : s = t
    · simp [h, sel_true]
    · have : (s == t) = false := by simpa using h
      simp [h, this, sel_false]

/-- What comes next. -/
inductive Fr where
  | seq (b : ACode)
  | block (id : Nat)
  | inv (Q : St → Prop)
def kont (E : Env) (m0 : Nat) (post : AExit → St → Prop) : List Fr → AExit → St → Prop
  | [] => post
  | .seq b :: ks => fun e st => match e with | .normal => awp E m0 b (kont E m0 post ks) st | e => kont E m0 post ks e st
  | .block id :: ks => fun e st => match e with | .exit id' => if id' = id then kont E m0 post ks .normal st else kont E m0 post ks (.exit id') st | e => kont E m0 post ks e st
  | .inv Q :: ks => fun e st => match e with | .normal => Q st | e => kont E m0 post ks e st

def sta (L : List (Nat × DV)) (h : List AObj) : St := ⟨slots L, h⟩
def goN (E : Env) (m0 : Nat) (post : AExit → St → Prop) (ks : List Fr) (c : ACode) (L : List (Nat × DV)) (h : List AObj) : Prop := awp E m0 c (kont E m0 post ks) (sta L h)
def goK (E : Env) (m0 : Nat) (post : AExit → St → Prop) (ks : List Fr) (e : AExit) (L : List (Nat × DV)) (h : List AObj) : Prop := kont E m0 post ks e (sta L h)
def goO (E : Env) (m0 : Nat) (post : AExit → St → Prop) (ks : List Fr) (l : List AOper) (L : List (Nat × DV)) (h : List AObj) : Prop := aops E l (kont E m0 post ks .normal) (sta L h)
/-- Behind an operation. -/
def kop (E : Env) (m0 : Nat) (post : AExit → St → Prop) (ks : List Fr) (o : AOper) (l : List AOper) (d : DV) (st : St) : Prop := gen o.op d fun d => aops E l (kont E m0 post ks .normal) (st.put o.dst d)

section
variable {E : Env} {m0 : Nat} {post : AExit → St → Prop} {ks : List Fr} {L : List (Nat × DV)} {h : List AObj} {l : List AOper} {o : AOper}
theorem goN_skip : goN E m0 post ks .skip L h = goK E m0 post ks .normal L h := rfl
theorem goN_exit {id : Nat} : goN E m0 post ks (.exit id) L h = goK E m0 post ks (.exit id) L h := rfl
theorem goN_ret : goN E m0 post ks .ret L h = goK E m0 post ks .ret L h := rfl
theorem goN_region {d : Bool} : goN E m0 post ks (.region d l) L h = goO E m0 post ks l L h := rfl
theorem goN_seq {a b : ACode} : goN E m0 post ks (.seq a b) L h = goN E m0 post (.seq b :: ks) a L h := rfl
theorem goN_block {id : Nat} {b : ACode} : goN E m0 post ks (.block id b) L h = goN E m0 post (.block id :: ks) b L h := rfl
def condP (d : DV) (p q : Prop) : Prop := match d with | .bool true => p | .bool false => q | _ => False
theorem goN_cond {c : AX} {a b : ACode} : goN E m0 post ks (.cond c a b) L h = condP (c.ev (slots L)) (goN E m0 post ks a L h) (goN E m0 post ks b L h) := by
  unfold goN
  simp only [awp, sta]
  generalize c.ev (slots L) = d
  cases d <;> first | rfl | skip
  rename_i t
  cases t <;> rfl
theorem condP_true {p q : Prop} : condP (.bool true) p q = p := rfl
theorem condP_false {p q : Prop} : condP (.bool false) p q = q := rfl
theorem goK_seq {b : ACode} : goK E m0 post (.seq b :: ks) .normal L h = goN E m0 post ks b L h := rfl
theorem goK_seq_exit {b : ACode} {id : Nat} : goK E m0 post (.seq b :: ks) (.exit id) L h = goK E m0 post ks (.exit id) L h := rfl
theorem goK_seq_ret {b : ACode} : goK E m0 post (.seq b :: ks) .ret L h = goK E m0 post ks .ret L h := rfl
theorem goK_block {id : Nat} : goK E m0 post (.block id :: ks) .normal L h = goK E m0 post ks .normal L h := rfl
theorem goK_block_ret {id : Nat} : goK E m0 post (.block id :: ks) .ret L h = goK E m0 post ks .ret L h := rfl
theorem goK_block_exit {id id' : Nat} : goK E m0 post (.block id :: ks) (.exit id') L h = sel (id' == id) (goK E m0 post ks .normal L h) (goK E m0 post ks (.exit id') L h) := by
  unfold goK
  simp only [kont]
  by_cases e : id' = id
  · simp [e, sel_true]
  · have : (id' == id) = false := by simpa using e
    simp [e, this, sel_false]
theorem goK_inv {Q : St → Prop} : goK E m0 post (.inv Q :: ks) .normal L h = Q (sta L h) := rfl
theorem goK_inv_exit {Q : St → Prop} {id : Nat} : goK E m0 post (.inv Q :: ks) (.exit id) L h = goK E m0 post ks (.exit id) L h := rfl
theorem goK_inv_ret {Q : St → Prop} : goK E m0 post (.inv Q :: ks) .ret L h = goK E m0 post ks .ret L h := rfl
theorem goO_nil : goO E m0 post ks [] L h = goK E m0 post ks .normal L h := rfl
theorem goO_op {dst : Option Nat} {op : AOp} : goO E m0 post ks (⟨dst, op, none⟩ :: l) L h = aop E op (kop E m0 post ks ⟨dst, op, none⟩ l) (sta L h) := rfl
def guardP (d : DV) (want : Bool) (p q : Prop) : Prop := match d with | .bool b => (bif b == want then p else q) | .tup [] => q | _ => False
theorem goO_guard {dst : Option Nat} {op : AOp} {g : Nat} {want : Bool} : goO E m0 post ks (⟨dst, op, some (g, want)⟩ :: l) L h =
    guardP (slots L g) want (aop E op (kop E m0 post ks ⟨dst, op, some (g, want)⟩ l) (sta L h)) (aops E l (kont E m0 post ks .normal) ((sta L h).put dst (.tup []))) := by
  unfold goO
  simp only [aops, AOper.run, sta]
  generalize slots L g = d
  cases d <;> first | rfl | skip
theorem guardP_true {b : Bool} {p q : Prop} : guardP (.bool b) b p q = p := by simp [guardP]
theorem guardP_tt {p q : Prop} : guardP (.bool true) true p q = p := rfl
theorem guardP_tf {p q : Prop} : guardP (.bool true) false p q = q := rfl
theorem guardP_ft {p q : Prop} : guardP (.bool false) true p q = q := rfl
theorem guardP_ff {p q : Prop} : guardP (.bool false) false p q = p := rfl
theorem guardP_skip {want : Bool} {p q : Prop} : guardP (.tup []) want p q = q := rfl
@[congr] theorem guardP_congr {d d' : DV} {w : Bool} {p q : Prop} (h : d = d') : guardP d w p q = guardP d' w p q := by rw [h]
@[congr] theorem condP_congr {d d' : DV} {p q : Prop} (h : d = d') : condP d p q = condP d' p q := by rw [h]
theorem put_some {t : Nat} {d : DV} : (sta L h).put (some t) d = sta (setS t d L) h := by simp [sta, St.put, slots_setS]
theorem put_none {d : DV} : (sta L h).put none d = sta L h := rfl
theorem sta_fr : (sta L h).fr = slots L := rfl
theorem sta_h : (sta L h).h = h := rfl
theorem sta_mk : (⟨slots L, h⟩ : St) = sta L h := rfl
theorem aops_go : aops E l (kont E m0 post ks .normal) (sta L h) = goO E m0 post ks l L h := rfl
/-- What was reckoned, or not. -/
theorem kop_int_bin {dst : Option Nat} {bo : BinOp} {ty : Ty} {x y : AX} {g : Option (Nat × Bool)} {k : IntKind} {n : Int} {st : St} :
    kop E m0 post ks ⟨dst, .bin bo ty x y, g⟩ l (.int k n) st = ∀ v, v = n → aops E l (kont E m0 post ks .normal) (st.put dst (.int k v)) := rfl
theorem kop_int_un {dst : Option Nat} {u : UnOp} {x : AX} {g : Option (Nat × Bool)} {k : IntKind} {n : Int} {st : St} :
    kop E m0 post ks ⟨dst, .un u x, g⟩ l (.int k n) st = ∀ v, v = n → aops E l (kont E m0 post ks .normal) (st.put dst (.int k v)) := rfl
theorem kop_int_conv {dst : Option Nat} {cv : CV} {x : AX} {g : Option (Nat × Bool)} {k : IntKind} {n : Int} {st : St} :
    kop E m0 post ks ⟨dst, .conv cv x, g⟩ l (.int k n) st = ∀ v, v = n → aops E l (kont E m0 post ks .normal) (st.put dst (.int k v)) := rfl
theorem kop_bool_bin {dst : Option Nat} {bo : BinOp} {ty : Ty} {x y : AX} {g : Option (Nat × Bool)} {b : Bool} {st : St} :
    kop E m0 post ks ⟨dst, .bin bo ty x y, g⟩ l (.bool b) st = ((b = true → aops E l (kont E m0 post ks .normal) (st.put dst (.bool true))) ∧ (b = false → aops E l (kont E m0 post ks .normal) (st.put dst (.bool false)))) := rfl
theorem kop_bool_un {dst : Option Nat} {u : UnOp} {x : AX} {g : Option (Nat × Bool)} {b : Bool} {st : St} :
    kop E m0 post ks ⟨dst, .un u x, g⟩ l (.bool b) st = ((b = true → aops E l (kont E m0 post ks .normal) (st.put dst (.bool true))) ∧ (b = false → aops E l (kont E m0 post ks .normal) (st.put dst (.bool false)))) := rfl
def DV.con : DV → Bool := fun d => match d with
  | .int _ _ | .bool _ | .str _ | .agg _ | .tup _ | .nilp | .ptr _ _ | .aptr _ _ _ _ | .eptr _ _ | .nils _ | .sl _ _ | .osl _ _ _ _ _ | .fn _ _ | .nilfn | .self _ _ _ | .hdr _ _ _ | .undef => true
theorem con_int {k : IntKind} {n : Int} : DV.con (.int k n) = true := rfl
theorem con_bool {b : Bool} : DV.con (.bool b) = true := rfl
theorem con_str {s : List UInt8} : DV.con (.str s) = true := rfl
theorem con_agg {x : List DV} : DV.con (.agg x) = true := rfl
theorem con_tup {x : List DV} : DV.con (.tup x) = true := rfl
theorem con_nilp : DV.con .nilp = true := rfl
theorem con_ptr {a b : Nat} : DV.con (.ptr a b) = true := rfl
theorem con_aptr {a b c d : Nat} : DV.con (.aptr a b c d) = true := rfl
theorem con_eptr {x : List DV} {b : Nat} : DV.con (.eptr x b) = true := rfl
theorem con_nils {n : Nat} : DV.con (.nils n) = true := rfl
theorem con_sl {n : Nat} {x : List (List DV)} : DV.con (.sl n x) = true := rfl
theorem con_osl {a b c d : Nat} {e : Option Nat} : DV.con (.osl a b c d e) = true := rfl
theorem con_fn {n : Nat} {x : List DV} : DV.con (.fn n x) = true := rfl
theorem con_nilfn : DV.con .nilfn = true := rfl
theorem con_self {a b c : Nat} : DV.con (.self a b c) = true := rfl
theorem con_hdr {a b c : Nat} : DV.con (.hdr a b c) = true := rfl
theorem con_undef : DV.con .undef = true := rfl
/-- Does what it reckons get a name? -/
def nm : AOp → Bool
  | .bin .. | .un .. | .conv .. | .mx _ | .mn _ => true
  | _ => false
theorem nm_mov (x : AX) : nm (.mov x) = false := rfl
theorem nm_set (x : AX) : nm (.set x) = false := rfl
theorem nm_newnil (n : Nat) : nm (.newnil n) = false := rfl
theorem nm_pick (a b c : AX) : nm (.pick a b c) = false := rfl
theorem nm_box (x : AX) : nm (.box x) = false := rfl
theorem nm_alloc (z : List DV) : nm (.alloc z) = false := rfl
theorem nm_allocb (t e : Nat) : nm (.allocb t e) = false := rfl
theorem nm_build (z : List DV) (p : List (Nat × Nat × AX)) : nm (.build z p) = false := rfl
theorem nm_bslice (b : Bool) (n : Nat) (p : List AX) : nm (.bslice b n p) = false := rfl
theorem nm_load (a : Option Nat) (x : AX) : nm (.load a x) = false := rfl
theorem nm_store (b : Bool) (n : Nat) (x y : AX) : nm (.store b n x y) = false := rfl
theorem nm_nilchk (x : AX) : nm (.nilchk x) = false := rfl
theorem nm_mkfn (f : Nat) (c : List AX) : nm (.mkfn f c) = false := rfl
theorem nm_mkslice (a b : Nat) (z : List DV) (l c : AX) : nm (.mkslice a b z l c) = false := rfl
theorem nm_slice (k : Option Nat) (x : AX) (lo hi : Option AX) : nm (.slice k x lo hi) = false := rfl
theorem nm_faddr (n : Nat) (x : AX) : nm (.faddr n x) = false := rfl
theorem nm_field (n : Nat) (a : Option Nat) (x : AX) : nm (.field n a x) = false := rfl
theorem nm_iaddr (n : Nat) (x i : AX) : nm (.iaddr n x i) = false := rfl
theorem nm_sidx (x i : AX) : nm (.sidx x i) = false := rfl
theorem nm_range (x : AX) : nm (.range x) = false := rfl
theorem nm_next (x : AX) : nm (.next x) = false := rfl
theorem nm_extr (x : AX) (i : Nat) : nm (.extr x i) = false := rfl
theorem nm_call (b : Bool) (f : Nat) (l : List AX) : nm (.call b f l) = false := rfl
theorem nm_callv (b : Bool) (x : AX) (l : List AX) : nm (.callv b x l) = false := rfl
theorem nm_len (b : Bool) (x : AX) : nm (.len b x) = false := rfl
theorem nm_cap (x : AX) : nm (.cap x) = false := rfl
theorem nm_appendz (a b : Nat) (z : List DV) (x y : AX) : nm (.appendz a b z x y) = false := rfl
theorem nm_append (a b : Nat) (x y : AX) : nm (.append a b x y) = false := rfl
theorem kop_go {dst : Option Nat} {op : AOp} {g : Option (Nat × Bool)} {d : DV} {st : St} (h1 : (d.con && !nm op) = true) : kop E m0 post ks ⟨dst, op, g⟩ l d st = aops E l (kont E m0 post ks .normal) (st.put dst d) := by
  have h2 : nm op = false := by rw [Bool.and_eq_true] at h1; simpa using h1.2
  unfold kop gen
  simp only
  split <;> first | rfl | (simp [nm] at h2)
theorem kop_str {s : List UInt8} {st : St} : kop E m0 post ks o l (.str s) st = aops E l (kont E m0 post ks .normal) (st.put o.dst (.str s)) := by
  obtain ⟨dst, op, g⟩ := o
  cases op <;> rfl
theorem kop_osl {a b c d : Nat} {e : Option Nat} {st : St} : kop E m0 post ks o l (.osl a b c d e) st = aops E l (kont E m0 post ks .normal) (st.put o.dst (.osl a b c d e)) := by
  obtain ⟨dst, op, g⟩ := o
  cases op <;> rfl
theorem kop_int_mx {dst : Option Nat} {x : List AX} {g : Option (Nat × Bool)} {k : IntKind} {n : Int} {st : St} :
    kop E m0 post ks ⟨dst, .mx x, g⟩ l (.int k n) st = ∀ v, v = n → aops E l (kont E m0 post ks .normal) (st.put dst (.int k v)) := rfl
theorem kop_int_mn {dst : Option Nat} {x : List AX} {g : Option (Nat × Bool)} {k : IntKind} {n : Int} {st : St} :
    kop E m0 post ks ⟨dst, .mn x, g⟩ l (.int k n) st = ∀ v, v = n → aops E l (kont E m0 post ks .normal) (st.put dst (.int k v)) := rfl
theorem sta_new {ob : AObj} : (sta L h).new ob = sta L (h ++ [ob]) := rfl
theorem sta_at {i : Nat} {ob : AObj} : (sta L h).at i ob = sta L (h.set i ob) := rfl
end
@[congr] theorem elems_congr {h h' : List AObj} {d d' : DV} {sz : Nat} {K : List (List DV) → Prop} (e1 : h = h') (e2 : d = d') : elems h d sz K = elems h' d' sz K := by rw [e1, e2]
@[congr] theorem bnd_congr {fr : Nat → DV} {lo hi : Option AX} {n n' c c' : Nat} {K : Nat → Nat → Prop} (e1 : n = n') (e2 : c = c') : bnd fr lo hi n c K = bnd fr lo hi n' c' K := by rw [e1, e2]
@[congr] theorem bldD_congr {cs cs' : List DV} {l l' : List (Nat × Nat × DV)} {K : List DV → Prop} (e1 : cs = cs') (e2 : l = l') : bldD cs l K = bldD cs' l' K := by rw [e1, e2]
@[congr] theorem shutL_congr {ds ds' : List DV} {st st' : St} {K : List DV → St → Prop} (e1 : ds = ds') (e2 : st = st') : shutL ds st K = shutL ds' st' K := by rw [e1, e2]
theorem map_get_ex {α : Type} {f : α → List DV} {l : List α} {i : Nat} {Q : List DV → Prop} : (∃ e, (l.map f)[i]? = some e ∧ Q e) ↔ ∃ a, l[i]? = some a ∧ Q (f a) := by
  rw [List.getElem?_map]
  constructor
  · rintro ⟨e, h1, h2⟩
    cases hx : l[i]? with
    | none => rw [hx] at h1; cases h1
    | some a => rw [hx] at h1; cases h1; exact ⟨a, rfl, h2⟩
  · rintro ⟨a, h1, h2⟩
    exact ⟨f a, by rw [h1]; rfl, h2⟩
/-- A loop. -/
theorem goN_loop {E : Env} {m0 : Nat} {post : AExit → St → Prop} {ks : List Fr} {b : ACode} {L : List (Nat × DV)} {h : List AObj} {γ : Type} (SL : γ → List (Nat × DV)) (SH : γ → List AObj) (P : γ → Prop) (μ : γ → Nat) (g0 : γ)
    (h0 : Wk m0 (sta L h) (sta (SL g0) (SH g0))) (hp : P g0)
    (round : ∀ g, P g → goN E m0 post (.inv (fun st' => ∃ g', Wk m0 st' (sta (SL g') (SH g')) ∧ P g' ∧ μ g' < μ g) :: ks) b (SL g) (SH g)) : goN E m0 post ks (.loop b) L h := by
  refine ⟨γ, fun g => sta (SL g) (SH g), P, μ, ⟨g0, h0, hp⟩, fun g hg => ?_⟩
  have := round g hg
  unfold goN at this
  have e : kont E m0 post (.inv (fun st' => ∃ g', Wk m0 st' (sta (SL g') (SH g')) ∧ P g' ∧ μ g' < μ g) :: ks) = fun e st' => match e with | .normal => ∃ g', Wk m0 st' (sta (SL g') (SH g')) ∧ P g' ∧ μ g' < μ g | e => kont E m0 post ks e st' := by
    funext e st'; cases e <;> rfl
  rw [e] at this
  exact this
/-- A function's contract, to be stepped through. -/
theorem acalls_go {E : Env} {f : Nat} {af : AFun} (hc : cfun E.P f = some af) {h : List AObj} {args : List DV} {post : List AObj → DV → Prop} (hle : args.length ≤ af.nt)
    (hk : goN E h.length (fin h.length af.res post) [] af.body (args.zipIdx.map fun (d, i) => (i, d)) h) : ACalls E f h args post := by
  refine acalls_of_awp hc hle ?_
  have e : (fun s => args.getD s .undef) = slots (args.zipIdx.map fun (d, i) => (i, d)) := by
    funext s
    have key : ∀ (l : List DV) (k : Nat), slots ((l.zipIdx k).map fun (d, i) => (i, d)) (k + s) = l.getD s .undef := by
      intro l
      induction l generalizing s with
      | nil => intro k; simp [slots]
      | cons d l ih =>
        intro k
        rw [List.zipIdx_cons, List.map_cons]
        simp only [slots]
        cases s with
        | zero => simp
        | succ s =>
          have : ¬ k + (s + 1) = k := by omega
          rw [if_neg this]
          have := ih s (k + 1)
          rw [show k + 1 + s = k + (s + 1) by omega] at this
          rw [this]; simp
    have := key args 0
    rw [Nat.zero_add] at this
    exact this.symm
  rw [e]
  exact hk
end Go.Ai
