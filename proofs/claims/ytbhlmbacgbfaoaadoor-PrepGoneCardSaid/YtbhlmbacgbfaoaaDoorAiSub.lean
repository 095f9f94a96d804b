/- Operands first: an operation with its operands' values put in, and what it does then, case by case. -/
import Derived.Test.YtbhlmbacgbfaoaaDoorAiRun
set_option linter.all false
namespace Go.Ai
def AX.sub (fr : Nat → DV) (x : AX) : AX := .c (x.ev fr)
def AOp.sub (fr : Nat → DV) : AOp → AOp
  | .mov x => .mov (x.sub fr)
  | .set x => .set (x.sub fr)
  | .newnil n => .newnil n
  | .pick c a b => .pick (c.sub fr) (a.sub fr) (b.sub fr)
  | .box x => .box (x.sub fr)
  | .alloc z => .alloc z
  | .allocb t e => .allocb t e
  | .build z ps => .build z (ps.map fun p => (p.1, p.2.1, p.2.2.sub fr))
  | .bslice b n ps => .bslice b n (ps.map (AX.sub fr))
  | .load a x => .load a (x.sub fr)
  | .store b n x v => .store b n (x.sub fr) (v.sub fr)
  | .nilchk x => .nilchk (x.sub fr)
  | .bin o t x y => .bin o t (x.sub fr) (y.sub fr)
  | .un o x => .un o (x.sub fr)
  | .conv k x => .conv k (x.sub fr)
  | .mkfn f cs => .mkfn f (cs.map (AX.sub fr))
  | .mkslice a b z x y => .mkslice a b z (x.sub fr) (y.sub fr)
  | .slice k x lo hi => .slice k (x.sub fr) (lo.map (AX.sub fr)) (hi.map (AX.sub fr))
  | .faddr n x => .faddr n (x.sub fr)
  | .field n a x => .field n a (x.sub fr)
  | .iaddr n x i => .iaddr n (x.sub fr) (i.sub fr)
  | .sidx x i => .sidx (x.sub fr) (i.sub fr)
  | .range x => .range (x.sub fr)
  | .next x => .next (x.sub fr)
  | .extr x i => .extr (x.sub fr) i
  | .call b f l => .call b f (l.map (AX.sub fr))
  | .callv b x l => .callv b (x.sub fr) (l.map (AX.sub fr))
  | .len b x => .len b (x.sub fr)
  | .cap x => .cap (x.sub fr)
  | .append a b x y => .append a b (x.sub fr) (y.sub fr)
  | .appendz a b z x y => .appendz a b z (x.sub fr) (y.sub fr)
  | .bad => .bad
  | .mn l => .mn (l.map (AX.sub fr))
  | .mx l => .mx (l.map (AX.sub fr))
theorem evs_sub (fr fr' : Nat → DV) (l : List AX) : (l.map (AX.sub fr)).map (·.ev fr') = l.map (·.ev fr) := by simp [AX.sub, AX.ev, Function.comp_def]
theorem aop_sub (E : Env) (op : AOp) (K : DV → St → Prop) (st : St) : aop E op K st = aop E (op.sub st.fr) K st := by
  cases op <;> first
    | rfl
    | (simp only [AOp.sub, aop, evs_sub]; done)
    | skip
  case build z ps => simp only [AOp.sub, aop, List.map_map, Function.comp_def, AX.sub, AX.ev]
  case bslice b n ps =>
    cases b
    · simp only [AOp.sub, aop, List.map_map, Function.comp_def, AX.sub, AX.ev, List.length_map, List.forall_mem_map]
    · simp only [AOp.sub, aop, evs_sub, List.length_map]
  case load a x => cases a <;> rfl
  case slice k x lo hi => cases lo <;> cases hi <;> rfl
  case field o a x => cases a <;> rfl
  case callv b x l => simp only [AOp.sub, aop, evs_sub]; rfl

def aopC (E : Env) (op : AOp) (K : DV → St → Prop) (st : St) : Prop := aop E op K st
@[congr] theorem aopC_congr {E : Env} {op op' : AOp} {K : DV → St → Prop} {st : St} (h : op = op') : aopC E op K st = aopC E op' K st := by rw [h]
section
variable {E : Env} {m0 : Nat} {post : AExit → St → Prop} {ks : List Fr} {L : List (Nat × DV)} {h : List AObj} {l : List AOper} {K : DV → St → Prop} {st : St}
theorem goC_op {dst : Option Nat} {op : AOp} : goO E m0 post ks (⟨dst, op, none⟩ :: l) L h = aopC E (op.sub (slots L)) (kop E m0 post ks ⟨dst, op, none⟩ l) (sta L h) := by
  rw [goO_op, aop_sub]; rfl
theorem goC_guard {dst : Option Nat} {op : AOp} {g : Nat} {want : Bool} : goO E m0 post ks (⟨dst, op, some (g, want)⟩ :: l) L h =
    guardP (slots L g) want (aopC E (op.sub (slots L)) (kop E m0 post ks ⟨dst, op, some (g, want)⟩ l) (sta L h)) (aops E l (kont E m0 post ks .normal) ((sta L h).put dst (.tup []))) := by
  rw [goO_guard, aop_sub]; rfl
theorem c_mov {d : DV} : aopC E (.mov (.c d)) K st = K d st := rfl
theorem c_pick_t {a b : DV} : aopC E (.pick (.c (.bool true)) (.c a) (.c b)) K st = K a st := rfl
theorem c_pick_f {a b : DV} : aopC E (.pick (.c (.bool false)) (.c a) (.c b)) K st = K b st := rfl
theorem c_newnil {n : Nat} : aopC E (.newnil n) K st = K (.osl n st.h.length 0 0 none) (st.new (.arr n [])) := rfl
theorem c_set {d : DV} : aopC E (.set (.c d)) K st = K (ownVal d st.h).1 { st with h := (ownVal d st.h).2 } := rfl
theorem c_faddr_p {n i o : Nat} : aopC E (.faddr n (.c (.ptr i o))) K st = K (.ptr i (o + n)) st := rfl
theorem c_faddr_a {n sz i j q : Nat} : aopC E (.faddr n (.c (.aptr sz i j q))) K st = K (.aptr sz i j (q + n)) st := rfl
theorem c_faddr_e {n o : Nat} {cs : List DV} : aopC E (.faddr n (.c (.eptr cs o))) K st = K (.eptr cs (o + n)) st := rfl
theorem c_nilchk_p {i o : Nat} : aopC E (.nilchk (.c (.ptr i o))) K st = K (.ptr i o) st := rfl
theorem c_nilchk_f {f : Nat} {cs : List DV} : aopC E (.nilchk (.c (.fn f cs))) K st = K (.fn f cs) st := rfl
theorem c_box {d : DV} : aopC E (.box (.c d)) K st = (d.cells.all DV.one = true ∧ K (.ptr (ownCells d.cells st.h).2.length 0) { st with h := (ownCells d.cells st.h).2 ++ [.box (ownCells d.cells st.h).1] }) := rfl
theorem c_alloc {z : List DV} : aopC E (.alloc z) K st = K (.ptr (ownCells z st.h).2.length 0) { st with h := (ownCells z st.h).2 ++ [.box (ownCells z st.h).1] } := rfl
theorem c_load_p {i o : Nat} : aopC E (.load none (.c (.ptr i o))) K st = ∃ cs, st.h[i]? = some (.box cs) ∧ ∃ d, cs[o]? = some d ∧ K d st := rfl
theorem c_load_a {sz i j q : Nat} : aopC E (.load none (.c (.aptr sz i j q))) K st = ∃ es, st.h[i]? = some (.arr sz es) ∧ ∃ e, es[j]? = some e ∧ ∃ d, e[q]? = some d ∧ K d st := rfl
theorem c_load_e {cs : List DV} {o : Nat} : aopC E (.load none (.c (.eptr cs o))) K st = ∃ d, cs[o]? = some d ∧ K d st := rfl
theorem c_loadn_p {n i o : Nat} : aopC E (.load (some n) (.c (.ptr i o))) K st = ∃ cs, st.h[i]? = some (.box cs) ∧ o + n ≤ cs.length ∧ K (.agg ((cs.drop o).take n)) st := rfl
theorem c_loadn_a {n sz i j q : Nat} : aopC E (.load (some n) (.c (.aptr sz i j q))) K st = ∃ es, st.h[i]? = some (.arr sz es) ∧ ∃ e, es[j]? = some e ∧ q + n ≤ e.length ∧ K (.agg ((e.drop q).take n)) st := rfl
theorem c_loadn_e {n o : Nat} {cs : List DV} : aopC E (.load (some n) (.c (.eptr cs o))) K st = (o + n ≤ cs.length ∧ K (.agg ((cs.drop o).take n)) st) := rfl
theorem c_store_p {b : Bool} {n i o : Nat} {v : DV} : aopC E (.store b n (.c (.ptr i o)) (.c v)) K st = ∃ cs, st.h[i]? = some (.box cs) ∧ v.cells.all DV.one = true ∧ v.cells.length = n ∧ o + n ≤ cs.length ∧
    K .undef ({ st with h := (ownCells v.cells st.h).2 }.at i (.box (cs.take o ++ (ownCells v.cells st.h).1 ++ cs.drop (o + n)))) := rfl
theorem c_store_a {b : Bool} {n sz i j q : Nat} {v : DV} : aopC E (.store b n (.c (.aptr sz i j q)) (.c v)) K st = ((b = true ∨ v.closed = true) ∧ shutL [v] st fun ds st' => ∃ d, ds = [d] ∧ ∃ es, st'.h[i]? = some (.arr sz es) ∧ ∃ e, es[j]? = some e ∧ d.closed = true ∧ d.cells.all DV.one = true ∧ d.cells.length = n ∧ q + n ≤ e.length ∧
    K .undef (st'.at i (.arr sz (es.set j (e.take q ++ d.cells ++ e.drop (q + n)))))) := rfl
theorem c_bin {o : BinOp} {t : Ty} {x y : DV} : aopC E (.bin o t (.c x) (.c y)) K st = binD o t x y fun d => K d st := rfl
theorem c_not {b : Bool} : aopC E (.un .not (.c (.bool b))) K st = K (.bool !b) st := rfl
theorem c_neg {k : IntKind} {n : Int} : aopC E (.un .neg (.c (.int k n))) K st = K (.int k (k.wrap (0 - n))) st := rfl
theorem c_conv_int {k k' : IntKind} {n : Int} : aopC E (.conv (.int k) (.c (.int k' n))) K st = K (.int k (k.wrap n)) st := rfl
theorem c_conv_id {s : List UInt8} : aopC E (.conv .id (.c (.str s))) K st = K (.str s) st := rfl
theorem c_conv_i2s {k : IntKind} {n : Int} : aopC E (.conv .i2s (.c (.int k n))) K st = K (.str (Utf8.encode n).data.toList) st := rfl
theorem c_conv_s2b {s : List UInt8} : aopC E (.conv .s2b (.c (.str s))) K st = K (.osl 1 st.h.length 0 s.length none) (st.new (.arr 1 (s.map fun b => [.int .u8 b.toNat]))) := rfl
theorem c_conv_s2r {s : List UInt8} : aopC E (.conv .s2r (.c (.str s))) K st = K (.osl 1 st.h.length 0 (runesL s s.length 0).length none) (st.new (.arr 1 ((runesL s s.length 0).map fun r => [.int .i32 r]))) := rfl
theorem c_conv_b2s {d : DV} : aopC E (.conv .b2s (.c d)) K st = convD .b2s d K st := rfl
theorem c_conv_r2s {d : DV} : aopC E (.conv .r2s (.c d)) K st = convD .r2s d K st := rfl
theorem c_mkfn {f : Nat} {cs : List AX} : aopC E (.mkfn f cs) K st = K (.fn f (cs.map (·.ev st.fr))) st := rfl
theorem c_mkslice {sz bytes : Nat} {z : List DV} {n m : Int} : aopC E (.mkslice sz bytes z (.c (.int .i64 n)) (.c (.int .i64 m))) K st =
    (0 ≤ n ∧ n ≤ m ∧ m * bytes ≤ 1099511627776 ∧ m ≤ 1099511627776 ∧ K (.osl sz st.h.length 0 n.toNat (some m.toNat)) (st.new (.arr sz (List.replicate m.toNat z)))) := rfl
theorem c_slice_str {k : Option Nat} {lo hi : Option AX} {s : List UInt8} : aopC E (.slice k (.c (.str s)) lo hi) K st = (k = none ∧ bnd st.fr lo hi s.length s.length fun i j => K (.str ((s.drop i).take (j - i))) st) := rfl
theorem c_slice_sl {k : Option Nat} {lo hi : Option AX} {sz : Nat} {es : List (List DV)} : aopC E (.slice k (.c (.sl sz es)) lo hi) K st = (k = some sz ∧ bnd st.fr lo hi es.length es.length fun i j => K (.sl sz ((es.drop i).take (j - i))) st) := rfl
theorem c_slice_osl {k : Option Nat} {lo hi : Option AX} {sz i off n : Nat} : aopC E (.slice k (.c (.osl sz i off n none)) lo hi) K st = (k = some sz ∧ bnd st.fr lo hi n n fun a b => K (.osl sz i (off + a) (b - a) none) st) := rfl
theorem c_slice_oslc {k : Option Nat} {lo hi : Option AX} {sz i off n c : Nat} : aopC E (.slice k (.c (.osl sz i off n (some c))) lo hi) K st = (k = some sz ∧ bnd st.fr lo hi n c fun a b => K (.osl sz i (off + a) (b - a) (some (c - a))) st) := rfl
theorem c_slice_nil {k : Option Nat} {lo hi : Option AX} {sz : Nat} : aopC E (.slice k (.c (.nils sz)) lo hi) K st = (k.isSome = true ∧ bnd st.fr lo hi 0 0 fun _ _ => K (.nils sz) st) := rfl
theorem bnd_nn {fr : Nat → DV} {n c : Nat} {Q : Nat → Nat → Prop} : bnd fr none none n c Q = Q 0 n := rfl
theorem bnd_sn {fr : Nat → DV} {n c : Nat} {k : IntKind} {i : Int} {Q : Nat → Nat → Prop} : bnd fr (some (.c (.int k i))) none n c Q = (0 ≤ i ∧ i ≤ n ∧ Q i.toNat n) := rfl
theorem bnd_ns {fr : Nat → DV} {n c : Nat} {k : IntKind} {j : Int} {Q : Nat → Nat → Prop} : bnd fr none (some (.c (.int k j))) n c Q = (0 ≤ j ∧ j ≤ c ∧ Q 0 j.toNat) := rfl
theorem bnd_ss {fr : Nat → DV} {n c : Nat} {k k' : IntKind} {i j : Int} {Q : Nat → Nat → Prop} : bnd fr (some (.c (.int k i))) (some (.c (.int k' j))) n c Q = (0 ≤ i ∧ i ≤ j ∧ j ≤ c ∧ Q i.toNat j.toNat) := rfl
theorem c_field {o : Nat} {cs : List DV} : aopC E (.field o none (.c (.agg cs))) K st = ∃ d, cs[o]? = some d ∧ K d st := rfl
theorem c_fieldn {o n : Nat} {cs : List DV} : aopC E (.field o (some n) (.c (.agg cs))) K st = (o + n ≤ cs.length ∧ K (.agg ((cs.drop o).take n)) st) := rfl
theorem c_iaddr_sl {sz sz' : Nat} {es : List (List DV)} {k : IntKind} {j : Int} : aopC E (.iaddr sz (.c (.sl sz' es)) (.c (.int k j))) K st = (sz' = sz ∧ 0 ≤ j ∧ ∃ e, es[j.toNat]? = some e ∧ K (.eptr e 0) st) := rfl
theorem c_iaddr_osl {sz sz' i off n : Nat} {c : Option Nat} {k : IntKind} {j : Int} : aopC E (.iaddr sz (.c (.osl sz' i off n c)) (.c (.int k j))) K st = (sz' = sz ∧ 0 ≤ j ∧ j < n ∧ K (.aptr sz i (off + j.toNat) 0) st) := rfl
theorem c_sidx {s : List UInt8} {k : IntKind} {j : Int} : aopC E (.sidx (.c (.str s)) (.c (.int k j))) K st = (0 ≤ j ∧ j < s.length ∧ K (.int .u8 (bt s j.toNat)) st) := rfl
theorem c_range {s : List UInt8} : aopC E (.range (.c (.str s))) K st = K (.ptr st.h.length 0) (st.new (.iter s 0)) := rfl
theorem c_next {i : Nat} : aopC E (.next (.c (.ptr i 0))) K st = ∃ s pos, st.h[i]? = some (.iter s pos) ∧
    (pos < s.length → K (.tup [.bool true, .int .i64 pos, .int .i32 (Utf8.decode ⟨s.toArray⟩ pos).1]) (st.at i (.iter s (pos + (Utf8.decode ⟨s.toArray⟩ pos).2)))) ∧
    (¬ pos < s.length → K (.tup [.bool false]) st) := rfl
theorem c_extr {x : List DV} {i : Nat} : aopC E (.extr (.c (.tup x)) i) K st = ∃ d, x[i]? = some d ∧ K d st := rfl
theorem c_call {b : Bool} {f : Nat} {as : List AX} : aopC E (.call b f as) K st = acall E b f (as.map (·.ev st.fr)) K st := rfl
theorem c_callv {b : Bool} {f : Nat} {cs : List DV} {as : List AX} : aopC E (.callv b (.c (.fn f cs)) as) K st = acall E b f (as.map (·.ev st.fr) ++ cs) K st := rfl
theorem c_len_str {b : Bool} {s : List UInt8} : aopC E (.len b (.c (.str s))) K st = (b = true ∧ K (.int .i64 s.length) st) := rfl
theorem c_len_sl {b : Bool} {sz : Nat} {es : List (List DV)} : aopC E (.len b (.c (.sl sz es))) K st = (b = false ∧ K (.int .i64 es.length) st) := rfl
theorem c_len_osl {b : Bool} {sz i off n : Nat} {c : Option Nat} : aopC E (.len b (.c (.osl sz i off n c))) K st = (b = false ∧ K (.int .i64 n) st) := rfl
theorem c_len_nil {b : Bool} {sz : Nat} : aopC E (.len b (.c (.nils sz))) K st = (b = false ∧ K (.int .i64 0) st) := rfl
theorem c_cap_osl {sz i off n c : Nat} : aopC E (.cap (.c (.osl sz i off n (some c)))) K st = K (.int .i64 c) st := rfl
theorem c_cap_nil {sz : Nat} : aopC E (.cap (.c (.nils sz))) K st = K (.int .i64 0) st := rfl
theorem c_append {sz bytes : Nat} {x y : DV} : aopC E (.append sz bytes (.c x) (.c y)) K st = appendD sz bytes x y K st := rfl
theorem c_mn {as : List AX} : aopC E (.mn as) K st = mm (fun x y => if y < x then y else x) (as.map (·.ev st.fr)) fun d => K d st := rfl
theorem c_mx {as : List AX} : aopC E (.mx as) K st = mm (fun x y => if y > x then y else x) (as.map (·.ev st.fr)) fun d => K d st := rfl
theorem c_build {z : List DV} {ps : List (Nat × Nat × AX)} : aopC E (.build z ps) K st = bldD z (ps.map fun (o, n, x) => (o, n, x.ev st.fr)) fun cs => K (.agg cs) st := rfl
theorem c_bslice_f {sz : Nat} {ps : List AX} : aopC E (.bslice false sz ps) K st = ((∀ p ∈ ps, (p.ev st.fr).closed = true ∧ (p.ev st.fr).cells.all DV.one = true ∧ (p.ev st.fr).cells.length = sz) ∧
    K (.osl sz st.h.length 0 ps.length none) (st.new (.arr sz (ps.map fun p => (p.ev st.fr).cells)))) := rfl
theorem c_bslice_t {sz : Nat} {ps : List AX} : aopC E (.bslice true sz ps) K st = shutL (ps.map (·.ev st.fr)) st fun ds st' => (∀ d ∈ ds, d.closed = true ∧ d.cells.all DV.one = true ∧ d.cells.length = sz) ∧
    K (.osl sz st'.h.length 0 ps.length none) (st'.new (.arr sz (ds.map DV.cells))) := rfl
end
section
variable {K : DV → Prop}
theorem b_shl {k k' : IntKind} {a b : Int} : binD .shl .prim (.int k a) (.int k' b) K = (0 ≤ b ∧ K (.int k (k.wrap (a * 2 ^ min b.toNat k.bits)))) := rfl
theorem b_shr {k k' : IntKind} {a b : Int} : binD .shr .prim (.int k a) (.int k' b) K = (0 ≤ b ∧ K (.int k (a.fdiv (2 ^ min b.toNat k.bits)))) := rfl
theorem b_add {k k' : IntKind} {a b : Int} : binD .add .prim (.int k a) (.int k' b) K = (k = k' ∧ K (.int k (k.wrap (a + b)))) := rfl
theorem b_sub {k k' : IntKind} {a b : Int} : binD .sub .prim (.int k a) (.int k' b) K = (k = k' ∧ K (.int k (k.wrap (a - b)))) := rfl
theorem b_mul {k k' : IntKind} {a b : Int} : binD .mul .prim (.int k a) (.int k' b) K = (k = k' ∧ K (.int k (k.wrap (a * b)))) := rfl
theorem b_quo {k k' : IntKind} {a b : Int} : binD .quo .prim (.int k a) (.int k' b) K = (k = k' ∧ b ≠ 0 ∧ K (.int k (k.wrap (a.tdiv b)))) := rfl
theorem b_rem {k k' : IntKind} {a b : Int} : binD .rem .prim (.int k a) (.int k' b) K = (k = k' ∧ b ≠ 0 ∧ K (.int k (a.tmod b))) := rfl
theorem b_and {k k' : IntKind} {a b : Int} : binD .and .prim (.int k a) (.int k' b) K = (k = k' ∧ K (.int k (k.wrap (BitVec.ofInt k.bits a &&& BitVec.ofInt k.bits b).toNat))) := rfl
theorem b_or {k k' : IntKind} {a b : Int} : binD .or .prim (.int k a) (.int k' b) K = (k = k' ∧ K (.int k (k.wrap (BitVec.ofInt k.bits a ||| BitVec.ofInt k.bits b).toNat))) := rfl
theorem b_xor {k k' : IntKind} {a b : Int} : binD .xor .prim (.int k a) (.int k' b) K = (k = k' ∧ K (.int k (k.wrap (BitVec.ofInt k.bits a ^^^ BitVec.ofInt k.bits b).toNat))) := rfl
theorem b_eql {k k' : IntKind} {a b : Int} : binD .eql .prim (.int k a) (.int k' b) K = (k = k' ∧ K (.bool (decide (a = b)))) := rfl
theorem b_neq {k k' : IntKind} {a b : Int} : binD .neq .prim (.int k a) (.int k' b) K = (k = k' ∧ K (.bool (!decide (a = b)))) := rfl
theorem b_lss {k k' : IntKind} {a b : Int} : binD .lss .prim (.int k a) (.int k' b) K = (k = k' ∧ K (.bool (decide (a < b)))) := rfl
theorem b_leq {k k' : IntKind} {a b : Int} : binD .leq .prim (.int k a) (.int k' b) K = (k = k' ∧ K (.bool (decide (a ≤ b)))) := rfl
theorem b_gtr {k k' : IntKind} {a b : Int} : binD .gtr .prim (.int k a) (.int k' b) K = (k = k' ∧ K (.bool (decide (b < a)))) := rfl
theorem b_geq {k k' : IntKind} {a b : Int} : binD .geq .prim (.int k a) (.int k' b) K = (k = k' ∧ K (.bool (decide (b ≤ a)))) := rfl
theorem s_add {a b : List UInt8} : binD .add .prim (.str a) (.str b) K = (a.length + b.length ≤ 4611686018427387904 ∧ K (.str (a ++ b))) := rfl
theorem s_eql {a b : List UInt8} : binD .eql .prim (.str a) (.str b) K = K (.bool (decide (a = b))) := rfl
theorem s_neq {a b : List UInt8} : binD .neq .prim (.str a) (.str b) K = K (.bool (!decide (a = b))) := rfl
theorem s_lss {a b : List UInt8} : binD .lss .prim (.str a) (.str b) K = K (.bool (Op.bytesLess a b)) := rfl
theorem s_leq {a b : List UInt8} : binD .leq .prim (.str a) (.str b) K = K (.bool (Op.bytesLess a b || decide (a = b))) := rfl
theorem s_gtr {a b : List UInt8} : binD .gtr .prim (.str a) (.str b) K = K (.bool (!(Op.bytesLess a b || decide (a = b)))) := rfl
theorem s_geq {a b : List UInt8} : binD .geq .prim (.str a) (.str b) K = K (.bool (!Op.bytesLess a b)) := rfl
theorem t_eql {a b : Bool} : binD .eql .bool (.bool a) (.bool b) K = K (.bool (a == b)) := rfl
theorem t_neq {a b : Bool} : binD .neq .bool (.bool a) (.bool b) K = K (.bool (!(a == b))) := rfl
@[congr] theorem binD_congr {o : BinOp} {t : Ty} {x x' y y' : DV} (e1 : x = x') (e2 : y = y') : binD o t x y K = binD o t x' y' K := by rw [e1, e2]
theorem mm_one {f : Int → Int → Int} {k : IntKind} {x : Int} : mm f [.int k x] K = K (.int k x) := by simp [mm, mmF]
theorem mm_two {f : Int → Int → Int} {k k' : IntKind} {x y : Int} : mm f [.int k x, .int k' y] K = K (.int k (f x y)) := by simp [mm, mmF]
end
end Go.Ai
