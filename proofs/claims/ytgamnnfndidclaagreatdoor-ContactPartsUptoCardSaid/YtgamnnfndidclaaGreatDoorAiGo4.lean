/- The rules of a step, all together. -/
import Derived.Test.YtgamnnfndidclaaGreatDoorAiGo3
set_option linter.all false
namespace Go.Ai
theorem cs_agg {l : List DV} : (DV.agg l).cells = l := rfl
theorem cs_int {k : IntKind} {n : Int} : (DV.int k n).cells = [.int k n] := rfl
theorem cs_bool {b : Bool} : (DV.bool b).cells = [.bool b] := rfl
theorem cs_str {s : List UInt8} : (DV.str s).cells = [.str s] := rfl
theorem cs_tup {l : List DV} : (DV.tup l).cells = [.tup l] := rfl
theorem cs_nilp : DV.nilp.cells = [.nilp] := rfl
theorem cs_ptr {i o : Nat} : (DV.ptr i o).cells = [.ptr i o] := rfl
theorem cs_aptr {sz i j q : Nat} : (DV.aptr sz i j q).cells = [.aptr sz i j q] := rfl
theorem cs_eptr {c : List DV} {o : Nat} : (DV.eptr c o).cells = [.eptr c o] := rfl
theorem cs_emp {b : Bool} {n : Nat} : (DV.emp b n).cells = [.emp b n] := rfl
theorem cs_mp {i : Nat} : (DV.mp i).cells = [.mp i] := rfl
theorem pv_int {k : IntKind} {n : Int} : (DV.int k n).pv = some (.int k n) := rfl
theorem pv_bool {b : Bool} : (DV.bool b).pv = some (.bool b) := rfl
theorem pv_str {s : List UInt8} : (DV.str s).pv = some (.str s) := rfl
theorem cs_nils {n : Nat} : (DV.nils n).cells = [.nils n] := rfl
theorem cs_sl {sz : Nat} {es : List (List DV)} : (DV.sl sz es).cells = [.sl sz es] := rfl
theorem cs_osl {sz i off n : Nat} {c : Option Nat} : (DV.osl sz i off n c).cells = [.osl sz i off n c] := rfl
theorem cs_fn {f : Nat} {l : List DV} : (DV.fn f l).cells = [.fn f l] := rfl
theorem cs_hdr {l t m : Nat} : (DV.hdr l t m).cells = [.hdr l t m] := rfl
theorem cs_self {l t m : Nat} : (DV.self l t m).cells = [.self l t m] := rfl
theorem cs_nilfn : DV.nilfn.cells = [.nilfn] := rfl
theorem cs_ifc {f : Nat} {l : List DV} : (DV.ifc f l).cells = [.ifc f l] := rfl
theorem cs_bnd {f : Nat} {l : List DV} : (DV.bnd f l).cells = [.bnd f l] := rfl
theorem cs_nili : DV.nili.cells = [.nili] := rfl
theorem o_int {k : IntKind} {n : Int} : (DV.int k n).one = true := rfl
theorem o_bool {b : Bool} : (DV.bool b).one = true := rfl
theorem o_str {s : List UInt8} : (DV.str s).one = true := rfl
theorem o_nilp : DV.nilp.one = true := rfl
theorem o_ptr {i o : Nat} : (DV.ptr i o).one = true := rfl
theorem o_aptr {sz i j q : Nat} : (DV.aptr sz i j q).one = true := rfl
theorem o_eptr {c : List DV} {o : Nat} : (DV.eptr c o).one = true := rfl
theorem o_emp {b : Bool} {n : Nat} : (DV.emp b n).one = true := rfl
theorem o_mp {i : Nat} : (DV.mp i).one = true := rfl
theorem o_nils {n : Nat} : (DV.nils n).one = true := rfl
theorem o_sl {sz : Nat} {es : List (List DV)} : (DV.sl sz es).one = true := rfl
theorem o_osl {sz i off n : Nat} {c : Option Nat} : (DV.osl sz i off n c).one = true := rfl
theorem o_fn {f : Nat} {l : List DV} : (DV.fn f l).one = true := rfl
theorem o_hdr {l t m : Nat} : (DV.hdr l t m).one = true := rfl
theorem o_self {l t m : Nat} : (DV.self l t m).one = true := rfl
theorem o_nilfn : DV.nilfn.one = true := rfl
theorem o_ifc {f : Nat} {l : List DV} : (DV.ifc f l).one = true := rfl
theorem o_bnd {f : Nat} {l : List DV} : (DV.bnd f l).one = true := rfl
theorem o_nili : DV.nili.one = true := rfl
theorem z_int {k : IntKind} {n : Int} : (DV.int k n).closed = true := rfl
theorem z_bool {b : Bool} : (DV.bool b).closed = true := rfl
theorem z_str {s : List UInt8} : (DV.str s).closed = true := rfl
theorem z_nilp : DV.nilp.closed = true := rfl
theorem z_eptr {c : List DV} {o : Nat} : (DV.eptr c o).closed = true := rfl
theorem z_emp {b : Bool} {n : Nat} : (DV.emp b n).closed = true := rfl
theorem z_mp {i : Nat} : (DV.mp i).closed = false := rfl
theorem z_nils {n : Nat} : (DV.nils n).closed = true := rfl
theorem z_sl {sz : Nat} {es : List (List DV)} : (DV.sl sz es).closed = true := rfl
theorem z_nilfn : DV.nilfn.closed = true := rfl
theorem z_nili : DV.nili.closed = true := rfl
theorem z_hdr {l t m : Nat} : (DV.hdr l t m).closed = false := rfl
theorem z_self {l t m : Nat} : (DV.self l t m).closed = false := rfl
theorem z_ptr {i o : Nat} : (DV.ptr i o).closed = false := rfl
theorem z_aptr {sz i j q : Nat} : (DV.aptr sz i j q).closed = false := rfl
theorem z_osl {sz i off n : Nat} {c : Option Nat} : (DV.osl sz i off n c).closed = false := rfl
theorem zA_eq : ∀ {l : List DV}, DV.closed.closedAll l = l.all DV.closed
  | [] => rfl
  | d :: l => by rw [DV.closed.closedAll, zA_eq, List.all_cons]
theorem z_agg {l : List DV} : (DV.agg l).closed = l.all DV.closed := by rw [DV.closed, zA_eq]
theorem z_tup {l : List DV} : (DV.tup l).closed = l.all DV.closed := by rw [DV.closed, zA_eq]
theorem z_fn {f : Nat} {l : List DV} : (DV.fn f l).closed = l.all DV.closed := by rw [DV.closed, zA_eq]
theorem z_ifc {f : Nat} {l : List DV} : (DV.ifc f l).closed = l.all DV.closed := by rw [DV.closed, zA_eq]
theorem z_bnd {f : Nat} {l : List DV} : (DV.bnd f l).closed = l.all DV.closed := by rw [DV.closed, zA_eq]
theorem n_add {k : IntKind} {a b : Int} {K : DV → Prop} : binD .add .prim (.int k a) (.int k b) K = K (.int k (k.wrap (a + b))) := by rw [b_add]; simp
theorem n_sub {k : IntKind} {a b : Int} {K : DV → Prop} : binD .sub .prim (.int k a) (.int k b) K = K (.int k (k.wrap (a - b))) := by rw [b_sub]; simp
theorem n_mul {k : IntKind} {a b : Int} {K : DV → Prop} : binD .mul .prim (.int k a) (.int k b) K = K (.int k (k.wrap (a * b))) := by rw [b_mul]; simp
theorem n_quo {k : IntKind} {a b : Int} {K : DV → Prop} : binD .quo .prim (.int k a) (.int k b) K = chk (b ≠ 0) (K (.int k (k.wrap (a.tdiv b)))) := by rw [b_quo]; simp [chk]
theorem n_rem {k : IntKind} {a b : Int} {K : DV → Prop} : binD .rem .prim (.int k a) (.int k b) K = chk (b ≠ 0) (K (.int k (a.tmod b))) := by rw [b_rem]; simp [chk]
theorem n_eql {k : IntKind} {a b : Int} {K : DV → Prop} : binD .eql .prim (.int k a) (.int k b) K = K (.bool (decide (a = b))) := by rw [b_eql]; simp
theorem n_neq {k : IntKind} {a b : Int} {K : DV → Prop} : binD .neq .prim (.int k a) (.int k b) K = K (.bool (!decide (a = b))) := by rw [b_neq]; simp
theorem n_lss {k : IntKind} {a b : Int} {K : DV → Prop} : binD .lss .prim (.int k a) (.int k b) K = K (.bool (decide (a < b))) := by rw [b_lss]; simp
theorem n_leq {k : IntKind} {a b : Int} {K : DV → Prop} : binD .leq .prim (.int k a) (.int k b) K = K (.bool (decide (a ≤ b))) := by rw [b_leq]; simp
theorem n_gtr {k : IntKind} {a b : Int} {K : DV → Prop} : binD .gtr .prim (.int k a) (.int k b) K = K (.bool (decide (b < a))) := by rw [b_gtr]; simp
theorem n_geq {k : IntKind} {a b : Int} {K : DV → Prop} : binD .geq .prim (.int k a) (.int k b) K = K (.bool (decide (b ≤ a))) := by rw [b_geq]; simp
theorem n_and {k : IntKind} {a b : Int} {K : DV → Prop} : binD .and .prim (.int k a) (.int k b) K = K (.int k (k.wrap (BitVec.ofInt k.bits a &&& BitVec.ofInt k.bits b).toNat)) := by rw [b_and]; simp
theorem n_or {k : IntKind} {a b : Int} {K : DV → Prop} : binD .or .prim (.int k a) (.int k b) K = K (.int k (k.wrap (BitVec.ofInt k.bits a ||| BitVec.ofInt k.bits b).toNat)) := by rw [b_or]; simp
theorem n_xor {k : IntKind} {a b : Int} {K : DV → Prop} : binD .xor .prim (.int k a) (.int k b) K = K (.int k (k.wrap (BitVec.ofInt k.bits a ^^^ BitVec.ofInt k.bits b).toNat)) := by rw [b_xor]; simp
theorem n_shl {k k' : IntKind} {a b : Int} {K : DV → Prop} : binD .shl .prim (.int k a) (.int k' b) K = chk (0 ≤ b) (K (.int k (k.wrap (a * 2 ^ min b.toNat k.bits)))) := rfl
theorem n_shr {k k' : IntKind} {a b : Int} {K : DV → Prop} : binD .shr .prim (.int k a) (.int k' b) K = chk (0 ≤ b) (K (.int k (a.fdiv (2 ^ min b.toNat k.bits)))) := rfl
theorem n_feql {ks : List FK} {l l' : List DV} {K : DV → Prop} : binD .eql (.flat ks) (.agg l) (.agg l') K = optP (eqL ks l l') fun b => K (.bool b) := rfl
theorem n_fneq {ks : List FK} {l l' : List DV} {K : DV → Prop} : binD .neq (.flat ks) (.agg l) (.agg l') K = optP (eqL ks l l') fun b => K (.bool !b) := rfl
theorem n_peq0 {K : DV → Prop} : binD .eql .ptr .nilp .nilp K = K (.bool true) := rfl
theorem n_pne0 {K : DV → Prop} : binD .neq .ptr .nilp .nilp K = K (.bool false) := rfl
theorem n_peq1 {l o : Nat} {K : DV → Prop} : binD .eql .ptr (.ptr l o) .nilp K = K (.bool false) := rfl
theorem n_pne1 {l o : Nat} {K : DV → Prop} : binD .neq .ptr (.ptr l o) .nilp K = K (.bool true) := rfl
theorem n_peq2 {sz l j q : Nat} {K : DV → Prop} : binD .eql .ptr (.aptr sz l j q) .nilp K = K (.bool false) := rfl
theorem n_pne2 {sz l j q : Nat} {K : DV → Prop} : binD .neq .ptr (.aptr sz l j q) .nilp K = K (.bool true) := rfl
theorem n_peq3 {l : List DV} {o : Nat} {K : DV → Prop} : binD .eql .ptr (.eptr l o) .nilp K = K (.bool false) := rfl
theorem n_pne3 {l : List DV} {o : Nat} {K : DV → Prop} : binD .neq .ptr (.eptr l o) .nilp K = K (.bool true) := rfl
theorem n_seq1 {sz l off n m : Nat} {c : Option Nat} {K : DV → Prop} : binD .eql .slc (.osl sz l off n c) (.nils m) K = chk (0 < n) (K (.bool false)) := rfl
theorem n_sne1 {sz l off n m : Nat} {c : Option Nat} {K : DV → Prop} : binD .neq .slc (.osl sz l off n c) (.nils m) K = chk (0 < n) (K (.bool true)) := rfl
theorem n_seq2 {sz m : Nat} {es : List (List DV)} {K : DV → Prop} : binD .eql .slc (.sl sz es) (.nils m) K = chk (es ≠ []) (K (.bool false)) := rfl
theorem n_sne2 {sz m : Nat} {es : List (List DV)} {K : DV → Prop} : binD .neq .slc (.sl sz es) (.nils m) K = chk (es ≠ []) (K (.bool true)) := rfl
theorem n_seq3 {b : Bool} {n m : Nat} {K : DV → Prop} : binD .eql .slc (.emp b n) (.nils m) K = K (.bool b) := rfl
theorem n_sne3 {b : Bool} {n m : Nat} {K : DV → Prop} : binD .neq .slc (.emp b n) (.nils m) K = K (.bool !b) := rfl
theorem q_nil : eqL [] [] [] = some true := rfl
theorem q_int {f : List FK} {k : IntKind} {a b : Int} {l l' : List DV} : eqL (.int :: f) (.int k a :: l) (.int k b :: l') = (eqL f l l').map (decide (a = b) && ·) := by simp [eqL]
theorem q_str {f : List FK} {a b : List UInt8} {l l' : List DV} : eqL (.str :: f) (.str a :: l) (.str b :: l') = (eqL f l l').map (decide (a = b) && ·) := rfl
theorem q_bool {f : List FK} {a b : Bool} {l l' : List DV} : eqL (.bool :: f) (.bool a :: l) (.bool b :: l') = (eqL f l l').map ((a == b) && ·) := rfl
theorem tkm {α β : Type} {f : α → β} {l : List α} : List.take l.length (l.map f) = l.map f := List.take_of_length_le (by simp)
theorem cpos {n : Nat} : (0 < ((n + 1 : Nat) : Int)) = True := by simp
theorem cne {n : Nat} : (((n + 1 : Nat) : Int) = 0) = False := by simp; omega
theorem clt {n : Nat} : (((n : Nat) : Int) < 0) = False := by simp
theorem n_cat {a b : List UInt8} {K : DV → Prop} : binD .add .prim (.str a) (.str b) K = chk (a.length + b.length ≤ 4611686018427387904) (K (.str (a ++ b))) := rfl
set_option linter.defProp false
def gos0 := And.intro @goN_skip (And.intro @goN_exit (And.intro @goN_ret (And.intro @goN_region (And.intro @goN_seq (And.intro @goN_block (And.intro @goN_cond (And.intro @condP_true (And.intro @condP_false (And.intro @goK_seq (And.intro @goK_seq_exit (And.intro @goK_seq_ret (And.intro @goK_block (And.intro @goK_block_ret (And.intro @goK_block_exit (And.intro @goK_inv (And.intro @goK_inv_exit (And.intro @goK_inv_ret (And.intro @goN_jump (And.intro @goK_jump (And.intro @goK_jump_ret (And.intro @goK_jump_exit (And.intro @goK_low (@goN_wk)))))))))))))))))))))))
def gos1 := And.intro @goK_low_ret (And.intro @goK_low_exit (And.intro @goK_nil (And.intro @goO_nil (And.intro @goO_guardN (And.intro @guardP_tt (And.intro @guardP_tf (And.intro @guardP_ft (And.intro @guardP_ff (And.intro @guardP_skip (And.intro @sel_true (And.intro @sel_false (And.intro @chk_true (And.intro @optP_some (And.intro @optP_map (And.intro @boxP_some (And.intro @arrP_some (And.intro @iterP_some (And.intro @mapP_some (And.intro @newP_go (And.intro @ocP_nil (And.intro @ocP_int (And.intro @ocP_bool (@ocP_str)))))))))))))))))))))))
def gos2 := And.intro @ocP_nilp (And.intro @ocP_ptr (And.intro @ocP_aptr (And.intro @ocP_eptr (And.intro @ocP_sl (And.intro @ocP_osl (And.intro @ocP_fn (And.intro @ocP_ifc (And.intro @ocP_bnd (And.intro @ocP_emp (And.intro @ocP_mp (And.intro @ocP_nili (And.intro @ocP_nilfn (And.intro @ocP_nils (And.intro @kgo_some (And.intro @kgo_none (And.intro @knm_int (And.intro @knm_bool (And.intro @knmb_true (And.intro @knmb_false (And.intro @knm_str (And.intro @knm_osl (And.intro @slots_cons (@slots_nil)))))))))))))))))))))))
def gos3 := And.intro @sub_t (And.intro @sub_c (And.intro @ev_c (And.intro @ev_t (And.intro @s_eql (And.intro @s_neq (And.intro @s_lss (And.intro @s_leq (And.intro @s_gtr (And.intro @s_geq (And.intro @t_eql (And.intro @t_neq (And.intro @mm_one (And.intro @mm_two (And.intro @fin_e (And.intro @fin_en (And.intro @rvl_nil (And.intro @rvl_t (And.intro @rvl_c (And.intro @cel_p (And.intro @cel2_n (And.intro @cel2_s (And.intro @g_mov (@g_set)))))))))))))))))))))))
def gos4 := And.intro @g_newnil (And.intro @g_pick (And.intro @g_box (And.intro @g_alloc (And.intro @g_allocb (And.intro @g_build (And.intro @g_bslice (And.intro @g_load (And.intro @g_store (And.intro @g_nilchk (And.intro @g_mkifc (And.intro @g_mkbnd (And.intro @g_bin (And.intro @g_un (And.intro @g_conv (And.intro @g_mkfn (And.intro @g_mkslice (And.intro @g_slice (And.intro @g_faddr (And.intro @g_field (And.intro @g_iaddr (And.intro @g_baddr (And.intro @g_sidx (@g_range)))))))))))))))))))))))
def gos5 := And.intro @g_next (And.intro @g_extr (And.intro @g_call (And.intro @g_callv (And.intro @g_inv (And.intro @g_len (And.intro @g_cap (And.intro @g_appendf (And.intro @g_append (And.intro @g_clr (And.intro @g_cpy (And.intro @g_appendz (And.intro @g_mkmap (And.intro @g_look (And.intro @g_ment (And.intro @g_mset (And.intro @g_mput (And.intro @g_bad (And.intro @g_mn (And.intro @g_mx (And.intro @e_mov (And.intro @e_pick_t (And.intro @e_pick_f (@e_set_int)))))))))))))))))))))))
def gos6 := And.intro @e_set_bool (And.intro @e_set_str (And.intro @e_set_nilp (And.intro @e_set_ptr (And.intro @e_set_aptr (And.intro @e_set_eptr (And.intro @e_set_sl (And.intro @e_set_osl (And.intro @e_set_fn (And.intro @e_set_ifc (And.intro @e_set_bnd (And.intro @e_set_emp (And.intro @e_set_mp (And.intro @e_set_nili (And.intro @e_set_nilfn (And.intro @e_set_tup (And.intro @e_set_undef (And.intro @e_set_nils (And.intro @e_set_agg (And.intro @e_faddr_p (And.intro @e_faddr_a (And.intro @e_faddr_e (And.intro @e_nilchk_p (@e_nilchk_a)))))))))))))))))))))))
def gos7 := And.intro @e_nilchk_e (And.intro @e_nilchk_f (And.intro @e_box (And.intro @e_load_p (And.intro @e_load_a (And.intro @e_load_e (And.intro @e_loadn_p (And.intro @e_loadn_a (And.intro @e_loadn_e (And.intro @e_store_p (And.intro @e_store_a (And.intro @e_store_af (And.intro @e_bin (And.intro @e_not (And.intro @e_neg (And.intro @e_conv_int (And.intro @e_conv_id (And.intro @e_conv_i2s (And.intro @e_conv_s2r (And.intro @e_b2s_sl (And.intro @e_b2s_osl (And.intro @e_b2s_nils (And.intro @e_r2s_sl (@e_r2s_osl)))))))))))))))))))))))
def gos8 := And.intro @e_r2s_nils (And.intro @e_mkfn (And.intro @e_mkifc (And.intro @e_mkbnd (And.intro @e_mkslice (And.intro @e_slice_str (And.intro @e_slice_sl (And.intro @e_slice_osl (And.intro @e_slice_oslc (And.intro @e_slice_nil (And.intro @d_nn (And.intro @d_sn (And.intro @d_ns (And.intro @d_ss (And.intro @e_field (And.intro @e_fieldn (And.intro @e_iaddr_sl (And.intro @e_iaddr_osl (And.intro @e_baddr (And.intro @e_sidx (And.intro @e_range (And.intro @e_next (And.intro @e_extr (@e_call)))))))))))))))))))))))
def gos9 := And.intro @e_callv (And.intro @e_callb (And.intro @e_inv (And.intro @e_len_str (And.intro @e_len_sl (And.intro @e_len_osl (And.intro @e_len_emp (And.intro @e_len_nil (And.intro @e_cap_osl (And.intro @e_cap_nil (And.intro @e_mn (And.intro @e_mx (And.intro @e_build (And.intro @bld_nil (And.intro @bld_cons (And.intro @own_nil (And.intro @own_osl (And.intro @own_int (And.intro @own_bool (And.intro @own_str (And.intro @own_sl (And.intro @own_emp (And.intro @own_mp (@own_nils)))))))))))))))))))))))
def gos10 := And.intro @own_nilp (And.intro @own_agg (And.intro @own_fn (And.intro @own_ifc (And.intro @own_bnd (And.intro @isArr_some (And.intro @isArr_box (And.intro @isArr_buf (And.intro @isArr_gbuf (And.intro @isArr_dead (And.intro @isArr_mapo (And.intro @isArr_iter (And.intro @memN_nil (And.intro @memN_cons (And.intro @shr_arr (And.intro @fz_osl (And.intro @fz_int (And.intro @fz_bool (And.intro @fz_str (And.intro @fz_nilp (And.intro @fz_nilfn (And.intro @fz_emp (And.intro @fz_nili (@fz_undef)))))))))))))))))))))))
def gos11 := And.intro @fz_nils (And.intro @fz_sl (And.intro @fz_eptr (And.intro @fz_ptr (And.intro @fz_mp (And.intro @fz_self (And.intro @fz_hdr (And.intro @fz_aptr (And.intro @fz_agg (And.intro @fz_tup (And.intro @fz_ifc (And.intro @fz_bnd (And.intro @fz_fn (And.intro @fzs_nil (And.intro @fzs_cons (And.intro @fzS_nil (And.intro @fzS_cons (And.intro @fzH_nil (And.intro @fzH_arr (And.intro @fzH_box (And.intro @fzH_iter (And.intro @fzH_mapo (And.intro @fzH_buf (@fzH_gbuf)))))))))))))))))))))))
def gos12 := And.intro @fzH_dead (And.intro @shutP_e (And.intro @e_bslice (And.intro @el_sl (And.intro @el_emp (And.intro @el_nils (And.intro @el_osl (And.intro @el_str (And.intro @e_clr (And.intro @e_cpy (And.intro @e_look (And.intro @e_ment (And.intro @e_mset (And.intro @e_mput (And.intro @e_appendf (And.intro @e_append (And.intro @e_appendz (And.intro @kil_int (And.intro @kil_bool (And.intro @kil_str (And.intro @kil_nilp (And.intro @kil_nilfn (And.intro @kil_nili (@kil_undef)))))))))))))))))))))))
def gos13 := And.intro @kil_emp (And.intro @kil_nils (And.intro @kil_sl (And.intro @kil_eptr (And.intro @kil_ptr (And.intro @kil_mp (And.intro @kil_self (And.intro @kil_hdr (And.intro @kil_aptr (And.intro @kil_osl (And.intro @kilL_nil (And.intro @kilL_cons (And.intro @kil_agg (And.intro @kil_tup (And.intro @kil_ifc (And.intro @kil_bnd (And.intro @kil_fn (And.intro @kilS_nil (And.intro @kilS_cons (And.intro @kilH_nil (And.intro @kilH_box (And.intro @kilH_arr (And.intro @kilH_iter (@kilH_mapo)))))))))))))))))))))))
def gos14 := And.intro @kilH_buf (And.intro @kilH_gbuf (And.intro @kilH_dead (And.intro @ap_nils (And.intro @ap_osl (And.intro @ap_frz (And.intro @ap_cap (And.intro @ap_cpy (And.intro @cs_agg (And.intro @cs_int (And.intro @cs_bool (And.intro @cs_str (And.intro @cs_tup (And.intro @cs_nilp (And.intro @cs_ptr (And.intro @cs_aptr (And.intro @cs_eptr (And.intro @cs_emp (And.intro @cs_mp (And.intro @pv_int (And.intro @pv_bool (And.intro @pv_str (And.intro @cs_nils (@cs_sl)))))))))))))))))))))))
def gos15 := And.intro @cs_osl (And.intro @cs_fn (And.intro @cs_hdr (And.intro @cs_self (And.intro @cs_nilfn (And.intro @cs_ifc (And.intro @cs_bnd (And.intro @cs_nili (And.intro @o_int (And.intro @o_bool (And.intro @o_str (And.intro @o_nilp (And.intro @o_ptr (And.intro @o_aptr (And.intro @o_eptr (And.intro @o_emp (And.intro @o_mp (And.intro @o_nils (And.intro @o_sl (And.intro @o_osl (And.intro @o_fn (And.intro @o_hdr (And.intro @o_self (@o_nilfn)))))))))))))))))))))))
def gos16 := And.intro @o_ifc (And.intro @o_bnd (And.intro @o_nili (And.intro @z_int (And.intro @z_bool (And.intro @z_str (And.intro @z_nilp (And.intro @z_eptr (And.intro @z_emp (And.intro @z_mp (And.intro @z_nils (And.intro @z_sl (And.intro @z_nilfn (And.intro @z_nili (And.intro @z_hdr (And.intro @z_self (And.intro @z_ptr (And.intro @z_aptr (And.intro @z_osl (And.intro @z_agg (And.intro @z_tup (And.intro @z_fn (And.intro @z_ifc (@z_bnd)))))))))))))))))))))))
def gos17 := And.intro @n_add (And.intro @n_sub (And.intro @n_mul (And.intro @n_quo (And.intro @n_rem (And.intro @n_eql (And.intro @n_neq (And.intro @n_lss (And.intro @n_leq (And.intro @n_gtr (And.intro @n_geq (And.intro @n_and (And.intro @n_or (And.intro @n_xor (And.intro @n_shl (And.intro @n_shr (And.intro @n_feql (And.intro @n_fneq (And.intro @n_peq0 (And.intro @n_pne0 (And.intro @n_peq1 (And.intro @n_pne1 (And.intro @n_peq2 (@n_pne2)))))))))))))))))))))))
def gos18 := And.intro @n_peq3 (And.intro @n_pne3 (And.intro @n_seq1 (And.intro @n_sne1 (And.intro @n_seq2 (And.intro @n_sne2 (And.intro @n_seq3 (And.intro @n_sne3 (And.intro @q_nil (And.intro @q_int (And.intro @q_str (And.intro @q_bool (And.intro @tkm (And.intro @cpos (And.intro @cne (And.intro @clt (@n_cat))))))))))))))))
def gos := And.intro gos0 (And.intro gos1 (And.intro gos2 (And.intro gos3 (And.intro gos4 (And.intro gos5 (And.intro gos6 (And.intro gos7 (And.intro gos8 (And.intro gos9 (And.intro gos10 (And.intro gos11 (And.intro gos12 (And.intro gos13 (And.intro gos14 (And.intro gos15 (And.intro gos16 (And.intro gos17 (gos18))))))))))))))))))
def gop0 := And.intro @nrm_eq (And.intro @evl_go (And.intro @knmb_b (And.intro @List.map_cons.{0,0} (And.intro @List.map_nil.{0,0} (And.intro @Option.map_some.{0,0} (And.intro @Option.map_none.{0,0} (And.intro @Option.bind_some.{0,0} (And.intro @List.all_cons.{0} (And.intro @List.all_nil.{0} (And.intro @Bool.and_true (And.intro @Bool.true_and (And.intro @Bool.and_self (And.intro @Bool.not_false (And.intro @Bool.not_true (And.intro @List.length_nil.{0} (And.intro @List.length_cons.{0} (And.intro @List.nil_append.{0} (And.intro @List.cons_append.{0} (And.intro @List.append_nil.{0} (And.intro @List.getElem?_cons_zero.{0} (And.intro @List.getElem?_cons_succ.{0} (And.intro @List.length_map.{0,0} (@List.take_succ_cons.{0})))))))))))))))))))))))
def gop1 := And.intro @List.take_zero.{0} (And.intro @List.drop_zero.{0} (And.intro @List.drop_succ_cons.{0} (And.intro @List.drop_nil.{0} (And.intro @List.take_nil.{0} (And.intro @List.set_cons_zero.{0} (And.intro @List.set_cons_succ.{0} (And.intro @List.take_length.{0} (And.intro @List.zipIdx_cons.{0} (And.intro @List.zipIdx_nil.{0} (And.intro @Nat.zero_add (And.intro @Nat.add_zero (And.intro @Nat.le_refl (And.intro @Nat.sub_zero (And.intro @Nat.zero_le (And.intro @Int.toNat_natCast (And.intro @Int.natCast_nonneg (And.intro @decide_eq_true_eq (And.intro @decide_eq_false_iff_not (And.intro @Bool.not_eq_true' (And.intro @Bool.not_eq_false' (And.intro @Bool.false_eq_true (And.intro @Bool.true_eq_false (@Bool.and_eq_true)))))))))))))))))))))))
def gop2 := And.intro @not_true_eq_false (And.intro @not_false_eq_true (And.intro @false_implies (And.intro @true_implies (And.intro @true_and (And.intro @and_true (And.intro @decide_true (And.intro @decide_false (And.intro @Int.cast_ofNat_Int (And.intro @Go.Ai.cpos (And.intro @Go.Ai.cne (And.intro @Go.Ai.clt (@Go.Ai.tkm))))))))))))
def gop := And.intro gop0 (And.intro gop1 (gop2))
end Go.Ai
