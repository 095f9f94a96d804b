/- The rules of a step, all together. -/
import Derived.Test.YtgamnnfndidclaaGreatDoorBAiGo3
set_option linter.all false
namespace Go.Ai
theorem cs_agg {l:List DV}:(DV.agg l).cells=l:=rfl
theorem cs_int {k:IntKind}{n:Int}:(DV.int k n).cells=[.int k n]:=rfl
theorem cs_bool {b:Bool}:(DV.bool b).cells=[.bool b]:=rfl
theorem cs_str {s:List UInt8}:(DV.str s).cells=[.str s]:=rfl
theorem cs_tup {l:List DV}:(DV.tup l).cells=[.tup l]:=rfl
theorem cs_nilp:DV.nilp.cells=[.nilp]:=rfl
theorem cs_ptr {i o:Nat}:(DV.ptr i o).cells=[.ptr i o]:=rfl
theorem cs_aptr {sz i j q:Nat}:(DV.aptr sz i j q).cells=[.aptr sz i j q]:=rfl
theorem cs_eptr {c:List DV}{o:Nat}:(DV.eptr c o).cells=[.eptr c o]:=rfl
theorem cs_emp {b:Bool}{n:Nat}:(DV.emp b n).cells=[.emp b n]:=rfl
theorem cs_mp {i:Nat}:(DV.mp i).cells=[.mp i]:=rfl
theorem pv_int {k:IntKind}{n:Int}:(DV.int k n).pv=some (.int k n):=rfl
theorem pv_bool {b:Bool}:(DV.bool b).pv=some (.bool b):=rfl
theorem pv_str {s:List UInt8}:(DV.str s).pv=some (.str s):=rfl
theorem cs_nils {n:Nat}:(DV.nils n).cells=[.nils n]:=rfl
theorem cs_sl {sz:Nat}{es:List (List DV)}:(DV.sl sz es).cells=[.sl sz es]:=rfl
theorem cs_osl {sz i off n:Nat}{c:Option Nat}:(DV.osl sz i off n c).cells=[.osl sz i off n c]:=rfl
theorem cs_fn {f:Nat}{l:List DV}:(DV.fn f l).cells=[.fn f l]:=rfl
theorem cs_hdr {l t m:Nat}:(DV.hdr l t m).cells=[.hdr l t m]:=rfl
theorem cs_self {l t m:Nat}:(DV.self l t m).cells=[.self l t m]:=rfl
theorem cs_nilfn:DV.nilfn.cells=[.nilfn]:=rfl
theorem cs_ifc {f:Nat}{l:List DV}:(DV.ifc f l).cells=[.ifc f l]:=rfl
theorem cs_bnd {f:Nat}{l:List DV}:(DV.bnd f l).cells=[.bnd f l]:=rfl
theorem cs_nili:DV.nili.cells=[.nili]:=rfl
theorem o_int {k:IntKind}{n:Int}:(DV.int k n).one=true:=rfl
theorem o_bool {b:Bool}:(DV.bool b).one=true:=rfl
theorem o_str {s:List UInt8}:(DV.str s).one=true:=rfl
theorem o_nilp:DV.nilp.one=true:=rfl
theorem o_ptr {i o:Nat}:(DV.ptr i o).one=true:=rfl
theorem o_aptr {sz i j q:Nat}:(DV.aptr sz i j q).one=true:=rfl
theorem o_eptr {c:List DV}{o:Nat}:(DV.eptr c o).one=true:=rfl
theorem o_emp {b:Bool}{n:Nat}:(DV.emp b n).one=true:=rfl
theorem o_mp {i:Nat}:(DV.mp i).one=true:=rfl
theorem o_nils {n:Nat}:(DV.nils n).one=true:=rfl
theorem o_sl {sz:Nat}{es:List (List DV)}:(DV.sl sz es).one=true:=rfl
theorem o_osl {sz i off n:Nat}{c:Option Nat}:(DV.osl sz i off n c).one=true:=rfl
theorem o_fn {f:Nat}{l:List DV}:(DV.fn f l).one=true:=rfl
theorem o_hdr {l t m:Nat}:(DV.hdr l t m).one=true:=rfl
theorem o_self {l t m:Nat}:(DV.self l t m).one=true:=rfl
theorem o_nilfn:DV.nilfn.one=true:=rfl
theorem o_ifc {f:Nat}{l:List DV}:(DV.ifc f l).one=true:=rfl
theorem o_bnd {f:Nat}{l:List DV}:(DV.bnd f l).one=true:=rfl
theorem o_nili:DV.nili.one=true:=rfl
theorem z_int {k:IntKind}{n:Int}:(DV.int k n).closed=true:=rfl
theorem z_bool {b:Bool}:(DV.bool b).closed=true:=rfl
theorem z_str {s:List UInt8}:(DV.str s).closed=true:=rfl
theorem z_nilp:DV.nilp.closed=true:=rfl
theorem z_eptr {c:List DV}{o:Nat}:(DV.eptr c o).closed=true:=rfl
theorem z_emp {b:Bool}{n:Nat}:(DV.emp b n).closed=true:=rfl
theorem z_mp {i:Nat}:(DV.mp i).closed=false:=rfl
theorem z_nils {n:Nat}:(DV.nils n).closed=true:=rfl
theorem z_sl {sz:Nat}{es:List (List DV)}:(DV.sl sz es).closed=true:=rfl
theorem z_nilfn:DV.nilfn.closed=true:=rfl
theorem z_nili:DV.nili.closed=true:=rfl
theorem z_hdr {l t m:Nat}:(DV.hdr l t m).closed=false:=rfl
theorem z_self {l t m:Nat}:(DV.self l t m).closed=false:=rfl
theorem z_ptr {i o:Nat}:(DV.ptr i o).closed=false:=rfl
theorem z_aptr {sz i j q:Nat}:(DV.aptr sz i j q).closed=false:=rfl
theorem z_osl {sz i off n:Nat}{c:Option Nat}:(DV.osl sz i off n c).closed=false:=rfl
theorem zA_eq:∀ {l:List DV},DV.closed.closedAll l=l.all DV.closed
 | []=>rfl
 | d::l=>by rw [DV.closed.closedAll,zA_eq,List.all_cons]
theorem z_agg {l:List DV}:(DV.agg l).closed=l.all DV.closed:=by rw [DV.closed,zA_eq]
theorem z_tup {l:List DV}:(DV.tup l).closed=l.all DV.closed:=by rw [DV.closed,zA_eq]
theorem z_fn {f:Nat}{l:List DV}:(DV.fn f l).closed=l.all DV.closed:=by rw [DV.closed,zA_eq]
theorem z_ifc {f:Nat}{l:List DV}:(DV.ifc f l).closed=l.all DV.closed:=by rw [DV.closed,zA_eq]
theorem z_bnd {f:Nat}{l:List DV}:(DV.bnd f l).closed=l.all DV.closed:=by rw [DV.closed,zA_eq]
theorem n_add {k:IntKind}{a b:Int}{K:DV→Prop}:binD .add .prim (.int k a) (.int k b) K=K (.int k (k.wrap (a+b))):=by rw [b_add]; simp
theorem n_sub {k:IntKind}{a b:Int}{K:DV→Prop}:binD .sub .prim (.int k a) (.int k b) K=K (.int k (k.wrap (a - b))):=by rw [b_sub]; simp
theorem n_mul {k:IntKind}{a b:Int}{K:DV→Prop}:binD .mul .prim (.int k a) (.int k b) K=K (.int k (k.wrap (a*b))):=by rw [b_mul]; simp
theorem n_quo {k:IntKind}{a b:Int}{K:DV→Prop}:binD .quo .prim (.int k a) (.int k b) K=chk (b≠0) (K (.int k (k.wrap (a.tdiv b)))):=by rw [b_quo]; simp [chk]
theorem n_rem {k:IntKind}{a b:Int}{K:DV→Prop}:binD .rem .prim (.int k a) (.int k b) K=chk (b≠0) (K (.int k (a.tmod b))):=by rw [b_rem]; simp [chk]
theorem n_eql {k:IntKind}{a b:Int}{K:DV→Prop}:binD .eql .prim (.int k a) (.int k b) K=K (.bool (decide (a=b))):=by rw [b_eql]; simp
theorem n_neq {k:IntKind}{a b:Int}{K:DV→Prop}:binD .neq .prim (.int k a) (.int k b) K=K (.bool (!decide (a=b))):=by rw [b_neq]; simp
theorem n_lss {k:IntKind}{a b:Int}{K:DV→Prop}:binD .lss .prim (.int k a) (.int k b) K=K (.bool (decide (a<b))):=by rw [b_lss]; simp
theorem n_leq {k:IntKind}{a b:Int}{K:DV→Prop}:binD .leq .prim (.int k a) (.int k b) K=K (.bool (decide (a≤b))):=by rw [b_leq]; simp
theorem n_gtr {k:IntKind}{a b:Int}{K:DV→Prop}:binD .gtr .prim (.int k a) (.int k b) K=K (.bool (decide (b<a))):=by rw [b_gtr]; simp
theorem n_geq {k:IntKind}{a b:Int}{K:DV→Prop}:binD .geq .prim (.int k a) (.int k b) K=K (.bool (decide (b≤a))):=by rw [b_geq]; simp
theorem n_and {k:IntKind}{a b:Int}{K:DV→Prop}:binD .and .prim (.int k a) (.int k b) K=K (.int k (k.wrap (BitVec.ofInt k.bits a &&& BitVec.ofInt k.bits b).toNat)):=by rw [b_and]; simp
theorem n_or {k:IntKind}{a b:Int}{K:DV→Prop}:binD .or .prim (.int k a) (.int k b) K=K (.int k (k.wrap (BitVec.ofInt k.bits a ||| BitVec.ofInt k.bits b).toNat)):=by rw [b_or]; simp
theorem n_xor {k:IntKind}{a b:Int}{K:DV→Prop}:binD .xor .prim (.int k a) (.int k b) K=K (.int k (k.wrap (BitVec.ofInt k.bits a ^^^ BitVec.ofInt k.bits b).toNat)):=by rw [b_xor]; simp
theorem n_shl {k k' : IntKind}{a b:Int}{K:DV→Prop}:binD .shl .prim (.int k a) (.int k' b) K=chk (0≤b) (K (.int k (k.wrap (a*2 ^ min b.toNat k.bits)))):=rfl
theorem n_shr {k k' : IntKind}{a b:Int}{K:DV→Prop}:binD .shr .prim (.int k a) (.int k' b) K=chk (0≤b) (K (.int k (a.fdiv (2 ^ min b.toNat k.bits)))):=rfl
theorem n_feql {ks:List FK}{l l' : List DV}{K:DV→Prop}:binD .eql (.flat ks) (.agg l) (.agg l') K=optP (eqL ks l l') fun b=>K (.bool b):=rfl
theorem n_fneq {ks:List FK}{l l' : List DV}{K:DV→Prop}:binD .neq (.flat ks) (.agg l) (.agg l') K=optP (eqL ks l l') fun b=>K (.bool !b):=rfl
theorem n_peq0 {K:DV→Prop}:binD .eql .ptr .nilp .nilp K=K (.bool true):=rfl
theorem n_pne0 {K:DV→Prop}:binD .neq .ptr .nilp .nilp K=K (.bool false):=rfl
theorem n_peq1 {l o:Nat}{K:DV→Prop}:binD .eql .ptr (.ptr l o) .nilp K=K (.bool false):=rfl
theorem n_pne1 {l o:Nat}{K:DV→Prop}:binD .neq .ptr (.ptr l o) .nilp K=K (.bool true):=rfl
theorem n_peq2 {sz l j q:Nat}{K:DV→Prop}:binD .eql .ptr (.aptr sz l j q) .nilp K=K (.bool false):=rfl
theorem n_pne2 {sz l j q:Nat}{K:DV→Prop}:binD .neq .ptr (.aptr sz l j q) .nilp K=K (.bool true):=rfl
theorem n_peq3 {l:List DV}{o:Nat}{K:DV→Prop}:binD .eql .ptr (.eptr l o) .nilp K=K (.bool false):=rfl
theorem n_pne3 {l:List DV}{o:Nat}{K:DV→Prop}:binD .neq .ptr (.eptr l o) .nilp K=K (.bool true):=rfl
theorem n_seq1 {sz l off n m:Nat}{c:Option Nat}{K:DV→Prop}:binD .eql .slc (.osl sz l off n c) (.nils m) K=chk (0<n) (K (.bool false)):=rfl
theorem n_sne1 {sz l off n m:Nat}{c:Option Nat}{K:DV→Prop}:binD .neq .slc (.osl sz l off n c) (.nils m) K=chk (0<n) (K (.bool true)):=rfl
theorem n_seq2 {sz m:Nat}{es:List (List DV)}{K:DV→Prop}:binD .eql .slc (.sl sz es) (.nils m) K=chk (es≠[]) (K (.bool false)):=rfl
theorem n_sne2 {sz m:Nat}{es:List (List DV)}{K:DV→Prop}:binD .neq .slc (.sl sz es) (.nils m) K=chk (es≠[]) (K (.bool true)):=rfl
theorem n_seq3 {b:Bool}{n m:Nat}{K:DV→Prop}:binD .eql .slc (.emp b n) (.nils m) K=K (.bool b):=rfl
theorem n_sne3 {b:Bool}{n m:Nat}{K:DV→Prop}:binD .neq .slc (.emp b n) (.nils m) K=K (.bool !b):=rfl
theorem q_nil:eqL [] [] []=some true:=rfl
theorem q_int {f:List FK}{k:IntKind}{a b:Int}{l l' : List DV}:eqL (.int::f) (.int k a::l) (.int k b::l')=(eqL f l l').map (decide (a=b) && ·):=by simp [eqL]
theorem q_str {f:List FK}{a b:List UInt8}{l l' : List DV}:eqL (.str::f) (.str a::l) (.str b::l')=(eqL f l l').map (decide (a=b) && ·):=rfl
theorem q_bool {f:List FK}{a b:Bool}{l l' : List DV}:eqL (.bool::f) (.bool a::l) (.bool b::l')=(eqL f l l').map ((a == b) && ·):=rfl
theorem tkm {α β:Type}{f:α→β}{l:List α}:List.take l.length (l.map f)=l.map f:=List.take_of_length_le (by simp)
theorem cpos {n:Nat}:(0<((n+1:Nat):Int))=True:=by simp
theorem cne {n:Nat}:(((n+1:Nat):Int)=0)=False:=by simp; omega
theorem clt {n:Nat}:(((n:Nat):Int)<0)=False:=by simp
theorem n_cat {a b:List UInt8}{K:DV→Prop}:binD .add .prim (.str a) (.str b) K=chk (a.length+b.length≤4611686018427387904) (K (.str (a++b))):=rfl
set_option linter.defProp false
theorem aI {a b:Prop}(x:a)(y:b):a∧b:=⟨x,y⟩
def gos0:=aI @goN_skip (aI @goN_exit (aI @goN_ret (aI @goN_region (aI @goN_seq (aI @goN_block (aI @goN_cond (aI @condP_true (aI @condP_false (aI @goK_seq (aI @goK_seq_exit (aI @goK_seq_ret (aI @goK_block (aI @goK_block_ret (aI @goK_block_exit (aI @goK_inv (aI @goK_inv_exit (aI @goK_inv_ret (aI @goN_jump (aI @goK_jump (aI @goK_jump_ret (aI @goK_jump_exit (aI @goK_low (@goN_wk)))))))))))))))))))))))
def gos1:=aI @goK_low_ret (aI @goK_low_exit (aI @goK_nil (aI @goO_nil (aI @goO_guardN (aI @guardP_tt (aI @guardP_tf (aI @guardP_ft (aI @guardP_ff (aI @guardP_skip (aI @sel_true (aI @sel_false (aI @chk_true (aI @optP_some (aI @optP_map (aI @boxP_some (aI @arrP_some (aI @iterP_some (aI @mapP_some (aI @newP_go (aI @ocP_nil (aI @ocP_int (aI @ocP_bool (@ocP_str)))))))))))))))))))))))
def gos2:=aI @ocP_nilp (aI @ocP_ptr (aI @ocP_aptr (aI @ocP_eptr (aI @ocP_sl (aI @ocP_osl (aI @ocP_fn (aI @ocP_ifc (aI @ocP_bnd (aI @ocP_emp (aI @ocP_mp (aI @ocP_nili (aI @ocP_nilfn (aI @ocP_nils (aI @kgo_some (aI @kgo_none (aI @knm_int (aI @knm_bool (aI @knmb_true (aI @knmb_false (aI @knm_str (aI @knm_osl (aI @slots_cons (@slots_nil)))))))))))))))))))))))
def gos3:=aI @sub_t (aI @sub_c (aI @ev_c (aI @ev_t (aI @s_eql (aI @s_neq (aI @s_lss (aI @s_leq (aI @s_gtr (aI @s_geq (aI @t_eql (aI @t_neq (aI @mm_one (aI @mm_two (aI @fin_e (aI @fin_en (aI @rvl_nil (aI @rvl_t (aI @rvl_c (aI @cel_p (aI @cel2_n (aI @cel2_s (aI @g_mov (@g_set)))))))))))))))))))))))
def gos4:=aI @g_newnil (aI @g_pick (aI @g_box (aI @g_alloc (aI @g_allocb (aI @g_build (aI @g_bslice (aI @g_load (aI @g_store (aI @g_nilchk (aI @g_mkifc (aI @g_mkbnd (aI @g_bin (aI @g_un (aI @g_conv (aI @g_mkfn (aI @g_mkslice (aI @g_slice (aI @g_faddr (aI @g_field (aI @g_iaddr (aI @g_baddr (aI @g_sidx (@g_range)))))))))))))))))))))))
def gos5:=aI @g_next (aI @g_extr (aI @g_call (aI @g_callv (aI @g_inv (aI @g_len (aI @g_cap (aI @g_appendf (aI @g_append (aI @g_clr (aI @g_cpy (aI @g_appendz (aI @g_mkmap (aI @g_look (aI @g_ment (aI @g_mset (aI @g_mput (aI @g_bad (aI @g_mn (aI @g_mx (aI @e_mov (aI @e_pick_t (aI @e_pick_f (@e_set_int)))))))))))))))))))))))
def gos6:=aI @e_set_bool (aI @e_set_str (aI @e_set_nilp (aI @e_set_ptr (aI @e_set_aptr (aI @e_set_eptr (aI @e_set_sl (aI @e_set_osl (aI @e_set_fn (aI @e_set_ifc (aI @e_set_bnd (aI @e_set_emp (aI @e_set_mp (aI @e_set_nili (aI @e_set_nilfn (aI @e_set_tup (aI @e_set_undef (aI @e_set_nils (aI @e_set_agg (aI @e_faddr_p (aI @e_faddr_a (aI @e_faddr_e (aI @e_nilchk_p (@e_nilchk_a)))))))))))))))))))))))
def gos7:=aI @e_nilchk_e (aI @e_nilchk_f (aI @e_box (aI @e_load_p (aI @e_load_a (aI @e_load_e (aI @e_loadn_p (aI @e_loadn_a (aI @e_loadn_e (aI @e_store_p (aI @e_store_a (aI @e_store_af (aI @e_bin (aI @e_not (aI @e_neg (aI @e_conv_int (aI @e_conv_id (aI @e_conv_i2s (aI @e_conv_s2r (aI @e_b2s_sl (aI @e_b2s_osl (aI @e_b2s_nils (aI @e_r2s_sl (@e_r2s_osl)))))))))))))))))))))))
def gos8:=aI @e_r2s_nils (aI @e_mkfn (aI @e_mkifc (aI @e_mkbnd (aI @e_mkslice (aI @e_slice_str (aI @e_slice_sl (aI @e_slice_osl (aI @e_slice_oslc (aI @e_slice_nil (aI @d_nn (aI @d_sn (aI @d_ns (aI @d_ss (aI @e_field (aI @e_fieldn (aI @e_iaddr_sl (aI @e_iaddr_osl (aI @e_baddr (aI @e_sidx (aI @e_range (aI @e_next (aI @e_extr (@e_call)))))))))))))))))))))))
def gos9:=aI @e_callv (aI @e_callb (aI @e_inv (aI @e_len_str (aI @e_len_sl (aI @e_len_osl (aI @e_len_emp (aI @e_len_nil (aI @e_cap_osl (aI @e_cap_nil (aI @e_mn (aI @e_mx (aI @e_build (aI @bld_nil (aI @bld_cons (aI @own_nil (aI @own_osl (aI @own_int (aI @own_bool (aI @own_str (aI @own_sl (aI @own_emp (aI @own_mp (@own_nils)))))))))))))))))))))))
def gos10:=aI @own_nilp (aI @own_agg (aI @own_fn (aI @own_ifc (aI @own_bnd (aI @isArr_some (aI @isArr_box (aI @isArr_buf (aI @isArr_gbuf (aI @isArr_dead (aI @isArr_mapo (aI @isArr_iter (aI @memN_nil (aI @memN_cons (aI @shr_arr (aI @fz_osl (aI @fz_int (aI @fz_bool (aI @fz_str (aI @fz_nilp (aI @fz_nilfn (aI @fz_emp (aI @fz_nili (@fz_undef)))))))))))))))))))))))
def gos11:=aI @fz_nils (aI @fz_sl (aI @fz_eptr (aI @fz_ptr (aI @fz_mp (aI @fz_self (aI @fz_hdr (aI @fz_aptr (aI @fz_agg (aI @fz_tup (aI @fz_ifc (aI @fz_bnd (aI @fz_fn (aI @fzs_nil (aI @fzs_cons (aI @fzS_nil (aI @fzS_cons (aI @fzH_nil (aI @fzH_arr (aI @fzH_box (aI @fzH_iter (aI @fzH_mapo (aI @fzH_buf (@fzH_gbuf)))))))))))))))))))))))
def gos12:=aI @fzH_dead (aI @shutP_e (aI @e_bslice (aI @el_sl (aI @el_emp (aI @el_nils (aI @el_osl (aI @el_str (aI @e_clr (aI @e_cpy (aI @e_look (aI @e_ment (aI @e_mset (aI @e_mput (aI @e_appendf (aI @e_append (aI @e_appendz (aI @kil_int (aI @kil_bool (aI @kil_str (aI @kil_nilp (aI @kil_nilfn (aI @kil_nili (@kil_undef)))))))))))))))))))))))
def gos13:=aI @kil_emp (aI @kil_nils (aI @kil_sl (aI @kil_eptr (aI @kil_ptr (aI @kil_mp (aI @kil_self (aI @kil_hdr (aI @kil_aptr (aI @kil_osl (aI @kilL_nil (aI @kilL_cons (aI @kil_agg (aI @kil_tup (aI @kil_ifc (aI @kil_bnd (aI @kil_fn (aI @kilS_nil (aI @kilS_cons (aI @kilH_nil (aI @kilH_box (aI @kilH_arr (aI @kilH_iter (@kilH_mapo)))))))))))))))))))))))
def gos14:=aI @kilH_buf (aI @kilH_gbuf (aI @kilH_dead (aI @ap_nils (aI @ap_osl (aI @ap_frz (aI @ap_cap (aI @ap_cpy (aI @cs_agg (aI @cs_int (aI @cs_bool (aI @cs_str (aI @cs_tup (aI @cs_nilp (aI @cs_ptr (aI @cs_aptr (aI @cs_eptr (aI @cs_emp (aI @cs_mp (aI @pv_int (aI @pv_bool (aI @pv_str (aI @cs_nils (@cs_sl)))))))))))))))))))))))
def gos15:=aI @cs_osl (aI @cs_fn (aI @cs_hdr (aI @cs_self (aI @cs_nilfn (aI @cs_ifc (aI @cs_bnd (aI @cs_nili (aI @o_int (aI @o_bool (aI @o_str (aI @o_nilp (aI @o_ptr (aI @o_aptr (aI @o_eptr (aI @o_emp (aI @o_mp (aI @o_nils (aI @o_sl (aI @o_osl (aI @o_fn (aI @o_hdr (aI @o_self (@o_nilfn)))))))))))))))))))))))
def gos16:=aI @o_ifc (aI @o_bnd (aI @o_nili (aI @z_int (aI @z_bool (aI @z_str (aI @z_nilp (aI @z_eptr (aI @z_emp (aI @z_mp (aI @z_nils (aI @z_sl (aI @z_nilfn (aI @z_nili (aI @z_hdr (aI @z_self (aI @z_ptr (aI @z_aptr (aI @z_osl (aI @z_agg (aI @z_tup (aI @z_fn (aI @z_ifc (@z_bnd)))))))))))))))))))))))
def gos17:=aI @n_add (aI @n_sub (aI @n_mul (aI @n_quo (aI @n_rem (aI @n_eql (aI @n_neq (aI @n_lss (aI @n_leq (aI @n_gtr (aI @n_geq (aI @n_and (aI @n_or (aI @n_xor (aI @n_shl (aI @n_shr (aI @n_feql (aI @n_fneq (aI @n_peq0 (aI @n_pne0 (aI @n_peq1 (aI @n_pne1 (aI @n_peq2 (@n_pne2)))))))))))))))))))))))
def gos18:=aI @n_peq3 (aI @n_pne3 (aI @n_seq1 (aI @n_sne1 (aI @n_seq2 (aI @n_sne2 (aI @n_seq3 (aI @n_sne3 (aI @q_nil (aI @q_int (aI @q_str (aI @q_bool (aI @tkm (aI @cpos (aI @cne (aI @clt (@n_cat))))))))))))))))
def gos:=aI gos0 (aI gos1 (aI gos2 (aI gos3 (aI gos4 (aI gos5 (aI gos6 (aI gos7 (aI gos8 (aI gos9 (aI gos10 (aI gos11 (aI gos12 (aI gos13 (aI gos14 (aI gos15 (aI gos16 (aI gos17 (gos18))))))))))))))))))
def gop0:=aI @nrm_eq (aI @evl_go (aI @knmb_b (aI @List.map_cons.{0,0} (aI @List.map_nil.{0,0} (aI @Option.map_some.{0,0} (aI @Option.map_none.{0,0} (aI @Option.bind_some.{0,0} (aI @List.all_cons.{0} (aI @List.all_nil.{0} (aI @Bool.and_true (aI @Bool.true_and (aI @Bool.and_self (aI @Bool.not_false (aI @Bool.not_true (aI @List.length_nil.{0} (aI @List.length_cons.{0} (aI @List.nil_append.{0} (aI @List.cons_append.{0} (aI @List.append_nil.{0} (aI @List.getElem?_cons_zero.{0} (aI @List.getElem?_cons_succ.{0} (aI @List.length_map.{0,0} (@List.take_succ_cons.{0})))))))))))))))))))))))
def gop1:=aI @List.take_zero.{0} (aI @List.drop_zero.{0} (aI @List.drop_succ_cons.{0} (aI @List.drop_nil.{0} (aI @List.take_nil.{0} (aI @List.set_cons_zero.{0} (aI @List.set_cons_succ.{0} (aI @List.take_length.{0} (aI @List.zipIdx_cons.{0} (aI @List.zipIdx_nil.{0} (aI @Nat.zero_add (aI @Nat.add_zero (aI @Nat.le_refl (aI @Nat.sub_zero (aI @Nat.zero_le (aI @Int.toNat_natCast (aI @Int.natCast_nonneg (aI @decide_eq_true_eq (aI @decide_eq_false_iff_not (aI @Bool.not_eq_true' (aI @Bool.not_eq_false' (aI @Bool.false_eq_true (aI @Bool.true_eq_false (@Bool.and_eq_true)))))))))))))))))))))))
def gop2:=aI @not_true_eq_false (aI @not_false_eq_true (aI @false_implies (aI @true_implies (aI @true_and (aI @and_true (aI @decide_true (aI @decide_false (aI @Int.cast_ofNat_Int (aI @Go.Ai.cpos (aI @Go.Ai.cne (aI @Go.Ai.clt (@Go.Ai.tkm))))))))))))
def gop:=aI gop0 (aI gop1 (gop2))
end Go.Ai
