/- What an operation does, its operands being known. -/
import Derived.Test.YtgamnnfndidclaaGreatDoorBAiGo
set_option linter.all false
namespace Go.Ai
section
variable {E:Env} {L:List (Nat×DV)} {h:List AObj} {K:DV→St→Prop} {st:St}
theorem e_mov {d:DV}:aopC E (.mov (.c d)) K st=K d st:=rfl
theorem e_pick_t {a b:DV}:aopC E (.pick (.c (.bool true)) (.c a) (.c b)) K st=K a st:=rfl
theorem e_pick_f {a b:DV}:aopC E (.pick (.c (.bool false)) (.c a) (.c b)) K st=K b st:=rfl
theorem e_set_int {k:IntKind}{n:Int}:aopC E (.set (.c (.int k n))) K st=K (.int k n) st:=rfl
theorem e_set_bool {b:Bool}:aopC E (.set (.c (.bool b))) K st=K (.bool b) st:=rfl
theorem e_set_str {s:List UInt8}:aopC E (.set (.c (.str s))) K st=K (.str s) st:=rfl
theorem e_set_nilp:aopC E (.set (.c .nilp)) K st=K .nilp st:=rfl
theorem e_set_ptr {i o:Nat}:aopC E (.set (.c (.ptr i o))) K st=K (.ptr i o) st:=rfl
theorem e_set_aptr {sz i j q:Nat}:aopC E (.set (.c (.aptr sz i j q))) K st=K (.aptr sz i j q) st:=rfl
theorem e_set_eptr {cs:List DV}{o:Nat}:aopC E (.set (.c (.eptr cs o))) K st=K (.eptr cs o) st:=rfl
theorem e_set_sl {sz:Nat}{es:List (List DV)}:aopC E (.set (.c (.sl sz es))) K st=K (.sl sz es) st:=rfl
theorem e_set_osl {sz i off n:Nat}{c:Option Nat}:aopC E (.set (.c (.osl sz i off n c))) K st=K (.osl sz i off n c) st:=rfl
theorem e_set_fn {f:Nat}{cs:List DV}:aopC E (.set (.c (.fn f cs))) K st=K (.fn f cs) st:=rfl
theorem e_set_ifc {f:Nat}{cs:List DV}:aopC E (.set (.c (.ifc f cs))) K st=K (.ifc f cs) st:=rfl
theorem e_set_bnd {f:Nat}{cs:List DV}:aopC E (.set (.c (.bnd f cs))) K st=K (.bnd f cs) st:=rfl
theorem e_set_emp {b:Bool}{n:Nat}:aopC E (.set (.c (.emp b n))) K st=K (.emp b n) st:=rfl
theorem e_set_mp {i:Nat}:aopC E (.set (.c (.mp i))) K st=K (.mp i) st:=rfl
theorem e_set_nili:aopC E (.set (.c .nili)) K st=K .nili st:=rfl
theorem e_set_nilfn:aopC E (.set (.c .nilfn)) K st=K .nilfn st:=rfl
theorem e_set_tup {x:List DV}:aopC E (.set (.c (.tup x))) K st=K (.tup x) st:=rfl
theorem e_set_undef:aopC E (.set (.c .undef)) K st=K .undef st:=rfl
theorem e_set_nils {n:Nat}:aopC E (.set (.c (.nils n))) K (sta L h)=newP h (.arr n []) fun i h' => K (.osl n i 0 0 none) (sta L h'):=rfl
theorem e_set_agg {x:List DV}:aopC E (.set (.c (.agg x))) K (sta L h)=ocP x h fun x' h' => K (.agg x') (sta L h'):=rfl
theorem e_faddr_p {n i o:Nat}:aopC E (.faddr n (.c (.ptr i o))) K st=evl (nrm (o+n)) fun x=>K (.ptr i x) st:=rfl
theorem e_faddr_a {n sz i j q:Nat}:aopC E (.faddr n (.c (.aptr sz i j q))) K st=evl (nrm (q+n)) fun x=>K (.aptr sz i j x) st:=rfl
theorem e_faddr_e {n o:Nat}{cs:List DV}:aopC E (.faddr n (.c (.eptr cs o))) K st=evl (nrm (o+n)) fun x=>K (.eptr cs x) st:=rfl
theorem e_nilchk_p {i o:Nat}:aopC E (.nilchk (.c (.ptr i o))) K st=K (.ptr i o) st:=rfl
theorem e_nilchk_a {sz i j q:Nat}:aopC E (.nilchk (.c (.aptr sz i j q))) K st=K (.aptr sz i j q) st:=rfl
theorem e_nilchk_e {cs:List DV}{o:Nat}:aopC E (.nilchk (.c (.eptr cs o))) K st=K (.eptr cs o) st:=rfl
theorem e_nilchk_f {f:Nat}{cs:List DV}:aopC E (.nilchk (.c (.fn f cs))) K st=K (.fn f cs) st:=rfl
theorem e_box {d:DV}:aopC E (.box (.c d)) K (sta L h)=evl (nrm d.cells) fun cs=>chk (cs.all DV.one=true) (ocP cs h fun cs' h' => newP h' (.box cs') fun i h'' => K (.ptr i 0) (sta L h'')):=rfl
theorem e_load_p {i o:Nat}:aopC E (.load none (.c (.ptr i o))) K (sta L h)=boxP h[i]? fun cs=>optP cs[o]? fun d=>K d (sta L h):=rfl
theorem e_load_a {sz i j q:Nat}:aopC E (.load none (.c (.aptr sz i j q))) K (sta L h)=arrP sz h[i]? fun es=>optP es[j]? fun e=>optP e[q]? fun d=>K d (sta L h):=rfl
theorem e_load_e {cs:List DV}{o:Nat}:aopC E (.load none (.c (.eptr cs o))) K st=optP cs[o]? fun d=>K d st:=rfl
theorem e_loadn_p {n i o:Nat}:aopC E (.load (some n) (.c (.ptr i o))) K (sta L h)=boxP h[i]? fun cs=>chk (o+n≤cs.length) (evl (nrm ((cs.drop o).take n)) fun x=>K (.agg x) (sta L h)):=rfl
theorem e_loadn_a {n sz i j q:Nat}:aopC E (.load (some n) (.c (.aptr sz i j q))) K (sta L h)=arrP sz h[i]? fun es=>optP es[j]? fun e=>chk (q+n≤e.length) (evl (nrm ((e.drop q).take n)) fun x=>K (.agg x) (sta L h)):=rfl
theorem e_loadn_e {n o:Nat}{cs:List DV}:aopC E (.load (some n) (.c (.eptr cs o))) K st=chk (o+n≤cs.length) (evl (nrm ((cs.drop o).take n)) fun x=>K (.agg x) st):=rfl
theorem e_store_p {b:Bool}{n i o:Nat}{v:DV}:aopC E (.store b n (.c (.ptr i o)) (.c v)) K (sta L h)=boxP h[i]? fun cs=>evl (nrm v.cells) fun vs=>chk (vs.all DV.one=true) (chk (vs.length=n) (chk (o+n≤cs.length) (ocP vs h fun vs' h' =>
    evl (nrm (cs.take o++vs' ++ cs.drop (o+n))) fun cs' => evl (nrm (h'.set i (.box cs'))) fun h'' => K .undef (sta L h'')))):=rfl
theorem e_store_a {n sz i j q:Nat}{v:DV}:aopC E (.store true n (.c (.aptr sz i j q)) (.c v)) K (sta L h)=sel (nrm v.closed) (arrP sz h[i]? fun es=>optP es[j]? fun e=>evl (nrm v.cells) fun vs=>chk (vs.all DV.one=true) (chk (vs.length=n) (chk (q+n≤e.length)
  (evl (nrm (es.set j (e.take q++vs++e.drop (q+n)))) fun es' => evl (nrm (h.set i (.arr sz es'))) fun h' => K .undef (sta L h')))))
  (shutL [v] (sta L h) fun ds st' => ∃ d,ds=[d]∧∃ es,st'.h[i]?=some (.arr sz es)∧∃ e,es[j]?=some e∧d.closed=true∧d.cells.all DV.one=true∧d.cells.length=n∧q+n≤e.length ∧
   K .undef (st'.at i (.arr sz (es.set j (e.take q++d.cells++e.drop (q+n)))))):=by
 rw [c_store_a]
 by_cases hc:v.closed=true
 ·have e:∀ {X Y:Prop},sel (nrm v.closed) X Y=X:=by intro X Y; rw [nrm,hc]; rfl
  rw [e]
  apply propext
  simp only [true_or,true_and,shutL,List.all_cons,List.all_nil,hc,Bool.and_true,if_true,List.cons.injEq,and_true,exists_eq_left',arrP,optP,evl,nrm,chk,sta_h,sta_at]
 ·have e:∀ {X Y:Prop},sel (nrm v.closed) X Y=Y:=by
   intro X Y; rw [nrm]; cases h:v.closed with
   | true=>exact absurd h hc
   | false=>rfl
  rw [e]
  try simp
theorem e_store_af {n sz i j q:Nat}{v:DV}:aopC E (.store false n (.c (.aptr sz i j q)) (.c v)) K (sta L h)=sel (nrm v.closed) (arrP sz h[i]? fun es=>optP es[j]? fun e=>evl (nrm v.cells) fun vs=>chk (vs.all DV.one=true) (chk (vs.length=n) (chk (q+n≤e.length)
  (evl (nrm (es.set j (e.take q++vs++e.drop (q+n)))) fun es' => evl (nrm (h.set i (.arr sz es'))) fun h' => K .undef (sta L h'))))) False:=by
 rw [c_store_a]
 by_cases hc:v.closed=true
 ·have e:∀ {X Y:Prop},sel (nrm v.closed) X Y=X:=by intro X Y; rw [nrm,hc]; rfl
  rw [e]
  apply propext
  simp only [or_true,true_and,shutL,List.all_cons,List.all_nil,hc,Bool.and_true,if_true,List.cons.injEq,and_true,exists_eq_left',arrP,optP,evl,nrm,chk,sta_h,sta_at]
 ·have e:∀ {X Y:Prop},sel (nrm v.closed) X Y=Y:=by
   intro X Y; rw [nrm]; cases h:v.closed with
   | true=>exact absurd h hc
   | false=>rfl
  rw [e]
  simp [hc]
theorem e_bin {o:BinOp}{t:Ty}{x y:DV}:aopC E (.bin o t (.c x) (.c y)) K st=binD o t x y fun d=>K d st:=rfl
theorem e_not {b:Bool}:aopC E (.un .not (.c (.bool b))) K st=K (.bool !b) st:=rfl
theorem e_neg {k:IntKind}{n:Int}:aopC E (.un .neg (.c (.int k n))) K st=K (.int k (k.wrap (0 - n))) st:=rfl
theorem e_conv_int {k k' : IntKind}{n:Int}:aopC E (.conv (.int k) (.c (.int k' n))) K st=K (.int k (k.wrap n)) st:=rfl
theorem e_conv_id {s:List UInt8}:aopC E (.conv .id (.c (.str s))) K st=K (.str s) st:=rfl
theorem e_conv_i2s {k:IntKind}{n:Int}:aopC E (.conv .i2s (.c (.int k n))) K st=K (.str (Utf8.encode n).data.toList) st:=rfl
theorem s2b_osl {s:List UInt8}(hk:newP h (.arr 1 (s.map fun b=>[.int .u8 b.toNat])) fun i h' => K (.osl 1 i 0 s.length none) (sta L h')):aopC E (.conv .s2b (.c (.str s))) K (sta L h):=.inl hk
theorem s2b_emp (hk:newP h (.arr 1 []) fun _ h' => K (.emp false 1) (sta L h')):aopC E (.conv .s2b (.c (.str []))) K (sta L h):=.inr ⟨rfl,hk⟩
theorem e_conv_s2r {s:List UInt8}:aopC E (.conv .s2r (.c (.str s))) K (sta L h)=newP h (.arr 1 ((runesL s s.length 0).map fun r=>[.int .i32 r])) fun i h' => K (.osl 1 i 0 (runesL s s.length 0).length none) (sta L h'):=rfl
theorem e_b2s_sl {es:List (List DV)}:aopC E (.conv .b2s (.c (.sl 1 es))) K st=∃ bs:List UInt8,es=bs.map (fun b=>[.int .u8 b.toNat])∧K (.str bs) st:=rfl
theorem e_b2s_osl {i off n:Nat}{c:Option Nat}:aopC E (.conv .b2s (.c (.osl 1 i off n c))) K (sta L h)=((n=0∧K (.str []) (sta L h))∨∃ es,h[i]?=some (.arr 1 es)∧off+n≤es.length∧∃ bs:List UInt8,(es.drop off).take n=bs.map (fun b=>[.int .u8 b.toNat])∧K (.str bs) (sta L h)):=rfl
theorem e_b2s_nils {n:Nat}:aopC E (.conv .b2s (.c (.nils n))) K st=K (.str []) st:=rfl
theorem e_r2s_sl {es:List (List DV)}:aopC E (.conv .r2s (.c (.sl 1 es))) K st=∃ rs:List Int,es=rs.map (fun r=>[.int .i32 r])∧K (.str (rs.flatMap fun r=>(Utf8.encode r).data.toList)) st:=rfl
theorem e_r2s_osl {i off n:Nat}{c:Option Nat}:aopC E (.conv .r2s (.c (.osl 1 i off n c))) K (sta L h)=((n=0∧K (.str []) (sta L h))∨∃ es,h[i]?=some (.arr 1 es)∧off+n≤es.length∧∃ rs:List Int,(es.drop off).take n=rs.map (fun r=>[.int .i32 r])∧K (.str (rs.flatMap fun r=>(Utf8.encode r).data.toList)) (sta L h)):=rfl
theorem e_r2s_nils {n:Nat}:aopC E (.conv .r2s (.c (.nils n))) K st=K (.str []) st:=rfl
theorem e_mkfn {f:Nat}{cs:List AX}:aopC E (.mkfn f cs) K (sta L h)=evl (nrm (cs.map (AX.ev (slots L)))) fun x=>K (.fn f x) (sta L h):=rfl
theorem e_mkifc {t:Nat}{d:DV}:aopC E (.mkifc t (.c d)) K (sta L h)=K (.ifc t [d]) (sta L h):=rfl
theorem e_mkbnd {t:Nat}{d:DV}:aopC E (.mkbnd t (.c d)) K (sta L h)=K (.bnd t [d]) (sta L h):=rfl
theorem e_mkslice {sz bytes:Nat}{z:List DV}{n m:Int}:aopC E (.mkslice sz bytes z (.c (.int .i64 n)) (.c (.int .i64 m))) K (sta L h) =
  chk (0≤n) (chk (n≤m) (chk (m*bytes≤1099511627776) (chk (m≤1099511627776) (newP h (.arr sz (List.replicate m.toNat z)) fun i h' => K (.osl sz i 0 n.toNat (some m.toNat)) (sta L h'))))):=rfl
theorem e_slice_str {lo hi:Option AX}{s:List UInt8}:aopC E (.slice none (.c (.str s)) lo hi) K st=bnd st.fr lo hi s.length s.length fun i j=>evl (nrm ((s.drop i).take (j - i))) fun x=>K (.str x) st:=by simp only [c_slice_str,true_and]; rfl
theorem e_slice_sl {lo hi:Option AX}{sz:Nat}{es:List (List DV)}:aopC E (.slice (some sz) (.c (.sl sz es)) lo hi) K st=bnd st.fr lo hi es.length es.length fun i j=>evl (nrm ((es.drop i).take (j - i))) fun x=>K (.sl sz x) st:=by simp only [c_slice_sl,true_and]; rfl
theorem e_slice_osl {lo hi:Option AX}{sz i off n:Nat}:aopC E (.slice (some sz) (.c (.osl sz i off n none)) lo hi) K st=bnd st.fr lo hi n n fun a b=>evl (nrm (off+a)) fun x=>evl (nrm (b - a)) fun y=>K (.osl sz i x y none) st:=by simp only [c_slice_osl,true_and]; rfl
theorem e_slice_oslc {lo hi:Option AX}{sz i off n c:Nat}:aopC E (.slice (some sz) (.c (.osl sz i off n (some c))) lo hi) K st=bnd st.fr lo hi n c fun a b=>evl (nrm (off+a)) fun x=>evl (nrm (b - a)) fun y=>evl (nrm (c - a)) fun z=>K (.osl sz i x y (some z)) st:=by simp only [c_slice_oslc,true_and]; rfl
theorem e_slice_nil {lo hi:Option AX}{k sz:Nat}:aopC E (.slice (some k) (.c (.nils sz)) lo hi) K st=bnd st.fr lo hi 0 0 fun _ _=>K (.nils sz) st:=by simp only [c_slice_nil,Option.isSome_some,true_and]
theorem d_nn {fr:Nat→DV}{n c:Nat}{Q:Nat→Nat→Prop}:bnd fr none none n c Q=Q 0 n:=rfl
theorem d_sn {fr:Nat→DV}{n c:Nat}{k:IntKind}{i:Int}{Q:Nat→Nat→Prop}:bnd fr (some (.c (.int k i))) none n c Q=chk (0≤i) (chk (i≤n) (evl (nrm i.toNat) fun a=>Q a n)):=rfl
theorem d_ns {fr:Nat→DV}{n c:Nat}{k:IntKind}{j:Int}{Q:Nat→Nat→Prop}:bnd fr none (some (.c (.int k j))) n c Q=chk (0≤j) (chk (j≤c) (evl (nrm j.toNat) fun b=>Q 0 b)):=rfl
theorem d_ss {fr:Nat→DV}{n c:Nat}{k k' : IntKind}{i j:Int}{Q:Nat→Nat→Prop}:bnd fr (some (.c (.int k i))) (some (.c (.int k' j))) n c Q=chk (0≤i) (chk (i≤j) (chk (j≤c) (evl (nrm i.toNat) fun a=>evl (nrm j.toNat) fun b=>Q a b))):=rfl
theorem e_field {o:Nat}{cs:List DV}:aopC E (.field o none (.c (.agg cs))) K st=optP cs[o]? fun d=>K d st:=rfl
theorem e_fieldn {o n:Nat}{cs:List DV}:aopC E (.field o (some n) (.c (.agg cs))) K st=chk (o+n≤cs.length) (evl (nrm ((cs.drop o).take n)) fun x=>K (.agg x) st):=rfl
theorem e_iaddr_sl {sz:Nat}{es:List (List DV)}{k:IntKind}{j:Int}:aopC E (.iaddr sz (.c (.sl sz es)) (.c (.int k j))) K st=chk (0≤j) (evl (nrm j.toNat) fun i=>optP es[i]? fun e=>K (.eptr e 0) st):=by simp only [c_iaddr_sl,true_and]; rfl
theorem e_iaddr_osl {sz i off n:Nat}{c:Option Nat}{k:IntKind}{j:Int}:aopC E (.iaddr sz (.c (.osl sz i off n c)) (.c (.int k j))) K st=chk (0≤j) (chk (j<n) (evl (nrm (off+j.toNat)) fun x=>K (.aptr sz i x 0) st)):=by simp only [c_iaddr_osl,true_and]; rfl
theorem e_baddr {n sz l o:Nat}{k:IntKind}{j:Int}:aopC E (.baddr n sz (.c (.ptr l o)) (.c (.int k j))) K st=chk (0≤j) (chk (j<n) (evl (nrm (o+j.toNat*sz)) fun x=>K (.ptr l x) st)):=rfl
theorem e_sidx {s:List UInt8}{k:IntKind}{j:Int}:aopC E (.sidx (.c (.str s)) (.c (.int k j))) K st=chk (0≤j) (chk (j<s.length) (evl (nrm j.toNat) fun i=>K (.int .u8 (bt s i)) st)):=rfl
theorem e_range {s:List UInt8}:aopC E (.range (.c (.str s))) K (sta L h)=newP h (.iter s 0) fun i h' => K (.ptr i 0) (sta L h'):=rfl
theorem e_next {i:Nat}:aopC E (.next (.c (.ptr i 0))) K (sta L h)=iterP h[i]? fun s pos=>
    (pos<s.length→evl (nrm (h.set i (.iter s (pos+(Utf8.decode ⟨s.toArray⟩ pos).2)))) fun h' => K (.tup [.bool true,.int .i64 pos,.int .i32 (Utf8.decode ⟨s.toArray⟩ pos).1]) (sta L h')) ∧
    (¬ pos<s.length→K (.tup [.bool false]) (sta L h)):=rfl
theorem e_extr {x:List DV}{i:Nat}:aopC E (.extr (.c (.tup x)) i) K st=optP x[i]? fun d=>K d st:=rfl
theorem e_call {b:Bool}{f:Nat}{as:List AX}:aopC E (.call b f as) K (sta L h)=evl (nrm (as.map (AX.ev (slots L)))) fun ds=>acall E b f ds K (sta L h):=rfl
theorem e_callv {b:Bool}{f:Nat}{cs:List DV}{as:List AX}:aopC E (.callv b (.c (.fn f cs)) as) K (sta L h)=evl (nrm (as.map (AX.ev (slots L))++cs)) fun ds=>acall E b f ds K (sta L h):=rfl
theorem e_callb {b:Bool}{f:Nat}{cs:List DV}{as:List AX}:aopC E (.callv b (.c (.bnd f cs)) as) K (sta L h)=evl (nrm (cs++as.map (AX.ev (slots L)))) fun ds=>acall E b f ds K (sta L h):=rfl
theorem e_inv {b:Bool}{m:String}{t:Nat}{l:List DV}{as:List AX}:aopC E (.inv b m (.c (.ifc t l)) as) K (sta L h)=optP (methF E.P t m) fun f=>evl (nrm (l++as.map (AX.ev (slots L)))) fun ds=>acall E b f ds K (sta L h):=rfl
theorem e_len_str {s:List UInt8}:aopC E (.len true (.c (.str s))) K st=evl (nrm s.length) fun n=>K (.int .i64 n) st:=by simp only [c_len_str,true_and]; rfl
theorem e_len_sl {sz:Nat}{es:List (List DV)}:aopC E (.len false (.c (.sl sz es))) K st=evl (nrm es.length) fun n=>K (.int .i64 n) st:=by simp only [c_len_sl,true_and]; rfl
theorem e_len_osl {sz i off n:Nat}{c:Option Nat}:aopC E (.len false (.c (.osl sz i off n c))) K st=K (.int .i64 n) st:=by simp only [c_len_osl,true_and]
theorem e_len_emp {b:Bool}{sz:Nat}:aopC E (.len false (.c (.emp b sz))) K st=K (.int .i64 0) st:=by simp only [c_len_emp,true_and]
theorem e_len_nil {sz:Nat}:aopC E (.len false (.c (.nils sz))) K st=K (.int .i64 0) st:=by simp only [c_len_nil,true_and]
theorem e_cap_osl {sz i off n c:Nat}:aopC E (.cap (.c (.osl sz i off n (some c)))) K st=K (.int .i64 c) st:=rfl
theorem e_cap_nil {sz:Nat}:aopC E (.cap (.c (.nils sz))) K st=K (.int .i64 0) st:=rfl
theorem e_mn {as:List AX}:aopC E (.mn as) K (sta L h)=evl (nrm (as.map (AX.ev (slots L)))) fun ds=>mm (fun x y=>if y<x then y else x) ds fun d=>K d (sta L h):=rfl
theorem e_mx {as:List AX}:aopC E (.mx as) K (sta L h)=evl (nrm (as.map (AX.ev (slots L)))) fun ds=>mm (fun x y=>if y>x then y else x) ds fun d=>K d (sta L h):=rfl
theorem e_build {z:List DV}{ps:List (Nat×Nat×AX)}:aopC E (.build z ps) K (sta L h)=evl (nrm (ps.map fun p=>(p.1,p.2.1,p.2.2.ev (slots L)))) fun qs=>bldD z qs fun cs=>K (.agg cs) (sta L h):=rfl
theorem bld_nil {cs:List DV}{Q:List DV→Prop}:bldD cs [] Q=Q cs:=rfl
theorem bld_cons {cs:List DV}{o n:Nat}{d:DV}{l:List (Nat×Nat×DV)}{Q:List DV→Prop}:bldD cs ((o,n,d)::l) Q=evl (nrm d.cells) fun ds=>chk (ds.all DV.one=true) (chk (ds.length=n) (chk (o+n≤cs.length)
  (evl (nrm (cs.take o++ds++cs.drop (o+n))) fun cs' => bldD cs' l Q))):=rfl
def ownA (h:List AObj)(ds:List DV):List Nat:=(ds.flatMap DV.owns).filter fun l=>isArr h[l]?
def frzD (F:List Nat)(h:List AObj)(d:DV):DV:=d.low (frz F) h
def frzDs (F:List Nat)(h:List AObj)(ds:List DV):List DV:=ds.map (frzD F h)
def frzS (F:List Nat)(h:List AObj):List (Nat×DV)→List (Nat×DV)
 | []=>[]
 | (t,d)::L=>(t,frzD F h d)::frzS F h L
def frzH (F:List Nat)(h:List AObj)(n:Nat):List AObj→List AObj
 | []=>[]
 | o::l=>frzO F h n o::frzH F h (n+1) l
theorem frzS_slots (F:List Nat)(h:List AObj):∀ (L:List (Nat×DV))(s:Nat),(slots L s).low (frz F) h=slots (frzS F h L) s
 | [],_=>rfl
 | (t,d)::L,s=>by
  simp only [slots,frzS]
  split
  ·rfl
  ·exact frzS_slots F h L s
theorem frzH_eq (F:List Nat)(h:List AObj):∀ (l:List AObj)(n:Nat),(l.zipIdx n).map (fun (o,l)=>frzO F h l o)=frzH F h n l
 | [],_=>rfl
 | o::l,n=>by rw [List.zipIdx_cons,List.map_cons,frzH_eq F h l (n+1)]; rfl
theorem sta_freeze {F:List Nat}{L:List (Nat×DV)}{h:List AObj}:(sta L h).freeze F=sta (frzS F h L) (frzH F h 0 h):=by
 unfold St.freeze sta
 congr 1
 ·funext s; exact frzS_slots F h L s
 ·exact frzH_eq F h h 0
section
variable {h:List AObj} {F:List Nat}
theorem own_nil:ownA h []=[]:=rfl
theorem own_osl {sz i off n:Nat}{c:Option Nat}{ds:List DV}:ownA h (.osl sz i off n c::ds)=sel (isArr h[i]?) (i::ownA h ds) (ownA h ds):=by
 cases hq:isArr h[i]? <;> simp [ownA,DV.owns,hq,sel]
theorem own_int {k:IntKind}{n:Int}{ds:List DV}:ownA h (.int k n::ds)=ownA h ds:=rfl
theorem own_bool {b:Bool}{ds:List DV}:ownA h (.bool b::ds)=ownA h ds:=rfl
theorem own_str {s:List UInt8}{ds:List DV}:ownA h (.str s::ds)=ownA h ds:=rfl
theorem own_sl {sz:Nat}{es:List (List DV)}{ds:List DV}:ownA h (.sl sz es::ds)=ownA h ds:=rfl
theorem own_emp {b:Bool}{n:Nat}{ds:List DV}:ownA h (.emp b n::ds)=ownA h ds:=rfl
theorem own_mp {i:Nat}{ds:List DV}:ownA h (.mp i::ds)=ownA h ds:=rfl
theorem own_nils {n:Nat}{ds:List DV}:ownA h (.nils n::ds)=ownA h ds:=rfl
theorem own_nilp {ds:List DV}:ownA h (.nilp::ds)=ownA h ds:=rfl
theorem owns_all:∀ (l:List DV),DV.owns.ownsAll l=l.flatMap DV.owns
 | []=>rfl
 | d::l=>by simp [DV.owns.ownsAll,owns_all l]
theorem own_agg {l ds:List DV}:ownA h (.agg l::ds)=ownA h (l++ds):=by
 simp only [ownA,List.flatMap_cons,List.flatMap_append,DV.owns,owns_all]
theorem own_fn {f:Nat}{l ds:List DV}:ownA h (.fn f l::ds)=ownA h (l++ds):=by
 simp only [ownA,List.flatMap_cons,List.flatMap_append,DV.owns,owns_all]
theorem own_ifc {f:Nat}{l ds:List DV}:ownA h (.ifc f l::ds)=ownA h (l++ds):=by
 simp only [ownA,List.flatMap_cons,List.flatMap_append,DV.owns,owns_all]
theorem own_bnd {f:Nat}{l ds:List DV}:ownA h (.bnd f l::ds)=ownA h (l++ds):=by
 simp only [ownA,List.flatMap_cons,List.flatMap_append,DV.owns,owns_all]
theorem isArr_some {sz:Nat}{es:List (List DV)}:isArr (some (.arr sz es))=true:=rfl
theorem isArr_box {cs:List DV}:isArr (some (.box cs))=false:=rfl
theorem isArr_buf {e:Nat}{bs:List UInt8}:isArr (some (.buf e bs))=false:=rfl
theorem isArr_gbuf {e:Nat}{bs:List UInt8}:isArr (some (.gbuf e bs))=false:=rfl
theorem isArr_dead:isArr (some .dead)=false:=rfl
theorem isArr_mapo {es:List (List UInt8×PV)}:isArr (some (.mapo es))=false:=rfl
theorem isArr_iter {s:List UInt8}{p:Nat}:isArr (some (.iter s p))=false:=rfl
def memN (l:Nat):List Nat→Bool
 | []=>false
 | a::F=>sel (l == a) true (memN l F)
theorem memN_nil {l:Nat}:memN l []=false:=rfl
theorem memN_cons {l a:Nat}{F:List Nat}:memN l (a::F)=sel (l == a) true (memN l F):=rfl
theorem memN_eq (l:Nat):∀ F:List Nat,F.contains l=memN l F
 | []=>rfl
 | a::F=>by
  rw [memN_cons,← memN_eq l F,List.contains_cons]
  cases (l == a) <;> rfl
def shr (sz off n:Nat)(o:Option AObj):DV:=match o with
 | some (.arr sz' es)=>if sz' = sz∧off+n≤es.length then .sl sz ((es.drop off).take n) else .undef
 | _=>.undef
theorem shr_arr {sz off n:Nat}{es:List (List DV)}:shr sz off n (some (.arr sz es))=sel (decide (off+n≤es.length)) (.sl sz ((es.drop off).take n)) .undef:=by
 simp only [shr,true_and]
 by_cases e:off+n≤es.length <;> simp [e,sel]
theorem fz_osl {sz i off n:Nat}{c:Option Nat}:frzD F h (.osl sz i off n c)=sel (memN i F) (shr sz off n h[i]?) (.osl sz i off n c):=by
 unfold frzD
 rw [← memN_eq]
 simp only [DV.low,frz]
 cases hq:F.contains i with
 | false=>simp [sel]
 | true=>simp only [if_true,sel_true]; rfl
theorem fz_int {k:IntKind}{n:Int}:frzD F h (.int k n)=.int k n:=rfl
theorem fz_bool {b:Bool}:frzD F h (.bool b)=.bool b:=rfl
theorem fz_str {s:List UInt8}:frzD F h (.str s)=.str s:=rfl
theorem fz_nilp:frzD F h .nilp=.nilp:=rfl
theorem fz_nilfn:frzD F h .nilfn=.nilfn:=rfl
theorem fz_emp {b:Bool}{n:Nat}:frzD F h (.emp b n)=.emp b n:=rfl
theorem fz_nili:frzD F h .nili=.nili:=rfl
theorem fz_undef:frzD F h .undef=.undef:=rfl
theorem fz_nils {n:Nat}:frzD F h (.nils n)=.nils n:=rfl
theorem fz_sl {sz:Nat}{es:List (List DV)}:frzD F h (.sl sz es)=.sl sz es:=rfl
theorem fz_eptr {cs:List DV}{o:Nat}:frzD F h (.eptr cs o)=.eptr cs o:=rfl
def lentB (x:Option AObj)(o:Nat):DV:=match x with
 | some (.box cs)=>if cs.all DV.closed=true then .eptr cs o else .undef
 | _=>.undef
theorem fz_ptr {i o:Nat}:frzD F h (.ptr i o)=sel (memN i F) (lentB h[i]? o) (.ptr i o):=by
 unfold frzD
 rw [← memN_eq]
 simp only [DV.low,frz]
 cases hq:F.contains i
 ·simp [sel]
 ·simp only [sel,if_true]; rfl
theorem fz_mp {i:Nat}:frzD F h (.mp i)=sel (memN i F) .undef (.mp i):=by
 unfold frzD
 rw [← memN_eq]
 simp only [DV.low,frz]
 cases hq:F.contains i <;> simp [sel]
theorem fz_self {i t m:Nat}:frzD F h (.self i t m)=sel (memN i F) .undef (.self i t m):=by
 unfold frzD
 rw [← memN_eq]
 simp only [DV.low,frz]
 cases hq:F.contains i <;> simp [sel]
theorem fz_hdr {i t m:Nat}:frzD F h (.hdr i t m)=sel (memN i F) .undef (.hdr i t m):=by
 unfold frzD
 rw [← memN_eq]
 simp only [DV.low,frz]
 cases hq:F.contains i <;> simp [sel]
theorem fz_aptr {sz i j q:Nat}:frzD F h (.aptr sz i j q)=sel (memN i F) .undef (.aptr sz i j q):=by
 unfold frzD
 rw [← memN_eq]
 simp only [DV.low,frz]
 cases hq:F.contains i <;> simp [sel]
theorem low_all (ρ:Nat→Option Nat):∀ (l:List DV),DV.low.lowAll ρ h l=l.map (DV.low ρ h)
 | []=>rfl
 | d::l=>by simp [DV.low.lowAll,low_all ρ l]
theorem fz_agg {l:List DV}:frzD F h (.agg l)=.agg (frzDs F h l):=by simp only [frzD,DV.low,low_all]; rfl
theorem fz_tup {l:List DV}:frzD F h (.tup l)=.tup (frzDs F h l):=by simp only [frzD,DV.low,low_all]; rfl
theorem fz_ifc {f:Nat}{l:List DV}:frzD F h (.ifc f l)=.ifc f (frzDs F h l):=by simp only [frzD,DV.low,low_all]; rfl
theorem fz_bnd {f:Nat}{l:List DV}:frzD F h (.bnd f l)=.bnd f (frzDs F h l):=by simp only [frzD,DV.low,low_all]; rfl
theorem fz_fn {f:Nat}{l:List DV}:frzD F h (.fn f l)=.fn f (frzDs F h l):=by simp only [frzD,DV.low,low_all]; rfl
theorem fzs_nil:frzDs F h []=[]:=rfl
theorem fzs_cons {d:DV}{l:List DV}:frzDs F h (d::l)=frzD F h d::frzDs F h l:=rfl
theorem fzS_nil:frzS F h []=[]:=rfl
theorem fzS_cons {t:Nat}{d:DV}{L:List (Nat×DV)}:frzS F h ((t,d)::L)=(t,frzD F h d)::frzS F h L:=rfl
theorem fzH_nil {n:Nat}:frzH F h n []=[]:=rfl
theorem fzH_arr {n sz:Nat}{es:List (List DV)}{l:List AObj}:frzH F h n (.arr sz es::l)=sel (memN n F) .dead (.arr sz es)::frzH F h (n+1) l:=by
 rw [frzH,frzO,← memN_eq]
 cases F.contains n <;> rfl
theorem fzH_box {n:Nat}{cs:List DV}{l:List AObj}:frzH F h n (.box cs::l)=sel (memN n F) .dead (.box (frzDs F h cs))::frzH F h (n+1) l:=by
 rw [frzH,frzO,← memN_eq]
 cases F.contains n <;> rfl
theorem fzH_iter {n:Nat}{s:List UInt8}{p:Nat}{l:List AObj}:frzH F h n (.iter s p::l)=sel (memN n F) .dead (.iter s p)::frzH F h (n+1) l:=by
 rw [frzH,frzO,← memN_eq]
 cases F.contains n <;> rfl
theorem fzH_mapo {n:Nat}{es:List (List UInt8×PV)}{l:List AObj}:frzH F h n (.mapo es::l)=sel (memN n F) .dead (.mapo es)::frzH F h (n+1) l:=by
 rw [frzH,frzO,← memN_eq]
 cases F.contains n <;> rfl
theorem fzH_buf {n e:Nat}{bs:List UInt8}{l:List AObj}:frzH F h n (.buf e bs::l)=sel (memN n F) .dead (.buf e bs)::frzH F h (n+1) l:=by
 rw [frzH,frzO,← memN_eq]
 cases F.contains n <;> rfl
theorem fzH_gbuf {n e:Nat}{bs:List UInt8}{l:List AObj}:frzH F h n (.gbuf e bs::l)=sel (memN n F) .dead (.gbuf e bs)::frzH F h (n+1) l:=by
 rw [frzH,frzO,← memN_eq]
 cases F.contains n <;> rfl
theorem fzH_dead {n:Nat}{l:List AObj}:frzH F h n (.dead::l)=.dead::frzH F h (n+1) l:=by
 rw [frzH,frzO]
 cases F.contains n <;> rfl
end
def shutP (ds:List DV)(L:List (Nat×DV))(h:List AObj)(K:List DV→List (Nat×DV)→List AObj→Prop):Prop:=
 evl (nrm (ownA h ds)) fun F=>evl (nrm (frzDs F h ds)) fun ds' => evl (nrm (frzS F h L)) fun L' => evl (nrm (frzH F h 0 h)) fun h' => K ds' L' h'
theorem shutP_e {ds:List DV}{L:List (Nat×DV)}{h:List AObj}{K:List DV→List (Nat×DV)→List AObj→Prop}:shutP ds L h K=evl (nrm (ownA h ds)) fun F=>evl (nrm (frzDs F h ds)) fun ds' => evl (nrm (frzS F h L)) fun L' => evl (nrm (frzH F h 0 h)) fun h' => K ds' L' h' := rfl
theorem e_bslice {b:Bool}{sz:Nat}{ps:List AX}:aopC E (.bslice b sz ps) K (sta L h)=evl (nrm (ps.map (AX.ev (slots L)))) fun ds=>sel (nrm (ds.all DV.closed)) (chk (ds.all (fun d=>d.cells.all DV.one)=true) (chk (ds.all (fun d=>d.cells.length == sz)=true)
  (evl (nrm ds.length) fun n=>newP h (.arr sz (ds.map DV.cells)) fun i h' => K (.osl sz i 0 n none) (sta L h')))) (sel b (shutP ds L h fun ds' L' h' => chk (ds'.all DV.closed=true) (chk (ds'.all (fun d=>d.cells.all DV.one)=true) (chk (ds'.all (fun d=>d.cells.length == sz)=true)
  (evl (nrm ds'.length) fun n=>newP h' (.arr sz (ds'.map DV.cells)) fun i h'' => K (.osl sz i 0 n none) (sta L' h''))))) (aop E (.bslice b sz (ds.map .c)) K (sta L h))):=by
 have he:aopC E (.bslice b sz ps) K (sta L h)=aopC E (.bslice b sz ((ps.map (AX.ev (slots L))).map .c)) K (sta L h):=by
  show aop E _ K (sta L h)=aop E _ K (sta L h)
  rw [aop_sub]
  simp only [AOp.sub,sta_fr,List.map_map]
  congr 1
 rw [he]
 show _=sel _ _ _
 generalize ps.map (AX.ev (slots L))=ds
 cases hc:ds.all DV.closed with
 | false=>
  cases b with
  | false=>simp only [nrm,hc]; rfl
  | true=>
   simp only [nrm,hc,sel_false,sel_true]
   rw [c_bslice_t]
   have e1:(ds.map AX.c).map (·.ev (sta L h).fr)=ds:=by simp [AX.ev,Function.comp_def]
   rw [e1]
   have hcn:¬ (ds.all DV.closed=true):=by simp [hc]
   simp only [shutL,if_neg hcn,shutP,evl,nrm,chk,newP,List.length_map]
   have hF' : (List.filter (fun l=>isArr (sta L h).h[l]?) (ds.flatMap DV.owns))=ownA h ds:=rfl
   rw [hF']
   generalize ownA h ds=F
   rw [sta_freeze]
   have hd:List.map (DV.low (frz F) (sta L h).h) ds=frzDs F h ds:=rfl
   rw [hd]
   have hlen:ds.length=(frzDs F h ds).length:=by simp [frzDs]
   rw [hlen]
   generalize frzDs F h ds=ds'
   have key2:(∀ d∈ds',d.closed=true∧d.cells.all DV.one=true∧d.cells.length=sz)↔ds'.all DV.closed=true∧ds'.all (fun d=>d.cells.all DV.one)=true∧ds'.all (fun d=>d.cells.length == sz)=true:=by
    simp only [List.all_eq_true,beq_iff_eq]
    exact ⟨fun k=>⟨fun d hd=>(k d hd).1,fun d hd=>(k d hd).2.1,fun d hd=>(k d hd).2.2⟩,fun k d hd=>⟨k.1 d hd,k.2.1 d hd,k.2.2 d hd⟩⟩
   rw [key2,and_assoc,and_assoc]
   rfl
 | true=>
  simp only [nrm,hc,sel_true]
  have key:(∀ d∈ds,d.closed=true∧d.cells.all DV.one=true∧d.cells.length=sz)↔ds.all (fun d=>d.cells.all DV.one)=true∧ds.all (fun d=>d.cells.length == sz)=true:=by
   simp only [List.all_eq_true,beq_iff_eq] at hc ⊢
   exact ⟨fun k=>⟨fun d hd=>(k d hd).2.1,fun d hd=>(k d hd).2.2⟩,fun k d hd=>⟨hc d hd,k.1 d hd,k.2 d hd⟩⟩
  cases b with
  | false=>
   rw [c_bslice_f]
   simp only [List.forall_mem_map,AX.ev,chk,evl,newP,List.map_map,Function.comp_def,List.length_map]
   rw [key,and_assoc]
   rfl
  | true=>
   rw [c_bslice_t]
   have e1:(ds.map AX.c).map (·.ev (sta L h).fr)=ds:=by simp [AX.ev,Function.comp_def]
   rw [e1]
   simp only [shutL,hc,if_true,chk,evl,newP,List.length_map]
   rw [key,and_assoc]
   rfl
theorem el_sl {sz:Nat}{es:List (List DV)}{Q:List (List DV)→Prop}:elems h (.sl sz es) sz Q=Q es:=by simp [elems]
theorem el_emp {b:Bool}{n sz:Nat}{Q:List (List DV)→Prop}:elems h (.emp b n) sz Q=Q []:=rfl
theorem el_nils {n sz:Nat}{Q:List (List DV)→Prop}:elems h (.nils n) sz Q=Q []:=rfl
theorem el_osl {sz i off n:Nat}{c:Option Nat}{Q:List (List DV)→Prop}:elems h (.osl sz i off n c) sz Q=arrP sz h[i]? fun es=>chk (off+n≤es.length) (evl (nrm ((es.drop off).take n)) fun x=>Q x):=by
 simp only [elems,true_and]; rfl
theorem el_str {s:List UInt8}{Q:List (List DV)→Prop}:elems h (.str s) 1 Q=Q (s.map fun b=>[.int .u8 b.toNat]):=by simp [elems]
theorem e_clr {sz:Nat}{z:List DV}{x:DV}:aopC E (.clr sz z (.c x)) K (sta L h)=clearD sz z x K (sta L h):=rfl
theorem e_cpy {sz:Nat}{x y:DV}:aopC E (.cpy sz (.c x) (.c y)) K (sta L h)=copyD sz x y K (sta L h):=rfl
theorem e_look {b:Bool}{z:PV}{i:Nat}{s:List UInt8}:aopC E (.look b z (.c (.mp i)) (.c (.str s))) K (sta L h)=mapP h[i]? fun es=>K (lookD b z es s) (sta L h):=rfl
theorem e_ment {z:PV}{i:Nat}{s:List UInt8}:aopC E (.ment z (.c (.mp i)) (.c (.str s))) K (sta L h)=mapP h[i]? fun es=>evl (nrm (h.set i (.mapo (addE es s z)))) fun h' => K (.tup [(valE s z es).dv,.int .i64 (idxE s es)]) (sta L h'):=rfl
theorem e_mset {i:Nat}{k:IntKind}{n:Int}{d:DV}:aopC E (.mset (.c (.mp i)) (.c (.int k n)) (.c d)) K (sta L h)=mapP h[i]? fun es=>chk (0≤n) (chk (n<es.length) (optP d.pv fun p=>evl (nrm (h.set i (.mapo (setE es n.toNat p)))) fun h' => K .undef (sta L h'))):=rfl
theorem e_mput {i:Nat}{s:List UInt8}{d:DV}:aopC E (.mput (.c (.mp i)) (.c (.str s)) (.c d)) K (sta L h)=mapP h[i]? fun es=>optP d.pv fun p=>evl (nrm (h.set i (.mapo (putE es s p)))) fun h' => K .undef (sta L h'):=rfl
theorem e_appendf {sz bytes:Nat}{x y:DV}:aopC E (.appendf sz bytes (.c x) (.c y)) K (sta L h)=appendfD sz bytes x y K (sta L h):=rfl
theorem e_append {sz bytes:Nat}{x y:DV}:aopC E (.append sz bytes (.c x) (.c y)) K (sta L h)=appendD sz bytes x y K (sta L h):=rfl
theorem e_appendz {sz bytes k:Nat}{z:List DV}{m:Int}:aopC E (.appendz sz bytes z (.c (.nils k)) (.c (.int .i64 m))) K (sta L h)=chk (0≤m) (chk (m*bytes≤1099511627776) (chk (m≤1099511627776) (evl (nrm m.toNat) fun n=>newP h (.arr sz (List.replicate n z)) fun i h' => K (.osl sz i 0 n none) (sta L h')))):=rfl
def killS (p:Nat→Bool):List (Nat×DV)→List (Nat×DV)
 | []=>[]
 | (t,d)::L=>(t,d.kill p)::killS p L
theorem slots_kill (p:Nat→Bool):∀ (L:List (Nat×DV))(s:Nat),(slots L s).kill p=slots (killS p L) s
 | [],_=>rfl
 | (t,d)::L,s=>by
  simp only [slots,killS]
  split
  ·rfl
  ·exact slots_kill p L s
end
def kil (i:Nat)(d:DV):DV:=d.kill (· == i)
section
variable {i:Nat}
theorem kil_int {k:IntKind}{n:Int}:kil i (.int k n)=.int k n:=rfl
theorem kil_bool {b:Bool}:kil i (.bool b)=.bool b:=rfl
theorem kil_str {s:List UInt8}:kil i (.str s)=.str s:=rfl
theorem kil_nilp:kil i .nilp=.nilp:=rfl
theorem kil_nilfn:kil i .nilfn=.nilfn:=rfl
theorem kil_nili:kil i .nili=.nili:=rfl
theorem kil_undef:kil i .undef=.undef:=rfl
theorem kil_emp {b:Bool}{n:Nat}:kil i (.emp b n)=.emp b n:=rfl
theorem kil_nils {n:Nat}:kil i (.nils n)=.nils n:=rfl
theorem kil_sl {sz:Nat}{es:List (List DV)}:kil i (.sl sz es)=.sl sz es:=rfl
theorem kil_eptr {cs:List DV}{o:Nat}:kil i (.eptr cs o)=.eptr cs o:=rfl
theorem kil_if {b:Bool}{d:DV}:(if b=true then DV.undef else d)=sel b .undef d:=by cases b <;> rfl
theorem kil_ptr {l o:Nat}:kil i (.ptr l o)=sel (l == i) .undef (.ptr l o):=by simp only [kil,DV.kill,kil_if]
theorem kil_mp {l:Nat}:kil i (.mp l)=sel (l == i) .undef (.mp l):=by simp only [kil,DV.kill,kil_if]
theorem kil_self {l t m:Nat}:kil i (.self l t m)=sel (l == i) .undef (.self l t m):=by simp only [kil,DV.kill,kil_if]
theorem kil_hdr {l t m:Nat}:kil i (.hdr l t m)=sel (l == i) .undef (.hdr l t m):=by simp only [kil,DV.kill,kil_if]
theorem kil_aptr {sz l j q:Nat}:kil i (.aptr sz l j q)=sel (l == i) .undef (.aptr sz l j q):=by simp only [kil,DV.kill,kil_if]
theorem kil_osl {sz l off n:Nat}{c:Option Nat}:kil i (.osl sz l off n c)=sel (l == i) .undef (.osl sz l off n c):=by simp only [kil,DV.kill,kil_if]
def kilL (i:Nat)(l:List DV):List DV:=l.map (kil i)
theorem kilL_nil:kilL i []=[]:=rfl
theorem kilL_cons {d:DV}{l:List DV}:kilL i (d::l)=kil i d::kilL i l:=rfl
theorem kil_agg {l:List DV}:kil i (.agg l)=.agg (kilL i l):=by simp only [kil,DV.kill,killAll_map]; rfl
theorem kil_tup {l:List DV}:kil i (.tup l)=.tup (kilL i l):=by simp only [kil,DV.kill,killAll_map]; rfl
theorem kil_ifc {f:Nat}{l:List DV}:kil i (.ifc f l)=.ifc f (kilL i l):=by simp only [kil,DV.kill,killAll_map]; rfl
theorem kil_bnd {f:Nat}{l:List DV}:kil i (.bnd f l)=.bnd f (kilL i l):=by simp only [kil,DV.kill,killAll_map]; rfl
theorem kil_fn {f:Nat}{l:List DV}:kil i (.fn f l)=.fn f (kilL i l):=by simp only [kil,DV.kill,killAll_map]; rfl
def kilS (i:Nat)(L:List (Nat×DV)):List (Nat×DV):=killS (· == i) L
theorem kilS_nil:kilS i []=[]:=rfl
theorem kilS_cons {t:Nat}{d:DV}{L:List (Nat×DV)}:kilS i ((t,d)::L)=(t,kil i d)::kilS i L:=rfl
def kilH (i:Nat)(h:List AObj):List AObj:=h.map (killO (· == i))
theorem kilH_nil:kilH i []=[]:=rfl
theorem kilH_box {cs:List DV}{h:List AObj}:kilH i (.box cs::h)=.box (kilL i cs)::kilH i h:=rfl
theorem kilH_arr {sz:Nat}{es:List (List DV)}{h:List AObj}:kilH i (.arr sz es::h)=.arr sz es::kilH i h:=rfl
theorem kilH_iter {s:List UInt8}{p:Nat}{h:List AObj}:kilH i (.iter s p::h)=.iter s p::kilH i h:=rfl
theorem kilH_mapo {es:List (List UInt8×PV)}{h:List AObj}:kilH i (.mapo es::h)=.mapo es::kilH i h:=rfl
theorem kilH_buf {e:Nat}{bs:List UInt8}{h:List AObj}:kilH i (.buf e bs::h)=.buf e bs::kilH i h:=rfl
theorem kilH_gbuf {e:Nat}{bs:List UInt8}{h:List AObj}:kilH i (.gbuf e bs::h)=.gbuf e bs::kilH i h:=rfl
theorem kilH_dead {h:List AObj}:kilH i (.dead::h)=.dead::kilH i h:=rfl
theorem sta_kill {L:List (Nat×DV)}{h:List AObj}:(sta L h).kill (· == i)=sta (kilS i L) (kilH i h):=by
 unfold St.kill sta kilS kilH
 congr 1
 funext s
 exact slots_kill _ L s
end
section
variable {E:Env} {L:List (Nat×DV)} {h:List AObj} {K:DV→St→Prop}
theorem ap_nils {sz bytes n:Nat}{y:DV}:appendD sz bytes (.nils n) y K (sta L h)=elems h y sz fun ys=>chk (ys.length*bytes≤1099511627776) (chk (ys.length≤1099511627776)
  (evl (nrm ys.length) fun n=>newP h (.arr sz ys) fun i h' => K (.osl sz i 0 n none) (sta L h'))):=rfl
theorem ap_osl {sz bytes i n:Nat}{y:DV}:appendD sz bytes (.osl sz i 0 n none) y K (sta L h)=elems h y sz fun ys=>arrP sz h[i]? fun es=>chk (n≤es.length) (chk ((n+ys.length)*bytes≤1099511627776) (chk (n+ys.length≤1099511627776)
  (evl (nrm (n+ys.length)) fun n' => evl (nrm (es.take n++ys)) fun es' => evl (nrm (kilS i L)) fun L' => evl (nrm ((kilH i h).set i (.arr sz es'))) fun h' => K (.osl sz i 0 n' none) (sta L' h')))):=by
 unfold appendD
 simp only [true_and,sta_kill,sta_at]
 rfl
theorem ap_frz {sz bytes i n:Nat}{y:DV}:appendfD sz bytes (.osl sz i 0 n none) y K (sta L h)=elems h y sz fun ys=>arrP sz h[i]? fun es=>chk (n=es.length) (chk ((n+ys.length)*bytes≤1099511627776) (chk (n+ys.length≤1099511627776)
  (evl (nrm (es++ys)) fun es' => evl (nrm (frzS [i] h L)) fun L' => evl (nrm (frzH [i] h 0 h)) fun h' => K (.sl sz es') (sta L' h')))):=by
 unfold appendfD
 simp only [true_and,sta_freeze]
 rfl
theorem ap_cap {sz bytes i off n c:Nat}{y:DV}:appendD sz bytes (.osl sz i off n (some c)) y K (sta L h)=elems h y sz fun ys=>arrP sz h[i]? fun es=>chk (off+c≤es.length) (chk (n+ys.length≤c)
  (evl (nrm (n+ys.length)) fun n' => evl (nrm (es.take (off+n)++ys++es.drop (off+n+ys.length))) fun es' => evl (nrm (h.set i (.arr sz es'))) fun h' => K (.osl sz i off n' (some c)) (sta L h'))):=by
 unfold appendD
 simp only [true_and,sta_at]
 rfl
theorem ap_cpy {sz i off n:Nat}{c:Option Nat}{y:DV}:copyD sz (.osl sz i off n c) y K (sta L h)=elems h y sz fun ys=>arrP sz h[i]? fun es=>chk (off+n≤es.length) (chk (ys.length≤n)
  (evl (nrm (es.take off++ys++es.drop (off+ys.length))) fun es' => evl (nrm (h.set i (.arr sz es'))) fun h' => K (.int .i64 ys.length) (sta L h'))):=by
 unfold copyD
 simp only [true_and,sta_at]
 rfl
end
def finE (m0:Nat)(post:List AObj→DV→Prop)(o:Option (List DV))(h:List AObj):Prop:=∃ ds,o=some ds∧∃ ρ:List Nat,ρ.Nodup∧m0≤ρ.length∧(∀ i,i<m0→ρ[i]?=some i)∧(∀ l∈ρ,l<h.length)∧(rvd ds).inL ρ.contains=true ∧
   (∀ l∈ρ,inO ρ.contains (h.getD l .dead)=true) ∧
   atEnd post (ρ.map fun l=>renO (ρ.idxOf ·) (h.getD l .dead)) ((rvd ds).ren (ρ.idxOf ·))
@[congr] theorem finE_congr {m0:Nat} {post:List AObj→DV→Prop} {o o' : Option (List DV)} {h:List AObj} (e:o=o'):finE m0 post o h=finE m0 post o' h:=by rw [e]
theorem fin_e {m0:Nat}{res:List RV}{post:List AObj→DV→Prop}{L:List (Nat×DV)}{h:List AObj}:fin m0 res post .ret (sta L h)=finE m0 post (rvl (sta L h) res) h:=rfl
theorem fin_en {m0:Nat}{res:List RV}{post:List AObj→DV→Prop}{L:List (Nat×DV)}{h:List AObj}:fin m0 res post .normal (sta L h)=finE m0 post (rvl (sta L h) res) h:=rfl
def cel (d:DV)(a:Option Nat)(h:List AObj):Option DV:=match d with
 | .ptr l o=>match h[l]?,a with
  | some (.box cs),none=>cs[o]?
  | some (.box cs),some n=>if o+n≤cs.length then some (.agg ((cs.drop o).take n)) else none
  | _,_=>none
 | _=>none
def cel2 (x:Option AObj)(a:Option Nat)(o:Nat):Option DV:=match x,a with
  | some (.box cs),none=>cs[o]?
  | some (.box cs),some n=>if o+n≤cs.length then some (.agg ((cs.drop o).take n)) else none
  | _,_=>none
theorem cel_p {l o:Nat}{a:Option Nat}{h:List AObj}:cel (.ptr l o) a h=cel2 h[l]? a o:=rfl
theorem cel2_n {cs:List DV}{o:Nat}:cel2 (some (.box cs)) none o=cs[o]?:=rfl
theorem cel2_s {cs:List DV}{o n:Nat}:cel2 (some (.box cs)) (some n) o=sel (decide (o+n≤cs.length)) (some (.agg ((cs.drop o).take n))) none:=by
 unfold cel2; by_cases e:o+n≤cs.length <;> simp [e,sel]
theorem rvl_nil {st:St}:rvl st []=some []:=rfl
theorem rvl_t {s:Nat}{l:List RV}{L:List (Nat×DV)}{h:List AObj}:rvl (sta L h) (.t s::l)=(rvl (sta L h) l).map (slots L s :: ·):=rfl
theorem rvl_c {s:Nat}{a:Option Nat}{l:List RV}{L:List (Nat×DV)}{h:List AObj}:rvl (sta L h) (.cell s a::l)=(cel (slots L s) a h).bind fun d=>(rvl (sta L h) l).map (d :: ·):=rfl
theorem finE_closed {post:List AObj→DV→Prop}{ds:List DV}{h:List AObj}(hs:(rvd ds).closed=true)(hp:post [] (rvd ds)):finE 0 post (some ds) h:=
 ⟨ds,rfl,[],List.nodup_nil,Nat.le_refl _,fun _ h=>by omega,fun _ h=>by simp at h,closed_inL hs,fun _ h=>by simp at h,by rw [closed_ren hs]; exact hp⟩
section
variable {E:Env} {m0:Nat} {post:AExit→St→Prop} {ks:List Fr} {L:List (Nat×DV)} {h:List AObj}
theorem goK_nil {e:AExit}:goK E m0 post [] e L h=post e (sta L h):=rfl
def rnd (m0:Nat){γ:Type}(SL:γ→List (Nat×DV))(SH:γ→List AObj)(P:γ→Prop)(μ:γ→Nat)(n:Nat)(st' : St):Prop:=∃ g',Wk m0 st' (sta (SL g') (SH g'))∧P g' ∧ μ g' < n
def agrs (L:List (Nat×DV)):List (Nat×DV)→Prop
 | []=>True
 | (t,d)::M=>slots L t=d∧agrs L M
def agru (m:Nat)(L:List (Nat×DV)):List (Nat×DV)→Prop
 | []=>True
 | (t,d)::M=>slots L t=d∧d.under m=true∧agru m L M
theorem agr_s:∀ {M:List (Nat×DV)},agrs L M→agr (sta L h) (fun _=>True) M
 | [],_=>trivial
 | (_,_)::_,hh=>⟨⟨hh.1,trivial⟩,agr_s hh.2⟩
theorem agr_u {m:Nat}:∀ {M:List (Nat×DV)},agru m L M→agr (sta L h) (fun d=>d.under m=true) M
 | [],_=>trivial
 | (_,_)::_,hh=>⟨⟨hh.1,hh.2.1⟩,agr_u hh.2.2⟩
theorem wks {M:List (Nat×DV)}{h' : List AObj}(hh:h=h')(hm:m0≤h.length)(ha:agrs L M):Wk m0 (sta L h) (sta M h'):=wk_keep (st:=sta L h) hh hm (agr_s ha)
theorem wkd (m:Nat){M:List (Nat×DV)}{h' : List AObj}(hh:h.take m=h')(hm:m0≤m)(ha:agru m L M)(hb:(h'.all fun o=>inO (fun l=>decide (l<m)) o)=true):Wk m0 (sta L h) (sta M h'):=wk_drop m (st:=sta L h) hh hm (agr_u ha) hb
theorem goN_lp {b:ACode}{γ:Type}(SL:γ→List (Nat×DV))(SH:γ→List AObj)(P:γ→Prop)(μ:γ→Nat)(g0:γ)
  (h0:Wk m0 (sta L h) (sta (SL g0) (SH g0))) (hp:P g0)
  (round:∀ g,P g→goN E m0 post (.inv (rnd m0 SL SH P μ (μ g))::ks) b (SL g) (SH g)):goN E m0 post ks (.loop b) L h:=goN_loop SL SH P μ g0 h0 hp round
theorem rnd_s {γ:Type}{SL:γ→List (Nat×DV)}{SH:γ→List AObj}{P:γ→Prop}{μ:γ→Nat}{n:Nat}(g:γ)(hh:h=SH g)(hm:m0≤h.length)(ha:agrs L (SL g))(hp:P g)(hμ:μ g<n):rnd m0 SL SH P μ n (sta L h):=
 ⟨g,wks hh hm ha,hp,hμ⟩
theorem rnd_d {γ:Type}{SL:γ→List (Nat×DV)}{SH:γ→List AObj}{P:γ→Prop}{μ:γ→Nat}{n:Nat}(m:Nat)(g:γ)(hh:h.take m=SH g)(hm:m0≤m)(ha:agru m L (SL g))(hb:((SH g).all fun o=>inO (fun l=>decide (l<m)) o)=true)(hp:P g)(hμ:μ g<n):rnd m0 SL SH P μ n (sta L h):=
 ⟨g,wkd m hh hm ha hb,hp,hμ⟩
def agrp (ρ:List Nat)(L:List (Nat×DV)):List (Nat×DV)→Prop
 | []=>True
 | (t,d)::M=>(slots L t).ren (ρ.idxOf ·)=d∧(slots L t).inL ρ.contains=true∧agrp ρ L M
theorem wkp (ρ:List Nat){M:List (Nat×DV)}{h' : List AObj}(hnd:ρ.Nodup)(hm:m0≤ρ.length)(hid:∀ i,i<m0→ρ[i]?=some i)(hlt:∀ l∈ρ,l<h.length)
  (hh:(ρ.map fun l=>renO (ρ.idxOf ·) (h.getD l .dead))=h') (hin:∀ l∈ρ,inO ρ.contains (h.getD l .dead)=true) (ha:agrp ρ L M):Wk m0 (sta L h) (sta M h'):=by
 refine ⟨.inr ⟨ρ,hnd,hm,hid,hlt,hin,hh.symm,fun s=>?_⟩⟩
 show slots M s=.undef∨slots M s=(slots L s).ren (ρ.idxOf ·)∧(slots L s).inL ρ.contains=true
 clear hh
 induction M with
 | nil=>exact .inl rfl
 | cons p M ih=>
  obtain ⟨t,d⟩:=p
  obtain ⟨h1,h2,h3⟩:=ha
  simp only [slots]
  split
  ·rename_i e; subst e; exact .inr ⟨h1.symm,h2⟩
  ·exact ih h3
theorem call_ret {b:Bool}{f:Nat}{ds ds' : List DV}{D:DV}{K:DV→St→Prop}(hc:ACalls E f [] ds' (fun h d=>h=[]∧d=D))(he:ds.map (DV.dn [] h)=ds')(hs:D.scalar=true)(hk:K D (sta L h)):acall E b f ds K (sta L h):=by
 refine .go ?_
 refine .inl ⟨fun d=>d=D,?_,⟨D,rfl⟩,fun d e=>e▸⟨hs,hk⟩⟩
 rw [show (sta L h).h=h from rfl,he]
 exact hc
theorem call_any {b:Bool}{f:Nat}{ds ds' : List DV}{post:DV→Prop}{K:DV→St→Prop}(hc:ACalls E f [] ds' (fun h d=>h=[]∧post d))(he:ds.map (DV.dn [] h)=ds')(hx:∃ d,post d)(hk:∀ d,post d→d.scalar=true∧K d (sta L h)):acall E b f ds K (sta L h):=by
 refine .go ?_
 refine .inl ⟨post,?_,hx,hk⟩
 rw [show (sta L h).h=h from rfl,he]
 exact hc
theorem call_new {b:Bool}{f:Nat}{ds:List DV}{H:List AObj}{D:DV}{K:DV→St→Prop}(hc:ACalls E f [] ds (fun h d=>h=H∧d=D))(hcl:∀ d∈ds,d.closed=true)(hk:K (D.ren (h.length + ·)) (sta L (h++H.map (renO (h.length + ·))))):acall E b f ds K (sta L h):=by
 refine .go ?_
 refine .inr (.inl ⟨fun h' d=>h' = H∧d=D,hc,hcl,⟨H,D,rfl,rfl⟩,fun h' d e=>?_⟩)
 obtain ⟨rfl,rfl⟩:=e
 exact hk
end
end Go.Ai
