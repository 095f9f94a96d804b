/- What an operation does, its operands being known. -/
import Derived.Test.YtgamnnfndidclaaGreatDoorCAiGo
set_option linter.all false
namespace Go.Ai
section
variable {E:Env} {L:List (Nat×DV)} {h:List AObj} {K:DV→St→Prop} {st:St}
theorem aJv {d:DV}:aH E (.mov (.c d)) K st=K d st:=rfl
theorem SF {a b:DV}:aH E (.pick (.c (.bool true)) (.c a) (.c b)) K st=K a st:=rfl
theorem QV {a b:DV}:aH E (.pick (.c (.bool false)) (.c a) (.c b)) K st=K b st:=rfl
theorem OX {k:IntKind}{n:Int}:aH E (.set (.c (.int k n))) K st=K (.int k n) st:=rfl
theorem GH {b:Bool}:aH E (.set (.c (.bool b))) K st=K (.bool b) st:=rfl
theorem MI {s:List UInt8}:aH E (.set (.c (.str s))) K st=K (.str s) st:=rfl
theorem ET:aH E (.set (.c .nilp)) K st=K .nilp st:=rfl
theorem PH {i o:Nat}:aH E (.set (.c (.ptr i o))) K st=K (.ptr i o) st:=rfl
theorem EU {sz i j q:Nat}:aH E (.set (.c (.aptr sz i j q))) K st=K (.aptr sz i j q) st:=rfl
theorem FV {cs:List DV}{o:Nat}:aH E (.set (.c (.eptr cs o))) K st=K (.eptr cs o) st:=rfl
theorem PS {sz:Nat}{es:List (List DV)}:aH E (.set (.c (.sl sz es))) K st=K (.sl sz es) st:=rfl
theorem MA {sz i off n:Nat}{c:Option Nat}:aH E (.set (.c (.osl sz i off n c))) K st=K (.osl sz i off n c) st:=rfl
theorem SK {f:Nat}{cs:List DV}:aH E (.set (.c (.fn f cs))) K st=K (.fn f cs) st:=rfl
theorem LD {f:Nat}{cs:List DV}:aH E (.set (.c (.ifc f cs))) K st=K (.ifc f cs) st:=rfl
theorem OB {f:Nat}{cs:List DV}:aH E (.set (.c (.bnd f cs))) K st=K (.bnd f cs) st:=rfl
theorem PL {b:Bool}{n:Nat}:aH E (.set (.c (.emp b n))) K st=K (.emp b n) st:=rfl
theorem TP {i:Nat}:aH E (.set (.c (.mp i))) K st=K (.mp i) st:=rfl
theorem HU:aH E (.set (.c .nili)) K st=K .nili st:=rfl
theorem CL:aH E (.set (.c .nilfn)) K st=K .nilfn st:=rfl
theorem LC {x:List DV}:aH E (.set (.c (.tup x))) K st=K (.tup x) st:=rfl
theorem CJ:aH E (.set (.c .undef)) K st=K .undef st:=rfl
theorem HN {n:Nat}:aH E (.set (.c (.nils n))) K (sta L h)=jL h (.arr n []) fun i h' => K (.osl n i 0 0 none) (sta L h'):=rfl
theorem LZ {x:List DV}:aH E (.set (.c (.agg x))) K (sta L h)=ocP x h fun x' h' => K (.agg x') (sta L h'):=rfl
theorem PE {n i o:Nat}:aH E (.faddr n (.c (.ptr i o))) K st=evl (nrm (o+n)) fun x=>K (.ptr i x) st:=rfl
theorem OV {n sz i j q:Nat}:aH E (.faddr n (.c (.aptr sz i j q))) K st=evl (nrm (q+n)) fun x=>K (.aptr sz i j x) st:=rfl
theorem MC {n o:Nat}{cs:List DV}:aH E (.faddr n (.c (.eptr cs o))) K st=evl (nrm (o+n)) fun x=>K (.eptr cs x) st:=rfl
theorem HE {i o:Nat}:aH E (.nilchk (.c (.ptr i o))) K st=K (.ptr i o) st:=rfl
theorem GW {sz i j q:Nat}:aH E (.nilchk (.c (.aptr sz i j q))) K st=K (.aptr sz i j q) st:=rfl
theorem HS {cs:List DV}{o:Nat}:aH E (.nilchk (.c (.eptr cs o))) K st=K (.eptr cs o) st:=rfl
theorem HZ {f:Nat}{cs:List DV}:aH E (.nilchk (.c (.fn f cs))) K st=K (.fn f cs) st:=rfl
theorem aJW {d:DV}:aH E (.box (.c d)) K (sta L h)=evl (nrm d.cells) fun cs=>chk (cs.all DV.one=true) (ocP cs h fun cs' h' => jL h' (.box cs') fun i h'' => K (.ptr i 0) (sta L h'')):=rfl
theorem QN {i o:Nat}:aH E (.load none (.c (.ptr i o))) K (sta L h)=EV h[i]? fun cs=>fX cs[o]? fun d=>K d (sta L h):=rfl
theorem RU {sz i j q:Nat}:aH E (.load none (.c (.aptr sz i j q))) K (sta L h)=nB sz h[i]? fun es=>fX es[j]? fun e=>fX e[q]? fun d=>K d (sta L h):=rfl
theorem SI {cs:List DV}{o:Nat}:aH E (.load none (.c (.eptr cs o))) K st=fX cs[o]? fun d=>K d st:=rfl
theorem NW {n i o:Nat}:aH E (.load (some n) (.c (.ptr i o))) K (sta L h)=EV h[i]? fun cs=>chk (o+n≤cs.length) (evl (nrm ((cs.drop o).take n)) fun x=>K (.agg x) (sta L h)):=rfl
theorem NG {n sz i j q:Nat}:aH E (.load (some n) (.c (.aptr sz i j q))) K (sta L h)=nB sz h[i]? fun es=>fX es[j]? fun e=>chk (q+n≤e.length) (evl (nrm ((e.drop q).take n)) fun x=>K (.agg x) (sta L h)):=rfl
theorem LP {n o:Nat}{cs:List DV}:aH E (.load (some n) (.c (.eptr cs o))) K st=chk (o+n≤cs.length) (evl (nrm ((cs.drop o).take n)) fun x=>K (.agg x) st):=rfl
theorem MP {b:Bool}{n i o:Nat}{v:DV}:aH E (.store b n (.c (.ptr i o)) (.c v)) K (sta L h)=EV h[i]? fun cs=>evl (nrm v.cells) fun vs=>chk (vs.all DV.one=true) (chk (vs.length=n) (chk (o+n≤cs.length) (ocP vs h fun vs' h' =>
    evl (nrm (cs.take o++vs' ++ cs.drop (o+n))) fun cs' => evl (nrm (h'.set i (.box cs'))) fun h'' => K .undef (sta L h'')))):=rfl
theorem NA {n sz i j q:Nat}{v:DV}:aH E (.store true n (.c (.aptr sz i j q)) (.c v)) K (sta L h)=sel (nrm v.closed) (nB sz h[i]? fun es=>fX es[j]? fun e=>evl (nrm v.cells) fun vs=>chk (vs.all DV.one=true) (chk (vs.length=n) (chk (q+n≤e.length)
  (evl (nrm (es.set j (e.take q++vs++e.drop (q+n)))) fun es' => evl (nrm (h.set i (.arr sz es'))) fun h' => K .undef (sta L h')))))
  (iK [v] (sta L h) fun ds st' => ∃ d,ds=[d]∧∃ es,st'.h[i]?=some (.arr sz es)∧∃ e,es[j]?=some e∧d.closed=true∧d.cells.all DV.one=true∧d.cells.length=n∧q+n≤e.length ∧
   K .undef (st'.at i (.arr sz (es.set j (e.take q++d.cells++e.drop (q+n)))))):=by
 rw [xS]
 by_cases hc:v.closed=true
 ·have e:∀ {X Y:Prop},sel (nrm v.closed) X Y=X:=by intro X Y; rw [nrm,hc]; rfl
  rw [e]
  apply propext
  simp only [true_or,true_and,iK,List.all_cons,List.all_nil,hc,Bool.and_true,if_true,List.cons.injEq,and_true,exists_eq_left',nB,fX,evl,nrm,chk,aDo,tZ]
 ·have e:∀ {X Y:Prop},sel (nrm v.closed) X Y=Y:=by
   intro X Y; rw [nrm]; cases h:v.closed with
   | true=>exact absurd h hc
   | false=>rfl
  rw [e]
  try simp
theorem tG {n sz i j q:Nat}{v:DV}:aH E (.store false n (.c (.aptr sz i j q)) (.c v)) K (sta L h)=sel (nrm v.closed) (nB sz h[i]? fun es=>fX es[j]? fun e=>evl (nrm v.cells) fun vs=>chk (vs.all DV.one=true) (chk (vs.length=n) (chk (q+n≤e.length)
  (evl (nrm (es.set j (e.take q++vs++e.drop (q+n)))) fun es' => evl (nrm (h.set i (.arr sz es'))) fun h' => K .undef (sta L h'))))) False:=by
 rw [xS]
 by_cases hc:v.closed=true
 ·have e:∀ {X Y:Prop},sel (nrm v.closed) X Y=X:=by intro X Y; rw [nrm,hc]; rfl
  rw [e]
  apply propext
  simp only [or_true,true_and,iK,List.all_cons,List.all_nil,hc,Bool.and_true,if_true,List.cons.injEq,and_true,exists_eq_left',nB,fX,evl,nrm,chk,aDo,tZ]
 ·have e:∀ {X Y:Prop},sel (nrm v.closed) X Y=Y:=by
   intro X Y; rw [nrm]; cases h:v.closed with
   | true=>exact absurd h hc
   | false=>rfl
  rw [e]
  simp [hc]
theorem aHT {o:BinOp}{t:Ty}{x y:DV}:aH E (.bin o t (.c x) (.c y)) K st=bD o t x y fun d=>K d st:=rfl
theorem aHY {b:Bool}:aH E (.un .not (.c (.bool b))) K st=K (.bool !b) st:=rfl
theorem aJK {k:IntKind}{n:Int}:aH E (.un .neg (.c (.int k n))) K st=K (.int k (k.wrap (0 - n))) st:=rfl
theorem GG {k k' : IntKind}{n:Int}:aH E (.conv (.int k) (.c (.int k' n))) K st=K (.int k (k.wrap n)) st:=rfl
theorem MG {s:List UInt8}:aH E (.conv .id (.c (.str s))) K st=K (.str s) st:=rfl
theorem EI {k:IntKind}{n:Int}:aH E (.conv .i2s (.c (.int k n))) K st=K (.str (Utf8.encode n).data.toList) st:=rfl
theorem mC {s:List UInt8}(hk:jL h (.arr 1 (s.map fun b=>[.int .u8 b.toNat])) fun i h' => K (.osl 1 i 0 s.length none) (sta L h')):aH E (.conv .s2b (.c (.str s))) K (sta L h):=.inl hk
theorem aAr (hk:jL h (.arr 1 []) fun _ h' => K (.emp false 1) (sta L h')):aH E (.conv .s2b (.c (.str []))) K (sta L h):=.inr ⟨rfl,hk⟩
theorem GZ {s:List UInt8}:aH E (.conv .s2r (.c (.str s))) K (sta L h)=jL h (.arr 1 ((bT s s.length 0).map fun r=>[.int .i32 r])) fun i h' => K (.osl 1 i 0 (bT s s.length 0).length none) (sta L h'):=rfl
theorem WO {es:List (List DV)}:aH E (.conv .b2s (.c (.sl 1 es))) K st=∃ bs:List UInt8,es=bs.map (fun b=>[.int .u8 b.toNat])∧K (.str bs) st:=rfl
theorem KZ {i off n:Nat}{c:Option Nat}:aH E (.conv .b2s (.c (.osl 1 i off n c))) K (sta L h)=((n=0∧K (.str []) (sta L h))∨∃ es,h[i]?=some (.arr 1 es)∧off+n≤es.length∧∃ bs:List UInt8,(es.drop off).take n=bs.map (fun b=>[.int .u8 b.toNat])∧K (.str bs) (sta L h)):=rfl
theorem EP {n:Nat}:aH E (.conv .b2s (.c (.nils n))) K st=K (.str []) st:=rfl
theorem VM {es:List (List DV)}:aH E (.conv .r2s (.c (.sl 1 es))) K st=∃ rs:List Int,es=rs.map (fun r=>[.int .i32 r])∧K (.str (rs.flatMap fun r=>(Utf8.encode r).data.toList)) st:=rfl
theorem OK {i off n:Nat}{c:Option Nat}:aH E (.conv .r2s (.c (.osl 1 i off n c))) K (sta L h)=((n=0∧K (.str []) (sta L h))∨∃ es,h[i]?=some (.arr 1 es)∧off+n≤es.length∧∃ rs:List Int,(es.drop off).take n=rs.map (fun r=>[.int .i32 r])∧K (.str (rs.flatMap fun r=>(Utf8.encode r).data.toList)) (sta L h)):=rfl
theorem FU {n:Nat}:aH E (.conv .r2s (.c (.nils n))) K st=K (.str []) st:=rfl
theorem aGb {f:Nat}{cs:List AX}:aH E (.mkfn f cs) K (sta L h)=evl (nrm (cs.map (AX.ev (slots L)))) fun x=>K (.fn f x) (sta L h):=rfl
theorem aCI {t:Nat}{d:DV}:aH E (.mkifc t (.c d)) K (sta L h)=K (.ifc t [d]) (sta L h):=rfl
theorem YB {t:Nat}{d:DV}:aH E (.mkbnd t (.c d)) K (sta L h)=K (.bnd t [d]) (sta L h):=rfl
theorem NO {sz bytes:Nat}{z:List DV}{n m:Int}:aH E (.mkslice sz bytes z (.c (.int .i64 n)) (.c (.int .i64 m))) K (sta L h) =
  chk (0≤n) (chk (n≤m) (chk (m*bytes≤1099511627776) (chk (m≤1099511627776) (jL h (.arr sz (List.replicate m.toNat z)) fun i h' => K (.osl sz i 0 n.toNat (some m.toNat)) (sta L h'))))):=rfl
theorem DQ {lo hi:Option AX}{s:List UInt8}:aH E (.slice none (.c (.str s)) lo hi) K st=bnd st.fr lo hi s.length s.length fun i j=>evl (nrm ((s.drop i).take (j - i))) fun x=>K (.str x) st:=by simp only [AZ,true_and]; rfl
theorem HB {lo hi:Option AX}{sz:Nat}{es:List (List DV)}:aH E (.slice (some sz) (.c (.sl sz es)) lo hi) K st=bnd st.fr lo hi es.length es.length fun i j=>evl (nrm ((es.drop i).take (j - i))) fun x=>K (.sl sz x) st:=by simp only [EK,true_and]; rfl
theorem DT {lo hi:Option AX}{sz i off n:Nat}:aH E (.slice (some sz) (.c (.osl sz i off n none)) lo hi) K st=bnd st.fr lo hi n n fun a b=>evl (nrm (off+a)) fun x=>evl (nrm (b - a)) fun y=>K (.osl sz i x y none) st:=by simp only [BL,true_and]; rfl
theorem yZ {lo hi:Option AX}{sz i off n c:Nat}:aH E (.slice (some sz) (.c (.osl sz i off n (some c))) lo hi) K st=bnd st.fr lo hi n c fun a b=>evl (nrm (off+a)) fun x=>evl (nrm (b - a)) fun y=>evl (nrm (c - a)) fun z=>K (.osl sz i x y (some z)) st:=by simp only [zP,true_and]; rfl
theorem CR {lo hi:Option AX}{k sz:Nat}:aH E (.slice (some k) (.c (.nils sz)) lo hi) K st=bnd st.fr lo hi 0 0 fun _ _=>K (.nils sz) st:=by simp only [BX,Option.isSome_some,true_and]
theorem aKA {fr:Nat→DV}{n c:Nat}{Q:Nat→Nat→Prop}:bnd fr none none n c Q=Q 0 n:=rfl
theorem aKV {fr:Nat→DV}{n c:Nat}{k:IntKind}{i:Int}{Q:Nat→Nat→Prop}:bnd fr (some (.c (.int k i))) none n c Q=chk (0≤i) (chk (i≤n) (evl (nrm i.toNat) fun a=>Q a n)):=rfl
theorem aLa {fr:Nat→DV}{n c:Nat}{k:IntKind}{j:Int}{Q:Nat→Nat→Prop}:bnd fr none (some (.c (.int k j))) n c Q=chk (0≤j) (chk (j≤c) (evl (nrm j.toNat) fun b=>Q 0 b)):=rfl
theorem aLb {fr:Nat→DV}{n c:Nat}{k k' : IntKind}{i j:Int}{Q:Nat→Nat→Prop}:bnd fr (some (.c (.int k i))) (some (.c (.int k' j))) n c Q=chk (0≤i) (chk (i≤j) (chk (j≤c) (evl (nrm i.toNat) fun a=>evl (nrm j.toNat) fun b=>Q a b))):=rfl
theorem XS {o:Nat}{cs:List DV}:aH E (.field o none (.c (.agg cs))) K st=fX cs[o]? fun d=>K d st:=rfl
theorem XF {o n:Nat}{cs:List DV}:aH E (.field o (some n) (.c (.agg cs))) K st=chk (o+n≤cs.length) (evl (nrm ((cs.drop o).take n)) fun x=>K (.agg x) st):=rfl
theorem EL {sz:Nat}{es:List (List DV)}{k:IntKind}{j:Int}:aH E (.iaddr sz (.c (.sl sz es)) (.c (.int k j))) K st=chk (0≤j) (evl (nrm j.toNat) fun i=>fX es[i]? fun e=>K (.eptr e 0) st):=by simp only [FB,true_and]; rfl
theorem BU {sz i off n:Nat}{c:Option Nat}{k:IntKind}{j:Int}:aH E (.iaddr sz (.c (.osl sz i off n c)) (.c (.int k j))) K st=chk (0≤j) (chk (j<n) (evl (nrm (off+j.toNat)) fun x=>K (.aptr sz i x 0) st)):=by simp only [CX,true_and]; rfl
theorem YN {n sz l o:Nat}{k:IntKind}{j:Int}:aH E (.baddr n sz (.c (.ptr l o)) (.c (.int k j))) K st=chk (0≤j) (chk (j<n) (evl (nrm (o+j.toNat*sz)) fun x=>K (.ptr l x) st)):=rfl
theorem aGz {s:List UInt8}{k:IntKind}{j:Int}:aH E (.sidx (.c (.str s)) (.c (.int k j))) K st=chk (0≤j) (chk (j<s.length) (evl (nrm j.toNat) fun i=>K (.int .u8 (bt s i)) st)):=rfl
theorem aCv {s:List UInt8}:aH E (.range (.c (.str s))) K (sta L h)=jL h (.iter s 0) fun i h' => K (.ptr i 0) (sta L h'):=rfl
theorem aFz {i:Nat}:aH E (.next (.c (.ptr i 0))) K (sta L h)=AJ h[i]? fun s pos=>
    (pos<s.length→evl (nrm (h.set i (.iter s (pos+(Utf8.decode ⟨s.toArray⟩ pos).2)))) fun h' => K (.tup [.bool true,.int .i64 pos,.int .i32 (Utf8.decode ⟨s.toArray⟩ pos).1]) (sta L h')) ∧
    (¬ pos<s.length→K (.tup [.bool false]) (sta L h)):=rfl
theorem aHl {x:List DV}{i:Nat}:aH E (.extr (.c (.tup x)) i) K st=fX x[i]? fun d=>K d st:=rfl
theorem aGX {b:Bool}{f:Nat}{as:List AX}:aH E (.call b f as) K (sta L h)=evl (nrm (as.map (AX.ev (slots L)))) fun ds=>acall E b f ds K (sta L h):=rfl
theorem XZ {b:Bool}{f:Nat}{cs:List DV}{as:List AX}:aH E (.callv b (.c (.fn f cs)) as) K (sta L h)=evl (nrm (as.map (AX.ev (slots L))++cs)) fun ds=>acall E b f ds K (sta L h):=rfl
theorem aAq {b:Bool}{f:Nat}{cs:List DV}{as:List AX}:aH E (.callv b (.c (.bnd f cs)) as) K (sta L h)=evl (nrm (cs++as.map (AX.ev (slots L)))) fun ds=>acall E b f ds K (sta L h):=rfl
theorem aIH {b:Bool}{m:String}{t:Nat}{l:List DV}{as:List AX}:aH E (.inv b m (.c (.ifc t l)) as) K (sta L h)=fX (xO E.P t m) fun f=>evl (nrm (l++as.map (AX.ev (slots L)))) fun ds=>acall E b f ds K (sta L h):=rfl
theorem OG {s:List UInt8}:aH E (.len true (.c (.str s))) K st=evl (nrm s.length) fun n=>K (.int .i64 n) st:=by simp only [NC,true_and]; rfl
theorem QR {sz:Nat}{es:List (List DV)}:aH E (.len false (.c (.sl sz es))) K st=evl (nrm es.length) fun n=>K (.int .i64 n) st:=by simp only [UU,true_and]; rfl
theorem OU {sz i off n:Nat}{c:Option Nat}:aH E (.len false (.c (.osl sz i off n c))) K st=K (.int .i64 n) st:=by simp only [OS,true_and]
theorem NQ {b:Bool}{sz:Nat}:aH E (.len false (.c (.emp b sz))) K st=K (.int .i64 0) st:=by simp only [OM,true_and]
theorem NY {sz:Nat}:aH E (.len false (.c (.nils sz))) K st=K (.int .i64 0) st:=by simp only [ML,true_and]
theorem LG {sz i off n c:Nat}:aH E (.cap (.c (.osl sz i off n (some c)))) K st=K (.int .i64 c) st:=rfl
theorem PF {sz:Nat}:aH E (.cap (.c (.nils sz))) K st=K (.int .i64 0) st:=rfl
theorem aKR {as:List AX}:aH E (.mn as) K (sta L h)=evl (nrm (as.map (AX.ev (slots L)))) fun ds=>mm (fun x y=>if y<x then y else x) ds fun d=>K d (sta L h):=rfl
theorem aKO {as:List AX}:aH E (.mx as) K (sta L h)=evl (nrm (as.map (AX.ev (slots L)))) fun ds=>mm (fun x y=>if y>x then y else x) ds fun d=>K d (sta L h):=rfl
theorem aAS {z:List DV}{ps:List (Nat×Nat×AX)}:aH E (.build z ps) K (sta L h)=evl (nrm (ps.map fun p=>(p.1,p.2.1,p.2.2.ev (slots L)))) fun qs=>sF z qs fun cs=>K (.agg cs) (sta L h):=rfl
theorem XX {cs:List DV}{Q:List DV→Prop}:sF cs [] Q=Q cs:=rfl
theorem UJ {cs:List DV}{o n:Nat}{d:DV}{l:List (Nat×Nat×DV)}{Q:List DV→Prop}:sF cs ((o,n,d)::l) Q=evl (nrm d.cells) fun ds=>chk (ds.all DV.one=true) (chk (ds.length=n) (chk (o+n≤cs.length)
  (evl (nrm (cs.take o++ds++cs.drop (o+n))) fun cs' => sF cs' l Q))):=rfl
def dL (h:List AObj)(ds:List DV):List Nat:=(ds.flatMap DV.owns).filter fun l=>dV h[l]?
def cJ (F:List Nat)(h:List AObj)(d:DV):DV:=d.low (frz F) h
def eE (F:List Nat)(h:List AObj)(ds:List DV):List DV:=ds.map (cJ F h)
def uJ (F:List Nat)(h:List AObj):List (Nat×DV)→List (Nat×DV)
 | []=>[]
 | (t,d)::L=>(t,cJ F h d)::uJ F h L
def fA (F:List Nat)(h:List AObj)(n:Nat):List AObj→List AObj
 | []=>[]
 | o::l=>pH F h n o::fA F h (n+1) l
theorem uB (F:List Nat)(h:List AObj):∀ (L:List (Nat×DV))(s:Nat),(slots L s).low (frz F) h=slots (uJ F h L) s
 | [],_=>rfl
 | (t,d)::L,s=>by
  simp only [slots,uJ]
  split
  ·rfl
  ·exact uB F h L s
theorem KG (F:List Nat)(h:List AObj):∀ (l:List AObj)(n:Nat),(l.zipIdx n).map (fun (o,l)=>pH F h l o)=fA F h n l
 | [],_=>rfl
 | o::l,n=>by rw [List.zipIdx_cons,List.map_cons,KG F h l (n+1)]; rfl
theorem iT {F:List Nat}{L:List (Nat×DV)}{h:List AObj}:(sta L h).freeze F=sta (uJ F h L) (fA F h 0 h):=by
 unfold St.freeze sta
 congr 1
 ·funext s; exact uB F h L s
 ·exact KG F h h 0
section
variable {h:List AObj} {F:List Nat}
theorem aCE:dL h []=[]:=rfl
theorem aBc {sz i off n:Nat}{c:Option Nat}{ds:List DV}:dL h (.osl sz i off n c::ds)=sel (dV h[i]?) (i::dL h ds) (dL h ds):=by
 cases hq:dV h[i]? <;> simp [dL,DV.owns,hq,sel]
theorem aCA {k:IntKind}{n:Int}{ds:List DV}:dL h (.int k n::ds)=dL h ds:=rfl
theorem UZ {b:Bool}{ds:List DV}:dL h (.bool b::ds)=dL h ds:=rfl
theorem aBK {s:List UInt8}{ds:List DV}:dL h (.str s::ds)=dL h ds:=rfl
theorem aDU {sz:Nat}{es:List (List DV)}{ds:List DV}:dL h (.sl sz es::ds)=dL h ds:=rfl
theorem aAu {b:Bool}{n:Nat}{ds:List DV}:dL h (.emp b n::ds)=dL h ds:=rfl
theorem aHs {i:Nat}{ds:List DV}:dL h (.mp i::ds)=dL h ds:=rfl
theorem QH {n:Nat}{ds:List DV}:dL h (.nils n::ds)=dL h ds:=rfl
theorem VA {ds:List DV}:dL h (.nilp::ds)=dL h ds:=rfl
theorem lF:∀ (l:List DV),DV.owns.ownsAll l=l.flatMap DV.owns
 | []=>rfl
 | d::l=>by simp [DV.owns.ownsAll,lF l]
theorem aBZ {l ds:List DV}:dL h (.agg l::ds)=dL h (l++ds):=by
 simp only [dL,List.flatMap_cons,List.flatMap_append,DV.owns,lF]
theorem aEa {f:Nat}{l ds:List DV}:dL h (.fn f l::ds)=dL h (l++ds):=by
 simp only [dL,List.flatMap_cons,List.flatMap_append,DV.owns,lF]
theorem aCW {f:Nat}{l ds:List DV}:dL h (.ifc f l::ds)=dL h (l++ds):=by
 simp only [dL,List.flatMap_cons,List.flatMap_append,DV.owns,lF]
theorem aAy {f:Nat}{l ds:List DV}:dL h (.bnd f l::ds)=dL h (l++ds):=by
 simp only [dL,List.flatMap_cons,List.flatMap_append,DV.owns,lF]
theorem GE {sz:Nat}{es:List (List DV)}:dV (some (.arr sz es))=true:=rfl
theorem LJ {cs:List DV}:dV (some (.box cs))=false:=rfl
theorem LK {e:Nat}{bs:List UInt8}:dV (some (.buf e bs))=false:=rfl
theorem EM {e:Nat}{bs:List UInt8}:dV (some (.gbuf e bs))=false:=rfl
theorem ER:dV (some .dead)=false:=rfl
theorem HT {es:List (List UInt8×PV)}:dV (some (.mapo es))=false:=rfl
theorem HI {s:List UInt8}{p:Nat}:dV (some (.iter s p))=false:=rfl
def kX (l:Nat):List Nat→Bool
 | []=>false
 | a::F=>sel (l == a) true (kX l F)
theorem SR {l:Nat}:kX l []=false:=rfl
theorem wN {l a:Nat}{F:List Nat}:kX l (a::F)=sel (l == a) true (kX l F):=rfl
theorem dY (l:Nat):∀ F:List Nat,F.contains l=kX l F
 | []=>rfl
 | a::F=>by
  rw [wN,← dY l F,List.contains_cons]
  cases (l == a) <;> rfl
def shr (sz off n:Nat)(o:Option AObj):DV:=match o with
 | some (.arr sz' es)=>if sz' = sz∧off+n≤es.length then .sl sz ((es.drop off).take n) else .undef
 | _=>.undef
theorem aBP {sz off n:Nat}{es:List (List DV)}:shr sz off n (some (.arr sz es))=sel (decide (off+n≤es.length)) (.sl sz ((es.drop off).take n)) .undef:=by
 simp only [shr,true_and]
 by_cases e:off+n≤es.length <;> simp [e,sel]
theorem aFK {sz i off n:Nat}{c:Option Nat}:cJ F h (.osl sz i off n c)=sel (kX i F) (shr sz off n h[i]?) (.osl sz i off n c):=by
 unfold cJ
 rw [← dY]
 simp only [DV.low,frz]
 cases hq:F.contains i with
 | false=>simp [sel]
 | true=>simp only [if_true,eP]; rfl
theorem aER {k:IntKind}{n:Int}:cJ F h (.int k n)=.int k n:=rfl
theorem XT {b:Bool}:cJ F h (.bool b)=.bool b:=rfl
theorem aGP {s:List UInt8}:cJ F h (.str s)=.str s:=rfl
theorem aAs:cJ F h .nilp=.nilp:=rfl
theorem TO:cJ F h .nilfn=.nilfn:=rfl
theorem aFv {b:Bool}{n:Nat}:cJ F h (.emp b n)=.emp b n:=rfl
theorem aAM:cJ F h .nili=.nili:=rfl
theorem UY:cJ F h .undef=.undef:=rfl
theorem XR {n:Nat}:cJ F h (.nils n)=.nils n:=rfl
theorem aKc {sz:Nat}{es:List (List DV)}:cJ F h (.sl sz es)=.sl sz es:=rfl
theorem YU {cs:List DV}{o:Nat}:cJ F h (.eptr cs o)=.eptr cs o:=rfl
def aJT (x:Option AObj)(o:Nat):DV:=match x with
 | some (.box cs)=>if cs.all DV.closed=true then .eptr cs o else .undef
 | _=>.undef
theorem aFt {i o:Nat}:cJ F h (.ptr i o)=sel (kX i F) (aJT h[i]? o) (.ptr i o):=by
 unfold cJ
 rw [← dY]
 simp only [DV.low,frz]
 cases hq:F.contains i
 ·simp [sel]
 ·simp only [sel,if_true]; rfl
theorem aID {i:Nat}:cJ F h (.mp i)=sel (kX i F) .undef (.mp i):=by
 unfold cJ
 rw [← dY]
 simp only [DV.low,frz]
 cases hq:F.contains i <;> simp [sel]
theorem aBf {i t m:Nat}:cJ F h (.self i t m)=sel (kX i F) .undef (.self i t m):=by
 unfold cJ
 rw [← dY]
 simp only [DV.low,frz]
 cases hq:F.contains i <;> simp [sel]
theorem aGA {i t m:Nat}:cJ F h (.hdr i t m)=sel (kX i F) .undef (.hdr i t m):=by
 unfold cJ
 rw [← dY]
 simp only [DV.low,frz]
 cases hq:F.contains i <;> simp [sel]
theorem ZR {sz i j q:Nat}:cJ F h (.aptr sz i j q)=sel (kX i F) .undef (.aptr sz i j q):=by
 unfold cJ
 rw [← dY]
 simp only [DV.low,frz]
 cases hq:F.contains i <;> simp [sel]
theorem mH (ρ:Nat→Option Nat):∀ (l:List DV),DV.low.lowAll ρ h l=l.map (DV.low ρ h)
 | []=>rfl
 | d::l=>by simp [DV.low.lowAll,mH ρ l]
theorem aDL {l:List DV}:cJ F h (.agg l)=.agg (eE F h l):=by simp only [cJ,DV.low,mH]; rfl
theorem aFX {l:List DV}:cJ F h (.tup l)=.tup (eE F h l):=by simp only [cJ,DV.low,mH]; rfl
theorem aFx {f:Nat}{l:List DV}:cJ F h (.ifc f l)=.ifc f (eE F h l):=by simp only [cJ,DV.low,mH]; rfl
theorem aFb {f:Nat}{l:List DV}:cJ F h (.bnd f l)=.bnd f (eE F h l):=by simp only [cJ,DV.low,mH]; rfl
theorem aHM {f:Nat}{l:List DV}:cJ F h (.fn f l)=.fn f (eE F h l):=by simp only [cJ,DV.low,mH]; rfl
theorem aBm:eE F h []=[]:=rfl
theorem QU {d:DV}{l:List DV}:eE F h (d::l)=cJ F h d::eE F h l:=rfl
theorem aBA:uJ F h []=[]:=rfl
theorem VG {t:Nat}{d:DV}{L:List (Nat×DV)}:uJ F h ((t,d)::L)=(t,cJ F h d)::uJ F h L:=rfl
theorem aBV {n:Nat}:fA F h n []=[]:=rfl
theorem aCp {n sz:Nat}{es:List (List DV)}{l:List AObj}:fA F h n (.arr sz es::l)=sel (kX n F) .dead (.arr sz es)::fA F h (n+1) l:=by
 rw [fA,pH,← dY]
 cases F.contains n <;> rfl
theorem YD {n:Nat}{cs:List DV}{l:List AObj}:fA F h n (.box cs::l)=sel (kX n F) .dead (.box (eE F h cs))::fA F h (n+1) l:=by
 rw [fA,pH,← dY]
 cases F.contains n <;> rfl
theorem VK {n:Nat}{s:List UInt8}{p:Nat}{l:List AObj}:fA F h n (.iter s p::l)=sel (kX n F) .dead (.iter s p)::fA F h (n+1) l:=by
 rw [fA,pH,← dY]
 cases F.contains n <;> rfl
theorem TH {n:Nat}{es:List (List UInt8×PV)}{l:List AObj}:fA F h n (.mapo es::l)=sel (kX n F) .dead (.mapo es)::fA F h (n+1) l:=by
 rw [fA,pH,← dY]
 cases F.contains n <;> rfl
theorem aBG {n e:Nat}{bs:List UInt8}{l:List AObj}:fA F h n (.buf e bs::l)=sel (kX n F) .dead (.buf e bs)::fA F h (n+1) l:=by
 rw [fA,pH,← dY]
 cases F.contains n <;> rfl
theorem QY {n e:Nat}{bs:List UInt8}{l:List AObj}:fA F h n (.gbuf e bs::l)=sel (kX n F) .dead (.gbuf e bs)::fA F h (n+1) l:=by
 rw [fA,pH,← dY]
 cases F.contains n <;> rfl
theorem SC {n:Nat}{l:List AObj}:fA F h n (.dead::l)=.dead::fA F h (n+1) l:=by
 rw [fA,pH]
 cases F.contains n <;> rfl
end
def XE (ds:List DV)(L:List (Nat×DV))(h:List AObj)(K:List DV→List (Nat×DV)→List AObj→Prop):Prop:=
 evl (nrm (dL h ds)) fun F=>evl (nrm (eE F h ds)) fun ds' => evl (nrm (uJ F h L)) fun L' => evl (nrm (fA F h 0 h)) fun h' => K ds' L' h'
theorem aBW {ds:List DV}{L:List (Nat×DV)}{h:List AObj}{K:List DV→List (Nat×DV)→List AObj→Prop}:XE ds L h K=evl (nrm (dL h ds)) fun F=>evl (nrm (eE F h ds)) fun ds' => evl (nrm (uJ F h L)) fun L' => evl (nrm (fA F h 0 h)) fun h' => K ds' L' h' := rfl
theorem TM {b:Bool}{sz:Nat}{ps:List AX}:aH E (.bslice b sz ps) K (sta L h)=evl (nrm (ps.map (AX.ev (slots L)))) fun ds=>sel (nrm (ds.all DV.closed)) (chk (ds.all (fun d=>d.cells.all DV.one)=true) (chk (ds.all (fun d=>d.cells.length == sz)=true)
  (evl (nrm ds.length) fun n=>jL h (.arr sz (ds.map DV.cells)) fun i h' => K (.osl sz i 0 n none) (sta L h')))) (sel b (XE ds L h fun ds' L' h' => chk (ds'.all DV.closed=true) (chk (ds'.all (fun d=>d.cells.all DV.one)=true) (chk (ds'.all (fun d=>d.cells.length == sz)=true)
  (evl (nrm ds'.length) fun n=>jL h' (.arr sz (ds'.map DV.cells)) fun i h'' => K (.osl sz i 0 n none) (sta L' h''))))) (aop E (.bslice b sz (ds.map .c)) K (sta L h))):=by
 have he:aH E (.bslice b sz ps) K (sta L h)=aH E (.bslice b sz ((ps.map (AX.ev (slots L))).map .c)) K (sta L h):=by
  show aop E _ K (sta L h)=aop E _ K (sta L h)
  rw [JW]
  simp only [AOp.sub,aEE,List.map_map]
  congr 1
 rw [he]
 show _=sel _ _ _
 generalize ps.map (AX.ev (slots L))=ds
 cases hc:ds.all DV.closed with
 | false=>
  cases b with
  | false=>simp only [nrm,hc]; rfl
  | true=>
   simp only [nrm,hc,jQ,eP]
   rw [vA]
   have e1:(ds.map AX.c).map (·.ev (sta L h).fr)=ds:=by simp [AX.ev,Function.comp_def]
   rw [e1]
   have hcn:¬ (ds.all DV.closed=true):=by simp [hc]
   simp only [iK,if_neg hcn,XE,evl,nrm,chk,jL,List.length_map]
   have hF' : (List.filter (fun l=>dV (sta L h).h[l]?) (ds.flatMap DV.owns))=dL h ds:=rfl
   rw [hF']
   generalize dL h ds=F
   rw [iT]
   have hd:List.map (DV.low (frz F) (sta L h).h) ds=eE F h ds:=rfl
   rw [hd]
   have hlen:ds.length=(eE F h ds).length:=by simp [eE]
   rw [hlen]
   generalize eE F h ds=ds'
   have key2:(∀ d∈ds',d.closed=true∧d.cells.all DV.one=true∧d.cells.length=sz)↔ds'.all DV.closed=true∧ds'.all (fun d=>d.cells.all DV.one)=true∧ds'.all (fun d=>d.cells.length == sz)=true:=by
    simp only [List.all_eq_true,beq_iff_eq]
    exact ⟨fun k=>⟨fun d hd=>(k d hd).1,fun d hd=>(k d hd).2.1,fun d hd=>(k d hd).2.2⟩,fun k d hd=>⟨k.1 d hd,k.2.1 d hd,k.2.2 d hd⟩⟩
   rw [key2,and_assoc,and_assoc]
   rfl
 | true=>
  simp only [nrm,hc,eP]
  have key:(∀ d∈ds,d.closed=true∧d.cells.all DV.one=true∧d.cells.length=sz)↔ds.all (fun d=>d.cells.all DV.one)=true∧ds.all (fun d=>d.cells.length == sz)=true:=by
   simp only [List.all_eq_true,beq_iff_eq] at hc ⊢
   exact ⟨fun k=>⟨fun d hd=>(k d hd).2.1,fun d hd=>(k d hd).2.2⟩,fun k d hd=>⟨hc d hd,k.1 d hd,k.2 d hd⟩⟩
  cases b with
  | false=>
   rw [GL]
   simp only [List.forall_mem_map,AX.ev,chk,evl,jL,List.map_map,Function.comp_def,List.length_map]
   rw [key,and_assoc]
   rfl
  | true=>
   rw [vA]
   have e1:(ds.map AX.c).map (·.ev (sta L h).fr)=ds:=by simp [AX.ev,Function.comp_def]
   rw [e1]
   simp only [iK,hc,if_true,chk,evl,jL,List.length_map]
   rw [key,and_assoc]
   rfl
theorem aIw {sz:Nat}{es:List (List DV)}{Q:List (List DV)→Prop}:elems h (.sl sz es) sz Q=Q es:=by simp [elems]
theorem aEu {b:Bool}{n sz:Nat}{Q:List (List DV)→Prop}:elems h (.emp b n) sz Q=Q []:=rfl
theorem ZJ {n sz:Nat}{Q:List (List DV)→Prop}:elems h (.nils n) sz Q=Q []:=rfl
theorem aFe {sz i off n:Nat}{c:Option Nat}{Q:List (List DV)→Prop}:elems h (.osl sz i off n c) sz Q=nB sz h[i]? fun es=>chk (off+n≤es.length) (evl (nrm ((es.drop off).take n)) fun x=>Q x):=by
 simp only [elems,true_and]; rfl
theorem aGR {s:List UInt8}{Q:List (List DV)→Prop}:elems h (.str s) 1 Q=Q (s.map fun b=>[.int .u8 b.toNat]):=by simp [elems]
theorem aJx {sz:Nat}{z:List DV}{x:DV}:aH E (.clr sz z (.c x)) K (sta L h)=zE sz z x K (sta L h):=rfl
theorem aJG {sz:Nat}{x y:DV}:aH E (.cpy sz (.c x) (.c y)) K (sta L h)=nR sz x y K (sta L h):=rfl
theorem aFA {b:Bool}{z:PV}{i:Nat}{s:List UInt8}:aH E (.look b z (.c (.mp i)) (.c (.str s))) K (sta L h)=BO h[i]? fun es=>K (TT b z es s) (sta L h):=rfl
theorem aHq {z:PV}{i:Nat}{s:List UInt8}:aH E (.ment z (.c (.mp i)) (.c (.str s))) K (sta L h)=BO h[i]? fun es=>evl (nrm (h.set i (.mapo (FZ es s z)))) fun h' => K (.tup [(nK s z es).dv,.int .i64 (eI s es)]) (sta L h'):=rfl
theorem aEV {i:Nat}{k:IntKind}{n:Int}{d:DV}:aH E (.mset (.c (.mp i)) (.c (.int k n)) (.c d)) K (sta L h)=BO h[i]? fun es=>chk (0≤n) (chk (n<es.length) (fX d.pv fun p=>evl (nrm (h.set i (.mapo (qV es n.toNat p)))) fun h' => K .undef (sta L h'))):=rfl
theorem aFS {i:Nat}{s:List UInt8}{d:DV}:aH E (.mput (.c (.mp i)) (.c (.str s)) (.c d)) K (sta L h)=BO h[i]? fun es=>fX d.pv fun p=>evl (nrm (h.set i (.mapo (ST es s p)))) fun h' => K .undef (sta L h'):=rfl
theorem PQ {sz bytes:Nat}{x y:DV}:aH E (.appendf sz bytes (.c x) (.c y)) K (sta L h)=lR sz bytes x y K (sta L h):=rfl
theorem TF {sz bytes:Nat}{x y:DV}:aH E (.append sz bytes (.c x) (.c y)) K (sta L h)=eS sz bytes x y K (sta L h):=rfl
theorem PO {sz bytes k:Nat}{z:List DV}{m:Int}:aH E (.appendz sz bytes z (.c (.nils k)) (.c (.int .i64 m))) K (sta L h)=chk (0≤m) (chk (m*bytes≤1099511627776) (chk (m≤1099511627776) (evl (nrm m.toNat) fun n=>jL h (.arr sz (List.replicate n z)) fun i h' => K (.osl sz i 0 n none) (sta L h')))):=rfl
def KX (p:Nat→Bool):List (Nat×DV)→List (Nat×DV)
 | []=>[]
 | (t,d)::L=>(t,d.kill p)::KX p L
theorem tQ (p:Nat→Bool):∀ (L:List (Nat×DV))(s:Nat),(slots L s).kill p=slots (KX p L) s
 | [],_=>rfl
 | (t,d)::L,s=>by
  simp only [slots,KX]
  split
  ·rfl
  ·exact tQ p L s
end
def kil (i:Nat)(d:DV):DV:=d.kill (· == i)
section
variable {i:Nat}
theorem YE {k:IntKind}{n:Int}:kil i (.int k n)=.int k n:=rfl
theorem SV {b:Bool}:kil i (.bool b)=.bool b:=rfl
theorem ZK {s:List UInt8}:kil i (.str s)=.str s:=rfl
theorem WZ:kil i .nilp=.nilp:=rfl
theorem MV:kil i .nilfn=.nilfn:=rfl
theorem WQ:kil i .nili=.nili:=rfl
theorem NM:kil i .undef=.undef:=rfl
theorem aBk {b:Bool}{n:Nat}:kil i (.emp b n)=.emp b n:=rfl
theorem VB {n:Nat}:kil i (.nils n)=.nils n:=rfl
theorem aFO {sz:Nat}{es:List (List DV)}:kil i (.sl sz es)=.sl sz es:=rfl
theorem QA {cs:List DV}{o:Nat}:kil i (.eptr cs o)=.eptr cs o:=rfl
theorem qP {b:Bool}{d:DV}:(if b=true then DV.undef else d)=sel b .undef d:=by cases b <;> rfl
theorem aAg {l o:Nat}:kil i (.ptr l o)=sel (l == i) .undef (.ptr l o):=by simp only [kil,DV.kill,qP]
theorem aEW {l:Nat}:kil i (.mp l)=sel (l == i) .undef (.mp l):=by simp only [kil,DV.kill,qP]
theorem SX {l t m:Nat}:kil i (.self l t m)=sel (l == i) .undef (.self l t m):=by simp only [kil,DV.kill,qP]
theorem aCS {l t m:Nat}:kil i (.hdr l t m)=sel (l == i) .undef (.hdr l t m):=by simp only [kil,DV.kill,qP]
theorem TU {sz l j q:Nat}:kil i (.aptr sz l j q)=sel (l == i) .undef (.aptr sz l j q):=by simp only [kil,DV.kill,qP]
theorem aAC {sz l off n:Nat}{c:Option Nat}:kil i (.osl sz l off n c)=sel (l == i) .undef (.osl sz l off n c):=by simp only [kil,DV.kill,qP]
def uO (i:Nat)(l:List DV):List DV:=l.map (kil i)
theorem RC:uO i []=[]:=rfl
theorem NP {d:DV}{l:List DV}:uO i (d::l)=kil i d::uO i l:=rfl
theorem aAt {l:List DV}:kil i (.agg l)=.agg (uO i l):=by simp only [kil,DV.kill,bZ]; rfl
theorem aCr {l:List DV}:kil i (.tup l)=.tup (uO i l):=by simp only [kil,DV.kill,bZ]; rfl
theorem aAA {f:Nat}{l:List DV}:kil i (.ifc f l)=.ifc f (uO i l):=by simp only [kil,DV.kill,bZ]; rfl
theorem aAK {f:Nat}{l:List DV}:kil i (.bnd f l)=.bnd f (uO i l):=by simp only [kil,DV.kill,bZ]; rfl
theorem aFE {f:Nat}{l:List DV}:kil i (.fn f l)=.fn f (uO i l):=by simp only [kil,DV.kill,bZ]; rfl
def fB (i:Nat)(L:List (Nat×DV)):List (Nat×DV):=KX (· == i) L
theorem WV:fB i []=[]:=rfl
theorem LM {t:Nat}{d:DV}{L:List (Nat×DV)}:fB i ((t,d)::L)=(t,kil i d)::fB i L:=rfl
def eZ (i:Nat)(h:List AObj):List AObj:=h.map (rS (· == i))
theorem VD:eZ i []=[]:=rfl
theorem WK {cs:List DV}{h:List AObj}:eZ i (.box cs::h)=.box (uO i cs)::eZ i h:=rfl
theorem TL {sz:Nat}{es:List (List DV)}{h:List AObj}:eZ i (.arr sz es::h)=.arr sz es::eZ i h:=rfl
theorem LA {s:List UInt8}{p:Nat}{h:List AObj}:eZ i (.iter s p::h)=.iter s p::eZ i h:=rfl
theorem PG {es:List (List UInt8×PV)}{h:List AObj}:eZ i (.mapo es::h)=.mapo es::eZ i h:=rfl
theorem SZ {e:Nat}{bs:List UInt8}{h:List AObj}:eZ i (.buf e bs::h)=.buf e bs::eZ i h:=rfl
theorem LW {e:Nat}{bs:List UInt8}{h:List AObj}:eZ i (.gbuf e bs::h)=.gbuf e bs::eZ i h:=rfl
theorem PB {h:List AObj}:eZ i (.dead::h)=.dead::eZ i h:=rfl
theorem lS {L:List (Nat×DV)}{h:List AObj}:(sta L h).kill (· == i)=sta (fB i L) (eZ i h):=by
 unfold St.kill sta fB eZ
 congr 1
 funext s
 exact tQ _ L s
end
section
variable {E:Env} {L:List (Nat×DV)} {h:List AObj} {K:DV→St→Prop}
theorem aCf {sz bytes n:Nat}{y:DV}:eS sz bytes (.nils n) y K (sta L h)=elems h y sz fun ys=>chk (ys.length*bytes≤1099511627776) (chk (ys.length≤1099511627776)
  (evl (nrm ys.length) fun n=>jL h (.arr sz ys) fun i h' => K (.osl sz i 0 n none) (sta L h'))):=rfl
theorem aFk {sz bytes i n:Nat}{y:DV}:eS sz bytes (.osl sz i 0 n none) y K (sta L h)=elems h y sz fun ys=>nB sz h[i]? fun es=>chk (n≤es.length) (chk ((n+ys.length)*bytes≤1099511627776) (chk (n+ys.length≤1099511627776)
  (evl (nrm (n+ys.length)) fun n' => evl (nrm (es.take n++ys)) fun es' => evl (nrm (fB i L)) fun L' => evl (nrm ((eZ i h).set i (.arr sz es'))) fun h' => K (.osl sz i 0 n' none) (sta L' h')))):=by
 unfold eS
 simp only [true_and,lS,tZ]
 rfl
theorem aHr {sz bytes i n:Nat}{y:DV}:lR sz bytes (.osl sz i 0 n none) y K (sta L h)=elems h y sz fun ys=>nB sz h[i]? fun es=>chk (n=es.length) (chk ((n+ys.length)*bytes≤1099511627776) (chk (n+ys.length≤1099511627776)
  (evl (nrm (es++ys)) fun es' => evl (nrm (uJ [i] h L)) fun L' => evl (nrm (fA [i] h 0 h)) fun h' => K (.sl sz es') (sta L' h')))):=by
 unfold lR
 simp only [true_and,iT]
 rfl
theorem aHo {sz bytes i off n c:Nat}{y:DV}:eS sz bytes (.osl sz i off n (some c)) y K (sta L h)=elems h y sz fun ys=>nB sz h[i]? fun es=>chk (off+c≤es.length) (chk (n+ys.length≤c)
  (evl (nrm (n+ys.length)) fun n' => evl (nrm (es.take (off+n)++ys++es.drop (off+n+ys.length))) fun es' => evl (nrm (h.set i (.arr sz es'))) fun h' => K (.osl sz i off n' (some c)) (sta L h'))):=by
 unfold eS
 simp only [true_and,tZ]
 rfl
theorem aDK {sz i off n:Nat}{c:Option Nat}{y:DV}:nR sz (.osl sz i off n c) y K (sta L h)=elems h y sz fun ys=>nB sz h[i]? fun es=>chk (off+n≤es.length) (chk (ys.length≤n)
  (evl (nrm (es.take off++ys++es.drop (off+ys.length))) fun es' => evl (nrm (h.set i (.arr sz es'))) fun h' => K (.int .i64 ys.length) (sta L h'))):=by
 unfold nR
 simp only [true_and,tZ]
 rfl
end
def eK (m0:Nat)(post:List AObj→DV→Prop)(o:Option (List DV))(h:List AObj):Prop:=∃ ds,o=some ds∧∃ ρ:List Nat,ρ.Nodup∧m0≤ρ.length∧(∀ i,i<m0→ρ[i]?=some i)∧(∀ l∈ρ,l<h.length)∧(rvd ds).inL ρ.contains=true ∧
   (∀ l∈ρ,inO ρ.contains (h.getD l .dead)=true) ∧
   TK post (ρ.map fun l=>aS (ρ.idxOf ·) (h.getD l .dead)) ((rvd ds).ren (ρ.idxOf ·))
@[congr] theorem aEy {m0:Nat} {post:List AObj→DV→Prop} {o o' : Option (List DV)} {h:List AObj} (e:o=o'):eK m0 post o h=eK m0 post o' h:=by rw [e]
theorem aJQ {m0:Nat}{res:List RV}{post:List AObj→DV→Prop}{L:List (Nat×DV)}{h:List AObj}:fin m0 res post .ret (sta L h)=eK m0 post (rvl (sta L h) res) h:=rfl
theorem aFh {m0:Nat}{res:List RV}{post:List AObj→DV→Prop}{L:List (Nat×DV)}{h:List AObj}:fin m0 res post .normal (sta L h)=eK m0 post (rvl (sta L h) res) h:=rfl
def cel (d:DV)(a:Option Nat)(h:List AObj):Option DV:=match d with
 | .ptr l o=>match h[l]?,a with
  | some (.box cs),none=>cs[o]?
  | some (.box cs),some n=>if o+n≤cs.length then some (.agg ((cs.drop o).take n)) else none
  | _,_=>none
 | _=>none
def aCP (x:Option AObj)(a:Option Nat)(o:Nat):Option DV:=match x,a with
  | some (.box cs),none=>cs[o]?
  | some (.box cs),some n=>if o+n≤cs.length then some (.agg ((cs.drop o).take n)) else none
  | _,_=>none
theorem aKa {l o:Nat}{a:Option Nat}{h:List AObj}:cel (.ptr l o) a h=aCP h[l]? a o:=rfl
theorem aEA {cs:List DV}{o:Nat}:aCP (some (.box cs)) none o=cs[o]?:=rfl
theorem aGh {cs:List DV}{o n:Nat}:aCP (some (.box cs)) (some n) o=sel (decide (o+n≤cs.length)) (some (.agg ((cs.drop o).take n))) none:=by
 unfold aCP; by_cases e:o+n≤cs.length <;> simp [e,sel]
theorem aBp {st:St}:rvl st []=some []:=rfl
theorem aJy {s:Nat}{l:List RV}{L:List (Nat×DV)}{h:List AObj}:rvl (sta L h) (.t s::l)=(rvl (sta L h) l).map (slots L s :: ·):=rfl
theorem aJP {s:Nat}{a:Option Nat}{l:List RV}{L:List (Nat×DV)}{h:List AObj}:rvl (sta L h) (.cell s a::l)=(cel (slots L s) a h).bind fun d=>(rvl (sta L h) l).map (d :: ·):=rfl
theorem aD {post:List AObj→DV→Prop}{ds:List DV}{h:List AObj}(hs:(rvd ds).closed=true)(hp:post [] (rvd ds)):eK 0 post (some ds) h:=
 ⟨ds,rfl,[],List.nodup_nil,Nat.le_refl _,fun _ h=>by omega,fun _ h=>by simp at h,bA hs,fun _ h=>by simp at h,by rw [aZ hs]; exact hp⟩
section
variable {E:Env} {m0:Nat} {post:AExit→St→Prop} {ks:List Fr} {L:List (Nat×DV)} {h:List AObj}
theorem aCb {e:AExit}:goK E m0 post [] e L h=post e (sta L h):=rfl
def rnd (m0:Nat){γ:Type}(SL:γ→List (Nat×DV))(SH:γ→List AObj)(P:γ→Prop)(μ:γ→Nat)(n:Nat)(st' : St):Prop:=∃ g',Wk m0 st' (sta (SL g') (SH g'))∧P g' ∧ μ g' < n
def aAB (L:List (Nat×DV)):List (Nat×DV)→Prop
 | []=>True
 | (t,d)::M=>slots L t=d∧aAB L M
def ZC (m:Nat)(L:List (Nat×DV)):List (Nat×DV)→Prop
 | []=>True
 | (t,d)::M=>slots L t=d∧d.under m=true∧ZC m L M
theorem aDs:∀ {M:List (Nat×DV)},aAB L M→agr (sta L h) (fun _=>True) M
 | [],_=>trivial
 | (_,_)::_,hh=>⟨⟨hh.1,trivial⟩,aDs hh.2⟩
theorem aDA {m:Nat}:∀ {M:List (Nat×DV)},ZC m L M→agr (sta L h) (fun d=>d.under m=true) M
 | [],_=>trivial
 | (_,_)::_,hh=>⟨⟨hh.1,hh.2.1⟩,aDA hh.2.2⟩
theorem wks {M:List (Nat×DV)}{h' : List AObj}(hh:h=h')(hm:m0≤h.length)(ha:aAB L M):Wk m0 (sta L h) (sta M h'):=aCm (st:=sta L h) hh hm (aDs ha)
theorem wkd (m:Nat){M:List (Nat×DV)}{h' : List AObj}(hh:h.take m=h')(hm:m0≤m)(ha:ZC m L M)(hb:(h'.all fun o=>inO (fun l=>decide (l<m)) o)=true):Wk m0 (sta L h) (sta M h'):=XW m (st:=sta L h) hh hm (aDA ha) hb
theorem aJ {b:ACode}{γ:Type}(SL:γ→List (Nat×DV))(SH:γ→List AObj)(P:γ→Prop)(μ:γ→Nat)(g0:γ)
  (h0:Wk m0 (sta L h) (sta (SL g0) (SH g0))) (hp:P g0)
  (round:∀ g,P g→goN E m0 post (.inv (rnd m0 SL SH P μ (μ g))::ks) b (SL g) (SH g)):goN E m0 post ks (.loop b) L h:=UT SL SH P μ g0 h0 hp round
theorem aN {γ:Type}{SL:γ→List (Nat×DV)}{SH:γ→List AObj}{P:γ→Prop}{μ:γ→Nat}{n:Nat}(g:γ)(hh:h=SH g)(hm:m0≤h.length)(ha:aAB L (SL g))(hp:P g)(hμ:μ g<n):rnd m0 SL SH P μ n (sta L h):=
 ⟨g,wks hh hm ha,hp,hμ⟩
theorem cI {γ:Type}{SL:γ→List (Nat×DV)}{SH:γ→List AObj}{P:γ→Prop}{μ:γ→Nat}{n:Nat}(m:Nat)(g:γ)(hh:h.take m=SH g)(hm:m0≤m)(ha:ZC m L (SL g))(hb:((SH g).all fun o=>inO (fun l=>decide (l<m)) o)=true)(hp:P g)(hμ:μ g<n):rnd m0 SL SH P μ n (sta L h):=
 ⟨g,wkd m hh hm ha hb,hp,hμ⟩
def aJs (ρ:List Nat)(L:List (Nat×DV)):List (Nat×DV)→Prop
 | []=>True
 | (t,d)::M=>(slots L t).ren (ρ.idxOf ·)=d∧(slots L t).inL ρ.contains=true∧aJs ρ L M
theorem wkp (ρ:List Nat){M:List (Nat×DV)}{h' : List AObj}(hnd:ρ.Nodup)(hm:m0≤ρ.length)(hid:∀ i,i<m0→ρ[i]?=some i)(hlt:∀ l∈ρ,l<h.length)
  (hh:(ρ.map fun l=>aS (ρ.idxOf ·) (h.getD l .dead))=h') (hin:∀ l∈ρ,inO ρ.contains (h.getD l .dead)=true) (ha:aJs ρ L M):Wk m0 (sta L h) (sta M h'):=by
 refine ⟨.inr ⟨ρ,hnd,hm,hid,hlt,hin,hh.symm,fun s=>?_⟩⟩
 show slots M s=.undef∨slots M s=(slots L s).ren (ρ.idxOf ·)∧(slots L s).inL ρ.contains=true
 clear hh
 induction M with
 | nil=>exact .inl rfl
 | cons p M ih=>
  obtain ⟨t,d⟩:=p
  obtain ⟨h1,h2,h3⟩:=ha
  simp only [slots]
  split
  ·rename_i e; subst e; exact .inr ⟨h1.symm,h2⟩
  ·exact ih h3
theorem aB {b:Bool}{f:Nat}{ds ds' : List DV}{D:DV}{K:DV→St→Prop}(hc:ACalls E f [] ds' (fun h d=>h=[]∧d=D))(he:ds.map (DV.dn [] h)=ds')(hs:D.scalar=true)(hk:K D (sta L h)):acall E b f ds K (sta L h):=by
 refine .go ?_
 refine .inl ⟨fun d=>d=D,?_,⟨D,rfl⟩,fun d e=>e▸⟨hs,hk⟩⟩
 rw [show (sta L h).h=h from rfl,he]
 exact hc
theorem kZ {b:Bool}{f:Nat}{ds ds' : List DV}{post:DV→Prop}{K:DV→St→Prop}(hc:ACalls E f [] ds' (fun h d=>h=[]∧post d))(he:ds.map (DV.dn [] h)=ds')(hx:∃ d,post d)(hk:∀ d,post d→d.scalar=true∧K d (sta L h)):acall E b f ds K (sta L h):=by
 refine .go ?_
 refine .inl ⟨post,?_,hx,hk⟩
 rw [show (sta L h).h=h from rfl,he]
 exact hc
theorem iS {b:Bool}{f:Nat}{ds:List DV}{H:List AObj}{D:DV}{K:DV→St→Prop}(hc:ACalls E f [] ds (fun h d=>h=H∧d=D))(hcl:∀ d∈ds,d.closed=true)(hk:K (D.ren (h.length + ·)) (sta L (h++H.map (aS (h.length + ·))))):acall E b f ds K (sta L h):=by
 refine .go ?_
 refine .inr (.inl ⟨fun h' d=>h' = H∧d=D,hc,hcl,⟨H,D,rfl,rfl⟩,fun h' d e=>?_⟩)
 obtain ⟨rfl,rfl⟩:=e
 exact hk
end
end Go.Ai
