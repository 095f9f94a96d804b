/- What an operation does, its operands being known. -/
import Derived.Test.YtgamnnfndidclaaGreatDoorGAiGo
set_option linter.all false
namespace Go.Ai
section
variable {E:Env} {L:List (Nat×DV)} {h:List AObj} {K:DV→St→Prop} {st:St}
theorem aEn {d:DV}:aE E (.mov (.c d)) K st=K d st:=rfl
theorem QA {a b:DV}:aE E (.pick (.c (.bool true)) (.c a) (.c b)) K st=K a st:=rfl
theorem LA {a b:DV}:aE E (.pick (.c (.bool false)) (.c a) (.c b)) K st=K b st:=rfl
theorem HJ {k:IntKind}{n:Int}:aE E (.set (.c (.int k n))) K st=K (.int k n) st:=rfl
theorem AO {b:Bool}:aE E (.set (.c (.bool b))) K st=K (.bool b) st:=rfl
theorem IL {s:List UInt8}:aE E (.set (.c (.str s))) K st=K (.str s) st:=rfl
theorem AD:aE E (.set (.c .nilp)) K st=K .nilp st:=rfl
theorem FS {i o:Nat}:aE E (.set (.c (.ptr i o))) K st=K (.ptr i o) st:=rfl
theorem CH {sz i j q:Nat}:aE E (.set (.c (.aptr sz i j q))) K st=K (.aptr sz i j q) st:=rfl
theorem CL {cs:List DV}{o:Nat}:aE E (.set (.c (.eptr cs o))) K st=K (.eptr cs o) st:=rfl
theorem LT {sz:Nat}{es:List (List DV)}:aE E (.set (.c (.sl sz es))) K st=K (.sl sz es) st:=rfl
theorem HZ {sz i off n:Nat}{c:Option Nat}:aE E (.set (.c (.osl sz i off n c))) K st=K (.osl sz i off n c) st:=rfl
theorem NP {f:Nat}{cs:List DV}:aE E (.set (.c (.fn f cs))) K st=K (.fn f cs) st:=rfl
theorem GH {f:Nat}{cs:List DV}:aE E (.set (.c (.ifc f cs))) K st=K (.ifc f cs) st:=rfl
theorem HC {f:Nat}{cs:List DV}:aE E (.set (.c (.bnd f cs))) K st=K (.bnd f cs) st:=rfl
theorem JI {b:Bool}{n:Nat}:aE E (.set (.c (.emp b n))) K st=K (.emp b n) st:=rfl
theorem PJ {i:Nat}:aE E (.set (.c (.mp i))) K st=K (.mp i) st:=rfl
theorem CB:aE E (.set (.c .nili)) K st=K .nili st:=rfl
theorem yO:aE E (.set (.c .nilfn)) K st=K .nilfn st:=rfl
theorem GQ {x:List DV}:aE E (.set (.c (.tup x))) K st=K (.tup x) st:=rfl
theorem zB:aE E (.set (.c .undef)) K st=K .undef st:=rfl
theorem CI {n:Nat}:aE E (.set (.c (.nils n))) K (sta L h)=hZ h (.arr n []) fun i h' => K (.osl n i 0 0 none) (sta L h'):=rfl
theorem IA {x:List DV}:aE E (.set (.c (.agg x))) K (sta L h)=ocP x h fun x' h' => K (.agg x') (sta L h'):=rfl
theorem IZ {n i o:Nat}:aE E (.faddr n (.c (.ptr i o))) K st=evl (nrm (o+n)) fun x=>K (.ptr i x) st:=rfl
theorem IS {n sz i j q:Nat}:aE E (.faddr n (.c (.aptr sz i j q))) K st=evl (nrm (q+n)) fun x=>K (.aptr sz i j x) st:=rfl
theorem FQ {n o:Nat}{cs:List DV}:aE E (.faddr n (.c (.eptr cs o))) K st=evl (nrm (o+n)) fun x=>K (.eptr cs x) st:=rfl
theorem BL {i o:Nat}:aE E (.nilchk (.c (.ptr i o))) K st=K (.ptr i o) st:=rfl
theorem BM {sz i j q:Nat}:aE E (.nilchk (.c (.aptr sz i j q))) K st=K (.aptr sz i j q) st:=rfl
theorem AZ {cs:List DV}{o:Nat}:aE E (.nilchk (.c (.eptr cs o))) K st=K (.eptr cs o) st:=rfl
theorem zZ {f:Nat}{cs:List DV}:aE E (.nilchk (.c (.fn f cs))) K st=K (.fn f cs) st:=rfl
theorem aDV {d:DV}:aE E (.box (.c d)) K (sta L h)=evl (nrm d.cells) fun cs=>chk (cs.all DV.one=true) (ocP cs h fun cs' h' => hZ h' (.box cs') fun i h'' => K (.ptr i 0) (sta L h'')):=rfl
theorem PU {i o:Nat}:aE E (.load none (.c (.ptr i o))) K (sta L h)=CE h[i]? fun cs=>eT cs[o]? fun d=>K d (sta L h):=rfl
theorem OQ {sz i j q:Nat}:aE E (.load none (.c (.aptr sz i j q))) K (sta L h)=kL sz h[i]? fun es=>eT es[j]? fun e=>eT e[q]? fun d=>K d (sta L h):=rfl
theorem QR {cs:List DV}{o:Nat}:aE E (.load none (.c (.eptr cs o))) K st=eT cs[o]? fun d=>K d st:=rfl
theorem IR {n i o:Nat}:aE E (.load (some n) (.c (.ptr i o))) K (sta L h)=CE h[i]? fun cs=>chk (o+n≤cs.length) (evl (nrm ((cs.drop o).take n)) fun x=>K (.agg x) (sta L h)):=rfl
theorem GN {n sz i j q:Nat}:aE E (.load (some n) (.c (.aptr sz i j q))) K (sta L h)=kL sz h[i]? fun es=>eT es[j]? fun e=>chk (q+n≤e.length) (evl (nrm ((e.drop q).take n)) fun x=>K (.agg x) (sta L h)):=rfl
theorem II {n o:Nat}{cs:List DV}:aE E (.load (some n) (.c (.eptr cs o))) K st=chk (o+n≤cs.length) (evl (nrm ((cs.drop o).take n)) fun x=>K (.agg x) st):=rfl
theorem IV {b:Bool}{n i o:Nat}{v:DV}:aE E (.store b n (.c (.ptr i o)) (.c v)) K (sta L h)=CE h[i]? fun cs=>evl (nrm v.cells) fun vs=>chk (vs.all DV.one=true) (chk (vs.length=n) (chk (o+n≤cs.length) (ocP vs h fun vs' h' =>
    evl (nrm (cs.take o++vs' ++ cs.drop (o+n))) fun cs' => evl (nrm (h'.set i (.box cs'))) fun h'' => K .undef (sta L h'')))):=rfl
theorem IE {n sz i j q:Nat}{v:DV}:aE E (.store true n (.c (.aptr sz i j q)) (.c v)) K (sta L h)=sel (nrm v.closed) (kL sz h[i]? fun es=>eT es[j]? fun e=>evl (nrm v.cells) fun vs=>chk (vs.all DV.one=true) (chk (vs.length=n) (chk (q+n≤e.length)
  (evl (nrm (es.set j (e.take q++vs++e.drop (q+n)))) fun es' => evl (nrm (h.set i (.arr sz es'))) fun h' => K .undef (sta L h')))))
  (fP [v] (sta L h) fun ds st' => ∃ d,ds=[d]∧∃ es,st'.h[i]?=some (.arr sz es)∧∃ e,es[j]?=some e∧d.closed=true∧d.cells.all DV.one=true∧d.cells.length=n∧q+n≤e.length ∧
   K .undef (st'.at i (.arr sz (es.set j (e.take q++d.cells++e.drop (q+n)))))):=by
 rw [tZ]
 by_cases hc:v.closed=true
 ·have e:∀ {X Y:Prop},sel (nrm v.closed) X Y=X:=by intro X Y; rw [nrm,hc]; rfl
  rw [e]
  apply propext
  simp only [true_or,true_and,fP,List.all_cons,List.all_nil,hc,Bool.and_true,if_true,List.cons.injEq,and_true,exists_eq_left',kL,eT,evl,nrm,chk,YQ,pM]
 ·have e:∀ {X Y:Prop},sel (nrm v.closed) X Y=Y:=by
   intro X Y; rw [nrm]; cases h:v.closed with
   | true=>exact absurd h hc
   | false=>rfl
  rw [e]
  try simp
theorem rY {n sz i j q:Nat}{v:DV}:aE E (.store false n (.c (.aptr sz i j q)) (.c v)) K (sta L h)=sel (nrm v.closed) (kL sz h[i]? fun es=>eT es[j]? fun e=>evl (nrm v.cells) fun vs=>chk (vs.all DV.one=true) (chk (vs.length=n) (chk (q+n≤e.length)
  (evl (nrm (es.set j (e.take q++vs++e.drop (q+n)))) fun es' => evl (nrm (h.set i (.arr sz es'))) fun h' => K .undef (sta L h'))))) False:=by
 rw [tZ]
 by_cases hc:v.closed=true
 ·have e:∀ {X Y:Prop},sel (nrm v.closed) X Y=X:=by intro X Y; rw [nrm,hc]; rfl
  rw [e]
  apply propext
  simp only [or_true,true_and,fP,List.all_cons,List.all_nil,hc,Bool.and_true,if_true,List.cons.injEq,and_true,exists_eq_left',kL,eT,evl,nrm,chk,YQ,pM]
 ·have e:∀ {X Y:Prop},sel (nrm v.closed) X Y=Y:=by
   intro X Y; rw [nrm]; cases h:v.closed with
   | true=>exact absurd h hc
   | false=>rfl
  rw [e]
  simp [hc]
theorem aDz {o:BinOp}{t:Ty}{x y:DV}:aE E (.bin o t (.c x) (.c y)) K st=aT o t x y fun d=>K d st:=rfl
theorem aFg {b:Bool}:aE E (.un .not (.c (.bool b))) K st=K (.bool !b) st:=rfl
theorem aFn {k:IntKind}{n:Int}:aE E (.un .neg (.c (.int k n))) K st=K (.int k (k.wrap (0 - n))) st:=rfl
theorem BC {k k' : IntKind}{n:Int}:aE E (.conv (.int k) (.c (.int k' n))) K st=K (.int k (k.wrap n)) st:=rfl
theorem IC {s:List UInt8}:aE E (.conv .id (.c (.str s))) K st=K (.str s) st:=rfl
theorem zI {k:IntKind}{n:Int}:aE E (.conv .i2s (.c (.int k n))) K st=K (.str (Utf8.encode n).data.toList) st:=rfl
theorem zX {s:List UInt8}:aE E (.conv .s2r (.c (.str s))) K (sta L h)=hZ h (.arr 1 ((bF s s.length 0).map fun r=>[.int .i32 r])) fun i h' => K (.osl 1 i 0 (bF s s.length 0).length none) (sta L h'):=rfl
theorem JM {es:List (List DV)}:aE E (.conv .b2s (.c (.sl 1 es))) K st=∃ bs:List UInt8,es=bs.map (fun b=>[.int .u8 b.toNat])∧K (.str bs) st:=rfl
theorem JB {i off n:Nat}{c:Option Nat}:aE E (.conv .b2s (.c (.osl 1 i off n c))) K (sta L h)=((n=0∧K (.str []) (sta L h))∨∃ es,h[i]?=some (.arr 1 es)∧off+n≤es.length∧∃ bs:List UInt8,(es.drop off).take n=bs.map (fun b=>[.int .u8 b.toNat])∧K (.str bs) (sta L h)):=rfl
theorem AB {n:Nat}:aE E (.conv .b2s (.c (.nils n))) K st=K (.str []) st:=rfl
theorem OC {es:List (List DV)}:aE E (.conv .r2s (.c (.sl 1 es))) K st=∃ rs:List Int,es=rs.map (fun r=>[.int .i32 r])∧K (.str (rs.flatMap fun r=>(Utf8.encode r).data.toList)) st:=rfl
theorem ID {i off n:Nat}{c:Option Nat}:aE E (.conv .r2s (.c (.osl 1 i off n c))) K (sta L h)=((n=0∧K (.str []) (sta L h))∨∃ es,h[i]?=some (.arr 1 es)∧off+n≤es.length∧∃ rs:List Int,(es.drop off).take n=rs.map (fun r=>[.int .i32 r])∧K (.str (rs.flatMap fun r=>(Utf8.encode r).data.toList)) (sta L h)):=rfl
theorem AJ {n:Nat}:aE E (.conv .r2s (.c (.nils n))) K st=K (.str []) st:=rfl
theorem aBO {f:Nat}{cs:List AX}:aE E (.mkfn f cs) K (sta L h)=evl (nrm (cs.map (AX.ev (slots L)))) fun x=>K (.fn f x) (sta L h):=rfl
theorem YE {t:Nat}{d:DV}:aE E (.mkifc t (.c d)) K (sta L h)=K (.ifc t [d]) (sta L h):=rfl
theorem YA {t:Nat}{d:DV}:aE E (.mkbnd t (.c d)) K (sta L h)=K (.bnd t [d]) (sta L h):=rfl
theorem IB {sz bytes:Nat}{z:List DV}{n m:Int}:aE E (.mkslice sz bytes z (.c (.int .i64 n)) (.c (.int .i64 m))) K (sta L h) =
  chk (0≤n) (chk (n≤m) (chk (m*bytes≤1099511627776) (chk (m≤1099511627776) (hZ h (.arr sz (List.replicate m.toNat z)) fun i h' => K (.osl sz i 0 n.toNat (some m.toNat)) (sta L h'))))):=rfl
theorem yV {lo hi:Option AX}{s:List UInt8}:aE E (.slice none (.c (.str s)) lo hi) K st=bnd st.fr lo hi s.length s.length fun i j=>evl (nrm ((s.drop i).take (j - i))) fun x=>K (.str x) st:=by simp only [wE,true_and]; rfl
theorem zJ {lo hi:Option AX}{sz:Nat}{es:List (List DV)}:aE E (.slice (some sz) (.c (.sl sz es)) lo hi) K st=bnd st.fr lo hi es.length es.length fun i j=>evl (nrm ((es.drop i).take (j - i))) fun x=>K (.sl sz x) st:=by simp only [CJ,true_and]; rfl
theorem wA {lo hi:Option AX}{sz i off n:Nat}:aE E (.slice (some sz) (.c (.osl sz i off n none)) lo hi) K st=bnd st.fr lo hi n n fun a b=>evl (nrm (off+a)) fun x=>evl (nrm (b - a)) fun y=>K (.osl sz i x y none) st:=by simp only [yS,true_and]; rfl
theorem vW {lo hi:Option AX}{sz i off n c:Nat}:aE E (.slice (some sz) (.c (.osl sz i off n (some c))) lo hi) K st=bnd st.fr lo hi n c fun a b=>evl (nrm (off+a)) fun x=>evl (nrm (b - a)) fun y=>evl (nrm (c - a)) fun z=>K (.osl sz i x y (some z)) st:=by simp only [vQ,true_and]; rfl
theorem xN {lo hi:Option AX}{k sz:Nat}:aE E (.slice (some k) (.c (.nils sz)) lo hi) K st=bnd st.fr lo hi 0 0 fun _ _=>K (.nils sz) st:=by simp only [xO,Option.isSome_some,true_and]
theorem aGa {fr:Nat→DV}{n c:Nat}{Q:Nat→Nat→Prop}:bnd fr none none n c Q=Q 0 n:=rfl
theorem aGh {fr:Nat→DV}{n c:Nat}{k:IntKind}{i:Int}{Q:Nat→Nat→Prop}:bnd fr (some (.c (.int k i))) none n c Q=chk (0≤i) (chk (i≤n) (evl (nrm i.toNat) fun a=>Q a n)):=rfl
theorem aGb {fr:Nat→DV}{n c:Nat}{k:IntKind}{j:Int}{Q:Nat→Nat→Prop}:bnd fr none (some (.c (.int k j))) n c Q=chk (0≤j) (chk (j≤c) (evl (nrm j.toNat) fun b=>Q 0 b)):=rfl
theorem aGC {fr:Nat→DV}{n c:Nat}{k k' : IntKind}{i j:Int}{Q:Nat→Nat→Prop}:bnd fr (some (.c (.int k i))) (some (.c (.int k' j))) n c Q=chk (0≤i) (chk (i≤j) (chk (j≤c) (evl (nrm i.toNat) fun a=>evl (nrm j.toNat) fun b=>Q a b))):=rfl
theorem XF {o:Nat}{cs:List DV}:aE E (.field o none (.c (.agg cs))) K st=eT cs[o]? fun d=>K d st:=rfl
theorem KW {o n:Nat}{cs:List DV}:aE E (.field o (some n) (.c (.agg cs))) K st=chk (o+n≤cs.length) (evl (nrm ((cs.drop o).take n)) fun x=>K (.agg x) st):=rfl
theorem CC {sz:Nat}{es:List (List DV)}{k:IntKind}{j:Int}:aE E (.iaddr sz (.c (.sl sz es)) (.c (.int k j))) K st=chk (0≤j) (evl (nrm j.toNat) fun i=>eT es[i]? fun e=>K (.eptr e 0) st):=by simp only [CA,true_and]; rfl
theorem xR {sz i off n:Nat}{c:Option Nat}{k:IntKind}{j:Int}:aE E (.iaddr sz (.c (.osl sz i off n c)) (.c (.int k j))) K st=chk (0≤j) (chk (j<n) (evl (nrm (off+j.toNat)) fun x=>K (.aptr sz i x 0) st)):=by simp only [zD,true_and]; rfl
theorem WP {n sz l o:Nat}{k:IntKind}{j:Int}:aE E (.baddr n sz (.c (.ptr l o)) (.c (.int k j))) K st=chk (0≤j) (chk (j<n) (evl (nrm (o+j.toNat*sz)) fun x=>K (.ptr l x) st)):=rfl
theorem aBW {s:List UInt8}{k:IntKind}{j:Int}:aE E (.sidx (.c (.str s)) (.c (.int k j))) K st=chk (0≤j) (chk (j<s.length) (evl (nrm j.toNat) fun i=>K (.int .u8 (bt s i)) st)):=rfl
theorem RS {s:List UInt8}:aE E (.range (.c (.str s))) K (sta L h)=hZ h (.iter s 0) fun i h' => K (.ptr i 0) (sta L h'):=rfl
theorem aCO {i:Nat}:aE E (.next (.c (.ptr i 0))) K (sta L h)=yA h[i]? fun s pos=>
    (pos<s.length→evl (nrm (h.set i (.iter s (pos+(Utf8.decode ⟨s.toArray⟩ pos).2)))) fun h' => K (.tup [.bool true,.int .i64 pos,.int .i32 (Utf8.decode ⟨s.toArray⟩ pos).1]) (sta L h')) ∧
    (¬ pos<s.length→K (.tup [.bool false]) (sta L h)):=rfl
theorem aDi {x:List DV}{i:Nat}:aE E (.extr (.c (.tup x)) i) K st=eT x[i]? fun d=>K d st:=rfl
theorem aAt {b:Bool}{f:Nat}{as:List AX}:aE E (.call b f as) K (sta L h)=evl (nrm (as.map (AX.ev (slots L)))) fun ds=>acall E b f ds K (sta L h):=rfl
theorem TG {b:Bool}{f:Nat}{cs:List DV}{as:List AX}:aE E (.callv b (.c (.fn f cs)) as) K (sta L h)=evl (nrm (as.map (AX.ev (slots L))++cs)) fun ds=>acall E b f ds K (sta L h):=rfl
theorem ST {b:Bool}{f:Nat}{cs:List DV}{as:List AX}:aE E (.callv b (.c (.bnd f cs)) as) K (sta L h)=evl (nrm (cs++as.map (AX.ev (slots L)))) fun ds=>acall E b f ds K (sta L h):=rfl
theorem aEu {b:Bool}{m:String}{t:Nat}{l:List DV}{as:List AX}:aE E (.inv b m (.c (.ifc t l)) as) K (sta L h)=eT (zA E.P t m) fun f=>evl (nrm (l++as.map (AX.ev (slots L)))) fun ds=>acall E b f ds K (sta L h):=rfl
theorem GP {s:List UInt8}:aE E (.len true (.c (.str s))) K st=evl (nrm s.length) fun n=>K (.int .i64 n) st:=by simp only [HS,true_and]; rfl
theorem LF {sz:Nat}{es:List (List DV)}:aE E (.len false (.c (.sl sz es))) K st=evl (nrm es.length) fun n=>K (.int .i64 n) st:=by simp only [NK,true_and]; rfl
theorem JA {sz i off n:Nat}{c:Option Nat}:aE E (.len false (.c (.osl sz i off n c))) K st=K (.int .i64 n) st:=by simp only [HR,true_and]
theorem GA {b:Bool}{sz:Nat}:aE E (.len false (.c (.emp b sz))) K st=K (.int .i64 0) st:=by simp only [IJ,true_and]
theorem HY {sz:Nat}:aE E (.len false (.c (.nils sz))) K st=K (.int .i64 0) st:=by simp only [GF,true_and]
theorem zzIO {sz i off n c:Nat}:aE E (.cap (.c (.osl sz i off n (some c)))) K st=K (.int .i64 c) st:=rfl
theorem JC {sz:Nat}:aE E (.cap (.c (.nils sz))) K st=K (.int .i64 0) st:=rfl
theorem aGB {as:List AX}:aE E (.mn as) K (sta L h)=evl (nrm (as.map (AX.ev (slots L)))) fun ds=>mm (fun x y=>if y<x then y else x) ds fun d=>K d (sta L h):=rfl
theorem aGd {as:List AX}:aE E (.mx as) K (sta L h)=evl (nrm (as.map (AX.ev (slots L)))) fun ds=>mm (fun x y=>if y>x then y else x) ds fun d=>K d (sta L h):=rfl
theorem VW {z:List DV}{ps:List (Nat×Nat×AX)}:aE E (.build z ps) K (sta L h)=evl (nrm (ps.map fun p=>(p.1,p.2.1,p.2.2.ev (slots L)))) fun qs=>nU z qs fun cs=>K (.agg cs) (sta L h):=rfl
theorem XD {cs:List DV}{Q:List DV→Prop}:nU cs [] Q=Q cs:=rfl
theorem MF {cs:List DV}{o n:Nat}{d:DV}{l:List (Nat×Nat×DV)}{Q:List DV→Prop}:nU cs ((o,n,d)::l) Q=evl (nrm d.cells) fun ds=>chk (ds.all DV.one=true) (chk (ds.length=n) (chk (o+n≤cs.length)
  (evl (nrm (cs.take o++ds++cs.drop (o+n))) fun cs' => nU cs' l Q))):=rfl
def cM (h:List AObj)(ds:List DV):List Nat:=(ds.flatMap DV.owns).filter fun l=>cP h[l]?
def bU (F:List Nat)(h:List AObj)(d:DV):DV:=d.low (frz F) h
def dM (F:List Nat)(h:List AObj)(ds:List DV):List DV:=ds.map (bU F h)
def rD (F:List Nat)(h:List AObj):List (Nat×DV)→List (Nat×DV)
 | []=>[]
 | (t,d)::L=>(t,bU F h d)::rD F h L
def dR (F:List Nat)(h:List AObj)(n:Nat):List AObj→List AObj
 | []=>[]
 | o::l=>lL F h n o::dR F h (n+1) l
theorem qP (F:List Nat)(h:List AObj):∀ (L:List (Nat×DV))(s:Nat),(slots L s).low (frz F) h=slots (rD F h L) s
 | [],_=>rfl
 | (t,d)::L,s=>by
  simp only [slots,rD]
  split
  ·rfl
  ·exact qP F h L s
theorem FL (F:List Nat)(h:List AObj):∀ (l:List AObj)(n:Nat),(l.zipIdx n).map (fun (o,l)=>lL F h l o)=dR F h n l
 | [],_=>rfl
 | o::l,n=>by rw [List.zipIdx_cons,List.map_cons,FL F h l (n+1)]; rfl
theorem fI {F:List Nat}{L:List (Nat×DV)}{h:List AObj}:(sta L h).freeze F=sta (rD F h L) (dR F h 0 h):=by
 unfold St.freeze sta
 congr 1
 ·funext s; exact qP F h L s
 ·exact FL F h h 0
section
variable {h:List AObj} {F:List Nat}
theorem TI:cM h []=[]:=rfl
theorem SS {sz i off n:Nat}{c:Option Nat}{ds:List DV}:cM h (.osl sz i off n c::ds)=sel (cP h[i]?) (i::cM h ds) (cM h ds):=by
 cases hq:cP h[i]? <;> simp [cM,DV.owns,hq,sel]
theorem TX {k:IntKind}{n:Int}{ds:List DV}:cM h (.int k n::ds)=cM h ds:=rfl
theorem QH {b:Bool}{ds:List DV}:cM h (.bool b::ds)=cM h ds:=rfl
theorem WD {s:List UInt8}{ds:List DV}:cM h (.str s::ds)=cM h ds:=rfl
theorem ZN {sz:Nat}{es:List (List DV)}{ds:List DV}:cM h (.sl sz es::ds)=cM h ds:=rfl
theorem XG {b:Bool}{n:Nat}{ds:List DV}:cM h (.emp b n::ds)=cM h ds:=rfl
theorem aCm {i:Nat}{ds:List DV}:cM h (.mp i::ds)=cM h ds:=rfl
theorem PI {n:Nat}{ds:List DV}:cM h (.nils n::ds)=cM h ds:=rfl
theorem LI {ds:List DV}:cM h (.nilp::ds)=cM h ds:=rfl
theorem jD:∀ (l:List DV),DV.owns.ownsAll l=l.flatMap DV.owns
 | []=>rfl
 | d::l=>by simp [DV.owns.ownsAll,jD l]
theorem RH {l ds:List DV}:cM h (.agg l::ds)=cM h (l++ds):=by
 simp only [cM,List.flatMap_cons,List.flatMap_append,DV.owns,jD]
theorem aDf {f:Nat}{l ds:List DV}:cM h (.fn f l::ds)=cM h (l++ds):=by
 simp only [cM,List.flatMap_cons,List.flatMap_append,DV.owns,jD]
theorem TF {f:Nat}{l ds:List DV}:cM h (.ifc f l::ds)=cM h (l++ds):=by
 simp only [cM,List.flatMap_cons,List.flatMap_append,DV.owns,jD]
theorem RY {f:Nat}{l ds:List DV}:cM h (.bnd f l::ds)=cM h (l++ds):=by
 simp only [cM,List.flatMap_cons,List.flatMap_append,DV.owns,jD]
theorem CQ {sz:Nat}{es:List (List DV)}:cP (some (.arr sz es))=true:=rfl
theorem IP {cs:List DV}:cP (some (.box cs))=false:=rfl
theorem IX {e:Nat}{bs:List UInt8}:cP (some (.buf e bs))=false:=rfl
theorem BG {e:Nat}{bs:List UInt8}:cP (some (.gbuf e bs))=false:=rfl
theorem BB:cP (some .dead)=false:=rfl
theorem AG {es:List (List UInt8×PV)}:cP (some (.mapo es))=false:=rfl
theorem zN {s:List UInt8}{p:Nat}:cP (some (.iter s p))=false:=rfl
def iU (l:Nat):List Nat→Bool
 | []=>false
 | a::F=>sel (l == a) true (iU l F)
theorem PT {l:Nat}:iU l []=false:=rfl
theorem sM {l a:Nat}{F:List Nat}:iU l (a::F)=sel (l == a) true (iU l F):=rfl
theorem dD (l:Nat):∀ F:List Nat,F.contains l=iU l F
 | []=>rfl
 | a::F=>by
  rw [sM,← dD l F,List.contains_cons]
  cases (l == a) <;> rfl
def shr (sz off n:Nat)(o:Option AObj):DV:=match o with
 | some (.arr sz' es)=>if sz' = sz∧off+n≤es.length then .sl sz ((es.drop off).take n) else .undef
 | _=>.undef
theorem WR {sz off n:Nat}{es:List (List DV)}:shr sz off n (some (.arr sz es))=sel (decide (off+n≤es.length)) (.sl sz ((es.drop off).take n)) .undef:=by
 simp only [shr,true_and]
 by_cases e:off+n≤es.length <;> simp [e,sel]
theorem aBk {sz i off n:Nat}{c:Option Nat}:bU F h (.osl sz i off n c)=sel (iU i F) (shr sz off n h[i]?) (.osl sz i off n c):=by
 unfold bU
 rw [← dD]
 simp only [DV.low,frz]
 cases hq:F.contains i with
 | false=>simp [sel]
 | true=>simp only [if_true,fK]; rfl
theorem ZV {k:IntKind}{n:Int}:bU F h (.int k n)=.int k n:=rfl
theorem UK {b:Bool}:bU F h (.bool b)=.bool b:=rfl
theorem aAH {s:List UInt8}:bU F h (.str s)=.str s:=rfl
theorem XK:bU F h .nilp=.nilp:=rfl
theorem PP:bU F h .nilfn=.nilfn:=rfl
theorem aCt {b:Bool}{n:Nat}:bU F h (.emp b n)=.emp b n:=rfl
theorem UC:bU F h .nili=.nili:=rfl
theorem OR:bU F h .undef=.undef:=rfl
theorem XV {n:Nat}:bU F h (.nils n)=.nils n:=rfl
theorem aFr {sz:Nat}{es:List (List DV)}:bU F h (.sl sz es)=.sl sz es:=rfl
theorem XE {cs:List DV}{o:Nat}:bU F h (.eptr cs o)=.eptr cs o:=rfl
def aFh (x:Option AObj)(o:Nat):DV:=match x with
 | some (.box cs)=>if cs.all DV.closed=true then .eptr cs o else .undef
 | _=>.undef
theorem aDl {i o:Nat}:bU F h (.ptr i o)=sel (iU i F) (aFh h[i]? o) (.ptr i o):=by
 unfold bU
 rw [← dD]
 simp only [DV.low,frz]
 cases hq:F.contains i
 ·simp [sel]
 ·simp only [sel,if_true]; rfl
theorem aEv {i:Nat}:bU F h (.mp i)=sel (iU i F) .undef (.mp i):=by
 unfold bU
 rw [← dD]
 simp only [DV.low,frz]
 cases hq:F.contains i <;> simp [sel]
theorem TZ {i t m:Nat}:bU F h (.self i t m)=sel (iU i F) .undef (.self i t m):=by
 unfold bU
 rw [← dD]
 simp only [DV.low,frz]
 cases hq:F.contains i <;> simp [sel]
theorem ZO {i t m:Nat}:bU F h (.hdr i t m)=sel (iU i F) .undef (.hdr i t m):=by
 unfold bU
 rw [← dD]
 simp only [DV.low,frz]
 cases hq:F.contains i <;> simp [sel]
theorem QZ {sz i j q:Nat}:bU F h (.aptr sz i j q)=sel (iU i F) .undef (.aptr sz i j q):=by
 unfold bU
 rw [← dD]
 simp only [DV.low,frz]
 cases hq:F.contains i <;> simp [sel]
theorem jS (ρ:Nat→Option Nat):∀ (l:List DV),DV.low.lowAll ρ h l=l.map (DV.low ρ h)
 | []=>rfl
 | d::l=>by simp [DV.low.lowAll,jS ρ l]
theorem aCT {l:List DV}:bU F h (.agg l)=.agg (dM F h l):=by simp only [bU,DV.low,jS]; rfl
theorem ZU {l:List DV}:bU F h (.tup l)=.tup (dM F h l):=by simp only [bU,DV.low,jS]; rfl
theorem aBs {f:Nat}{l:List DV}:bU F h (.ifc f l)=.ifc f (dM F h l):=by simp only [bU,DV.low,jS]; rfl
theorem aAy {f:Nat}{l:List DV}:bU F h (.bnd f l)=.bnd f (dM F h l):=by simp only [bU,DV.low,jS]; rfl
theorem aEU {f:Nat}{l:List DV}:bU F h (.fn f l)=.fn f (dM F h l):=by simp only [bU,DV.low,jS]; rfl
theorem RN:dM F h []=[]:=rfl
theorem LP {d:DV}{l:List DV}:dM F h (d::l)=bU F h d::dM F h l:=rfl
theorem RK:rD F h []=[]:=rfl
theorem LH {t:Nat}{d:DV}{L:List (Nat×DV)}:rD F h ((t,d)::L)=(t,bU F h d)::rD F h L:=rfl
theorem RT {n:Nat}:dR F h n []=[]:=rfl
theorem VG {n sz:Nat}{es:List (List DV)}{l:List AObj}:dR F h n (.arr sz es::l)=sel (iU n F) .dead (.arr sz es)::dR F h (n+1) l:=by
 rw [dR,lL,← dD]
 cases F.contains n <;> rfl
theorem TJ {n:Nat}{cs:List DV}{l:List AObj}:dR F h n (.box cs::l)=sel (iU n F) .dead (.box (dM F h cs))::dR F h (n+1) l:=by
 rw [dR,lL,← dD]
 cases F.contains n <;> rfl
theorem NZ {n:Nat}{s:List UInt8}{p:Nat}{l:List AObj}:dR F h n (.iter s p::l)=sel (iU n F) .dead (.iter s p)::dR F h (n+1) l:=by
 rw [dR,lL,← dD]
 cases F.contains n <;> rfl
theorem LB {n:Nat}{es:List (List UInt8×PV)}{l:List AObj}:dR F h n (.mapo es::l)=sel (iU n F) .dead (.mapo es)::dR F h (n+1) l:=by
 rw [dR,lL,← dD]
 cases F.contains n <;> rfl
theorem UG {n e:Nat}{bs:List UInt8}{l:List AObj}:dR F h n (.buf e bs::l)=sel (iU n F) .dead (.buf e bs)::dR F h (n+1) l:=by
 rw [dR,lL,← dD]
 cases F.contains n <;> rfl
theorem OM {n e:Nat}{bs:List UInt8}{l:List AObj}:dR F h n (.gbuf e bs::l)=sel (iU n F) .dead (.gbuf e bs)::dR F h (n+1) l:=by
 rw [dR,lL,← dD]
 cases F.contains n <;> rfl
theorem OI {n:Nat}{l:List AObj}:dR F h n (.dead::l)=.dead::dR F h (n+1) l:=by
 rw [dR,lL]
 cases F.contains n <;> rfl
end
def MZ (ds:List DV)(L:List (Nat×DV))(h:List AObj)(K:List DV→List (Nat×DV)→List AObj→Prop):Prop:=
 evl (nrm (cM h ds)) fun F=>evl (nrm (dM F h ds)) fun ds' => evl (nrm (rD F h L)) fun L' => evl (nrm (dR F h 0 h)) fun h' => K ds' L' h'
theorem RJ {ds:List DV}{L:List (Nat×DV)}{h:List AObj}{K:List DV→List (Nat×DV)→List AObj→Prop}:MZ ds L h K=evl (nrm (cM h ds)) fun F=>evl (nrm (dM F h ds)) fun ds' => evl (nrm (rD F h L)) fun L' => evl (nrm (dR F h 0 h)) fun h' => K ds' L' h' := rfl
theorem NW {b:Bool}{sz:Nat}{ps:List AX}:aE E (.bslice b sz ps) K (sta L h)=evl (nrm (ps.map (AX.ev (slots L)))) fun ds=>sel (nrm (ds.all DV.closed)) (chk (ds.all (fun d=>d.cells.all DV.one)=true) (chk (ds.all (fun d=>d.cells.length == sz)=true)
  (evl (nrm ds.length) fun n=>hZ h (.arr sz (ds.map DV.cells)) fun i h' => K (.osl sz i 0 n none) (sta L h')))) (sel b (MZ ds L h fun ds' L' h' => chk (ds'.all DV.closed=true) (chk (ds'.all (fun d=>d.cells.all DV.one)=true) (chk (ds'.all (fun d=>d.cells.length == sz)=true)
  (evl (nrm ds'.length) fun n=>hZ h' (.arr sz (ds'.map DV.cells)) fun i h'' => K (.osl sz i 0 n none) (sta L' h''))))) (aop E (.bslice b sz (ds.map .c)) K (sta L h))):=by
 have he:aE E (.bslice b sz ps) K (sta L h)=aE E (.bslice b sz ((ps.map (AX.ev (slots L))).map .c)) K (sta L h):=by
  show aop E _ K (sta L h)=aop E _ K (sta L h)
  rw [DJ]
  simp only [AOp.sub,aCS,List.map_map]
  congr 1
 rw [he]
 show _=sel _ _ _
 generalize ps.map (AX.ev (slots L))=ds
 cases hc:ds.all DV.closed with
 | false=>
  cases b with
  | false=>simp only [nrm,hc]; rfl
  | true=>
   simp only [nrm,hc,gM,fK]
   rw [rV]
   have e1:(ds.map AX.c).map (·.ev (sta L h).fr)=ds:=by simp [AX.ev,Function.comp_def]
   rw [e1]
   have hcn:¬ (ds.all DV.closed=true):=by simp [hc]
   simp only [fP,if_neg hcn,MZ,evl,nrm,chk,hZ,List.length_map]
   have hF' : (List.filter (fun l=>cP (sta L h).h[l]?) (ds.flatMap DV.owns))=cM h ds:=rfl
   rw [hF']
   generalize cM h ds=F
   rw [fI]
   have hd:List.map (DV.low (frz F) (sta L h).h) ds=dM F h ds:=rfl
   rw [hd]
   have hlen:ds.length=(dM F h ds).length:=by simp [dM]
   rw [hlen]
   generalize dM F h ds=ds'
   have key2:(∀ d∈ds',d.closed=true∧d.cells.all DV.one=true∧d.cells.length=sz)↔ds'.all DV.closed=true∧ds'.all (fun d=>d.cells.all DV.one)=true∧ds'.all (fun d=>d.cells.length == sz)=true:=by
    simp only [List.all_eq_true,beq_iff_eq]
    exact ⟨fun k=>⟨fun d hd=>(k d hd).1,fun d hd=>(k d hd).2.1,fun d hd=>(k d hd).2.2⟩,fun k d hd=>⟨k.1 d hd,k.2.1 d hd,k.2.2 d hd⟩⟩
   rw [key2,and_assoc,and_assoc]
   rfl
 | true=>
  simp only [nrm,hc,fK]
  have key:(∀ d∈ds,d.closed=true∧d.cells.all DV.one=true∧d.cells.length=sz)↔ds.all (fun d=>d.cells.all DV.one)=true∧ds.all (fun d=>d.cells.length == sz)=true:=by
   simp only [List.all_eq_true,beq_iff_eq] at hc ⊢
   exact ⟨fun k=>⟨fun d hd=>(k d hd).2.1,fun d hd=>(k d hd).2.2⟩,fun k d hd=>⟨hc d hd,k.1 d hd,k.2 d hd⟩⟩
  cases b with
  | false=>
   rw [BH]
   simp only [List.forall_mem_map,AX.ev,chk,evl,hZ,List.map_map,Function.comp_def,List.length_map]
   rw [key,and_assoc]
   rfl
  | true=>
   rw [rV]
   have e1:(ds.map AX.c).map (·.ev (sta L h).fr)=ds:=by simp [AX.ev,Function.comp_def]
   rw [e1]
   simp only [fP,hc,if_true,chk,evl,hZ,List.length_map]
   rw [key,and_assoc]
   rfl
theorem aFL {sz:Nat}{es:List (List DV)}{Q:List (List DV)→Prop}:elems h (.sl sz es) sz Q=Q es:=by simp [elems]
theorem aBr {b:Bool}{n sz:Nat}{Q:List (List DV)→Prop}:elems h (.emp b n) sz Q=Q []:=rfl
theorem TN {n sz:Nat}{Q:List (List DV)→Prop}:elems h (.nils n) sz Q=Q []:=rfl
theorem aBL {sz i off n:Nat}{c:Option Nat}{Q:List (List DV)→Prop}:elems h (.osl sz i off n c) sz Q=kL sz h[i]? fun es=>chk (off+n≤es.length) (evl (nrm ((es.drop off).take n)) fun x=>Q x):=by
 simp only [elems,true_and]; rfl
theorem aAa {s:List UInt8}{Q:List (List DV)→Prop}:elems h (.str s) 1 Q=Q (s.map fun b=>[.int .u8 b.toNat]):=by simp [elems]
theorem aDR {sz:Nat}{z:List DV}{x:DV}:aE E (.clr sz z (.c x)) K (sta L h)=vO sz z x K (sta L h):=rfl
theorem aDL {sz:Nat}{x y:DV}:aE E (.cpy sz (.c x) (.c y)) K (sta L h)=lH sz x y K (sta L h):=rfl
theorem aAq {b:Bool}{z:PV}{i:Nat}{s:List UInt8}:aE E (.look b z (.c (.mp i)) (.c (.str s))) K (sta L h)=wK h[i]? fun es=>K (sR b z es s) (sta L h):=rfl
theorem aBZ {z:PV}{i:Nat}{s:List UInt8}:aE E (.ment z (.c (.mp i)) (.c (.str s))) K (sta L h)=wK h[i]? fun es=>evl (nrm (h.set i (.mapo (BQ es s z)))) fun h' => K (.tup [(hB s z es).dv,.int .i64 (dX s es)]) (sta L h'):=rfl
theorem aBu {i:Nat}{k:IntKind}{n:Int}{d:DV}:aE E (.mset (.c (.mp i)) (.c (.int k n)) (.c d)) K (sta L h)=wK h[i]? fun es=>chk (0≤n) (chk (n<es.length) (eT d.pv fun p=>evl (nrm (h.set i (.mapo (mL es n.toNat p)))) fun h' => K .undef (sta L h'))):=rfl
theorem aBt {i:Nat}{s:List UInt8}{d:DV}:aE E (.mput (.c (.mp i)) (.c (.str s)) (.c d)) K (sta L h)=wK h[i]? fun es=>eT d.pv fun p=>evl (nrm (h.set i (.mapo (CR es s p)))) fun h' => K .undef (sta L h'):=rfl
theorem JD {sz bytes:Nat}{x y:DV}:aE E (.appendf sz bytes (.c x) (.c y)) K (sta L h)=iR sz bytes x y K (sta L h):=rfl
theorem MA {sz bytes:Nat}{x y:DV}:aE E (.append sz bytes (.c x) (.c y)) K (sta L h)=dI sz bytes x y K (sta L h):=rfl
theorem HB {sz bytes k:Nat}{z:List DV}{m:Int}:aE E (.appendz sz bytes z (.c (.nils k)) (.c (.int .i64 m))) K (sta L h)=chk (0≤m) (chk (m*bytes≤1099511627776) (chk (m≤1099511627776) (evl (nrm m.toNat) fun n=>hZ h (.arr sz (List.replicate n z)) fun i h' => K (.osl sz i 0 n none) (sta L h')))):=rfl
def EG (p:Nat→Bool):List (Nat×DV)→List (Nat×DV)
 | []=>[]
 | (t,d)::L=>(t,d.kill p)::EG p L
theorem qM (p:Nat→Bool):∀ (L:List (Nat×DV))(s:Nat),(slots L s).kill p=slots (EG p L) s
 | [],_=>rfl
 | (t,d)::L,s=>by
  simp only [slots,EG]
  split
  ·rfl
  ·exact qM p L s
end
def kil (i:Nat)(d:DV):DV:=d.kill (· == i)
section
variable {i:Nat}
theorem XO {k:IntKind}{n:Int}:kil i (.int k n)=.int k n:=rfl
theorem NE {b:Bool}:kil i (.bool b)=.bool b:=rfl
theorem TC {s:List UInt8}:kil i (.str s)=.str s:=rfl
theorem QM:kil i .nilp=.nilp:=rfl
theorem GI:kil i .nilfn=.nilfn:=rfl
theorem LU:kil i .nili=.nili:=rfl
theorem HN:kil i .undef=.undef:=rfl
theorem UU {b:Bool}{n:Nat}:kil i (.emp b n)=.emp b n:=rfl
theorem LM {n:Nat}:kil i (.nils n)=.nils n:=rfl
theorem ZY {sz:Nat}{es:List (List DV)}:kil i (.sl sz es)=.sl sz es:=rfl
theorem OT {cs:List DV}{o:Nat}:kil i (.eptr cs o)=.eptr cs o:=rfl
theorem mB {b:Bool}{d:DV}:(if b=true then DV.undef else d)=sel b .undef d:=by cases b <;> rfl
theorem RW {l o:Nat}:kil i (.ptr l o)=sel (l == i) .undef (.ptr l o):=by simp only [kil,DV.kill,mB]
theorem aBi {l:Nat}:kil i (.mp l)=sel (l == i) .undef (.mp l):=by simp only [kil,DV.kill,mB]
theorem PC {l t m:Nat}:kil i (.self l t m)=sel (l == i) .undef (.self l t m):=by simp only [kil,DV.kill,mB]
theorem WQ {l t m:Nat}:kil i (.hdr l t m)=sel (l == i) .undef (.hdr l t m):=by simp only [kil,DV.kill,mB]
theorem LD {sz l j q:Nat}:kil i (.aptr sz l j q)=sel (l == i) .undef (.aptr sz l j q):=by simp only [kil,DV.kill,mB]
theorem VB {sz l off n:Nat}{c:Option Nat}:kil i (.osl sz l off n c)=sel (l == i) .undef (.osl sz l off n c):=by simp only [kil,DV.kill,mB]
def vG (i:Nat)(l:List DV):List DV:=l.map (kil i)
theorem KA:vG i []=[]:=rfl
theorem HE {d:DV}{l:List DV}:vG i (d::l)=kil i d::vG i l:=rfl
theorem WB {l:List DV}:kil i (.agg l)=.agg (vG i l):=by simp only [kil,DV.kill,bL]; rfl
theorem WG {l:List DV}:kil i (.tup l)=.tup (vG i l):=by simp only [kil,DV.kill,bL]; rfl
theorem VM {f:Nat}{l:List DV}:kil i (.ifc f l)=.ifc f (vG i l):=by simp only [kil,DV.kill,bL]; rfl
theorem RB {f:Nat}{l:List DV}:kil i (.bnd f l)=.bnd f (vG i l):=by simp only [kil,DV.kill,bL]; rfl
theorem aAs {f:Nat}{l:List DV}:kil i (.fn f l)=.fn f (vG i l):=by simp only [kil,DV.kill,bL]; rfl
def iZ (i:Nat)(L:List (Nat×DV)):List (Nat×DV):=EG (· == i) L
theorem LS:iZ i []=[]:=rfl
theorem GS {t:Nat}{d:DV}{L:List (Nat×DV)}:iZ i ((t,d)::L)=(t,kil i d)::iZ i L:=rfl
def eA (i:Nat)(h:List AObj):List AObj:=h.map (nF (· == i))
theorem LJ:eA i []=[]:=rfl
theorem LX {cs:List DV}{h:List AObj}:eA i (.box cs::h)=.box (vG i cs)::eA i h:=rfl
theorem QJ {sz:Nat}{es:List (List DV)}{h:List AObj}:eA i (.arr sz es::h)=.arr sz es::eA i h:=rfl
theorem HP {s:List UInt8}{p:Nat}{h:List AObj}:eA i (.iter s p::h)=.iter s p::eA i h:=rfl
theorem FP {es:List (List UInt8×PV)}{h:List AObj}:eA i (.mapo es::h)=.mapo es::eA i h:=rfl
theorem MW {e:Nat}{bs:List UInt8}{h:List AObj}:eA i (.buf e bs::h)=.buf e bs::eA i h:=rfl
theorem FO {e:Nat}{bs:List UInt8}{h:List AObj}:eA i (.gbuf e bs::h)=.gbuf e bs::eA i h:=rfl
theorem IQ {h:List AObj}:eA i (.dead::h)=.dead::eA i h:=rfl
theorem iV {L:List (Nat×DV)}{h:List AObj}:(sta L h).kill (· == i)=sta (iZ i L) (eA i h):=by
 unfold St.kill sta iZ eA
 congr 1
 funext s
 exact qM _ L s
end
section
variable {E:Env} {L:List (Nat×DV)} {h:List AObj} {K:DV→St→Prop}
theorem WT {sz bytes n:Nat}{y:DV}:dI sz bytes (.nils n) y K (sta L h)=elems h y sz fun ys=>chk (ys.length*bytes≤1099511627776) (chk (ys.length≤1099511627776)
  (evl (nrm ys.length) fun n=>hZ h (.arr sz ys) fun i h' => K (.osl sz i 0 n none) (sta L h'))):=rfl
theorem ZF {sz bytes i n:Nat}{y:DV}:dI sz bytes (.osl sz i 0 n none) y K (sta L h)=elems h y sz fun ys=>kL sz h[i]? fun es=>chk (n≤es.length) (chk ((n+ys.length)*bytes≤1099511627776) (chk (n+ys.length≤1099511627776)
  (evl (nrm (n+ys.length)) fun n' => evl (nrm (es.take n++ys)) fun es' => evl (nrm (iZ i L)) fun L' => evl (nrm ((eA i h).set i (.arr sz es'))) fun h' => K (.osl sz i 0 n' none) (sta L' h')))):=by
 unfold dI
 simp only [true_and,iV,pM]
 rfl
theorem aAv {sz bytes i n:Nat}{y:DV}:iR sz bytes (.osl sz i 0 n none) y K (sta L h)=elems h y sz fun ys=>kL sz h[i]? fun es=>chk (n=es.length) (chk ((n+ys.length)*bytes≤1099511627776) (chk (n+ys.length≤1099511627776)
  (evl (nrm (es++ys)) fun es' => evl (nrm (rD [i] h L)) fun L' => evl (nrm (dR [i] h 0 h)) fun h' => K (.sl sz es') (sta L' h')))):=by
 unfold iR
 simp only [true_and,fI]
 rfl
theorem aBw {sz bytes i off n c:Nat}{y:DV}:dI sz bytes (.osl sz i off n (some c)) y K (sta L h)=elems h y sz fun ys=>kL sz h[i]? fun es=>chk (off+c≤es.length) (chk (n+ys.length≤c)
  (evl (nrm (n+ys.length)) fun n' => evl (nrm (es.take (off+n)++ys++es.drop (off+n+ys.length))) fun es' => evl (nrm (h.set i (.arr sz es'))) fun h' => K (.osl sz i off n' (some c)) (sta L h'))):=by
 unfold dI
 simp only [true_and,pM]
 rfl
theorem aAK {sz i off n:Nat}{c:Option Nat}{y:DV}:lH sz (.osl sz i off n c) y K (sta L h)=elems h y sz fun ys=>kL sz h[i]? fun es=>chk (off+n≤es.length) (chk (ys.length≤n)
  (evl (nrm (es.take off++ys++es.drop (off+ys.length))) fun es' => evl (nrm (h.set i (.arr sz es'))) fun h' => K (.int .i64 ys.length) (sta L h'))):=by
 unfold lH
 simp only [true_and,pM]
 rfl
end
def dY (m0:Nat)(post:List AObj→DV→Prop)(o:Option (List DV))(h:List AObj):Prop:=∃ ds,o=some ds∧∃ ρ:List Nat,ρ.Nodup∧m0≤ρ.length∧(∀ i,i<m0→ρ[i]?=some i)∧(∀ l∈ρ,l<h.length)∧(rvd ds).inL ρ.contains=true ∧
   (∀ l∈ρ,inO ρ.contains (h.getD l .dead)=true) ∧
   MD post (ρ.map fun l=>aR (ρ.idxOf ·) (h.getD l .dead)) ((rvd ds).ren (ρ.idxOf ·))
@[congr] theorem aCa {m0:Nat} {post:List AObj→DV→Prop} {o o' : Option (List DV)} {h:List AObj} (e:o=o'):dY m0 post o h=dY m0 post o' h:=by rw [e]
theorem aFR {m0:Nat}{res:List RV}{post:List AObj→DV→Prop}{L:List (Nat×DV)}{h:List AObj}:fin m0 res post .ret (sta L h)=dY m0 post (rvl (sta L h) res) h:=rfl
theorem aBU {m0:Nat}{res:List RV}{post:List AObj→DV→Prop}{L:List (Nat×DV)}{h:List AObj}:fin m0 res post .normal (sta L h)=dY m0 post (rvl (sta L h) res) h:=rfl
def cel (d:DV)(a:Option Nat)(h:List AObj):Option DV:=match d with
 | .ptr l o=>match h[l]?,a with
  | some (.box cs),none=>cs[o]?
  | some (.box cs),some n=>if o+n≤cs.length then some (.agg ((cs.drop o).take n)) else none
  | _,_=>none
 | _=>none
def WO (x:Option AObj)(a:Option Nat)(o:Nat):Option DV:=match x,a with
  | some (.box cs),none=>cs[o]?
  | some (.box cs),some n=>if o+n≤cs.length then some (.agg ((cs.drop o).take n)) else none
  | _,_=>none
theorem aFt {l o:Nat}{a:Option Nat}{h:List AObj}:cel (.ptr l o) a h=WO h[l]? a o:=rfl
theorem aBe {cs:List DV}{o:Nat}:WO (some (.box cs)) none o=cs[o]?:=rfl
theorem aCR {cs:List DV}{o n:Nat}:WO (some (.box cs)) (some n) o=sel (decide (o+n≤cs.length)) (some (.agg ((cs.drop o).take n))) none:=by
 unfold WO; by_cases e:o+n≤cs.length <;> simp [e,sel]
theorem XB {st:St}:rvl st []=some []:=rfl
theorem aDu {s:Nat}{l:List RV}{L:List (Nat×DV)}{h:List AObj}:rvl (sta L h) (.t s::l)=(rvl (sta L h) l).map (slots L s :: ·):=rfl
theorem aFe {s:Nat}{a:Option Nat}{l:List RV}{L:List (Nat×DV)}{h:List AObj}:rvl (sta L h) (.cell s a::l)=(cel (slots L s) a h).bind fun d=>(rvl (sta L h) l).map (d :: ·):=rfl
theorem aC {post:List AObj→DV→Prop}{ds:List DV}{h:List AObj}(hs:(rvd ds).closed=true)(hp:post [] (rvd ds)):dY 0 post (some ds) h:=
 ⟨ds,rfl,[],List.nodup_nil,Nat.le_refl _,fun _ h=>by omega,fun _ h=>by simp at h,bC hs,fun _ h=>by simp at h,by rw [bD hs]; exact hp⟩
section
variable {E:Env} {m0:Nat} {post:AExit→St→Prop} {ks:List Fr} {L:List (Nat×DV)} {h:List AObj}
theorem VE {e:AExit}:goK E m0 post [] e L h=post e (sta L h):=rfl
def rnd (m0:Nat){γ:Type}(SL:γ→List (Nat×DV))(SH:γ→List AObj)(P:γ→Prop)(μ:γ→Nat)(n:Nat)(st' : St):Prop:=∃ g',Wk m0 st' (sta (SL g') (SH g'))∧P g' ∧ μ g' < n
def UI (L:List (Nat×DV)):List (Nat×DV)→Prop
 | []=>True
 | (t,d)::M=>slots L t=d∧UI L M
def XY (m:Nat)(L:List (Nat×DV)):List (Nat×DV)→Prop
 | []=>True
 | (t,d)::M=>slots L t=d∧d.under m=true∧XY m L M
theorem ZA:∀ {M:List (Nat×DV)},UI L M→agr (sta L h) (fun _=>True) M
 | [],_=>trivial
 | (_,_)::_,hh=>⟨⟨hh.1,trivial⟩,ZA hh.2⟩
theorem YI {m:Nat}:∀ {M:List (Nat×DV)},XY m L M→agr (sta L h) (fun d=>d.under m=true) M
 | [],_=>trivial
 | (_,_)::_,hh=>⟨⟨hh.1,hh.2.1⟩,YI hh.2.2⟩
theorem wks {M:List (Nat×DV)}{h' : List AObj}(hh:h=h')(hm:m0≤h.length)(ha:UI L M):Wk m0 (sta L h) (sta M h'):=TE (st:=sta L h) hh hm (ZA ha)
theorem wkd (m:Nat){M:List (Nat×DV)}{h' : List AObj}(hh:h.take m=h')(hm:m0≤m)(ha:XY m L M)(hb:(h'.all fun o=>inO (fun l=>decide (l<m)) o)=true):Wk m0 (sta L h) (sta M h'):=WS m (st:=sta L h) hh hm (YI ha) hb
theorem aM {b:ACode}{γ:Type}(SL:γ→List (Nat×DV))(SH:γ→List AObj)(P:γ→Prop)(μ:γ→Nat)(g0:γ)
  (h0:Wk m0 (sta L h) (sta (SL g0) (SH g0))) (hp:P g0)
  (round:∀ g,P g→goN E m0 post (.inv (rnd m0 SL SH P μ (μ g))::ks) b (SL g) (SH g)):goN E m0 post ks (.loop b) L h:=LO SL SH P μ g0 h0 hp round
theorem aQ {γ:Type}{SL:γ→List (Nat×DV)}{SH:γ→List AObj}{P:γ→Prop}{μ:γ→Nat}{n:Nat}(g:γ)(hh:h=SH g)(hm:m0≤h.length)(ha:UI L (SL g))(hp:P g)(hμ:μ g<n):rnd m0 SL SH P μ n (sta L h):=
 ⟨g,wks hh hm ha,hp,hμ⟩
theorem dO {γ:Type}{SL:γ→List (Nat×DV)}{SH:γ→List AObj}{P:γ→Prop}{μ:γ→Nat}{n:Nat}(m:Nat)(g:γ)(hh:h.take m=SH g)(hm:m0≤m)(ha:XY m L (SL g))(hb:((SH g).all fun o=>inO (fun l=>decide (l<m)) o)=true)(hp:P g)(hμ:μ g<n):rnd m0 SL SH P μ n (sta L h):=
 ⟨g,wkd m hh hm ha hb,hp,hμ⟩
def aFx (ρ:List Nat)(L:List (Nat×DV)):List (Nat×DV)→Prop
 | []=>True
 | (t,d)::M=>(slots L t).ren (ρ.idxOf ·)=d∧(slots L t).inL ρ.contains=true∧aFx ρ L M
theorem wkp (ρ:List Nat){M:List (Nat×DV)}{h' : List AObj}(hnd:ρ.Nodup)(hm:m0≤ρ.length)(hid:∀ i,i<m0→ρ[i]?=some i)(hlt:∀ l∈ρ,l<h.length)
  (hh:(ρ.map fun l=>aR (ρ.idxOf ·) (h.getD l .dead))=h') (hin:∀ l∈ρ,inO ρ.contains (h.getD l .dead)=true) (ha:aFx ρ L M):Wk m0 (sta L h) (sta M h'):=by
 refine ⟨.inr ⟨ρ,hnd,hm,hid,hlt,hin,hh.symm,fun s=>?_⟩⟩
 show slots M s=.undef∨slots M s=(slots L s).ren (ρ.idxOf ·)∧(slots L s).inL ρ.contains=true
 clear hh
 induction M with
 | nil=>exact .inl rfl
 | cons p M ih=>
  obtain ⟨t,d⟩:=p
  obtain ⟨h1,h2,h3⟩:=ha
  simp only [slots]
  split
  ·rename_i e; subst e; exact .inr ⟨h1.symm,h2⟩
  ·exact ih h3
theorem aB {b:Bool}{f:Nat}{ds ds' : List DV}{D:DV}{K:DV→St→Prop}(hc:ACalls E f [] ds' (fun h d=>h=[]∧d=D))(he:ds.map (DV.dn [] h)=ds')(hs:D.scalar=true)(hk:K D (sta L h)):acall E b f ds K (sta L h):=by
 refine .go ?_
 refine .inl ⟨fun d=>d=D,?_,⟨D,rfl⟩,fun d e=>e▸⟨hs,hk⟩⟩
 rw [show (sta L h).h=h from rfl,he]
 exact hc
theorem fO {b:Bool}{f:Nat}{ds ds' : List DV}{post:DV→Prop}{K:DV→St→Prop}(hc:ACalls E f [] ds' (fun h d=>h=[]∧post d))(he:ds.map (DV.dn [] h)=ds')(hx:∃ d,post d)(hk:∀ d,post d→d.scalar=true∧K d (sta L h)):acall E b f ds K (sta L h):=by
 refine .go ?_
 refine .inl ⟨post,?_,hx,hk⟩
 rw [show (sta L h).h=h from rfl,he]
 exact hc
theorem gC {b:Bool}{f:Nat}{ds:List DV}{H:List AObj}{D:DV}{K:DV→St→Prop}(hc:ACalls E f [] ds (fun h d=>h=H∧d=D))(hcl:∀ d∈ds,d.closed=true)(hk:K (D.ren (h.length + ·)) (sta L (h++H.map (aR (h.length + ·))))):acall E b f ds K (sta L h):=by
 refine .go ?_
 refine .inr (.inl ⟨fun h' d=>h' = H∧d=D,hc,hcl,⟨H,D,rfl,rfl⟩,fun h' d e=>?_⟩)
 obtain ⟨rfl,rfl⟩:=e
 exact hk
end
end Go.Ai
