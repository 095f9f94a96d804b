/- The rules of a step, all together. -/
import Derived.Test.YtgamnnfndidclaaGreatDoorGAiGo3
set_option linter.all false
namespace Go.Ai
theorem aAn {l:List DV}:(DV.agg l).cells=l:=rfl
theorem aBd {k:IntKind}{n:Int}:(DV.int k n).cells=[.int k n]:=rfl
theorem UD {b:Bool}:(DV.bool b).cells=[.bool b]:=rfl
theorem aBT {s:List UInt8}:(DV.str s).cells=[.str s]:=rfl
theorem aBn {l:List DV}:(DV.tup l).cells=[.tup l]:=rfl
theorem XP:DV.nilp.cells=[.nilp]:=rfl
theorem aAe {i o:Nat}:(DV.ptr i o).cells=[.ptr i o]:=rfl
theorem VI {sz i j q:Nat}:(DV.aptr sz i j q).cells=[.aptr sz i j q]:=rfl
theorem XQ {c:List DV}{o:Nat}:(DV.eptr c o).cells=[.eptr c o]:=rfl
theorem ZW {b:Bool}{n:Nat}:(DV.emp b n).cells=[.emp b n]:=rfl
theorem aDv {i:Nat}:(DV.mp i).cells=[.mp i]:=rfl
theorem aAS {k:IntKind}{n:Int}:(DV.int k n).pv=some (.int k n):=rfl
theorem RA {b:Bool}:(DV.bool b).pv=some (.bool b):=rfl
theorem aBp {s:List UInt8}:(DV.str s).pv=some (.str s):=rfl
theorem SQ {n:Nat}:(DV.nils n).cells=[.nils n]:=rfl
theorem aFJ {sz:Nat}{es:List (List DV)}:(DV.sl sz es).cells=[.sl sz es]:=rfl
theorem aBz {sz i off n:Nat}{c:Option Nat}:(DV.osl sz i off n c).cells=[.osl sz i off n c]:=rfl
theorem aFD {f:Nat}{l:List DV}:(DV.fn f l).cells=[.fn f l]:=rfl
theorem aCC {l t m:Nat}:(DV.hdr l t m).cells=[.hdr l t m]:=rfl
theorem UX {l t m:Nat}:(DV.self l t m).cells=[.self l t m]:=rfl
theorem OF:DV.nilfn.cells=[.nilfn]:=rfl
theorem ZK {f:Nat}{l:List DV}:(DV.ifc f l).cells=[.ifc f l]:=rfl
theorem aCb {f:Nat}{l:List DV}:(DV.bnd f l).cells=[.bnd f l]:=rfl
theorem RZ:DV.nili.cells=[.nili]:=rfl
theorem aFj {k:IntKind}{n:Int}:(DV.int k n).one=true:=rfl
theorem aAZ {b:Bool}:(DV.bool b).one=true:=rfl
theorem aEf {s:List UInt8}:(DV.str s).one=true:=rfl
theorem aAc:DV.nilp.one=true:=rfl
theorem aFE {i o:Nat}:(DV.ptr i o).one=true:=rfl
theorem aBl {sz i j q:Nat}:(DV.aptr sz i j q).one=true:=rfl
theorem ZM {c:List DV}{o:Nat}:(DV.eptr c o).one=true:=rfl
theorem aDQ {b:Bool}{n:Nat}:(DV.emp b n).one=true:=rfl
theorem aGr {i:Nat}:(DV.mp i).one=true:=rfl
theorem aAV {n:Nat}:(DV.nils n).one=true:=rfl
theorem aGI {sz:Nat}{es:List (List DV)}:(DV.sl sz es).one=true:=rfl
theorem aEb {sz i off n:Nat}{c:Option Nat}:(DV.osl sz i off n c).one=true:=rfl
theorem aGp {f:Nat}{l:List DV}:(DV.fn f l).one=true:=rfl
theorem aDF {l t m:Nat}:(DV.hdr l t m).one=true:=rfl
theorem aBo {l t m:Nat}:(DV.self l t m).one=true:=rfl
theorem TQ:DV.nilfn.one=true:=rfl
theorem aEW {f:Nat}{l:List DV}:(DV.ifc f l).one=true:=rfl
theorem aEK {f:Nat}{l:List DV}:(DV.bnd f l).one=true:=rfl
theorem aAU:DV.nili.one=true:=rfl
theorem aEJ {k:IntKind}{n:Int}:(DV.int k n).closed=true:=rfl
theorem aBb {b:Bool}:(DV.bool b).closed=true:=rfl
theorem aEx {s:List UInt8}:(DV.str s).closed=true:=rfl
theorem aAg:DV.nilp.closed=true:=rfl
theorem aDn {c:List DV}{o:Nat}:(DV.eptr c o).closed=true:=rfl
theorem aFp {b:Bool}{n:Nat}:(DV.emp b n).closed=true:=rfl
theorem aGz {i:Nat}:(DV.mp i).closed=false:=rfl
theorem aCk {n:Nat}:(DV.nils n).closed=true:=rfl
theorem aGy {sz:Nat}{es:List (List DV)}:(DV.sl sz es).closed=true:=rfl
theorem VU:DV.nilfn.closed=true:=rfl
theorem aAf:DV.nili.closed=true:=rfl
theorem aEk {l t m:Nat}:(DV.hdr l t m).closed=false:=rfl
theorem aBI {l t m:Nat}:(DV.self l t m).closed=false:=rfl
theorem aEV {i o:Nat}:(DV.ptr i o).closed=false:=rfl
theorem aCi {sz i j q:Nat}:(DV.aptr sz i j q).closed=false:=rfl
theorem aFb {sz i off n:Nat}{c:Option Nat}:(DV.osl sz i off n c).closed=false:=rfl
theorem tI:∀ {l:List DV},DV.closed.closedAll l=l.all DV.closed
 | []=>rfl
 | d::l=>by rw [DV.closed.closedAll,tI,List.all_cons]
theorem aFK {l:List DV}:(DV.agg l).closed=l.all DV.closed:=by rw [DV.closed,tI]
theorem aDM {l:List DV}:(DV.tup l).closed=l.all DV.closed:=by rw [DV.closed,tI]
theorem aFY {f:Nat}{l:List DV}:(DV.fn f l).closed=l.all DV.closed:=by rw [DV.closed,tI]
theorem aFH {f:Nat}{l:List DV}:(DV.ifc f l).closed=l.all DV.closed:=by rw [DV.closed,tI]
theorem aFs {f:Nat}{l:List DV}:(DV.bnd f l).closed=l.all DV.closed:=by rw [DV.closed,tI]
theorem aEs {k:IntKind}{a b:Int}{K:DV→Prop}:aT .add .prim (.int k a) (.int k b) K=K (.int k (k.wrap (a+b))):=by rw [aFd]; simp
theorem aEr {k:IntKind}{a b:Int}{K:DV→Prop}:aT .sub .prim (.int k a) (.int k b) K=K (.int k (k.wrap (a - b))):=by rw [aDy]; simp
theorem aFB {k:IntKind}{a b:Int}{K:DV→Prop}:aT .mul .prim (.int k a) (.int k b) K=K (.int k (k.wrap (a*b))):=by rw [aFM]; simp
theorem aEM {k:IntKind}{a b:Int}{K:DV→Prop}:aT .quo .prim (.int k a) (.int k b) K=chk (b≠0) (K (.int k (k.wrap (a.tdiv b)))):=by rw [aEg]; simp [chk]
theorem aFU {k:IntKind}{a b:Int}{K:DV→Prop}:aT .rem .prim (.int k a) (.int k b) K=chk (b≠0) (K (.int k (a.tmod b))):=by rw [aEF]; simp [chk]
theorem aEa {k:IntKind}{a b:Int}{K:DV→Prop}:aT .eql .prim (.int k a) (.int k b) K=K (.bool (decide (a=b))):=by rw [aDG]; simp
theorem aEG {k:IntKind}{a b:Int}{K:DV→Prop}:aT .neq .prim (.int k a) (.int k b) K=K (.bool (!decide (a=b))):=by rw [aEX]; simp
theorem aFW {k:IntKind}{a b:Int}{K:DV→Prop}:aT .lss .prim (.int k a) (.int k b) K=K (.bool (decide (a<b))):=by rw [aDH]; simp
theorem aFf {k:IntKind}{a b:Int}{K:DV→Prop}:aT .leq .prim (.int k a) (.int k b) K=K (.bool (decide (a≤b))):=by rw [aEZ]; simp
theorem aDs {k:IntKind}{a b:Int}{K:DV→Prop}:aT .gtr .prim (.int k a) (.int k b) K=K (.bool (decide (b<a))):=by rw [aER]; simp
theorem aDD {k:IntKind}{a b:Int}{K:DV→Prop}:aT .geq .prim (.int k a) (.int k b) K=K (.bool (decide (b≤a))):=by rw [aDW]; simp
theorem aEd {k:IntKind}{a b:Int}{K:DV→Prop}:aT .and .prim (.int k a) (.int k b) K=K (.int k (k.wrap (BitVec.ofInt k.bits a &&& BitVec.ofInt k.bits b).toNat)):=by rw [aFQ]; simp
theorem aGs {k:IntKind}{a b:Int}{K:DV→Prop}:aT .or .prim (.int k a) (.int k b) K=K (.int k (k.wrap (BitVec.ofInt k.bits a ||| BitVec.ofInt k.bits b).toNat)):=by rw [aGw]; simp
theorem aFO {k:IntKind}{a b:Int}{K:DV→Prop}:aT .xor .prim (.int k a) (.int k b) K=K (.int k (k.wrap (BitVec.ofInt k.bits a ^^^ BitVec.ofInt k.bits b).toNat)):=by rw [aEm]; simp
theorem aDT {k k' : IntKind}{a b:Int}{K:DV→Prop}:aT .shl .prim (.int k a) (.int k' b) K=chk (0≤b) (K (.int k (k.wrap (a*2 ^ min b.toNat k.bits)))):=rfl
theorem aEy {k k' : IntKind}{a b:Int}{K:DV→Prop}:aT .shr .prim (.int k a) (.int k' b) K=chk (0≤b) (K (.int k (a.fdiv (2 ^ min b.toNat k.bits)))):=rfl
theorem aCh {ks:List FK}{l l' : List DV}{K:DV→Prop}:aT .eql (.flat ks) (.agg l) (.agg l') K=eT (eqL ks l l') fun b=>K (.bool b):=rfl
theorem ZJ {ks:List FK}{l l' : List DV}{K:DV→Prop}:aT .neq (.flat ks) (.agg l) (.agg l') K=eT (eqL ks l l') fun b=>K (.bool !b):=rfl
theorem ZL {K:DV→Prop}:aT .eql .ptr .nilp .nilp K=K (.bool true):=rfl
theorem aAm {K:DV→Prop}:aT .neq .ptr .nilp .nilp K=K (.bool false):=rfl
theorem aCd {l o:Nat}{K:DV→Prop}:aT .eql .ptr (.ptr l o) .nilp K=K (.bool false):=rfl
theorem aCn {l o:Nat}{K:DV→Prop}:aT .neq .ptr (.ptr l o) .nilp K=K (.bool true):=rfl
theorem aAT {sz l j q:Nat}{K:DV→Prop}:aT .eql .ptr (.aptr sz l j q) .nilp K=K (.bool false):=rfl
theorem aAX {sz l j q:Nat}{K:DV→Prop}:aT .neq .ptr (.aptr sz l j q) .nilp K=K (.bool true):=rfl
theorem ZR {l:List DV}{o:Nat}{K:DV→Prop}:aT .eql .ptr (.eptr l o) .nilp K=K (.bool false):=rfl
theorem aBE {l:List DV}{o:Nat}{K:DV→Prop}:aT .neq .ptr (.eptr l o) .nilp K=K (.bool true):=rfl
theorem aAG {sz l off n m:Nat}{c:Option Nat}{K:DV→Prop}:aT .eql .slc (.osl sz l off n c) (.nils m) K=chk (0<n) (K (.bool false)):=rfl
theorem aAY {sz l off n m:Nat}{c:Option Nat}{K:DV→Prop}:aT .neq .slc (.osl sz l off n c) (.nils m) K=chk (0<n) (K (.bool true)):=rfl
theorem aDm {sz m:Nat}{es:List (List DV)}{K:DV→Prop}:aT .eql .slc (.sl sz es) (.nils m) K=chk (es≠[]) (K (.bool false)):=rfl
theorem aCe {sz m:Nat}{es:List (List DV)}{K:DV→Prop}:aT .neq .slc (.sl sz es) (.nils m) K=chk (es≠[]) (K (.bool true)):=rfl
theorem aBm {b:Bool}{n m:Nat}{K:DV→Prop}:aT .eql .slc (.emp b n) (.nils m) K=K (.bool b):=rfl
theorem aBF {b:Bool}{n m:Nat}{K:DV→Prop}:aT .neq .slc (.emp b n) (.nils m) K=K (.bool !b):=rfl
theorem aEQ:eqL [] [] []=some true:=rfl
theorem aDB {f:List FK}{k:IntKind}{a b:Int}{l l' : List DV}:eqL (.int::f) (.int k a::l) (.int k b::l')=(eqL f l l').map (decide (a=b) && ·):=by simp [eqL]
theorem aFF {f:List FK}{a b:List UInt8}{l l' : List DV}:eqL (.str::f) (.str a::l) (.str b::l')=(eqL f l l').map (decide (a=b) && ·):=rfl
theorem aAO {f:List FK}{a b:Bool}{l l' : List DV}:eqL (.bool::f) (.bool a::l) (.bool b::l')=(eqL f l l').map ((a == b) && ·):=rfl
theorem tkm {α β:Type}{f:α→β}{l:List α}:List.take l.length (l.map f)=l.map f:=List.take_of_length_le (by simp)
theorem cpos {n:Nat}:(0<((n+1:Nat):Int))=True:=by simp
theorem cne {n:Nat}:(((n+1:Nat):Int)=0)=False:=by simp; omega
theorem clt {n:Nat}:(((n:Nat):Int)<0)=False:=by simp
theorem aDx {a b:List UInt8}{K:DV→Prop}:aT .add .prim (.str a) (.str b) K=chk (a.length+b.length≤4611686018427387904) (K (.str (a++b))):=rfl
set_option linter.defProp false
theorem aI {a b:Prop}(x:a)(y:b):a∧b:=⟨x,y⟩
def aGq:=aI @ND (aI @PS (aI @TV (aI @BP (aI @WH (aI @IY (aI @OW (aI @zT (aI @xW (aI @SO (aI @vX (aI @yD (aI @IM (aI @sF (aI @pJ (aI @SC (aI @vF (aI @yX (aI @JY (aI @OX (aI @uS (aI @sH (aI @SU (@kO)))))))))))))))))))))))
def aGf:=aI @wG (aI @uI (aI @VE (aI @UO (aI @AC (aI @GW (aI @IG (aI @GG (aI @GJ (aI @wQ (aI @fK (aI @gM (aI @KF (aI @GO (aI @KU (aI @GT (aI @JG (aI @zU (aI @FU (aI @UR (aI @WY (aI @UJ (aI @OP (@TT)))))))))))))))))))))))
def aGA:=aI @QL (aI @VZ (aI @KD (aI @KY (aI @aAL (aI @SB (aI @aAI (aI @TA (aI @XC (aI @WU (aI @ZS (aI @JZ (aI @IT (aI @PA (aI @iJ (aI @KH (aI @UP (aI @JS (aI @GC (aI @zK (aI @SK (aI @RU (aI @CY (@FV)))))))))))))))))))))))
def aGE:=aI @aEl (aI @aFy (aI @aGg (aI @aGe (aI @aEi (aI @aFm (aI @aFi (aI @aFA (aI @aEP (aI @aEH (aI @aFz (aI @aEj (aI @aBX (aI @aBK (aI @aFR (aI @aBU (aI @XB (aI @aDu (aI @aFe (aI @aFt (aI @aBe (aI @aCR (aI @aDS (@aFc)))))))))))))))))))))))
def aGH:=aI @QT (aI @aAr (aI @aFq (aI @TO (aI @JX (aI @VA (aI @NY (aI @aCs (aI @VR (aI @NA (aI @WJ (aI @UW (aI @aEO (aI @aGi (aI @aCM (aI @aAi (aI @JF (aI @XM (aI @TB (aI @XS (aI @TK (aI @US (aI @aAA (@RX)))))))))))))))))))))))
def aGv:=aI @ZT (aI @aBY (aI @aBA (aI @WE (aI @aEc (aI @aEt (aI @aFC (aI @FW (aI @LK (aI @aEA (aI @aEI (aI @GB (aI @SA (aI @aAN (aI @aDe (aI @aAD (aI @aBh (aI @aEC (aI @aGl (aI @aGJ (aI @aEn (aI @QA (aI @LA (@HJ)))))))))))))))))))))))
def aGx:=aI @AO (aI @IL (aI @AD (aI @FS (aI @CH (aI @CL (aI @LT (aI @HZ (aI @NP (aI @GH (aI @HC (aI @JI (aI @PJ (aI @CB (aI @yO (aI @GQ (aI @zB (aI @CI (aI @IA (aI @IZ (aI @IS (aI @FQ (aI @BL (@BM)))))))))))))))))))))))
def aFZ:=aI @AZ (aI @zZ (aI @aDV (aI @PU (aI @OQ (aI @QR (aI @IR (aI @GN (aI @II (aI @IV (aI @IE (aI @rY (aI @aDz (aI @aFg (aI @aFn (aI @BC (aI @IC (aI @zI (aI @zX (aI @JM (aI @JB (aI @AB (aI @OC (@ID)))))))))))))))))))))))
def aGo:=aI @AJ (aI @aBO (aI @YE (aI @YA (aI @IB (aI @yV (aI @zJ (aI @wA (aI @vW (aI @xN (aI @aGa (aI @aGh (aI @aGb (aI @aGC (aI @XF (aI @KW (aI @CC (aI @xR (aI @WP (aI @aBW (aI @RS (aI @aCO (aI @aDi (@aAt)))))))))))))))))))))))
def aGc:=aI @TG (aI @ST (aI @aEu (aI @GP (aI @LF (aI @JA (aI @GA (aI @HY (aI @zzIO (aI @JC (aI @aGB (aI @aGd (aI @VW (aI @XD (aI @MF (aI @TI (aI @SS (aI @TX (aI @QH (aI @WD (aI @ZN (aI @XG (aI @aCm (@PI)))))))))))))))))))))))
def aFv:=aI @LI (aI @RH (aI @aDf (aI @TF (aI @RY (aI @CQ (aI @IP (aI @IX (aI @BG (aI @BB (aI @AG (aI @zN (aI @PT (aI @sM (aI @WR (aI @aBk (aI @ZV (aI @UK (aI @aAH (aI @XK (aI @PP (aI @aCt (aI @UC (@OR)))))))))))))))))))))))
def aFu:=aI @XV (aI @aFr (aI @XE (aI @aDl (aI @aEv (aI @TZ (aI @ZO (aI @QZ (aI @aCT (aI @ZU (aI @aBs (aI @aAy (aI @aEU (aI @RN (aI @LP (aI @RK (aI @LH (aI @RT (aI @VG (aI @TJ (aI @NZ (aI @LB (aI @UG (@OM)))))))))))))))))))))))
def aFX:=aI @OI (aI @RJ (aI @NW (aI @aFL (aI @aBr (aI @TN (aI @aBL (aI @aAa (aI @aDR (aI @aDL (aI @aAq (aI @aBZ (aI @aBu (aI @aBt (aI @JD (aI @MA (aI @HB (aI @XO (aI @NE (aI @TC (aI @QM (aI @GI (aI @LU (@HN)))))))))))))))))))))))
def aFP:=aI @UU (aI @LM (aI @ZY (aI @OT (aI @RW (aI @aBi (aI @PC (aI @WQ (aI @LD (aI @VB (aI @KA (aI @HE (aI @WB (aI @WG (aI @VM (aI @RB (aI @aAs (aI @LS (aI @GS (aI @LJ (aI @LX (aI @QJ (aI @HP (@FP)))))))))))))))))))))))
def aDN:=aI @MW (aI @FO (aI @IQ (aI @WT (aI @ZF (aI @aAv (aI @aBw (aI @aAK (aI @aAn (aI @aBd (aI @UD (aI @aBT (aI @aBn (aI @XP (aI @aAe (aI @VI (aI @XQ (aI @ZW (aI @aDv (aI @aAS (aI @RA (aI @aBp (aI @SQ (@aFJ)))))))))))))))))))))))
def aES:=aI @aBz (aI @aFD (aI @aCC (aI @UX (aI @OF (aI @ZK (aI @aCb (aI @RZ (aI @aFj (aI @aAZ (aI @aEf (aI @aAc (aI @aFE (aI @aBl (aI @ZM (aI @aDQ (aI @aGr (aI @aAV (aI @aGI (aI @aEb (aI @aGp (aI @aDF (aI @aBo (@TQ)))))))))))))))))))))))
def aDI:=aI @aEW (aI @aEK (aI @aAU (aI @aEJ (aI @aBb (aI @aEx (aI @aAg (aI @aDn (aI @aFp (aI @aGz (aI @aCk (aI @aGy (aI @VU (aI @aAf (aI @aEk (aI @aBI (aI @aEV (aI @aCi (aI @aFb (aI @aFK (aI @aDM (aI @aFY (aI @aFH (@aFs)))))))))))))))))))))))
def aDY:=aI @aEs (aI @aEr (aI @aFB (aI @aEM (aI @aFU (aI @aEa (aI @aEG (aI @aFW (aI @aFf (aI @aDs (aI @aDD (aI @aEd (aI @aGs (aI @aFO (aI @aDT (aI @aEy (aI @aCh (aI @ZJ (aI @ZL (aI @aAm (aI @aCd (aI @aCn (aI @aAT (@aAX)))))))))))))))))))))))
def aDX:=aI @ZR (aI @aBE (aI @aAG (aI @aAY (aI @aDm (aI @aCe (aI @aBm (aI @aBF (aI @aEQ (aI @aDB (aI @aFF (aI @aAO (aI @tkm (aI @cpos (aI @cne (aI @clt (@aDx))))))))))))))))
def gos:=aI aGq (aI aGf (aI aGA (aI aGE (aI aGH (aI aGv (aI aGx (aI aFZ (aI aGo (aI aGc (aI aFv (aI aFu (aI aFX (aI aFP (aI aDN (aI aES (aI aDI (aI aDY (aDX))))))))))))))))))
def aGK:=aI @aCX (aI @aDc (aI @aAR (aI @List.map_cons.{0,0} (aI @List.map_nil.{0,0} (aI @Option.map_some.{0,0} (aI @Option.map_none.{0,0} (aI @Option.bind_some.{0,0} (aI @List.all_cons.{0} (aI @List.all_nil.{0} (aI @Bool.and_true (aI @Bool.true_and (aI @Bool.and_self (aI @Bool.not_false (aI @Bool.not_true (aI @List.length_nil.{0} (aI @List.length_cons.{0} (aI @List.nil_append.{0} (aI @List.cons_append.{0} (aI @List.append_nil.{0} (aI @List.getElem?_cons_zero.{0} (aI @List.getElem?_cons_succ.{0} (aI @List.length_map.{0,0} (@List.take_succ_cons.{0})))))))))))))))))))))))
def aGj:=aI @List.take_zero.{0} (aI @List.drop_zero.{0} (aI @List.drop_succ_cons.{0} (aI @List.drop_nil.{0} (aI @List.take_nil.{0} (aI @List.set_cons_zero.{0} (aI @List.set_cons_succ.{0} (aI @List.take_length.{0} (aI @List.zipIdx_cons.{0} (aI @List.zipIdx_nil.{0} (aI @Nat.zero_add (aI @Nat.add_zero (aI @Nat.le_refl (aI @Nat.sub_zero (aI @Nat.zero_le (aI @Int.toNat_natCast (aI @Int.natCast_nonneg (aI @decide_eq_true_eq (aI @decide_eq_false_iff_not (aI @Bool.not_eq_true' (aI @Bool.not_eq_false' (aI @Bool.false_eq_true (aI @Bool.true_eq_false (@Bool.and_eq_true)))))))))))))))))))))))
def aGk:=aI @not_true_eq_false (aI @not_false_eq_true (aI @false_implies (aI @true_implies (aI @true_and (aI @and_true (aI @decide_true (aI @decide_false (aI @Int.cast_ofNat_Int (aI @Go.Ai.cpos (aI @Go.Ai.cne (aI @Go.Ai.clt (@Go.Ai.tkm))))))))))))
def gop:=aI aGK (aI aGj (aGk))
end Go.Ai
