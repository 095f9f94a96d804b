/- The rules of a step, all together. -/
import Derived.Test.YtgamnnfndidclaaGreatDoorCAiGo3
set_option linter.all false
namespace Go.Ai
theorem aHa {l:List DV}:(DV.agg l).cells=l:=rfl
theorem aFm {k:IntKind}{n:Int}:(DV.int k n).cells=[.int k n]:=rfl
theorem aAb {b:Bool}:(DV.bool b).cells=[.bool b]:=rfl
theorem aFV {s:List UInt8}:(DV.str s).cells=[.str s]:=rfl
theorem aGC {l:List DV}:(DV.tup l).cells=[.tup l]:=rfl
theorem ZO:DV.nilp.cells=[.nilp]:=rfl
theorem aFI {i o:Nat}:(DV.ptr i o).cells=[.ptr i o]:=rfl
theorem aCj {sz i j q:Nat}:(DV.aptr sz i j q).cells=[.aptr sz i j q]:=rfl
theorem aCq {c:List DV}{o:Nat}:(DV.eptr c o).cells=[.eptr c o]:=rfl
theorem aEJ {b:Bool}{n:Nat}:(DV.emp b n).cells=[.emp b n]:=rfl
theorem aHF {i:Nat}:(DV.mp i).cells=[.mp i]:=rfl
theorem aGy {k:IntKind}{n:Int}:(DV.int k n).pv=some (.int k n):=rfl
theorem aCa {b:Bool}:(DV.bool b).pv=some (.bool b):=rfl
theorem aGI {s:List UInt8}:(DV.str s).pv=some (.str s):=rfl
theorem aCx {n:Nat}:(DV.nils n).cells=[.nils n]:=rfl
theorem aHO {sz:Nat}{es:List (List DV)}:(DV.sl sz es).cells=[.sl sz es]:=rfl
theorem aHc {sz i off n:Nat}{c:Option Nat}:(DV.osl sz i off n c).cells=[.osl sz i off n c]:=rfl
theorem aHZ {f:Nat}{l:List DV}:(DV.fn f l).cells=[.fn f l]:=rfl
theorem aFf {l t m:Nat}:(DV.hdr l t m).cells=[.hdr l t m]:=rfl
theorem ZQ {l t m:Nat}:(DV.self l t m).cells=[.self l t m]:=rfl
theorem QW:DV.nilfn.cells=[.nilfn]:=rfl
theorem aGr {f:Nat}{l:List DV}:(DV.ifc f l).cells=[.ifc f l]:=rfl
theorem aFq {f:Nat}{l:List DV}:(DV.bnd f l).cells=[.bnd f l]:=rfl
theorem aAk:DV.nili.cells=[.nili]:=rfl
theorem aJY {k:IntKind}{n:Int}:(DV.int k n).one=true:=rfl
theorem aES {b:Bool}:(DV.bool b).one=true:=rfl
theorem aJO {s:List UInt8}:(DV.str s).one=true:=rfl
theorem aFd:DV.nilp.one=true:=rfl
theorem aHz {i o:Nat}:(DV.ptr i o).one=true:=rfl
theorem aGs {sz i j q:Nat}:(DV.aptr sz i j q).one=true:=rfl
theorem aFQ {c:List DV}{o:Nat}:(DV.eptr c o).one=true:=rfl
theorem aIN {b:Bool}{n:Nat}:(DV.emp b n).one=true:=rfl
theorem aKY {i:Nat}:(DV.mp i).one=true:=rfl
theorem aEU {n:Nat}:(DV.nils n).one=true:=rfl
theorem aLf {sz:Nat}{es:List (List DV)}:(DV.sl sz es).one=true:=rfl
theorem aJn {sz i off n:Nat}{c:Option Nat}:(DV.osl sz i off n c).one=true:=rfl
theorem aKN {f:Nat}{l:List DV}:(DV.fn f l).one=true:=rfl
theorem aIp {l t m:Nat}:(DV.hdr l t m).one=true:=rfl
theorem aGO {l t m:Nat}:(DV.self l t m).one=true:=rfl
theorem aBd:DV.nilfn.one=true:=rfl
theorem aKk {f:Nat}{l:List DV}:(DV.ifc f l).one=true:=rfl
theorem aKd {f:Nat}{l:List DV}:(DV.bnd f l).one=true:=rfl
theorem aDN:DV.nili.one=true:=rfl
theorem aJR {k:IntKind}{n:Int}:(DV.int k n).closed=true:=rfl
theorem aFs {b:Bool}:(DV.bool b).closed=true:=rfl
theorem aIf {s:List UInt8}:(DV.str s).closed=true:=rfl
theorem aFy:DV.nilp.closed=true:=rfl
theorem aDG {c:List DV}{o:Nat}:(DV.eptr c o).closed=true:=rfl
theorem aJN {b:Bool}{n:Nat}:(DV.emp b n).closed=true:=rfl
theorem aKG {i:Nat}:(DV.mp i).closed=false:=rfl
theorem aEY {n:Nat}:(DV.nils n).closed=true:=rfl
theorem aKW {sz:Nat}{es:List (List DV)}:(DV.sl sz es).closed=true:=rfl
theorem aAE:DV.nilfn.closed=true:=rfl
theorem aEO:DV.nili.closed=true:=rfl
theorem aJd {l t m:Nat}:(DV.hdr l t m).closed=false:=rfl
theorem aDF {l t m:Nat}:(DV.self l t m).closed=false:=rfl
theorem aIk {i o:Nat}:(DV.ptr i o).closed=false:=rfl
theorem aGD {sz i j q:Nat}:(DV.aptr sz i j q).closed=false:=rfl
theorem aIA {sz i off n:Nat}{c:Option Nat}:(DV.osl sz i off n c).closed=false:=rfl
theorem wY:∀ {l:List DV},DV.closed.closedAll l=l.all DV.closed
 | []=>rfl
 | d::l=>by rw [DV.closed.closedAll,wY,List.all_cons]
theorem aIb {l:List DV}:(DV.agg l).closed=l.all DV.closed:=by rw [DV.closed,wY]
theorem aJZ {l:List DV}:(DV.tup l).closed=l.all DV.closed:=by rw [DV.closed,wY]
theorem aKH {f:Nat}{l:List DV}:(DV.fn f l).closed=l.all DV.closed:=by rw [DV.closed,wY]
theorem aIl {f:Nat}{l:List DV}:(DV.ifc f l).closed=l.all DV.closed:=by rw [DV.closed,wY]
theorem aIe {f:Nat}{l:List DV}:(DV.bnd f l).closed=l.all DV.closed:=by rw [DV.closed,wY]
theorem aIX {k:IntKind}{a b:Int}{K:DV→Prop}:bD .add .prim (.int k a) (.int k b) K=K (.int k (k.wrap (a+b))):=by rw [aKl]; simp
theorem aIh {k:IntKind}{a b:Int}{K:DV→Prop}:bD .sub .prim (.int k a) (.int k b) K=K (.int k (k.wrap (a - b))):=by rw [aIU]; simp
theorem aJr {k:IntKind}{a b:Int}{K:DV→Prop}:bD .mul .prim (.int k a) (.int k b) K=K (.int k (k.wrap (a*b))):=by rw [aJg]; simp
theorem aIQ {k:IntKind}{a b:Int}{K:DV→Prop}:bD .quo .prim (.int k a) (.int k b) K=chk (b≠0) (K (.int k (k.wrap (a.tdiv b)))):=by rw [aHU]; simp [chk]
theorem aIc {k:IntKind}{a b:Int}{K:DV→Prop}:bD .rem .prim (.int k a) (.int k b) K=chk (b≠0) (K (.int k (a.tmod b))):=by rw [aIZ]; simp [chk]
theorem aHJ {k:IntKind}{a b:Int}{K:DV→Prop}:bD .eql .prim (.int k a) (.int k b) K=K (.bool (decide (a=b))):=by rw [aIy]; simp
theorem aJF {k:IntKind}{a b:Int}{K:DV→Prop}:bD .neq .prim (.int k a) (.int k b) K=K (.bool (!decide (a=b))):=by rw [aJj]; simp
theorem aIu {k:IntKind}{a b:Int}{K:DV→Prop}:bD .lss .prim (.int k a) (.int k b) K=K (.bool (decide (a<b))):=by rw [aHR]; simp
theorem aHP {k:IntKind}{a b:Int}{K:DV→Prop}:bD .leq .prim (.int k a) (.int k b) K=K (.bool (decide (a≤b))):=by rw [aHW]; simp
theorem aIa {k:IntKind}{a b:Int}{K:DV→Prop}:bD .gtr .prim (.int k a) (.int k b) K=K (.bool (decide (b<a))):=by rw [aJa]; simp
theorem aHB {k:IntKind}{a b:Int}{K:DV→Prop}:bD .geq .prim (.int k a) (.int k b) K=K (.bool (decide (b≤a))):=by rw [aIK]; simp
theorem aHL {k:IntKind}{a b:Int}{K:DV→Prop}:bD .and .prim (.int k a) (.int k b) K=K (.int k (k.wrap (BitVec.ofInt k.bits a &&& BitVec.ofInt k.bits b).toNat)):=by rw [aIF]; simp
theorem aLo {k:IntKind}{a b:Int}{K:DV→Prop}:bD .or .prim (.int k a) (.int k b) K=K (.int k (k.wrap (BitVec.ofInt k.bits a ||| BitVec.ofInt k.bits b).toNat)):=by rw [aLp]; simp
theorem aJU {k:IntKind}{a b:Int}{K:DV→Prop}:bD .xor .prim (.int k a) (.int k b) K=K (.int k (k.wrap (BitVec.ofInt k.bits a ^^^ BitVec.ofInt k.bits b).toNat)):=by rw [aJc]; simp
theorem aIS {k k' : IntKind}{a b:Int}{K:DV→Prop}:bD .shl .prim (.int k a) (.int k' b) K=chk (0≤b) (K (.int k (k.wrap (a*2 ^ min b.toNat k.bits)))):=rfl
theorem aJb {k k' : IntKind}{a b:Int}{K:DV→Prop}:bD .shr .prim (.int k a) (.int k' b) K=chk (0≤b) (K (.int k (a.fdiv (2 ^ min b.toNat k.bits)))):=rfl
theorem aFo {ks:List FK}{l l' : List DV}{K:DV→Prop}:bD .eql (.flat ks) (.agg l) (.agg l') K=fX (eqL ks l l') fun b=>K (.bool b):=rfl
theorem aGQ {ks:List FK}{l l' : List DV}{K:DV→Prop}:bD .neq (.flat ks) (.agg l) (.agg l') K=fX (eqL ks l l') fun b=>K (.bool !b):=rfl
theorem aFP {K:DV→Prop}:bD .eql .ptr .nilp .nilp K=K (.bool true):=rfl
theorem aEr {K:DV→Prop}:bD .neq .ptr .nilp .nilp K=K (.bool false):=rfl
theorem aGJ {l o:Nat}{K:DV→Prop}:bD .eql .ptr (.ptr l o) .nilp K=K (.bool false):=rfl
theorem aDY {l o:Nat}{K:DV→Prop}:bD .neq .ptr (.ptr l o) .nilp K=K (.bool true):=rfl
theorem aFR {sz l j q:Nat}{K:DV→Prop}:bD .eql .ptr (.aptr sz l j q) .nilp K=K (.bool false):=rfl
theorem aDV {sz l j q:Nat}{K:DV→Prop}:bD .neq .ptr (.aptr sz l j q) .nilp K=K (.bool true):=rfl
theorem aGo {l:List DV}{o:Nat}{K:DV→Prop}:bD .eql .ptr (.eptr l o) .nilp K=K (.bool false):=rfl
theorem aHj {l:List DV}{o:Nat}{K:DV→Prop}:bD .neq .ptr (.eptr l o) .nilp K=K (.bool true):=rfl
theorem aDJ {sz l off n m:Nat}{c:Option Nat}{K:DV→Prop}:bD .eql .slc (.osl sz l off n c) (.nils m) K=chk (0<n) (K (.bool false)):=rfl
theorem aHn {sz l off n m:Nat}{c:Option Nat}{K:DV→Prop}:bD .neq .slc (.osl sz l off n c) (.nils m) K=chk (0<n) (K (.bool true)):=rfl
theorem aGx {sz m:Nat}{es:List (List DV)}{K:DV→Prop}:bD .eql .slc (.sl sz es) (.nils m) K=chk (es≠[]) (K (.bool false)):=rfl
theorem aGk {sz m:Nat}{es:List (List DV)}{K:DV→Prop}:bD .neq .slc (.sl sz es) (.nils m) K=chk (es≠[]) (K (.bool true)):=rfl
theorem aEc {b:Bool}{n m:Nat}{K:DV→Prop}:bD .eql .slc (.emp b n) (.nils m) K=K (.bool b):=rfl
theorem aGG {b:Bool}{n m:Nat}{K:DV→Prop}:bD .neq .slc (.emp b n) (.nils m) K=K (.bool !b):=rfl
theorem aJm:eqL [] [] []=some true:=rfl
theorem aIC {f:List FK}{k:IntKind}{a b:Int}{l l' : List DV}:eqL (.int::f) (.int k a::l) (.int k b::l')=(eqL f l l').map (decide (a=b) && ·):=by simp [eqL]
theorem aHG {f:List FK}{a b:List UInt8}{l l' : List DV}:eqL (.str::f) (.str a::l) (.str b::l')=(eqL f l l').map (decide (a=b) && ·):=rfl
theorem aFZ {f:List FK}{a b:Bool}{l l' : List DV}:eqL (.bool::f) (.bool a::l) (.bool b::l')=(eqL f l l').map ((a == b) && ·):=rfl
theorem tkm {α β:Type}{f:α→β}{l:List α}:List.take l.length (l.map f)=l.map f:=List.take_of_length_le (by simp)
theorem cpos {n:Nat}:(0<((n+1:Nat):Int))=True:=by simp
theorem cne {n:Nat}:(((n+1:Nat):Int)=0)=False:=by simp; omega
theorem clt {n:Nat}:(((n:Nat):Int)<0)=False:=by simp
theorem aKi {a b:List UInt8}{K:DV→Prop}:bD .add .prim (.str a) (.str b) K=chk (a.length+b.length≤4611686018427387904) (K (.str (a++b))):=rfl
set_option linter.defProp false
theorem aI {a b:Prop}(x:a)(y:b):a∧b:=⟨x,y⟩
def aLk:=aI @WM (aI @SN (aI @aAl (aI @EX (aI @aBr (aI @LQ (aI @WA (aI @EF (aI @BK (aI @YL (aI @zC (aI @DD (aI @LH (aI @wF (aI @vI (aI @ZP (aI @AC (aI @AU (aI @VR (aI @SP (aI @zW (aI @wH (aI @aCl (@jY)))))))))))))))))))))))
def aKq:=aI @CM (aI @yJ (aI @aCb (aI @aAO (aI @FN (aI @LE (aI @PP (aI @MB (aI @PM (aI @AH (aI @eP (aI @jQ (aI @XN (aI @xU (aI @AM (aI @MW (aI @LS (aI @FS (aI @OT (aI @aBo (aI @aCJ (aI @aAh (aI @VT (@aCy)))))))))))))))))))))))
def aKv:=aI @VU (aI @aBM (aI @WS (aI @TE (aI @aEN (aI @aBS (aI @aEh (aI @aBD (aI @aAd (aI @YI (aI @aDW (aI @UK (aI @MO (aI @VY (aI @lJ (aI @SQ (aI @YT (aI @QE (aI @MD (aI @EG (aI @YM (aI @aCU (aI @GC (@OL)))))))))))))))))))))))
def aLc:=aI @aJe (aI @aIP (aI @aKw (aI @aKz (aI @aJl (aI @aHC (aI @aIO (aI @aKg (aI @aIT (aI @aJk (aI @aKe (aI @aKh (aI @aGn (aI @aEt (aI @aJQ (aI @aFh (aI @aBp (aI @aJy (aI @aJP (aI @aKa (aI @aEA (aI @aGh (aI @aJS (@aJf)))))))))))))))))))))))
def aLq:=aI @UC (aI @aEB (aI @aIM (aI @aBX (aI @UH (aI @aCn (aI @RX (aI @aDE (aI @aAT (aI @XG (aI @aAi (aI @ZF (aI @aJD (aI @aLd (aI @aDZ (aI @aFU (aI @NE (aI @YH (aI @aAQ (aI @aCC (aI @YQ (aI @aAv (aI @aDD (@aCF)))))))))))))))))))))))
def aKu:=aI @aGY (aI @aFw (aI @aGw (aI @aBl (aI @aJA (aI @aJw (aI @aJV (aI @OW (aI @XM (aI @aIB (aI @aHH (aI @OR (aI @aBO (aI @aGS (aI @aDI (aI @aGT (aI @aHd (aI @aKf (aI @aKP (aI @aKX (aI @aJv (aI @SF (aI @QV (@OX)))))))))))))))))))))))
def aLi:=aI @GH (aI @MI (aI @ET (aI @PH (aI @EU (aI @FV (aI @PS (aI @MA (aI @SK (aI @LD (aI @OB (aI @PL (aI @TP (aI @HU (aI @CL (aI @LC (aI @CJ (aI @HN (aI @LZ (aI @PE (aI @OV (aI @MC (aI @HE (@GW)))))))))))))))))))))))
def aLm:=aI @HS (aI @HZ (aI @aJW (aI @QN (aI @RU (aI @SI (aI @NW (aI @NG (aI @LP (aI @MP (aI @NA (aI @tG (aI @aHT (aI @aHY (aI @aJK (aI @GG (aI @MG (aI @EI (aI @GZ (aI @WO (aI @KZ (aI @EP (aI @VM (@OK)))))))))))))))))))))))
def aKU:=aI @FU (aI @aGb (aI @aCI (aI @YB (aI @NO (aI @DQ (aI @HB (aI @DT (aI @yZ (aI @CR (aI @aKA (aI @aKV (aI @aLa (aI @aLb (aI @XS (aI @XF (aI @EL (aI @BU (aI @YN (aI @aGz (aI @aCv (aI @aFz (aI @aHl (@aGX)))))))))))))))))))))))
def aLn:=aI @XZ (aI @aAq (aI @aIH (aI @OG (aI @QR (aI @OU (aI @NQ (aI @NY (aI @LG (aI @PF (aI @aKR (aI @aKO (aI @aAS (aI @XX (aI @UJ (aI @aCE (aI @aBc (aI @aCA (aI @UZ (aI @aBK (aI @aDU (aI @aAu (aI @aHs (@QH)))))))))))))))))))))))
def aJC:=aI @VA (aI @aBZ (aI @aEa (aI @aCW (aI @aAy (aI @GE (aI @LJ (aI @LK (aI @EM (aI @ER (aI @HT (aI @HI (aI @SR (aI @wN (aI @aBP (aI @aFK (aI @aER (aI @XT (aI @aGP (aI @aAs (aI @TO (aI @aFv (aI @aAM (@UY)))))))))))))))))))))))
def aJI:=aI @XR (aI @aKc (aI @YU (aI @aFt (aI @aID (aI @aBf (aI @aGA (aI @ZR (aI @aDL (aI @aFX (aI @aFx (aI @aFb (aI @aHM (aI @aBm (aI @QU (aI @aBA (aI @VG (aI @aBV (aI @aCp (aI @YD (aI @VK (aI @TH (aI @aBG (@QY)))))))))))))))))))))))
def aIv:=aI @SC (aI @aBW (aI @TM (aI @aIw (aI @aEu (aI @ZJ (aI @aFe (aI @aGR (aI @aJx (aI @aJG (aI @aFA (aI @aHq (aI @aEV (aI @aFS (aI @PQ (aI @TF (aI @PO (aI @YE (aI @SV (aI @ZK (aI @WZ (aI @MV (aI @WQ (@NM)))))))))))))))))))))))
def aIr:=aI @aBk (aI @VB (aI @aFO (aI @QA (aI @aAg (aI @aEW (aI @SX (aI @aCS (aI @TU (aI @aAC (aI @RC (aI @NP (aI @aAt (aI @aCr (aI @aAA (aI @aAK (aI @aFE (aI @WV (aI @LM (aI @VD (aI @WK (aI @TL (aI @LA (@PG)))))))))))))))))))))))
def aJz:=aI @SZ (aI @LW (aI @PB (aI @aCf (aI @aFk (aI @aHr (aI @aHo (aI @aDK (aI @aHa (aI @aFm (aI @aAb (aI @aFV (aI @aGC (aI @ZO (aI @aFI (aI @aCj (aI @aCq (aI @aEJ (aI @aHF (aI @aGy (aI @aCa (aI @aGI (aI @aCx (@aHO)))))))))))))))))))))))
def aHI:=aI @aHc (aI @aHZ (aI @aFf (aI @ZQ (aI @QW (aI @aGr (aI @aFq (aI @aAk (aI @aJY (aI @aES (aI @aJO (aI @aFd (aI @aHz (aI @aGs (aI @aFQ (aI @aIN (aI @aKY (aI @aEU (aI @aLf (aI @aJn (aI @aKN (aI @aIp (aI @aGO (@aBd)))))))))))))))))))))))
def aIV:=aI @aKk (aI @aKd (aI @aDN (aI @aJR (aI @aFs (aI @aIf (aI @aFy (aI @aDG (aI @aJN (aI @aKG (aI @aEY (aI @aKW (aI @aAE (aI @aEO (aI @aJd (aI @aDF (aI @aIk (aI @aGD (aI @aIA (aI @aIb (aI @aJZ (aI @aKH (aI @aIl (@aIe)))))))))))))))))))))))
def aJo:=aI @aIX (aI @aIh (aI @aJr (aI @aIQ (aI @aIc (aI @aHJ (aI @aJF (aI @aIu (aI @aHP (aI @aIa (aI @aHB (aI @aHL (aI @aLo (aI @aJU (aI @aIS (aI @aJb (aI @aFo (aI @aGQ (aI @aFP (aI @aEr (aI @aGJ (aI @aDY (aI @aFR (@aDV)))))))))))))))))))))))
def aIs:=aI @aGo (aI @aHj (aI @aDJ (aI @aHn (aI @aGx (aI @aGk (aI @aEc (aI @aGG (aI @aJm (aI @aIC (aI @aHG (aI @aFZ (aI @tkm (aI @cpos (aI @cne (aI @clt (@aKi))))))))))))))))
def gos:=aI aLk (aI aKq (aI aKv (aI aLc (aI aLq (aI aKu (aI aLi (aI aLm (aI aKU (aI aLn (aI aJC (aI aJI (aI aIv (aI aIr (aI aJz (aI aHI (aI aIV (aI aJo (aIs))))))))))))))))))
def aKE:=aI @aEC (aI @aHg (aI @aEj (aI @List.map_cons.{0,0} (aI @List.map_nil.{0,0} (aI @Option.map_some.{0,0} (aI @Option.map_none.{0,0} (aI @Option.bind_some.{0,0} (aI @List.all_cons.{0} (aI @List.all_nil.{0} (aI @Bool.and_true (aI @Bool.true_and (aI @Bool.and_self (aI @Bool.not_false (aI @Bool.not_true (aI @List.length_nil.{0} (aI @List.length_cons.{0} (aI @List.nil_append.{0} (aI @List.cons_append.{0} (aI @List.append_nil.{0} (aI @List.getElem?_cons_zero.{0} (aI @List.getElem?_cons_succ.{0} (aI @List.length_map.{0,0} (@List.take_succ_cons.{0})))))))))))))))))))))))
def aLl:=aI @List.take_zero.{0} (aI @List.drop_zero.{0} (aI @List.drop_succ_cons.{0} (aI @List.drop_nil.{0} (aI @List.take_nil.{0} (aI @List.set_cons_zero.{0} (aI @List.set_cons_succ.{0} (aI @List.take_length.{0} (aI @List.zipIdx_cons.{0} (aI @List.zipIdx_nil.{0} (aI @Nat.zero_add (aI @Nat.add_zero (aI @Nat.le_refl (aI @Nat.sub_zero (aI @Nat.zero_le (aI @Int.toNat_natCast (aI @Int.natCast_nonneg (aI @decide_eq_true_eq (aI @decide_eq_false_iff_not (aI @Bool.not_eq_true' (aI @Bool.not_eq_false' (aI @Bool.false_eq_true (aI @Bool.true_eq_false (@Bool.and_eq_true)))))))))))))))))))))))
def aKS:=aI @not_true_eq_false (aI @not_false_eq_true (aI @false_implies (aI @true_implies (aI @true_and (aI @and_true (aI @decide_true (aI @decide_false (aI @Int.cast_ofNat_Int (aI @Go.Ai.cpos (aI @Go.Ai.cne (aI @Go.Ai.clt (@Go.Ai.tkm))))))))))))
def gop:=aI aKE (aI aLl (aKS))
end Go.Ai
