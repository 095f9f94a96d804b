/- Ends of one value; places in shared rows. -/
import Derived.Test.YtgamnnfndidclaaGreatDoorCAiGo4
import Derived.Test.YtgamnnfndidclaaGreatDoorCAiState
import Derived.KernelRfl
set_option linter.all false
namespace Go.Ai
theorem YV {d D:DV}{h:List AObj}(hs:d.closed=true)(e:d=D):eK 0 (fun h d=>h=[]∧d=D) (some [d]) h:=aD hs ⟨rfl,e⟩
theorem aG {b b' : Bool}{h:List AObj}(e:b=b'):eK 0 (fun h d=>h=[]∧d=.bool b') (some [.bool b]) h:=YV rfl (by rw [e])
theorem mK {k:IntKind}{n n' : Int}{h:List AObj}(e:n=n'):eK 0 (fun h d=>h=[]∧d=.int k n') (some [.int k n]) h:=YV rfl (by rw [e])
theorem gS {s s' : List UInt8}{h:List AObj}(e:s=s'):eK 0 (fun h d=>h=[]∧d=.str s') (some [.str s]) h:=YV rfl (by rw [e])
theorem aL {α:Type}{l:List α}{i:Nat}{K:α→Prop}(d:α)(h:i<l.length)(hk:K (l.getD i d)):fX l[i]? K:=⟨l.getD i d,by simp [h],hk⟩
theorem TJ {x:Int}(h0:0≤x)(h1:x<18446744073709551616):IntKind.u64.wrap x=x:=by
 simp [IntKind.wrap,IntKind.bits,IntKind.signed]; omega
theorem CH {x:Int}(h0 : -2147483648≤x)(h1:x<2147483648):IntKind.i32.wrap x=x:=by
 simp [IntKind.wrap,IntKind.bits,IntKind.signed]; omega
theorem wrap_u8 {x:Int}(h0:0≤x)(h1:x<256):IntKind.u8.wrap x=x:=by
 simp [IntKind.wrap,IntKind.bits,IntKind.signed]; omega
theorem bJ {sz i n n' : Nat}{es es' : List (List DV)}{h:List AObj}(hi:h[i]?=some (.arr sz es))(he:es=es')(hn:n=n'):eK 0 (fun h d=>h=[.arr sz es']∧d=.osl sz 0 0 n' none) (some [.osl sz i 0 n none]) h:=by
 subst he; subst hn
 have hlt:i<h.length:=(List.getElem?_eq_some_iff.1 hi).1
 have hg:h.getD i .dead=.arr sz es:=by simp [hi]
 refine ⟨_,rfl,[i],by simp,Nat.zero_le _,fun _ h=>by omega,fun l hl=>by simp at hl; omega,by simp [rvd,DV.inL],fun l hl=>?_,?_,?_⟩
 ·simp only [List.mem_singleton] at hl
  subst hl
  rw [hg]; rfl
 ·simp only [List.map_cons,List.map_nil,hg]; rfl
 ·simp [rvd,DV.ren]
theorem iQ {sz i n:Nat}{es:List (List DV)}{h:List AObj}{c:Option Nat}(hi:h[i]?=some (.arr sz es))(hn:n=es.length):DV.dn [] h (.osl sz i 0 n c)=.sl sz es:=by
 subst hn
 simp [DV.dn,DV.low,hi]
theorem aX {E:Env}{L:List (Nat×DV)}{h:List AObj}{f:Nat}{ds ds' : List DV}{H:List AObj}{D:DV}{K:DV→St→Prop}(hc:ACalls E f [] ds' (fun h d=>h=H∧d=D))(he:ds.map (DV.dn [] h)=ds')(hf:(D.free&&H.all iP)=true)
  (hk:K (D.ren (h.length + ·)) (sta L (h++H.map (aS (h.length + ·))))):acall E true f ds K (sta L h):=by
 refine .go ?_
 refine .inr (.inr ⟨false,[],fun h' d=>h' = H∧d=D,.inl rfl,List.nodup_nil,fun _ h=>by simp at h,?_,fun h' d e=>?_⟩)
 ·rw [show (sta L h).h=h from rfl,he]; exact hc
 ·obtain ⟨rfl,rfl⟩:=e
  refine ⟨.inr hf,?_⟩
  have e:upL (sta L h).h.length []=(h.length + ·):=by funext i; simp [upL]; rfl
  rw [e]
  have e2:(sta L h).handed false [] h' = sta L (h++h'.map (aS (h.length + ·))):=by
   unfold St.handed
   simp only [List.filter_nil,List.isEmpty_nil,Bool.or_true,if_true,List.map_nil,bP,List.length_nil,List.drop_zero,e]
   cases h' <;> rfl
  rw [e2]
  exact hk
theorem AG {sz i n n' : Nat}{c c' : Option Nat}{es es' : List (List DV)}{h:List AObj}(hi:h[i]?=some (.arr sz es))(he:es=es')(hn:n=n')(hc:c=c'):eK 0 (fun h d=>h=[.arr sz es']∧d=.osl sz 0 0 n' c') (some [.osl sz i 0 n c]) h:=by
 subst he; subst hn; subst hc
 have hlt:i<h.length:=(List.getElem?_eq_some_iff.1 hi).1
 have hg:h.getD i .dead=.arr sz es:=by simp [hi]
 refine ⟨_,rfl,[i],by simp,Nat.zero_le _,fun _ h=>by omega,fun l hl=>by simp at hl; omega,by simp [rvd,DV.inL],fun l hl=>?_,?_,?_⟩
 ·simp only [List.mem_singleton] at hl
  subst hl
  rw [hg]; rfl
 ·simp only [List.map_cons,List.map_nil,hg]; rfl
 ·simp [rvd,DV.ren]
theorem aCV {post:List AObj→DV→Prop}{ds:List DV}{h:List AObj}{sz:Nat}{es:List (List DV)}(hs:(rvd ds).closed=true)(hi:h[0]?=some (.arr sz es))(hp:post [.arr sz es] (rvd ds)):eK 1 post (some ds) h:=by
  have hlt:0<h.length:=(List.getElem?_eq_some_iff.1 hi).1
  have hg:h.getD 0 .dead=.arr sz es:=by rw [List.getD_eq_getElem?_getD,hi]; rfl
  refine ⟨ds, rfl, [0], by simp, Nat.le_refl _, fun i h => by obtain rfl : i = 0 := by omega
                                                              rfl,fun l hl=>by simp at hl; omega,bA hs,fun l hl=>?_,?_⟩
  · simp only [List.mem_singleton] at hl
    subst hl
    rw [hg]; rfl
  · simp only [List.map_cons,List.map_nil,hg]
    rw [aZ hs]
    exact hp
theorem qN (i:Nat):(fun l=>[i].contains l)=fun l=>l == i:=by funext l; rw [Bool.eq_iff_iff]; simp
theorem BE {E:Env}{L:List (Nat×DV)}{h:List AObj}{f:Nat}{ds ds' : List DV}{post:List AObj→DV→Prop}{K:DV→St→Prop}{i sz:Nat}{es:List (List DV)}(hi:h[i]?=some (.arr sz es))(hc:fN E true f [.arr sz es] ds' post)(he:ds.map (DV.dn [i] h)=ds')
  (hin:ds.all (DV.inL [i].contains)=true) (hk:∀ h' d,post h' d→∃ es',h' = [.arr sz es']∧d.closed=true∧K d (sta L (h.set i (.arr sz es')))):acall E true f ds K (sta L h):=by
 have hlt:i<h.length:=(List.getElem?_eq_some_iff.1 hi).1
 have hg:h.getD i .dead=.arr sz es:=by simp [hi]
 refine .go ?_
 refine .inr (.inr ⟨true,[i],post,.inl rfl,by simp,fun l hl=>by simp at hl; subst hl; exact hlt,?_,fun h' d hp=>?_⟩)
 ·rw [show (sta L h).h=h from rfl,he]
  simp only [List.map_cons,List.map_nil,hg,iU]
  exact hc
 ·obtain ⟨es',rfl,hd,hk⟩:=hk h' d hp
  refine ⟨.inl ?_,?_⟩
  ·rw [Bool.and_eq_true]
   refine ⟨hin,?_⟩
   simp only [List.all_cons,List.all_nil,Bool.and_true,show (sta L h).h=h from rfl,hg,inO]
  ·rw [aZ hd]
   have e:(sta L h).handed true [i] [AObj.arr sz es']=sta L (h.set i (.arr sz es')):=by
    unfold St.handed
    simp [aS,bP,sta]
   rw [e]; exact hk
def hd:ACode→ACode
 | .seq a _=>a
 | c=>c
def tl:ACode→ACode
 | .seq _ b=>b
 | c=>c
def bl:ACode→ACode
 | .block _ b=>b
 | c=>c
theorem kB {a b:ACode}:hd (.seq a b)=a:=rfl
theorem gT {a b:ACode}:tl (.seq a b)=b:=rfl
theorem cK {ρ:Nat→Option Nat}{h:List AObj}:∀ {d:DV},d.closed=true→d.low ρ h=d:=by
 intro d
 refine DV.rec (motive_1:=fun d=>d.closed=true→d.low ρ h=d) (motive_2:=fun l=>DV.closed.closedAll l=true→DV.low.lowAll ρ h l=l) (motive_3:=fun _=>True)
  ?_ ?_ ?_ ?_ ?_ ?_ ?_ ?_ ?_ ?_ ?_ ?_ ?_ ?_ ?_ ?_ ?_ ?_ ?_ ?_ ?_ ?_ ?_ ?_ ?_ ?_ d
 all_goals first
  | (intros; rfl)
  | (intros; simp_all [DV.closed,DV.low,DV.closed.closedAll,DV.low.lowAll]; done)
  | skip
theorem bM {α:Type}{f:α→α}:∀ {l:List α},(∀ d∈l,f d=d)→l.map f=l
 | [],_=>rfl
 | d::l,h=>by rw [List.map_cons,h d (by simp),bM fun d hd=>h d (by simp [hd])]
theorem dH {post:List AObj→DV→Prop}{ds:List DV}{h:List AObj}{cs:List DV}(hs:(rvd ds).closed=true)(hi:h[0]?=some (.box cs))(hc:cs.all DV.closed=true)(hp:post [.box cs] (rvd ds)):eK 1 post (some ds) h:=by
  have hlt:0<h.length:=(List.getElem?_eq_some_iff.1 hi).1
  have hg:h.getD 0 .dead=.box cs:=by rw [List.getD_eq_getElem?_getD,hi]; rfl
  refine ⟨ds, rfl, [0], by simp, Nat.le_refl _, fun i h => by obtain rfl : i = 0 := by omega
                                                              rfl,fun l hl=>by simp at hl; omega,bA hs,fun l hl=>?_,?_⟩
  · simp only [List.mem_singleton] at hl
    subst hl
    rw [hg]
    simp only [inO,List.all_eq_true] at *
    exact fun d hd=>bA (hc d hd)
  · have e:cs.map (DV.ren fun x=>List.idxOf x [0])=cs:=bM fun d hd=>aZ (List.all_eq_true.1 hc d hd)
    simp only [List.map_cons,List.map_nil,hg,aS]
    rw [aZ hs,e]
    exact hp
theorem iC {E:Env}{L:List (Nat×DV)}{h:List AObj}{f:Nat}{ds ds' : List DV}{post:List AObj→DV→Prop}{K:DV→St→Prop}{i:Nat}{cs:List DV}(hi:h[i]?=some (.box cs))(hcl:cs.all DV.closed=true)(hc:fN E false f [.box cs] ds' post)(he:ds.map (DV.dn [i] h)=ds')
  (hin:ds.all (DV.inL [i].contains)=true) (hk:∀ h' d,post h' d→∃ cs',h' = [.box cs']∧cs'.all DV.closed=true∧d.closed=true∧K d (sta L (h.set i (.box cs')))):acall E true f ds K (sta L h):=by
 have hlt:i<h.length:=(List.getElem?_eq_some_iff.1 hi).1
 have hg:h.getD i .dead=.box cs:=by simp [hi]
 have el:∀ ρ,cs.map (DV.low ρ h)=cs:=fun ρ=>bM fun d hd=>cK (List.all_eq_true.1 hcl d hd)
 refine .go ?_
 refine .inr (.inr ⟨false,[i],post,.inl rfl,by simp,fun l hl=>by simp at hl; subst hl; exact hlt,?_,fun h' d hp=>?_⟩)
 ·rw [show (sta L h).h=h from rfl,he]
  simp only [List.map_cons,List.map_nil,hg,iU,el]
  exact hc
 ·obtain ⟨cs',rfl,hcl',hd,hk⟩:=hk h' d hp
  refine ⟨.inl ?_,?_⟩
  ·rw [Bool.and_eq_true]
   refine ⟨hin,?_⟩
   simp only [List.all_cons,List.all_nil,Bool.and_true,show (sta L h).h=h from rfl,hg,inO,List.all_eq_true]
   exact fun d hd=>bA (List.all_eq_true.1 hcl d hd)
  ·rw [aZ hd]
   have er:∀ ρ,cs'.map (DV.ren ρ)=cs' := fun ρ=>bM fun d hd=>aZ (List.all_eq_true.1 hcl' d hd)
   have e:(sta L h).handed false [i] [AObj.box cs']=sta L (h.set i (.box cs')):=by
    unfold St.handed
    have e1:(List.filter (fun l => !eO (sta L h).h[l]?) [i])=[]:=by simp [show (sta L h).h=h from rfl,hi,eO]
    simp only [e1,List.isEmpty_nil,Bool.or_true,if_true,List.map_cons,List.map_nil,aS,er,bP,List.length_cons,List.length_nil,List.drop_succ_cons,List.drop_zero,List.append_nil]
    rfl
   rw [e]; exact hk
theorem EA {E:Env}{L:List (Nat×DV)}{h:List AObj}{f:Nat}{ds ds' : List DV}{post:List AObj→DV→Prop}{K:DV→St→Prop}{i:Nat}{cs:List DV}(hi:h[i]?=some (.box cs))(hcl:cs.all DV.closed=true)(hc:fN E false f [.box cs] ds' post)(he:ds.map (DV.dn [i] h)=ds')
  (hf:∀ h' d,post h' d→(d.free&&h'.all iP)=true) (hk:∀ h' d,post h' d→∃ cs',h' = [.box cs']∧cs'.all DV.closed=true∧d.closed=true∧K d (sta L (h.set i (.box cs')))):acall E true f ds K (sta L h):=by
 have hlt:i<h.length:=(List.getElem?_eq_some_iff.1 hi).1
 have hg:h.getD i .dead=.box cs:=by simp [hi]
 have el:∀ ρ,cs.map (DV.low ρ h)=cs:=fun ρ=>bM fun d hd=>cK (List.all_eq_true.1 hcl d hd)
 refine .go ?_
 refine .inr (.inr ⟨false,[i],post,.inl rfl,by simp,fun l hl=>by simp at hl; subst hl; exact hlt,?_,fun h' d hp=>?_⟩)
 ·rw [show (sta L h).h=h from rfl,he]
  simp only [List.map_cons,List.map_nil,hg,iU,el]
  exact hc
 ·obtain ⟨cs',rfl,hcl',hd,hk⟩:=hk h' d hp
  refine ⟨.inr (hf _ _ hp),?_⟩
  ·rw [aZ hd]
   have er:∀ ρ,cs'.map (DV.ren ρ)=cs' := fun ρ=>bM fun d hd=>aZ (List.all_eq_true.1 hcl' d hd)
   have e:(sta L h).handed false [i] [AObj.box cs']=sta L (h.set i (.box cs')):=by
    unfold St.handed
    have e1:(List.filter (fun l => !eO (sta L h).h[l]?) [i])=[]:=by simp [show (sta L h).h=h from rfl,hi,eO]
    simp only [e1,List.isEmpty_nil,Bool.or_true,if_true,List.map_cons,List.map_nil,aS,er,bP,List.length_cons,List.length_nil,List.drop_succ_cons,List.drop_zero,List.append_nil]
    rfl
   rw [e]; exact hk
theorem iR {E:Env}{b:Bool}{L:List (Nat×DV)}{h:List AObj}{f:Nat}{ds ds' : List DV}{H:List AObj}{D:DV}{K:DV→St→Prop}(hc:ACalls E f [] ds' (fun h d=>h=H∧d=D))(he:ds.map (DV.dn [] h)=ds')(hf:(D.free&&H.all iP)=true)
  (hk:K (D.ren (h.length + ·)) (sta L (h++H.map (aS (h.length + ·))))):acall E b f ds K (sta L h):=by
 refine .go ?_
 refine .inr (.inr ⟨false,[],fun h' d=>h' = H∧d=D,.inr ⟨rfl,rfl,H,D,rfl,rfl⟩,List.nodup_nil,fun _ h=>by simp at h,?_,fun h' d e=>?_⟩)
 ·rw [show (sta L h).h=h from rfl,he]; exact hc
 ·obtain ⟨rfl,rfl⟩:=e
  refine ⟨.inr hf,?_⟩
  have e:upL (sta L h).h.length []=(h.length + ·):=by funext i; simp [upL]; rfl
  rw [e]
  have e2:(sta L h).handed false [] h' = sta L (h++h'.map (aS (h.length + ·))):=by
   unfold St.handed
   simp only [List.filter_nil,List.isEmpty_nil,Bool.or_true,if_true,List.map_nil,bP,List.length_nil,List.drop_zero,e]
   cases h' <;> rfl
  rw [e2]
  exact hk
section
variable {α:Type} (lt:α→α→Bool)
structure Tot:Prop where
 asym:∀ x y,lt x y=true→lt y x=false
 tr:∀ x y z,lt y x=false→lt z y=false→lt z x=false
 anti:∀ x y,lt y x=false→lt x y=false→x=y
def Ri (l:List α):Prop:=l.Pairwise fun x y=>lt y x=false
def HH (x:α):List α→List α
 | []=>[x]
 | y::l=>if lt y x then y::HH x l else x::y::l
def iJ:List α→List α
 | []=>[]
 | x::l=>HH lt x (iJ l)
end
section
variable {α:Type} {lt:α→α→Bool}
theorem Tot.irr (T:Tot lt)(x:α):lt x x=false:=by
 cases h:lt x x with
 | false=>rfl
 | true=>have:=T.asym x x h; rw [h] at this; cases this
theorem vH (x:α):∀ l:List α,(HH lt x l).Perm (x::l)
 | []=>.refl _
 | y::l=>by
  unfold HH
  split
  ·exact ((vH x l).cons y).trans (.swap x y l)
  ·exact .refl _
theorem kY:∀ l:List α,(iJ lt l).Perm l
 | []=>.refl _
 | x::l=>(vH x _).trans ((kY l).cons x)
theorem UN (T:Tot lt)(x:α):∀ {l:List α},Ri lt l→Ri lt (HH lt x l)
 | [],_=>by simp [HH,Ri]
 | y::l,h=>by
  unfold HH
  obtain ⟨h1,h2⟩:=List.pairwise_cons.1 h
  split
  ·rename_i hyx
   refine List.pairwise_cons.2 ⟨fun z hz=>?_,UN T x h2⟩
   rcases List.mem_cons.1 ((vH x l).mem_iff.1 hz) with rfl|hz
   ·exact T.asym _ _ hyx
   ·exact h1 z hz
  ·rename_i hyx
   have hyx:lt y x=false:=by simpa using hyx
   refine List.pairwise_cons.2 ⟨fun z hz=>?_,h⟩
   rcases List.mem_cons.1 hz with rfl|hz
   ·exact hyx
   ·exact T.tr x y z hyx (h1 z hz)
theorem uH (T:Tot lt):∀ l:List α,Ri lt (iJ lt l)
 | []=>.nil
 | x::l=>UN T x (uH T l)
theorem aDc (T:Tot lt):∀ {a b:List α},Ri lt a→Ri lt b→a.Perm b→a=b
 | [],b,_,_,h=>h.symm.eq_nil.symm
 | x::a,[],_,_,h=>h.eq_nil
 | x::a,y::b,ha,hb,h=>by
  obtain ⟨h1,h2⟩:=List.pairwise_cons.1 ha
  obtain ⟨h3,h4⟩:=List.pairwise_cons.1 hb
  have e:x=y:=by
   rcases List.mem_cons.1 (h.mem_iff.1 List.mem_cons_self) with e|hx
   ·exact e
   rcases List.mem_cons.1 (h.mem_iff.2 List.mem_cons_self) with e|hy
   ·exact e.symm
   exact T.anti x y (h1 y hy) (h3 x hx)
  subst e
  rw [aDc T h2 h4 h.cons_inv]
theorem aEP (T:Tot lt){a l:List α}(h:Ri lt a)(hp:a.Perm l):a=iJ lt l:=aDc T h (uH T l) (hp.trans (kY l).symm)
theorem sR (l:List α):(iJ lt l).length=l.length:=(kY l).length_eq
theorem ri_app {a b:List α}:Ri lt (a++b)↔Ri lt a∧Ri lt b∧∀ x∈a,∀ y∈b,lt y x=false:=List.pairwise_append
end
theorem yN (a b:UInt8)(x y:List UInt8):Op.bytesLess (a::x) (b::y)=(decide (a.toNat<b.toNat)||(decide (a.toNat=b.toNat)&&Op.bytesLess x y)):=by
 have h:Op.bytesLess (a::x) (b::y)=(decide (a<b)||(a == b&&Op.bytesLess x y)):=rfl
 rw [h]
 have h1:decide (a<b)=decide (a.toNat<b.toNat):=by simp [UInt8.lt_iff_toNat_lt]
 have h2:(a == b)=decide (a.toNat=b.toNat):=by
  rw [Bool.eq_iff_iff]; simp [UInt8.toNat_inj]
 rw [h1,h2]
theorem GP (x:List UInt8):Op.bytesLess x []=false:=by cases x <;> rfl
theorem zX:∀ x y:List UInt8,Op.bytesLess x y=true→Op.bytesLess y x=false
 | x,[],h=>by rw [GP] at h; cases h
 | [],y::l,_=>GP _
 | a::x,b::y,h=>by
  rw [yN] at h ⊢
  have ih:=zX x y
  simp only [Bool.or_eq_true,Bool.and_eq_true,decide_eq_true_eq] at h
  rcases h with h|⟨h1,h2⟩
  ·rw [decide_eq_false (by omega),decide_eq_false (by omega)]; rfl
  ·rw [decide_eq_false (by omega),ih h2]; simp
theorem RO:∀ x y z:List UInt8,Op.bytesLess y x=false→Op.bytesLess z y=false→Op.bytesLess z x=false
 | [],_,z,_,_=>GP z
 | a::x,[],z,h,_=>by simp [Op.bytesLess] at h
 | a::x,b::y,[],_,h=>by simp [Op.bytesLess] at h
 | a::x,b::y,c::z,h1,h2=>by
  rw [yN] at h1 h2 ⊢
  have ih:=RO x y z
  simp only [Bool.or_eq_false_iff,Bool.and_eq_false_imp,decide_eq_false_iff_not,decide_eq_true_eq] at h1 h2 ⊢
  refine ⟨by omega,fun e=>ih (h1.2 (by omega)) (h2.2 (by omega))⟩
theorem AA:∀ x y:List UInt8,Op.bytesLess y x=false→Op.bytesLess x y=false→x=y
 | [],[],_,_=>rfl
 | [],b::y,_,h=>by simp [Op.bytesLess] at h
 | a::x,[],h,_=>by simp [Op.bytesLess] at h
 | a::x,b::y,h1,h2=>by
  rw [yN] at h1 h2
  simp only [Bool.or_eq_false_iff,Bool.and_eq_false_imp,decide_eq_false_iff_not,decide_eq_true_eq] at h1 h2
  have e:a.toNat=b.toNat:=by omega
  rw [UInt8.toNat_inj.1 e,AA x y (h1.2 e.symm) (h2.2 e)]
theorem bl_tot:Tot Op.bytesLess:=⟨zX,RO,AA⟩
section
variable {α:Type} (lt:α→α→Bool) (d0:α)
def sw2 (l:List α)(j:Nat):List α:=(l.set j (l.getD (j - 1) d0)).set (j - 1) (l.getD j d0)
def sG (a:Nat):Nat→List α→List α
 | 0,l=>l
 | j+1,l=>if a<j+1∧lt (l.getD (j+1) d0) (l.getD j d0)=true then sG a j (sw2 d0 l (j+1)) else l
def oH (a:Nat):Nat→List α→List α
 | 0,l=>l
 | k+1,l=>sG lt d0 a (a+(k+1)) (oH a k l)
end
section
variable {α:Type} {lt:α→α→Bool} {d0:α}
theorem KH (l:List α)(j:Nat):(sw2 d0 l j).length=l.length:=by simp [sw2]
theorem BC (a:Nat):∀ (j:Nat)(l:List α),(sG lt d0 a j l).length=l.length
 | 0,_=>rfl
 | j+1,l=>by
  unfold sG
  split
  ·rw [BC a j,KH]
  ·rfl
theorem DB (a:Nat):∀ (k:Nat)(l:List α),(oH lt d0 a k l).length=l.length
 | 0,_=>rfl
 | k+1,l=>by rw [oH,BC,DB a k]
theorem pF (p r:List α)(x:α):(p++x::r).getD p.length d0=x:=by simp [List.getD_eq_getElem?_getD]
theorem aBn (p r:List α)(x y:α):sw2 d0 (p++y::x::r) (p.length+1)=p++x::y::r:=by
 unfold sw2
 have h1:(p++y::x::r).getD (p.length+1 - 1) d0=y:=by rw [Nat.add_sub_cancel]; exact pF p _ y
 have h2:(p++y::x::r).getD (p.length+1) d0=x:=by
  have:=pF (d0:=d0) (p++[y]) r x
  simpa using this
 rw [h1,h2,Nat.add_sub_cancel]
 rw [List.set_append_right _ _ (by omega),Nat.add_sub_cancel_left,List.set_append_right _ _ (by omega),Nat.sub_self]
 rfl
theorem DI (T:Tot lt)(p:List α)(x:α):∀ (n:Nat)(q r:List α),q.length=n→Ri lt q →
  ∃ q',Ri lt q' ∧ q'.Perm (x::q)∧sG lt d0 p.length (p.length+n) (p++(q++x::r))=p++(q' ++ r)∧(∃ q1 q2,q=q1++q2∧q' = q1++x::q2∧∀ y∈q2,lt x y=true)
 | 0,q,r,hn,_=>by
  obtain rfl:q=[]:=List.eq_nil_of_length_eq_zero hn
  refine ⟨[x],by simp [Ri],.refl _,?_,[],[],rfl,rfl,by simp⟩
  rw [Nat.add_zero]
  cases hp:p.length with
  | zero=>rfl
  | succ k=>
   unfold sG
   rw [if_neg (by omega)]
   rfl
 | n+1,q,r,hn,hq=>by
  obtain ⟨q0,y,rfl⟩:∃ q0 y,q=q0++[y]:=by
   refine ⟨q.dropLast,q.getLast (by intro h; subst h; simp at hn),?_⟩
   exact (List.dropLast_concat_getLast _).symm
  have hn0:q0.length=n:=by simpa using hn
  obtain ⟨r1,r2,r3⟩:=ri_app.1 hq
  have e1:(p++(q0++[y]++x::r))=(p++q0)++y::x::r:=by simp
  have hl:(p++q0).length=p.length+n:=by simp [hn0]
  have g1:(p++(q0++[y]++x::r)).getD (p.length+n) d0=y:=by rw [e1,← hl]; exact pF _ _ y
  have g2:(p++(q0++[y]++x::r)).getD (p.length+n+1) d0=x:=by
   have:=pF (d0:=d0) (p++q0++[y]) r x
   rw [show (p++q0++[y]).length=p.length+n+1 by simp [hn0]; omega] at this
   have e:p++(q0++[y]++x::r)=p++q0++[y]++x::r:=by simp
   rw [e]; exact this
  rw [show p.length+(n+1)=(p.length+n)+1 by omega]
  unfold sG
  rw [g1,g2]
  split
  ·rename_i hc
   have hs:sw2 d0 (p++(q0++[y]++x::r)) (p.length+n+1)=p++(q0++x::(y::r)):=by
    rw [e1,← hl,aBn]; simp
   rw [hs]
   obtain ⟨q',h1,h2,h3,q1,q2,e,e',h4⟩:=DI T p x n q0 (y::r) hn0 r1
   refine ⟨q' ++ [y],?_,?_,by rw [h3]; simp,q1,q2++[y],by rw [e]; simp,by rw [e']; simp,fun z hz=>?_⟩
   ·subst e; subst e'
    refine ri_app.2 ⟨h1,by simp [Ri],fun u hu v hv=>?_⟩
    obtain rfl:v=y:=by simpa using hv
    rcases List.mem_append.1 hu with hu|hu
    ·exact r3 u (by simp [hu]) _ (by simp)
    ·rcases List.mem_cons.1 hu with rfl|hu
     ·exact T.asym _ _ hc.2
     ·exact r3 u (by simp [hu]) _ (by simp)
   ·exact (h2.append_right [y]).trans (by simp)
   ·rcases List.mem_append.1 hz with hz|hz
    ·exact h4 z hz
    ·obtain rfl:z=y:=by simpa using hz
     exact hc.2
  ·rename_i hc
   have hc:lt x y=false:=by
    cases h:lt x y with
    | false=>rfl
    | true=>exact absurd ⟨by omega,h⟩ hc
   refine ⟨q0++[y]++[x],?_,?_,by simp,q0++[y],[],by simp,by simp,by simp⟩
   ·refine ri_app.2 ⟨hq,by simp [Ri],fun u hu v hv=>?_⟩
    obtain rfl:v=x:=by simpa using hv
    rcases List.mem_append.1 hu with hu|hu
    ·exact T.tr u y _ (r3 u hu y (by simp)) hc
    ·obtain rfl:u=y:=by simpa using hu
     exact hc
   ·exact List.perm_append_comm
theorem CK (T:Tot lt)(p:List α):∀ (k:Nat)(q r:List α),q.length=k+1→oH lt d0 p.length k (p++(q++r))=p++(iJ lt q++r)
 | 0,q,r,hq=>by
  obtain ⟨x,rfl⟩:∃ x,q=[x]:=by
   match q,hq with
   | [x],_=>exact ⟨x,rfl⟩
  rfl
 | k+1,q,r,hq=>by
  obtain ⟨q0,y,rfl⟩:∃ q0 y,q=q0++[y]:=by
   refine ⟨q.dropLast,q.getLast (by intro h; subst h; simp at hq),?_⟩
   exact (List.dropLast_concat_getLast _).symm
  have hq0:q0.length=k+1:=by simpa using hq
  have ih:=CK T p k q0 (y::r) hq0
  unfold oH
  rw [show p++(q0++[y]++r)=p++(q0++y::r) by simp,ih]
  obtain ⟨q',h1,h2,h3,_⟩:=DI (d0:=d0) T p y (k+1) (iJ lt q0) r (by rw [sR,hq0]) (uH T q0)
  rw [h3,aEP T h1 (l:=q0++[y]) (h2.trans (((kY q0).cons y).trans (List.perm_append_comm (l₁:=[y]) (l₂:=q0))))]
theorem RY (T:Tot lt)(l:List α):oH lt d0 0 (l.length - 1) l=iJ lt l:=by
 cases l with
 | nil=>rfl
 | cons x l=>
  have:=CK (d0:=d0) T [] l.length (x::l) [] (by simp)
  simpa using this
end
section
variable {α:Type} (lt:α→α→Bool) (d0:α)
def St2 (l:List α):Prop:=l.Pairwise fun x y=>lt x y=true
def cpK [DecidableEq α](l:List α):Nat→List α
 | 0=>[]
 | i+1=>if 0<i∧l.getD i d0=l.getD (i - 1) d0 then cpK l i else cpK l i++[l.getD i d0]
end
section
variable {α:Type} {lt:α→α→Bool} {d0:α}
theorem vR [DecidableEq α](l:List α):∀ i,(cpK d0 l i).length≤i
 | 0=>Nat.le_refl _
 | i+1=>by
  have:=vR l i
  unfold cpK
  split
  ·omega
  ·simp; omega
theorem RK [DecidableEq α](l:List α)(i:Nat)(hi:i≤l.length)(h:∀ k,0<k→k<i→l.getD k d0≠l.getD (k - 1) d0):cpK d0 l i=l.take i:=by
 induction i with
 | zero=>rfl
 | succ i ih=>
  unfold cpK
  rw [if_neg (fun q=>h i q.1 (by omega) q.2),ih (by omega) fun k h1 h2=>h k h1 (by omega)]
  rw [List.getD_eq_getElem?_getD,List.getElem?_eq_getElem (by omega:i<l.length)]
  simp
theorem XL (T:Tot lt):∀ {a b:List α},St2 lt a→St2 lt b→(∀ x,x∈a↔x∈b)→a=b
 | [],[],_,_,_=>rfl
 | [],y::b,_,_,h=>by have:=(h y).2 (by simp); cases this
 | x::a,[],_,_,h=>by have:=(h x).1 (by simp); cases this
 | x::a,y::b,ha,hb,h=>by
  obtain ⟨h1,h2⟩:=List.pairwise_cons.1 ha
  obtain ⟨h3,h4⟩:=List.pairwise_cons.1 hb
  have e:x=y:=by
   rcases List.mem_cons.1 ((h x).1 (by simp)) with e|hx
   ·exact e
   rcases List.mem_cons.1 ((h y).2 (by simp)) with e|hy
   ·exact e.symm
   ·have q1:=h3 x hx
    have q2:=h1 y hy
    rw [T.asym _ _ q1] at q2; cases q2
  subst e
  have hnx:∀ {l:List α},(∀ z∈l,lt x z=true)→x∉l:=fun hl hm=>by have:=hl x hm; rw [T.irr] at this; cases this
  rw [XL T h2 h4 fun z=>?_]
  constructor
  ·intro hz
   rcases List.mem_cons.1 ((h z).1 (by simp [hz])) with rfl|q
   ·exact absurd hz (hnx h1)
   ·exact q
  ·intro hz
   rcases List.mem_cons.1 ((h z).2 (by simp [hz])) with rfl|q
   ·exact absurd hz (hnx h3)
   ·exact q
theorem QX {l:List α}(h:Ri lt l){i j:Nat}(hij:i<j)(hj:j<l.length):lt (l.getD j d0) (l.getD i d0)=false:=by
 have:=List.pairwise_iff_getElem.1 h i j (by omega) hj hij
 rw [List.getD_eq_getElem?_getD,List.getElem?_eq_getElem hj,List.getD_eq_getElem?_getD,List.getElem?_eq_getElem (by omega:i<l.length)]
 exact this
theorem CO {l:List α}{i:Nat}(hi:i≤l.length){x:α}(h:x∈l.take i):∃ j,j<i∧x=l.getD j d0:=by
 obtain ⟨j,hj,rfl⟩:=List.mem_iff_getElem.1 h
 rw [List.length_take] at hj
 refine ⟨j,by omega,?_⟩
 rw [List.getD_eq_getElem?_getD,List.getElem?_eq_getElem (by omega:j<l.length)]
 simp
theorem BV [DecidableEq α](T:Tot lt){l:List α}(hl:Ri lt l):∀ i,i≤l.length→St2 lt (cpK d0 l i)∧∀ x,x∈cpK d0 l i↔x∈l.take i
 | 0,_=>⟨.nil,fun x=>by simp [cpK]⟩
 | i+1,hi=>by
  obtain ⟨h1,h2⟩:=BV T hl i (by omega)
  have hlt:i<l.length:=hi
  have htk:l.take (i+1)=l.take i++[l.getD i d0]:=by
   rw [List.getD_eq_getElem?_getD,List.getElem?_eq_getElem hlt]; simp
  unfold cpK
  split
  ·rename_i hc
   refine ⟨h1,fun x=>?_⟩
   rw [h2,htk,List.mem_append]
   constructor
   ·exact .inl
   ·rintro (h|h)
    ·exact h
    ·obtain rfl:x=l.getD i d0:=by simpa using h
     rw [hc.2]
     rw [List.getD_eq_getElem?_getD,List.getElem?_eq_getElem (by omega:i - 1<l.length)]
     exact List.mem_take_iff_getElem.2 ⟨i - 1,by omega,rfl⟩
  ·rename_i hc
   refine ⟨List.pairwise_append.2 ⟨h1,by simp,fun y hy z hz=>?_⟩,fun x=>?_⟩
   ·obtain rfl:z=l.getD i d0:=by simpa using hz
    obtain ⟨j,hj,rfl⟩:=CO (d0:=d0) (by omega) ((h2 y).1 hy)
    have q1:=QX (d0:=d0) hl hj hlt
    cases q2:lt (l.getD j d0) (l.getD i d0) with
    | true=>rfl
    | false=>
     exfalso
     have e:=T.anti _ _ q1 q2
     refine hc ⟨by omega,?_⟩
     rcases Nat.lt_or_ge j (i - 1) with hj2|hj2
     ·have q3:=QX (d0:=d0) hl hj2 (by omega)
      rw [e] at q3
      have q4:=QX (d0:=d0) hl (show i - 1<i by omega) hlt
      exact T.anti _ _ q3 q4
     ·rw [← e,show j=i - 1 by omega]
   ·rw [List.mem_append,h2,htk,List.mem_append]
theorem CB [DecidableEq α](T:Tot lt){l:List α}(hl:Ri lt l):St2 lt (cpK d0 l l.length)∧∀ x,x∈cpK d0 l l.length↔x∈l:=by
 have:=BV (d0:=d0) T hl l.length (Nat.le_refl _)
 rw [List.take_length] at this
 exact this
end
def hO (l:List (List UInt8)):List (List UInt8):=(cpK [] (iJ Op.bytesLess l) l.length).filter fun s => !decide (s=[])
theorem EO (l:List (List UInt8))(x:List UInt8):x∈hO l↔x∈l∧x≠[]:=by
 unfold hO
 have h:=(CB (d0:=[]) bl_tot (uH bl_tot l)).2 x
 rw [sR] at h
 rw [List.mem_filter,h,(kY l).mem_iff]
 simp
theorem OF (l:List (List UInt8)):St2 Op.bytesLess (hO l):=by
 unfold hO
 have h:=(CB (d0:=[]) bl_tot (uH bl_tot l)).1
 rw [sR] at h
 exact h.sublist List.filter_sublist
end Go.Ai

namespace Go.Proofs.Ut
def gO (b:UInt8):List UInt8:=if b=92 then [92,92] else if b=44 then [92,44] else if b=59 then [92,59] else if b=10 then [92,110] else if b=13 then [] else [b]
def aO (s:List UInt8):List UInt8:=s.flatMap gO
def spB (b:UInt8):Bool:=decide (b=92)||decide (b=44)||decide (b=59)||decide (b=10)||decide (b=13)
theorem gA (b:UInt8):(b=92∨b=44∨b=59∨b=10∨b=13)∨(spB b=false∧gO b=[b]∧b.toNat≠92∧b.toNat≠44∧b.toNat≠59∧b.toNat≠10∧b.toNat≠13):=by
 by_cases h1:b=92
 ·exact .inl (.inl h1)
 by_cases h2:b=44
 ·exact .inl (.inr (.inl h2))
 by_cases h3:b=59
 ·exact .inl (.inr (.inr (.inl h3)))
 by_cases h4:b=10
 ·exact .inl (.inr (.inr (.inr (.inl h4))))
 by_cases h5:b=13
 ·exact .inl (.inr (.inr (.inr (.inr h5))))
 ·have k:∀ c:UInt8,b≠c→b.toNat≠c.toNat:=fun c h e=>h (UInt8.toNat_inj.1 e)
  exact .inr ⟨by simp [spB,h1,h2,h3,h4,h5],by simp [gO,h1,h2,h3,h4,h5],k 92 h1,k 44 h2,k 59 h3,k 10 h4,k 13 h5⟩
theorem SD (b:UInt8):(gO b).length≤2:=by
 unfold gO; repeat' split
 all_goals simp
theorem tN:∀ s:List UInt8,(aO s).length≤2*s.length
 | []=>Nat.le_refl _
 | b::s=>by
  have h1:=tN s
  have h2:=SD b
  simp only [aO,List.flatMap_cons,List.length_append,List.length_cons] at *
  omega
theorem vF:∀ s:List UInt8,s.any spB=false→aO s=s
 | [],_=>rfl
 | b::s,h=>by
  simp only [List.any_cons,Bool.or_eq_false_iff] at h
  have h1:=vF s h.2
  rcases gA b with hb|⟨_,e,_⟩
  ·rcases hb with rfl|rfl|rfl|rfl|rfl <;> simp [spB] at h
  ·simp only [aO,List.flatMap_cons] at *
   rw [h1,e]; rfl
theorem xA (a b:List UInt8):aO (a++b)=aO a++aO b:=by simp [aO]
theorem DM (s:List UInt8)(j:Nat)(h:j<s.length):s.take (j+1)=s.take j++[s.getD j 0]:=by
 rw [List.take_add_one,List.getElem?_eq_getElem h,List.getD_eq_getElem?_getD,List.getElem?_eq_getElem h]; rfl
theorem wC (s:List UInt8)(j:Nat)(h:j<s.length):aO (s.take (j+1))=aO (s.take j)++gO (s.getD j 0):=by
 rw [DM s j h,xA]; simp [aO]
theorem TX (s:List UInt8)(j:Nat)(h:j<s.length):(s.take (j+1)).any spB=((s.take j).any spB||spB (s.getD j 0)):=by
 rw [DM s j h,List.any_append]; simp
theorem nF (s:List UInt8)(j:Nat):(aO (s.take j)).length≤(aO s).length:=by
 have:aO s=aO (s.take j)++aO (s.drop j):=by rw [← xA,List.take_append_drop]
 rw [this]; simp
theorem rT:∀ s:List UInt8,(aO s).length+s.count 13=s.length+s.count 10+s.count 59+s.count 44+s.count 92
 | []=>rfl
 | b::s=>by
  have h:=rT s
  have e:aO (b::s)=gO b++aO s:=by simp [aO]
  rw [e,List.length_append,List.length_cons]
  simp only [List.count_cons]
  rcases gA b with hb|⟨_,e,k1,k2,k3,k4,k5⟩
  ·rcases hb with rfl|rfl|rfl|rfl|rfl
   ·simp [gO]; omega
   ·simp [gO]; omega
   ·simp [gO]; omega
   ·simp [gO]; omega
   ·simp [gO]; omega
  ·have n1:(b == 92)=false:=by simp; intro e; exact k1 (by rw [e]; rfl)
   have n2:(b == 44)=false:=by simp; intro e; exact k2 (by rw [e]; rfl)
   have n3:(b == 59)=false:=by simp; intro e; exact k3 (by rw [e]; rfl)
   have n4:(b == 10)=false:=by simp; intro e; exact k4 (by rw [e]; rfl)
   have n5:(b == 13)=false:=by simp; intro e; exact k5 (by rw [e]; rfl)
   rw [e,n1,n2,n3,n4,n5]
   simp
   omega
theorem PJ (s:List UInt8):s.any spB=(!decide (s.count 13=0) || !decide (s.count 10=0) || !decide (s.count 59=0) || !decide (s.count 44=0) || !decide (s.count 92=0)):=by
 rw [Bool.eq_iff_iff]
 simp only [List.any_eq_true,spB,Bool.or_eq_true,decide_eq_true_eq,Bool.not_eq_true',decide_eq_false_iff_not]
 have k:∀ c:UInt8,¬ s.count c=0↔c∈s:=fun c=>by rw [← List.count_pos_iff]; omega
 rw [k,k,k,k,k]
 constructor
 ·rintro ⟨b,hb,h⟩
  rcases h with (((rfl|rfl)|rfl)|rfl)|rfl <;> simp [hb]
 ·rintro ((((h|h)|h)|h)|h)
  all_goals exact ⟨_,h,by simp⟩
def aR (c:UInt8):List UInt8→List (List UInt8)
 | []=>[[]]
 | b::s=>if b=c then []::aR c s else match aR c s with
  | []=>[[b]]
  | x::l=>(b::x)::l
theorem pQ (c:UInt8):∀ x:List UInt8,c∉x→aR c x=[x]
 | [],_=>rfl
 | b::x,h=>by
  simp only [List.mem_cons,not_or] at h
  unfold aR
  rw [if_neg (fun e=>h.1 e.symm),pQ c x h.2]
theorem nE (c:UInt8)(r:List UInt8):∀ x:List UInt8,c∉x→aR c (x++c::r)=x::aR c r
 | [],_=>by simp [aR]
 | b::x,h=>by
  simp only [List.mem_cons,not_or] at h
  rw [List.cons_append]
  conv=>lhs; unfold aR
  rw [if_neg (fun e=>h.1 e.symm),nE c r x h.2]
theorem nM (c:UInt8)(s:List UInt8):aR c s≠[]:=by
 cases s with
 | nil=>simp [aR]
 | cons b s=>
  unfold aR
  split
  ·simp
  ·split <;> simp
def cC (x:List UInt8):Bool := !decide (x=[]) && !decide (x.head?=some 45) && !decide (x.getLast?=some 45)
def bF (s:List UInt8):List UInt8:=if s.getLast?=some 46 then s.dropLast else s
def kS (d:List UInt8):Bool:=decide (d.length≤100)&&(aR 46 d).all cC
theorem MN:kS []=false:=by decide
def dF (x:List UInt8×Int):List UInt8×Int:=if x.2≠0 then ([],x.2) else if kS (bF x.1)=false then ([],14) else (bF x.1,0)
def bO (x:List UInt8×Int)(is:Bool)(most:Nat):List UInt8×Int:=if x.2≠0 then ([],x.2) else if is=true∧(x.1=[]∨most<x.1.length) then ([],14) else x
def iI (L D R:List UInt8×Int):List UInt8×Int:=if D.2≠0 then ([],D.2) else if L.2≠0 then ([],L.2) else if R.2≠0 then ([],R.2) else if R.1≠[] then ([],14) else (if L.1=[] then D.1 else L.1++64::D.1,0)
end Go.Proofs.Ut
