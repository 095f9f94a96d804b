/- Ends of one value; places in shared rows. -/
import Derived.Test.YtgamnnfndidclaaGreatDoorGAiGo4
import Derived.Test.YtgamnnfndidclaaGreatDoorGAiState
import Derived.KernelRfl
set_option linter.all false
namespace Go.Ai
theorem RD {d D:DV}{h:List AObj}(hs:d.closed=true)(e:d=D):dY 0 (fun h d=>h=[]∧d=D) (some [d]) h:=aC hs ⟨rfl,e⟩
theorem aJ {b b' : Bool}{h:List AObj}(e:b=b'):dY 0 (fun h d=>h=[]∧d=.bool b') (some [.bool b]) h:=RD rfl (by rw [e])
theorem qK {k:IntKind}{n n' : Int}{h:List AObj}(e:n=n'):dY 0 (fun h d=>h=[]∧d=.int k n') (some [.int k n]) h:=RD rfl (by rw [e])
theorem kV {s s' : List UInt8}{h:List AObj}(e:s=s'):dY 0 (fun h d=>h=[]∧d=.str s') (some [.str s]) h:=RD rfl (by rw [e])
theorem aU {α:Type}{l:List α}{i:Nat}{K:α→Prop}(d:α)(h:i<l.length)(hk:K (l.getD i d)):eT l[i]? K:=⟨l.getD i d,by simp [h],hk⟩
theorem NQ {x:Int}(h0:0≤x)(h1:x<18446744073709551616):IntKind.u64.wrap x=x:=by
 simp [IntKind.wrap,IntKind.bits,IntKind.signed]; omega
theorem NN {x:Int}(h0 : -2147483648≤x)(h1:x<2147483648):IntKind.i32.wrap x=x:=by
 simp [IntKind.wrap,IntKind.bits,IntKind.signed]; omega
theorem wrap_u8 {x:Int}(h0:0≤x)(h1:x<256):IntKind.u8.wrap x=x:=by
 simp [IntKind.wrap,IntKind.bits,IntKind.signed]; omega
theorem bO {sz i n n' : Nat}{es es' : List (List DV)}{h:List AObj}(hi:h[i]?=some (.arr sz es))(he:es=es')(hn:n=n'):dY 0 (fun h d=>h=[.arr sz es']∧d=.osl sz 0 0 n' none) (some [.osl sz i 0 n none]) h:=by
 subst he; subst hn
 have hlt:i<h.length:=(List.getElem?_eq_some_iff.1 hi).1
 have hg:h.getD i .dead=.arr sz es:=by simp [hi]
 refine ⟨_,rfl,[i],by simp,Nat.zero_le _,fun _ h=>by omega,fun l hl=>by simp at hl; omega,by simp [rvd,DV.inL],fun l hl=>?_,?_,?_⟩
 ·simp only [List.mem_singleton] at hl
  subst hl
  rw [hg]; rfl
 ·simp only [List.map_cons,List.map_nil,hg]; rfl
 ·simp [rvd,DV.ren]
theorem pZ {sz i n:Nat}{es:List (List DV)}{h:List AObj}{c:Option Nat}(hi:h[i]?=some (.arr sz es))(hn:n=es.length):DV.dn [] h (.osl sz i 0 n c)=.sl sz es:=by
 subst hn
 simp [DV.dn,DV.low,hi]
theorem bH {E:Env}{L:List (Nat×DV)}{h:List AObj}{f:Nat}{ds ds' : List DV}{H:List AObj}{D:DV}{K:DV→St→Prop}(hc:ACalls E f [] ds' (fun h d=>h=H∧d=D))(he:ds.map (DV.dn [] h)=ds')(hf:(D.free&&H.all iD)=true)
  (hk:K (D.ren (h.length + ·)) (sta L (h++H.map (aR (h.length + ·))))):acall E true f ds K (sta L h):=by
 refine .go ?_
 refine .inr (.inr ⟨false,[],fun h' d=>h' = H∧d=D,.inl rfl,List.nodup_nil,fun _ h=>by simp at h,?_,fun h' d e=>?_⟩)
 ·rw [show (sta L h).h=h from rfl,he]; exact hc
 ·obtain ⟨rfl,rfl⟩:=e
  refine ⟨.inr hf,?_⟩
  have e:upL (sta L h).h.length []=(h.length + ·):=by funext i; simp [upL]; rfl
  rw [e]
  have e2:(sta L h).handed false [] h' = sta L (h++h'.map (aR (h.length + ·))):=by
   unfold St.handed
   simp only [List.filter_nil,List.isEmpty_nil,Bool.or_true,if_true,List.map_nil,bB,List.length_nil,List.drop_zero,e]
   cases h' <;> rfl
  rw [e2]
  exact hk
theorem wR {sz i n n' : Nat}{c c' : Option Nat}{es es' : List (List DV)}{h:List AObj}(hi:h[i]?=some (.arr sz es))(he:es=es')(hn:n=n')(hc:c=c'):dY 0 (fun h d=>h=[.arr sz es']∧d=.osl sz 0 0 n' c') (some [.osl sz i 0 n c]) h:=by
 subst he; subst hn; subst hc
 have hlt:i<h.length:=(List.getElem?_eq_some_iff.1 hi).1
 have hg:h.getD i .dead=.arr sz es:=by simp [hi]
 refine ⟨_,rfl,[i],by simp,Nat.zero_le _,fun _ h=>by omega,fun l hl=>by simp at hl; omega,by simp [rvd,DV.inL],fun l hl=>?_,?_,?_⟩
 ·simp only [List.mem_singleton] at hl
  subst hl
  rw [hg]; rfl
 ·simp only [List.map_cons,List.map_nil,hg]; rfl
 ·simp [rvd,DV.ren]
theorem WA {post:List AObj→DV→Prop}{ds:List DV}{h:List AObj}{sz:Nat}{es:List (List DV)}(hs:(rvd ds).closed=true)(hi:h[0]?=some (.arr sz es))(hp:post [.arr sz es] (rvd ds)):dY 1 post (some ds) h:=by
  have hlt:0<h.length:=(List.getElem?_eq_some_iff.1 hi).1
  have hg:h.getD 0 .dead=.arr sz es:=by rw [List.getD_eq_getElem?_getD,hi]; rfl
  refine ⟨ds, rfl, [0], by simp, Nat.le_refl _, fun i h => by obtain rfl : i = 0 := by omega
                                                              rfl,fun l hl=>by simp at hl; omega,bC hs,fun l hl=>?_,?_⟩
  · simp only [List.mem_singleton] at hl
    subst hl
    rw [hg]; rfl
  · simp only [List.map_cons,List.map_nil,hg]
    rw [bD hs]
    exact hp
theorem mA (i:Nat):(fun l=>[i].contains l)=fun l=>l == i:=by funext l; rw [Bool.eq_iff_iff]; simp
theorem qT {E:Env}{L:List (Nat×DV)}{h:List AObj}{f:Nat}{ds ds' : List DV}{post:List AObj→DV→Prop}{K:DV→St→Prop}{i sz:Nat}{es:List (List DV)}(hi:h[i]?=some (.arr sz es))(hc:eK E true f [.arr sz es] ds' post)(he:ds.map (DV.dn [i] h)=ds')
  (hin:ds.all (DV.inL [i].contains)=true) (hk:∀ h' d,post h' d→∃ es',h' = [.arr sz es']∧d.closed=true∧K d (sta L (h.set i (.arr sz es')))):acall E true f ds K (sta L h):=by
 have hlt:i<h.length:=(List.getElem?_eq_some_iff.1 hi).1
 have hg:h.getD i .dead=.arr sz es:=by simp [hi]
 refine .go ?_
 refine .inr (.inr ⟨true,[i],post,.inl rfl,by simp,fun l hl=>by simp at hl; subst hl; exact hlt,?_,fun h' d hp=>?_⟩)
 ·rw [show (sta L h).h=h from rfl,he]
  simp only [List.map_cons,List.map_nil,hg,jV]
  exact hc
 ·obtain ⟨es',rfl,hd,hk⟩:=hk h' d hp
  refine ⟨.inl ?_,?_⟩
  ·rw [Bool.and_eq_true]
   refine ⟨hin,?_⟩
   simp only [List.all_cons,List.all_nil,Bool.and_true,show (sta L h).h=h from rfl,hg,inO]
  ·rw [bD hd]
   have e:(sta L h).handed true [i] [AObj.arr sz es']=sta L (h.set i (.arr sz es')):=by
    unfold St.handed
    simp [aR,bB,sta]
   rw [e]; exact hk
def hd:ACode→ACode
 | .seq a _=>a
 | c=>c
def tl:ACode→ACode
 | .seq _ b=>b
 | c=>c
theorem gU {a b:ACode}:hd (.seq a b)=a:=rfl
theorem eU {a b:ACode}:tl (.seq a b)=b:=rfl
theorem cY {ρ:Nat→Option Nat}{h:List AObj}:∀ {d:DV},d.closed=true→d.low ρ h=d:=by
 intro d
 refine DV.rec (motive_1:=fun d=>d.closed=true→d.low ρ h=d) (motive_2:=fun l=>DV.closed.closedAll l=true→DV.low.lowAll ρ h l=l) (motive_3:=fun _=>True)
  ?_ ?_ ?_ ?_ ?_ ?_ ?_ ?_ ?_ ?_ ?_ ?_ ?_ ?_ ?_ ?_ ?_ ?_ ?_ ?_ ?_ ?_ ?_ ?_ ?_ ?_ d
 all_goals first
  | (intros; rfl)
  | (intros; simp_all [DV.closed,DV.low,DV.closed.closedAll,DV.low.lowAll]; done)
  | skip
theorem cJ {α:Type}{f:α→α}:∀ {l:List α},(∀ d∈l,f d=d)→l.map f=l
 | [],_=>rfl
 | d::l,h=>by rw [List.map_cons,h d (by simp),cJ fun d hd=>h d (by simp [hd])]
theorem cH {post:List AObj→DV→Prop}{ds:List DV}{h:List AObj}{cs:List DV}(hs:(rvd ds).closed=true)(hi:h[0]?=some (.box cs))(hc:cs.all DV.closed=true)(hp:post [.box cs] (rvd ds)):dY 1 post (some ds) h:=by
  have hlt:0<h.length:=(List.getElem?_eq_some_iff.1 hi).1
  have hg:h.getD 0 .dead=.box cs:=by rw [List.getD_eq_getElem?_getD,hi]; rfl
  refine ⟨ds, rfl, [0], by simp, Nat.le_refl _, fun i h => by obtain rfl : i = 0 := by omega
                                                              rfl,fun l hl=>by simp at hl; omega,bC hs,fun l hl=>?_,?_⟩
  · simp only [List.mem_singleton] at hl
    subst hl
    rw [hg]
    simp only [inO,List.all_eq_true] at *
    exact fun d hd=>bC (hc d hd)
  · have e:cs.map (DV.ren fun x=>List.idxOf x [0])=cs:=cJ fun d hd=>bD (List.all_eq_true.1 hc d hd)
    simp only [List.map_cons,List.map_nil,hg,aR]
    rw [bD hs,e]
    exact hp
theorem fF {E:Env}{L:List (Nat×DV)}{h:List AObj}{f:Nat}{ds ds' : List DV}{post:List AObj→DV→Prop}{K:DV→St→Prop}{i:Nat}{cs:List DV}(hi:h[i]?=some (.box cs))(hcl:cs.all DV.closed=true)(hc:eK E false f [.box cs] ds' post)(he:ds.map (DV.dn [i] h)=ds')
  (hin:ds.all (DV.inL [i].contains)=true) (hk:∀ h' d,post h' d→∃ cs',h' = [.box cs']∧cs'.all DV.closed=true∧d.closed=true∧K d (sta L (h.set i (.box cs')))):acall E true f ds K (sta L h):=by
 have hlt:i<h.length:=(List.getElem?_eq_some_iff.1 hi).1
 have hg:h.getD i .dead=.box cs:=by simp [hi]
 have el:∀ ρ,cs.map (DV.low ρ h)=cs:=fun ρ=>cJ fun d hd=>cY (List.all_eq_true.1 hcl d hd)
 refine .go ?_
 refine .inr (.inr ⟨false,[i],post,.inl rfl,by simp,fun l hl=>by simp at hl; subst hl; exact hlt,?_,fun h' d hp=>?_⟩)
 ·rw [show (sta L h).h=h from rfl,he]
  simp only [List.map_cons,List.map_nil,hg,jV,el]
  exact hc
 ·obtain ⟨cs',rfl,hcl',hd,hk⟩:=hk h' d hp
  refine ⟨.inl ?_,?_⟩
  ·rw [Bool.and_eq_true]
   refine ⟨hin,?_⟩
   simp only [List.all_cons,List.all_nil,Bool.and_true,show (sta L h).h=h from rfl,hg,inO,List.all_eq_true]
   exact fun d hd=>bC (List.all_eq_true.1 hcl d hd)
  ·rw [bD hd]
   have er:∀ ρ,cs'.map (DV.ren ρ)=cs' := fun ρ=>cJ fun d hd=>bD (List.all_eq_true.1 hcl' d hd)
   have e:(sta L h).handed false [i] [AObj.box cs']=sta L (h.set i (.box cs')):=by
    unfold St.handed
    have e1:(List.filter (fun l => !dP (sta L h).h[l]?) [i])=[]:=by simp [show (sta L h).h=h from rfl,hi,dP]
    simp only [e1,List.isEmpty_nil,Bool.or_true,if_true,List.map_cons,List.map_nil,aR,er,bB,List.length_cons,List.length_nil,List.drop_succ_cons,List.drop_zero,List.append_nil]
    rfl
   rw [e]; exact hk
theorem AS {E:Env}{L:List (Nat×DV)}{h:List AObj}{f:Nat}{ds ds' : List DV}{post:List AObj→DV→Prop}{K:DV→St→Prop}{i:Nat}{cs:List DV}(hi:h[i]?=some (.box cs))(hcl:cs.all DV.closed=true)(hc:eK E false f [.box cs] ds' post)(he:ds.map (DV.dn [i] h)=ds')
  (hf:∀ h' d,post h' d→(d.free&&h'.all iD)=true) (hk:∀ h' d,post h' d→∃ cs',h' = [.box cs']∧cs'.all DV.closed=true∧d.closed=true∧K d (sta L (h.set i (.box cs')))):acall E true f ds K (sta L h):=by
 have hlt:i<h.length:=(List.getElem?_eq_some_iff.1 hi).1
 have hg:h.getD i .dead=.box cs:=by simp [hi]
 have el:∀ ρ,cs.map (DV.low ρ h)=cs:=fun ρ=>cJ fun d hd=>cY (List.all_eq_true.1 hcl d hd)
 refine .go ?_
 refine .inr (.inr ⟨false,[i],post,.inl rfl,by simp,fun l hl=>by simp at hl; subst hl; exact hlt,?_,fun h' d hp=>?_⟩)
 ·rw [show (sta L h).h=h from rfl,he]
  simp only [List.map_cons,List.map_nil,hg,jV,el]
  exact hc
 ·obtain ⟨cs',rfl,hcl',hd,hk⟩:=hk h' d hp
  refine ⟨.inr (hf _ _ hp),?_⟩
  ·rw [bD hd]
   have er:∀ ρ,cs'.map (DV.ren ρ)=cs' := fun ρ=>cJ fun d hd=>bD (List.all_eq_true.1 hcl' d hd)
   have e:(sta L h).handed false [i] [AObj.box cs']=sta L (h.set i (.box cs')):=by
    unfold St.handed
    have e1:(List.filter (fun l => !dP (sta L h).h[l]?) [i])=[]:=by simp [show (sta L h).h=h from rfl,hi,dP]
    simp only [e1,List.isEmpty_nil,Bool.or_true,if_true,List.map_cons,List.map_nil,aR,er,bB,List.length_cons,List.length_nil,List.drop_succ_cons,List.drop_zero,List.append_nil]
    rfl
   rw [e]; exact hk
theorem xV {E:Env}{b:Bool}{L:List (Nat×DV)}{h:List AObj}{f:Nat}{ds ds' : List DV}{H:List AObj}{D:DV}{K:DV→St→Prop}(hc:ACalls E f [] ds' (fun h d=>h=H∧d=D))(he:ds.map (DV.dn [] h)=ds')(hf:(D.free&&H.all iD)=true)
  (hk:K (D.ren (h.length + ·)) (sta L (h++H.map (aR (h.length + ·))))):acall E b f ds K (sta L h):=by
 refine .go ?_
 refine .inr (.inr ⟨false,[],fun h' d=>h' = H∧d=D,.inr ⟨rfl,rfl,H,D,rfl,rfl⟩,List.nodup_nil,fun _ h=>by simp at h,?_,fun h' d e=>?_⟩)
 ·rw [show (sta L h).h=h from rfl,he]; exact hc
 ·obtain ⟨rfl,rfl⟩:=e
  refine ⟨.inr hf,?_⟩
  have e:upL (sta L h).h.length []=(h.length + ·):=by funext i; simp [upL]; rfl
  rw [e]
  have e2:(sta L h).handed false [] h' = sta L (h++h'.map (aR (h.length + ·))):=by
   unfold St.handed
   simp only [List.filter_nil,List.isEmpty_nil,Bool.or_true,if_true,List.map_nil,bB,List.length_nil,List.drop_zero,e]
   cases h' <;> rfl
  rw [e2]
  exact hk
section
variable {α:Type} (lt:α→α→Bool)
structure Tot:Prop where
 asym:∀ x y,lt x y=true→lt y x=false
 tr:∀ x y z,lt y x=false→lt z y=false→lt z x=false
 anti:∀ x y,lt y x=false→lt x y=false→x=y
def Ri (l:List α):Prop:=l.Pairwise fun x y=>lt y x=false
def AI (x:α):List α→List α
 | []=>[x]
 | y::l=>if lt y x then y::AI x l else x::y::l
def mV:List α→List α
 | []=>[]
 | x::l=>AI lt x (mV l)
end
section
variable {α:Type} {lt:α→α→Bool}
theorem Tot.irr (T:Tot lt)(x:α):lt x x=false:=by
 cases h:lt x x with
 | false=>rfl
 | true=>have:=T.asym x x h; rw [h] at this; cases this
theorem qS (x:α):∀ l:List α,(AI lt x l).Perm (x::l)
 | []=>.refl _
 | y::l=>by
  unfold AI
  split
  ·exact ((qS x l).cons y).trans (.swap x y l)
  ·exact .refl _
theorem iK:∀ l:List α,(mV lt l).Perm l
 | []=>.refl _
 | x::l=>(qS x _).trans ((iK l).cons x)
theorem MP (T:Tot lt)(x:α):∀ {l:List α},Ri lt l→Ri lt (AI lt x l)
 | [],_=>by simp [AI,Ri]
 | y::l,h=>by
  unfold AI
  obtain ⟨h1,h2⟩:=List.pairwise_cons.1 h
  split
  ·rename_i hyx
   refine List.pairwise_cons.2 ⟨fun z hz=>?_,MP T x h2⟩
   rcases List.mem_cons.1 ((qS x l).mem_iff.1 hz) with rfl|hz
   ·exact T.asym _ _ hyx
   ·exact h1 z hz
  ·rename_i hyx
   have hyx:lt y x=false:=by simpa using hyx
   refine List.pairwise_cons.2 ⟨fun z hz=>?_,h⟩
   rcases List.mem_cons.1 hz with rfl|hz
   ·exact hyx
   ·exact T.tr x y z hyx (h1 z hz)
theorem uJ (T:Tot lt):∀ l:List α,Ri lt (mV lt l)
 | []=>.nil
 | x::l=>MP T x (uJ T l)
theorem YZ (T:Tot lt):∀ {a b:List α},Ri lt a→Ri lt b→a.Perm b→a=b
 | [],b,_,_,h=>h.symm.eq_nil.symm
 | x::a,[],_,_,h=>h.eq_nil
 | x::a,y::b,ha,hb,h=>by
  obtain ⟨h1,h2⟩:=List.pairwise_cons.1 ha
  obtain ⟨h3,h4⟩:=List.pairwise_cons.1 hb
  have e:x=y:=by
   rcases List.mem_cons.1 (h.mem_iff.1 List.mem_cons_self) with e|hx
   ·exact e
   rcases List.mem_cons.1 (h.mem_iff.2 List.mem_cons_self) with e|hy
   ·exact e.symm
   exact T.anti x y (h1 y hy) (h3 x hx)
  subst e
  rw [YZ T h2 h4 h.cons_inv]
theorem aCq (T:Tot lt){a l:List α}(h:Ri lt a)(hp:a.Perm l):a=mV lt l:=YZ T h (uJ T l) (hp.trans (iK l).symm)
theorem vS (l:List α):(mV lt l).length=l.length:=(iK l).length_eq
theorem ri_app {a b:List α}:Ri lt (a++b)↔Ri lt a∧Ri lt b∧∀ x∈a,∀ y∈b,lt y x=false:=List.pairwise_append
end
theorem vK (a b:UInt8)(x y:List UInt8):Op.bytesLess (a::x) (b::y)=(decide (a.toNat<b.toNat)||(decide (a.toNat=b.toNat)&&Op.bytesLess x y)):=by
 have h:Op.bytesLess (a::x) (b::y)=(decide (a<b)||(a == b&&Op.bytesLess x y)):=rfl
 rw [h]
 have h1:decide (a<b)=decide (a.toNat<b.toNat):=by simp [UInt8.lt_iff_toNat_lt]
 have h2:(a == b)=decide (a.toNat=b.toNat):=by
  rw [Bool.eq_iff_iff]; simp [UInt8.toNat_inj]
 rw [h1,h2]
theorem zV (x:List UInt8):Op.bytesLess x []=false:=by cases x <;> rfl
theorem uT:∀ x y:List UInt8,Op.bytesLess x y=true→Op.bytesLess y x=false
 | x,[],h=>by rw [zV] at h; cases h
 | [],y::l,_=>zV _
 | a::x,b::y,h=>by
  rw [vK] at h ⊢
  have ih:=uT x y
  simp only [Bool.or_eq_true,Bool.and_eq_true,decide_eq_true_eq] at h
  rcases h with h|⟨h1,h2⟩
  ·rw [decide_eq_false (by omega),decide_eq_false (by omega)]; rfl
  ·rw [decide_eq_false (by omega),ih h2]; simp
theorem JR:∀ x y z:List UInt8,Op.bytesLess y x=false→Op.bytesLess z y=false→Op.bytesLess z x=false
 | [],_,z,_,_=>zV z
 | a::x,[],z,h,_=>by simp [Op.bytesLess] at h
 | a::x,b::y,[],_,h=>by simp [Op.bytesLess] at h
 | a::x,b::y,c::z,h1,h2=>by
  rw [vK] at h1 h2 ⊢
  have ih:=JR x y z
  simp only [Bool.or_eq_false_iff,Bool.and_eq_false_imp,decide_eq_false_iff_not,decide_eq_true_eq] at h1 h2 ⊢
  refine ⟨by omega,fun e=>ih (h1.2 (by omega)) (h2.2 (by omega))⟩
theorem vA:∀ x y:List UInt8,Op.bytesLess y x=false→Op.bytesLess x y=false→x=y
 | [],[],_,_=>rfl
 | [],b::y,_,h=>by simp [Op.bytesLess] at h
 | a::x,[],h,_=>by simp [Op.bytesLess] at h
 | a::x,b::y,h1,h2=>by
  rw [vK] at h1 h2
  simp only [Bool.or_eq_false_iff,Bool.and_eq_false_imp,decide_eq_false_iff_not,decide_eq_true_eq] at h1 h2
  have e:a.toNat=b.toNat:=by omega
  rw [UInt8.toNat_inj.1 e,vA x y (h1.2 e.symm) (h2.2 e)]
theorem bl_tot:Tot Op.bytesLess:=⟨uT,JR,vA⟩
section
variable {α:Type} (lt:α→α→Bool) (d0:α)
def sw2 (l:List α)(j:Nat):List α:=(l.set j (l.getD (j - 1) d0)).set (j - 1) (l.getD j d0)
def nW (a:Nat):Nat→List α→List α
 | 0,l=>l
 | j+1,l=>if a<j+1∧lt (l.getD (j+1) d0) (l.getD j d0)=true then nW a j (sw2 d0 l (j+1)) else l
def lO (a:Nat):Nat→List α→List α
 | 0,l=>l
 | k+1,l=>nW lt d0 a (a+(k+1)) (lO a k l)
end
section
variable {α:Type} {lt:α→α→Bool} {d0:α}
theorem EF (l:List α)(j:Nat):(sw2 d0 l j).length=l.length:=by simp [sw2]
theorem xB (a:Nat):∀ (j:Nat)(l:List α),(nW lt d0 a j l).length=l.length
 | 0,_=>rfl
 | j+1,l=>by
  unfold nW
  split
  ·rw [xB a j,EF]
  ·rfl
theorem xI (a:Nat):∀ (k:Nat)(l:List α),(lO lt d0 a k l).length=l.length
 | 0,_=>rfl
 | k+1,l=>by rw [lO,xB,xI a k]
theorem lD (p r:List α)(x:α):(p++x::r).getD p.length d0=x:=by simp [List.getD_eq_getElem?_getD]
theorem RM (p r:List α)(x y:α):sw2 d0 (p++y::x::r) (p.length+1)=p++x::y::r:=by
 unfold sw2
 have h1:(p++y::x::r).getD (p.length+1 - 1) d0=y:=by rw [Nat.add_sub_cancel]; exact lD p _ y
 have h2:(p++y::x::r).getD (p.length+1) d0=x:=by
  have:=lD (d0:=d0) (p++[y]) r x
  simpa using this
 rw [h1,h2,Nat.add_sub_cancel]
 rw [List.set_append_right _ _ (by omega),Nat.add_sub_cancel_left,List.set_append_right _ _ (by omega),Nat.sub_self]
 rfl
theorem xQ (T:Tot lt)(p:List α)(x:α):∀ (n:Nat)(q r:List α),q.length=n→Ri lt q →
  ∃ q',Ri lt q' ∧ q'.Perm (x::q)∧nW lt d0 p.length (p.length+n) (p++(q++x::r))=p++(q' ++ r)∧(∃ q1 q2,q=q1++q2∧q' = q1++x::q2∧∀ y∈q2,lt x y=true)
 | 0,q,r,hn,_=>by
  obtain rfl:q=[]:=List.eq_nil_of_length_eq_zero hn
  refine ⟨[x],by simp [Ri],.refl _,?_,[],[],rfl,rfl,by simp⟩
  rw [Nat.add_zero]
  cases hp:p.length with
  | zero=>rfl
  | succ k=>
   unfold nW
   rw [if_neg (by omega)]
   rfl
 | n+1,q,r,hn,hq=>by
  obtain ⟨q0,y,rfl⟩:∃ q0 y,q=q0++[y]:=by
   refine ⟨q.dropLast,q.getLast (by intro h; subst h; simp at hn),?_⟩
   exact (List.dropLast_concat_getLast _).symm
  have hn0:q0.length=n:=by simpa using hn
  obtain ⟨r1,r2,r3⟩:=ri_app.1 hq
  have e1:(p++(q0++[y]++x::r))=(p++q0)++y::x::r:=by simp
  have hl:(p++q0).length=p.length+n:=by simp [hn0]
  have g1:(p++(q0++[y]++x::r)).getD (p.length+n) d0=y:=by rw [e1,← hl]; exact lD _ _ y
  have g2:(p++(q0++[y]++x::r)).getD (p.length+n+1) d0=x:=by
   have:=lD (d0:=d0) (p++q0++[y]) r x
   rw [show (p++q0++[y]).length=p.length+n+1 by simp [hn0]; omega] at this
   have e:p++(q0++[y]++x::r)=p++q0++[y]++x::r:=by simp
   rw [e]; exact this
  rw [show p.length+(n+1)=(p.length+n)+1 by omega]
  unfold nW
  rw [g1,g2]
  split
  ·rename_i hc
   have hs:sw2 d0 (p++(q0++[y]++x::r)) (p.length+n+1)=p++(q0++x::(y::r)):=by
    rw [e1,← hl,RM]; simp
   rw [hs]
   obtain ⟨q',h1,h2,h3,q1,q2,e,e',h4⟩:=xQ T p x n q0 (y::r) hn0 r1
   refine ⟨q' ++ [y],?_,?_,by rw [h3]; simp,q1,q2++[y],by rw [e]; simp,by rw [e']; simp,fun z hz=>?_⟩
   ·subst e; subst e'
    refine ri_app.2 ⟨h1,by simp [Ri],fun u hu v hv=>?_⟩
    obtain rfl:v=y:=by simpa using hv
    rcases List.mem_append.1 hu with hu|hu
    ·exact r3 u (by simp [hu]) _ (by simp)
    ·rcases List.mem_cons.1 hu with rfl|hu
     ·exact T.asym _ _ hc.2
     ·exact r3 u (by simp [hu]) _ (by simp)
   ·exact (h2.append_right [y]).trans (by simp)
   ·rcases List.mem_append.1 hz with hz|hz
    ·exact h4 z hz
    ·obtain rfl:z=y:=by simpa using hz
     exact hc.2
  ·rename_i hc
   have hc:lt x y=false:=by
    cases h:lt x y with
    | false=>rfl
    | true=>exact absurd ⟨by omega,h⟩ hc
   refine ⟨q0++[y]++[x],?_,?_,by simp,q0++[y],[],by simp,by simp,by simp⟩
   ·refine ri_app.2 ⟨hq,by simp [Ri],fun u hu v hv=>?_⟩
    obtain rfl:v=x:=by simpa using hv
    rcases List.mem_append.1 hu with hu|hu
    ·exact T.tr u y _ (r3 u hu y (by simp)) hc
    ·obtain rfl:u=y:=by simpa using hu
     exact hc
   ·exact List.perm_append_comm
theorem yL (T:Tot lt)(p:List α):∀ (k:Nat)(q r:List α),q.length=k+1→lO lt d0 p.length k (p++(q++r))=p++(mV lt q++r)
 | 0,q,r,hq=>by
  obtain ⟨x,rfl⟩:∃ x,q=[x]:=by
   match q,hq with
   | [x],_=>exact ⟨x,rfl⟩
  rfl
 | k+1,q,r,hq=>by
  obtain ⟨q0,y,rfl⟩:∃ q0 y,q=q0++[y]:=by
   refine ⟨q.dropLast,q.getLast (by intro h; subst h; simp at hq),?_⟩
   exact (List.dropLast_concat_getLast _).symm
  have hq0:q0.length=k+1:=by simpa using hq
  have ih:=yL T p k q0 (y::r) hq0
  unfold lO
  rw [show p++(q0++[y]++r)=p++(q0++y::r) by simp,ih]
  obtain ⟨q',h1,h2,h3,_⟩:=xQ (d0:=d0) T p y (k+1) (mV lt q0) r (by rw [vS,hq0]) (uJ T q0)
  rw [h3,aCq T h1 (l:=q0++[y]) (h2.trans (((iK q0).cons y).trans (List.perm_append_comm (l₁:=[y]) (l₂:=q0))))]
theorem ON (T:Tot lt)(l:List α):lO lt d0 0 (l.length - 1) l=mV lt l:=by
 cases l with
 | nil=>rfl
 | cons x l=>
  have:=yL (d0:=d0) T [] l.length (x::l) [] (by simp)
  simpa using this
end
section
variable {α:Type} (lt:α→α→Bool) (d0:α)
def St2 (l:List α):Prop:=l.Pairwise fun x y=>lt x y=true
def cpK [DecidableEq α](l:List α):Nat→List α
 | 0=>[]
 | i+1=>if 0<i∧l.getD i d0=l.getD (i - 1) d0 then cpK l i else cpK l i++[l.getD i d0]
end
section
variable {α:Type} {lt:α→α→Bool} {d0:α}
theorem vJ [DecidableEq α](l:List α):∀ i,(cpK d0 l i).length≤i
 | 0=>Nat.le_refl _
 | i+1=>by
  have:=vJ l i
  unfold cpK
  split
  ·omega
  ·simp; omega
theorem MV [DecidableEq α](l:List α)(i:Nat)(hi:i≤l.length)(h:∀ k,0<k→k<i→l.getD k d0≠l.getD (k - 1) d0):cpK d0 l i=l.take i:=by
 induction i with
 | zero=>rfl
 | succ i ih=>
  unfold cpK
  rw [if_neg (fun q=>h i q.1 (by omega) q.2),ih (by omega) fun k h1 h2=>h k h1 (by omega)]
  rw [List.getD_eq_getElem?_getD,List.getElem?_eq_getElem (by omega:i<l.length)]
  simp
theorem LL (T:Tot lt):∀ {a b:List α},St2 lt a→St2 lt b→(∀ x,x∈a↔x∈b)→a=b
 | [],[],_,_,_=>rfl
 | [],y::b,_,_,h=>by have:=(h y).2 (by simp); cases this
 | x::a,[],_,_,h=>by have:=(h x).1 (by simp); cases this
 | x::a,y::b,ha,hb,h=>by
  obtain ⟨h1,h2⟩:=List.pairwise_cons.1 ha
  obtain ⟨h3,h4⟩:=List.pairwise_cons.1 hb
  have e:x=y:=by
   rcases List.mem_cons.1 ((h x).1 (by simp)) with e|hx
   ·exact e
   rcases List.mem_cons.1 ((h y).2 (by simp)) with e|hy
   ·exact e.symm
   ·have q1:=h3 x hx
    have q2:=h1 y hy
    rw [T.asym _ _ q1] at q2; cases q2
  subst e
  have hnx:∀ {l:List α},(∀ z∈l,lt x z=true)→x∉l:=fun hl hm=>by have:=hl x hm; rw [T.irr] at this; cases this
  rw [LL T h2 h4 fun z=>?_]
  constructor
  ·intro hz
   rcases List.mem_cons.1 ((h z).1 (by simp [hz])) with rfl|q
   ·exact absurd hz (hnx h1)
   ·exact q
  ·intro hz
   rcases List.mem_cons.1 ((h z).2 (by simp [hz])) with rfl|q
   ·exact absurd hz (hnx h3)
   ·exact q
theorem JK {l:List α}(h:Ri lt l){i j:Nat}(hij:i<j)(hj:j<l.length):lt (l.getD j d0) (l.getD i d0)=false:=by
 have:=List.pairwise_iff_getElem.1 h i j (by omega) hj hij
 rw [List.getD_eq_getElem?_getD,List.getElem?_eq_getElem hj,List.getD_eq_getElem?_getD,List.getElem?_eq_getElem (by omega:i<l.length)]
 exact this
theorem wC {l:List α}{i:Nat}(hi:i≤l.length){x:α}(h:x∈l.take i):∃ j,j<i∧x=l.getD j d0:=by
 obtain ⟨j,hj,rfl⟩:=List.mem_iff_getElem.1 h
 rw [List.length_take] at hj
 refine ⟨j,by omega,?_⟩
 rw [List.getD_eq_getElem?_getD,List.getElem?_eq_getElem (by omega:j<l.length)]
 simp
theorem wX [DecidableEq α](T:Tot lt){l:List α}(hl:Ri lt l):∀ i,i≤l.length→St2 lt (cpK d0 l i)∧∀ x,x∈cpK d0 l i↔x∈l.take i
 | 0,_=>⟨.nil,fun x=>by simp [cpK]⟩
 | i+1,hi=>by
  obtain ⟨h1,h2⟩:=wX T hl i (by omega)
  have hlt:i<l.length:=hi
  have htk:l.take (i+1)=l.take i++[l.getD i d0]:=by
   rw [List.getD_eq_getElem?_getD,List.getElem?_eq_getElem hlt]; simp
  unfold cpK
  split
  ·rename_i hc
   refine ⟨h1,fun x=>?_⟩
   rw [h2,htk,List.mem_append]
   constructor
   ·exact .inl
   ·rintro (h|h)
    ·exact h
    ·obtain rfl:x=l.getD i d0:=by simpa using h
     rw [hc.2]
     rw [List.getD_eq_getElem?_getD,List.getElem?_eq_getElem (by omega:i - 1<l.length)]
     exact List.mem_take_iff_getElem.2 ⟨i - 1,by omega,rfl⟩
  ·rename_i hc
   refine ⟨List.pairwise_append.2 ⟨h1,by simp,fun y hy z hz=>?_⟩,fun x=>?_⟩
   ·obtain rfl:z=l.getD i d0:=by simpa using hz
    obtain ⟨j,hj,rfl⟩:=wC (d0:=d0) (by omega) ((h2 y).1 hy)
    have q1:=JK (d0:=d0) hl hj hlt
    cases q2:lt (l.getD j d0) (l.getD i d0) with
    | true=>rfl
    | false=>
     exfalso
     have e:=T.anti _ _ q1 q2
     refine hc ⟨by omega,?_⟩
     rcases Nat.lt_or_ge j (i - 1) with hj2|hj2
     ·have q3:=JK (d0:=d0) hl hj2 (by omega)
      rw [e] at q3
      have q4:=JK (d0:=d0) hl (show i - 1<i by omega) hlt
      exact T.anti _ _ q3 q4
     ·rw [← e,show j=i - 1 by omega]
   ·rw [List.mem_append,h2,htk,List.mem_append]
theorem KM [DecidableEq α](T:Tot lt){l:List α}(hl:Ri lt l):St2 lt (cpK d0 l l.length)∧∀ x,x∈cpK d0 l l.length↔x∈l:=by
 have:=wX (d0:=d0) T hl l.length (Nat.le_refl _)
 rw [List.take_length] at this
 exact this
end
end Go.Ai

namespace Go.Proofs.Ut
def lE (b:UInt8):List UInt8:=if b=92 then [92,92] else if b=44 then [92,44] else if b=59 then [92,59] else if b=10 then [92,110] else if b=13 then [] else [b]
def bN (s:List UInt8):List UInt8:=s.flatMap lE
def spB (b:UInt8):Bool:=decide (b=92)||decide (b=44)||decide (b=59)||decide (b=10)||decide (b=13)
theorem mK (b:UInt8):(b=92∨b=44∨b=59∨b=10∨b=13)∨(spB b=false∧lE b=[b]∧b.toNat≠92∧b.toNat≠44∧b.toNat≠59∧b.toNat≠10∧b.toNat≠13):=by
 by_cases h1:b=92
 ·exact .inl (.inl h1)
 by_cases h2:b=44
 ·exact .inl (.inr (.inl h2))
 by_cases h3:b=59
 ·exact .inl (.inr (.inr (.inl h3)))
 by_cases h4:b=10
 ·exact .inl (.inr (.inr (.inr (.inl h4))))
 by_cases h5:b=13
 ·exact .inl (.inr (.inr (.inr (.inr h5))))
 ·have k:∀ c:UInt8,b≠c→b.toNat≠c.toNat:=fun c h e=>h (UInt8.toNat_inj.1 e)
  exact .inr ⟨by simp [spB,h1,h2,h3,h4,h5],by simp [lE,h1,h2,h3,h4,h5],k 92 h1,k 44 h2,k 59 h3,k 10 h4,k 13 h5⟩
theorem KL (b:UInt8):(lE b).length≤2:=by
 unfold lE; repeat' split
 all_goals simp
theorem yF:∀ s:List UInt8,(bN s).length≤2*s.length
 | []=>Nat.le_refl _
 | b::s=>by
  have h1:=yF s
  have h2:=KL b
  simp only [bN,List.flatMap_cons,List.length_append,List.length_cons] at *
  omega
theorem tO (a b:List UInt8):bN (a++b)=bN a++bN b:=by simp [bN]
theorem NX (s:List UInt8)(j:Nat)(h:j<s.length):s.take (j+1)=s.take j++[s.getD j 0]:=by
 rw [List.take_add_one,List.getElem?_eq_getElem h,List.getD_eq_getElem?_getD,List.getElem?_eq_getElem h]; rfl
theorem BA (s:List UInt8)(j:Nat)(h:j<s.length):bN (s.take (j+1))=bN (s.take j)++lE (s.getD j 0):=by
 rw [NX s j h,tO]; simp [bN]
theorem rO (s:List UInt8)(j:Nat):(bN (s.take j)).length≤(bN s).length:=by
 have:bN s=bN (s.take j)++bN (s.drop j):=by rw [← tO,List.take_append_drop]
 rw [this]; simp
def aV (c:UInt8):List UInt8→List (List UInt8)
 | []=>[[]]
 | b::s=>if b=c then []::aV c s else match aV c s with
  | []=>[[b]]
  | x::l=>(b::x)::l
theorem tP (c:UInt8):∀ x:List UInt8,c∉x→aV c x=[x]
 | [],_=>rfl
 | b::x,h=>by
  simp only [List.mem_cons,not_or] at h
  unfold aV
  rw [if_neg (fun e=>h.1 e.symm),tP c x h.2]
theorem rQ (c:UInt8)(r:List UInt8):∀ x:List UInt8,c∉x→aV c (x++c::r)=x::aV c r
 | [],_=>by simp [aV]
 | b::x,h=>by
  simp only [List.mem_cons,not_or] at h
  rw [List.cons_append]
  conv=>lhs; unfold aV
  rw [if_neg (fun e=>h.1 e.symm),rQ c r x h.2]
theorem qW (c:UInt8)(s:List UInt8):aV c s≠[]:=by
 cases s with
 | nil=>simp [aV]
 | cons b s=>
  unfold aV
  split
  ·simp
  ·split <;> simp
def iN (x:List UInt8):Bool := !decide (x=[]) && !decide (x.head?=some 45) && !decide (x.getLast?=some 45)
def fV (s:List UInt8):List UInt8:=if s.getLast?=some 46 then s.dropLast else s
def YM (d:List UInt8):Bool:=decide (d.length≤100)&&(aV 46 d).all iN
def nS (x:List UInt8×Int):List UInt8×Int:=if x.2≠0 then ([],x.2) else if YM (fV x.1)=false then ([],14) else (fV x.1,0)
def eW (x:List UInt8×Int)(is:Bool)(most:Nat):List UInt8×Int:=if x.2≠0 then ([],x.2) else if is=true∧(x.1=[]∨most<x.1.length) then ([],14) else x
def PF (L D R:List UInt8×Int):List UInt8×Int:=if D.2≠0 then ([],D.2) else if L.2≠0 then ([],L.2) else if R.2≠0 then ([],R.2) else if R.1≠[] then ([],14) else (if L.1=[] then D.1 else L.1++64::D.1,0)
end Go.Proofs.Ut
