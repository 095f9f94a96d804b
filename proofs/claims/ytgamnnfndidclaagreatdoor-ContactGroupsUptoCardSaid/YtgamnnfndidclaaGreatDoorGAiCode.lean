/- From a function's text to ours, and back: what holds of ours holds of the machine's call. -/
import Derived.Test.YtgamnnfndidclaaGreatDoorGAiDraw2
import Derived.Tactics
import Derived.ScopeJumps
set_option linter.all false
namespace Go.Ai
section
variable {E:Env} {C:Ctx} {a:Act} {w:World} {ok:Nat→Prop} {β:Loc} {st:St}

theorem HQ {P:Program}{c:Code}{G:Type}{Q:Exit→Act→World→Prop}(I:G→Act→World→Prop)(μ:G→Nat)(g:G)(h₀:I g a w)
    (round:∀ g a w,I g a w→c.wp P (Exit.then (fun a' w' => ∃ g',I g' a' w' ∧ μ g' < μ g) Q) a w):(Code.loop c).wp P Q a w:=by
  intro b k cs
  have key:∀ n g a w,μ g=n→I g a w →
      ∃ e a' w',Q e a' w' ∧ Arrives P (lone (b.at a (.code c::.inLoop c::k)) cs w) b k cs e a' w' := by
    intro n
    induction n using Nat.strongRecOn with
    | _ n ih=>
      intro g a w hn hI
      obtain ⟨e,a₁,w₁,hq,harr⟩:=round g a w hI b (.inLoop c::k) cs
      cases e with
      | normal=>
        obtain ⟨g₁,hI₁,hlt⟩:=hq
        obtain ⟨e₂,a₂,w₂,hq₂,harr₂⟩:=ih (μ g₁) (hn▸hlt) g₁ a₁ w₁ rfl hI₁
        exact ⟨e₂,a₂,w₂,hq₂,.of_steps (Steps.trans harr (.one step_inLoop)) harr₂⟩
      | exit id=>exact ⟨_,a₁,w₁,hq,.pass (x:=.inLoop c) rfl (fun _ _=>.inl (by simp)) harr⟩
      | goto l=>exact ⟨_,a₁,w₁,hq,.pass (x:=.inLoop c) rfl (fun _ _=>.inl (by simp)) harr⟩
      | ret=>exact ⟨_,a₁,w₁,hq,.pass (x:=.inLoop c) rfl (fun _ _=>.inl (by simp)) harr⟩
      | panic ch=>exact ⟨_,a₁,w₁,hq,.pass (x:=.inLoop c) rfl (fun _ _=>.inl (by simp)) harr⟩
      | outgrown=>exact ⟨_,a₁,w₁,hq,.pass (x:=.inLoop c) rfl (fun _ _=>.inl (by simp)) harr⟩
  obtain ⟨e,a',w',hq,harr⟩:=key _ g a w rfl h₀
  exact ⟨e,a',w',hq,.of_steps (.one step_loop) harr⟩

theorem Rep.under {v:Value}{d:DV}(h:Rep w ok β v d)(m:Nat)(hd:d.under m=true){β' : Loc}(hβ:∀ l x,l<m→β l=some x→β' l=some x):Rep w ok β' v d:=
 h.inL _ hd fun l x hl hx=>hβ l x (by simpa using hl) hx

theorem ORep.inL {l:Nat}{o:AObj}(h:ORep w ok β l o)(p:Nat→Bool){β' : Loc}(hl:β' l=β l)(hd:∀ cs,o=.box cs→∀ d∈cs,d.inL p=true)(hβ:∀ l x,p l=true→β l=some x→β' l=some x):ORep w ok β' l o:=by
 cases o with
 | box cs=>
  obtain ⟨b,vs,t,fz,h1,h2,h3,h4,h5⟩:=h
  exact ⟨b,vs,t,fz,hl.trans h1,h2,h3,h4,fun i v d hi hd' => (h5 i v d hi hd').inL p (hd cs rfl d (List.mem_of_getElem? hd')) hβ⟩
 | arr sz es=>
  obtain ⟨h1,h2⟩:=h
  refine ⟨h1,?_⟩
  rcases h2 with ⟨he,hn⟩|⟨hz,b,x,vs,t,fz,k1,k2,k3,k4,k5⟩
  ·exact .inl ⟨he,hl.trans hn⟩
  ·exact .inr ⟨hz,b,x,vs,t,fz,hl.trans k1,k2,k3,k4,k5⟩
 | iter s pos=>
  obtain ⟨b,h1,h2⟩:=h
  exact ⟨b,hl.trans h1,h2⟩
 | mapo es=>
  obtain ⟨b,h1,h2⟩:=h
  exact ⟨b,hl.trans h1,h2⟩
 | dead=>trivial
 | buf e bs=>
  rcases h with ⟨h1,h2⟩|⟨g,cur,h1,h2,h3⟩
  ·exact .inl ⟨h1,hl.trans h2⟩
  ·exact .inr ⟨g,cur,hl.trans h1,h2,h3⟩
 | gbuf e bs=>
  rcases h with ⟨h1,h2⟩|⟨g,cur,h1,h2,h3⟩
  ·exact .inl ⟨h1,hl.trans h2⟩
  ·exact .inr ⟨g,cur,hl.trans h1,h2,h3⟩

theorem Wk.sound_p {st' : St}(hs' : SRep E C a w ok β st)
  (h:∃ ρ:List Nat,ρ.Nodup∧C.h0.length≤ρ.length∧(∀ i,i<C.h0.length→ρ[i]?=some i)∧(∀ l∈ρ,l<st.h.length)∧(∀ l∈ρ,inO ρ.contains (st.h.getD l .dead)=true) ∧
   st'.h=(ρ.map fun l=>aR (ρ.idxOf ·) (st.h.getD l .dead))∧∀ s,st'.fr s=.undef∨st'.fr s=(st.fr s).ren (ρ.idxOf ·)∧(st.fr s).inL ρ.contains=true):∃ β',SRep E C a w ok β' st' := by
 obtain ⟨ρ,p1,p2,p3,p4,p6,p7,p8⟩:=h
 have hren:∀ k x,(fun k=>if k∈ρ then β k else none) k=some x→(fun i=>(ρ[i]?).bind β) (ρ.idxOf k)=some x:=fun k x hx=>by
  simp only at hx
  split at hx
  ·rename_i hkm
   have:ρ[ρ.idxOf k]?=some k:=by
    have hlt:=List.idxOf_lt_length_of_mem hkm
    rw [List.getElem?_eq_getElem hlt]
    simp
   simp [this,hx]
  ·cases hx
 refine ⟨fun i=>(ρ[i]?).bind β,hs'.g,?_,?_,?_,by rw [p7]; simpa using p2,?_,hs'.size,hs'.defers,hs'.base⟩
 ·exact ⟨hs'.ev.os,hs'.ev.tape,hs'.ev.output,hs'.ev.size,hs'.ev.same,fun l x hx=>by
   simp only [Option.bind_eq_some_iff] at hx
   obtain ⟨k,_,hx⟩:=hx
   exact hs'.ev.own k x hx,hs'.ev.up,hs'.ev.dn,hs'.ev.shape⟩
 ·rw [p7]
  refine ⟨fun l hl=>?_,fun l l' b o o' h1 h2=>?_,fun l b o h1=>?_,fun l b o h1=>?_,hs'.heap.okl,fun l o ho=>?_⟩
  ·simp at hl
   simp [List.getElem?_eq_none hl]
  ·simp only [Option.bind_eq_some_iff] at h1 h2
   obtain ⟨k1,q1,h1⟩:=h1
   obtain ⟨k2,q2,h2⟩:=h2
   have hkk:=hs'.heap.inj k1 k2 b o o' h1 h2
   subst hkk
   have hl1:l<ρ.length:=by
    rcases Nat.lt_or_ge l ρ.length with h|h
    ·exact h
    ·rw [List.getElem?_eq_none h] at q1; cases q1
   exact (List.getElem?_inj hl1 p1).1 (q1.trans q2.symm)
  ·simp only [Option.bind_eq_some_iff] at h1
   obtain ⟨k1,q1,h1⟩:=h1
   exact hs'.heap.lt k1 b o h1
  ·simp only [Option.bind_eq_some_iff] at h1
   obtain ⟨k1,q1,h1⟩:=h1
   exact hs'.heap.dis k1 b o h1
  ·rw [List.getElem?_map] at ho
   cases hk1:ρ[l]? with
   | none=>simp [hk1] at ho
   | some k1=>
    simp [hk1] at ho
    subst ho
    have hmem:=List.mem_of_getElem? hk1
    have hkl:=p4 k1 hmem
    have hob:st.h[k1]?=some (st.h[k1]?.getD .dead):=by rw [List.getElem?_eq_getElem hkl]; rfl
    have hor:=hs'.heap.obj k1 _ hob
    have hor2:=hor.inL (β' := fun k=>if k∈ρ then β k else none) (ρ.contains ·) (by simp [hmem]) (fun cs hcs d hd=>by
     have h6:=p6 k1 hmem
     rw [List.getD_eq_getElem?_getD,hcs] at h6
     exact List.all_eq_true.1 h6 d hd) (fun k x hk hx=>by
     have:k∈ρ:=by simpa using hk
     simp [this,hx])
    exact hor2.ren (ρ.idxOf ·) l (by simp [hk1,hmem]) hren
 ·intro l cs hlc
  obtain ⟨q1,cs',q2⟩:=hs'.fix l cs hlc
  have hl0:l<C.h0.length:=by
   rcases Nat.lt_or_ge l C.h0.length with h' | h'
   ·exact h'
   ·rw [List.getElem?_eq_none h'] at hlc; cases hlc
  have q3:=p3 l hl0
  refine ⟨by simp [q3,q1],cs'.map (DV.ren (ρ.idxOf ·)),?_⟩
  rw [p7,List.getElem?_map,q3]
  simp [List.getD_eq_getElem?_getD,q2,aR]
 ·intro s
  rcases p8 s with h1|⟨h1,h2⟩
  ·rw [h1]; exact .undef _
  ·rw [h1]
   have r3:=(hs'.fr s).inL (β' := fun k=>if k∈ρ then β k else none) (ρ.contains ·) h2 (fun k x hk hx=>by
    have:k∈ρ:=by simpa using hk
    simp [this,hx])
   exact r3.ren (ρ.idxOf ·) hren

theorem Wk.sound {st' : St}(hs:SRep E C a w ok β st)(h:Wk C.h0.length st st'):∃ β',SRep E C a w ok β' st' := by
 rcases h.ex with ⟨m,hm,hh,hf,hb⟩|hp
 rotate_left
 ·exact Wk.sound_p hs hp
 rcases Nat.lt_or_ge m st.h.length with hlt|hge
 ·let β' : Loc:=fun l=>if l<m then β l else none
  have hup:∀ l x,l<m→β l=some x→β' l=some x:=fun l x h1 h2=>by simp [β',h1,h2]
  have hdn:∀ l x,β' l=some x→l<m∧β l=some x:=fun l x h=>by
   simp only [β'] at h
   split at h
   ·exact ⟨‹_›,h⟩
   ·cases h
  have hlen:st'.h.length=m:=by rw [hh,List.length_take]; omega
  refine ⟨β',hs.g,?_,⟨?_,?_,?_,?_,hs.heap.okl,?_⟩,?_,by omega,?_,hs.size,hs.defers,hs.base⟩
  ·exact ⟨hs.ev.os,hs.ev.tape,hs.ev.output,hs.ev.size,hs.ev.same,fun l x hx=>hs.ev.own l x (hdn l x hx).2,hs.ev.up,hs.ev.dn,hs.ev.shape⟩
  ·intro l hl; have:¬ l<m:=by omega
   simp [β',this]
  ·intro l l' b o o' h1 h2; exact hs.heap.inj l l' b o o' (hdn _ _ h1).2 (hdn _ _ h2).2
  ·intro l b o h1; exact hs.heap.lt l b o (hdn _ _ h1).2
  ·intro l b o h1; exact hs.heap.dis l b o (hdn _ _ h1).2
  ·intro l ob hl
   rw [hh,List.getElem?_take] at hl
   split at hl
   ·rename_i hlm
    have:=hs.heap.obj l ob hl
    have hβl:β' l=β l:=by simp [β',hlm]
    cases ob with
    | box cs=>
     obtain ⟨b,vs,t,fz,h1,h2,h3,h4,h5⟩:=this
     exact ⟨b,vs,t,fz,hβl.trans h1,h2,h3,h4,fun i v d hi hd=>(h5 i v d hi hd).under m (hb hlt l cs hlm hl d (List.mem_of_getElem? hd)) hup⟩
    | arr sz es=>
     obtain ⟨h1,h2⟩:=this
     refine ⟨h1,?_⟩
     rcases h2 with ⟨he,hn⟩|⟨hz,b,x,vs,t,fz,k1,k2,k3,k4,k5⟩
     ·exact .inl ⟨he,hβl.trans hn⟩
     ·exact .inr ⟨hz,b,x,vs,t,fz,hβl.trans k1,k2,k3,k4,k5⟩
    | iter s pos=>
     obtain ⟨b,h1,h2⟩:=this
     exact ⟨b,hβl.trans h1,h2⟩
    | mapo es=>
     obtain ⟨b,h1,h2⟩:=this
     exact ⟨b,hβl.trans h1,h2⟩
    | dead=>trivial
    | buf e bs=>
     rcases this with ⟨h1,h2⟩|⟨g,cur,h1,h2,h3⟩
     ·exact .inl ⟨h1,hβl.trans h2⟩
     ·exact .inr ⟨g,cur,hβl.trans h1,h2,h3⟩
    | gbuf e bs=>
     rcases this with ⟨h1,h2⟩|⟨g,cur,h1,h2,h3⟩
     ·exact .inl ⟨h1,hβl.trans h2⟩
     ·exact .inr ⟨g,cur,hβl.trans h1,h2,h3⟩
   ·cases hl
  ·intro l cs hl
   obtain ⟨e,cs',hcs⟩:=hs.fix l cs hl
   have hl0:l<C.h0.length:=by
    rcases Nat.lt_or_ge l C.h0.length with h' | h'
    ·exact h'
    ·rw [List.getElem?_eq_none h'] at hl; cases hl
   have hlm:l<m:=by omega
   exact ⟨by simp [β',hlm,e],cs',by rw [hh,List.getElem?_take,if_pos hlm,hcs]⟩
  ·intro s
   rcases hf s with h1|⟨h1,h2⟩
   ·rw [h1]; exact .undef _
   ·rw [h1]; exact (hs.fr s).under m (h2 hlt) hup
 ·have hh' : st'.h=st.h:=by rw [hh,List.take_of_length_le hge]
  refine ⟨β,hs.g,hs.ev,by rw [hh']; exact hs.heap,by rw [hh']; exact hs.fix,by rw [hh']; exact hs.len,fun s=>?_,hs.size,hs.defers,hs.base⟩
  rcases hf s with h1|⟨h1,_⟩
  ·rw [h1]; exact .undef _
  ·rw [h1]; exact hs.fr s

def FF (P:Program)(full:Bool)(n:Nat)(ops:Array Oper):Option ACode:=
 (eV P full false n ops ops.toList).bind fun al=>if (AA ops al&&P.follows .mixedOrders)=true then some (.region true al) else none
def EK:List ACode→Option ACode
 | []=>none
 | [c]=>some c
 | c::l=>(EK l).map (.both c)
theorem rJ {m0:Nat}{K:AExit→St→Prop}{st:St}:∀ {l:List ACode}{c:ACode},EK l=some c→awp E m0 c K st→∀ x∈l,awp E m0 x K st
 | [],c,h,_=>by cases h
 | [x],c,h,hk=>fun y hy=>by
  obtain rfl:y=x:=by simpa using hy
  injection h with h; subst h; exact hk
 | x::x2::l,c,h,hk=>fun y hy=>by
  simp only [EK,Option.map_eq_some_iff] at h
  obtain ⟨c',hc',rfl⟩:=h
  rcases List.mem_cons.1 hy with rfl|hy
  ·exact hk.1
  ·exact rJ (l:=x2::l) hc' hk.2 y hy
def oX (P:Program)(full:Bool)(n:Nat)(ops:Array Oper):Option ACode:=
 (eV P full false n ops ops.toList).bind fun al=>if (YW ops al (wP ops al)&&P.follows .mixedOrders)=true then EK ((wP ops al).map fun o=>.wk (.region true (o.map (al.getD · default)))) else none
def pV:Code→Option Nat
 | .seq a b=>match pV a with | some l=>some l | none=>pV b
 | .label l=>some l
 | _=>none
def jC (l:Nat):Code→ACode→Option ACode
 | .seq a b,.seq a' b' => match findLabel a l with
  | some _=>(jC l a a').map (.seq · b')
  | none=>jC l b b'
 | .label l',_=>if l' == l then some .skip else none
 | _,_=>none
def cZ (P:Program)(n:Nat):Code→Option ACode
 | .skip=>some .skip
 | .region _ ops false=>(eV P true true n ops ops.toList).map (.region false)
 | .region _ ops true=>match FF P true n ops with
  | some c=>some c
  | none=>match FF P false n ops with
   | some c=>some c
   | none=>match oX P true n ops with
    | some c=>some c
    | none=>oX P false n ops
 | .seq a b=>(cZ P n a).bind fun a=>(cZ P n b).map fun b=>.seq a b
 | .cond c a b=>(cx c).bind fun c=>(cZ P n a).bind fun a=>(cZ P n b).map fun b=>.cond c a b
 | .block id b=>if id<1000000 then (cZ P n b).map (.block id) else none
 | .loop b=>(cZ P n b).map .loop
 | .exit id=>if id<1000000 then some (.exit id) else none
 | .ret=>some .ret
 | .scope b=>(cZ P n b).bind fun b' => (pV b).bind fun l=>(jC l b b').map fun r=>.jump (1000000+l) b' r
 | .label _=>some .skip
 | .goto l=>some (.exit (1000000+l))
 | _=>none

def QV (E:Env)(C:Ctx)(K:AExit→St→Prop):Exit→Act→World→Prop
 | .normal,a,w=>∃ ok β st,K .normal st∧SRep E C a w ok β st
 | .exit id,a,w=>id<1000000∧∃ ok β st,K (.exit id) st∧SRep E C a w ok β st
 | .ret,a,w=>∃ ok β st,K .ret st∧SRep E C a w ok β st
 | .goto l,a,w=>∃ ok β st,K (.exit (1000000+l)) st∧SRep E C a w ok β st
 | _,_,_=>False
def Snd (E:Env)(C:Ctx)(c:Code)(ac:ACode):Prop:=∀ (K:AExit→St→Prop)(st:St)(a:Act)(w:World)(ok:Nat→Prop)(β:Loc),SRep E C a w ok β st→awp E C.h0.length ac K st→c.wp E.P (QV E C K) a w

theorem sY {x y:Code}{x' y' : ACode}(hx:Snd E C x x')(hy:Snd E C y y'):Snd E C (.seq x y) (.seq x' y'):=by
 intro K st a w ok β hs hk
 refine wp_seq (wp_mono (hx _ st a w ok β hs hk) fun e a' w' h=>?_)
 cases e with
 | normal=>obtain ⟨ok',β',st',k1,k2⟩:=h; exact hy K st' a' w' ok' β' k2 k1
 | exit id=>exact h
 | ret=>exact h
 | goto l=>exact h
 | _=>exact h.elim
theorem pF:Snd E C .skip .skip:=fun _ st _ _ ok β hs hk=>wp_skip ⟨ok,β,st,hk,hs⟩

theorem BZ {l:Nat}(c:Code):∀ {ac r:ACode},findLabel c l=none→jC l c ac=some r→False:=by
 induction c with
 | seq a b iha ihb=>
  intro ac r h1 h2
  cases ac with
  | seq a' b' =>
   simp only [findLabel] at h1
   simp only [jC] at h2
   cases hf:findLabel a l with
   | some x=>rw [hf] at h1; cases h1
   | none=>rw [hf] at h1 h2; exact ihb h1 h2
  | _=>simp [jC] at h2
 | label l' =>
  intro ac r h1 h2
  simp only [findLabel] at h1
  simp only [jC] at h2
  split at h1
  ·cases h1
  ·rename_i h; rw [if_neg h] at h2; cases h2
 | _=>intro ac r _ h2; simp [jC] at h2

theorem BU:∀ (c:Code)(ac:ACode)(_:cZ E.P C.n c=some ac),Snd E C c ac∧∀ l rest r,findLabel c l=some rest→jC l c ac=some r→Snd E C rest r:=by
  intro c
  induction c with
  | skip=>
    intro ac hc
    simp [cZ] at hc; subst hc
    exact ⟨pF,fun l rest r h1=>by simp [findLabel] at h1⟩
  | region id ops draw=>
    intro ac hc
    refine ⟨fun K st a w ok β hs hk=>?_,fun l rest r h1=>by simp [findLabel] at h1⟩
    cases draw with
    | false=>
      simp only [cZ,Option.map_eq_some_iff] at hc
      obtain ⟨al,hal,rfl⟩:=hc
      exact wp_region_list (nP (Q:=QV E C K) (K:=K .normal) (fun a' w' ok' β' st' k1 k2=>⟨ok',β',st',k1,k2⟩) ops.toList al hal st a w ok β hs hk)
    | true=>
      have hc:(∃ full,FF E.P full C.n ops=some ac)∨∃ full,oX E.P full C.n ops=some ac:=by
        simp only [cZ] at hc
        split at hc
        · rename_i c hc'; exact .inl ⟨true,hc'.trans hc⟩
        · split at hc
          · rename_i c hc'; exact .inl ⟨false,hc'.trans hc⟩
          · split at hc
            · rename_i c hc'; exact .inr ⟨true,hc'.trans hc⟩
            · exact .inr ⟨false,hc⟩
      rcases hc with ⟨full,hc⟩|⟨full,hc⟩
      · skip
        simp only [FF,Option.bind_eq_some_iff] at hc
        obtain ⟨al,hal,hc⟩:=hc
        split at hc
        · rename_i hd
          injection hc with hc; subst hc
          rw [Bool.and_eq_true] at hd
          refine wp_region_any hd.2 (BR hal hd.1 (Q:=QV E C K) (K:=K .normal) (fun a' w' ok' β' st' k1 k2=>⟨ok',β',st',k1,k2⟩) ops.size (List.range ops.size) _ st a _ ok β (by simp) List.pairwise_lt_range (fun k=>?_) (by simp) (fun j hj hjl=>?_) (hs.drewN 1) ?_)
          · simp only [List.mem_range,Array.getD_eq_getD_getElem?]
            constructor
            · intro h; exact ⟨h,by simp [h]⟩
            · exact fun h=>h.1
          · simp [Array.getD_eq_getD_getElem?,hj] at hjl
          · have hmap:(List.range ops.size).map (al.getD · default)=al:=by
              obtain ⟨hlen,_⟩:=hO hal
              apply List.ext_getElem?
              intro i
              rw [List.getElem?_map]
              rcases Nat.lt_or_ge i ops.size with h|h
              · rw [List.getElem?_eq_getElem (by simpa using h)]
                have:i<al.length:=by simpa [← hlen] using h
                simp [List.getD_eq_getElem?_getD,List.getElem?_eq_getElem this]
              · have:al.length≤i:=by simpa [← hlen] using h
                rw [List.getElem?_eq_none (by simpa using h),List.getElem?_eq_none this]; rfl
            rw [hmap]
            exact hk
        · cases hc
      · simp only [oX,Option.bind_eq_some_iff] at hc
        obtain ⟨al,hal,hc⟩:=hc
        split at hc
        · rename_i hd
          rw [Bool.and_eq_true] at hd
          obtain ⟨hok,hfo⟩:=hd
          simp only [YW,Bool.and_eq_true,List.all_eq_true] at hok
          obtain ⟨⟨hT,hp⟩,htt⟩:=hok
          refine wp_region_draw fun t=>?_
          simp only [Region.schedule,hfo,Bool.true_or,if_true]
          generalize hL:Region.linearise.go .any ops ops.size t (Array.replicate ops.size false) []=L
          obtain ⟨c,hcm,hcv⟩:=kW (g:=fun x=>L.idxOf x) (fun x y hxy=>by
            have:=aFV hT hxy ops.size t (Array.replicate ops.size false) (by simp) (fun j hj hjl=>by simp [Array.getD_eq_getD_getElem?,hj] at hjl) (fun h=>by simp [Array.getD_eq_getD_getElem?,h.1] at h)
            rw [hL] at this
            exact this) _ _ _ (fun p hp=>by cases hp) htt
          obtain ⟨o,ho,rfl⟩:=List.mem_map.1 hcm
          have hperm:o.Perm (List.range ops.size):=List.isPerm_iff.1 (hp o ho)
          have hk' := rJ hc hk _ (List.mem_map.2 ⟨o,ho,rfl⟩)
          have:=FT hal hT (Q:=QV E C K) (K:=fun st' => ∃ st'',Wk C.h0.length st' st'' ∧ K .normal st'') (fun a' w' ok' β' st' k1 k2=>by
              obtain ⟨st'',k1,k3⟩:=k1
              obtain ⟨β2,k4⟩:=k1.sound k2
              exact ⟨ok',β2,st'',k3,k4⟩) ops.size t o (Array.replicate ops.size false) st a { w with drawn:=w.drawn+1 } ok β (by rw [hperm.length_eq]; simp) (hperm.nodup_iff.2 List.nodup_range) (fun k=>by
              rw [hperm.mem_iff]
              simp only [List.mem_range,Array.getD_eq_getD_getElem?]
              constructor
              · intro h; exact ⟨h,by simp [h]⟩
              · exact fun h=>h.1) (by simp) (fun j hj hjl=>by simp [Array.getD_eq_getD_getElem?,hj] at hjl) (by
              rw [hL]
              refine (pI (eP ops) al o).imp fun {x y} h=>?_
              rcases h with h|h|h
              · exact .inl h
              · exact .inr (.inl h)
              · exact .inr (.inr (hcv _ h))) (hs.drewN 1) hk'
          rw [hL] at this
          subst hL
          exact this
        · cases hc
  | seq x y ihx ihy=>
    intro ac hc
    simp only [cZ,Option.map_eq_some_iff,Option.bind_eq_some_iff] at hc
    obtain ⟨x',hx,y',hy,rfl⟩:=hc
    refine ⟨sY (ihx x' hx).1 (ihy y' hy).1,fun l rest r h1 h2=>?_⟩
    simp only [findLabel] at h1
    simp only [jC] at h2
    cases hf:findLabel x l with
    | some rx=>
      rw [hf] at h1 h2
      simp only [Option.some.injEq] at h1
      subst h1
      simp only [Option.map_eq_some_iff] at h2
      obtain ⟨r',hr,rfl⟩:=h2
      exact sY ((ihx x' hx).2 l rx r' hf hr) (ihy y' hy).1
    | none=>
      rw [hf] at h1 h2
      exact (ihy y' hy).2 l rest r h1 h2
  | cond c x y ihx ihy=>
    intro ac hc
    refine ⟨fun K st a w ok β hs hk=>?_,fun l rest r h1=>by simp [findLabel] at h1⟩
    simp only [cZ,Option.map_eq_some_iff,Option.bind_eq_some_iff] at hc
    obtain ⟨c',hc',x',hx,y',hy,rfl⟩:=hc
    have hr:=aH hc' hs
    simp only [awp] at hk
    generalize hd:c'.ev st.fr=d at hr hk
    cases d with
    | bool t=>
      have ht:a.eval c=.bool t:=by generalize a.eval c=v at hr; cases hr; rfl
      exact wp_cond_split ht (fun h=>(ihx x' hx).1 K st a w ok β hs (by subst h; exact hk)) (fun h=>(ihy y' hy).1 K st a w ok β hs (by subst h; exact hk))
    | _=>exact hk.elim
  | block id b ih=>
    intro ac hc
    refine ⟨fun K st a w ok β hs hk=>?_,fun l rest r h1=>by simp [findLabel] at h1⟩
    simp only [cZ] at hc
    split at hc
    · rename_i hid0
      simp only [Option.map_eq_some_iff] at hc
      obtain ⟨b',hb,rfl⟩:=hc
      refine wp_block (wp_mono ((ih b' hb).1 _ st a w ok β hs hk) fun e a' w' h=>?_)
      cases e with
      | exit id' =>
        obtain ⟨h0,ok',β',st',k1,k2⟩:=h
        simp only [Exit.inBlock]
        by_cases hid:id' = id
        · rw [if_pos hid]
          simp only [hid,if_true] at k1
          exact ⟨ok',β',st',k1,k2⟩
        · rw [if_neg hid]
          simp only [hid,if_false] at k1
          exact ⟨h0,ok',β',st',k1,k2⟩
      | normal=>exact h
      | ret=>exact h
      | goto l=>
        obtain ⟨ok',β',st',k1,k2⟩:=h
        have hne:¬ 1000000+l=id:=by omega
        simp only [hne,if_false] at k1
        exact ⟨ok',β',st',k1,k2⟩
      | _=>exact h.elim
    · cases hc
  | loop b ih=>
    intro ac hc
    refine ⟨fun K st a w ok β hs hk=>?_,fun l rest r h1=>by simp [findLabel] at h1⟩
    simp only [cZ,Option.map_eq_some_iff] at hc
    obtain ⟨b',hb,rfl⟩:=hc
    obtain ⟨γ,S,I,μ,⟨g0,hw0,hI0⟩,hr⟩:=hk
    obtain ⟨β0,hs0⟩:=hw0.sound hs
    refine HQ (fun g a w=>I g∧∃ ok β,SRep E C a w ok β (S g)) μ g0 ⟨hI0,ok,β0,hs0⟩ fun g a1 w1 ⟨hI,ok1,β1,hs1⟩=>?_
    refine wp_mono ((ih b' hb).1 _ (S g) a1 w1 ok1 β1 hs1 (hr g hI)) fun e a' w' h=>?_
    cases e with
    | normal=>
      obtain ⟨ok',β',st',⟨g2,hw2,hI2,hμ⟩,k2⟩:=h
      obtain ⟨β2,hs2⟩:=hw2.sound k2
      exact ⟨g2,⟨hI2,ok',β2,hs2⟩,hμ⟩
    | exit id=>exact h
    | ret=>exact h
    | goto l=>exact h
    | _=>exact h.elim
  | exit id=>
    intro ac hc
    refine ⟨fun K st a w ok β hs hk=>?_,fun l rest r h1=>by simp [findLabel] at h1⟩
    simp only [cZ] at hc
    split at hc
    · rename_i hid
      injection hc with hc; subst hc
      exact wp_exit ⟨hid,ok,β,st,hk,hs⟩
    · cases hc
  | ret=>
    intro ac hc
    refine ⟨fun K st a w ok β hs hk=>?_,fun l rest r h1=>by simp [findLabel] at h1⟩
    simp [cZ] at hc; subst hc
    exact wp_ret ⟨ok,β,st,hk,hs⟩
  | scope b ih=>
    intro ac hc
    refine ⟨fun K st a w ok β hs hk=>?_,fun l rest r h1=>by simp [findLabel] at h1⟩
    simp only [cZ,Option.map_eq_some_iff,Option.bind_eq_some_iff] at hc
    obtain ⟨b',hb,l,hl,r,hr,rfl⟩:=hc
    cases hf:findLabel b l with
    | none=>
      exact (BZ b hf hr).elim
    | some rest=>
      obtain ⟨s1,s2⟩:=ih b' hb
      have s3:=s2 l rest r hf hr
      refine wp_scope_jumps l (fun a1 w1=>∃ ok1 β1 st1,awp E C.h0.length r (fun e st' => match e with | .exit id' => id' < 1000000∧K (.exit id') st' | e=>K e st') st1∧SRep E C a1 w1 ok1 β1 st1) (fun _ _=>0) hf ?_ ?_
      · refine wp_mono (s1 _ st a w ok β hs hk) fun e a' w' h=>?_
        cases e with
        | normal=>exact h
        | ret=>exact h
        | exit id=>
          obtain ⟨h0,ok',β',st',k1,k2⟩:=h
          have hne:¬ id=1000000+l:=by omega
          simp only [hne,if_false] at k1
          exact ⟨h0,ok',β',st',k1.2,k2⟩
        | goto l' =>
          obtain ⟨ok',β',st',k1,k2⟩:=h
          by_cases hl' : 1000000+l' = 1000000+l
          · simp only [hl',if_true] at k1
            exact ⟨by omega,ok',β',st',k1,k2⟩
          · simp only [hl',if_false] at k1
            omega
        | _=>exact h.elim
      · rintro a1 w1 ⟨ok1,β1,st1,k1,k2⟩
        refine wp_mono (s3 _ st1 a1 w1 ok1 β1 k2 k1) fun e a' w' h=>?_
        cases e with
        | normal=>exact h
        | ret=>exact h
        | exit id=>
          obtain ⟨h0,ok',β',st',k1,k2⟩:=h
          exact ⟨h0,ok',β',st',k1.2,k2⟩
        | goto l' =>
          obtain ⟨ok',β',st',k1,k2⟩:=h
          omega
        | _=>exact h.elim
  | label l=>
    intro ac hc
    simp [cZ] at hc; subst hc
    refine ⟨fun K st a w ok β hs hk=>wp_label ⟨ok,β,st,hk,hs⟩,fun l' rest r h1 h2=>?_⟩
    simp only [findLabel] at h1
    simp only [jC] at h2
    split at h1
    · rename_i hll
      rw [if_pos hll] at h2
      injection h1 with h1; injection h2 with h2
      subst h1; subst h2
      exact pF
    · cases h1
  | goto l=>
    intro ac hc
    simp [cZ] at hc; subst hc
    exact ⟨fun K st a w ok β hs hk=>wp_goto ⟨ok,β,st,hk,hs⟩,fun l rest r h1=>by simp [findLabel] at h1⟩
  | _=>intro ac hc; simp [cZ] at hc
theorem mU (c:Code)(ac:ACode)(hc:cZ E.P C.n c=some ac)(K:AExit→St→Prop)(st:St)(a:Act)(w:World)(ok:Nat→Prop)(β:Loc)(hs:SRep E C a w ok β st)(hk:awp E C.h0.length ac K st):c.wp E.P (QV E C K) a w:=
 (BU c ac hc).1 K st a w ok β hs hk

def vU (P:Program):List ResultVar→Option (List RV)
 | []=>some []
 | .tmp t::l=>if t<1000000 then (vU P l).map (.t t :: ·) else none
 | .cell a t::l=>match P.underlying t,P.info? t with
  | some d,some i=>if a<1000000 then (vU P l).map (.cell a (if gZ d then some i.size else none) :: ·) else none
  | _,_=>none
def aF (P:Program)(f:Nat):Option AFun:=
  match P.funcs[f]? with
  | some fn => if (fn.name == "runtime.NumGoroutine") = false then
      match fn.body with
      | some c=>if fn.ntmps≤1000000 then (cZ P fn.ntmps c).bind fun b=>(vU P fn.results.toList).map fun rs=>⟨fn.params.size,fn.ntmps,rs,b⟩ else none
      | none=>none
    else none
  | none=>none

def kX (tmps:Array Value):ResultVar→Sem Value
 | .tmp t=>pure (tmps.getD t undef)
 | .cell a t=>do loadVar t (← asAddr (tmps.getD a undef))
theorem xL {t:TypeId}{d:TypeDesc}{i:TypeInfo}{s:Nat}{e:DV}(ht:E.P.underlying t=some d)(hi:E.P.info? t=some i)(hs:SRep E C a w ok β st)(hs0:s<1000000)
  (h:rv1 st (.cell s (if gZ d then some i.size else none))=some e):∃ v,(kX a.tmps (.cell s t)).run E.P w=.ok v w∧Rep w ok β v e:=by
 have hr:=hs.frt hs0
 simp only [rv1] at h
 generalize hpv:a.tmps.getD s _root_.Go.undef=pv at hr
 generalize hd:st.fr s=dv at h hr
 cases hr with
 | ptr l o b x hb=>
  simp only at h
  cases ho:st.h[l]? with
  | none=>rw [ho] at h; simp at h
  | some ob=>
   rw [ho] at h
   cases ob with
   | box cs=>
    obtain ⟨b',vs,ty,fz,g1,g2,g3,g4,g5⟩:=hs.heap.obj l _ ho
    rw [hb] at g1
    injection g1 with g1; injection g1 with e1 e2
    subst e1; subst e2
    cases hg:gZ d with
    | false=>
     simp only [hg,Bool.false_eq_true,if_false] at h
     have ho:o<vs.size:=by
      rcases Nat.lt_or_ge o cs.length with h' | h'
      ·omega
      ·rw [List.getElem?_eq_none h'] at h; cases h
     refine ⟨vs[o],?_,g5 o _ e (Array.getElem?_eq_getElem ho) h⟩
     have hcell:w.cell? ⟨b,o,none⟩=some vs[o]:=by simp [World.cell?,g2,ho]
     simp only [kX,hpv]
     simp [asAddr,loadVar,jU ht false hg,hcell]
    | true=>
     simp only [hg,if_true] at h
     split at h
     ·rename_i hle
      injection h with h; subst h
      have hvs:((vs.toList.drop o).take i.size).length=i.size:=by simp; omega
      refine ⟨.agg ((vs.toList.drop o).take i.size).toArray,?_,.agg _ _ (by rw [hvs]; simp; omega) fun j v e hv he=>?_⟩
      ·have hL:=run_loadCells_list (P:=E.P) w ⟨b,0+o,none⟩ ((vs.toList.drop o).take i.size) (fun j v hv=>by
        rw [List.getElem?_take] at hv
        split at hv
        ·rw [List.getElem?_drop] at hv
         simp [cN,World.cell?,g2]
         simpa using hv
        ·cases hv)
       rw [hvs] at hL
       simp only [kX,hpv]
       simp [asAddr,loadVar,jU ht true hg,sizeOf,typeInfo,hi]
       simp at hL
       simp [hL]
      ·rw [List.getElem?_take] at hv he
       split at hv
       ·rename_i hj
        rw [if_pos hj,List.getElem?_drop] at he
        rw [List.getElem?_drop] at hv
        exact g5 _ v e (by simpa using hv) he
       ·cases hv
     ·cases h
   | _=>simp at h
 | _=>simp at h

theorem xU (hs:SRep E C a w ok β st):∀ (l:List ResultVar)(rs:List RV)(ds:List DV),vU E.P l=some rs→rvl st rs=some ds →
    ∃ vs:List Value,(l.mapM (kX a.tmps)).run E.P w=.ok vs w∧vs.length=ds.length∧∀ (i:Nat) v d,vs[i]?=some v→ds[i]?=some d→Rep w ok β v d
  | [],rs,ds,h,hd=>by
    simp [vU] at h; subst h
    simp [rvl] at hd; subst hd
    exact ⟨[],rfl,rfl,fun i v d hv=>by simp at hv⟩
  | r::l,rs,ds,h,hd=>by
    have step:∀ (q:RV) (rs' : List RV),vU E.P l=some rs' → rs=q::rs' → (∀ e,rv1 st q=some e→∃ v,(kX a.tmps r).run E.P w=.ok v w∧Rep w ok β v e) →
        ∃ vs:List Value,((r::l).mapM (kX a.tmps)).run E.P w=.ok vs w∧vs.length=ds.length∧∀ (i:Nat) v d,vs[i]?=some v→ds[i]?=some d→Rep w ok β v d:=fun q rs' hq he hone=>by
      subst he
      simp only [rvl,Option.bind_eq_some_iff,Option.map_eq_some_iff] at hd
      obtain ⟨e,he,ds',hds,rfl⟩:=hd
      obtain ⟨v,r1,r2⟩:=hone e he
      obtain ⟨vs,q1,q2,q3⟩:=xU hs l rs' ds' hq hds
      refine ⟨v::vs,?_,by simp [q2],fun i u d hu hd=>?_⟩
      · rw [List.mapM_cons]
        simp only [Sem.run_bind,r1,Result.andThen_ok,q1,Sem.run_pure]
      · cases i with
        | zero=>simp at hu hd; subst hu; subst hd; exact r2
        | succ i=>exact q3 i u d (by simpa using hu) (by simpa using hd)
    cases r with
    | tmp t=>
      simp only [vU] at h
      split at h
      case isFalse=>cases h
      rename_i ht6
      simp only [Option.map_eq_some_iff] at h
      obtain ⟨rs',h',e⟩:=h
      exact step _ rs' h' e.symm fun e he=>⟨_,rfl,by simp [rv1] at he; subst he; exact hs.frt ht6⟩
    | cell s t=>
      simp only [vU] at h
      split at h
      · rename_i d i hu hi
        split at h
        case isFalse=>cases h
        rename_i hs6
        simp only [Option.map_eq_some_iff] at h
        obtain ⟨rs',h',e⟩:=h
        exact step _ rs' h' e.symm fun e he=>xL hu hi hs hs6 he
      · cases h

theorem iT {fn:Func}{rs:List RV}{ds:List DV}(h:vU E.P fn.results.toList=some rs)(hds:rvl st rs=some ds)(hs:SRep E C a w ok β st):∃ v,(results fn a.tmps).run E.P w=.ok v w∧Rep w ok β v (rvd ds):=by
 obtain ⟨vs,h1,h2,h3⟩:=xU hs _ _ _ h hds
 refine ⟨if h:vs.toArray.size=1 then vs.toArray[0] else .tuple vs.toArray,?_,?_⟩
 ·show ((do let vs ← fn.results.mapM (kX a.tmps); pure (if h:vs.size=1 then vs[0] else .tuple vs)):Sem Value).run E.P w=_
  rw [Array.mapM_eq_mapM_toList]
  simp only [Sem.run_bind,Sem.run_map,h1,Result.andThen_ok,Sem.run_pure]
 ·match vs,ds with
  | [v],[d]=>exact h3 0 v d rfl rfl
  | [],[]=>exact .tup [] [] rfl h3
  | v::v' :: vs,d::d' :: ds=>
   have:¬ (v::v' :: vs).toArray.size=1:=by simp
   rw [dif_neg this]
   exact .tup _ _ h2 h3
  | [],_::_=>simp at h2
  | _::_,[]=>simp at h2
  | [_],_::_::_=>simp at h2
  | _::_::_,[_]=>simp at h2

theorem RF (ρ:Nat→Option Nat)(h:List AObj):∀ ds:List DV,(rvd ds).low ρ h=rvd (ds.map (DV.low ρ h))
 | []=>rfl
 | [_]=>rfl
 | a::b::ds=>by
  show DV.tup (DV.low.lowAll ρ h (a::b::ds))=DV.tup ((a::b::ds).map (DV.low ρ h))
  rw [bM]
theorem pL {kp:Bool}{w:World}{ok:Nat→Prop}{β:Loc}{h:List AObj}{n:Nat}{hn6:n≤1000000}{gh:Nat→Value}{a' : Act}{w' : World}{ok' : Nat→Prop}{β' : Loc}{st' : St}{post:List AObj→DV→Prop}{ds:List DV}{v:Value}
  (hs' : SRep E ⟨w,ok,β,h,n,hn6,gh⟩ a' w' ok' β' st') (r2:Rep w' ok' β' v (rvd ds)) (hf:UB h.length post ds st'.h) (hkp:kp=true→∀ l,l<h.length→β' l=β l) :
  ∃ v' ok' β' h' d,Ending.returned v=.returned v' ∧ post h' d∧E.G w' ∧ Ev w ok β w' ok' β' ∧ HRep E.N w' ok' β' h' ∧ Rep w' ok' β' v' d ∧
   (∀ (l:Nat) cs,h[l]?=some (.box cs)→β' l=β l∧∃ cs',h'[l]?=some (.box cs'))∧h.length≤h'.length∧(kp=true→∀ l,l<h.length→β' l=β l):=by
 obtain ⟨ρ,p1,p2,p3,p4,p5,p6,p7⟩:=hf
 refine ⟨v,ok',fun i=>(ρ[i]?).bind β',_,_,rfl,p7,hs'.g,?_,?_,?_,?_,by simpa using p2,fun hk l hl=>by
  have q3:=p3 l hl
  simp only [q3]; exact hkp hk l hl⟩
 ·exact ⟨hs'.ev.os,hs'.ev.tape,hs'.ev.output,hs'.ev.size,hs'.ev.same,fun l x hx=>by
   simp only [Option.bind_eq_some_iff] at hx
   obtain ⟨k,_,hx⟩:=hx
   exact hs'.ev.own k x hx,hs'.ev.up,hs'.ev.dn,hs'.ev.shape⟩
 ·refine ⟨fun l hl=>?_,fun l l' b o o' h1 h2=>?_,fun l b o h1=>?_,fun l b o h1=>?_,hs'.heap.okl,fun l o ho=>?_⟩
  ·simp at hl
   simp [List.getElem?_eq_none hl]
  ·simp only [Option.bind_eq_some_iff] at h1 h2
   obtain ⟨k1,q1,h1⟩:=h1
   obtain ⟨k2,q2,h2⟩:=h2
   have hkk:=hs'.heap.inj k1 k2 b o o' h1 h2
   subst hkk
   have hl1:l<ρ.length:=by
    rcases Nat.lt_or_ge l ρ.length with h|h
    ·exact h
    ·rw [List.getElem?_eq_none h] at q1; cases q1
   exact (List.getElem?_inj hl1 p1).1 (q1.trans q2.symm)
  ·simp only [Option.bind_eq_some_iff] at h1
   obtain ⟨k1,q1,h1⟩:=h1
   exact hs'.heap.lt k1 b o h1
  ·simp only [Option.bind_eq_some_iff] at h1
   obtain ⟨k1,q1,h1⟩:=h1
   exact hs'.heap.dis k1 b o h1
  ·rw [List.getElem?_map] at ho
   cases hk1:ρ[l]? with
   | none=>simp [hk1] at ho
   | some k1=>
    simp [hk1] at ho
    subst ho
    have hmem:=List.mem_of_getElem? hk1
    have hkl:=p4 k1 hmem
    have hob:st'.h[k1]?=some (st'.h[k1]?.getD .dead):=by rw [List.getElem?_eq_getElem hkl]; rfl
    have hor:=hs'.heap.obj k1 _ hob
    have hl1:l<ρ.length:=by
     rcases Nat.lt_or_ge l ρ.length with h|h
     ·exact h
     ·rw [List.getElem?_eq_none h] at hk1; cases hk1
    have hidx:ρ.idxOf k1=l:=by
     have e1:ρ[l]=k1:=by rw [List.getElem?_eq_getElem hl1] at hk1; injection hk1
     subst e1
     exact p1.idxOf_getElem l hl1
    have hor2:=hor.inL (β' := fun k=>if k∈ρ then β' k else none) (ρ.contains ·) (by simp [hmem]) (fun cs hcs d hd=>by
     have h6:=p6 k1 hmem
     rw [List.getD_eq_getElem?_getD,hcs] at h6
     exact List.all_eq_true.1 h6 d hd) (fun k x hk hx=>by
     have:k∈ρ:=by simpa using hk
     simp [this,hx])
    refine hor2.ren (ρ.idxOf ·) l (by simp [hk1,hmem]) (fun k x hx=>?_)
    split at hx
    ·rename_i hkm
     have:ρ[ρ.idxOf k]?=some k:=by
      have hlt:=List.idxOf_lt_length_of_mem hkm
      rw [List.getElem?_eq_getElem hlt]
      simp
     simp [this,hx]
    ·cases hx
 ·have r3:=r2.inL (β' := fun k=>if k∈ρ then β' k else none) (ρ.contains ·) p5 (fun k x hk hx=>by
   have:k∈ρ:=by simpa using hk
   simp [this,hx])
  refine r3.ren (ρ.idxOf ·) (fun k x hx=>?_)
  split at hx
  ·rename_i hkm
   have:ρ[ρ.idxOf k]?=some k:=by
    have hlt:=List.idxOf_lt_length_of_mem hkm
    rw [List.getElem?_eq_getElem hlt]
    simp
   simp [this,hx]
  ·cases hx
 ·intro l cs hlc
  obtain ⟨q1,cs',q2⟩:=hs'.fix l cs hlc
  have hl0:l<h.length:=by
   rcases Nat.lt_or_ge l h.length with h' | h'
   ·exact h'
   ·rw [List.getElem?_eq_none h'] at hlc; cases hlc
  have q3:=p3 l hl0
  refine ⟨by simp [q3]; exact q1,cs'.map (DV.ren (ρ.idxOf ·)),?_⟩
  rw [List.getElem?_map,q3]
  simp [List.getD_eq_getElem?_getD,q2,aR]
theorem sK {f:Nat}{af:AFun}(hc:aF E.P f=some af){h:List AObj}{args:List DV}{post:List AObj→DV→Prop}(hle:args.length≤af.nt)
    (hk:awp E h.length af.body (fin h.length af.res post) ⟨fun s=>args.getD s .undef,h⟩):ACalls E f h args post:=by
  unfold aF at hc
  split at hc
  · rename_i fn hf
    split at hc
    · rename_i hname
      split at hc
      · rename_i c hb
        split at hc
        case isFalse=>cases hc
        rename_i hn6
        simp only [Option.bind_eq_some_iff,Option.map_eq_some_iff] at hc
        obtain ⟨b,hcb,rs,hrs,rfl⟩:=hc
        refine ⟨⟨fn,hf,hname,by simp [hb]⟩,fun w ok β vs hg hN hh hl hv=>?_⟩
        let C:Ctx:=⟨w,ok,β,h,fn.ntmps,hn6,fun _=>undef⟩
        refine calls_of_wp hf hb ?_
        have hs:SRep E C { tmps:=vs.toArray++Array.replicate (fn.ntmps - vs.toArray.size) undef,defers:=[] } w ok β ⟨fun s=>args.getD s .undef,h⟩:=by
          refine ⟨hg,Ev.refl _ _ _,hh,fun l cs hl=>⟨rfl,cs,hl⟩,Nat.le_refl _,fun s=>?_,by simp [C]; simp at hle; omega,rfl,hN⟩
          simp at hle
          have hval:C.val { tmps:=vs.toArray++Array.replicate (fn.ntmps - vs.toArray.size) undef,defers:=[] } s=(vs.toArray++Array.replicate (fn.ntmps - vs.toArray.size) undef).getD s undef:=by
            simp only [Ctx.val]
            split
            · rfl
            · rw [Array.getD_eq_getD_getElem?,Array.getElem?_eq_none (by simp; omega)]; rfl
          rw [hval]
          rcases Nat.lt_or_ge s vs.length with hlt|hge
          · have h1:(vs.toArray++Array.replicate (fn.ntmps - vs.toArray.size) undef).getD s undef=vs[s]:=by
              rw [Array.getD_eq_getD_getElem?,Array.getElem?_append_left (by simpa using hlt)]
              simp [hlt]
            have h2:args.getD s .undef=args[s]'(by omega):=by
              rw [List.getD_eq_getElem?_getD,List.getElem?_eq_getElem (by omega)]; rfl
            simp only
            rw [h1,h2]
            exact hv s _ _ (List.getElem?_eq_getElem hlt) (List.getElem?_eq_getElem (by omega))
          · have h2:args.getD s .undef=.undef:=by
              rw [List.getD_eq_getElem?_getD,List.getElem?_eq_none (by omega)]; rfl
            simp only
            rw [h2]
            exact .undef _
        have hw:=mU (E:=E) (C:=C) c b hcb _ _ _ w ok β hs hk
        refine wp_mono hw fun e a' w' hfit=>?_
        have hend:∀ st',(∃ ok' β',fin h.length rs post .ret st' ∧ SRep E C a' w' ok' β' st')→a'.defers=[]∧∃ v,(results fn a'.tmps).run E.P w' = .ok v w' ∧
            ∃ v' ok' β' h' d,Ending.returned v=.returned v' ∧ post h' d∧E.G w' ∧ Ev w ok β w' ok' β' ∧ HRep E.N w' ok' β' h' ∧ Rep w' ok' β' v' d ∧
            (∀ (l:Nat) cs,h[l]?=some (.box cs)→β' l=β l∧∃ cs',h'[l]?=some (.box cs'))∧h.length≤h'.length∧(false=true→∀ l,l<h.length→β' l=β l):=by
          rintro st' ⟨ok',β',⟨ds,hds,ρ,p1,p2,p3,p4,p5,p6,p7⟩,hs'⟩
          obtain ⟨v,r1,r2⟩:=iT hrs hds hs'
          exact ⟨hs'.defers,v,r1,pL (h:=h) (n:=fn.ntmps) (hn6:=hn6) hs' r2 ⟨ρ,p1,p2,p3,p4,p5,p6,p7⟩ (fun h=>by cases h)⟩
        cases e with
        | normal=>obtain ⟨ok',β',st',k1,k2⟩:=hfit; exact hend st' ⟨ok',β',k1,k2⟩
        | ret=>obtain ⟨ok',β',st',k1,k2⟩:=hfit; exact hend st' ⟨ok',β',k1,k2⟩
        | exit id=>obtain ⟨_,ok',β',st',k1,k2⟩:=hfit; exact k1.elim
        | goto l=>obtain ⟨ok',β',st',k1,k2⟩:=hfit; exact k1.elim
        | _=>exact hfit.elim
      · cases hc
    · cases hc
  · cases hc
def KP (m0:Nat)(res:List RV)(post:List AObj→DV→Prop)(h0:List AObj)(args:List DV):AExit→St→Prop
 | .exit _,_=>False
 | e,st=>fin m0 res post e st∧∀ l,l<m0→(∃ cs,h0[l]?=some (.box cs))∨∃ i sz off n c,st.fr (1000000+i)=.osl sz l off n c∧0<n∧args[i]?=some (.osl sz l off n c)
theorem VC {w w' : World}{ok ok' : Nat→Prop}{β β' : Loc}{v:Value}{sz l off n:Nat}{c:Option Nat}(h1:Rep w ok β v (.osl sz l off n c))(h2:Rep w' ok' β' v (.osl sz l off n c))(hn:0<n):β' l=β l:=by
 cases h1 with
 | osl sz l off n c b x y t m hb hnc hsz hy hm hr cap hcap=>
  cases h2 with
  | osl sz l off n c b x' y t m hb' hnc' hsz' hy' hm' hr' cap' hcap' =>
   have e1:=hy (by omega)
   have e2:=hy' (by omega)
   rw [hb,hb']
   have:x=x' := by omega
   rw [this]
 | oslnil sz l off cap hcap hz=>omega
theorem pR {f:Nat}{af:AFun}(hc:aF E.P f=some af){h:List AObj}{args:List DV}{post:List AObj→DV→Prop}(hle:args.length≤af.nt)
    (hk:awp E h.length af.body (KP h.length af.res post h args) ⟨fun s=>if s<1000000 then args.getD s .undef else args.getD (s - 1000000) .undef,h⟩):eK E true f h args post:=by
  unfold aF at hc
  split at hc
  · rename_i fn hf
    split at hc
    · rename_i hname
      split at hc
      · rename_i c hb
        split at hc
        case isFalse=>cases hc
        rename_i hn6
        simp only [Option.bind_eq_some_iff,Option.map_eq_some_iff] at hc
        obtain ⟨b,hcb,rs,hrs,rfl⟩:=hc
        refine ⟨⟨fn,hf,hname,by simp [hb]⟩,fun w ok β vs hg hN hh hl hv=>?_⟩
        let C:Ctx:=⟨w,ok,β,h,fn.ntmps,hn6,fun s=>vs.getD (s - 1000000) undef⟩
        refine calls_of_wp hf hb ?_
        have hs:SRep E C { tmps:=vs.toArray++Array.replicate (fn.ntmps - vs.toArray.size) undef,defers:=[] } w ok β ⟨fun s=>if s<1000000 then args.getD s .undef else args.getD (s - 1000000) .undef,h⟩:=by
          refine ⟨hg,Ev.refl _ _ _,hh,fun l cs hl=>⟨rfl,cs,hl⟩,Nat.le_refl _,fun s=>?_,by simp [C]; simp at hle; omega,rfl,hN⟩
          simp at hle
          simp only [Ctx.val]
          split
          · rcases Nat.lt_or_ge s vs.length with hlt | hge
            · have h1:(vs.toArray++Array.replicate (fn.ntmps - vs.toArray.size) undef).getD s undef=vs[s]:=by
                rw [Array.getD_eq_getD_getElem?,Array.getElem?_append_left (by simpa using hlt)]
                simp [hlt]
              have h2:args.getD s .undef=args[s]'(by omega):=by
                rw [List.getD_eq_getElem?_getD,List.getElem?_eq_getElem (by omega)]; rfl
              rw [h1,h2]
              exact hv s _ _ (List.getElem?_eq_getElem hlt) (List.getElem?_eq_getElem (by omega))
            · have h2:args.getD s .undef=.undef:=by
                rw [List.getD_eq_getElem?_getD,List.getElem?_eq_none (by omega)]; rfl
              rw [h2]
              exact .undef _
          · have hgi:C.gh s=vs.getD (s - 1000000) undef:=rfl
            rw [hgi]
            generalize s - 1000000=s
            rcases Nat.lt_or_ge s vs.length with hlt|hge
            · have h1:vs.getD s undef=vs[s]:=by
                rw [List.getD_eq_getElem?_getD,List.getElem?_eq_getElem hlt]; rfl
              have h2:args.getD s .undef=args[s]'(by omega):=by
                rw [List.getD_eq_getElem?_getD,List.getElem?_eq_getElem (by omega)]; rfl
              rw [h1,h2]
              exact hv s _ _ (List.getElem?_eq_getElem hlt) (List.getElem?_eq_getElem (by omega))
            · have h2:args.getD s .undef=.undef:=by
                rw [List.getD_eq_getElem?_getD,List.getElem?_eq_none (by omega)]; rfl
              rw [h2]
              exact .undef _
        have hw:=mU (E:=E) (C:=C) c b hcb _ _ _ w ok β hs hk
        refine wp_mono hw fun e a' w' hfit=>?_
        have hend:∀ st',(∃ ok' β',KP h.length rs post h args .ret st' ∧ SRep E C a' w' ok' β' st')→a'.defers=[]∧∃ v,(results fn a'.tmps).run E.P w' = .ok v w' ∧
            ∃ v' ok' β' h' d,Ending.returned v=.returned v' ∧ post h' d∧E.G w' ∧ Ev w ok β w' ok' β' ∧ HRep E.N w' ok' β' h' ∧ Rep w' ok' β' v' d ∧
            (∀ (l:Nat) cs,h[l]?=some (.box cs)→β' l=β l∧∃ cs',h'[l]?=some (.box cs'))∧h.length≤h'.length∧(true=true→∀ l,l<h.length→β' l=β l):=by
          rintro st' ⟨ok',β',⟨⟨ds,hds,ρ,p1,p2,p3,p4,p5,p6,p7⟩,hgh⟩,hs'⟩
          obtain ⟨v,r1,r2⟩:=iT hrs hds hs'
          exact ⟨hs'.defers,v,r1,pL (h:=h) (n:=fn.ntmps) (hn6:=hn6) hs' r2 ⟨ρ,p1,p2,p3,p4,p5,p6,p7⟩ (fun _ l hl1=>by
            rcases hgh l hl1 with ⟨cs,hcs⟩|⟨i,sz,off,n,c,g1,g2,g3⟩
            · exact (hs'.fix l cs hcs).1
            · have q:=hs'.fr (1000000+i)
              rw [g1] at q
              simp only [Ctx.val] at q
              rw [if_neg (by omega)] at q
              have hgi:C.gh (1000000+i)=vs.getD i undef:=congrArg (fun k=>vs.getD k undef) (Nat.add_sub_cancel_left 1000000 i)
              rw [hgi] at q
              have hil:i<vs.length:=by
                rcases Nat.lt_or_ge i args.length with h|h
                · omega
                · rw [List.getElem?_eq_none h] at g3; cases g3
              have e1:vs.getD i undef=vs[i]:=by
                rw [List.getD_eq_getElem?_getD,List.getElem?_eq_getElem hil]; rfl
              have q0:=hv i _ _ (List.getElem?_eq_getElem hil) g3
              rw [← e1] at q0
              exact VC q0 q g2)⟩
        cases e with
        | normal=>obtain ⟨ok',β',st',k1,k2⟩:=hfit; exact hend st' ⟨ok',β',k1,k2⟩
        | ret=>obtain ⟨ok',β',st',k1,k2⟩:=hfit; exact hend st' ⟨ok',β',k1,k2⟩
        | exit id=>obtain ⟨_,ok',β',st',k1,k2⟩:=hfit; exact k1.elim
        | goto l=>obtain ⟨ok',β',st',k1,k2⟩:=hfit; exact k1.elim
        | _=>exact hfit.elim
      · cases hc
    · cases hc
  · cases hc
theorem qU {f:Nat}{af:AFun}(hc:aF E.P f=some af){h:List AObj}{args:List DV}{post:List AObj→DV→Prop}(hle:args.length≤af.nt)
    (hk:awp E h.length af.body (zR h.length af.res post) ⟨fun s=>args.getD s .undef,h⟩):ACalls E f h args post:=by
  unfold aF at hc
  split at hc
  · rename_i fn hf
    split at hc
    · rename_i hname
      split at hc
      · rename_i c hb
        split at hc
        case isFalse=>cases hc
        rename_i hn6
        simp only [Option.bind_eq_some_iff,Option.map_eq_some_iff] at hc
        obtain ⟨b,hcb,rs,hrs,rfl⟩:=hc
        refine ⟨⟨fn,hf,hname,by simp [hb]⟩,fun w ok β vs hg hN hh hl hv=>?_⟩
        let C:Ctx:=⟨w,ok,β,h,fn.ntmps,hn6,fun _=>undef⟩
        refine calls_of_wp hf hb ?_
        have hs:SRep E C { tmps:=vs.toArray++Array.replicate (fn.ntmps - vs.toArray.size) undef,defers:=[] } w ok β ⟨fun s=>args.getD s .undef,h⟩:=by
          refine ⟨hg,Ev.refl _ _ _,hh,fun l cs hl=>⟨rfl,cs,hl⟩,Nat.le_refl _,fun s=>?_,by simp [C]; simp at hle; omega,rfl,hN⟩
          simp at hle
          have hval:C.val { tmps:=vs.toArray++Array.replicate (fn.ntmps - vs.toArray.size) undef,defers:=[] } s=(vs.toArray++Array.replicate (fn.ntmps - vs.toArray.size) undef).getD s undef:=by
            simp only [Ctx.val]
            split
            · rfl
            · rw [Array.getD_eq_getD_getElem?,Array.getElem?_eq_none (by simp; omega)]; rfl
          rw [hval]
          rcases Nat.lt_or_ge s vs.length with hlt|hge
          · have h1:(vs.toArray++Array.replicate (fn.ntmps - vs.toArray.size) undef).getD s undef=vs[s]:=by
              rw [Array.getD_eq_getD_getElem?,Array.getElem?_append_left (by simpa using hlt)]
              simp [hlt]
            have h2:args.getD s .undef=args[s]'(by omega):=by
              rw [List.getD_eq_getElem?_getD,List.getElem?_eq_getElem (by omega)]; rfl
            simp only
            rw [h1,h2]
            exact hv s _ _ (List.getElem?_eq_getElem hlt) (List.getElem?_eq_getElem (by omega))
          · have h2:args.getD s .undef=.undef:=by
              rw [List.getD_eq_getElem?_getD,List.getElem?_eq_none (by omega)]; rfl
            simp only
            rw [h2]
            exact .undef _
        have hw:=mU (E:=E) (C:=C) c b hcb _ _ _ w ok β hs hk
        refine wp_mono hw fun e a' w' hfit=>?_
        have hend:∀ st',(∃ ok' β',zR h.length rs post .ret st' ∧ SRep E C a' w' ok' β' st')→a'.defers=[]∧∃ v,(results fn a'.tmps).run E.P w' = .ok v w' ∧
            ∃ v' ok' β' h' d,Ending.returned v=.returned v' ∧ post h' d∧E.G w' ∧ Ev w ok β w' ok' β' ∧ HRep E.N w' ok' β' h' ∧ Rep w' ok' β' v' d ∧
            (∀ (l:Nat) cs,h[l]?=some (.box cs)→β' l=β l∧∃ cs',h'[l]?=some (.box cs'))∧h.length≤h'.length∧(false=true→∀ l,l<h.length→β' l=β l):=by
          rintro st' ⟨ok',β',⟨ds,hds,F,hF,hfd⟩,hs'⟩
          obtain ⟨v,r1,r2⟩:=iT hrs hds hs'
          obtain ⟨ok2,β2,s2,k2⟩:=hs'.freeze F fun l hl=>.inr (hF l hl)
          exact ⟨hs'.defers,v,r1,pL (h:=h) (n:=fn.ntmps) (hn6:=hn6) s2 (by rw [← RF]; exact k2 _ _ r2) hfd (fun h=>by cases h)⟩
        cases e with
        | normal=>obtain ⟨ok',β',st',k1,k2⟩:=hfit; exact hend st' ⟨ok',β',k1,k2⟩
        | ret=>obtain ⟨ok',β',st',k1,k2⟩:=hfit; exact hend st' ⟨ok',β',k1,k2⟩
        | exit id=>obtain ⟨_,ok',β',st',k1,k2⟩:=hfit; exact k1.elim
        | goto l=>obtain ⟨ok',β',st',k1,k2⟩:=hfit; exact k1.elim
        | _=>exact hfit.elim
      · cases hc
    · cases hc
  · cases hc
end
abbrev oM (a b:Nat):AOper:=⟨some a,.mov (.t b),none⟩
abbrev oS (a b:Nat):AOper:=⟨some a,.set (.t b),none⟩
abbrev oI (n:Int):AX:=.c (.int .i64 n)
abbrev oO (a:Nat)(o:AOp):AOper:=⟨some a,o,none⟩
abbrev oG (a g:Nat)(o:AOp):AOper:=⟨some a,o,some (g,true)⟩
theorem tS {α:Type}{a:Option α}{x y:α}(h:a=some x)(e:x=y):a=some y:=h.trans (congrArg some e)
abbrev oL (a b:Nat):AOper:=⟨some a,.load none (.t b),none⟩
abbrev oF (a n b:Nat):AOper:=⟨some a,.faddr n (.t b),none⟩
abbrev oA (a n b c:Nat):AOper:=⟨some a,.iaddr n (.t b) (.t c),none⟩
abbrev oN (a:Nat)(s:Bool)(b:Nat):AOper:=⟨some a,.len s (.t b),none⟩
abbrev oE (a b i:Nat):AOper:=⟨some a,.extr (.t b) i,none⟩
abbrev oB (a:Nat)(o:BinOp)(b:Nat)(y:AX):AOper:=⟨some a,.bin o .prim (.t b) y,none⟩
abbrev oR (l:List AOper):ACode:=.region false l
abbrev cF:AX:=.c (.bool false)
abbrev cT:AX:=.c (.bool true)
abbrev cE:AX:=.c (.str [])
abbrev oC (a f:Nat)(l:List AX):AOper:=⟨some a,.call true f l,none⟩
abbrev oV (a g b:Nat):AOper:=⟨some a,.mov (.t b),some (g,true)⟩
abbrev oW (n a b:Nat):AOper:=⟨none,.store true n (.t a) (.t b),none⟩
abbrev oP (a b:Nat)(x y:AX):AOper:=⟨some a,.pick (.t b) x y,none⟩
abbrev oZ (a:Nat)(x:AX):AOper:=⟨some a,.set x,none⟩
end Go.Ai
