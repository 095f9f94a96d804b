/- Regions whose order Go leaves open: whatever the order, what holds of the text's order holds. -/
import Derived.Test.YtgamnnfndidclaaGreatDoorGAiOper
set_option linter.all false
namespace Go.Ai

def AX.slots:AX→List Nat
 | .t s=>[s]
 | .c _=>[]
def mP:Option AX→List Nat
 | some x=>x.slots
 | none=>[]
def AOp.slots:AOp→List Nat
 | .mov x | .set x | .box x | .load _ x | .nilchk x | .mkifc _ x | .mkbnd _ x | .un _ x | .conv _ x | .faddr _ x | .field _ _ x | .range x | .next x | .extr x _ | .len _ x | .cap x=>x.slots
 | .pick c a b=>c.slots++a.slots++b.slots
 | .build _ ps=>ps.flatMap fun p=>p.2.2.slots
 | .bslice _ _ ps | .mkfn _ ps | .call _ _ ps | .mn ps | .mx ps=>ps.flatMap AX.slots
 | .callv _ x ps | .inv _ _ x ps=>x.slots++ps.flatMap AX.slots
 | .store _ _ x v | .bin _ _ x v | .iaddr _ x v | .baddr _ _ x v | .sidx x v | .append _ _ x v | .appendf _ _ x v=>x.slots++v.slots
 | .mkslice _ _ _ l c=>l.slots++c.slots
 | .slice _ x lo hi=>x.slots++mP lo++mP hi
 | .appendz _ _ _ x v | .cpy _ x v=>x.slots++v.slots
 | .clr _ _ x=>x.slots
 | .look _ _ x k | .ment _ x k=>x.slots++k.slots
 | .mset x k v | .mput x k v=>x.slots++k.slots++v.slots
 | .newnil _ | .alloc _ | .allocb _ _ | .mkmap | .bad=>[]

theorem bE {x:AX}{fr fr' : Nat→DV}(h:∀ s∈x.slots,fr' s=fr s):x.ev fr' = x.ev fr:=by
 cases x with
 | t n=>exact h n (by simp [AX.slots])
 | c d=>rfl
theorem mM {xs:List AX}{fr fr' : Nat→DV}(h:∀ s∈xs.flatMap AX.slots,fr' s=fr s):xs.map (·.ev fr')=xs.map (·.ev fr):=by
 apply List.map_congr_left
 intro x hx
 exact bE fun s hs=>h s (List.mem_flatMap.2 ⟨x,hx,hs⟩)

def jE:AX→Bool
 | .c (.nils _)=>true
 | _=>false
theorem xC {x:AX}(h:jE x=true):∃ n,x=.c (.nils n):=by
 unfold jE at h
 split at h
 ·exact ⟨_,rfl⟩
 ·cases h
def AOp.cls:AOp→Nat
 | .mov _ | .pick .. | .nilchk _ | .bin .. | .un .. | .mkfn .. | .mkifc .. | .mkbnd .. | .slice .. | .faddr .. | .iaddr .. | .baddr .. | .sidx .. | .extr .. | .len .. | .build .. | .mn _ | .mx _=>0
 | .conv k x=>match k,x with | .int _,_ | .id,_ | .i2s,_=>0 | .b2s,.t _ | .r2s,.t _=>1 | _,_=>4
 | .load _ (.t _)=>1
 | .call b _ _ | .callv b _ _=>bif b then 4 else 2
 | .bslice b _ _=>bif b then 4 else 3
 | .alloc _=>3
 | .append _ _ x _=>bif jE x then 3 else 4
 | .store b _ _ _=>bif b then 4 else 5
 | _=>4

theorem OV {op:BinOp}{ty:Ty}{x y:DV}{K:DV→Prop}(h:aT op ty x y K):∃ d,∀ K' : DV→Prop,aT op ty x y K' ↔ K' d:=by
  unfold aT at h
  split at h
  · cases op <;> simp only [] at h <;> first
      | exact h.elim
      | exact ⟨_,fun K' => by unfold aT; exact ⟨fun q=>q.2.2,fun hk=>⟨h.1,h.2.1,hk⟩⟩⟩
      | exact ⟨_,fun K' => by unfold aT; exact ⟨fun q=>q.2,fun hk=>⟨h.1,hk⟩⟩⟩
  · cases op <;> simp only [] at h <;> first
      | exact h.elim
      | exact ⟨_,fun K' => by unfold aT; exact ⟨fun q=>q.2,fun hk=>⟨h.1,hk⟩⟩⟩
      | exact ⟨_,fun K' => by unfold aT; exact Iff.rfl⟩
  · cases op <;> simp only [] at h <;> first
      | exact h.elim
      | exact ⟨_,fun K' => by unfold aT; exact Iff.rfl⟩
  · cases op <;> simp only [] at h <;> first
      | exact h.elim
      | (obtain ⟨b,hb,_⟩:=h
         exact ⟨_,fun K' => by
          unfold aT
          constructor
          · rintro ⟨b',hb',hk⟩
            rw [hb] at hb'
            cases hb'
            exact hk
          · exact fun hk=>⟨b,hb,hk⟩⟩)
  · cases op <;> simp only [iI] at h <;> first
      | exact h.elim
      | exact ⟨_,fun K' => by unfold aT; exact Iff.rfl⟩
  · cases op <;> simp only [iI] at h <;> first
      | exact h.elim
      | exact ⟨_,fun K' => by unfold aT; exact Iff.rfl⟩
  · cases op <;> simp only [iI] at h <;> first
      | exact h.elim
      | exact ⟨_,fun K' => by unfold aT; exact Iff.rfl⟩
  · cases op <;> simp only [iI] at h <;> first
      | exact h.elim
      | exact ⟨_,fun K' => by unfold aT; exact Iff.rfl⟩
  · cases op <;> simp only [iI] at h <;> first
      | exact h.2.elim
      | exact ⟨_,fun K' => by unfold aT; exact ⟨fun q=>q.2,fun hk=>⟨h.1,hk⟩⟩⟩
  · cases op <;> simp only [iI] at h <;> first
      | exact h.2.elim
      | exact ⟨_,fun K' => by unfold aT; exact ⟨fun q=>q.2,fun hk=>⟨h.1,hk⟩⟩⟩
  · cases op <;> simp only [iI] at h <;> first
      | exact h.elim
      | exact ⟨_,fun K' => by unfold aT; exact Iff.rfl⟩
  · cases op <;> simp only [iI] at h <;> first
      | exact h.elim
      | exact ⟨_,fun K' => by unfold aT; exact Iff.rfl⟩
  · cases op <;> simp only [iI] at h <;> first
      | exact h.elim
      | exact ⟨_,fun K' => by unfold aT; exact Iff.rfl⟩
  · exact h.elim
theorem UT {op:UnOp}{x:DV}{K:DV→Prop}(h:unD op x K):∃ d,∀ K' : DV→Prop,unD op x K' ↔ K' d:=by
 unfold unD at h
 split at h
 ·exact ⟨_,fun K' => Iff.rfl⟩
 ·exact ⟨_,fun K' => Iff.rfl⟩
 ·exact h.elim
theorem uM {fr:Nat→DV}{lo hi:Option AX}{n c:Nat}{K:Nat→Nat→Prop}(h:bnd fr lo hi n c K) :
  ∃ i j,∀ (fr' : Nat→DV) (K' : Nat→Nat→Prop),(∀ s∈mP lo,fr' s=fr s)→(∀ s∈mP hi,fr' s=fr s)→(bnd fr' lo hi n c K' ↔ K' i j):=by
 unfold bnd at h
 cases lo with
 | none=>
  cases hi with
  | none=>exact ⟨0,n,fun fr' K' _ _=>Iff.rfl⟩
  | some y=>
   simp only at h
   generalize hd:AX.ev fr y=d at h
   cases d <;> (try exact h.elim)
   exact ⟨_,_,fun fr' K' _ h2=>by unfold bnd; have e2:=bE (x:=y) h2; simp only [e2,hd]; exact ⟨fun q=>q.2.2,fun hk=>⟨h.1,h.2.1,hk⟩⟩⟩
 | some x=>
  cases hi with
  | none=>
   simp only at h
   generalize hd:AX.ev fr x=d at h
   cases d <;> (try exact h.elim)
   exact ⟨_,_,fun fr' K' h1 _=>by unfold bnd; have e1:=bE (x:=x) h1; simp only [e1,hd]; exact ⟨fun q=>q.2.2,fun hk=>⟨h.1,h.2.1,hk⟩⟩⟩
  | some y=>
   simp only at h
   generalize hd:AX.ev fr x=d at h
   generalize hd2:AX.ev fr y=d2 at h
   cases d <;> cases d2 <;> (try exact h.elim)
   exact ⟨_,_,fun fr' K' h1 h2=>by unfold bnd; have e1:=bE (x:=x) h1; have e2:=bE (x:=y) h2; simp only [e1,e2,hd,hd2]; exact ⟨fun q=>q.2.2.2,fun hk=>⟨h.1,h.2.1,h.2.2.1,hk⟩⟩⟩

def ment:DV→Nat→Prop
 | .ptr l' _,l=>l' = l
 | .aptr _ l' _ _,l=>l' = l
 | .osl _ l' _ n _,l=>l' = l∧0<n
 | _,_=>False

theorem xG:∀ (l:List (Nat×Nat×DV))(cs:List DV){K:List DV→Prop},nU cs l K→∃ r,∀ K' : List DV→Prop,nU cs l K' ↔ K' r
 | [],cs,K,_=>⟨cs,fun K' => Iff.rfl⟩
 | (off,n,d)::l,cs,K,h=>by
  obtain ⟨h1,h2,h3,h4⟩:=h
  obtain ⟨r,hr⟩:=xG l _ h4
  exact ⟨r,fun K' => ⟨fun q=>(hr K').1 q.2.2.2,fun q=>⟨h1,h2,h3,(hr K').2 q⟩⟩⟩
theorem FI (f:Int→Int→Int):∀ (l:List DV)(d:DV){K:DV→Prop},mmF f K d l→∃ r,∀ K' : DV→Prop,mmF f K' d l↔K' r
 | [],d,K,_=>⟨d,fun K' => by simp [mmF]⟩
 | e::l,d,K,h=>by
  cases d with
  | int k x=>
   cases e with
   | int k' y=>
    obtain ⟨r,hr⟩:=FI f l _ (by simpa [mmF] using h)
    exact ⟨r,fun K' => by simpa [mmF] using hr K'⟩
   | _=>simp [mmF] at h
  | _=>simp [mmF] at h
theorem NO {f:Int→Int→Int}{l:List DV}{K:DV→Prop}(h:mm f l K):∃ r,∀ K' : DV→Prop,mm f l K' ↔ K' r:=by
 unfold mm at h
 split at h
 ·obtain ⟨r,hr⟩:=FI f _ _ h
  exact ⟨r,hr⟩
 ·exact h.elim
theorem LN {bs bs' : List UInt8}(h:bs.map (fun b=>[DV.int .u8 (b.toNat:Int)])=bs'.map (fun b=>[DV.int .u8 (b.toNat:Int)])):bs=bs' := by
 refine List.map_inj_right (fun x y hxy=>?_) |>.1 h
 simp at hxy
 exact UInt8.toNat_inj.1 (Int.ofNat_inj.1 hxy)
theorem DF {bs bs' : List Int}(h:bs.map (fun b=>[DV.int .i32 b])=bs'.map (fun b=>[DV.int .i32 b])):bs=bs' := by
 refine List.map_inj_right (fun x y hxy=>?_) |>.1 h
 simpa using hxy
theorem IU {cv:CV}(hcv:cv=.b2s∨cv=.r2s){d:DV}{K:DV→St→Prop}{st:St}(hk:gG cv d K st) :
  ∃ e,∀ (st' : St) (K' : DV→St→Prop),(∀ l o,ment d l→st.h[l]?=some o→st'.h[l]?=some o)→(gG cv d K' st' ↔ K' e st'):=by
 cases d with
 | sl sz es=>
  by_cases hsz:sz=1
  ·subst hsz
   rcases hcv with rfl|rfl
   ·obtain ⟨bs,rfl,hk⟩:=hk
    exact ⟨_,fun st' K' _=>⟨fun ⟨bs',e,q⟩=>by rw [LN e]; exact q,fun q=>⟨bs,rfl,q⟩⟩⟩
   ·obtain ⟨bs,rfl,hk⟩:=hk
    exact ⟨_,fun st' K' _=>⟨fun ⟨bs',e,q⟩=>by rw [DF e]; exact q,fun q=>⟨bs,rfl,q⟩⟩⟩
  ·rcases hcv with rfl|rfl <;> (unfold gG at hk; split at hk <;> first|exact hk.elim|(rename_i h1 h2; first|(cases h1; done)|(cases h2; first|done|exact absurd rfl hsz)))
 | osl sz l off n cap=>
  by_cases hsz:sz=1
  ·subst hsz
   rcases hcv with rfl|rfl
   ·rcases hk with ⟨rfl,hk⟩|⟨es,hl,ho,bs,hbs,hk⟩
    ·exact ⟨_,fun st' K' _=>⟨fun q=>by
      rcases q with ⟨_,q⟩|⟨es,_,_,bs,hbs,q⟩
      ·exact q
      ·have:bs=[]:=by simpa using hbs.symm
       subst this; exact q,fun q=>.inl ⟨rfl,q⟩⟩⟩
    ·by_cases hn:n=0
     ·subst hn
      exact ⟨.str [],fun st' K' _=>⟨fun q=>by
       rcases q with ⟨_,q⟩|⟨es,_,_,bs,hbs,q⟩
       ·exact q
       ·have:bs=[]:=by simpa using hbs.symm
        subst this; exact q,fun q=>.inl ⟨rfl,q⟩⟩⟩
     ·exact ⟨_,fun st' K' hh=>⟨fun q=>by
       rcases q with ⟨q0,_⟩|⟨es',hl',_,bs',hbs',q⟩
       ·exact absurd q0 hn
       ·rw [hh l _ ⟨rfl,by omega⟩ hl] at hl'
        injection hl' with e1; injection e1 with _ e1; subst e1
        rw [hbs] at hbs'
        rw [LN hbs']; exact q,fun q=>.inr ⟨es,hh l _ ⟨rfl,by omega⟩ hl,ho,bs,hbs,q⟩⟩⟩
   ·rcases hk with ⟨rfl,hk⟩|⟨es,hl,ho,bs,hbs,hk⟩
    ·exact ⟨_,fun st' K' _=>⟨fun q=>by
      rcases q with ⟨_,q⟩|⟨es,_,_,bs,hbs,q⟩
      ·exact q
      ·have:bs=[]:=by simpa using hbs.symm
       subst this; exact q,fun q=>.inl ⟨rfl,q⟩⟩⟩
    ·by_cases hn:n=0
     ·subst hn
      exact ⟨.str [],fun st' K' _=>⟨fun q=>by
       rcases q with ⟨_,q⟩|⟨es,_,_,bs,hbs,q⟩
       ·exact q
       ·have:bs=[]:=by simpa using hbs.symm
        subst this; exact q,fun q=>.inl ⟨rfl,q⟩⟩⟩
     ·exact ⟨_,fun st' K' hh=>⟨fun q=>by
       rcases q with ⟨q0,_⟩|⟨es',hl',_,bs',hbs',q⟩
       ·exact absurd q0 hn
       ·rw [hh l _ ⟨rfl,by omega⟩ hl] at hl'
        injection hl' with e1; injection e1 with _ e1; subst e1
        rw [hbs] at hbs'
        rw [DF hbs']; exact q,fun q=>.inr ⟨es,hh l _ ⟨rfl,by omega⟩ hl,ho,bs,hbs,q⟩⟩⟩
  ·rcases hcv with rfl|rfl <;> (unfold gG at hk; split at hk <;> first|exact hk.elim|(rename_i h1 h2; first|(cases h1; done)|(cases h2; first|done|exact absurd rfl hsz)))
 | nils sz=>
  rcases hcv with rfl|rfl
  ·exact ⟨.str [],fun st' K' _=>Iff.rfl⟩
  ·exact ⟨.str [],fun st' K' _=>Iff.rfl⟩
 | _=>rcases hcv with rfl | rfl <;> exact hk.elim

theorem YR {E:Env}{op:AOp}(hc:op.cls≤1){K:DV→St→Prop}{st:St}(hk:aop E op K st) :
    ∃ d,∀ (fr' : Nat→DV) (h' : List AObj) (K' : DV→St→Prop),(∀ s∈op.slots,fr' s=st.fr s)→(op.cls=1→∀ s∈op.slots,∀ (l:Nat) o,ment (st.fr s) l→st.h[l]?=some o→h'[l]?=some o) →
      (aop E op K' ⟨fr',h'⟩↔K' d ⟨fr',h'⟩):=by
  cases op with
  | mov x=>exact ⟨_,fun fr' h' K' hs _=>by simp only [aop]; rw [bE hs]⟩
  | pick c x y=>
    simp only [aop] at hk
    generalize hd:c.ev st.fr=d at hk
    cases d <;> (try exact hk.elim)
    rename_i t
    have hsl:∀ (fr' : Nat→DV),(∀ s∈(AOp.pick c x y).slots,fr' s=st.fr s)→c.ev fr' = c.ev st.fr∧x.ev fr' = x.ev st.fr∧y.ev fr' = y.ev st.fr:=fun fr' hs=>
      ⟨bE fun s h=>hs s (by simp [AOp.slots,h]),bE fun s h=>hs s (by simp [AOp.slots,h]),bE fun s h=>hs s (by simp [AOp.slots,h])⟩
    cases t with
    | true=>exact ⟨x.ev st.fr,fun fr' h' K' hs _=>by obtain ⟨e1,e2,e3⟩:=hsl fr' hs; simp only [aop,e1,e2,hd]⟩
    | false=>exact ⟨y.ev st.fr,fun fr' h' K' hs _=>by obtain ⟨e1,e2,e3⟩:=hsl fr' hs; simp only [aop,e1,e3,hd]⟩
  | nilchk x=>
    simp only [aop] at hk
    generalize hd:x.ev st.fr=d at hk
    cases d <;> first | exact hk.elim | exact ⟨_,fun fr' h' K' hs _=>by simp only [aop]; rw [bE hs,hd]⟩
  | bin op ty x y=>
    simp only [aop] at hk
    obtain ⟨d,h2⟩:=OV hk
    exact ⟨d,fun fr' h' K' hs _=>by
      simp only [aop]; rw [bE fun s h=>hs s (by simp [AOp.slots,h]),bE (x:=y) fun s h=>hs s (by simp [AOp.slots,h])]; exact h2 _⟩
  | un op x=>
    simp only [aop] at hk
    obtain ⟨d,h2⟩:=UT hk
    exact ⟨d,fun fr' h' K' hs _=>by simp only [aop]; rw [bE hs]; exact h2 _⟩
  | build z ps=>
    simp only [aop] at hk
    obtain ⟨r,hr⟩:=xG _ _ hk
    refine ⟨.agg r,fun fr' h' K' hs _=>?_⟩
    simp only [aop]
    have he:(ps.map fun (o,n,x)=>(o,n,x.ev fr'))=ps.map fun (o,n,x)=>(o,n,x.ev st.fr):=List.map_congr_left fun p hp=>by
      obtain ⟨o,n,x⟩:=p
      have:=bE (x:=x) fun s h=>hs s (List.mem_flatMap.2 ⟨_,hp,h⟩)
      simp only [this]
    rw [he]
    exact hr fun cs=>K' (.agg cs) ⟨fr',h'⟩
  | mn l=>
    simp only [aop] at hk
    obtain ⟨r,hr⟩:=NO hk
    exact ⟨r,fun fr' h' K' hs _=>by simp only [aop]; rw [mM hs]; exact hr _⟩
  | mx l=>
    simp only [aop] at hk
    obtain ⟨r,hr⟩:=NO hk
    exact ⟨r,fun fr' h' K' hs _=>by simp only [aop]; rw [mM hs]; exact hr _⟩
  | conv cv x=>
    simp only [aop] at hk
    by_cases hcv:cv=.b2s∨cv=.r2s
    · obtain ⟨e,he⟩:=IU hcv hk
      cases x with
      | c d=>rcases hcv with rfl | rfl <;> simp [AOp.cls] at hc
      | t n=>
        have hcl:(AOp.conv cv (.t n)).cls=1:=by rcases hcv with rfl | rfl <;> rfl
        refine ⟨e,fun fr' h' K' hs hh=>?_⟩
        simp only [aop]
        rw [bE (x:=.t n) hs]
        exact he ⟨fr',h'⟩ K' fun l o hm hl=>hh hcl n (by simp [AOp.slots,AX.slots]) l o hm hl
    · generalize hd:x.ev st.fr=d at hk
      cases cv <;> first | (simp [AOp.cls] at hc; done) | exact absurd (Or.inl rfl) hcv | exact absurd (Or.inr rfl) hcv | skip
      all_goals
        cases d <;> first | exact hk.elim | exact ⟨_,fun fr' h' K' hs _=>by simp only [aop]; rw [bE hs,hd]; exact Iff.rfl⟩
  | mkfn f l=>exact ⟨_,fun fr' h' K' hs _=>by simp only [aop]; rw [mM hs]⟩
  | mkbnd f x=>exact ⟨_,fun fr' h' K' hs _=>by simp only [aop]; rw [bE hs]⟩
  | mkifc f x=>exact ⟨_,fun fr' h' K' hs _=>by simp only [aop]; rw [bE hs]⟩
  | slice k x lo hi=>
    simp only [aop] at hk
    generalize hd:x.ev st.fr=d at hk
    have hx:∀ {fr' : Nat→DV},(∀ s∈(AOp.slice k x lo hi).slots,fr' s=st.fr s)→x.ev fr' = x.ev st.fr∧(∀ s∈mP lo,fr' s=st.fr s)∧(∀ s∈mP hi,fr' s=st.fr s):=fun hs=>
      ⟨bE fun s h=>hs s (by simp [AOp.slots,h]),fun s h=>hs s (by simp [AOp.slots,h]),fun s h=>hs s (by simp [AOp.slots,h])⟩
    cases d with
    | osl sz l off n cap=>
      cases cap with
      | none=>
        obtain ⟨i,j,q2⟩:=uM hk.2
        exact ⟨_,fun fr' h' K' hs _=>by obtain ⟨e1,e2,e3⟩:=hx hs; simp only [aop,e1,hd]; rw [q2 fr' _ e2 e3]; exact ⟨fun q=>q.2,fun q=>⟨hk.1,q⟩⟩⟩
      | some c=>
        obtain ⟨i,j,q2⟩:=uM hk.2
        exact ⟨_,fun fr' h' K' hs _=>by obtain ⟨e1,e2,e3⟩:=hx hs; simp only [aop,e1,hd]; rw [q2 fr' _ e2 e3]; exact ⟨fun q=>q.2,fun q=>⟨hk.1,q⟩⟩⟩
    | _=>
      first
        | exact hk.elim
        | (obtain ⟨i,j,q2⟩:=uM hk.2
           exact ⟨_,fun fr' h' K' hs _=>by obtain ⟨e1,e2,e3⟩:=hx hs; simp only [aop,e1,hd]; rw [q2 fr' _ e2 e3]; exact ⟨fun q=>q.2,fun q=>⟨hk.1,q⟩⟩⟩)
  | faddr n x=>
    simp only [aop] at hk
    generalize hd:x.ev st.fr=d at hk
    cases d <;> first | exact hk.elim | exact ⟨_,fun fr' h' K' hs _=>by simp only [aop]; rw [bE hs,hd]⟩
  | iaddr sz x i=>
    simp only [aop] at hk
    generalize hd:x.ev st.fr=d at hk
    generalize hd2:i.ev st.fr=d2 at hk
    have hx:∀ {fr' : Nat→DV},(∀ s∈(AOp.iaddr sz x i).slots,fr' s=st.fr s)→x.ev fr' = x.ev st.fr∧i.ev fr' = i.ev st.fr:=fun hs=>
      ⟨bE fun s h=>hs s (by simp [AOp.slots,h]),bE fun s h=>hs s (by simp [AOp.slots,h])⟩
    cases d <;> (try exact hk.elim) <;> cases d2 <;> (try exact hk.elim)
    · obtain ⟨a1,a2,e,a3,a4⟩:=hk
      exact ⟨_,fun fr' h' K' hs _=>by
        obtain ⟨e1,e2⟩:=hx hs; simp only [aop,e1,e2,hd,hd2]
        exact ⟨fun ⟨_,_,e',b3,b4⟩=>by rw [a3] at b3; injection b3 with b3; subst b3; exact b4,fun hk' => ⟨a1,a2,e,a3,hk'⟩⟩⟩
    · obtain ⟨a1,a2,a3,a4⟩:=hk
      exact ⟨_,fun fr' h' K' hs _=>by obtain ⟨e1,e2⟩:=hx hs; simp only [aop,e1,e2,hd,hd2]; exact ⟨fun q=>q.2.2.2,fun hk' => ⟨a1,a2,a3,hk'⟩⟩⟩
  | baddr n sz x i=>
    simp only [aop] at hk
    generalize hd:x.ev st.fr=d at hk
    generalize hd2:i.ev st.fr=d2 at hk
    have hx:∀ {fr' : Nat→DV},(∀ s∈(AOp.baddr n sz x i).slots,fr' s=st.fr s)→x.ev fr' = x.ev st.fr∧i.ev fr' = i.ev st.fr:=fun hs=>
      ⟨bE fun s h=>hs s (by simp [AOp.slots,h]),bE fun s h=>hs s (by simp [AOp.slots,h])⟩
    cases d <;> (try exact hk.elim) <;> cases d2 <;> (try exact hk.elim)
    obtain ⟨a2,a3,a4⟩:=hk
    exact ⟨_,fun fr' h' K' hs _=>by obtain ⟨e1,e2⟩:=hx hs; simp only [aop,e1,e2,hd,hd2]; exact ⟨fun q=>q.2.2,fun hk' => ⟨a2,a3,hk'⟩⟩⟩
  | sidx x i=>
    simp only [aop] at hk
    generalize hd:x.ev st.fr=d at hk
    generalize hd2:i.ev st.fr=d2 at hk
    have hx:∀ {fr' : Nat→DV},(∀ s∈(AOp.sidx x i).slots,fr' s=st.fr s)→x.ev fr' = x.ev st.fr∧i.ev fr' = i.ev st.fr:=fun hs=>
      ⟨bE fun s h=>hs s (by simp [AOp.slots,h]),bE fun s h=>hs s (by simp [AOp.slots,h])⟩
    cases d <;> (try exact hk.elim) <;> cases d2 <;> (try exact hk.elim)
    obtain ⟨a2,a3,a4⟩:=hk
    exact ⟨_,fun fr' h' K' hs _=>by obtain ⟨e1,e2⟩:=hx hs; simp only [aop,e1,e2,hd,hd2]; exact ⟨fun q=>q.2.2,fun hk' => ⟨a2,a3,hk'⟩⟩⟩
  | extr x n=>
    simp only [aop] at hk
    generalize hd:x.ev st.fr=d at hk
    cases d <;> (try exact hk.elim)
    obtain ⟨e,a3,a4⟩:=hk
    exact ⟨_,fun fr' h' K' hs _=>by
      simp only [aop]; rw [bE hs,hd]
      exact ⟨fun ⟨e',b3,b4⟩=>by rw [a3] at b3; injection b3 with b3; subst b3; exact b4,fun hk' => ⟨e,a3,hk'⟩⟩⟩
  | len k x=>
    simp only [aop] at hk
    generalize hd:x.ev st.fr=d at hk
    cases d <;> first | exact hk.elim | exact ⟨_,fun fr' h' K' hs _=>by simp only [aop]; rw [bE hs,hd]; exact ⟨fun q=>q.2,fun q=>⟨hk.1,q⟩⟩⟩
  | load ag x=>
    cases x with
    | c d=>simp [AOp.cls] at hc
    | t n=>
    cases ag with
    | none=>
      simp only [aop,AX.ev] at hk
      generalize hd:st.fr n=d at hk
      have hn:∀ {fr' : Nat→DV},(∀ s∈(AOp.load none (.t n)).slots,fr' s=st.fr s)→fr' n=d:=fun hs=>(hs n (by simp [AOp.slots,AX.slots])).trans hd
      cases d <;> (try exact hk.elim)
      · obtain ⟨cs,a1,e,a2,a3⟩:=hk
        exact ⟨_,fun fr' h' K' hs hh=>by
          have h1:=hh rfl n (by simp [AOp.slots,AX.slots]) _ _ (by rw [hd]; rfl) a1
          simp only [aop,AX.ev,hn hs]
          exact ⟨fun ⟨cs',b1,e',b2,b3⟩=>by rw [h1] at b1; cases b1; rw [a2] at b2; cases b2; exact b3,fun hk' => ⟨cs,h1,e,a2,hk'⟩⟩⟩
      · obtain ⟨es,a1,e,a2,g,a3,a4⟩:=hk
        exact ⟨_,fun fr' h' K' hs hh=>by
          have h1:=hh rfl n (by simp [AOp.slots,AX.slots]) _ _ (by rw [hd]; rfl) a1
          simp only [aop,AX.ev,hn hs]
          exact ⟨fun ⟨es',b1,e',b2,g',b3,b4⟩=>by rw [h1] at b1; cases b1; rw [a2] at b2; cases b2; rw [a3] at b3; cases b3; exact b4,fun hk' => ⟨es,h1,e,a2,g,a3,hk'⟩⟩⟩
      · obtain ⟨e,a2,a3⟩:=hk
        exact ⟨_,fun fr' h' K' hs hh=>by
          simp only [aop,AX.ev,hn hs]
          exact ⟨fun ⟨e',b2,b3⟩=>by rw [a2] at b2; cases b2; exact b3,fun hk' => ⟨e,a2,hk'⟩⟩⟩
    | some m=>
      simp only [aop,AX.ev] at hk
      generalize hd:st.fr n=d at hk
      have hn:∀ {fr' : Nat→DV},(∀ s∈(AOp.load (some m) (.t n)).slots,fr' s=st.fr s)→fr' n=d:=fun hs=>(hs n (by simp [AOp.slots,AX.slots])).trans hd
      cases d <;> (try exact hk.elim)
      · obtain ⟨cs,a1,a2,a3⟩:=hk
        exact ⟨_,fun fr' h' K' hs hh=>by
          have h1:=hh rfl n (by simp [AOp.slots,AX.slots]) _ _ (by rw [hd]; rfl) a1
          simp only [aop,AX.ev,hn hs]
          exact ⟨fun ⟨cs',b1,b2,b3⟩=>by rw [h1] at b1; cases b1; exact b3,fun hk' => ⟨cs,h1,a2,hk'⟩⟩⟩
      · obtain ⟨es,a1,e,a2,a3,a4⟩:=hk
        exact ⟨_,fun fr' h' K' hs hh=>by
          have h1:=hh rfl n (by simp [AOp.slots,AX.slots]) _ _ (by rw [hd]; rfl) a1
          simp only [aop,AX.ev,hn hs]
          exact ⟨fun ⟨es',b1,e',b2,b3,b4⟩=>by rw [h1] at b1; cases b1; rw [a2] at b2; cases b2; exact b4,fun hk' => ⟨es,h1,e,a2,a3,hk'⟩⟩⟩
      · obtain ⟨a2,a3⟩:=hk
        exact ⟨_,fun fr' h' K' hs hh=>by
          simp only [aop,AX.ev,hn hs]
          exact ⟨fun q=>q.2,fun hk' => ⟨a2,hk'⟩⟩⟩
  | call b f args=>cases b <;> simp [AOp.cls] at hc
  | callv b x args=>cases b <;> simp [AOp.cls] at hc
  | bslice b sz ps=>cases b <;> simp [AOp.cls] at hc
  | store b n x v=>cases b <;> simp [AOp.cls] at hc
  | append a b x y=>cases hx:jE x <;> simp [AOp.cls,hx] at hc
  | _=>simp [AOp.cls] at hc

theorem kR (st:St)(h' : List AObj):st.handed false [] h' = ⟨st.fr,st.h++h'.map (aR (upL st.h.length []))⟩:=by
 unfold St.handed
 simp only [List.filter_nil,List.isEmpty_nil,Bool.or_true,if_true,bB,List.length_nil,List.drop_zero]
theorem gV:∀ (l:List DV)(h:List AObj),(aK l h).2=h++((aK l h).2.drop h.length)
 | [],h=>by simp [aK]
 | d::l,h=>by
  have e:∃ tl,(eJ d h).2=h++tl:=by
   unfold eJ
   split
   ·exact ⟨_,rfl⟩
   ·exact ⟨[],by simp⟩
  obtain ⟨tl,e⟩:=e
  have ih:=gV l (h++tl)
  simp only [aK,e]
  rw [ih]
  simp [List.append_assoc]
theorem aFG {E:Env}{op:AOp}(hc:op.cls=2∨op.cls=3){K:DV→St→Prop}{st:St}(hk:aop E op K st) :
  (∃ d tl,K d ⟨st.fr,st.h++tl⟩)∧∀ (fr' : Nat→DV) (K' : DV→St→Prop),(∀ s∈op.slots,fr' s=st.fr s)→(∀ d tl,K d ⟨st.fr,st.h++tl⟩→K' d ⟨fr',st.h++tl⟩)→aop E op K' ⟨fr',st.h⟩:=by
 have hcall0:∀ {f:Nat} {ds:List DV},uK E false f ds K st→(∃ d tl,K d ⟨st.fr,st.h++tl⟩)∧∀ (fr' : Nat→DV) (K' : DV→St→Prop),(∀ d tl,K d ⟨st.fr,st.h++tl⟩→K' d ⟨fr',st.h++tl⟩)→uK E false f ds K' ⟨fr',st.h⟩:=fun hk=>by
  rcases hk with ⟨post,h1,⟨d0,hd0⟩,h2⟩|⟨post,h1,h2,⟨h0,d0,hd0⟩,h3⟩|⟨kp,ls,post,hf,hnd,hlt,h1,h2⟩
  ·refine ⟨⟨d0,[],by simpa using (h2 d0 hd0).2⟩,fun fr' K' hK=>.inl ⟨post,h1,⟨d0,hd0⟩,fun d hd=>⟨(h2 d hd).1,?_⟩⟩⟩
   have:=hK d [] (by simpa using (h2 d hd).2)
   simpa using this
  ·exact ⟨⟨_,_,h3 h0 d0 hd0⟩,fun fr' K' hK=>.inr (.inl ⟨post,h1,h2,⟨h0,d0,hd0⟩,fun h' d hd=>hK _ _ (h3 h' d hd)⟩)⟩
  ·rcases hf with hf|⟨rfl,rfl,h0,d0,hd0⟩
   ·cases hf
   ·exact ⟨⟨_,_,by have:=(h2 h0 d0 hd0).2; rw [kR] at this; exact this⟩,fun fr' K' hK=>.inr (.inr ⟨false,[],post,.inr ⟨rfl,rfl,h0,d0,hd0⟩,hnd,hlt,h1,fun h' d hd=>⟨(h2 h' d hd).1,by
     rw [kR]
     exact hK _ _ (by have:=(h2 h' d hd).2; rwa [kR] at this)⟩⟩)⟩
 have hcall:∀ {f:Nat} {ds:List DV},acall E false f ds K st→(∃ d tl,K d ⟨st.fr,st.h++tl⟩)∧∀ (fr' : Nat→DV) (K' : DV→St→Prop),(∀ d tl,K d ⟨st.fr,st.h++tl⟩→K' d ⟨fr',st.h++tl⟩)→acall E false f ds K' ⟨fr',st.h⟩:=fun hk=>by
  cases hk with
  | go h=>exact ⟨(hcall0 h).1,fun fr' K' hK=>.go ((hcall0 h).2 fr' K' hK)⟩
  | frz F hf=>cases hf
 cases op with
 | call b f args=>
  cases b with
  | true=>simp [AOp.cls] at hc
  | false=>
  obtain ⟨h1,h2⟩:=hcall hk
  exact ⟨h1,fun fr' K' hs hK=>by simp only [aop]; rw [mM hs]; exact h2 fr' K' hK⟩
 | callv b x args=>
  cases b with
  | true=>simp [AOp.cls] at hc
  | false=>
  simp only [aop] at hk
  generalize hd:x.ev st.fr=d at hk
  cases d <;> (try exact hk.elim)
  ·obtain ⟨h1,h2⟩:=hcall hk
   exact ⟨h1,fun fr' K' hs hK=>by
    simp only [aop]; rw [bE fun s h=>hs s (by simp [AOp.slots,h]),hd,mM fun s h=>hs s (by simp only [AOp.slots,List.mem_append]; exact .inr h)]; exact h2 fr' K' hK⟩
  ·obtain ⟨h1,h2⟩:=hcall hk
   exact ⟨h1,fun fr' K' hs hK=>by
    simp only [aop]; rw [bE fun s h=>hs s (by simp [AOp.slots,h]),hd,mM fun s h=>hs s (by simp only [AOp.slots,List.mem_append]; exact .inr h)]; exact h2 fr' K' hK⟩
 | bslice b sz ps=>
  cases b with
  | true=>simp [AOp.cls] at hc
  | false=>
  obtain ⟨h1,h2⟩:=hk
  refine ⟨⟨_,[_],h2⟩,fun fr' K' hs hK=>?_⟩
  have he:∀ p∈ps,p.ev fr' = p.ev st.fr:=fun p hp=>bE fun s h=>hs s (List.mem_flatMap.2 ⟨p,hp,h⟩)
  refine ⟨fun p hp=>by rw [he p hp]; exact h1 p hp,?_⟩
  have:=hK _ [_] h2
  have hm:(ps.map fun p=>(p.ev fr').cells)=ps.map fun p=>(p.ev st.fr).cells:=List.map_congr_left fun p hp=>by rw [he p hp]
  simp only [St.new,hm]
  exact this
 | alloc z=>
  refine ⟨⟨_,_,by
   have hk' := hk
   simp only [aop] at hk'
   rw [gV,List.append_assoc] at hk'
   exact hk'⟩,fun fr' K' _ hK=>?_⟩
  simp only [aop] at hk ⊢
  rw [gV,List.append_assoc] at hk ⊢
  exact hK _ _ hk
 | append a b x y=>
  cases hx:jE x with
  | false=>simp [AOp.cls,hx] at hc
  | true=>
   obtain ⟨n,rfl⟩:=xC hx
   have hk0:elems st.h (y.ev st.fr) a (fun ys=>ys.length*b≤1099511627776∧ys.length≤1099511627776∧K (.osl a st.h.length 0 ys.length none) (st.new (.arr a ys))):=hk
   have key:∀ {Q:List (List DV)→Prop},elems st.h (y.ev st.fr) a Q→∃ ys,Q ys∧∀ {Q' : List (List DV)→Prop},Q' ys→elems st.h (y.ev st.fr) a Q' := fun {Q} hq=>by
    unfold elems at hq ⊢
    split at hq
    ·exact ⟨_,hq.2,fun h=>⟨hq.1,h⟩⟩
    ·exact ⟨_,hq,fun h=>h⟩
    ·exact ⟨_,hq,fun h=>h⟩
    ·obtain ⟨q1,es,q2,q3,q4⟩:=hq
     exact ⟨_,q4,fun h=>⟨q1,es,q2,q3,h⟩⟩
    ·exact ⟨_,hq.2,fun h=>⟨hq.1,h⟩⟩
    ·exact hq.elim
   obtain ⟨ys,⟨h1,h2,h3⟩,h4⟩:=key hk0
   refine ⟨⟨_,[_],h3⟩,fun fr' K' hs hK=>?_⟩
   have he:y.ev fr' = y.ev st.fr:=bE fun s h=>hs s (by simp [AOp.slots,h])
   have h5:elems st.h (y.ev st.fr) a (fun ys=>ys.length*b≤1099511627776∧ys.length≤1099511627776∧K' (.osl a st.h.length 0 ys.length none) ((⟨fr',st.h⟩:St).new (.arr a ys))):=h4 ⟨h1,h2,hK _ [_] h3⟩
   rw [← he] at h5
   exact h5
 | store b n x v=>cases b <;> simp [AOp.cls] at hc
 | conv k x=>cases k <;> cases x <;> simp [AOp.cls] at hc
 | load a x=>cases x <;> simp [AOp.cls] at hc
 | _=>simp [AOp.cls] at hc

theorem aGn {E:Env}{op:AOp}(hc:op.cls=5){K:DV→St→Prop}{st:St}(hk:aop E op K st) :
  ∃ d h2,K d ⟨st.fr,h2⟩∧∀ (fr' : Nat→DV) (K' : DV→St→Prop),(∀ s∈op.slots,fr' s=st.fr s)→K' d ⟨fr',h2⟩→aop E op K' ⟨fr',st.h⟩:=by
 cases op with
 | store b n x v=>
  cases b with
  | true=>simp [AOp.cls] at hc
  | false=>
   have hsl:∀ {fr' : Nat→DV},(∀ s∈(AOp.store false n x v).slots,fr' s=st.fr s)→x.ev fr' = x.ev st.fr∧v.ev fr' = v.ev st.fr:=fun hs=>
    ⟨bE fun s h=>hs s (by simp [AOp.slots,h]),bE fun s h=>hs s (by simp [AOp.slots,h])⟩
   simp only [aop] at hk
   generalize hd:x.ev st.fr=d at hk
   cases d <;> (try exact hk.elim)
   ·obtain ⟨cs,a1,a2,a3,a4,a5⟩:=hk
    refine ⟨_,_,a5,fun fr' K' hs hK=>?_⟩
    obtain ⟨e1,e2⟩:=hsl hs
    simp only [aop,e1,hd,e2]
    exact ⟨cs,a1,a2,a3,a4,hK⟩
   ·obtain ⟨a0,hk⟩:=hk
    have hcl:(v.ev st.fr).closed=true:=by
     rcases a0 with h|h
     ·cases h
     ·exact h
    have hall:[v.ev st.fr].all DV.closed=true:=by simp [hcl]
    unfold fP at hk
    rw [if_pos hall] at hk
    obtain ⟨d',e0,es,a1,e,a2,a3,a4,a5,a6,a7⟩:=hk
    injection e0 with e0 _
    subst e0
    refine ⟨_,_,a7,fun fr' K' hs hK=>?_⟩
    obtain ⟨e1,e2⟩:=hsl hs
    simp only [aop,e1,hd,e2]
    refine ⟨a0,?_⟩
    unfold fP
    rw [if_pos hall]
    exact ⟨_,rfl,es,a1,e,a2,a3,a4,a5,a6,hK⟩
 | call b f args=>cases b <;> simp [AOp.cls] at hc
 | callv b x args=>cases b <;> simp [AOp.cls] at hc
 | bslice b sz ps=>cases b <;> simp [AOp.cls] at hc
 | append a b x y=>cases hx:jE x <;> simp [AOp.cls,hx] at hc
 | conv k x=>cases k <;> cases x <;> simp [AOp.cls] at hc
 | load a x=>cases x <;> simp [AOp.cls] at hc
 | _=>simp [AOp.cls] at hc
end Go.Ai
