/- Regions whose order Go leaves open, second part: one operation is PO ahead of others. -/
import Derived.Test.YtgamnnfndidclaaGreatDoorGAiDraw
set_option linter.all false
namespace Go.Ai

def AOper.reads (o:AOper):List Nat:=o.op.slots++(match o.guard with | some (g,_)=>[g] | none=>[])

theorem qQ (st:St)(dst:Option Nat)(d:DV)(s:Nat)(h:∀ t,dst=some t→s≠t):(st.put dst d).fr s=st.fr s:=by
 cases dst with
 | none=>rfl
 | some t=>simp only [St.put,upd]; rw [if_neg (h t rfl)]
theorem nM (st:St)(dst:Option Nat)(d:DV):(st.put dst d).h=st.h:=by cases dst <;> rfl
theorem lV (st:St)(x y:Option Nat)(d e:DV)(h:∀ t,x=some t→y≠some t):(st.put x d).put y e=(st.put y e).put x d:=by
 cases x with
 | none=>rfl
 | some t=>
  cases y with
  | none=>rfl
  | some u=>
   have hne:t≠u:=fun e=>h t rfl (by rw [e])
   simp only [St.put]
   congr 1
   funext s
   simp only [upd]
   by_cases h1:s=u <;> by_cases h2:s=t
   ·omega
   ·have:u≠t:=fun e=>hne e.symm
    simp [h1,this]
   ·simp [h2,hne]
   ·simp [h1,h2]
theorem OE {s0:St}{dst:Option Nat}{d d' : DV}(h:s0.put dst d=s0.put dst d')(s:St):s.put dst d=s.put dst d' := by
 cases dst with
 | none=>rfl
 | some t=>
  have:d=d' := by
   have:=congrArg (fun s=>s.fr t) h
   simpa [St.put,upd] using this
  rw [this]

theorem RL {E:Env}{o:AOper}(hc:o.op.cls≤1){K:St→Prop}{st:St}(hk:o.run E K st) :
  ∃ d,∀ (st' : St) (K' : St→Prop),(∀ s∈o.reads,st'.fr s=st.fr s)→(o.op.cls=1→∀ s∈o.reads,∀ (l:Nat) ob,ment (st.fr s) l→st.h[l]?=some ob→st'.h[l]?=some ob) →
   (o.run E K' st' ↔ K' (st'.put o.dst d)):=by
 rw [AOper.run_iff] at hk
 unfold AOper.run0 at hk
 split at hk
 ·rename_i hg
  obtain ⟨d,h⟩:=YR hc hk
  refine ⟨d,fun st' K' hs hh=>?_⟩
  rw [AOper.run_iff]
  unfold AOper.run0
  rw [hg]
  exact h st'.fr st'.h (fun d st' => K' (st'.put o.dst d)) (fun s hs' => hs s (by simp [AOper.reads,hs'])) (fun h1 s hs' => hh h1 s (by simp [AOper.reads,hs']))
 ·rename_i g want hg
  have hgs:g∈o.reads:=by simp [AOper.reads,hg]
  split at hk
  ·rename_i b hb
   by_cases hbw:b=want
   ·obtain ⟨d,h⟩:=YR hc (hk.1 hbw)
    refine ⟨d,fun st' K' hs hh=>?_⟩
    rw [AOper.run_iff]
    unfold AOper.run0
    rw [hg]
    simp only [hs g hgs,hb]
    have:=h st'.fr st'.h (fun d st' => K' (st'.put o.dst d)) (fun s hs' => hs s (by simp [AOper.reads,hs'])) (fun h1 s hs' => hh h1 s (by simp [AOper.reads,hs']))
    rw [← this]
    exact ⟨fun q=>q.1 hbw,fun q=>⟨fun _=>q,fun q2=>by subst hbw; cases b <;> cases q2⟩⟩
   ·have hbn:b = !want:=by cases b <;> cases want <;> simp_all
    refine ⟨.tup [],fun st' K' hs hh=>?_⟩
    rw [AOper.run_iff]
    unfold AOper.run0
    rw [hg]
    simp only [hs g hgs,hb]
    exact ⟨fun q=>q.2 hbn,fun q=>⟨fun q2=>absurd q2 hbw,fun _=>q⟩⟩
  ·rename_i hb
   refine ⟨.tup [],fun st' K' hs hh=>?_⟩
   rw [AOper.run_iff]
   unfold AOper.run0
   rw [hg]
   simp only [hs g hgs,hb]
  ·exact hk.elim

theorem MI {E:Env}{op:AOp}(hc:op.cls=2∨op.cls=3∨op.cls=5){K:DV→St→Prop}{st:St}(hk:aop E op K st) :
  (∃ d h2,(op.cls≠5→∃ tl,h2=st.h++tl)∧K d ⟨st.fr,h2⟩)∧∀ (fr' : Nat→DV) (K' : DV→St→Prop),(∀ s∈op.slots,fr' s=st.fr s) →
   (∀ d h2,(op.cls≠5→∃ tl,h2=st.h++tl)→K d ⟨st.fr,h2⟩→K' d ⟨fr',h2⟩)→aop E op K' ⟨fr',st.h⟩:=by
 rcases Nat.decEq op.cls 5 with h5|h5
 ·obtain ⟨⟨d,tl,h1⟩,h2⟩:=aFG (by omega) hk
  exact ⟨⟨d,_,fun _=>⟨tl,rfl⟩,h1⟩,fun fr' K' hs hK=>h2 fr' K' hs fun d tl h=>hK d _ (fun _=>⟨tl,rfl⟩) h⟩
 ·obtain ⟨d,h2,q1,q2⟩:=aGn h5 hk
  exact ⟨⟨d,h2,fun h=>absurd h5 h,q1⟩,fun fr' K' hs hK=>q2 fr' K' hs (hK d h2 (fun h=>absurd h5 h) q1)⟩

theorem aDw {E:Env}{o:AOper}(hc:o.op.cls=2∨o.op.cls=3∨o.op.cls=5){K:St→Prop}{st:St}(hk:o.run E K st) :
  (∃ d h2,(o.op.cls≠5→∃ tl,h2=st.h++tl)∧K ((⟨st.fr,h2⟩:St).put o.dst d))∧∀ (fr' : Nat→DV) (K' : St→Prop),(∀ s∈o.reads,fr' s=st.fr s) →
   (∀ d h2,(o.op.cls≠5→∃ tl,h2=st.h++tl)→K ((⟨st.fr,h2⟩:St).put o.dst d)→K' ((⟨fr',h2⟩:St).put o.dst d))→o.run E K' ⟨fr',st.h⟩:=by
 rw [AOper.run_iff] at hk
 unfold AOper.run0 at hk
 split at hk
 ·rename_i hg
  obtain ⟨h1,h2⟩:=MI hc hk
  refine ⟨h1,fun fr' K' hs hK=>?_⟩
  rw [AOper.run_iff]
  unfold AOper.run0
  rw [hg]
  exact h2 fr' _ (fun s hs' => hs s (by simp [AOper.reads,hs'])) hK
 ·rename_i g want hg
  have hgs:g∈o.reads:=by simp [AOper.reads,hg]
  split at hk
  ·rename_i b hb
   by_cases hbw:b=want
   ·obtain ⟨h1,h2⟩:=MI hc (hk.1 hbw)
    refine ⟨h1,fun fr' K' hs hK=>?_⟩
    rw [AOper.run_iff]
    unfold AOper.run0
    rw [hg]
    simp only [hs g hgs,hb]
    exact ⟨fun _=>h2 fr' _ (fun s hs' => hs s (by simp [AOper.reads,hs'])) hK,fun q2=>by subst hbw; cases b <;> cases q2⟩
   ·have hbn:b = !want:=by cases b <;> cases want <;> simp_all
    refine ⟨⟨.tup [],st.h,fun _=>⟨[],by simp⟩,by simpa using hk.2 hbn⟩,fun fr' K' hs hK=>?_⟩
    rw [AOper.run_iff]
    unfold AOper.run0
    rw [hg]
    simp only [hs g hgs,hb]
    refine ⟨fun q2=>absurd q2 hbw,fun _=>?_⟩
    exact hK (.tup []) st.h (fun _=>⟨[],by simp⟩) (hk.2 hbn)
  ·rename_i hb
   refine ⟨⟨.tup [],st.h,fun _=>⟨[],by simp⟩,by simpa using hk⟩,fun fr' K' hs hK=>?_⟩
   rw [AOper.run_iff]
   unfold AOper.run0
   rw [hg]
   simp only [hs g hgs,hb]
   exact hK (.tup []) st.h (fun _=>⟨[],by simp⟩) hk
  ·exact hk.elim

def jW (x y:AOper):Bool:=
 (match x.dst with | some d => !y.reads.contains d&&y.dst != some d | none=>true) &&
 (match y.dst with | some d => !x.reads.contains d | none=>true) &&
 ((decide (x.op.cls≤3)&&decide (y.op.cls≤1))||(decide (x.op.cls≤1)&&decide (y.op.cls≤3))||(decide (x.op.cls=0)&&decide (y.op.cls=5))||(decide (x.op.cls=5)&&decide (y.op.cls=0)))

theorem eI {x y:AOper}(h:jW x y=true):(∀ t,x.dst=some t→t∉y.reads∧y.dst≠some t)∧(∀ t,y.dst=some t→t∉x.reads)∧(x.op.cls≤3∧y.op.cls≤1∨x.op.cls≤1∧y.op.cls≤3∨x.op.cls=0∧y.op.cls=5∨x.op.cls=5∧y.op.cls=0):=by
 simp only [jW,Bool.and_eq_true,Bool.or_eq_true,decide_eq_true_eq] at h
 obtain ⟨⟨h1,h2⟩,h3⟩:=h
 refine ⟨fun t ht=>?_,fun t ht=>?_,by omega⟩
 ·rw [ht] at h1; simpa using h1
 ·rw [ht] at h2; simpa using h2

theorem mE {o:AOper}{st:St}{dst:Option Nat}{d:DV}(h:∀ t,dst=some t→t∉o.reads):∀ s∈o.reads,(st.put dst d).fr s=st.fr s:=fun s hs=>
 qQ st dst d s fun t ht e=>h t ht (e▸hs)

theorem uN {E:Env}{i:AOper}(hi:i.op.cls≤1){K:St→Prop}{l2:List AOper}:∀ (l1:List AOper),(∀ x∈l1,jW x i=true)→∀ st:St,(i.op.cls=1→∀ s∈i.reads,∀ l,ment (st.fr s) l→l<st.h.length)→eB E (l1++i::l2) K st →
    ∃ d,(∀ (st' : St) (K' : St→Prop),(∀ s∈i.reads,st'.fr s=st.fr s)→(i.op.cls=1→∀ l,l<st.h.length→st'.h[l]?=st.h[l]?)→(i.run E K' st' ↔ K' (st'.put i.dst d)))∧eB E (l1++l2) K (st.put i.dst d)
  | [],_,st,hv,hk=>by
    obtain ⟨d,h⟩:=RL hi hk
    refine ⟨d,fun st' K' hs hh=>h st' K' hs (fun h1 s hs' l ob hm hl=>?_),(h st _ (fun _ _=>rfl) (fun _ _ _ _ _ _ h=>h)).1 hk⟩
    rw [hh h1 l (hv h1 s hs' l hm)]; exact hl
  | x::l1,hin,st,hv,hk=>by
    obtain ⟨a1,a2,a3⟩:=eI (hin x (by simp))
    have hin' : ∀ y∈l1,jW y i=true:=fun y hy=>hin y (by simp [hy])
    have hri:∀ s∈i.reads,∀ (st0:St) (e:DV),(st0.put x.dst e).fr s=st0.fr s:=fun s hs st0 e=>qQ st0 x.dst e s fun t ht he=>(a1 t ht).1 (he▸hs)
    rcases Nat.lt_or_ge 1 x.op.cls with hx|hx
    · -- a call, or a new place, or a store
      have hx23:x.op.cls=2∨x.op.cls=3∨x.op.cls=5:=by omega
      have h15:i.op.cls=1→x.op.cls≠5:=by omega
      obtain ⟨⟨e0,g0,hg0,hw⟩,hx2⟩:=aDw hx23 hk
      have step:∀ e g,(x.op.cls≠5→∃ tl,g=st.h++tl)→eB E (l1++i::l2) K ((⟨st.fr,g⟩:St).put x.dst e) →
          ∃ d,(∀ (st' : St) (K' : St→Prop),(∀ s∈i.reads,st'.fr s=st.fr s)→(i.op.cls=1→∀ l,l<st.h.length→st'.h[l]?=st.h[l]?)→(i.run E K' st' ↔ K' (st'.put i.dst d)))∧eB E (l1++l2) K (((⟨st.fr,g⟩:St).put x.dst e).put i.dst d):=fun e g hg hk' => by
        obtain ⟨d,h1,h2⟩:=uN hi l1 hin' ((⟨st.fr,g⟩:St).put x.dst e) (fun hc s hs l hm=>by
          rw [hri s hs] at hm
          have:=hv hc s hs l hm
          obtain ⟨tl,rfl⟩:=hg (h15 hc)
          rw [nM]; simp; omega) hk'
        -- what is known at the later state is known here, too
        refine ⟨d,fun st' K' hs hh=>?_,h2⟩
        have hrun:=(h1 ((⟨st.fr,g⟩:St).put x.dst e) (fun _=>True) (fun _ _=>rfl) (fun _ _ _=>rfl)).2 trivial
        obtain ⟨d',h3⟩:=RL hi hrun
        have hdd:∀ s:St,s.put i.dst d' = s.put i.dst d:=by
          have q1:=(h1 ((⟨st.fr,g⟩:St).put x.dst e) (fun s=>s=((⟨st.fr,g⟩:St).put x.dst e).put i.dst d) (fun _ _=>rfl) (fun _ _ _=>rfl)).2 rfl
          have q2:=(h3 ((⟨st.fr,g⟩:St).put x.dst e) (fun s=>s=((⟨st.fr,g⟩:St).put x.dst e).put i.dst d) (fun _ _=>rfl) (fun _ _ _ _ _ _ h=>h)).1 q1
          exact OE q2
        rw [← hdd st']
        exact h3 st' K' (fun s hs' => (hs s hs').trans (hri s hs' ⟨st.fr,g⟩ e).symm) (fun hc s hs' l ob hm hl=>by
          rw [hri s hs'] at hm
          have hlt:=hv hc s hs' l hm
          rw [hh hc l hlt]
          obtain ⟨tl,rfl⟩:=hg (h15 hc)
          rw [nM,List.getElem?_append_left hlt] at hl
          exact hl)
      obtain ⟨d,h1,h2⟩:=step e0 g0 hg0 hw
      refine ⟨d,h1,?_⟩
      have:=hx2 (st.put i.dst d).fr (eB E (l1++l2) K) (mE a2) (fun e g hg hk' => by
        obtain ⟨d',h1',h2'⟩:=step e g hg hk'
        have hdd:((⟨st.fr,g⟩:St).put x.dst e).put i.dst d' = ((⟨st.fr,g⟩:St).put x.dst e).put i.dst d:=by
          have q1:=(h1' st (fun s=>s=st.put i.dst d') (fun _ _=>rfl) (fun _ _ _=>rfl)).2 rfl
          have q2:=(h1 st (fun s=>s=st.put i.dst d') (fun _ _=>rfl) (fun _ _ _=>rfl)).1 q1
          exact (OE q2 _).symm
        rw [hdd,lV _ _ _ _ _ (fun t ht=>(a1 t ht).2)] at h2'
        have e1:(⟨(st.put i.dst d).fr,g⟩:St)=(⟨st.fr,g⟩:St).put i.dst d:=by cases i.dst <;> rfl
        rw [e1]
        exact h2')
      have e2:(⟨(st.put i.dst d).fr,st.h⟩:St)=st.put i.dst d:=by cases i.dst <;> rfl
      rw [e2] at this
      exact this
    · -- an operation that only computes, or loads
      obtain ⟨e,hx1⟩:=RL hx hk
      have hk1:eB E (l1++i::l2) K (st.put x.dst e):=(hx1 st _ (fun _ _=>rfl) (fun _ _ _ _ _ _ h=>h)).1 hk
      obtain ⟨d,h1,h2⟩:=uN hi l1 hin' (st.put x.dst e) (fun hc s hs l hm=>by
        rw [hri s hs] at hm; rw [nM]; exact hv hc s hs l hm) hk1
      refine ⟨d,fun st' K' hs hh=>h1 st' K' (fun s hs' => (hs s hs').trans (hri s hs' _ _).symm) (fun hc l hl=>by rw [nM] at hl ⊢; exact hh hc l hl),?_⟩
      have:=(hx1 (st.put i.dst d) (eB E (l1++l2) K) (mE a2) (fun _ s _ l ob _ hl=>by rw [nM]; exact hl)).2 (by
        rw [← lV _ _ _ _ _ (fun t ht=>(a1 t ht).2)]; exact h2)
      exact this

theorem BI {E:Env}{i:AOper}(hi:i.op.cls=2∨i.op.cls=3∨i.op.cls=5){K:St→Prop}{l2:List AOper}:∀ (l1:List AOper),(∀ x∈l1,jW x i=true)→∀ st:St,eB E (l1++i::l2) K st→i.run E (eB E (l1++l2) K) st
 | [],_,st,hk=>hk
 | x::l1,hin,st,hk=>by
  obtain ⟨a1,a2,a3⟩:=eI (hin x (by simp))
  have hx:x.op.cls≤1:=by omega
  have h15:x.op.cls=1→i.op.cls≠5:=by omega
  obtain ⟨e,hx1⟩:=RL hx hk
  have hk1:eB E (l1++i::l2) K (st.put x.dst e):=(hx1 st _ (fun _ _=>rfl) (fun _ _ _ _ _ _ h=>h)).1 hk
  have ih:=BI hi l1 (fun y hy=>hin y (by simp [hy])) (st.put x.dst e) hk1
  obtain ⟨_,h2⟩:=aDw hi ih
  have:=h2 st.fr (eB E (x::l1++l2) K) (fun s hs=>(qQ st x.dst e s fun t ht he=>(a1 t ht).1 (he▸hs)).symm) (fun d g hg hk' => by
   have q:=(hx1 ((⟨st.fr,g⟩:St).put i.dst d) (eB E (l1++l2) K) (fun s hs=>(mE a2 s hs).trans rfl) (fun hc s _ l ob _ hl=>by
    rw [nM]
    obtain ⟨tl,rfl⟩:=hg (h15 hc)
    simp only [nM]
    have hlt:l<st.h.length:=by
     rcases Nat.lt_or_ge l st.h.length with h|h
     ·exact h
     ·rw [List.getElem?_eq_none h] at hl; cases hl
    rw [List.getElem?_append_left hlt]; exact hl)).2 (by
    rw [← lV _ _ _ _ _ (fun t ht=>(a1 t ht).2)]
    have e1:(⟨(st.put x.dst e).fr,g⟩:St)=(⟨st.fr,g⟩:St).put x.dst e:=by cases x.dst <;> rfl
    rw [← e1]
    exact hk')
   exact q)
  rw [nM] at this
  exact this

theorem pT {h:List AObj}{d:DV}{sz:Nat}{K K' : List (List DV)→Prop}(hk:elems h d sz K)(f:∀ es,K es→K' es):elems h d sz K' := by
 unfold elems at *
 split at hk
 ·exact ⟨hk.1,f _ hk.2⟩
 ·exact f _ hk
 ·exact f _ hk
 ·obtain ⟨q1,es,q2,q3,q4⟩:=hk
  exact ⟨q1,es,q2,q3,f _ q4⟩
 ·exact ⟨hk.1,f _ hk.2⟩
 ·exact hk.elim
theorem AR {sz b s dx:Nat}{X Y:DV}{st:St}{K1 K2:DV→St→Prop}(hk:dI sz b X Y K1 (st.put (some dx) (st.fr s)))(f:∀ d S,K1 d (S.put (some dx) (S.fr s))→K2 d S):dI sz b X Y K2 st:=by
 unfold dI at *
 refine pT hk ?_
 clear hk
 intro ys hk
 have hu:∀ (p:Nat→Bool) (t:Nat),(upd dx (st.fr s) st.fr t).kill p=upd dx ((st.fr s).kill p) (fun t=>(st.fr t).kill p) t:=fun p t=>by unfold upd; split <;> rfl
 split at hk
 ·rename_i sz' l off n
  obtain ⟨q1,q2,es,q3,q4,q5,q6,hk⟩:=hk
  refine ⟨q1,q2,es,q3,q4,q5,q6,f _ _ ?_⟩
  have e:((st.put (some dx) (st.fr s)).kill (· == l)).at l (.arr sz (es.take n++ys))=((st.kill (· == l)).at l (.arr sz (es.take n++ys))).put (some dx) (((st.kill (· == l)).at l (.arr sz (es.take n++ys))).fr s):=by
   simp only [St.put,St.kill,St.at,hu]
  rw [← e]; exact hk
 ·rename_i sz' l off n c
  obtain ⟨q1,es,q3,q4,q5,hk⟩:=hk
  exact ⟨q1,es,q3,q4,q5,f _ _ hk⟩
 ·exact ⟨hk.1,hk.2.1,f _ _ hk.2.2⟩
 ·exact hk.elim
def AOp.lays:AOp→Bool
 | .append _ _ x _ => !jE x
 | .cpy _ _ _=>true
 | _=>false
theorem wL {op:AOp}{n:Nat}:(n≤3∧op.cls≤1∨n≤1∧op.cls≤3∨n=0∧op.cls=5∨n=5∧op.cls=0)→op.lays=true→False:=by
 intro h1 h2
 have:op.cls=4:=by
  cases op with
  | append a b x y=>
   have:jE x=false:=by simpa [AOp.lays] using h2
   simp [AOp.cls,this]
  | cpy=>rfl
  | _=>cases h2
 omega
theorem UA {sz s dx:Nat}{X Y:DV}{st:St}{K1 K2:DV→St→Prop}(hk:lH sz X Y K1 (st.put (some dx) (st.fr s)))(f:∀ d S,K1 d (S.put (some dx) (S.fr s))→K2 d S):lH sz X Y K2 st:=by
 unfold lH at *
 refine pT hk ?_
 clear hk
 intro ys hk
 split at hk
 ·obtain ⟨q1,es,q3,q4,q5,hk⟩:=hk
  exact ⟨q1,es,q3,q4,q5,f _ _ hk⟩
 ·exact hk.elim
theorem OH {E:Env}{op:AOp}(hl:op.lays=true){s dx:Nat}{st:St}{K1 K2:DV→St→Prop}(hs:∀ q∈op.slots,(st.put (some dx) (st.fr s)).fr q=st.fr q)
  (hk:aop E op K1 (st.put (some dx) (st.fr s))) (f:∀ d S,K1 d (S.put (some dx) (S.fr s))→K2 d S):aop E op K2 st:=by
 cases op with
 | append sz b X Y=>
  have hX:∀ q∈X.slots,(st.put (some dx) (st.fr s)).fr q=st.fr q:=fun q hq=>hs q (List.mem_append.2 (.inl hq))
  have hY:∀ q∈Y.slots,(st.put (some dx) (st.fr s)).fr q=st.fr q:=fun q hq=>hs q (List.mem_append.2 (.inr hq))
  have hk' : dI sz b (X.ev st.fr) (Y.ev st.fr) K1 (st.put (some dx) (st.fr s)):=by rw [← bE hX,← bE hY]; exact hk
  exact AR hk' f
 | cpy sz X Y=>
  have hX:∀ q∈X.slots,(st.put (some dx) (st.fr s)).fr q=st.fr q:=fun q hq=>hs q (List.mem_append.2 (.inl hq))
  have hY:∀ q∈Y.slots,(st.put (some dx) (st.fr s)).fr q=st.fr q:=fun q hq=>hs q (List.mem_append.2 (.inr hq))
  have hk' : lH sz (X.ev st.fr) (Y.ev st.fr) K1 (st.put (some dx) (st.fr s)):=by rw [← bE hX,← bE hY]; exact hk
  exact UA hk' f
 | _=>cases hl
def FY (x y:AOper):Bool:=
 match x.op,x.guard,y.guard with
 | .mov (.t s),none,none=>y.op.lays&&(match x.dst,y.dst with | some d,some e => !y.reads.contains d&&d != e&&s != e | _,_=>false)
 | _,_,_=>false
theorem mH {x y:AOper}(h:FY x y=true):∃ s d e,x.op=.mov (.t s)∧x.guard=none∧y.op.lays=true∧y.guard=none∧x.dst=some d∧y.dst=some e∧d∉y.reads∧d≠e∧s≠e:=by
 unfold FY at h
 split at h
 ·rename_i s h1 h2 h4
  rw [Bool.and_eq_true] at h
  obtain ⟨h3,h⟩:=h
  split at h
  ·rename_i d e h5 h6
   simp only [Bool.and_eq_true,Bool.not_eq_true',bne_iff_ne,ne_eq] at h
   obtain ⟨⟨q1,q2⟩,q3⟩:=h
   exact ⟨s,d,e,h1,h2,h3,h4,h5,h6,by simpa using q1,q2,q3⟩
  ·cases h
 ·cases h
theorem CS {E:Env}{i:AOper}{K:St→Prop}{l2:List AOper}:∀ (l1:List AOper),(∀ x∈l1,FY x i=true)→∀ st:St,eB E (l1++i::l2) K st→i.run E (eB E (l1++l2) K) st
 | [],_,st,hk=>hk
 | x::l1,hin,st,hk=>by
  obtain ⟨s,d,e,x1,x2,y1,y2,xd,yd,h1,h2,h3⟩:=mH (hin x (by simp))
  have hx:∀ (K' : St→Prop) (S:St),x.run E K' S↔K' (S.put (some d) (S.fr s)):=fun K' S=>by
   rw [AOper.run_iff]
   unfold AOper.run0
   rw [x2,x1,xd]
   exact Iff.rfl
  have hk1:eB E (l1++i::l2) K (st.put (some d) (st.fr s)):=(hx _ st).1 hk
  have ih:=CS l1 (fun y hy=>hin y (by simp [hy])) _ hk1
  rw [AOper.run_iff] at ih ⊢
  unfold AOper.run0 at ih ⊢
  rw [y2,yd] at ih ⊢
  have hr:∀ q∈i.reads,(st.put (some d) (st.fr s)).fr q=st.fr q:=fun q hq=>qQ st (some d) _ q fun t ht he=>h1 (by cases ht; exact he▸hq)
  refine OH y1 (fun q hq=>hr q (by simp [AOper.reads,hq])) ih fun d' S hS=>?_
  refine (hx _ _).2 ?_
  have e1:(S.put (some e) d').fr s=S.fr s:=qQ S (some e) d' s fun t ht he=>by cases ht; exact h3 he
  rw [e1]
  rw [lV _ _ _ _ _ (fun t ht=>by cases ht; simpa using Ne.symm h2)] at hS
  exact hS
def fX (x y:AOper):Bool:=jW x y||FY x y
def dN (ops:Array Oper)(i:Nat):List Nat:=((ops[i]?).map fun o=>(o.after.toList.filter (Region.binds .any)).map (·.on)).getD []
def lK (ops:Array Oper)(T:List (List Nat)):Bool:=
 (List.range ops.size).all fun i=>(dN ops i).all (fun j=>decide (j<i))&&(T.getD i []).all fun x=>(dN ops i).any fun j=>j == x||(T.getD j []).contains x
def eP (ops:Array Oper):List (List Nat):=
 (List.range ops.size).foldl (fun T i=>T++[((dN ops i).flatMap fun j=>j::T.getD j []).eraseDups]) []
def AA (ops:Array Oper)(al:List AOper):Bool:=
 lK ops (eP ops)&&(List.range ops.size).all fun i=>(List.range i).all fun x=>((eP ops).getD i []).contains x||fX (al.getD x default) (al.getD i default)

theorem kE {ops:Array Oper}{T:List (List Nat)}(h:lK ops T=true){L:Nat→Prop}(hL:∀ j,L j→∀ k∈dN ops j,L k):∀ (i:Nat),i<ops.size→(∀ k∈dN ops i,L k)→∀ x∈T.getD i [],L x:=by
 intro i
 induction i using Nat.strongRecOn with
 | _ i ih=>
  intro hi hp x hx
  simp only [lK,List.all_eq_true,List.mem_range,Bool.and_eq_true,decide_eq_true_eq,List.any_eq_true,Bool.or_eq_true,beq_iff_eq,List.contains_iff_mem] at h
  obtain ⟨h1,h2⟩:=h i hi
  obtain ⟨j,hj,hjx⟩:=h2 x hx
  have hji:=h1 j hj
  rcases hjx with rfl|hjx
  ·exact hp j hj
  ·exact ih j hji (by omega) (hL j (hp j hj)) x hjx

theorem hO {P:Program}{full bad:Bool}{n:Nat}{all:Array Oper}:∀ {l:List Oper}{al:List AOper},eV P full bad n all l=some al→l.length=al.length∧∀ (k:Nat) o ao,l[k]?=some o→al[k]?=some ao→FC P full bad n all o=some ao
 | [],al,h=>by simp [eV] at h; subst h; exact ⟨rfl,fun k o ao hk=>by simp at hk⟩
 | o::l,al,h=>by
  simp only [eV,Option.bind_eq_some_iff,Option.map_eq_some_iff] at h
  obtain ⟨x,hx,xs,hxs,rfl⟩:=h
  obtain ⟨h1,h2⟩:=hO hxs
  refine ⟨by simp [h1],fun k o' ao hk hk' => ?_⟩
  cases k with
  | zero=>simp at hk hk'; subst hk; subst hk'; exact hx
  | succ k=>exact h2 k o' ao (by simpa using hk) (by simpa using hk')

theorem BR {full:Bool}{E:Env}{C:Ctx}{ops:Array Oper}{al:List AOper}(hc:eV E.P full false C.n ops ops.toList=some al)(hd:AA ops al=true){Q:Exit→Act→World→Prop}{K:St→Prop}
  (hQ:∀ a' w' ok' β' st',K st' → SRep E C a' w' ok' β' st' → Q .normal a' w') :
  ∀ (fuel:Nat) (ids:List Nat) (listed:Array Bool) (st:St) (a:Act) (w:World) (ok:Nat→Prop) (β:Loc),ids.length=fuel→ids.Pairwise (· < ·)→(∀ k,k∈ids↔k<ops.size∧listed.getD k true=false)→listed.size=ops.size →
   (∀ j,j<ops.size→listed.getD j false=true→∀ k∈dN ops j,listed.getD k false=true)→SRep E C a w ok β st→eB E (ids.map (al.getD · default)) K st→wpAny E.P .any ops Q fuel listed a w:=by
 simp only [AA,Bool.and_eq_true] at hd
 obtain ⟨hT,hI⟩:=hd
 obtain ⟨hlen,hco⟩:=hO hc
 have hTp:∀ i,i<ops.size→∀ j∈dN ops i,j<i:=fun i hi j hj=>by
  simp only [lK,List.all_eq_true,List.mem_range,Bool.and_eq_true,decide_eq_true_eq] at hT
  exact (hT i hi).1 j hj
 have hready:∀ (listed:Array Bool) (i:Nat),i∈Region.ready .any ops listed↔i<ops.size∧listed.getD i true=false∧∀ k∈dN ops i,listed.getD k false=true:=by
  intro listed i
  simp only [Region.ready,List.mem_filter,List.mem_range,Bool.and_eq_true,Bool.not_eq_true']
  constructor
  ·rintro ⟨h1,h2,h3⟩
   refine ⟨h1,h2,fun k hk=>?_⟩
   rw [Array.getElem?_eq_getElem h1] at h3
   simp only [dN,Array.getElem?_eq_getElem h1,Option.map_some,Option.getD_some,List.mem_map,List.mem_filter] at hk
   obtain ⟨e,⟨he,hb⟩,rfl⟩:=hk
   simp only [Option.map_some,Option.getD_some,Array.all_eq_true'] at h3
   have:=h3 e (by simpa using he)
   simpa [hb] using this
  ·rintro ⟨h1,h2,h3⟩
   refine ⟨h1,h2,?_⟩
   rw [Array.getElem?_eq_getElem h1]
   simp only [Option.map_some,Option.getD_some,Array.all_eq_true']
   intro e he
   cases hb:Region.binds .any e with
   | false=>simp
   | true=>
    simp only [Bool.not_true,Bool.false_or]
    exact h3 e.on (by
     simp only [dN,Array.getElem?_eq_getElem h1,Option.map_some,Option.getD_some,List.mem_map,List.mem_filter]
     exact ⟨e,⟨by simpa using he,hb⟩,rfl⟩)
 have hgd:∀ (listed:Array Bool) (k:Nat),listed.size=ops.size→k<ops.size→(listed.getD k true=false↔¬ listed.getD k false=true):=fun listed k hs hk=>by
  have:k<listed.size:=by omega
  simp [Array.getD_eq_getD_getElem?,Array.getElem?_eq_getElem this]
 have hnil:∀ (ids:List Nat) (listed:Array Bool),(∀ k,k∈ids↔k<ops.size∧listed.getD k true=false)→listed.size=ops.size→ids.Pairwise (· < ·)→Region.ready .any ops listed=[]→ids=[]:=by
  intro ids listed hm hs hpw hr
  cases ids with
  | nil=>rfl
  | cons i l=>
   obtain ⟨h1,h2⟩:=(hm i).1 (by simp)
   have:i∈Region.ready .any ops listed:=(hready listed i).2 ⟨h1,h2,fun k hk=>by
    have hki:=hTp i h1 k hk
    have hkn:k∉i::l:=fun hmem=>by
     rcases List.mem_cons.1 hmem with e|e
     ·omega
     ·have:=(List.pairwise_cons.1 hpw).1 k e; omega
    have hk0:¬ (k<ops.size∧listed.getD k true=false):=fun h=>hkn ((hm k).2 h)
    have hks:k<ops.size:=by omega
    by_cases hb:listed.getD k false=true
    ·exact hb
    ·exact absurd ⟨hks,(hgd listed k hs hks).2 hb⟩ hk0⟩
   rw [hr] at this
   cases this
 intro fuel
 induction fuel with
 | zero=>
  intro ids listed st a w ok β hl hpw hm hs hdc hrep hk
  obtain rfl:ids=[]:=List.eq_nil_of_length_eq_zero hl
  refine ⟨?_,hQ a w ok β st hk hrep⟩
  apply List.eq_nil_iff_forall_not_mem.2
  intro i hi
  obtain ⟨h1,h2,_⟩:=(hready listed i).1 hi
  have:=(hm i).2 ⟨h1,h2⟩
  cases this
 | succ fuel ih=>
  intro ids listed st a w ok β hl hpw hm hs hdc hrep hk
  refine ⟨fun hr=>?_,fun i hi=>?_⟩
  ·have:=hnil ids listed hm hs hpw hr
   subst this
   exact hQ a w ok β st hk hrep
  ·obtain ⟨h1,h2,h3⟩:=(hready listed i).1 hi
   have himem:=(hm i).2 ⟨h1,h2⟩
   obtain ⟨l1,l2,rfl⟩:=List.append_of_mem himem
   have hpw' := hpw
   rw [List.pairwise_append] at hpw'
   obtain ⟨p1,p2,p3⟩:=hpw'
   have hx1:∀ x∈l1,x<i:=fun x hx=>p3 x hx i (by simp)
   have hind:∀ x∈l1,fX (al.getD x default) (al.getD i default)=true:=fun x hx=>by
    have hxi:=hx1 x hx
    obtain ⟨q1,q2⟩:=(hm x).1 (by simp [hx])
    have:=List.all_eq_true.1 (List.all_eq_true.1 hI i (List.mem_range.2 h1)) x (List.mem_range.2 hxi)
    rcases Bool.or_eq_true _ _▸this with h|h
    ·have hxL:=kE hT (L:=fun j=>j<ops.size∧listed.getD j false=true) (fun j hj k hk=>⟨by have:=hTp j hj.1 k hk; omega,hdc j hj.1 hj.2 k hk⟩) i h1 (fun k hk=>⟨by have:=hTp i h1 k hk; omega,h3 k hk⟩) x (by simpa using h)
     exact absurd hxL.2 ((hgd listed x hs q1).1 q2)
    ·exact h
   have hsize:i<ops.toList.length:=by simpa using h1
   have hai:al[i]?=some (al.getD i default):=by
    rw [List.getD_eq_getElem?_getD,List.getElem?_eq_getElem (by omega)]; rfl
   have hoi:ops[i]?=some ops[i]:=Array.getElem?_eq_getElem h1
   have hcop:=hco i ops[i] _ (by simpa using hoi) hai
   have hrun:(al.getD i default).run E (eB E ((l1++l2).map (al.getD · default)) K) st:=by
    rw [List.map_append,List.map_cons] at hk
    rw [List.map_append]
    by_cases hap:(al.getD i default).op.lays=true
    ·have hmv:∀ y∈l1.map (al.getD · default),FY y (al.getD i default)=true:=fun y hy=>by
      obtain ⟨x,hx,rfl⟩:=List.mem_map.1 hy
      rcases Bool.or_eq_true _ _▸hind x hx with h|h
      ·obtain ⟨_,_,a3⟩:=eI h
       exfalso
       revert a3 hap
       exact fun q1 q2=>wL q2 q1
      ·exact h
     exact CS _ hmv st hk
    have hind1:∀ x∈l1,jW (al.getD x default) (al.getD i default)=true:=fun x hx=>by
     rcases Bool.or_eq_true _ _▸hind x hx with h|h
     ·exact h
     ·obtain ⟨s,d,e,_,_,y1,_⟩:=mH h
      exact absurd y1 hap
    have hind' : ∀ y∈l1.map (al.getD · default),jW y (al.getD i default)=true:=fun y hy=>by
     obtain ⟨x,hx,rfl⟩:=List.mem_map.1 hy
     exact hind1 x hx
    rcases Nat.lt_or_ge 1 (al.getD i default).op.cls with hcl|hcl
    ·cases l1 with
     | nil=>exact hk
     | cons x l1=>
      obtain ⟨_,_,a3⟩:=eI (hind1 x (by simp))
      exact BI (by omega) _ hind' st hk
    ·obtain ⟨d,q1,q2⟩:=uN hcl _ hind' st (fun _ s _ l hmn=>by
      have hr:=hrep.fr s
      generalize hds:st.fr s=ds at hr hmn
      have hsome:∀ b,β l=some b→l<st.h.length:=fun b hb=>by
       rcases Nat.lt_or_ge l st.h.length with h|h
       ·exact h
       ·rw [hrep.heap.out l h] at hb; cases hb
      generalize C.val a s=vv at hr
      cases hr <;> first | exact hmn.elim | (simp only [ment] at hmn; subst hmn; exact hsome _ (by assumption)) | (simp only [ment] at hmn; obtain ⟨hmn,_⟩:=hmn; subst hmn; exact hsome _ (by assumption)) | (simp only [ment] at hmn; omega)) hk
     exact (q1 st _ (fun _ _=>rfl) (fun _ _ _=>rfl)).2 q2
   have hnext:=kH (next:=wpAny E.P .any ops Q fuel (listed.setIfInBounds i true)) (Q:=Q) hcop hrep hrun (fun a' w' ok' β' st' k1 k2=>ih (l1++l2) (listed.setIfInBounds i true) st' a' w' ok' β' (by simp at hl ⊢; omega)
    (List.pairwise_append.2 ⟨p1,(List.pairwise_cons.1 p2).2,fun x hx y hy=>p3 x hx y (by simp [hy])⟩)
    (fun k=>by
     have hmk:=hm k
     by_cases hki:k=i
     ·subst hki
      have hn1:k∉l1++l2:=fun h=>by
       rcases List.mem_append.1 h with h|h
       ·have:=hx1 k h; omega
       ·have:=(List.pairwise_cons.1 p2).1 k h; omega
      have:k<listed.size:=by omega
      simp [hn1,this]
     ·have e1:(listed.setIfInBounds i true).getD k true=listed.getD k true:=by
       simp only [Array.getD_eq_getD_getElem?]
       rw [Array.getElem?_setIfInBounds_ne (fun e=>hki e.symm)]
      rw [e1,← hmk]
      simp [hki])
    (by simpa using hs)
    (fun j hj hjl k hkp=>by
     have e1:∀ q,q≠i→(listed.setIfInBounds i true).getD q false=listed.getD q false:=fun q hq=>by
      simp only [Array.getD_eq_getD_getElem?]
      rw [Array.getElem?_setIfInBounds_ne (fun e=>hq e.symm)]
     have e2:(listed.setIfInBounds i true).getD i false=true:=by
      have:i<listed.size:=by omega
      simp [Array.getD_eq_getD_getElem?,this]
     by_cases hki:k=i
     ·subst hki; exact e2
     ·rw [e1 k hki]
      by_cases hji:j=i
      ·subst hji; exact h3 k hkp
      ·rw [e1 j hji] at hjl
       exact hdc j hj hjl k hkp) k2 k1)
   unfold wpOp
   rw [hoi]
   simp only
   split
   ·rename_i hw; rw [if_pos hw] at hnext; exact .inl hnext
   ·rename_i hw; rw [if_neg hw] at hnext; exact hnext

def yK (T:List (List Nat))(al:List AOper):List Nat→List (Nat×Nat)
 | []=>[]
 | x::o=>((o.filter fun y => !((T.getD y []).contains x||fX (al.getD x default) (al.getD y default))).map fun y=>(x,y))++yK T al o
theorem pI (T:List (List Nat))(al:List AOper):∀ o:List Nat,o.Pairwise fun x y=>x∈T.getD y []∨fX (al.getD x default) (al.getD y default)=true∨(x,y)∈yK T al o
 | []=>.nil
 | x::o=>by
  refine List.pairwise_cons.2 ⟨fun y hy=>?_,(pI T al o).imp fun h=>?_⟩
  ·cases hb:((T.getD y []).contains x||fX (al.getD x default) (al.getD y default)) with
   | true=>
    rcases Bool.or_eq_true _ _▸hb with h|h
    ·exact .inl (by simpa using h)
    ·exact .inr (.inl h)
   | false=>exact .inr (.inr (List.mem_append.2 (.inl (List.mem_map.2 ⟨y,List.mem_filter.2 ⟨hy,by rw [hb]; rfl⟩,rfl⟩))))
  ·rcases h with h|h|h
   ·exact .inl h
   ·exact .inr (.inl h)
   ·exact .inr (.inr (List.mem_append.2 (.inr h)))
def gN (T:List (List Nat))(A:List (Nat×Nat)):Nat→Nat→Nat→Bool
 | 0,x,y=>x == y||(T.getD y []).contains x
 | k+1,x,y=>x == y||(T.getD y []).contains x||A.any fun e=>(x == e.1||(T.getD e.1 []).contains x)&&gN T A k e.2 y
def wV (T:List (List Nat)):Nat→List (Nat×Nat)→List (List (Nat×Nat))→Bool
 | 0,A,cs=>cs.any fun c=>c.all fun p=>gN T A 4 p.1 p.2
 | n+1,A,cs=>(cs.any fun c=>c.all fun p=>gN T A 4 p.1 p.2)||match cs.flatten.find? (fun p => !gN T A 4 p.1 p.2 && !gN T A 4 p.2 p.1) with
  | some p=>wV T n (p::A) cs&&wV T n ((p.2,p.1)::A) cs
  | none=>false
section
variable {T:List (List Nat)} {g:Nat→Nat} (hT:∀ x y,x∈T.getD y []→g x≤g y)
include hT
theorem nO {A:List (Nat×Nat)}(hA:∀ p∈A,g p.1≤g p.2):∀ (k x y:Nat),gN T A k x y=true→g x≤g y
 | 0,x,y,h=>by
  unfold gN at h
  rcases Bool.or_eq_true _ _▸h with h|h
  ·obtain rfl:x=y:=by simpa using h
   exact Nat.le_refl _
  ·exact hT x y (by simpa using h)
 | k+1,x,y,h=>by
  unfold gN at h
  rcases Bool.or_eq_true _ _▸h with h|h
  ·rcases Bool.or_eq_true _ _▸h with h|h
   ·obtain rfl:x=y:=by simpa using h
    exact Nat.le_refl _
   ·exact hT x y (by simpa using h)
  ·obtain ⟨e,he,h⟩:=List.any_eq_true.1 h
   rw [Bool.and_eq_true] at h
   have h1:g x≤g e.1:=by
    rcases Bool.or_eq_true _ _▸h.1 with h|h
    ·obtain rfl:x=e.1:=by simpa using h
     exact Nat.le_refl _
    ·exact hT x e.1 (by simpa using h)
   exact Nat.le_trans h1 (Nat.le_trans (hA e he) (nO hA k e.2 y h.2))
theorem yI {A:List (Nat×Nat)}(hA:∀ p∈A,g p.1≤g p.2){cs:List (List (Nat×Nat))}(h:(cs.any fun c=>c.all fun p=>gN T A 4 p.1 p.2)=true):∃ c∈cs,∀ p∈c,g p.1≤g p.2:=by
 obtain ⟨c,hc,he⟩:=List.any_eq_true.1 h
 exact ⟨c,hc,fun p hp=>nO hT hA 4 p.1 p.2 (List.all_eq_true.1 he p hp)⟩
theorem kW:∀ (n:Nat)(A:List (Nat×Nat))(cs:List (List (Nat×Nat))),(∀ p∈A,g p.1≤g p.2)→wV T n A cs=true→∃ c∈cs,∀ p∈c,g p.1≤g p.2
 | 0,A,cs,hA,h=>yI hT hA h
 | n+1,A,cs,hA,h=>by
  unfold wV at h
  rcases Bool.or_eq_true _ _▸h with h|h
  ·exact yI hT hA h
  ·split at h
   ·rename_i p _
    rw [Bool.and_eq_true] at h
    rcases Nat.le_total (g p.1) (g p.2) with hp|hp
    ·exact kW n _ cs (fun q hq=>by
      rcases List.mem_cons.1 hq with rfl|hq
      ·exact hp
      ·exact hA q hq) h.1
    ·exact kW n _ cs (fun q hq=>by
      rcases List.mem_cons.1 hq with rfl|hq
      ·exact hp
      ·exact hA q hq) h.2
   ·cases h
end
def YW (ops:Array Oper)(al:List AOper)(os:List (List Nat)):Bool:=
 lK ops (eP ops)&&os.all (fun o=>o.isPerm (List.range ops.size))&&wV (eP ops) 40 [] (os.map (yK (eP ops) al))
def EA (T:List (List Nat))(pr:List Nat)(f:List (Nat×Nat)):Nat→List Nat→Option (List Nat)
 | 0,acc=>some acc.reverse
 | k+1,acc=>match pr.find? (fun i => !acc.contains i&&(T.getD i []).all acc.contains&&f.all fun p=>p.2 != i||acc.contains p.1) with
  | some i=>EA T pr f k (i::acc)
  | none=>none
def KJ:AOp→Bool
 | .mov _=>true
 | _=>false
def OB (al:List AOper)(n:Nat):List Nat:=(List.range n).filter (fun i=>KJ (al.getD i default).op)++(List.range n).filter (fun i => !KJ (al.getD i default).op)
def QF (T:List (List Nat))(pr:List Nat)(n:Nat)(D:List (Nat×Nat)):List (List (Nat×Nat)):=
 D.foldl (fun fs p=>fs.flatMap fun f=>[p::f,(p.2,p.1)::f].filter fun g=>(EA T pr g n []).isSome) [[]]
def wP (ops:Array Oper)(al:List AOper):List (List Nat):=
 match EA (eP ops) (OB al ops.size) [] ops.size [] with
 | some o=>if (yK (eP ops) al o).length≤10 then (QF (eP ops) (OB al ops.size) ops.size (yK (eP ops) al o)).filterMap fun f=>EA (eP ops) (OB al ops.size) f ops.size [] else []
 | none=>[]
theorem yP (md:Region.Mode)(ops:Array Oper)(fuel t:Nat)(listed:Array Bool):Region.linearise.go md ops (fuel+1) t listed [] =
  match (Region.ready md ops listed)[t % (Region.ready md ops listed).length]? with
  | some i=>i::Region.linearise.go md ops fuel (t / (Region.ready md ops listed).length) (listed.setIfInBounds i true) []
  | none=>[]:=by
 simp only [Region.linearise.go]
 change (match (Region.ready md ops listed)[t % (Region.ready md ops listed).length]? with
  | some i=>Region.linearise.go md ops fuel (t / (Region.ready md ops listed).length) (listed.setIfInBounds i true) [i]
  | none=>[].reverse)=_
 cases (Region.ready md ops listed)[t % (Region.ready md ops listed).length]? with
 | none=>rfl
 | some i=>simp only []; rw [linearise_go_acc,List.reverse_singleton,List.singleton_append]
theorem HV {ops:Array Oper}(listed:Array Bool)(i:Nat):i∈Region.ready .any ops listed↔i<ops.size∧listed.getD i true=false∧∀ k∈dN ops i,listed.getD k false=true:=by
 simp only [Region.ready,List.mem_filter,List.mem_range,Bool.and_eq_true,Bool.not_eq_true']
 constructor
 ·rintro ⟨h1,h2,h3⟩
  refine ⟨h1,h2,fun k hk=>?_⟩
  rw [Array.getElem?_eq_getElem h1] at h3
  simp only [dN,Array.getElem?_eq_getElem h1,Option.map_some,Option.getD_some,List.mem_map,List.mem_filter] at hk
  obtain ⟨e,⟨he,hb⟩,rfl⟩:=hk
  simp only [Option.map_some,Option.getD_some,Array.all_eq_true'] at h3
  have:=h3 e (by simpa using he)
  simpa [hb] using this
 ·rintro ⟨h1,h2,h3⟩
  refine ⟨h1,h2,?_⟩
  rw [Array.getElem?_eq_getElem h1]
  simp only [Option.map_some,Option.getD_some,Array.all_eq_true']
  intro e he
  cases hb:Region.binds .any e with
  | false=>simp
  | true=>
   simp only [Bool.not_true,Bool.false_or]
   exact h3 e.on (by
    simp only [dN,Array.getElem?_eq_getElem h1,Option.map_some,Option.getD_some,List.mem_map,List.mem_filter]
    exact ⟨e,⟨by simpa using he,hb⟩,rfl⟩)
theorem aFV {ops:Array Oper}(hT:lK ops (eP ops)=true){x y:Nat}(hxy:x∈(eP ops).getD y []):∀ (fuel t:Nat)(listed:Array Bool),listed.size=ops.size →
    (∀ j,j<ops.size→listed.getD j false=true→∀ k∈dN ops j,listed.getD k false=true)→¬ (x<ops.size∧listed.getD x false=true)→(Region.linearise.go .any ops fuel t listed []).idxOf x≤(Region.linearise.go .any ops fuel t listed []).idxOf y:=by
  have hTp:∀ i,i<ops.size→∀ j∈dN ops i,j<i:=fun i hi j hj=>by
    simp only [lK,List.all_eq_true,List.mem_range,Bool.and_eq_true,decide_eq_true_eq] at hT
    exact (hT i hi).1 j hj
  intro fuel
  induction fuel with
  | zero=>intro t listed _ _ _; simp [Region.linearise.go]
  | succ fuel ih=>
    intro t listed hs hdc hx
    rw [yP]
    cases hi:(Region.ready .any ops listed)[t % (Region.ready .any ops listed).length]? with
    | none=>simp
    | some i=>
      simp only []
      obtain ⟨h1,h2,h3⟩:=(HV listed i).1 (List.mem_of_getElem? hi)
      have e1:∀ (L:List Nat) (x:Nat),x≠i→(i::L).idxOf x=L.idxOf x+1:=fun L x hx=>by
        have hb:(i == x)=false:=by simpa using fun e:i=x=>hx e.symm
        rw [List.idxOf_cons,hb]; rfl
      by_cases hxi:x=i
      · subst hxi; simp
      by_cases hyi:y=i
      · subst hyi
        exact absurd (kE hT (L:=fun j=>j<ops.size∧listed.getD j false=true) (fun j hj k hk=>⟨by have:=hTp j hj.1 k hk; omega,hdc j hj.1 hj.2 k hk⟩) y h1 (fun k hk=>⟨by have:=hTp y h1 k hk; omega,h3 k hk⟩) x hxy) hx
      rw [e1 _ x hxi,e1 _ y hyi]
      have e3:∀ q,q≠i→(listed.setIfInBounds i true).getD q false=listed.getD q false:=fun q hq=>by
        simp only [Array.getD_eq_getD_getElem?]
        rw [Array.getElem?_setIfInBounds_ne (fun e=>hq e.symm)]
      have:=ih (t / (Region.ready .any ops listed).length) (listed.setIfInBounds i true) (by simpa using hs) (fun j hj hjl k hkp=>by
          have e2:(listed.setIfInBounds i true).getD i false=true:=by
            have:i<listed.size:=by omega
            simp [Array.getD_eq_getD_getElem?,this]
          by_cases hki:k=i
          · subst hki; exact e2
          · rw [e3 k hki]
            by_cases hji:j=i
            · subst hji; exact h3 k hkp
            · rw [e3 j hji] at hjl
              exact hdc j hj hjl k hkp) (by rw [e3 x hxi]; exact hx)
      omega
theorem tB:∀ {l:List Nat},l≠[]→∃ m∈l,∀ k∈l,m≤k
 | [],h=>absurd rfl h
 | [x],_=>⟨x,by simp,fun k hk=>by simp at hk; omega⟩
 | x::y::l,_=>by
  obtain ⟨m,hm,h⟩:=tB (l:=y::l) (by simp)
  rcases Nat.lt_or_ge x m with hx|hx
  ·exact ⟨x,by simp,fun k hk=>by
    rcases List.mem_cons.1 hk with rfl|hk
    ·exact Nat.le_refl _
    ·have:=h k hk; omega⟩
  ·exact ⟨m,List.mem_cons_of_mem _ hm,fun k hk=>by
    rcases List.mem_cons.1 hk with rfl|hk
    ·exact hx
    ·exact h k hk⟩
theorem HU {E:Env}{C:Ctx}{al:List AOper}{K:St→Prop}{st:St}{a:Act}{w:World}{ok:Nat→Prop}{β:Loc}{i:Nat}{l1 l2:List Nat}(hrep:SRep E C a w ok β st)
  (hind:∀ x∈l1,fX (al.getD x default) (al.getD i default)=true) (hk:eB E ((l1++i::l2).map (al.getD · default)) K st):(al.getD i default).run E (eB E ((l1++l2).map (al.getD · default)) K) st:=by
 rw [List.map_append,List.map_cons] at hk
 rw [List.map_append]
 by_cases hap:(al.getD i default).op.lays=true
 ·have hmv:∀ y∈l1.map (al.getD · default),FY y (al.getD i default)=true:=fun y hy=>by
   obtain ⟨x,hx,rfl⟩:=List.mem_map.1 hy
   rcases Bool.or_eq_true _ _▸hind x hx with h|h
   ·obtain ⟨_,_,a3⟩:=eI h
    exfalso
    revert a3 hap
    exact fun q1 q2=>wL q2 q1
   ·exact h
  exact CS _ hmv st hk
 have hind1:∀ x∈l1,jW (al.getD x default) (al.getD i default)=true:=fun x hx=>by
  rcases Bool.or_eq_true _ _▸hind x hx with h|h
  ·exact h
  ·obtain ⟨s,d,e,_,_,y1,_⟩:=mH h
   exact absurd y1 hap
 have hind' : ∀ y∈l1.map (al.getD · default),jW y (al.getD i default)=true:=fun y hy=>by
  obtain ⟨x,hx,rfl⟩:=List.mem_map.1 hy
  exact hind1 x hx
 rcases Nat.lt_or_ge 1 (al.getD i default).op.cls with hcl|hcl
 ·cases l1 with
  | nil=>exact hk
  | cons x l1=>
   obtain ⟨_,_,a3⟩:=eI (hind1 x (by simp))
   exact BI (by omega) _ hind' st hk
 ·obtain ⟨d,q1,q2⟩:=uN hcl _ hind' st (fun _ s _ l hmn=>by
   have hr:=hrep.fr s
   generalize hds:st.fr s=ds at hr hmn
   have hsome:∀ b,β l=some b→l<st.h.length:=fun b hb=>by
    rcases Nat.lt_or_ge l st.h.length with h|h
    ·exact h
    ·rw [hrep.heap.out l h] at hb; cases hb
   generalize C.val a s=vv at hr
   cases hr <;> first | exact hmn.elim | (simp only [ment] at hmn; subst hmn; exact hsome _ (by assumption)) | (simp only [ment] at hmn; obtain ⟨hmn,_⟩:=hmn; subst hmn; exact hsome _ (by assumption)) | (simp only [ment] at hmn; omega)) hk
  exact (q1 st _ (fun _ _=>rfl) (fun _ _ _=>rfl)).2 q2
theorem FT {full:Bool}{E:Env}{C:Ctx}{ops:Array Oper}{al:List AOper}(hc:eV E.P full false C.n ops ops.toList=some al)(hT:lK ops (eP ops)=true){Q:Exit→Act→World→Prop}{K:St→Prop}
  (hQ:∀ a' w' ok' β' st',K st' → SRep E C a' w' ok' β' st' → Q .normal a' w') :
  ∀ (fuel t:Nat) (ids:List Nat) (listed:Array Bool) (st:St) (a:Act) (w:World) (ok:Nat→Prop) (β:Loc),ids.length=fuel→ids.Nodup→(∀ k,k∈ids↔k<ops.size∧listed.getD k true=false)→listed.size=ops.size →
   (∀ j,j<ops.size→listed.getD j false=true→∀ k∈dN ops j,listed.getD k false=true) →
   (ids.Pairwise fun x y=>x∈(eP ops).getD y []∨fX (al.getD x default) (al.getD y default)=true∨(Region.linearise.go .any ops fuel t listed []).idxOf x≤(Region.linearise.go .any ops fuel t listed []).idxOf y) →
   SRep E C a w ok β st→eB E (ids.map (al.getD · default)) K st→wpOps E.P ops Q (Region.linearise.go .any ops fuel t listed []) a w:=by
 obtain ⟨hlen,hco⟩:=hO hc
 have hTp:∀ i,i<ops.size→∀ j∈dN ops i,j<i:=fun i hi j hj=>by
  simp only [lK,List.all_eq_true,List.mem_range,Bool.and_eq_true,decide_eq_true_eq] at hT
  exact (hT i hi).1 j hj
 have hready:∀ (listed:Array Bool) (i:Nat),i∈Region.ready .any ops listed↔i<ops.size∧listed.getD i true=false∧∀ k∈dN ops i,listed.getD k false=true:=by
  intro listed i
  simp only [Region.ready,List.mem_filter,List.mem_range,Bool.and_eq_true,Bool.not_eq_true']
  constructor
  ·rintro ⟨h1,h2,h3⟩
   refine ⟨h1,h2,fun k hk=>?_⟩
   rw [Array.getElem?_eq_getElem h1] at h3
   simp only [dN,Array.getElem?_eq_getElem h1,Option.map_some,Option.getD_some,List.mem_map,List.mem_filter] at hk
   obtain ⟨e,⟨he,hb⟩,rfl⟩:=hk
   simp only [Option.map_some,Option.getD_some,Array.all_eq_true'] at h3
   have:=h3 e (by simpa using he)
   simpa [hb] using this
  ·rintro ⟨h1,h2,h3⟩
   refine ⟨h1,h2,?_⟩
   rw [Array.getElem?_eq_getElem h1]
   simp only [Option.map_some,Option.getD_some,Array.all_eq_true']
   intro e he
   cases hb:Region.binds .any e with
   | false=>simp
   | true=>
    simp only [Bool.not_true,Bool.false_or]
    exact h3 e.on (by
     simp only [dN,Array.getElem?_eq_getElem h1,Option.map_some,Option.getD_some,List.mem_map,List.mem_filter]
     exact ⟨e,⟨by simpa using he,hb⟩,rfl⟩)
 have hgd:∀ (listed:Array Bool) (k:Nat),listed.size=ops.size→k<ops.size→(listed.getD k true=false↔¬ listed.getD k false=true):=fun listed k hs hk=>by
  have:k<listed.size:=by omega
  simp [Array.getD_eq_getD_getElem?,Array.getElem?_eq_getElem this]
 have hnil:∀ (ids:List Nat) (listed:Array Bool),(∀ k,k∈ids↔k<ops.size∧listed.getD k true=false)→listed.size=ops.size→Region.ready .any ops listed=[]→ids=[]:=by
  intro ids listed hm hs hr
  by_cases he:ids=[]
  ·exact he
  obtain ⟨i,hi,hmin⟩:=tB he
  obtain ⟨h1,h2⟩:=(hm i).1 hi
  have:i∈Region.ready .any ops listed:=(hready listed i).2 ⟨h1,h2,fun k hk=>by
   have hki:=hTp i h1 k hk
   have hkn:k∉ids:=fun hmem=>by have:=hmin k hmem; omega
   have hk0:¬ (k<ops.size∧listed.getD k true=false):=fun h=>hkn ((hm k).2 h)
   have hks:k<ops.size:=by omega
   by_cases hb:listed.getD k false=true
   ·exact hb
   ·exact absurd ⟨hks,(hgd listed k hs hks).2 hb⟩ hk0⟩
  rw [hr] at this
  cases this
 intro fuel
 induction fuel with
 | zero=>
  intro t ids listed st a w ok β hl hnd hm hs hdc hpw hrep hk
  obtain rfl:ids=[]:=List.eq_nil_of_length_eq_zero hl
  simpa [Region.linearise.go,wpOps] using hQ a w ok β st hk hrep
 | succ fuel ih=>
  intro t ids listed st a w ok β hl hnd hm hs hdc hpw hrep hk
  rw [yP] at hpw ⊢
  cases hi:(Region.ready .any ops listed)[t % (Region.ready .any ops listed).length]? with
  | none=>
   have hr:Region.ready .any ops listed=[]:=by
    cases hr:Region.ready .any ops listed with
    | nil=>rfl
    | cons x xs=>
     rw [hr] at hi
     have hlt:t % (x::xs).length<(x::xs).length:=Nat.mod_lt _ (by simp)
     simp at hi
     simp at hlt
     omega
   have:=hnil ids listed hm hs hr
   subst this
   simpa [wpOps] using hQ a w ok β st hk hrep
  | some i=>
   rw [hi] at hpw
   simp only [] at hpw ⊢
   obtain ⟨h1,h2,h3⟩:=(hready listed i).1 (List.mem_of_getElem? hi)
   have himem:=(hm i).2 ⟨h1,h2⟩
   obtain ⟨l1,l2,rfl⟩:=List.append_of_mem himem
   rw [wpOps_cons]
   obtain ⟨n1,n2,n3⟩:=List.nodup_append.1 hnd
   have hi1:i∉l1:=fun h=>n3 i h i (by simp) rfl
   have hi2:i∉l2:=(List.nodup_cons.1 n2).1
   obtain ⟨p1,p2,p3⟩:=List.pairwise_append.1 hpw
   have e0:∀ L:List Nat,(i::L).idxOf i=0:=fun L=>by simp
   have e1:∀ (L:List Nat) (x:Nat),x≠i→(i::L).idxOf x=L.idxOf x+1:=fun L x hx=>by
    have hb:(i == x)=false:=by simpa using fun e:i=x=>hx e.symm
    rw [List.idxOf_cons,hb]; rfl
   have hind:∀ x∈l1,fX (al.getD x default) (al.getD i default)=true:=fun x hx=>by
    obtain ⟨q1,q2⟩:=(hm x).1 (by simp [hx])
    rcases p3 x hx i (by simp) with h|h|h
    ·have hxL:=kE hT (L:=fun j=>j<ops.size∧listed.getD j false=true) (fun j hj k hk=>⟨by have:=hTp j hj.1 k hk; omega,hdc j hj.1 hj.2 k hk⟩) i h1 (fun k hk=>⟨by have:=hTp i h1 k hk; omega,h3 k hk⟩) x h
     exact absurd hxL.2 ((hgd listed x hs q1).1 q2)
    ·exact h
    ·rw [e0,e1 _ x (fun e=>hi1 (e▸hx))] at h
     omega
   have hsize:i<ops.toList.length:=by simpa using h1
   have hai:al[i]?=some (al.getD i default):=by
    rw [List.getD_eq_getElem?_getD,List.getElem?_eq_getElem (by omega)]; rfl
   have hoi:ops[i]?=some ops[i]:=Array.getElem?_eq_getElem h1
   have hcop:=hco i ops[i] _ (by simpa using hoi) hai
   have hrun:=HU hrep hind hk
   have hnext:=kH (next:=wpOps E.P ops Q (Region.linearise.go .any ops fuel (t / (Region.ready .any ops listed).length) (listed.setIfInBounds i true) [])) (Q:=Q) hcop hrep hrun (fun a' w' ok' β' st' k1 k2=>ih _ (l1++l2) (listed.setIfInBounds i true) st' a' w' ok' β' (by simp at hl ⊢; omega)
    (List.nodup_append.2 ⟨n1,(List.nodup_cons.1 n2).2,fun x hx y hy=>n3 x hx y (by simp [hy])⟩)
    (fun k=>by
     have hmk:=hm k
     by_cases hki:k=i
     ·subst hki
      have hn1:k∉l1++l2:=fun h=>by
       rcases List.mem_append.1 h with h|h
       ·exact hi1 h
       ·exact hi2 h
      have:k<listed.size:=by omega
      simp [hn1,this]
     ·have e1:(listed.setIfInBounds i true).getD k true=listed.getD k true:=by
       simp only [Array.getD_eq_getD_getElem?]
       rw [Array.getElem?_setIfInBounds_ne (fun e=>hki e.symm)]
      rw [e1,← hmk]
      simp [hki])
    (by simpa using hs)
    (fun j hj hjl k hkp=>by
     have e1:∀ q,q≠i→(listed.setIfInBounds i true).getD q false=listed.getD q false:=fun q hq=>by
      simp only [Array.getD_eq_getD_getElem?]
      rw [Array.getElem?_setIfInBounds_ne (fun e=>hq e.symm)]
     have e2:(listed.setIfInBounds i true).getD i false=true:=by
      have:i<listed.size:=by omega
      simp [Array.getD_eq_getD_getElem?,this]
     by_cases hki:k=i
     ·subst hki; exact e2
     ·rw [e1 k hki]
      by_cases hji:j=i
      ·subst hji; exact h3 k hkp
      ·rw [e1 j hji] at hjl
       exact hdc j hj hjl k hkp)
    (by
     have hmp:∀ {x y:Nat},x≠i→y≠i→_→_:=fun {x y} hx hy (h:x∈(eP ops).getD y []∨fX (al.getD x default) (al.getD y default)=true∨(i::Region.linearise.go .any ops fuel (t / (Region.ready .any ops listed).length) (listed.setIfInBounds i true) []).idxOf x≤(i::Region.linearise.go .any ops fuel (t / (Region.ready .any ops listed).length) (listed.setIfInBounds i true) []).idxOf y)=>
      (show x∈(eP ops).getD y []∨fX (al.getD x default) (al.getD y default)=true∨(Region.linearise.go .any ops fuel (t / (Region.ready .any ops listed).length) (listed.setIfInBounds i true) []).idxOf x≤(Region.linearise.go .any ops fuel (t / (Region.ready .any ops listed).length) (listed.setIfInBounds i true) []).idxOf y by
       rcases h with h|h|h
       ·exact .inl h
       ·exact .inr (.inl h)
       ·rw [e1 _ x hx,e1 _ y hy] at h
        exact .inr (.inr (by omega)))
     refine List.pairwise_append.2 ⟨p1.imp_of_mem fun hx hy h=>hmp (fun e=>hi1 (e▸hx)) (fun e=>hi1 (e▸hy)) h,(List.pairwise_cons.1 p2).2.imp_of_mem fun hx hy h=>hmp (fun e=>hi2 (e▸hx)) (fun e=>hi2 (e▸hy)) h,fun x hx y hy=>hmp (fun e=>hi1 (e▸hx)) (fun e=>hi2 (e▸hy)) (p3 x hx y (by simp [hy]))⟩) k2 k1)
   unfold wpOp
   rw [hoi]
   simp only
   split
   ·rename_i hw; rw [if_pos hw] at hnext; exact .inl hnext
   ·rename_i hw; rw [if_neg hw] at hnext; exact hnext
end Go.Ai
